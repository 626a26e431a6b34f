/- For ScanDeltas: contracts, and facts on lists and numbers, that it uses (part 4). -/
import Derived.Test.YtbgeceiddcokmaaScanDeltasc3
section
namespace Go.Proofs.Ytbgeceiddcokmaa.X
open Go.RowKit Go.Proofs.YtbgeceiddcokmaaW.PrintWords Go.Proofs.YtbgeceiddcokmaaW.PrintLast Go.Proofs.YtbgeceiddcokmaaW.PrintMore
attribute [local go_sem] max2_int min2_int max_two min_two max_three min_three max_four min_four
set_option linter.unusedVariables false
set_option linter.unusedSimpArgs false
mutual
def contangoref23_Check.l0:Nat → List (S91) → Int → Option (Int)
 | 0,_,_=>none
 | k + 1,x0,x3=>if x3 < (x0.length:Int) then (if x3 > 0 then (if 0 ≤ (wrap64 (x3 - 1)) then (if (wrap64 (x3 - 1)) < (x0.length:Int) then (if 0 ≤ x3 then ((contangoref10_Compare.f ((rd_T91 x0 (wrap64 (x3 - 1))).f0.f0) ((rd_T91 x0 (wrap64 (x3 - 1))).f0.f1) ((rd_T91 x0 (wrap64 (x3 - 1))).f0.f2) ((rd_T91 x0 (wrap64 (x3 - 1))).f0.f3) ((rd_T91 x0 x3).f0.f0) ((rd_T91 x0 x3).f0.f1) ((rd_T91 x0 x3).f0.f2) ((rd_T91 x0 x3).f0.f3)).bind fun t103=>(contangoref23_Check.j1 k x0 x3 (decide (t103 ≥ 0)))) else (none)) else (none)) else (none)) else (contangoref23_Check.j1 k x0 x3 false)) else (some 0)
def contangoref23_Check.j1:Nat → List (S91) → Int → Bool → Option (Int)
 | 0,_,_,_=>none
 | k + 1,x0,x3,x30=>if x30 = true then (some 19) else (if 0 ≤ x3 then (if x3 < (x0.length:Int) then (if 0 < (x0.length:Int) then ((contangoref23_one.f k ((rd_T91 x0 x3).f0.f0) ((rd_T91 x0 x3).f0.f1) ((rd_T91 x0 x3).f0.f2) ((rd_T91 x0 x3).f0.f3) ((rd_T91 x0 x3).f1) ((rd_T91 x0 x3).f2) (((rd_T91 x0 0).f1).length:Int)).bind fun t106=>(if t106 = 0 then (contangoref23_Check.l0 k x0 (wrap64 (x3 + 1))) else (some t106))) else (none)) else (none)) else (none))
end
def contangoref23_Check.f (k:Nat) (l0:List (S91)):Option (Int):=if (l0.length:Int) > 128 then (some 8) else (contangoref23_Check.l0 k l0 0)
def contangoref23_Check.T6:Bool × List (List Nat × List Nat):=(true,[([],[]),([0],[0]),([1],[1]),([2],[2]),([2],[2]),([4,2],[2,4]),([3,5,2],[2,3,5]),([6,2],[2,6]),([7,2],[2,7]),([2],[2]),([2],[2]),([9,10,2],[2,9,10]),([11,2],[2,11]),([12,2],[2,12]),([8,13,2,2],[2,8,13]),([14,2],[2,14]),([2,15],[2,15])])
def contangoref23_Check.B6:List Nat:=[0,1,3,7,7,23,63,127,255,7,7,1543,3591,7687,16383,32767,65535]
theorem contangoref23_Check.tab6:rtab .any (opsOf Try.f32 6) = contangoref23_Check.T6:=by kernel_rfl
theorem contangoref23_Check.bits6:waitsOk contangoref23_Check.T6.2 contangoref23_Check.B6 = true:=by kernel_rfl
def contangoref23_Check.T8:Bool × List (List Nat × List Nat):=(true,[([],[]),([],[]),([0,1],[0,1]),([2],[2]),([],[]),([4],[4]),([5],[5]),([6],[6]),([7],[7]),([3,8],[3,8]),([9,9,0,1,2,3,4,5,6,7,8,9],[9])])
def contangoref23_Check.B8:List Nat:=[0,0,3,7,0,16,48,112,240,511,1023]
theorem contangoref23_Check.tab8:rtab .any (opsOf Try.f32 8) = contangoref23_Check.T8:=by kernel_rfl
theorem contangoref23_Check.bits8:waitsOk contangoref23_Check.T8.2 contangoref23_Check.B8 = true:=by kernel_rfl
set_option maxHeartbeats 8000000 in
set_option maxRecDepth 100000 in
theorem contangoref23_Check.calls (k:Nat) (A0:Option Addr) (c0:Nat) (l0:List (S91)) (r:Int) (w:World) (hr0:Kd.C k91 w A0 l0.length l0) (hc0:l0.length ≤ c0) (h:contangoref23_Check.f k l0 = some r) :
  Calls Try.prog 32 #[.slice A0 l0.length c0] w fun e w'=>e = .returned (.int .i64 r) ∧ Below w.heap.size w w':=by
 have hu39:=Try.underlying39
 have hu91:=Try.underlying91
 have HR0:=Aside0.mk hr0
 have HC0:=Aside0.mk hc0
 clear hr0 hc0
 have HB:=Aside0.mk (Below.refl w.heap.size w)
 have H:(if (l0.length:Int) > 128 then (some 8) else (contangoref23_Check.l0 k l0 0)) = some r:=h
 clear h
 by_cases c2:(l0.length:Int) > 128
 ·rw [if_pos c2] at H
  have c2b0:decide (128 < (l0.length:Int)) = true:=decide_eq_true c2
  have c2b1:decide (128 < l0.length) = true:=decide_eq_true (by omega)
  clear c2
  obtain rfl:=Option.some.inj H
  go_enter Try.func32,Try.ntmps32
  go_wp2
  go_ret
  exact ⟨by first|rfl|(simp [errW_none,errW_some] <;> rfl)|(simp [*,errW_none,errW_some] <;> rfl),by repeat (first|(with_reducible first|exact HB.out|apply below_alloc|apply pw_below_drewN|apply below_drew1)|exact HB.out)⟩
 ·rw [if_neg c2] at H
  have c2b0:decide (128 < (l0.length:Int)) = false:=decide_eq_false c2
  have c2b1:decide (128 < l0.length) = false:=decide_eq_false (by omega)
  clear c2
  have H':=Aside0.mk H
  clear H
  go_enter Try.func32,Try.ntmps32
  go_wp2
  go_loopg [3] k (fun kq v3 w'=>∃ (x3_1:Int),v3 = .int .i64 x3_1 ∧ Aside0 (contangoref23_Check.l0 kq l0 x3_1 = some r) ∧ Aside0 (kq ≤ k) ∧ Aside0 (Below w.heap.size w w'))
  case atStart=>exact ⟨(0),(by first|rfl|(simp;done)|(simp [*];done)),H',⟨Nat.le_refl _⟩,⟨by repeat (first|(with_reducible first|exact HB.out|apply below_alloc|apply pw_below_drewN|apply below_drew1)|exact HB.out)⟩⟩
  case round =>
   clear H'
   try clear c2
   try clear c2b0
   try clear c2b1
   try clear p2
   obtain ⟨x3_1,rfl,HA,HK1,HB⟩:=hrel
   cases gk with
   | zero=>exact absurd HA.out (by simp [contangoref23_Check.l0])
   | succ k1 =>
    have H:=HA.out
    clear HA
    simp only [contangoref23_Check.l0] at H
    by_cases c3:x3_1 < (l0.length:Int)
    ·rw [if_pos c3] at H
     have c3b0:decide (x3_1 < (l0.length:Int)) = true:=decide_eq_true c3
     clear c3
     have HC4:=Aside0.mk H
     clear H
     go_upto_region 6 with (fail)
     go_cut [30] (fun v30 wc=>∃ (kq:Nat) (x30_3:Bool),v30 = .bool x30_3 ∧ Aside0 (contangoref23_Check.j1 kq l0 x3_1 x30_3 = some r) ∧ Aside0 (kq ≤ k1) ∧ Aside0 (Below w.heap.size w wc))
     case first =>
      have H:=HC4.out
      clear HC4
      by_cases c5:x3_1 > 0
      ·rw [if_pos c5] at H
       have c5b0:decide (0 < x3_1) = true:=decide_eq_true c5
       clear c5
       (first|rw [c5b0]|(simp only [i64_w,i32_w];rw [c5b0])|skip)
       obtain ⟨ji6,hji6⟩:∃ j_:Int,(wrap64 (x3_1 - 1)) = j_:=⟨_,rfl⟩
       replace H:(if 0 ≤ (ji6) then (if (ji6) < (l0.length:Int) then (if 0 ≤ x3_1 then ((contangoref10_Compare.f ((rd_T91 l0 (ji6)).f0.f0) ((rd_T91 l0 (ji6)).f0.f1) ((rd_T91 l0 (ji6)).f0.f2) ((rd_T91 l0 (ji6)).f0.f3) ((rd_T91 l0 x3_1).f0.f0) ((rd_T91 l0 x3_1).f0.f1) ((rd_T91 l0 x3_1).f0.f2) ((rd_T91 l0 x3_1).f0.f3)).bind fun t103=>(contangoref23_Check.j1 k1 l0 x3_1 (decide (t103 ≥ 0)))) else (none)) else (none)) else (none)) = some r:=by first|(rw [hji6] at H;exact H)|(simp only [hji6] at H ⊢;exact H)
       have hji6w:(IntKind.i64.wrap (x3_1 - 1)) = ji6:=(i64_w _).trans hji6
       by_cases c7:0 ≤ (ji6)
       ·rw [if_pos c7] at H
        have c7b0:decide (0 ≤ (ji6)) = true:=decide_eq_true c7
        clear c7
        by_cases c8:(ji6) < (l0.length:Int)
        ·rw [if_pos c8] at H
         have c8b0:decide ((ji6) < (l0.length:Int)) = true:=decide_eq_true c8
         clear c8
         by_cases c9:0 ≤ x3_1
         ·rw [if_pos c9] at H
          have c9b0:decide (0 ≤ x3_1) = true:=decide_eq_true c9
          clear c9
          replace H:=Option.bind_eq_some_iff.mp H
          obtain ⟨t103,A100,H⟩:=H
          replace H:(contangoref23_Check.j1 k1 l0 x3_1 (decide (t103 ≥ 0))) = some r:=H
          have A10:=Aside0.mk A100
          clear A100
          have H':=Aside0.mk H
          clear H
          try go_wp2
          have n0_:=Aside0.mk (below_drew1 HB.out)
          clear HB
          have HB:=n0_
          clear n0_
          have p101:0 ≤ ((ji6):Int):=of_decide_eq_true (by first|(with_reducible assumption)|assumption)
          have q101:(ji6) < (l0.length:Int):=of_decide_eq_true (by first|(with_reducible assumption)|assumption)
          obtain ⟨ad101,A101_4,c101_4,e101,hx101_0,hx101_1,hx101_2,hx101_3,hx101_4,hx101_5,hl101_4,hi101_4⟩:=at_T91 HR0.out (ji6) p101 q101
          have hw101_5:=hx101_5
          have hw101_4:=hx101_4
          have hw101_3:=hx101_3
          have hw101_2:=hx101_2
          have hw101_1:=hx101_1
          have hw101_0:=hx101_0
          cases e101
          replace hx101_0:=(HB.out.cell (World.block_lt_of_cell? w _ hx101_0)).trans hx101_0
          replace hx101_1:=(HB.out.cell (World.block_lt_of_cell? w _ hx101_1)).trans hx101_1
          replace hx101_2:=(HB.out.cell (World.block_lt_of_cell? w _ hx101_2)).trans hx101_2
          replace hx101_3:=(HB.out.cell (World.block_lt_of_cell? w _ hx101_3)).trans hx101_3
          replace hx101_4:=(HB.out.cell (World.block_lt_of_cell? w _ hx101_4)).trans hx101_4
          replace hx101_5:=(HB.out.cell (World.block_lt_of_cell? w _ hx101_5)).trans hx101_5
          have HR101_4:=Aside0.mk hi101_4
          have HC101_4:=Aside0.mk hl101_4
          clear hi101_4 hl101_4
          replace p101:=eq_true p101
          replace q101:=eq_true q101
          have p102:0 ≤ (x3_1:Int):=of_decide_eq_true (by first|(with_reducible assumption)|assumption)
          have q102:x3_1 < (l0.length:Int):=of_decide_eq_true (by first|(with_reducible assumption)|assumption)
          obtain ⟨ad102,A102_4,c102_4,e102,hx102_0,hx102_1,hx102_2,hx102_3,hx102_4,hx102_5,hl102_4,hi102_4⟩:=at_T91 HR0.out x3_1 p102 q102
          have hw102_5:=hx102_5
          have hw102_4:=hx102_4
          have hw102_3:=hx102_3
          have hw102_2:=hx102_2
          have hw102_1:=hx102_1
          have hw102_0:=hx102_0
          obtain rfl:ad101 = ad102:=(by injection e102)
          replace hx102_0:=(HB.out.cell (World.block_lt_of_cell? w _ hx102_0)).trans hx102_0
          replace hx102_1:=(HB.out.cell (World.block_lt_of_cell? w _ hx102_1)).trans hx102_1
          replace hx102_2:=(HB.out.cell (World.block_lt_of_cell? w _ hx102_2)).trans hx102_2
          replace hx102_3:=(HB.out.cell (World.block_lt_of_cell? w _ hx102_3)).trans hx102_3
          replace hx102_4:=(HB.out.cell (World.block_lt_of_cell? w _ hx102_4)).trans hx102_4
          replace hx102_5:=(HB.out.cell (World.block_lt_of_cell? w _ hx102_5)).trans hx102_5
          have HR102_4:=Aside0.mk hi102_4
          have HC102_4:=Aside0.mk hl102_4
          clear hi102_4 hl102_4
          replace p102:=eq_true p102
          replace q102:=eq_true q102
          refine start_ (n:=17) (S:=fun w'=>w'.cell? (ad101.add (((ji6)).toNat * 6)) = some (.string ((rd_T91 l0 (ji6)).f0.f0)) ∧ w'.cell? ⟨(ad101.add (((ji6)).toNat * 6)).block,(ad101.add (((ji6)).toNat * 6)).off + 1,none⟩ = some (.int .i64 ((rd_T91 l0 (ji6)).f0.f1)) ∧ w'.cell? ⟨(ad101.add (((ji6)).toNat * 6)).block,(ad101.add (((ji6)).toNat * 6)).off + 2,none⟩ = some (.int .i64 ((rd_T91 l0 (ji6)).f0.f2)) ∧ w'.cell? ⟨(ad101.add (((ji6)).toNat * 6)).block,(ad101.add (((ji6)).toNat * 6)).off + 3,none⟩ = some (.int .i64 ((rd_T91 l0 (ji6)).f0.f3)) ∧ w'.cell? ⟨(ad101.add (((ji6)).toNat * 6)).block,(ad101.add (((ji6)).toNat * 6)).off + 4,none⟩ = some (.slice A101_4 ((rd_T91 l0 (ji6)).f1).length c101_4) ∧ w'.cell? ⟨(ad101.add (((ji6)).toNat * 6)).block,(ad101.add (((ji6)).toNat * 6)).off + 5,none⟩ = some (.int .i64 ((rd_T91 l0 (ji6)).f2)) ∧ w'.cell? (ad101.add ((x3_1).toNat * 6)) = some (.string ((rd_T91 l0 x3_1).f0.f0)) ∧ w'.cell? ⟨(ad101.add ((x3_1).toNat * 6)).block,(ad101.add ((x3_1).toNat * 6)).off + 1,none⟩ = some (.int .i64 ((rd_T91 l0 x3_1).f0.f1)) ∧ w'.cell? ⟨(ad101.add ((x3_1).toNat * 6)).block,(ad101.add ((x3_1).toNat * 6)).off + 2,none⟩ = some (.int .i64 ((rd_T91 l0 x3_1).f0.f2)) ∧ w'.cell? ⟨(ad101.add ((x3_1).toNat * 6)).block,(ad101.add ((x3_1).toNat * 6)).off + 3,none⟩ = some (.int .i64 ((rd_T91 l0 x3_1).f0.f3)) ∧ w'.cell? ⟨(ad101.add ((x3_1).toNat * 6)).block,(ad101.add ((x3_1).toNat * 6)).off + 4,none⟩ = some (.slice A102_4 ((rd_T91 l0 x3_1).f1).length c102_4) ∧ w'.cell? ⟨(ad101.add ((x3_1).toNat * 6)).block,(ad101.add ((x3_1).toNat * 6)).off + 5,none⟩ = some (.int .i64 ((rd_T91 l0 x3_1).f2))) (ds:=[]) #[Z,Z,Z,Z,Z,Z,Z,Z,Z,Z,Z,Z,Z,Z,Z,Z,Z] (by kernel_rfl) rfl rfl ⟨((HB.out.cell (World.block_lt_of_cell? w _ hw101_0)).trans hw101_0),((HB.out.cell (World.block_lt_of_cell? w _ hw101_1)).trans hw101_1),((HB.out.cell (World.block_lt_of_cell? w _ hw101_2)).trans hw101_2),((HB.out.cell (World.block_lt_of_cell? w _ hw101_3)).trans hw101_3),((HB.out.cell (World.block_lt_of_cell? w _ hw101_4)).trans hw101_4),((HB.out.cell (World.block_lt_of_cell? w _ hw101_5)).trans hw101_5),((HB.out.cell (World.block_lt_of_cell? w _ hw102_0)).trans hw102_0),((HB.out.cell (World.block_lt_of_cell? w _ hw102_1)).trans hw102_1),((HB.out.cell (World.block_lt_of_cell? w _ hw102_2)).trans hw102_2),((HB.out.cell (World.block_lt_of_cell? w _ hw102_3)).trans hw102_3),((HB.out.cell (World.block_lt_of_cell? w _ hw102_4)).trans hw102_4),((HB.out.cell (World.block_lt_of_cell? w _ hw102_5)).trans hw102_5)⟩ (fun hHeld=>?_);refine with_tabW contangoref23_Check.tab6 contangoref23_Check.bits6 (fun HT_ HW_=>?_)
          generalize wr.drew = w11 at HB HR101_4 HR102_4 hx101_0 hx101_1 hx101_2 hx101_3 hx101_4 hx101_5 hx102_0 hx102_1 hx102_2 hx102_3 hx102_4 hx102_5 hHeld ⊢
          refine pure_ (i:=0) (N:=some 14) (v:=?_) (a':=?_) #[Y,Z,Z,Z,Z,Z,Z,Z,Z,Z,Z,Z,Z,Z,Z,Z,Z] rfl rfl (any_of HT_.out (by kernel_rfl)) (fun _ _ _ h=>h) (Or.inl ⟨by rfl,?_⟩) ?_ ?_
          rotate_left
          ·intro w'
           go_simp
           with_reducible rfl
          rotate_left
          ·simp only [Act.put,List.setIfInBounds_toArray,List.set_cons_zero,List.set_cons_succ,i64_w,i32_w]
           rfl
          refine pure_ (i:=1) (N:=some 15) (v:=?_) (a':=?_) #[Y,Y,Z,Z,Z,Z,Z,Z,Z,Z,Z,Z,Z,Z,Z,Z,Z] rfl rfl (any_of HT_.out (by kernel_rfl)) (fun _ _ _ h=>h) (Or.inl ⟨by rfl,?_⟩) ?_ ?_
          rotate_left
          ·intro w'
           go_simp
           with_reducible rfl
          rotate_left
          ·simp only [Act.put,List.setIfInBounds_toArray,List.set_cons_zero,List.set_cons_succ,i64_w,i32_w]
           rfl
          refine pure_ (i:=2) (N:=some 16) (v:=?_) (a':=?_) #[Y,Y,Y,Z,Z,Z,Z,Z,Z,Z,Z,Z,Z,Z,Z,Z,Z] rfl rfl (any_of HT_.out (by kernel_rfl)) (fun _ _ _ h=>h) (Or.inl ⟨by rfl,?_⟩) ?_ ?_
          rotate_left
          ·intro w'
           go_simp
           with_reducible rfl
          rotate_left
          ·simp only [Act.put,List.setIfInBounds_toArray,List.set_cons_zero,List.set_cons_succ,i64_w,i32_w]
           rfl
          refine pure_ (i:=3) (N:=some 17) (v:=?_) (a':=?_) #[Y,Y,Y,Y,Z,Z,Z,Z,Z,Z,Z,Z,Z,Z,Z,Z,Z] rfl rfl (any_of HT_.out (by kernel_rfl)) (fun _ _ _ h=>h) (Or.inl ⟨by rfl,?_⟩) ?_ ?_
          rotate_left
          ·intro w'
           go_simp
           with_reducible rfl
          rotate_left
          ·simp only [Act.put,List.setIfInBounds_toArray,List.set_cons_zero,List.set_cons_succ,i64_w,i32_w]
           rfl
          refine pure_ (i:=4) (N:=some 18) (v:=?_) (a':=?_) #[Y,Y,Y,Y,Y,Z,Z,Z,Z,Z,Z,Z,Z,Z,Z,Z,Z] rfl rfl (any_of HT_.out (by kernel_rfl)) (fun _ _ _ h=>h) (Or.inl ⟨by rfl,?_⟩) ?_ ?_
          rotate_left
          ·intro w'
           go_simp
           with_reducible rfl
          rotate_left
          ·simp only [Act.put,List.setIfInBounds_toArray,List.set_cons_zero,List.set_cons_succ,i64_w,i32_w]
           rfl
          refine pure_ (i:=5) (N:=some 19) (v:=?_) (a':=?_) #[Y,Y,Y,Y,Y,Y,Z,Z,Z,Z,Z,Z,Z,Z,Z,Z,Z] rfl rfl (any_of HT_.out (by kernel_rfl)) (fun _ _ _ h=>h) (Or.inl ⟨by rfl,?_⟩) ?_ ?_
          rotate_left
          ·intro w'
           go_simp
           with_reducible rfl
          rotate_left
          ·simp only [Act.put,List.setIfInBounds_toArray,List.set_cons_zero,List.set_cons_succ,i64_w,i32_w]
           rfl
          refine pure_ (i:=6) (N:=some 20) (v:=?_) (a':=?_) #[Y,Y,Y,Y,Y,Y,Y,Z,Z,Z,Z,Z,Z,Z,Z,Z,Z] rfl rfl (any_of HT_.out (by kernel_rfl)) (fun _ _ _ h=>h) (Or.inl ⟨by rfl,?_⟩) ?_ ?_
          rotate_left
          ·intro w'
           go_simp
           with_reducible rfl
          rotate_left
          ·simp only [Act.put,List.setIfInBounds_toArray,List.set_cons_zero,List.set_cons_succ,i64_w,i32_w]
           rfl
          refine pure_ (i:=7) (N:=some 21) (v:=?_) (a':=?_) #[Y,Y,Y,Y,Y,Y,Y,Y,Z,Z,Z,Z,Z,Z,Z,Z,Z] rfl rfl (any_of HT_.out (by kernel_rfl)) (fun _ _ _ h=>h) (Or.inl ⟨by rfl,?_⟩) ?_ ?_
          rotate_left
          ·intro w'
           go_simp
           with_reducible rfl
          rotate_left
          ·simp only [Act.put,List.setIfInBounds_toArray,List.set_cons_zero,List.set_cons_succ,i64_w,i32_w]
           rfl
          refine pure_ (i:=9) (N:=some 23) (v:=?_) (a':=?_) #[Y,Y,Y,Y,Y,Y,Y,Y,Z,Y,Z,Z,Z,Z,Z,Z,Z] rfl rfl (any_of HT_.out (by kernel_rfl)) (fun _ _ _ h=>h) (Or.inl ⟨by rfl,?_⟩) ?_ ?_
          rotate_left
          ·intro w'
           go_simp
           with_reducible rfl
          rotate_left
          ·simp only [Act.put,List.setIfInBounds_toArray,List.set_cons_zero,List.set_cons_succ,i64_w,i32_w]
           rfl
          refine pure_ (i:=10) (N:=some 24) (v:=?_) (a':=?_) #[Y,Y,Y,Y,Y,Y,Y,Y,Z,Y,Y,Z,Z,Z,Z,Z,Z] rfl rfl (any_of HT_.out (by kernel_rfl)) (fun _ _ _ h=>h) (Or.inl ⟨by rfl,?_⟩) ?_ ?_
          rotate_left
          ·intro w'
           go_simp
           with_reducible rfl
          rotate_left
          ·simp only [Act.put,List.setIfInBounds_toArray,List.set_cons_zero,List.set_cons_succ,i64_w,i32_w]
           rfl
          refine pure_ (i:=11) (N:=some 25) (v:=?_) (a':=?_) #[Y,Y,Y,Y,Y,Y,Y,Y,Z,Y,Y,Y,Z,Z,Z,Z,Z] rfl rfl (any_of HT_.out (by kernel_rfl)) (fun _ _ _ h=>h) (Or.inl ⟨by rfl,?_⟩) ?_ ?_
          rotate_left
          ·intro w'
           go_simp
           with_reducible rfl
          rotate_left
          ·simp only [Act.put,List.setIfInBounds_toArray,List.set_cons_zero,List.set_cons_succ,i64_w,i32_w]
           rfl
          refine pure_ (i:=12) (N:=some 26) (v:=?_) (a':=?_) #[Y,Y,Y,Y,Y,Y,Y,Y,Z,Y,Y,Y,Y,Z,Z,Z,Z] rfl rfl (any_of HT_.out (by kernel_rfl)) (fun _ _ _ h=>h) (Or.inl ⟨by rfl,?_⟩) ?_ ?_
          rotate_left
          ·intro w'
           go_simp
           with_reducible rfl
          rotate_left
          ·simp only [Act.put,List.setIfInBounds_toArray,List.set_cons_zero,List.set_cons_succ,i64_w,i32_w]
           rfl
          refine take_ (i:=8) (N:=some 22) (v:=?_) (a':=?_) #[Y,Y,Y,Y,Y,Y,Y,Y,Y,Y,Y,Y,Y,Z,Z,Z,Z] rfl rfl (take_ofW HT_.out HW_.out (by kernel_rfl)) (fun _ _ _ h=>h) (Or.inl ⟨by rfl,?_⟩) hHeld ?_ ?_
          rotate_left
          ·rintro w' ⟨s0,s1,s2,s3,s4,s5,s6,s7,s8,s9,s10,s11⟩
           go_simp
           with_reducible rfl
          rotate_left
          ·simp only [Act.put,List.setIfInBounds_toArray,List.set_cons_zero,List.set_cons_succ,i64_w,i32_w]
           rfl
          refine take_ (i:=13) (N:=some 27) (v:=?_) (a':=?_) #[Y,Y,Y,Y,Y,Y,Y,Y,Y,Y,Y,Y,Y,Y,Z,Z,Z] rfl rfl (take_ofW HT_.out HW_.out (by kernel_rfl)) (fun _ _ _ h=>h) (Or.inl ⟨by rfl,?_⟩) hHeld ?_ ?_
          rotate_left
          ·rintro w' ⟨s0,s1,s2,s3,s4,s5,s6,s7,s8,s9,s10,s11⟩
           go_simp
           with_reducible rfl
          rotate_left
          ·simp only [Act.put,List.setIfInBounds_toArray,List.set_cons_zero,List.set_cons_succ,i64_w,i32_w]
           rfl
          refine one_ (i:=14) (N:=some 28) #[Y,Y,Y,Y,Y,Y,Y,Y,Y,Y,Y,Y,Y,Y,Y,Z,Z] rfl rfl (one_of HT_.out (by kernel_rfl)) (by decide) (fun K hK=>?_)
          refine goes_ Try.func63 (by kernel_rfl) rfl #[.agg #[.string ((rd_T91 l0 (ji6)).f0.f0),.int .i64 ((rd_T91 l0 (ji6)).f0.f1),.int .i64 ((rd_T91 l0 (ji6)).f0.f2),.int .i64 ((rd_T91 l0 (ji6)).f0.f3)],.agg #[.string ((rd_T91 l0 x3_1).f0.f0),.int .i64 ((rd_T91 l0 x3_1).f0.f1),.int .i64 ((rd_T91 l0 x3_1).f0.f2),.int .i64 ((rd_T91 l0 x3_1).f0.f3)]] (by rfl) rfl rfl (by (try simp only [List.map_toArray,List.map_cons,List.map_nil]);first|done|(simp only [hji6];rfl)|rfl|(simp only [List.length_drop,List.length_take];rfl)) ?_
          with_reducible refine (contangoref10_Compare.calls ((rd_T91 l0 (ji6)).f0.f0) ((rd_T91 l0 (ji6)).f0.f1) ((rd_T91 l0 (ji6)).f0.f2) ((rd_T91 l0 (ji6)).f0.f3) ((rd_T91 l0 x3_1).f0.f0) ((rd_T91 l0 x3_1).f0.f1) ((rd_T91 l0 x3_1).f0.f2) ((rd_T91 l0 x3_1).f0.f3) t103 _ A10.out).mono ?_
          rintro e w12 ⟨rfl,hb⟩
          refine ⟨_,rfl,?_⟩
          have n0_:=Aside0.mk (below_step (by repeat (first|(with_reducible first|exact HB.out|apply below_alloc|apply pw_below_drewN|apply below_drew1)|exact HB.out)) hb)
          clear HB
          have HB:=n0_
          clear n0_
          (try clear hb)
          (try clear hb2)
          (try clear hk)
          (try clear hi)
          refine hK.out _ _ ⟨((HB.out.cell (World.block_lt_of_cell? w _ hw101_0)).trans hw101_0),((HB.out.cell (World.block_lt_of_cell? w _ hw101_1)).trans hw101_1),((HB.out.cell (World.block_lt_of_cell? w _ hw101_2)).trans hw101_2),((HB.out.cell (World.block_lt_of_cell? w _ hw101_3)).trans hw101_3),((HB.out.cell (World.block_lt_of_cell? w _ hw101_4)).trans hw101_4),((HB.out.cell (World.block_lt_of_cell? w _ hw101_5)).trans hw101_5),((HB.out.cell (World.block_lt_of_cell? w _ hw102_0)).trans hw102_0),((HB.out.cell (World.block_lt_of_cell? w _ hw102_1)).trans hw102_1),((HB.out.cell (World.block_lt_of_cell? w _ hw102_2)).trans hw102_2),((HB.out.cell (World.block_lt_of_cell? w _ hw102_3)).trans hw102_3),((HB.out.cell (World.block_lt_of_cell? w _ hw102_4)).trans hw102_4),((HB.out.cell (World.block_lt_of_cell? w _ hw102_5)).trans hw102_5)⟩ (fun hHeld=>?_)
          clear hK K
          refine norm_ (a':=?_) ?_ ?_
          rotate_left
          ·show Act.put _ (some 28) _ = _
           simp only [Act.put,List.setIfInBounds_toArray,List.set_cons_zero,List.set_cons_succ,i64_w,i32_w]
           rfl
          refine pure_ (i:=15) (N:=some 29) (v:=?_) (a':=?_) #[Y,Y,Y,Y,Y,Y,Y,Y,Y,Y,Y,Y,Y,Y,Y,Y,Z] rfl rfl (any_of HT_.out (by kernel_rfl)) (fun _ _ _ h=>h) (Or.inl ⟨by rfl,?_⟩) ?_ ?_
          rotate_left
          ·intro w'
           go_simp
           with_reducible rfl
          rotate_left
          ·simp only [Act.put,List.setIfInBounds_toArray,List.set_cons_zero,List.set_cons_succ,i64_w,i32_w]
           rfl
          refine pure_ (i:=16) (N:=some 30) (v:=?_) (a':=?_) #[Y,Y,Y,Y,Y,Y,Y,Y,Y,Y,Y,Y,Y,Y,Y,Y,Y] rfl rfl (any_of HT_.out (by kernel_rfl)) (fun _ _ _ h=>h) (Or.inl ⟨by rfl,?_⟩) ?_ ?_
          rotate_left
          ·intro w'
           go_simp
           with_reducible rfl
          rotate_left
          ·simp only [Act.put,List.setIfInBounds_toArray,List.set_cons_zero,List.set_cons_succ,i64_w,i32_w]
           rfl
          refine done_ (done_of HT_.out (by kernel_rfl)) ?_
          try go_wp2
          go_meet
          case rel=>exact ⟨_,(decide (t103 ≥ 0)),(by first|rfl|(simp;done)|(simp [*];done)),H',⟨by have:=HK1.out;first|omega|exact Nat.le_refl _⟩,⟨by repeat (first|(with_reducible first|exact HB.out|apply below_alloc|apply pw_below_drewN|apply below_drew1)|exact HB.out)⟩⟩
         ·rw [if_neg c9] at H
          exact absurd H (by simp)
        ·rw [if_neg c8] at H
         exact absurd H (by simp)
       ·rw [if_neg c7] at H
        exact absurd H (by simp)
      ·rw [if_neg c5] at H
       have c5b0:decide (0 < x3_1) = false:=decide_eq_false c5
       clear c5
       (first|rw [c5b0]|(simp only [i64_w,i32_w];rw [c5b0])|skip)
       have H':=Aside0.mk H
       clear H
       try go_wp2
       have n0_:=Aside0.mk (below_drew1 HB.out)
       clear HB
       have HB:=n0_
       clear n0_
       refine start_ (n:=17) (S:=fun w'=>True) (ds:=[]) #[Z,Z,Z,Z,Z,Z,Z,Z,Z,Z,Z,Z,Z,Z,Z,Z,Z] (by kernel_rfl) rfl rfl trivial (fun hHeld=>?_);refine with_tabW contangoref23_Check.tab6 contangoref23_Check.bits6 (fun HT_ HW_=>?_)
       generalize wr.drew = w13 at HB hHeld ⊢
       refine pure_ (i:=0) (N:=some 14) (v:=?_) (a':=?_) #[Y,Z,Z,Z,Z,Z,Z,Z,Z,Z,Z,Z,Z,Z,Z,Z,Z] rfl rfl (any_of HT_.out (by kernel_rfl)) (fun _ _ _ h=>h) (Or.inl ⟨by rfl,?_⟩) ?_ ?_
       rotate_left
       ·intro w'
        go_simp
        with_reducible rfl
       rotate_left
       ·simp only [Act.put,List.setIfInBounds_toArray,List.set_cons_zero,List.set_cons_succ,i64_w,i32_w]
        rfl
       refine pure_ (i:=1) (N:=some 15) (v:=?_) (a':=?_) #[Y,Y,Z,Z,Z,Z,Z,Z,Z,Z,Z,Z,Z,Z,Z,Z,Z] rfl rfl (any_of HT_.out (by kernel_rfl)) (fun _ _ _ h=>h) (Or.inl ⟨by rfl,?_⟩) ?_ ?_
       rotate_left
       ·intro w'
        go_simp
        with_reducible rfl
       rotate_left
       ·simp only [Act.put,List.setIfInBounds_toArray,List.set_cons_zero,List.set_cons_succ,i64_w,i32_w]
        rfl
       refine pure_ (i:=2) (N:=some 16) (v:=?_) (a':=?_) #[Y,Y,Y,Z,Z,Z,Z,Z,Z,Z,Z,Z,Z,Z,Z,Z,Z] rfl rfl (any_of HT_.out (by kernel_rfl)) (fun _ _ _ h=>h) (Or.inl ⟨by rfl,?_⟩) ?_ ?_
       rotate_left
       ·intro w'
        go_simp
        with_reducible rfl
       rotate_left
       ·simp only [Act.put,List.setIfInBounds_toArray,List.set_cons_zero,List.set_cons_succ,i64_w,i32_w]
        rfl
       refine pure_ (i:=3) (N:=some 17) (v:=undef) (a':=?_) #[Y,Y,Y,Y,Z,Z,Z,Z,Z,Z,Z,Z,Z,Z,Z,Z,Z] rfl rfl (any_of HT_.out (by kernel_rfl)) (fun _ _ _ h=>h) (Or.inr ⟨by rfl,rfl⟩) ?_ ?_
       rotate_left
       ·simp only [Act.put,List.setIfInBounds_toArray,List.set_cons_zero,List.set_cons_succ,i64_w,i32_w]
        rfl
       refine pure_ (i:=4) (N:=some 18) (v:=undef) (a':=?_) #[Y,Y,Y,Y,Y,Z,Z,Z,Z,Z,Z,Z,Z,Z,Z,Z,Z] rfl rfl (any_of HT_.out (by kernel_rfl)) (fun _ _ _ h=>h) (Or.inr ⟨by rfl,rfl⟩) ?_ ?_
       rotate_left
       ·simp only [Act.put,List.setIfInBounds_toArray,List.set_cons_zero,List.set_cons_succ,i64_w,i32_w]
        rfl
       refine pure_ (i:=5) (N:=some 19) (v:=undef) (a':=?_) #[Y,Y,Y,Y,Y,Y,Z,Z,Z,Z,Z,Z,Z,Z,Z,Z,Z] rfl rfl (any_of HT_.out (by kernel_rfl)) (fun _ _ _ h=>h) (Or.inr ⟨by rfl,rfl⟩) ?_ ?_
       rotate_left
       ·simp only [Act.put,List.setIfInBounds_toArray,List.set_cons_zero,List.set_cons_succ,i64_w,i32_w]
        rfl
       refine pure_ (i:=6) (N:=some 20) (v:=undef) (a':=?_) #[Y,Y,Y,Y,Y,Y,Y,Z,Z,Z,Z,Z,Z,Z,Z,Z,Z] rfl rfl (any_of HT_.out (by kernel_rfl)) (fun _ _ _ h=>h) (Or.inr ⟨by rfl,rfl⟩) ?_ ?_
       rotate_left
       ·simp only [Act.put,List.setIfInBounds_toArray,List.set_cons_zero,List.set_cons_succ,i64_w,i32_w]
        rfl
       refine pure_ (i:=7) (N:=some 21) (v:=undef) (a':=?_) #[Y,Y,Y,Y,Y,Y,Y,Y,Z,Z,Z,Z,Z,Z,Z,Z,Z] rfl rfl (any_of HT_.out (by kernel_rfl)) (fun _ _ _ h=>h) (Or.inr ⟨by rfl,rfl⟩) ?_ ?_
       rotate_left
       ·simp only [Act.put,List.setIfInBounds_toArray,List.set_cons_zero,List.set_cons_succ,i64_w,i32_w]
        rfl
       refine pure_ (i:=8) (N:=some 22) (v:=undef) (a':=?_) #[Y,Y,Y,Y,Y,Y,Y,Y,Y,Z,Z,Z,Z,Z,Z,Z,Z] rfl rfl (any_of HT_.out (by kernel_rfl)) (fun _ _ _ h=>h) (Or.inr ⟨by rfl,rfl⟩) ?_ ?_
       rotate_left
       ·simp only [Act.put,List.setIfInBounds_toArray,List.set_cons_zero,List.set_cons_succ,i64_w,i32_w]
        rfl
       refine pure_ (i:=9) (N:=some 23) (v:=undef) (a':=?_) #[Y,Y,Y,Y,Y,Y,Y,Y,Y,Y,Z,Z,Z,Z,Z,Z,Z] rfl rfl (any_of HT_.out (by kernel_rfl)) (fun _ _ _ h=>h) (Or.inr ⟨by rfl,rfl⟩) ?_ ?_
       rotate_left
       ·simp only [Act.put,List.setIfInBounds_toArray,List.set_cons_zero,List.set_cons_succ,i64_w,i32_w]
        rfl
       refine pure_ (i:=10) (N:=some 24) (v:=undef) (a':=?_) #[Y,Y,Y,Y,Y,Y,Y,Y,Y,Y,Y,Z,Z,Z,Z,Z,Z] rfl rfl (any_of HT_.out (by kernel_rfl)) (fun _ _ _ h=>h) (Or.inr ⟨by rfl,rfl⟩) ?_ ?_
       rotate_left
       ·simp only [Act.put,List.setIfInBounds_toArray,List.set_cons_zero,List.set_cons_succ,i64_w,i32_w]
        rfl
       refine pure_ (i:=11) (N:=some 25) (v:=undef) (a':=?_) #[Y,Y,Y,Y,Y,Y,Y,Y,Y,Y,Y,Y,Z,Z,Z,Z,Z] rfl rfl (any_of HT_.out (by kernel_rfl)) (fun _ _ _ h=>h) (Or.inr ⟨by rfl,rfl⟩) ?_ ?_
       rotate_left
       ·simp only [Act.put,List.setIfInBounds_toArray,List.set_cons_zero,List.set_cons_succ,i64_w,i32_w]
        rfl
       refine pure_ (i:=12) (N:=some 26) (v:=undef) (a':=?_) #[Y,Y,Y,Y,Y,Y,Y,Y,Y,Y,Y,Y,Y,Z,Z,Z,Z] rfl rfl (any_of HT_.out (by kernel_rfl)) (fun _ _ _ h=>h) (Or.inr ⟨by rfl,rfl⟩) ?_ ?_
       rotate_left
       ·simp only [Act.put,List.setIfInBounds_toArray,List.set_cons_zero,List.set_cons_succ,i64_w,i32_w]
        rfl
       refine pure_ (i:=13) (N:=some 27) (v:=undef) (a':=?_) #[Y,Y,Y,Y,Y,Y,Y,Y,Y,Y,Y,Y,Y,Y,Z,Z,Z] rfl rfl (any_of HT_.out (by kernel_rfl)) (fun _ _ _ h=>h) (Or.inr ⟨by rfl,rfl⟩) ?_ ?_
       rotate_left
       ·simp only [Act.put,List.setIfInBounds_toArray,List.set_cons_zero,List.set_cons_succ,i64_w,i32_w]
        rfl
       refine pure_ (i:=14) (N:=some 28) (v:=undef) (a':=?_) #[Y,Y,Y,Y,Y,Y,Y,Y,Y,Y,Y,Y,Y,Y,Y,Z,Z] rfl rfl (any_of HT_.out (by kernel_rfl)) (fun _ _ _ h=>h) (Or.inr ⟨by rfl,rfl⟩) ?_ ?_
       rotate_left
       ·simp only [Act.put,List.setIfInBounds_toArray,List.set_cons_zero,List.set_cons_succ,i64_w,i32_w]
        rfl
       refine pure_ (i:=15) (N:=some 29) (v:=undef) (a':=?_) #[Y,Y,Y,Y,Y,Y,Y,Y,Y,Y,Y,Y,Y,Y,Y,Y,Z] rfl rfl (any_of HT_.out (by kernel_rfl)) (fun _ _ _ h=>h) (Or.inr ⟨by rfl,rfl⟩) ?_ ?_
       rotate_left
       ·simp only [Act.put,List.setIfInBounds_toArray,List.set_cons_zero,List.set_cons_succ,i64_w,i32_w]
        rfl
       refine pure_ (i:=16) (N:=some 30) (v:=?_) (a':=?_) #[Y,Y,Y,Y,Y,Y,Y,Y,Y,Y,Y,Y,Y,Y,Y,Y,Y] rfl rfl (any_of HT_.out (by kernel_rfl)) (fun _ _ _ h=>h) (Or.inl ⟨by rfl,?_⟩) ?_ ?_
       rotate_left
       ·intro w'
        go_simp
        with_reducible rfl
       rotate_left
       ·simp only [Act.put,List.setIfInBounds_toArray,List.set_cons_zero,List.set_cons_succ,i64_w,i32_w]
        rfl
       refine done_ (done_of HT_.out (by kernel_rfl)) ?_
       try go_wp2
       go_meet
       case rel=>exact ⟨_,(false),(by first|rfl|(simp;done)|(simp [*];done)),H',⟨by have:=HK1.out;first|omega|exact Nat.le_refl _⟩,⟨by repeat (first|(with_reducible first|exact HB.out|apply below_alloc|apply pw_below_drewN|apply below_drew1)|exact HB.out)⟩⟩
     case rest =>
      clear HC4
      try clear c1
      try clear p1
      try clear q1
      try clear hx1
      try clear c2
      try clear c2b0
      try clear c2b1
      try clear p2
      try clear c3
      try clear c3b0
      try clear c5
      try clear c5b0
      try clear c6
      try clear p6
      try clear c7
      try clear c7b0
      try clear c8
      try clear c8b0
      try clear c9
      try clear c9b0
      try clear c10
      try clear p10
      try clear q10
      try clear hx10
      try clear hx101_0
      try clear hx101_1
      try clear hx101_2
      try clear hx101_3
      try clear hx101_4
      try clear hx101_5
      try clear hx102_0
      try clear hx102_1
      try clear hx102_2
      try clear hx102_3
      try clear hx102_4
      try clear hx102_5
      try clear p101
      try clear p102
      try clear p2
      try clear q101
      try clear q102
      obtain ⟨kq,x30_3,rfl,HA,HJ3,HB⟩:=hcut
      cases kq with
      | zero=>exact absurd HA.out (by simp [contangoref23_Check.j1])
      | succ kj3 =>
       have H:=HA.out
       clear HA
       simp only [contangoref23_Check.j1] at H
       by_cases c14:x30_3 = true
       ·subst c14
        have H1:(some 19) = some r:=by rw [if_pos rfl] at H;exact H
        clear H
        have H:=H1
        clear H1
        obtain rfl:=Option.some.inj H
        go_wp2
        go_ret
        exact ⟨by first|rfl|(simp [errW_none,errW_some] <;> rfl)|(simp [*,errW_none,errW_some] <;> rfl),by repeat (first|(with_reducible first|exact HB.out|apply below_alloc|apply pw_below_drewN|apply below_drew1)|exact HB.out)⟩
       ·replace c14:=Bool.eq_false_iff.mpr c14
        subst c14
        have H1:(if 0 ≤ x3_1 then (if x3_1 < (l0.length:Int) then (if 0 < (l0.length:Int) then ((contangoref23_one.f kj3 ((rd_T91 l0 x3_1).f0.f0) ((rd_T91 l0 x3_1).f0.f1) ((rd_T91 l0 x3_1).f0.f2) ((rd_T91 l0 x3_1).f0.f3) ((rd_T91 l0 x3_1).f1) ((rd_T91 l0 x3_1).f2) (((rd_T91 l0 0).f1).length:Int)).bind fun t106=>(if t106 = 0 then (contangoref23_Check.l0 kj3 l0 (wrap64 (x3_1 + 1))) else (some t106))) else (none)) else (none)) else (none)) = some r:=by rw [if_neg (show ¬ (false = true) by decide)] at H;exact H
        clear H
        have H:=H1
        clear H1
        by_cases c15:0 ≤ x3_1
        ·rw [if_pos c15] at H
         have c15b0:decide (0 ≤ x3_1) = true:=decide_eq_true c15
         clear c15
         by_cases c16:x3_1 < (l0.length:Int)
         ·rw [if_pos c16] at H
          have c16b0:decide (x3_1 < (l0.length:Int)) = true:=decide_eq_true c16
          clear c16
          by_cases c17:0 < (l0.length:Int)
          ·rw [if_pos c17] at H
           have c17b0:decide (0 < (l0.length:Int)) = true:=decide_eq_true c17
           have c17b1:decide (0 < l0.length) = true:=decide_eq_true (by omega)
           clear c17
           replace H:=Option.bind_eq_some_iff.mp H
           obtain ⟨t106,A180,H⟩:=H
           replace H:(if t106 = 0 then (contangoref23_Check.l0 kj3 l0 (wrap64 (x3_1 + 1))) else (some t106)) = some r:=H
           have A18:=Aside0.mk A180
           clear A180
           by_cases c19:t106 = 0
           ·rw [if_pos c19] at H
            have c19b0:(t106 == 0) = true:=beq_iff_eq.mpr c19
            have c19b1:(t106 != 0) = false:=bne_eq_false_iff_eq.mpr c19
            clear c19
            have H':=Aside0.mk H
            clear H
            try go_wp2
            have n0_:=Aside0.mk (below_drew1 HB.out)
            clear HB
            have HB:=n0_
            clear n0_
            have p104:0 ≤ (x3_1:Int):=of_decide_eq_true (by first|(with_reducible assumption)|assumption)
            have q104:x3_1 < (l0.length:Int):=of_decide_eq_true (by first|(with_reducible assumption)|assumption)
            obtain ⟨ad104,A104_4,c104_4,e104,hx104_0,hx104_1,hx104_2,hx104_3,hx104_4,hx104_5,hl104_4,hi104_4⟩:=at_T91 HR0.out x3_1 p104 q104
            have hw104_5:=hx104_5
            have hw104_4:=hx104_4
            have hw104_3:=hx104_3
            have hw104_2:=hx104_2
            have hw104_1:=hx104_1
            have hw104_0:=hx104_0
            cases e104
            replace hx104_0:=(HB.out.cell (World.block_lt_of_cell? w _ hx104_0)).trans hx104_0
            replace hx104_1:=(HB.out.cell (World.block_lt_of_cell? w _ hx104_1)).trans hx104_1
            replace hx104_2:=(HB.out.cell (World.block_lt_of_cell? w _ hx104_2)).trans hx104_2
            replace hx104_3:=(HB.out.cell (World.block_lt_of_cell? w _ hx104_3)).trans hx104_3
            replace hx104_4:=(HB.out.cell (World.block_lt_of_cell? w _ hx104_4)).trans hx104_4
            replace hx104_5:=(HB.out.cell (World.block_lt_of_cell? w _ hx104_5)).trans hx104_5
            have HR104_4:=Aside0.mk hi104_4
            have HC104_4:=Aside0.mk hl104_4
            clear hi104_4 hl104_4
            replace p104:=eq_true p104
            replace q104:=eq_true q104
            have p105:0 ≤ (0:Int):=(by omega)
            have q105:0 < (l0.length:Int):=of_decide_eq_true (by first|(with_reducible assumption)|assumption)
            obtain ⟨ad105,A105_4,c105_4,e105,hx105_0,hx105_1,hx105_2,hx105_3,hx105_4,hx105_5,hl105_4,hi105_4⟩:=at_T91 HR0.out 0 p105 q105
            have hw105_5:=hx105_5
            (try rw [show ((0:Int)).toNat = 0 from rfl] at hw105_5)
            (try rw [show 0 * 6 = 0 from rfl] at hw105_5)
            (try rw [Addr.add_zero'] at hw105_5)
            have hw105_4:=hx105_4
            (try rw [show ((0:Int)).toNat = 0 from rfl] at hw105_4)
            (try rw [show 0 * 6 = 0 from rfl] at hw105_4)
            (try rw [Addr.add_zero'] at hw105_4)
            have hw105_3:=hx105_3
            (try rw [show ((0:Int)).toNat = 0 from rfl] at hw105_3)
            (try rw [show 0 * 6 = 0 from rfl] at hw105_3)
            (try rw [Addr.add_zero'] at hw105_3)
            have hw105_2:=hx105_2
            (try rw [show ((0:Int)).toNat = 0 from rfl] at hw105_2)
            (try rw [show 0 * 6 = 0 from rfl] at hw105_2)
            (try rw [Addr.add_zero'] at hw105_2)
            have hw105_1:=hx105_1
            (try rw [show ((0:Int)).toNat = 0 from rfl] at hw105_1)
            (try rw [show 0 * 6 = 0 from rfl] at hw105_1)
            (try rw [Addr.add_zero'] at hw105_1)
            have hw105_0:=hx105_0
            (try rw [show ((0:Int)).toNat = 0 from rfl] at hw105_0)
            (try rw [show 0 * 6 = 0 from rfl] at hw105_0)
            (try rw [Addr.add_zero'] at hw105_0)
            obtain rfl:ad104 = ad105:=(by injection e105)
            have qi105:(0 < l0.length) = True:=eq_true (by omega)
            (try rw [show ((0:Int)).toNat = 0 from rfl] at hx105_0)
            (try rw [show 0 * 6 = 0 from rfl] at hx105_0)
            (try rw [Addr.add_zero'] at hx105_0)
            (try rw [show ((0:Int)).toNat = 0 from rfl] at hx105_1)
            (try rw [show 0 * 6 = 0 from rfl] at hx105_1)
            (try rw [Addr.add_zero'] at hx105_1)
            (try rw [show ((0:Int)).toNat = 0 from rfl] at hx105_2)
            (try rw [show 0 * 6 = 0 from rfl] at hx105_2)
            (try rw [Addr.add_zero'] at hx105_2)
            (try rw [show ((0:Int)).toNat = 0 from rfl] at hx105_3)
            (try rw [show 0 * 6 = 0 from rfl] at hx105_3)
            (try rw [Addr.add_zero'] at hx105_3)
            (try rw [show ((0:Int)).toNat = 0 from rfl] at hx105_4)
            (try rw [show 0 * 6 = 0 from rfl] at hx105_4)
            (try rw [Addr.add_zero'] at hx105_4)
            (try rw [show ((0:Int)).toNat = 0 from rfl] at hx105_5)
            (try rw [show 0 * 6 = 0 from rfl] at hx105_5)
            (try rw [Addr.add_zero'] at hx105_5)
            replace hx105_0:=(HB.out.cell (World.block_lt_of_cell? w _ hx105_0)).trans hx105_0
            replace hx105_1:=(HB.out.cell (World.block_lt_of_cell? w _ hx105_1)).trans hx105_1
            replace hx105_2:=(HB.out.cell (World.block_lt_of_cell? w _ hx105_2)).trans hx105_2
            replace hx105_3:=(HB.out.cell (World.block_lt_of_cell? w _ hx105_3)).trans hx105_3
            replace hx105_4:=(HB.out.cell (World.block_lt_of_cell? w _ hx105_4)).trans hx105_4
            replace hx105_5:=(HB.out.cell (World.block_lt_of_cell? w _ hx105_5)).trans hx105_5
            have HR105_4:=Aside0.mk hi105_4
            have HC105_4:=Aside0.mk hl105_4
            clear hi105_4 hl105_4
            replace p105:=eq_true p105
            replace q105:=eq_true q105
            refine start_ (n:=11) (S:=fun w'=>w'.cell? (ad104.add ((x3_1).toNat * 6)) = some (.string ((rd_T91 l0 x3_1).f0.f0)) ∧ w'.cell? ⟨(ad104.add ((x3_1).toNat * 6)).block,(ad104.add ((x3_1).toNat * 6)).off + 1,none⟩ = some (.int .i64 ((rd_T91 l0 x3_1).f0.f1)) ∧ w'.cell? ⟨(ad104.add ((x3_1).toNat * 6)).block,(ad104.add ((x3_1).toNat * 6)).off + 2,none⟩ = some (.int .i64 ((rd_T91 l0 x3_1).f0.f2)) ∧ w'.cell? ⟨(ad104.add ((x3_1).toNat * 6)).block,(ad104.add ((x3_1).toNat * 6)).off + 3,none⟩ = some (.int .i64 ((rd_T91 l0 x3_1).f0.f3)) ∧ w'.cell? ⟨(ad104.add ((x3_1).toNat * 6)).block,(ad104.add ((x3_1).toNat * 6)).off + 4,none⟩ = some (.slice A104_4 ((rd_T91 l0 x3_1).f1).length c104_4) ∧ w'.cell? ⟨(ad104.add ((x3_1).toNat * 6)).block,(ad104.add ((x3_1).toNat * 6)).off + 5,none⟩ = some (.int .i64 ((rd_T91 l0 x3_1).f2)) ∧ w'.cell? ad104 = some (.string ((rd_T91 l0 0).f0.f0)) ∧ w'.cell? ⟨ad104.block,ad104.off + 1,none⟩ = some (.int .i64 ((rd_T91 l0 0).f0.f1)) ∧ w'.cell? ⟨ad104.block,ad104.off + 2,none⟩ = some (.int .i64 ((rd_T91 l0 0).f0.f2)) ∧ w'.cell? ⟨ad104.block,ad104.off + 3,none⟩ = some (.int .i64 ((rd_T91 l0 0).f0.f3)) ∧ w'.cell? ⟨ad104.block,ad104.off + 4,none⟩ = some (.slice A105_4 ((rd_T91 l0 0).f1).length c105_4) ∧ w'.cell? ⟨ad104.block,ad104.off + 5,none⟩ = some (.int .i64 ((rd_T91 l0 0).f2))) (ds:=[]) #[Z,Z,Z,Z,Z,Z,Z,Z,Z,Z,Z] (by kernel_rfl) rfl rfl ⟨((HB.out.cell (World.block_lt_of_cell? w _ hw104_0)).trans hw104_0),((HB.out.cell (World.block_lt_of_cell? w _ hw104_1)).trans hw104_1),((HB.out.cell (World.block_lt_of_cell? w _ hw104_2)).trans hw104_2),((HB.out.cell (World.block_lt_of_cell? w _ hw104_3)).trans hw104_3),((HB.out.cell (World.block_lt_of_cell? w _ hw104_4)).trans hw104_4),((HB.out.cell (World.block_lt_of_cell? w _ hw104_5)).trans hw104_5),((HB.out.cell (World.block_lt_of_cell? w _ hw105_0)).trans hw105_0),((HB.out.cell (World.block_lt_of_cell? w _ hw105_1)).trans hw105_1),((HB.out.cell (World.block_lt_of_cell? w _ hw105_2)).trans hw105_2),((HB.out.cell (World.block_lt_of_cell? w _ hw105_3)).trans hw105_3),((HB.out.cell (World.block_lt_of_cell? w _ hw105_4)).trans hw105_4),((HB.out.cell (World.block_lt_of_cell? w _ hw105_5)).trans hw105_5)⟩ (fun hHeld=>?_);refine with_tabW contangoref23_Check.tab8 contangoref23_Check.bits8 (fun HT_ HW_=>?_)
            generalize wc.drew = w20 at HB HR104_4 HR105_4 hx104_0 hx104_1 hx104_2 hx104_3 hx104_4 hx104_5 hx105_0 hx105_1 hx105_2 hx105_3 hx105_4 hx105_5 hHeld ⊢
            refine pure_ (i:=0) (N:=some 31) (v:=?_) (a':=?_) #[Y,Z,Z,Z,Z,Z,Z,Z,Z,Z,Z] rfl rfl (any_of HT_.out (by kernel_rfl)) (fun _ _ _ h=>h) (Or.inl ⟨by rfl,?_⟩) ?_ ?_
            rotate_left
            ·intro w'
             go_simp
             with_reducible rfl
            rotate_left
            ·simp only [Act.put,List.setIfInBounds_toArray,List.set_cons_zero,List.set_cons_succ,i64_w,i32_w]
             rfl
            refine pure_ (i:=1) (N:=some 32) (v:=?_) (a':=?_) #[Y,Y,Z,Z,Z,Z,Z,Z,Z,Z,Z] rfl rfl (any_of HT_.out (by kernel_rfl)) (fun _ _ _ h=>h) (Or.inl ⟨by rfl,?_⟩) ?_ ?_
            rotate_left
            ·intro w'
             go_simp
             with_reducible rfl
            rotate_left
            ·simp only [Act.put,List.setIfInBounds_toArray,List.set_cons_zero,List.set_cons_succ,i64_w,i32_w]
             rfl
            refine pure_ (i:=2) (N:=some 33) (v:=?_) (a':=?_) #[Y,Y,Y,Z,Z,Z,Z,Z,Z,Z,Z] rfl rfl (any_of HT_.out (by kernel_rfl)) (fun _ _ _ h=>h) (Or.inl ⟨by rfl,?_⟩) ?_ ?_
            rotate_left
            ·intro w'
             go_simp
             with_reducible rfl
            rotate_left
            ·simp only [Act.put,List.setIfInBounds_toArray,List.set_cons_zero,List.set_cons_succ,i64_w,i32_w]
             rfl
            refine pure_ (i:=4) (N:=some 35) (v:=?_) (a':=?_) #[Y,Y,Y,Z,Y,Z,Z,Z,Z,Z,Z] rfl rfl (any_of HT_.out (by kernel_rfl)) (fun _ _ _ h=>h) (Or.inl ⟨by rfl,?_⟩) ?_ ?_
            rotate_left
            ·intro w'
             go_simp
             with_reducible rfl
            rotate_left
            ·simp only [Act.put,List.setIfInBounds_toArray,List.set_cons_zero,List.set_cons_succ,i64_w,i32_w]
             rfl
            refine pure_ (i:=5) (N:=some 36) (v:=?_) (a':=?_) #[Y,Y,Y,Z,Y,Y,Z,Z,Z,Z,Z] rfl rfl (any_of HT_.out (by kernel_rfl)) (fun _ _ _ h=>h) (Or.inl ⟨by rfl,?_⟩) ?_ ?_
            rotate_left
            ·intro w'
             go_simp
             with_reducible rfl
            rotate_left
            ·simp only [Act.put,List.setIfInBounds_toArray,List.set_cons_zero,List.set_cons_succ,i64_w,i32_w]
             rfl
            refine pure_ (i:=6) (N:=some 37) (v:=?_) (a':=?_) #[Y,Y,Y,Z,Y,Y,Y,Z,Z,Z,Z] rfl rfl (any_of HT_.out (by kernel_rfl)) (fun _ _ _ h=>h) (Or.inl ⟨by rfl,?_⟩) ?_ ?_
            rotate_left
            ·intro w'
             go_simp
             with_reducible rfl
            rotate_left
            ·simp only [Act.put,List.setIfInBounds_toArray,List.set_cons_zero,List.set_cons_succ,i64_w,i32_w]
             rfl
            refine take_ (i:=3) (N:=some 34) (v:=?_) (a':=?_) #[Y,Y,Y,Y,Y,Y,Y,Z,Z,Z,Z] rfl rfl (take_ofW HT_.out HW_.out (by kernel_rfl)) (fun _ _ _ h=>h) (Or.inl ⟨by rfl,?_⟩) hHeld ?_ ?_
            rotate_left
            ·rintro w' ⟨s0,s1,s2,s3,s4,s5,s6,s7,s8,s9,s10,s11⟩
             go_simp
             with_reducible rfl
            rotate_left
            ·simp only [Act.put,List.setIfInBounds_toArray,List.set_cons_zero,List.set_cons_succ,i64_w,i32_w]
             rfl
            refine take_ (i:=7) (N:=some 38) (v:=?_) (a':=?_) #[Y,Y,Y,Y,Y,Y,Y,Y,Z,Z,Z] rfl rfl (take_ofW HT_.out HW_.out (by kernel_rfl)) (fun _ _ _ h=>h) (Or.inl ⟨by rfl,?_⟩) hHeld ?_ ?_
            rotate_left
            ·rintro w' ⟨s0,s1,s2,s3,s4,s5,s6,s7,s8,s9,s10,s11⟩
             go_simp
             with_reducible rfl
            rotate_left
            ·simp only [Act.put,List.setIfInBounds_toArray,List.set_cons_zero,List.set_cons_succ,i64_w,i32_w]
             rfl
            refine pure_ (i:=8) (N:=some 39) (v:=?_) (a':=?_) #[Y,Y,Y,Y,Y,Y,Y,Y,Y,Z,Z] rfl rfl (any_of HT_.out (by kernel_rfl)) (fun _ _ _ h=>h) (Or.inl ⟨by rfl,?_⟩) ?_ ?_
            rotate_left
            ·intro w'
             go_simp
             with_reducible rfl
            rotate_left
            ·simp only [Act.put,List.setIfInBounds_toArray,List.set_cons_zero,List.set_cons_succ,i64_w,i32_w]
             rfl
            refine one_ (i:=9) (N:=some 40) #[Y,Y,Y,Y,Y,Y,Y,Y,Y,Y,Z] rfl rfl (one_of HT_.out (by kernel_rfl)) (by decide) (fun K hK=>?_)
            refine goes_ Try.func64 (by kernel_rfl) rfl #[.agg #[.string ((rd_T91 l0 x3_1).f0.f0),.int .i64 ((rd_T91 l0 x3_1).f0.f1),.int .i64 ((rd_T91 l0 x3_1).f0.f2),.int .i64 ((rd_T91 l0 x3_1).f0.f3),.slice A104_4 ((rd_T91 l0 x3_1).f1).length c104_4,.int .i64 ((rd_T91 l0 x3_1).f2)],.int .i64 (((rd_T91 l0 0).f1).length:Int)] (by rfl) rfl rfl (by (try simp only [List.map_toArray,List.map_cons,List.map_nil]);first|done|rfl|(simp only [List.length_drop,List.length_take];rfl)) ?_
            with_reducible refine (contangoref23_one.calls kj3 ((rd_T91 l0 x3_1).f0.f0) ((rd_T91 l0 x3_1).f0.f1) ((rd_T91 l0 x3_1).f0.f2) ((rd_T91 l0 x3_1).f0.f3) _ _ ((rd_T91 l0 x3_1).f1) ((rd_T91 l0 x3_1).f2) (((rd_T91 l0 0).f1).length:Int) t106 _ ?side1 ?side2 A18.out).mono ?_
            (case side1=>repeat (first|exact (Kd.C_below HR104_4.out HB.out)|(with_reducible refine Kd.C_alloc ?_ _)|(with_reducible refine Kd.C_drewN ?_ _)|(with_reducible refine Kd.C_drew ?_)))
            (case side2=>exact HC104_4.out)
            rintro e w21 ⟨rfl,hb⟩
            refine ⟨_,rfl,?_⟩
            have n0_:=Aside0.mk (below_step (by repeat (first|(with_reducible first|exact HB.out|apply below_alloc|apply pw_below_drewN|apply below_drew1)|exact HB.out)) hb)
            clear HB
            have HB:=n0_
            clear n0_
            (try clear hb)
            (try clear hb2)
            (try clear hk)
            (try clear hi)
            refine hK.out _ _ ⟨((HB.out.cell (World.block_lt_of_cell? w _ hw104_0)).trans hw104_0),((HB.out.cell (World.block_lt_of_cell? w _ hw104_1)).trans hw104_1),((HB.out.cell (World.block_lt_of_cell? w _ hw104_2)).trans hw104_2),((HB.out.cell (World.block_lt_of_cell? w _ hw104_3)).trans hw104_3),((HB.out.cell (World.block_lt_of_cell? w _ hw104_4)).trans hw104_4),((HB.out.cell (World.block_lt_of_cell? w _ hw104_5)).trans hw104_5),((HB.out.cell (World.block_lt_of_cell? w _ hw105_0)).trans hw105_0),((HB.out.cell (World.block_lt_of_cell? w _ hw105_1)).trans hw105_1),((HB.out.cell (World.block_lt_of_cell? w _ hw105_2)).trans hw105_2),((HB.out.cell (World.block_lt_of_cell? w _ hw105_3)).trans hw105_3),((HB.out.cell (World.block_lt_of_cell? w _ hw105_4)).trans hw105_4),((HB.out.cell (World.block_lt_of_cell? w _ hw105_5)).trans hw105_5)⟩ (fun hHeld=>?_)
            clear hK K
            refine norm_ (a':=?_) ?_ ?_
            rotate_left
            ·show Act.put _ (some 40) _ = _
             simp only [Act.put,List.setIfInBounds_toArray,List.set_cons_zero,List.set_cons_succ,i64_w,i32_w]
             rfl
            refine pure_ (i:=10) (N:=some 4) (v:=?_) (a':=?_) #[Y,Y,Y,Y,Y,Y,Y,Y,Y,Y,Y] rfl rfl (any_of HT_.out (by kernel_rfl)) (fun _ _ _ h=>h) (Or.inl ⟨by rfl,?_⟩) ?_ ?_
            rotate_left
            ·intro w'
             go_simp
             with_reducible rfl
            rotate_left
            ·simp only [Act.put,List.setIfInBounds_toArray,List.set_cons_zero,List.set_cons_succ,i64_w,i32_w]
             rfl
            refine done_ (done_of HT_.out (by kernel_rfl)) ?_
            try go_wp2
            go_roundg kj3
            case measure=>have:=HK1.out;have:=HJ3.out;omega
            case rel=>exact ⟨(wrap64 (x3_1 + 1)),(by first|rfl|(simp;done)|(simp [*];done)),H',⟨by have:=HK1.out;have:=HJ3.out;omega⟩,⟨by repeat (first|(with_reducible first|exact HB.out|apply below_alloc|apply pw_below_drewN|apply below_drew1)|exact HB.out)⟩⟩
           ·rw [if_neg c19] at H
            have c19b0:(t106 == 0) = false:=beq_eq_false_iff_ne.mpr c19
            have c19b1:(t106 != 0) = true:=bne_iff_ne.mpr c19
            obtain rfl:=Option.some.inj H
            try go_wp2
            have n0_:=Aside0.mk (below_drew1 HB.out)
            clear HB
            have HB:=n0_
            clear n0_
            have p104:0 ≤ (x3_1:Int):=of_decide_eq_true (by first|(with_reducible assumption)|assumption)
            have q104:x3_1 < (l0.length:Int):=of_decide_eq_true (by first|(with_reducible assumption)|assumption)
            obtain ⟨ad104,A104_4,c104_4,e104,hx104_0,hx104_1,hx104_2,hx104_3,hx104_4,hx104_5,hl104_4,hi104_4⟩:=at_T91 HR0.out x3_1 p104 q104
            have hw104_5:=hx104_5
            have hw104_4:=hx104_4
            have hw104_3:=hx104_3
            have hw104_2:=hx104_2
            have hw104_1:=hx104_1
            have hw104_0:=hx104_0
            cases e104
            replace hx104_0:=(HB.out.cell (World.block_lt_of_cell? w _ hx104_0)).trans hx104_0
            replace hx104_1:=(HB.out.cell (World.block_lt_of_cell? w _ hx104_1)).trans hx104_1
            replace hx104_2:=(HB.out.cell (World.block_lt_of_cell? w _ hx104_2)).trans hx104_2
            replace hx104_3:=(HB.out.cell (World.block_lt_of_cell? w _ hx104_3)).trans hx104_3
            replace hx104_4:=(HB.out.cell (World.block_lt_of_cell? w _ hx104_4)).trans hx104_4
            replace hx104_5:=(HB.out.cell (World.block_lt_of_cell? w _ hx104_5)).trans hx104_5
            have HR104_4:=Aside0.mk hi104_4
            have HC104_4:=Aside0.mk hl104_4
            clear hi104_4 hl104_4
            replace p104:=eq_true p104
            replace q104:=eq_true q104
            have p105:0 ≤ (0:Int):=(by omega)
            have q105:0 < (l0.length:Int):=of_decide_eq_true (by first|(with_reducible assumption)|assumption)
            obtain ⟨ad105,A105_4,c105_4,e105,hx105_0,hx105_1,hx105_2,hx105_3,hx105_4,hx105_5,hl105_4,hi105_4⟩:=at_T91 HR0.out 0 p105 q105
            have hw105_5:=hx105_5
            (try rw [show ((0:Int)).toNat = 0 from rfl] at hw105_5)
            (try rw [show 0 * 6 = 0 from rfl] at hw105_5)
            (try rw [Addr.add_zero'] at hw105_5)
            have hw105_4:=hx105_4
            (try rw [show ((0:Int)).toNat = 0 from rfl] at hw105_4)
            (try rw [show 0 * 6 = 0 from rfl] at hw105_4)
            (try rw [Addr.add_zero'] at hw105_4)
            have hw105_3:=hx105_3
            (try rw [show ((0:Int)).toNat = 0 from rfl] at hw105_3)
            (try rw [show 0 * 6 = 0 from rfl] at hw105_3)
            (try rw [Addr.add_zero'] at hw105_3)
            have hw105_2:=hx105_2
            (try rw [show ((0:Int)).toNat = 0 from rfl] at hw105_2)
            (try rw [show 0 * 6 = 0 from rfl] at hw105_2)
            (try rw [Addr.add_zero'] at hw105_2)
            have hw105_1:=hx105_1
            (try rw [show ((0:Int)).toNat = 0 from rfl] at hw105_1)
            (try rw [show 0 * 6 = 0 from rfl] at hw105_1)
            (try rw [Addr.add_zero'] at hw105_1)
            have hw105_0:=hx105_0
            (try rw [show ((0:Int)).toNat = 0 from rfl] at hw105_0)
            (try rw [show 0 * 6 = 0 from rfl] at hw105_0)
            (try rw [Addr.add_zero'] at hw105_0)
            obtain rfl:ad104 = ad105:=(by injection e105)
            have qi105:(0 < l0.length) = True:=eq_true (by omega)
            (try rw [show ((0:Int)).toNat = 0 from rfl] at hx105_0)
            (try rw [show 0 * 6 = 0 from rfl] at hx105_0)
            (try rw [Addr.add_zero'] at hx105_0)
            (try rw [show ((0:Int)).toNat = 0 from rfl] at hx105_1)
            (try rw [show 0 * 6 = 0 from rfl] at hx105_1)
            (try rw [Addr.add_zero'] at hx105_1)
            (try rw [show ((0:Int)).toNat = 0 from rfl] at hx105_2)
            (try rw [show 0 * 6 = 0 from rfl] at hx105_2)
            (try rw [Addr.add_zero'] at hx105_2)
            (try rw [show ((0:Int)).toNat = 0 from rfl] at hx105_3)
            (try rw [show 0 * 6 = 0 from rfl] at hx105_3)
            (try rw [Addr.add_zero'] at hx105_3)
            (try rw [show ((0:Int)).toNat = 0 from rfl] at hx105_4)
            (try rw [show 0 * 6 = 0 from rfl] at hx105_4)
            (try rw [Addr.add_zero'] at hx105_4)
            (try rw [show ((0:Int)).toNat = 0 from rfl] at hx105_5)
            (try rw [show 0 * 6 = 0 from rfl] at hx105_5)
            (try rw [Addr.add_zero'] at hx105_5)
            replace hx105_0:=(HB.out.cell (World.block_lt_of_cell? w _ hx105_0)).trans hx105_0
            replace hx105_1:=(HB.out.cell (World.block_lt_of_cell? w _ hx105_1)).trans hx105_1
            replace hx105_2:=(HB.out.cell (World.block_lt_of_cell? w _ hx105_2)).trans hx105_2
            replace hx105_3:=(HB.out.cell (World.block_lt_of_cell? w _ hx105_3)).trans hx105_3
            replace hx105_4:=(HB.out.cell (World.block_lt_of_cell? w _ hx105_4)).trans hx105_4
            replace hx105_5:=(HB.out.cell (World.block_lt_of_cell? w _ hx105_5)).trans hx105_5
            have HR105_4:=Aside0.mk hi105_4
            have HC105_4:=Aside0.mk hl105_4
            clear hi105_4 hl105_4
            replace p105:=eq_true p105
            replace q105:=eq_true q105
            refine start_ (n:=11) (S:=fun w'=>w'.cell? (ad104.add ((x3_1).toNat * 6)) = some (.string ((rd_T91 l0 x3_1).f0.f0)) ∧ w'.cell? ⟨(ad104.add ((x3_1).toNat * 6)).block,(ad104.add ((x3_1).toNat * 6)).off + 1,none⟩ = some (.int .i64 ((rd_T91 l0 x3_1).f0.f1)) ∧ w'.cell? ⟨(ad104.add ((x3_1).toNat * 6)).block,(ad104.add ((x3_1).toNat * 6)).off + 2,none⟩ = some (.int .i64 ((rd_T91 l0 x3_1).f0.f2)) ∧ w'.cell? ⟨(ad104.add ((x3_1).toNat * 6)).block,(ad104.add ((x3_1).toNat * 6)).off + 3,none⟩ = some (.int .i64 ((rd_T91 l0 x3_1).f0.f3)) ∧ w'.cell? ⟨(ad104.add ((x3_1).toNat * 6)).block,(ad104.add ((x3_1).toNat * 6)).off + 4,none⟩ = some (.slice A104_4 ((rd_T91 l0 x3_1).f1).length c104_4) ∧ w'.cell? ⟨(ad104.add ((x3_1).toNat * 6)).block,(ad104.add ((x3_1).toNat * 6)).off + 5,none⟩ = some (.int .i64 ((rd_T91 l0 x3_1).f2)) ∧ w'.cell? ad104 = some (.string ((rd_T91 l0 0).f0.f0)) ∧ w'.cell? ⟨ad104.block,ad104.off + 1,none⟩ = some (.int .i64 ((rd_T91 l0 0).f0.f1)) ∧ w'.cell? ⟨ad104.block,ad104.off + 2,none⟩ = some (.int .i64 ((rd_T91 l0 0).f0.f2)) ∧ w'.cell? ⟨ad104.block,ad104.off + 3,none⟩ = some (.int .i64 ((rd_T91 l0 0).f0.f3)) ∧ w'.cell? ⟨ad104.block,ad104.off + 4,none⟩ = some (.slice A105_4 ((rd_T91 l0 0).f1).length c105_4) ∧ w'.cell? ⟨ad104.block,ad104.off + 5,none⟩ = some (.int .i64 ((rd_T91 l0 0).f2))) (ds:=[]) #[Z,Z,Z,Z,Z,Z,Z,Z,Z,Z,Z] (by kernel_rfl) rfl rfl ⟨((HB.out.cell (World.block_lt_of_cell? w _ hw104_0)).trans hw104_0),((HB.out.cell (World.block_lt_of_cell? w _ hw104_1)).trans hw104_1),((HB.out.cell (World.block_lt_of_cell? w _ hw104_2)).trans hw104_2),((HB.out.cell (World.block_lt_of_cell? w _ hw104_3)).trans hw104_3),((HB.out.cell (World.block_lt_of_cell? w _ hw104_4)).trans hw104_4),((HB.out.cell (World.block_lt_of_cell? w _ hw104_5)).trans hw104_5),((HB.out.cell (World.block_lt_of_cell? w _ hw105_0)).trans hw105_0),((HB.out.cell (World.block_lt_of_cell? w _ hw105_1)).trans hw105_1),((HB.out.cell (World.block_lt_of_cell? w _ hw105_2)).trans hw105_2),((HB.out.cell (World.block_lt_of_cell? w _ hw105_3)).trans hw105_3),((HB.out.cell (World.block_lt_of_cell? w _ hw105_4)).trans hw105_4),((HB.out.cell (World.block_lt_of_cell? w _ hw105_5)).trans hw105_5)⟩ (fun hHeld=>?_);refine with_tabW contangoref23_Check.tab8 contangoref23_Check.bits8 (fun HT_ HW_=>?_)
            generalize wc.drew = w22 at HB HR104_4 HR105_4 hx104_0 hx104_1 hx104_2 hx104_3 hx104_4 hx104_5 hx105_0 hx105_1 hx105_2 hx105_3 hx105_4 hx105_5 hHeld ⊢
            refine pure_ (i:=0) (N:=some 31) (v:=?_) (a':=?_) #[Y,Z,Z,Z,Z,Z,Z,Z,Z,Z,Z] rfl rfl (any_of HT_.out (by kernel_rfl)) (fun _ _ _ h=>h) (Or.inl ⟨by rfl,?_⟩) ?_ ?_
            rotate_left
            ·intro w'
             go_simp
             with_reducible rfl
            rotate_left
            ·simp only [Act.put,List.setIfInBounds_toArray,List.set_cons_zero,List.set_cons_succ,i64_w,i32_w]
             rfl
            refine pure_ (i:=1) (N:=some 32) (v:=?_) (a':=?_) #[Y,Y,Z,Z,Z,Z,Z,Z,Z,Z,Z] rfl rfl (any_of HT_.out (by kernel_rfl)) (fun _ _ _ h=>h) (Or.inl ⟨by rfl,?_⟩) ?_ ?_
            rotate_left
            ·intro w'
             go_simp
             with_reducible rfl
            rotate_left
            ·simp only [Act.put,List.setIfInBounds_toArray,List.set_cons_zero,List.set_cons_succ,i64_w,i32_w]
             rfl
            refine pure_ (i:=2) (N:=some 33) (v:=?_) (a':=?_) #[Y,Y,Y,Z,Z,Z,Z,Z,Z,Z,Z] rfl rfl (any_of HT_.out (by kernel_rfl)) (fun _ _ _ h=>h) (Or.inl ⟨by rfl,?_⟩) ?_ ?_
            rotate_left
            ·intro w'
             go_simp
             with_reducible rfl
            rotate_left
            ·simp only [Act.put,List.setIfInBounds_toArray,List.set_cons_zero,List.set_cons_succ,i64_w,i32_w]
             rfl
            refine pure_ (i:=4) (N:=some 35) (v:=?_) (a':=?_) #[Y,Y,Y,Z,Y,Z,Z,Z,Z,Z,Z] rfl rfl (any_of HT_.out (by kernel_rfl)) (fun _ _ _ h=>h) (Or.inl ⟨by rfl,?_⟩) ?_ ?_
            rotate_left
            ·intro w'
             go_simp
             with_reducible rfl
            rotate_left
            ·simp only [Act.put,List.setIfInBounds_toArray,List.set_cons_zero,List.set_cons_succ,i64_w,i32_w]
             rfl
            refine pure_ (i:=5) (N:=some 36) (v:=?_) (a':=?_) #[Y,Y,Y,Z,Y,Y,Z,Z,Z,Z,Z] rfl rfl (any_of HT_.out (by kernel_rfl)) (fun _ _ _ h=>h) (Or.inl ⟨by rfl,?_⟩) ?_ ?_
            rotate_left
            ·intro w'
             go_simp
             with_reducible rfl
            rotate_left
            ·simp only [Act.put,List.setIfInBounds_toArray,List.set_cons_zero,List.set_cons_succ,i64_w,i32_w]
             rfl
            refine pure_ (i:=6) (N:=some 37) (v:=?_) (a':=?_) #[Y,Y,Y,Z,Y,Y,Y,Z,Z,Z,Z] rfl rfl (any_of HT_.out (by kernel_rfl)) (fun _ _ _ h=>h) (Or.inl ⟨by rfl,?_⟩) ?_ ?_
            rotate_left
            ·intro w'
             go_simp
             with_reducible rfl
            rotate_left
            ·simp only [Act.put,List.setIfInBounds_toArray,List.set_cons_zero,List.set_cons_succ,i64_w,i32_w]
             rfl
            refine take_ (i:=3) (N:=some 34) (v:=?_) (a':=?_) #[Y,Y,Y,Y,Y,Y,Y,Z,Z,Z,Z] rfl rfl (take_ofW HT_.out HW_.out (by kernel_rfl)) (fun _ _ _ h=>h) (Or.inl ⟨by rfl,?_⟩) hHeld ?_ ?_
            rotate_left
            ·rintro w' ⟨s0,s1,s2,s3,s4,s5,s6,s7,s8,s9,s10,s11⟩
             go_simp
             with_reducible rfl
            rotate_left
            ·simp only [Act.put,List.setIfInBounds_toArray,List.set_cons_zero,List.set_cons_succ,i64_w,i32_w]
             rfl
            refine take_ (i:=7) (N:=some 38) (v:=?_) (a':=?_) #[Y,Y,Y,Y,Y,Y,Y,Y,Z,Z,Z] rfl rfl (take_ofW HT_.out HW_.out (by kernel_rfl)) (fun _ _ _ h=>h) (Or.inl ⟨by rfl,?_⟩) hHeld ?_ ?_
            rotate_left
            ·rintro w' ⟨s0,s1,s2,s3,s4,s5,s6,s7,s8,s9,s10,s11⟩
             go_simp
             with_reducible rfl
            rotate_left
            ·simp only [Act.put,List.setIfInBounds_toArray,List.set_cons_zero,List.set_cons_succ,i64_w,i32_w]
             rfl
            refine pure_ (i:=8) (N:=some 39) (v:=?_) (a':=?_) #[Y,Y,Y,Y,Y,Y,Y,Y,Y,Z,Z] rfl rfl (any_of HT_.out (by kernel_rfl)) (fun _ _ _ h=>h) (Or.inl ⟨by rfl,?_⟩) ?_ ?_
            rotate_left
            ·intro w'
             go_simp
             with_reducible rfl
            rotate_left
            ·simp only [Act.put,List.setIfInBounds_toArray,List.set_cons_zero,List.set_cons_succ,i64_w,i32_w]
             rfl
            refine one_ (i:=9) (N:=some 40) #[Y,Y,Y,Y,Y,Y,Y,Y,Y,Y,Z] rfl rfl (one_of HT_.out (by kernel_rfl)) (by decide) (fun K hK=>?_)
            refine goes_ Try.func64 (by kernel_rfl) rfl #[.agg #[.string ((rd_T91 l0 x3_1).f0.f0),.int .i64 ((rd_T91 l0 x3_1).f0.f1),.int .i64 ((rd_T91 l0 x3_1).f0.f2),.int .i64 ((rd_T91 l0 x3_1).f0.f3),.slice A104_4 ((rd_T91 l0 x3_1).f1).length c104_4,.int .i64 ((rd_T91 l0 x3_1).f2)],.int .i64 (((rd_T91 l0 0).f1).length:Int)] (by rfl) rfl rfl (by (try simp only [List.map_toArray,List.map_cons,List.map_nil]);first|done|rfl|(simp only [List.length_drop,List.length_take];rfl)) ?_
            with_reducible refine (contangoref23_one.calls kj3 ((rd_T91 l0 x3_1).f0.f0) ((rd_T91 l0 x3_1).f0.f1) ((rd_T91 l0 x3_1).f0.f2) ((rd_T91 l0 x3_1).f0.f3) _ _ ((rd_T91 l0 x3_1).f1) ((rd_T91 l0 x3_1).f2) (((rd_T91 l0 0).f1).length:Int) t106 _ ?side1 ?side2 A18.out).mono ?_
            (case side1=>repeat (first|exact (Kd.C_below HR104_4.out HB.out)|(with_reducible refine Kd.C_alloc ?_ _)|(with_reducible refine Kd.C_drewN ?_ _)|(with_reducible refine Kd.C_drew ?_)))
            (case side2=>exact HC104_4.out)
            rintro e w23 ⟨rfl,hb⟩
            refine ⟨_,rfl,?_⟩
            have n0_:=Aside0.mk (below_step (by repeat (first|(with_reducible first|exact HB.out|apply below_alloc|apply pw_below_drewN|apply below_drew1)|exact HB.out)) hb)
            clear HB
            have HB:=n0_
            clear n0_
            (try clear hb)
            (try clear hb2)
            (try clear hk)
            (try clear hi)
            refine hK.out _ _ ⟨((HB.out.cell (World.block_lt_of_cell? w _ hw104_0)).trans hw104_0),((HB.out.cell (World.block_lt_of_cell? w _ hw104_1)).trans hw104_1),((HB.out.cell (World.block_lt_of_cell? w _ hw104_2)).trans hw104_2),((HB.out.cell (World.block_lt_of_cell? w _ hw104_3)).trans hw104_3),((HB.out.cell (World.block_lt_of_cell? w _ hw104_4)).trans hw104_4),((HB.out.cell (World.block_lt_of_cell? w _ hw104_5)).trans hw104_5),((HB.out.cell (World.block_lt_of_cell? w _ hw105_0)).trans hw105_0),((HB.out.cell (World.block_lt_of_cell? w _ hw105_1)).trans hw105_1),((HB.out.cell (World.block_lt_of_cell? w _ hw105_2)).trans hw105_2),((HB.out.cell (World.block_lt_of_cell? w _ hw105_3)).trans hw105_3),((HB.out.cell (World.block_lt_of_cell? w _ hw105_4)).trans hw105_4),((HB.out.cell (World.block_lt_of_cell? w _ hw105_5)).trans hw105_5)⟩ (fun hHeld=>?_)
            clear hK K
            refine norm_ (a':=?_) ?_ ?_
            rotate_left
            ·show Act.put _ (some 40) _ = _
             simp only [Act.put,List.setIfInBounds_toArray,List.set_cons_zero,List.set_cons_succ,i64_w,i32_w]
             rfl
            refine pure_ (i:=10) (N:=some 4) (v:=?_) (a':=?_) #[Y,Y,Y,Y,Y,Y,Y,Y,Y,Y,Y] rfl rfl (any_of HT_.out (by kernel_rfl)) (fun _ _ _ h=>h) (Or.inl ⟨by rfl,?_⟩) ?_ ?_
            rotate_left
            ·intro w'
             go_simp
             with_reducible rfl
            rotate_left
            ·simp only [Act.put,List.setIfInBounds_toArray,List.set_cons_zero,List.set_cons_succ,i64_w,i32_w]
             rfl
            refine done_ (done_of HT_.out (by kernel_rfl)) ?_
            try go_wp2
            go_ret
            exact ⟨by first|rfl|(simp [errW_none,errW_some] <;> rfl)|(simp [*,errW_none,errW_some] <;> rfl),by repeat (first|(with_reducible first|exact HB.out|apply below_alloc|apply pw_below_drewN|apply below_drew1)|exact HB.out)⟩
          ·rw [if_neg c17] at H
           exact absurd H (by simp)
         ·rw [if_neg c16] at H
          exact absurd H (by simp)
        ·rw [if_neg c15] at H
         exact absurd H (by simp)
    ·rw [if_neg c3] at H
     have c3b0:decide (x3_1 < (l0.length:Int)) = false:=decide_eq_false c3
     clear c3
     obtain rfl:=Option.some.inj H
     go_wp2
     go_ret
     exact ⟨by first|rfl|(simp [errW_none,errW_some] <;> rfl)|(simp [*,errW_none,errW_some] <;> rfl),by repeat (first|(with_reducible first|exact HB.out|apply below_alloc|apply pw_below_drewN|apply below_drew1)|exact HB.out)⟩
end Go.Proofs.Ytbgeceiddcokmaa.X
end
section
namespace Go.Proofs.Ytbgeceiddcokmaa.X
open Go.RowKit Go.Proofs.YtbgeceiddcokmaaW.PrintWords Go.Proofs.YtbgeceiddcokmaaW.PrintLast Go.Proofs.YtbgeceiddcokmaaW.PrintMore
attribute [local go_sem] max2_int min2_int max_two min_two max_three min_three max_four min_four
set_option linter.unusedVariables false
set_option linter.unusedSimpArgs false
attribute [local go_sem high] eqA39
def contangoref23_find.l0:Nat → List (S91) → Int → ByteArray → Int → Int → Int → Option (Int)
 | 0,_,_,_,_,_,_=>none
 | k + 1,x0,x5,x102000,x102001,x102002,x102003=>if x5 < (x0.length:Int) then (if 0 ≤ x5 then (if ((((rd_T91 x0 x5).f0.f0).toList) == x102000.toList && (((rd_T91 x0 x5).f0.f1) == x102001 && (((rd_T91 x0 x5).f0.f2) == x102002 && (((rd_T91 x0 x5).f0.f3) == x102003)))) = true then (some x5) else (contangoref23_find.l0 k x0 (wrap64 (x5 + 1)) x102000 x102001 x102002 x102003)) else (none)) else (some (-1))
def contangoref23_find.f (k:Nat) (l0:List (S91)) (a1_0:ByteArray) (a1_1:Int) (a1_2:Int) (a1_3:Int):Option (Int):=contangoref23_find.l0 k l0 0 a1_0 a1_1 a1_2 a1_3
set_option maxHeartbeats 8000000 in
set_option maxRecDepth 100000 in
theorem contangoref23_find.calls (k:Nat) (A0:Option Addr) (c0:Nat) (l0:List (S91)) (a1_0:ByteArray) (a1_1:Int) (a1_2:Int) (a1_3:Int) (r:Int) (w:World) (hr0:Kd.C k91 w A0 l0.length l0) (hc0:l0.length ≤ c0) (h:contangoref23_find.f k l0 a1_0 a1_1 a1_2 a1_3 = some r) :
  Calls Try.prog 60 #[.slice A0 l0.length c0,.agg #[.string a1_0,.int .i64 a1_1,.int .i64 a1_2,.int .i64 a1_3]] w fun e w'=>e = .returned (.int .i64 r) ∧ Below w.heap.size w w':=by
 have hu39:=Try.underlying39
 have HR0:=Aside0.mk hr0
 have HC0:=Aside0.mk hc0
 clear hr0 hc0
 have HB:=Aside0.mk (Below.refl w.heap.size w)
 have H:(contangoref23_find.l0 k l0 0 a1_0 a1_1 a1_2 a1_3) = some r:=h
 clear h
 have H':=Aside0.mk H
 clear H
 go_enter Try.func60,Try.ntmps60
 go_wp2_with (first|((with_reducible refine gate_dst (N:=3) rfl ?_);refine box_event ?hg (N:=3) ?hd (cs:=#[.string a1_0,.int .i64 a1_1,.int .i64 a1_2,.int .i64 a1_3]) (t:=39) ?hr ?_;(case hd=>rfl);(case hg=>rfl);(case hr=>first|(go_simp;done)|(go_simp;rfl));intro gb101 hg w3 hbox hb;have n0_:=Aside0.mk (below_step (by repeat (first|(with_reducible first|exact HB.out|apply below_alloc|apply pw_below_drewN|apply below_drew1)|exact HB.out)) hb);have n1_:=Aside0.mk (hbox);have n2_:=Aside0.mk ((by rw [hg];exact (below_size (by repeat (first|(with_reducible first|exact HB.out|apply below_alloc|apply pw_below_drewN|apply below_drew1)|exact HB.out))):w.heap.size ≤ gb101));have n3_:=Aside0.mk ((by rw [hg];exact (below_size (by repeat (first|(with_reducible first|exact HB.out|apply below_alloc|apply pw_below_drewN|apply below_drew1)|exact HB.out))):w.heap.size ≤ gb101));clear HB;have HB:=n0_;have BK101:=n1_;have GW101:=n2_;have GE101:=n3_;clear n0_ n1_ n2_ n3_;clear hb hbox hg))
 go_loopg [5] k (fun kq v5 w'=>∃ (x5_1:Int),v5 = .int .i64 x5_1 ∧ Aside0 (contangoref23_find.l0 kq l0 x5_1 a1_0 a1_1 a1_2 a1_3 = some r) ∧ Aside0 (kq ≤ k) ∧ Aside0 (w'.heap[gb101]? = some (.cells #[.string a1_0,.int .i64 a1_1,.int .i64 a1_2,.int .i64 a1_3] 39 (0,0))) ∧ Aside0 (Below w.heap.size w w'))
 case atStart=>exact ⟨(0),(by first|rfl|(simp;done)|(simp [*];done)),H',⟨Nat.le_refl _⟩,⟨by (with_reducible repeat (first|refine blk_drewN ?_ _|refine blk_drew ?_|refine blk_alloc ?_ _));exact BK101.out⟩,⟨by repeat (first|(with_reducible first|exact HB.out|apply below_alloc|apply pw_below_drewN|apply below_drew1|refine below_set ?_ GE101.out)|exact HB.out)⟩⟩
 case round =>
  clear H'
  try clear p2
  obtain ⟨x5_1,rfl,HA,HK1,BK101,HB⟩:=hrel
  cases gk with
  | zero=>exact absurd HA.out (by simp [contangoref23_find.l0])
  | succ k1 =>
   have H:=HA.out
   clear HA
   simp only [contangoref23_find.l0] at H
   by_cases c4:x5_1 < (l0.length:Int)
   ·rw [if_pos c4] at H
    have c4b0:decide (x5_1 < (l0.length:Int)) = true:=decide_eq_true c4
    clear c4
    by_cases c5:0 ≤ x5_1
    ·rw [if_pos c5] at H
     have c5b0:decide (0 ≤ x5_1) = true:=decide_eq_true c5
     clear c5
     by_cases c6:((((rd_T91 l0 x5_1).f0.f0).toList) == a1_0.toList && (((rd_T91 l0 x5_1).f0.f1) == a1_1 && (((rd_T91 l0 x5_1).f0.f2) == a1_2 && (((rd_T91 l0 x5_1).f0.f3) == a1_3)))) = true
     ·rw [if_pos c6] at H
      have c6b0:((((rd_T91 l0 x5_1).f0.f0).toList) == a1_0.toList && (((rd_T91 l0 x5_1).f0.f1) == a1_1 && (((rd_T91 l0 x5_1).f0.f2) == a1_2 && (((rd_T91 l0 x5_1).f0.f3) == a1_3)))) = true:=c6
      (try (have c6b1:decide ((((rd_T91 l0 x5_1).f0.f0).toList) = a1_0.toList && (((rd_T91 l0 x5_1).f0.f1) == a1_1 && (((rd_T91 l0 x5_1).f0.f2) == a1_2 && (((rd_T91 l0 x5_1).f0.f3) == a1_3)))) = true:=by simpa using c6))
      (try (have c6b2:((((rd_T91 l0 x5_1).f0.f0).toList) == a1_0.toList && (((rd_T91 l0 x5_1).f0.f1) == a1_1 && (((rd_T91 l0 x5_1).f0.f2) == a1_2 && (((rd_T91 l0 x5_1).f0.f3) == a1_3)))) = true:=by simpa using c6))
      clear c6
      obtain rfl:=Option.some.inj H
      have p102:0 ≤ (x5_1:Int):=of_decide_eq_true (by first|(with_reducible assumption)|assumption)
      have q102:x5_1 < (l0.length:Int):=of_decide_eq_true (by first|(with_reducible assumption)|assumption)
      obtain ⟨ad102,A102_4,c102_4,e102,hx102_0,hx102_1,hx102_2,hx102_3,hx102_4,hx102_5,hl102_4,hi102_4⟩:=at_T91 HR0.out x5_1 p102 q102
      cases e102
      replace hx102_0:=(HB.out.cell (World.block_lt_of_cell? w _ hx102_0)).trans hx102_0
      replace hx102_1:=(HB.out.cell (World.block_lt_of_cell? w _ hx102_1)).trans hx102_1
      replace hx102_2:=(HB.out.cell (World.block_lt_of_cell? w _ hx102_2)).trans hx102_2
      replace hx102_3:=(HB.out.cell (World.block_lt_of_cell? w _ hx102_3)).trans hx102_3
      replace hx102_4:=(HB.out.cell (World.block_lt_of_cell? w _ hx102_4)).trans hx102_4
      replace hx102_5:=(HB.out.cell (World.block_lt_of_cell? w _ hx102_5)).trans hx102_5
      have HR102_4:=Aside0.mk hi102_4
      have HC102_4:=Aside0.mk hl102_4
      clear hi102_4 hl102_4
      replace p102:=eq_true p102
      replace q102:=eq_true q102
      have hcz7_0:wr.cell? ⟨gb101,0,none⟩ = some (.string a1_0):=(blk_cell BK101.out 0).trans rfl
      have hcz7_1:wr.cell? ⟨gb101,1,none⟩ = some (.int .i64 a1_1):=(blk_cell BK101.out 1).trans rfl
      have hcz7_2:wr.cell? ⟨gb101,2,none⟩ = some (.int .i64 a1_2):=(blk_cell BK101.out 2).trans rfl
      have hcz7_3:wr.cell? ⟨gb101,3,none⟩ = some (.int .i64 a1_3):=(blk_cell BK101.out 3).trans rfl
      have hfz7_0:=blk_frozen BK101.out 0
      have hfz7_1:=blk_frozen BK101.out 1
      have hfz7_2:=blk_frozen BK101.out 2
      have hfz7_3:=blk_frozen BK101.out 3
      go_wp2
      repeat (go_quiet (fail);try go_wp2)
      go_ret
      exact ⟨by first|rfl|(simp [errW_none,errW_some] <;> rfl)|(simp [*,errW_none,errW_some] <;> rfl),by repeat (first|(with_reducible first|exact HB.out|apply below_alloc|apply pw_below_drewN|apply below_drew1|refine below_set ?_ GE101.out)|exact HB.out)⟩
     ·rw [if_neg c6] at H
      have c6b0:((((rd_T91 l0 x5_1).f0.f0).toList) == a1_0.toList && (((rd_T91 l0 x5_1).f0.f1) == a1_1 && (((rd_T91 l0 x5_1).f0.f2) == a1_2 && (((rd_T91 l0 x5_1).f0.f3) == a1_3)))) = false:=by simpa using c6
      (try (have c6b1:decide ((((rd_T91 l0 x5_1).f0.f0).toList) = a1_0.toList && (((rd_T91 l0 x5_1).f0.f1) == a1_1 && (((rd_T91 l0 x5_1).f0.f2) == a1_2 && (((rd_T91 l0 x5_1).f0.f3) == a1_3)))) = false:=by simpa using c6))
      (try (have c6b2:((((rd_T91 l0 x5_1).f0.f0).toList) == a1_0.toList && (((rd_T91 l0 x5_1).f0.f1) == a1_1 && (((rd_T91 l0 x5_1).f0.f2) == a1_2 && (((rd_T91 l0 x5_1).f0.f3) == a1_3)))) = false:=by simpa using c6))
      (try (have c6b3:¬ ((((rd_T91 l0 x5_1).f0.f0).toList) = a1_0.toList && (((rd_T91 l0 x5_1).f0.f1) == a1_1 && (((rd_T91 l0 x5_1).f0.f2) == a1_2 && (((rd_T91 l0 x5_1).f0.f3) == a1_3)))):=by simpa using c6))
      clear c6
      have H':=Aside0.mk H
      clear H
      have p102:0 ≤ (x5_1:Int):=of_decide_eq_true (by first|(with_reducible assumption)|assumption)
      have q102:x5_1 < (l0.length:Int):=of_decide_eq_true (by first|(with_reducible assumption)|assumption)
      obtain ⟨ad102,A102_4,c102_4,e102,hx102_0,hx102_1,hx102_2,hx102_3,hx102_4,hx102_5,hl102_4,hi102_4⟩:=at_T91 HR0.out x5_1 p102 q102
      cases e102
      replace hx102_0:=(HB.out.cell (World.block_lt_of_cell? w _ hx102_0)).trans hx102_0
      replace hx102_1:=(HB.out.cell (World.block_lt_of_cell? w _ hx102_1)).trans hx102_1
      replace hx102_2:=(HB.out.cell (World.block_lt_of_cell? w _ hx102_2)).trans hx102_2
      replace hx102_3:=(HB.out.cell (World.block_lt_of_cell? w _ hx102_3)).trans hx102_3
      replace hx102_4:=(HB.out.cell (World.block_lt_of_cell? w _ hx102_4)).trans hx102_4
      replace hx102_5:=(HB.out.cell (World.block_lt_of_cell? w _ hx102_5)).trans hx102_5
      have HR102_4:=Aside0.mk hi102_4
      have HC102_4:=Aside0.mk hl102_4
      clear hi102_4 hl102_4
      replace p102:=eq_true p102
      replace q102:=eq_true q102
      have hcz8_0:wr.cell? ⟨gb101,0,none⟩ = some (.string a1_0):=(blk_cell BK101.out 0).trans rfl
      have hcz8_1:wr.cell? ⟨gb101,1,none⟩ = some (.int .i64 a1_1):=(blk_cell BK101.out 1).trans rfl
      have hcz8_2:wr.cell? ⟨gb101,2,none⟩ = some (.int .i64 a1_2):=(blk_cell BK101.out 2).trans rfl
      have hcz8_3:wr.cell? ⟨gb101,3,none⟩ = some (.int .i64 a1_3):=(blk_cell BK101.out 3).trans rfl
      have hfz8_0:=blk_frozen BK101.out 0
      have hfz8_1:=blk_frozen BK101.out 1
      have hfz8_2:=blk_frozen BK101.out 2
      have hfz8_3:=blk_frozen BK101.out 3
      go_wp2
      repeat (go_quiet (fail);try go_wp2)
      go_roundg k1
      case measure=>have:=HK1.out;omega
      case rel=>exact ⟨(wrap64 (x5_1 + 1)),(by first|rfl|(simp;done)|(simp [*];done)),H',⟨by have:=HK1.out;omega⟩,⟨by (with_reducible repeat (first|refine blk_drewN ?_ _|refine blk_drew ?_|refine blk_alloc ?_ _));exact BK101.out⟩,⟨by repeat (first|(with_reducible first|exact HB.out|apply below_alloc|apply pw_below_drewN|apply below_drew1|refine below_set ?_ GE101.out)|exact HB.out)⟩⟩
    ·rw [if_neg c5] at H
     exact absurd H (by simp)
   ·rw [if_neg c4] at H
    have c4b0:decide (x5_1 < (l0.length:Int)) = false:=decide_eq_false c4
    clear c4
    obtain rfl:=Option.some.inj H
    go_wp2
    repeat (go_quiet (fail);try go_wp2)
    go_ret
    exact ⟨by first|rfl|(simp [errW_none,errW_some] <;> rfl)|(simp [*,errW_none,errW_some] <;> rfl),by repeat (first|(with_reducible first|exact HB.out|apply below_alloc|apply pw_below_drewN|apply below_drew1|refine below_set ?_ GE101.out)|exact HB.out)⟩
end Go.Proofs.Ytbgeceiddcokmaa.X
end
section
namespace Go.Proofs.Ytbgeceiddcokmaa.X
open Go.RowKit Go.Proofs.YtbgeceiddcokmaaW.PrintWords Go.Proofs.YtbgeceiddcokmaaW.PrintLast Go.Proofs.YtbgeceiddcokmaaW.PrintMore
attribute [local go_sem] max2_int min2_int max_two min_two max_three min_three max_four min_four
set_option linter.unusedVariables false
set_option linter.unusedSimpArgs false
def contangoref23_checks.l0:Nat → List (S73) → List (S91) → Int → Option (Int)
 | 0,_,_,_=>none
 | k + 1,x0,x1,x7=>if x7 < (x0.length:Int) then (if 0 ≤ x7 then ((contangoref23_find.f k x1 ((rd_T73 x0 x7).f0.f0) ((rd_T73 x0 x7).f0.f1) ((rd_T73 x0 x7).f0.f2) ((rd_T73 x0 x7).f0.f3)).bind fun t104=>(if t104 < 0 then (some 11) else (contangoref23_checks.l0 k x0 x1 (wrap64 (x7 + 1))))) else (none)) else (some 0)
def contangoref23_checks.f (k:Nat) (l0:List (S73)) (l1:List (S91)):Option (Int):=(contangoref23_Check.f k l1).bind fun t101=>(if t101 = 0 then ((contangoref15_Check.f k l0).bind fun t102=>(if t102 = 0 then (contangoref23_checks.l0 k l0 l1 0) else (some t102))) else (some t101))
set_option maxHeartbeats 8000000 in
set_option maxRecDepth 100000 in
theorem contangoref23_checks.calls (k:Nat) (A0:Option Addr) (c0:Nat) (l0:List (S73)) (A1:Option Addr) (c1:Nat) (l1:List (S91)) (r:Int) (w:World) (hr0:Kd.C k73 w A0 l0.length l0) (hc0:l0.length ≤ c0) (hr1:Kd.C k91 w A1 l1.length l1) (hc1:l1.length ≤ c1) (h:contangoref23_checks.f k l0 l1 = some r) :
  Calls Try.prog 59 #[.slice A0 l0.length c0,.slice A1 l1.length c1] w fun e w'=>e = .returned (.int .i64 r) ∧ Below w.heap.size w w':=by
 have hu39:=Try.underlying39
 have HR0:=Aside0.mk hr0
 have HC0:=Aside0.mk hc0
 clear hr0 hc0
 have HR1:=Aside0.mk hr1
 have HC1:=Aside0.mk hc1
 clear hr1 hc1
 have HB:=Aside0.mk (Below.refl w.heap.size w)
 have H:((contangoref23_Check.f k l1).bind fun t101=>(if t101 = 0 then ((contangoref15_Check.f k l0).bind fun t102=>(if t102 = 0 then (contangoref23_checks.l0 k l0 l1 0) else (some t102))) else (some t101))) = some r:=h
 clear h
 replace H:=Option.bind_eq_some_iff.mp H
 obtain ⟨t101,A30,H⟩:=H
 replace H:(if t101 = 0 then ((contangoref15_Check.f k l0).bind fun t102=>(if t102 = 0 then (contangoref23_checks.l0 k l0 l1 0) else (some t102))) else (some t101)) = some r:=H
 have A3:=Aside0.mk A30
 clear A30
 by_cases c4:t101 = 0
 ·rw [if_pos c4] at H
  have c4b0:(t101 == 0) = true:=beq_iff_eq.mpr c4
  have c4b1:(t101 != 0) = false:=bne_eq_false_iff_eq.mpr c4
  clear c4
  replace H:=Option.bind_eq_some_iff.mp H
  obtain ⟨t102,A50,H⟩:=H
  replace H:(if t102 = 0 then (contangoref23_checks.l0 k l0 l1 0) else (some t102)) = some r:=H
  have A5:=Aside0.mk A50
  clear A50
  by_cases c6:t102 = 0
  ·rw [if_pos c6] at H
   have c6b0:(t102 == 0) = true:=beq_iff_eq.mpr c6
   have c6b1:(t102 != 0) = false:=bne_eq_false_iff_eq.mpr c6
   clear c6
   have H':=Aside0.mk H
   clear H
   go_enter Try.func59,Try.ntmps59
   go_wp2_with (first|((with_reducible refine gate_callee (f:=32) rfl ?_);refine goesL_ (some 9) rfl rfl Try.func32 (by kernel_rfl) rfl #[.slice A1 l1.length c1] rfl (by (try simp only [List.map_toArray,List.map_cons,List.map_nil]);first|done|rfl|(simp only [List.length_drop,List.length_take];rfl)) ?_;(with_reducible refine (contangoref23_Check.calls k _ _ l1 t101 _ ?side1 ?side2 A3.out).mono ?_);(case side1=>repeat (first|exact HR1.out|(with_reducible refine Kd.C_alloc ?_ _)|(with_reducible refine Kd.C_drewN ?_ _)|(with_reducible refine Kd.C_drew ?_)));(case side2=>exact HC1.out);rintro e w7 ⟨rfl,hb⟩;refine ⟨_,rfl,?_⟩;have n0_:=Aside0.mk (below_step (by repeat (first|(with_reducible first|exact HB.out|apply below_alloc|apply pw_below_drewN|apply below_drew1)|exact HB.out)) hb);clear HB;have HB:=n0_;clear n0_;(try clear hb);(try clear hb2);(try clear hk);(try clear hi))|((with_reducible refine gate_callee (f:=66) rfl ?_);refine goesL_ (some 14) rfl rfl Try.func66 (by kernel_rfl) rfl #[.slice A0 l0.length c0] rfl (by (try simp only [List.map_toArray,List.map_cons,List.map_nil]);first|done|rfl|(simp only [List.length_drop,List.length_take];rfl)) ?_;(with_reducible refine (contangoref15_Check.calls k _ _ l0 t102 _ ?side1 ?side2 A5.out).mono ?_);(case side1=>repeat (first|exact (Kd.C_below HR0.out HB.out)|(with_reducible refine Kd.C_alloc ?_ _)|(with_reducible refine Kd.C_drewN ?_ _)|(with_reducible refine Kd.C_drew ?_)));(case side2=>exact HC0.out);rintro e w8 ⟨rfl,hb⟩;refine ⟨_,rfl,?_⟩;have n0_:=Aside0.mk (below_step (by repeat (first|(with_reducible first|exact HB.out|apply below_alloc|apply pw_below_drewN|apply below_drew1)|exact HB.out)) hb);clear HB;have HB:=n0_;clear n0_;(try clear hb);(try clear hb2);(try clear hk);(try clear hi)))
   go_loopg [7] k (fun kq v7 w'=>∃ (x7_1:Int),v7 = .int .i64 x7_1 ∧ Aside0 (contangoref23_checks.l0 kq l0 l1 x7_1 = some r) ∧ Aside0 (kq ≤ k) ∧ Aside0 (Below w.heap.size w w'))
   case atStart=>exact ⟨(0),(by first|rfl|(simp;done)|(simp [*];done)),H',⟨Nat.le_refl _⟩,⟨by repeat (first|(with_reducible first|exact HB.out|apply below_alloc|apply pw_below_drewN|apply below_drew1)|exact HB.out)⟩⟩
   case round =>
    clear H'
    try clear c1
    try clear p2
    try clear c3
    try clear c4
    try clear c4b0
    try clear c4b1
    try clear c5
    try clear c6
    try clear c6b0
    try clear c6b1
    obtain ⟨x7_1,rfl,HA,HK1,HB⟩:=hrel
    cases gk with
    | zero=>exact absurd HA.out (by simp [contangoref23_checks.l0])
    | succ k1 =>
     have H:=HA.out
     clear HA
     simp only [contangoref23_checks.l0] at H
     by_cases c9:x7_1 < (l0.length:Int)
     ·rw [if_pos c9] at H
      have c9b0:decide (x7_1 < (l0.length:Int)) = true:=decide_eq_true c9
      clear c9
      by_cases c10:0 ≤ x7_1
      ·rw [if_pos c10] at H
       have c10b0:decide (0 ≤ x7_1) = true:=decide_eq_true c10
       clear c10
       replace H:=Option.bind_eq_some_iff.mp H
       obtain ⟨t104,A110,H⟩:=H
       replace H:(if t104 < 0 then (some 11) else (contangoref23_checks.l0 k1 l0 l1 (wrap64 (x7_1 + 1)))) = some r:=H
       have A11:=Aside0.mk A110
       clear A110
       by_cases c12:t104 < 0
       ·rw [if_pos c12] at H
        have c12b0:decide (t104 < 0) = true:=decide_eq_true c12
        clear c12
        obtain rfl:=Option.some.inj H
        have p103:0 ≤ (x7_1:Int):=of_decide_eq_true (by first|(with_reducible assumption)|assumption)
        have q103:x7_1 < (l0.length:Int):=of_decide_eq_true (by first|(with_reducible assumption)|assumption)
        obtain ⟨ad103,e103,hx103_0,hx103_1,hx103_2,hx103_3,hx103_4,hx103_5⟩:=at_T73 HR0.out x7_1 p103 q103
        cases e103
        replace hx103_0:=(HB.out.cell (World.block_lt_of_cell? w _ hx103_0)).trans hx103_0
        replace hx103_1:=(HB.out.cell (World.block_lt_of_cell? w _ hx103_1)).trans hx103_1
        replace hx103_2:=(HB.out.cell (World.block_lt_of_cell? w _ hx103_2)).trans hx103_2
        replace hx103_3:=(HB.out.cell (World.block_lt_of_cell? w _ hx103_3)).trans hx103_3
        replace hx103_4:=(HB.out.cell (World.block_lt_of_cell? w _ hx103_4)).trans hx103_4
        replace hx103_5:=(HB.out.cell (World.block_lt_of_cell? w _ hx103_5)).trans hx103_5
        replace p103:=eq_true p103
        replace q103:=eq_true q103
        go_wp2_with (first|((with_reducible refine gate_callee (f:=60) rfl ?_);refine goesL_ (some 30) rfl rfl Try.func60 (by kernel_rfl) rfl #[.slice A1 l1.length c1,.agg #[.string ((rd_T73 l0 x7_1).f0.f0),.int .i64 ((rd_T73 l0 x7_1).f0.f1),.int .i64 ((rd_T73 l0 x7_1).f0.f2),.int .i64 ((rd_T73 l0 x7_1).f0.f3)]] rfl (by (try simp only [List.map_toArray,List.map_cons,List.map_nil]);first|done|rfl|(simp only [List.length_drop,List.length_take];rfl)) ?_;(with_reducible refine (contangoref23_find.calls k1 _ _ l1 ((rd_T73 l0 x7_1).f0.f0) ((rd_T73 l0 x7_1).f0.f1) ((rd_T73 l0 x7_1).f0.f2) ((rd_T73 l0 x7_1).f0.f3) t104 _ ?side1 ?side2 A11.out).mono ?_);(case side1=>repeat (first|exact (Kd.C_below HR1.out HB.out)|(with_reducible refine Kd.C_alloc ?_ _)|(with_reducible refine Kd.C_drewN ?_ _)|(with_reducible refine Kd.C_drew ?_)));(case side2=>exact HC1.out);rintro e w13 ⟨rfl,hb⟩;refine ⟨_,rfl,?_⟩;have n0_:=Aside0.mk (below_step (by repeat (first|(with_reducible first|exact HB.out|apply below_alloc|apply pw_below_drewN|apply below_drew1)|exact HB.out)) hb);clear HB;have HB:=n0_;clear n0_;(try clear hb);(try clear hb2);(try clear hk);(try clear hi)))
        go_ret
        exact ⟨by first|rfl|(simp [errW_none,errW_some] <;> rfl)|(simp [*,errW_none,errW_some] <;> rfl),by repeat (first|(with_reducible first|exact HB.out|apply below_alloc|apply pw_below_drewN|apply below_drew1)|exact HB.out)⟩
       ·rw [if_neg c12] at H
        have c12b0:decide (t104 < 0) = false:=decide_eq_false c12
        clear c12
        have H':=Aside0.mk H
        clear H
        have p103:0 ≤ (x7_1:Int):=of_decide_eq_true (by first|(with_reducible assumption)|assumption)
        have q103:x7_1 < (l0.length:Int):=of_decide_eq_true (by first|(with_reducible assumption)|assumption)
        obtain ⟨ad103,e103,hx103_0,hx103_1,hx103_2,hx103_3,hx103_4,hx103_5⟩:=at_T73 HR0.out x7_1 p103 q103
        cases e103
        replace hx103_0:=(HB.out.cell (World.block_lt_of_cell? w _ hx103_0)).trans hx103_0
        replace hx103_1:=(HB.out.cell (World.block_lt_of_cell? w _ hx103_1)).trans hx103_1
        replace hx103_2:=(HB.out.cell (World.block_lt_of_cell? w _ hx103_2)).trans hx103_2
        replace hx103_3:=(HB.out.cell (World.block_lt_of_cell? w _ hx103_3)).trans hx103_3
        replace hx103_4:=(HB.out.cell (World.block_lt_of_cell? w _ hx103_4)).trans hx103_4
        replace hx103_5:=(HB.out.cell (World.block_lt_of_cell? w _ hx103_5)).trans hx103_5
        replace p103:=eq_true p103
        replace q103:=eq_true q103
        go_wp2_with (first|((with_reducible refine gate_callee (f:=60) rfl ?_);refine goesL_ (some 30) rfl rfl Try.func60 (by kernel_rfl) rfl #[.slice A1 l1.length c1,.agg #[.string ((rd_T73 l0 x7_1).f0.f0),.int .i64 ((rd_T73 l0 x7_1).f0.f1),.int .i64 ((rd_T73 l0 x7_1).f0.f2),.int .i64 ((rd_T73 l0 x7_1).f0.f3)]] rfl (by (try simp only [List.map_toArray,List.map_cons,List.map_nil]);first|done|rfl|(simp only [List.length_drop,List.length_take];rfl)) ?_;(with_reducible refine (contangoref23_find.calls k1 _ _ l1 ((rd_T73 l0 x7_1).f0.f0) ((rd_T73 l0 x7_1).f0.f1) ((rd_T73 l0 x7_1).f0.f2) ((rd_T73 l0 x7_1).f0.f3) t104 _ ?side1 ?side2 A11.out).mono ?_);(case side1=>repeat (first|exact (Kd.C_below HR1.out HB.out)|(with_reducible refine Kd.C_alloc ?_ _)|(with_reducible refine Kd.C_drewN ?_ _)|(with_reducible refine Kd.C_drew ?_)));(case side2=>exact HC1.out);rintro e w14 ⟨rfl,hb⟩;refine ⟨_,rfl,?_⟩;have n0_:=Aside0.mk (below_step (by repeat (first|(with_reducible first|exact HB.out|apply below_alloc|apply pw_below_drewN|apply below_drew1)|exact HB.out)) hb);clear HB;have HB:=n0_;clear n0_;(try clear hb);(try clear hb2);(try clear hk);(try clear hi)))
        go_roundg k1
        case measure=>have:=HK1.out;omega
        case rel=>exact ⟨(wrap64 (x7_1 + 1)),(by first|rfl|(simp;done)|(simp [*];done)),H',⟨by have:=HK1.out;omega⟩,⟨by repeat (first|(with_reducible first|exact HB.out|apply below_alloc|apply pw_below_drewN|apply below_drew1)|exact HB.out)⟩⟩
      ·rw [if_neg c10] at H
       exact absurd H (by simp)
     ·rw [if_neg c9] at H
      have c9b0:decide (x7_1 < (l0.length:Int)) = false:=decide_eq_false c9
      clear c9
      obtain rfl:=Option.some.inj H
      go_wp2
      go_ret
      exact ⟨by first|rfl|(simp [errW_none,errW_some] <;> rfl)|(simp [*,errW_none,errW_some] <;> rfl),by repeat (first|(with_reducible first|exact HB.out|apply below_alloc|apply pw_below_drewN|apply below_drew1)|exact HB.out)⟩
  ·rw [if_neg c6] at H
   have c6b0:(t102 == 0) = false:=beq_eq_false_iff_ne.mpr c6
   have c6b1:(t102 != 0) = true:=bne_iff_ne.mpr c6
   obtain rfl:=Option.some.inj H
   go_enter Try.func59,Try.ntmps59
   go_wp2_with (first|((with_reducible refine gate_callee (f:=32) rfl ?_);refine goesL_ (some 9) rfl rfl Try.func32 (by kernel_rfl) rfl #[.slice A1 l1.length c1] rfl (by (try simp only [List.map_toArray,List.map_cons,List.map_nil]);first|done|rfl|(simp only [List.length_drop,List.length_take];rfl)) ?_;(with_reducible refine (contangoref23_Check.calls k _ _ l1 t101 _ ?side1 ?side2 A3.out).mono ?_);(case side1=>repeat (first|exact HR1.out|(with_reducible refine Kd.C_alloc ?_ _)|(with_reducible refine Kd.C_drewN ?_ _)|(with_reducible refine Kd.C_drew ?_)));(case side2=>exact HC1.out);rintro e w15 ⟨rfl,hb⟩;refine ⟨_,rfl,?_⟩;have n0_:=Aside0.mk (below_step (by repeat (first|(with_reducible first|exact HB.out|apply below_alloc|apply pw_below_drewN|apply below_drew1)|exact HB.out)) hb);clear HB;have HB:=n0_;clear n0_;(try clear hb);(try clear hb2);(try clear hk);(try clear hi))|((with_reducible refine gate_callee (f:=66) rfl ?_);refine goesL_ (some 14) rfl rfl Try.func66 (by kernel_rfl) rfl #[.slice A0 l0.length c0] rfl (by (try simp only [List.map_toArray,List.map_cons,List.map_nil]);first|done|rfl|(simp only [List.length_drop,List.length_take];rfl)) ?_;(with_reducible refine (contangoref15_Check.calls k _ _ l0 t102 _ ?side1 ?side2 A5.out).mono ?_);(case side1=>repeat (first|exact (Kd.C_below HR0.out HB.out)|(with_reducible refine Kd.C_alloc ?_ _)|(with_reducible refine Kd.C_drewN ?_ _)|(with_reducible refine Kd.C_drew ?_)));(case side2=>exact HC0.out);rintro e w16 ⟨rfl,hb⟩;refine ⟨_,rfl,?_⟩;have n0_:=Aside0.mk (below_step (by repeat (first|(with_reducible first|exact HB.out|apply below_alloc|apply pw_below_drewN|apply below_drew1)|exact HB.out)) hb);clear HB;have HB:=n0_;clear n0_;(try clear hb);(try clear hb2);(try clear hk);(try clear hi)))
   go_ret
   exact ⟨by first|rfl|(simp [errW_none,errW_some] <;> rfl)|(simp [*,errW_none,errW_some] <;> rfl),by repeat (first|(with_reducible first|exact HB.out|apply below_alloc|apply pw_below_drewN|apply below_drew1)|exact HB.out)⟩
 ·rw [if_neg c4] at H
  have c4b0:(t101 == 0) = false:=beq_eq_false_iff_ne.mpr c4
  have c4b1:(t101 != 0) = true:=bne_iff_ne.mpr c4
  obtain rfl:=Option.some.inj H
  go_enter Try.func59,Try.ntmps59
  go_wp2_with (first|((with_reducible refine gate_callee (f:=32) rfl ?_);refine goesL_ (some 9) rfl rfl Try.func32 (by kernel_rfl) rfl #[.slice A1 l1.length c1] rfl (by (try simp only [List.map_toArray,List.map_cons,List.map_nil]);first|done|rfl|(simp only [List.length_drop,List.length_take];rfl)) ?_;(with_reducible refine (contangoref23_Check.calls k _ _ l1 t101 _ ?side1 ?side2 A3.out).mono ?_);(case side1=>repeat (first|exact HR1.out|(with_reducible refine Kd.C_alloc ?_ _)|(with_reducible refine Kd.C_drewN ?_ _)|(with_reducible refine Kd.C_drew ?_)));(case side2=>exact HC1.out);rintro e w17 ⟨rfl,hb⟩;refine ⟨_,rfl,?_⟩;have n0_:=Aside0.mk (below_step (by repeat (first|(with_reducible first|exact HB.out|apply below_alloc|apply pw_below_drewN|apply below_drew1)|exact HB.out)) hb);clear HB;have HB:=n0_;clear n0_;(try clear hb);(try clear hb2);(try clear hk);(try clear hi)))
  go_ret
  exact ⟨by first|rfl|(simp [errW_none,errW_some] <;> rfl)|(simp [*,errW_none,errW_some] <;> rfl),by repeat (first|(with_reducible first|exact HB.out|apply below_alloc|apply pw_below_drewN|apply below_drew1)|exact HB.out)⟩
end Go.Proofs.Ytbgeceiddcokmaa.X
end
section
namespace Go.Proofs.Ytbgeceiddcokmaa.X
open Go.RowKit Go.Proofs.YtbgeceiddcokmaaW.PrintWords Go.Proofs.YtbgeceiddcokmaaW.PrintLast Go.Proofs.YtbgeceiddcokmaaW.PrintMore
attribute [local go_sem] max2_int min2_int max_two min_two max_three min_three max_four min_four
set_option linter.unusedVariables false
set_option linter.unusedSimpArgs false
def contangoref23_Delta.l0:Nat → List (S73) → List (S91) → Int → Int → Option (Int × Int)
 | 0,_,_,_,_=>none
 | k + 1,x0,x1,x7,x8=>if x8 < (x0.length:Int) then (if 0 ≤ x8 then ((contangoref23_find.f k x1 ((rd_T73 x0 x8).f0.f0) ((rd_T73 x0 x8).f0.f1) ((rd_T73 x0 x8).f0.f2) ((rd_T73 x0 x8).f0.f3)).bind fun t105=>(if 0 ≤ t105 then (if t105 < (x1.length:Int) then (contangoref23_Delta.l0 k x0 x1 (wrap64 (x7 + (wrap64 ((wrap64 (((rd_T73 x0 x8).f1) - ((rd_T73 x0 x8).f2))) * ((rd_T91 x1 t105).f2))))) (wrap64 (x8 + 1))) else (none)) else (none))) else (none)) else (some (x7,0))
def contangoref23_Delta.f (k:Nat) (l0:List (S73)) (l1:List (S91)):Option (Int × Int):=(contangoref23_checks.f k l0 l1).bind fun t101=>(if t101 = 0 then (contangoref23_Delta.l0 k l0 l1 0 0) else (some (0,t101)))
def contangoref23_Delta.T8:Bool × List (List Nat × List Nat):=(true,[([],[]),([],[]),([],[]),([1,2],[1,2]),([3],[3]),([4],[4]),([],[]),([],[]),([6,7],[6,7]),([8],[8]),([9],[9]),([5,10],[5,10]),([],[]),([],[]),([],[]),([],[]),([14,15],[14,15]),([16],[16]),([17],[17]),([13,18],[13,18]),([12,19],[12,19]),([20],[20]),([21],[21]),([11,22],[11,22]),([0,23],[0,23]),([24,19,0,1,2,3,4,5,6,7,8,9,10,11,12,13,14,15,16,17,18,19,20,21,22,23,24],[0,24])])
def contangoref23_Delta.B8:List Nat:=[0,0,0,6,14,30,0,0,192,448,960,2046,0,0,0,0,49152,114688,245760,516096,1044480,2093056,4190208,8388606,16777215,33554431]
theorem contangoref23_Delta.tab8:rtab .any (opsOf Try.f42 8) = contangoref23_Delta.T8:=by kernel_rfl
theorem contangoref23_Delta.bits8:waitsOk contangoref23_Delta.T8.2 contangoref23_Delta.B8 = true:=by kernel_rfl
set_option maxHeartbeats 8000000 in
set_option maxRecDepth 100000 in
theorem contangoref23_Delta.calls (k:Nat) (A0:Option Addr) (c0:Nat) (l0:List (S73)) (A1:Option Addr) (c1:Nat) (l1:List (S91)) (r1:Int) (r2:Int) (w:World) (hr0:Kd.C k73 w A0 l0.length l0) (hc0:l0.length ≤ c0) (hr1:Kd.C k91 w A1 l1.length l1) (hc1:l1.length ≤ c1) (h:contangoref23_Delta.f k l0 l1 = some (r1,r2)) :
  Calls Try.prog 42 #[.slice A0 l0.length c0,.slice A1 l1.length c1] w fun e w'=>e = .returned (.tuple #[.int .i64 r1,.int .i64 r2]) ∧ Below w.heap.size w w':=by
 have hu39:=Try.underlying39
 have HR0:=Aside0.mk hr0
 have HC0:=Aside0.mk hc0
 clear hr0 hc0
 have HR1:=Aside0.mk hr1
 have HC1:=Aside0.mk hc1
 clear hr1 hc1
 have HB:=Aside0.mk (Below.refl w.heap.size w)
 have H:((contangoref23_checks.f k l0 l1).bind fun t101=>(if t101 = 0 then (contangoref23_Delta.l0 k l0 l1 0 0) else (some (0,t101)))) = some (r1,r2):=h
 clear h
 replace H:=Option.bind_eq_some_iff.mp H
 obtain ⟨t101,A30,H⟩:=H
 replace H:(if t101 = 0 then (contangoref23_Delta.l0 k l0 l1 0 0) else (some (0,t101))) = some (r1,r2):=H
 have A3:=Aside0.mk A30
 clear A30
 by_cases c4:t101 = 0
 ·rw [if_pos c4] at H
  have c4b0:(t101 == 0) = true:=beq_iff_eq.mpr c4
  have c4b1:(t101 != 0) = false:=bne_eq_false_iff_eq.mpr c4
  clear c4
  have H':=Aside0.mk H
  clear H
  go_enter Try.func42,Try.ntmps42
  go_wp2_with (first|((with_reducible refine gate_callee (f:=59) rfl ?_);refine goesL_ (some 11) rfl rfl Try.func59 (by kernel_rfl) rfl #[.slice A0 l0.length c0,.slice A1 l1.length c1] rfl (by (try simp only [List.map_toArray,List.map_cons,List.map_nil]);first|done|rfl|(simp only [List.length_drop,List.length_take];rfl)) ?_;(with_reducible refine (contangoref23_checks.calls k _ _ l0 _ _ l1 t101 _ ?side1 ?side2 ?side3 ?side4 A3.out).mono ?_);(case side1=>repeat (first|exact HR0.out|(with_reducible refine Kd.C_alloc ?_ _)|(with_reducible refine Kd.C_drewN ?_ _)|(with_reducible refine Kd.C_drew ?_)));(case side2=>exact HC0.out);(case side3=>repeat (first|exact HR1.out|(with_reducible refine Kd.C_alloc ?_ _)|(with_reducible refine Kd.C_drewN ?_ _)|(with_reducible refine Kd.C_drew ?_)));(case side4=>exact HC1.out);rintro e w5 ⟨rfl,hb⟩;refine ⟨_,rfl,?_⟩;have n0_:=Aside0.mk (below_step (by repeat (first|(with_reducible first|exact HB.out|apply below_alloc|apply pw_below_drewN|apply below_drew1)|exact HB.out)) hb);clear HB;have HB:=n0_;clear n0_;(try clear hb);(try clear hb2);(try clear hk);(try clear hi)))
  go_loopg [7,8] k (fun kq v7 v8 w'=>∃ (x7_1:Int) (x8_1:Int),v7 = .int .i64 x7_1 ∧ v8 = .int .i64 x8_1 ∧ Aside0 (contangoref23_Delta.l0 kq l0 l1 x7_1 x8_1 = some (r1,r2)) ∧ Aside0 (kq ≤ k) ∧ Aside0 (Below w.heap.size w w'))
  case atStart=>exact ⟨(0),(0),(by first|rfl|(simp;done)|(simp [*];done)),(by first|rfl|(simp;done)|(simp [*];done)),H',⟨Nat.le_refl _⟩,⟨by repeat (first|(with_reducible first|exact HB.out|apply below_alloc|apply pw_below_drewN|apply below_drew1)|exact HB.out)⟩⟩
  case round =>
   clear H'
   try clear c1
   try clear p2
   try clear c4
   try clear c4b0
   try clear c4b1
   try clear c5
   obtain ⟨x7_1,x8_1,rfl,rfl,HA,HK1,HB⟩:=hrel
   cases gk with
   | zero=>exact absurd HA.out (by simp [contangoref23_Delta.l0])
   | succ k1 =>
    have H:=HA.out
    clear HA
    simp only [contangoref23_Delta.l0] at H
    by_cases c6:x8_1 < (l0.length:Int)
    ·rw [if_pos c6] at H
     have c6b0:decide (x8_1 < (l0.length:Int)) = true:=decide_eq_true c6
     clear c6
     by_cases c7:0 ≤ x8_1
     ·rw [if_pos c7] at H
      have c7b0:decide (0 ≤ x8_1) = true:=decide_eq_true c7
      clear c7
      replace H:=Option.bind_eq_some_iff.mp H
      obtain ⟨t105,A80,H⟩:=H
      replace H:(if 0 ≤ t105 then (if t105 < (l1.length:Int) then (contangoref23_Delta.l0 k1 l0 l1 (wrap64 (x7_1 + (wrap64 ((wrap64 (((rd_T73 l0 x8_1).f1) - ((rd_T73 l0 x8_1).f2))) * ((rd_T91 l1 t105).f2))))) (wrap64 (x8_1 + 1))) else (none)) else (none)) = some (r1,r2):=H
      have A8:=Aside0.mk A80
      clear A80
      by_cases c9:0 ≤ t105
      ·rw [if_pos c9] at H
       have c9b0:decide (0 ≤ t105) = true:=decide_eq_true c9
       clear c9
       by_cases c10:t105 < (l1.length:Int)
       ·rw [if_pos c10] at H
        have c10b0:decide (t105 < (l1.length:Int)) = true:=decide_eq_true c10
        clear c10
        have H':=Aside0.mk H
        clear H
        try go_wp2
        have n0_:=Aside0.mk (below_drew1 HB.out)
        clear HB
        have HB:=n0_
        clear n0_
        have p102:0 ≤ (x8_1:Int):=of_decide_eq_true (by first|(with_reducible assumption)|assumption)
        have q102:x8_1 < (l0.length:Int):=of_decide_eq_true (by first|(with_reducible assumption)|assumption)
        obtain ⟨ad102,e102,hx102_0,hx102_1,hx102_2,hx102_3,hx102_4,hx102_5⟩:=at_T73 HR0.out x8_1 p102 q102
        have hw102_5:=hx102_5
        have hw102_4:=hx102_4
        have hw102_3:=hx102_3
        have hw102_2:=hx102_2
        have hw102_1:=hx102_1
        have hw102_0:=hx102_0
        cases e102
        replace hx102_0:=(HB.out.cell (World.block_lt_of_cell? w _ hx102_0)).trans hx102_0
        replace hx102_1:=(HB.out.cell (World.block_lt_of_cell? w _ hx102_1)).trans hx102_1
        replace hx102_2:=(HB.out.cell (World.block_lt_of_cell? w _ hx102_2)).trans hx102_2
        replace hx102_3:=(HB.out.cell (World.block_lt_of_cell? w _ hx102_3)).trans hx102_3
        replace hx102_4:=(HB.out.cell (World.block_lt_of_cell? w _ hx102_4)).trans hx102_4
        replace hx102_5:=(HB.out.cell (World.block_lt_of_cell? w _ hx102_5)).trans hx102_5
        replace p102:=eq_true p102
        replace q102:=eq_true q102
        have p103:0 ≤ (x8_1:Int):=of_decide_eq_true (by first|(with_reducible assumption)|assumption)
        have q103:x8_1 < (l0.length:Int):=of_decide_eq_true (by first|(with_reducible assumption)|assumption)
        obtain ⟨ad103,e103,hx103_0,hx103_1,hx103_2,hx103_3,hx103_4,hx103_5⟩:=at_T73 HR0.out x8_1 p103 q103
        have hw103_5:=hx103_5
        have hw103_4:=hx103_4
        have hw103_3:=hx103_3
        have hw103_2:=hx103_2
        have hw103_1:=hx103_1
        have hw103_0:=hx103_0
        obtain rfl:ad102 = ad103:=(by injection e103)
        replace hx103_0:=(HB.out.cell (World.block_lt_of_cell? w _ hx103_0)).trans hx103_0
        replace hx103_1:=(HB.out.cell (World.block_lt_of_cell? w _ hx103_1)).trans hx103_1
        replace hx103_2:=(HB.out.cell (World.block_lt_of_cell? w _ hx103_2)).trans hx103_2
        replace hx103_3:=(HB.out.cell (World.block_lt_of_cell? w _ hx103_3)).trans hx103_3
        replace hx103_4:=(HB.out.cell (World.block_lt_of_cell? w _ hx103_4)).trans hx103_4
        replace hx103_5:=(HB.out.cell (World.block_lt_of_cell? w _ hx103_5)).trans hx103_5
        replace p103:=eq_true p103
        replace q103:=eq_true q103
        have p104:0 ≤ (x8_1:Int):=of_decide_eq_true (by first|(with_reducible assumption)|assumption)
        have q104:x8_1 < (l0.length:Int):=of_decide_eq_true (by first|(with_reducible assumption)|assumption)
        obtain ⟨ad104,e104,hx104_0,hx104_1,hx104_2,hx104_3,hx104_4,hx104_5⟩:=at_T73 HR0.out x8_1 p104 q104
        have hw104_5:=hx104_5
        have hw104_4:=hx104_4
        have hw104_3:=hx104_3
        have hw104_2:=hx104_2
        have hw104_1:=hx104_1
        have hw104_0:=hx104_0
        obtain rfl:ad102 = ad104:=(by injection e104)
        replace hx104_0:=(HB.out.cell (World.block_lt_of_cell? w _ hx104_0)).trans hx104_0
        replace hx104_1:=(HB.out.cell (World.block_lt_of_cell? w _ hx104_1)).trans hx104_1
        replace hx104_2:=(HB.out.cell (World.block_lt_of_cell? w _ hx104_2)).trans hx104_2
        replace hx104_3:=(HB.out.cell (World.block_lt_of_cell? w _ hx104_3)).trans hx104_3
        replace hx104_4:=(HB.out.cell (World.block_lt_of_cell? w _ hx104_4)).trans hx104_4
        replace hx104_5:=(HB.out.cell (World.block_lt_of_cell? w _ hx104_5)).trans hx104_5
        replace p104:=eq_true p104
        replace q104:=eq_true q104
        have p106:0 ≤ (t105:Int):=of_decide_eq_true (by first|(with_reducible assumption)|assumption)
        have q106:t105 < (l1.length:Int):=of_decide_eq_true (by first|(with_reducible assumption)|assumption)
        obtain ⟨ad106,A106_4,c106_4,e106,hx106_0,hx106_1,hx106_2,hx106_3,hx106_4,hx106_5,hl106_4,hi106_4⟩:=at_T91 HR1.out t105 p106 q106
        have hw106_5:=hx106_5
        have hw106_4:=hx106_4
        have hw106_3:=hx106_3
        have hw106_2:=hx106_2
        have hw106_1:=hx106_1
        have hw106_0:=hx106_0
        cases e106
        replace hx106_0:=(HB.out.cell (World.block_lt_of_cell? w _ hx106_0)).trans hx106_0
        replace hx106_1:=(HB.out.cell (World.block_lt_of_cell? w _ hx106_1)).trans hx106_1
        replace hx106_2:=(HB.out.cell (World.block_lt_of_cell? w _ hx106_2)).trans hx106_2
        replace hx106_3:=(HB.out.cell (World.block_lt_of_cell? w _ hx106_3)).trans hx106_3
        replace hx106_4:=(HB.out.cell (World.block_lt_of_cell? w _ hx106_4)).trans hx106_4
        replace hx106_5:=(HB.out.cell (World.block_lt_of_cell? w _ hx106_5)).trans hx106_5
        have HR106_4:=Aside0.mk hi106_4
        have HC106_4:=Aside0.mk hl106_4
        clear hi106_4 hl106_4
        replace p106:=eq_true p106
        replace q106:=eq_true q106
        refine start_ (n:=26) (S:=fun w'=>w'.cell? (ad102.add ((x8_1).toNat * 6)) = some (.string ((rd_T73 l0 x8_1).f0.f0)) ∧ w'.cell? ⟨(ad102.add ((x8_1).toNat * 6)).block,(ad102.add ((x8_1).toNat * 6)).off + 1,none⟩ = some (.int .i64 ((rd_T73 l0 x8_1).f0.f1)) ∧ w'.cell? ⟨(ad102.add ((x8_1).toNat * 6)).block,(ad102.add ((x8_1).toNat * 6)).off + 2,none⟩ = some (.int .i64 ((rd_T73 l0 x8_1).f0.f2)) ∧ w'.cell? ⟨(ad102.add ((x8_1).toNat * 6)).block,(ad102.add ((x8_1).toNat * 6)).off + 3,none⟩ = some (.int .i64 ((rd_T73 l0 x8_1).f0.f3)) ∧ w'.cell? ⟨(ad102.add ((x8_1).toNat * 6)).block,(ad102.add ((x8_1).toNat * 6)).off + 4,none⟩ = some (.int .i64 ((rd_T73 l0 x8_1).f1)) ∧ w'.cell? ⟨(ad102.add ((x8_1).toNat * 6)).block,(ad102.add ((x8_1).toNat * 6)).off + 5,none⟩ = some (.int .i64 ((rd_T73 l0 x8_1).f2)) ∧ w'.cell? (ad102.add ((x8_1).toNat * 6)) = some (.string ((rd_T73 l0 x8_1).f0.f0)) ∧ w'.cell? ⟨(ad102.add ((x8_1).toNat * 6)).block,(ad102.add ((x8_1).toNat * 6)).off + 1,none⟩ = some (.int .i64 ((rd_T73 l0 x8_1).f0.f1)) ∧ w'.cell? ⟨(ad102.add ((x8_1).toNat * 6)).block,(ad102.add ((x8_1).toNat * 6)).off + 2,none⟩ = some (.int .i64 ((rd_T73 l0 x8_1).f0.f2)) ∧ w'.cell? ⟨(ad102.add ((x8_1).toNat * 6)).block,(ad102.add ((x8_1).toNat * 6)).off + 3,none⟩ = some (.int .i64 ((rd_T73 l0 x8_1).f0.f3)) ∧ w'.cell? ⟨(ad102.add ((x8_1).toNat * 6)).block,(ad102.add ((x8_1).toNat * 6)).off + 4,none⟩ = some (.int .i64 ((rd_T73 l0 x8_1).f1)) ∧ w'.cell? ⟨(ad102.add ((x8_1).toNat * 6)).block,(ad102.add ((x8_1).toNat * 6)).off + 5,none⟩ = some (.int .i64 ((rd_T73 l0 x8_1).f2)) ∧ w'.cell? (ad102.add ((x8_1).toNat * 6)) = some (.string ((rd_T73 l0 x8_1).f0.f0)) ∧ w'.cell? ⟨(ad102.add ((x8_1).toNat * 6)).block,(ad102.add ((x8_1).toNat * 6)).off + 1,none⟩ = some (.int .i64 ((rd_T73 l0 x8_1).f0.f1)) ∧ w'.cell? ⟨(ad102.add ((x8_1).toNat * 6)).block,(ad102.add ((x8_1).toNat * 6)).off + 2,none⟩ = some (.int .i64 ((rd_T73 l0 x8_1).f0.f2)) ∧ w'.cell? ⟨(ad102.add ((x8_1).toNat * 6)).block,(ad102.add ((x8_1).toNat * 6)).off + 3,none⟩ = some (.int .i64 ((rd_T73 l0 x8_1).f0.f3)) ∧ w'.cell? ⟨(ad102.add ((x8_1).toNat * 6)).block,(ad102.add ((x8_1).toNat * 6)).off + 4,none⟩ = some (.int .i64 ((rd_T73 l0 x8_1).f1)) ∧ w'.cell? ⟨(ad102.add ((x8_1).toNat * 6)).block,(ad102.add ((x8_1).toNat * 6)).off + 5,none⟩ = some (.int .i64 ((rd_T73 l0 x8_1).f2)) ∧ w'.cell? (ad106.add ((t105).toNat * 6)) = some (.string ((rd_T91 l1 t105).f0.f0)) ∧ w'.cell? ⟨(ad106.add ((t105).toNat * 6)).block,(ad106.add ((t105).toNat * 6)).off + 1,none⟩ = some (.int .i64 ((rd_T91 l1 t105).f0.f1)) ∧ w'.cell? ⟨(ad106.add ((t105).toNat * 6)).block,(ad106.add ((t105).toNat * 6)).off + 2,none⟩ = some (.int .i64 ((rd_T91 l1 t105).f0.f2)) ∧ w'.cell? ⟨(ad106.add ((t105).toNat * 6)).block,(ad106.add ((t105).toNat * 6)).off + 3,none⟩ = some (.int .i64 ((rd_T91 l1 t105).f0.f3)) ∧ w'.cell? ⟨(ad106.add ((t105).toNat * 6)).block,(ad106.add ((t105).toNat * 6)).off + 4,none⟩ = some (.slice A106_4 ((rd_T91 l1 t105).f1).length c106_4) ∧ w'.cell? ⟨(ad106.add ((t105).toNat * 6)).block,(ad106.add ((t105).toNat * 6)).off + 5,none⟩ = some (.int .i64 ((rd_T91 l1 t105).f2))) (ds:=[]) #[Z,Z,Z,Z,Z,Z,Z,Z,Z,Z,Z,Z,Z,Z,Z,Z,Z,Z,Z,Z,Z,Z,Z,Z,Z,Z] (by kernel_rfl) rfl rfl ⟨((HB.out.cell (World.block_lt_of_cell? w _ hw102_0)).trans hw102_0),((HB.out.cell (World.block_lt_of_cell? w _ hw102_1)).trans hw102_1),((HB.out.cell (World.block_lt_of_cell? w _ hw102_2)).trans hw102_2),((HB.out.cell (World.block_lt_of_cell? w _ hw102_3)).trans hw102_3),((HB.out.cell (World.block_lt_of_cell? w _ hw102_4)).trans hw102_4),((HB.out.cell (World.block_lt_of_cell? w _ hw102_5)).trans hw102_5),((HB.out.cell (World.block_lt_of_cell? w _ hw103_0)).trans hw103_0),((HB.out.cell (World.block_lt_of_cell? w _ hw103_1)).trans hw103_1),((HB.out.cell (World.block_lt_of_cell? w _ hw103_2)).trans hw103_2),((HB.out.cell (World.block_lt_of_cell? w _ hw103_3)).trans hw103_3),((HB.out.cell (World.block_lt_of_cell? w _ hw103_4)).trans hw103_4),((HB.out.cell (World.block_lt_of_cell? w _ hw103_5)).trans hw103_5),((HB.out.cell (World.block_lt_of_cell? w _ hw104_0)).trans hw104_0),((HB.out.cell (World.block_lt_of_cell? w _ hw104_1)).trans hw104_1),((HB.out.cell (World.block_lt_of_cell? w _ hw104_2)).trans hw104_2),((HB.out.cell (World.block_lt_of_cell? w _ hw104_3)).trans hw104_3),((HB.out.cell (World.block_lt_of_cell? w _ hw104_4)).trans hw104_4),((HB.out.cell (World.block_lt_of_cell? w _ hw104_5)).trans hw104_5),((HB.out.cell (World.block_lt_of_cell? w _ hw106_0)).trans hw106_0),((HB.out.cell (World.block_lt_of_cell? w _ hw106_1)).trans hw106_1),((HB.out.cell (World.block_lt_of_cell? w _ hw106_2)).trans hw106_2),((HB.out.cell (World.block_lt_of_cell? w _ hw106_3)).trans hw106_3),((HB.out.cell (World.block_lt_of_cell? w _ hw106_4)).trans hw106_4),((HB.out.cell (World.block_lt_of_cell? w _ hw106_5)).trans hw106_5)⟩ (fun hHeld=>?_);refine with_tabW contangoref23_Delta.tab8 contangoref23_Delta.bits8 (fun HT_ HW_=>?_)
        generalize wr.drew = w11 at HB HR106_4 hx102_0 hx102_1 hx102_2 hx102_3 hx102_4 hx102_5 hx103_0 hx103_1 hx103_2 hx103_3 hx103_4 hx103_5 hx104_0 hx104_1 hx104_2 hx104_3 hx104_4 hx104_5 hx106_0 hx106_1 hx106_2 hx106_3 hx106_4 hx106_5 hHeld ⊢
        refine pure_ (i:=0) (N:=some 21) (v:=?_) (a':=?_) #[Y,Z,Z,Z,Z,Z,Z,Z,Z,Z,Z,Z,Z,Z,Z,Z,Z,Z,Z,Z,Z,Z,Z,Z,Z,Z] rfl rfl (any_of HT_.out (by kernel_rfl)) (fun _ _ _ h=>h) (Or.inl ⟨by rfl,?_⟩) ?_ ?_
        rotate_left
        ·intro w'
         go_simp
         with_reducible rfl
        rotate_left
        ·simp only [Act.put,List.setIfInBounds_toArray,List.set_cons_zero,List.set_cons_succ,i64_w,i32_w]
         rfl
        refine pure_ (i:=1) (N:=some 22) (v:=?_) (a':=?_) #[Y,Y,Z,Z,Z,Z,Z,Z,Z,Z,Z,Z,Z,Z,Z,Z,Z,Z,Z,Z,Z,Z,Z,Z,Z,Z] rfl rfl (any_of HT_.out (by kernel_rfl)) (fun _ _ _ h=>h) (Or.inl ⟨by rfl,?_⟩) ?_ ?_
        rotate_left
        ·intro w'
         go_simp
         with_reducible rfl
        rotate_left
        ·simp only [Act.put,List.setIfInBounds_toArray,List.set_cons_zero,List.set_cons_succ,i64_w,i32_w]
         rfl
        refine pure_ (i:=2) (N:=some 23) (v:=?_) (a':=?_) #[Y,Y,Y,Z,Z,Z,Z,Z,Z,Z,Z,Z,Z,Z,Z,Z,Z,Z,Z,Z,Z,Z,Z,Z,Z,Z] rfl rfl (any_of HT_.out (by kernel_rfl)) (fun _ _ _ h=>h) (Or.inl ⟨by rfl,?_⟩) ?_ ?_
        rotate_left
        ·intro w'
         go_simp
         with_reducible rfl
        rotate_left
        ·simp only [Act.put,List.setIfInBounds_toArray,List.set_cons_zero,List.set_cons_succ,i64_w,i32_w]
         rfl
        refine pure_ (i:=3) (N:=some 24) (v:=?_) (a':=?_) #[Y,Y,Y,Y,Z,Z,Z,Z,Z,Z,Z,Z,Z,Z,Z,Z,Z,Z,Z,Z,Z,Z,Z,Z,Z,Z] rfl rfl (any_of HT_.out (by kernel_rfl)) (fun _ _ _ h=>h) (Or.inl ⟨by rfl,?_⟩) ?_ ?_
        rotate_left
        ·intro w'
         go_simp
         with_reducible rfl
        rotate_left
        ·simp only [Act.put,List.setIfInBounds_toArray,List.set_cons_zero,List.set_cons_succ,i64_w,i32_w]
         rfl
        refine pure_ (i:=4) (N:=some 25) (v:=?_) (a':=?_) #[Y,Y,Y,Y,Y,Z,Z,Z,Z,Z,Z,Z,Z,Z,Z,Z,Z,Z,Z,Z,Z,Z,Z,Z,Z,Z] rfl rfl (any_of HT_.out (by kernel_rfl)) (fun _ _ _ h=>h) (Or.inl ⟨by rfl,?_⟩) ?_ ?_
        rotate_left
        ·intro w'
         go_simp
         with_reducible rfl
        rotate_left
        ·simp only [Act.put,List.setIfInBounds_toArray,List.set_cons_zero,List.set_cons_succ,i64_w,i32_w]
         rfl
        refine pure_ (i:=6) (N:=some 27) (v:=?_) (a':=?_) #[Y,Y,Y,Y,Y,Z,Y,Z,Z,Z,Z,Z,Z,Z,Z,Z,Z,Z,Z,Z,Z,Z,Z,Z,Z,Z] rfl rfl (any_of HT_.out (by kernel_rfl)) (fun _ _ _ h=>h) (Or.inl ⟨by rfl,?_⟩) ?_ ?_
        rotate_left
        ·intro w'
         go_simp
         with_reducible rfl
        rotate_left
        ·simp only [Act.put,List.setIfInBounds_toArray,List.set_cons_zero,List.set_cons_succ,i64_w,i32_w]
         rfl
        refine pure_ (i:=7) (N:=some 28) (v:=?_) (a':=?_) #[Y,Y,Y,Y,Y,Z,Y,Y,Z,Z,Z,Z,Z,Z,Z,Z,Z,Z,Z,Z,Z,Z,Z,Z,Z,Z] rfl rfl (any_of HT_.out (by kernel_rfl)) (fun _ _ _ h=>h) (Or.inl ⟨by rfl,?_⟩) ?_ ?_
        rotate_left
        ·intro w'
         go_simp
         with_reducible rfl
        rotate_left
        ·simp only [Act.put,List.setIfInBounds_toArray,List.set_cons_zero,List.set_cons_succ,i64_w,i32_w]
         rfl
        refine pure_ (i:=8) (N:=some 29) (v:=?_) (a':=?_) #[Y,Y,Y,Y,Y,Z,Y,Y,Y,Z,Z,Z,Z,Z,Z,Z,Z,Z,Z,Z,Z,Z,Z,Z,Z,Z] rfl rfl (any_of HT_.out (by kernel_rfl)) (fun _ _ _ h=>h) (Or.inl ⟨by rfl,?_⟩) ?_ ?_
        rotate_left
        ·intro w'
         go_simp
         with_reducible rfl
        rotate_left
        ·simp only [Act.put,List.setIfInBounds_toArray,List.set_cons_zero,List.set_cons_succ,i64_w,i32_w]
         rfl
        refine pure_ (i:=9) (N:=some 30) (v:=?_) (a':=?_) #[Y,Y,Y,Y,Y,Z,Y,Y,Y,Y,Z,Z,Z,Z,Z,Z,Z,Z,Z,Z,Z,Z,Z,Z,Z,Z] rfl rfl (any_of HT_.out (by kernel_rfl)) (fun _ _ _ h=>h) (Or.inl ⟨by rfl,?_⟩) ?_ ?_
        rotate_left
        ·intro w'
         go_simp
         with_reducible rfl
        rotate_left
        ·simp only [Act.put,List.setIfInBounds_toArray,List.set_cons_zero,List.set_cons_succ,i64_w,i32_w]
         rfl
        refine pure_ (i:=12) (N:=some 33) (v:=?_) (a':=?_) #[Y,Y,Y,Y,Y,Z,Y,Y,Y,Y,Z,Z,Y,Z,Z,Z,Z,Z,Z,Z,Z,Z,Z,Z,Z,Z] rfl rfl (any_of HT_.out (by kernel_rfl)) (fun _ _ _ h=>h) (Or.inl ⟨by rfl,?_⟩) ?_ ?_
        rotate_left
        ·intro w'
         go_simp
         with_reducible rfl
        rotate_left
        ·simp only [Act.put,List.setIfInBounds_toArray,List.set_cons_zero,List.set_cons_succ,i64_w,i32_w]
         rfl
        refine pure_ (i:=13) (N:=some 34) (v:=?_) (a':=?_) #[Y,Y,Y,Y,Y,Z,Y,Y,Y,Y,Z,Z,Y,Y,Z,Z,Z,Z,Z,Z,Z,Z,Z,Z,Z,Z] rfl rfl (any_of HT_.out (by kernel_rfl)) (fun _ _ _ h=>h) (Or.inl ⟨by rfl,?_⟩) ?_ ?_
        rotate_left
        ·intro w'
         go_simp
         with_reducible rfl
        rotate_left
        ·simp only [Act.put,List.setIfInBounds_toArray,List.set_cons_zero,List.set_cons_succ,i64_w,i32_w]
         rfl
        refine pure_ (i:=14) (N:=some 35) (v:=?_) (a':=?_) #[Y,Y,Y,Y,Y,Z,Y,Y,Y,Y,Z,Z,Y,Y,Y,Z,Z,Z,Z,Z,Z,Z,Z,Z,Z,Z] rfl rfl (any_of HT_.out (by kernel_rfl)) (fun _ _ _ h=>h) (Or.inl ⟨by rfl,?_⟩) ?_ ?_
        rotate_left
        ·intro w'
         go_simp
         with_reducible rfl
        rotate_left
        ·simp only [Act.put,List.setIfInBounds_toArray,List.set_cons_zero,List.set_cons_succ,i64_w,i32_w]
         rfl
        refine pure_ (i:=15) (N:=some 36) (v:=?_) (a':=?_) #[Y,Y,Y,Y,Y,Z,Y,Y,Y,Y,Z,Z,Y,Y,Y,Y,Z,Z,Z,Z,Z,Z,Z,Z,Z,Z] rfl rfl (any_of HT_.out (by kernel_rfl)) (fun _ _ _ h=>h) (Or.inl ⟨by rfl,?_⟩) ?_ ?_
        rotate_left
        ·intro w'
         go_simp
         with_reducible rfl
        rotate_left
        ·simp only [Act.put,List.setIfInBounds_toArray,List.set_cons_zero,List.set_cons_succ,i64_w,i32_w]
         rfl
        refine pure_ (i:=16) (N:=some 37) (v:=?_) (a':=?_) #[Y,Y,Y,Y,Y,Z,Y,Y,Y,Y,Z,Z,Y,Y,Y,Y,Y,Z,Z,Z,Z,Z,Z,Z,Z,Z] rfl rfl (any_of HT_.out (by kernel_rfl)) (fun _ _ _ h=>h) (Or.inl ⟨by rfl,?_⟩) ?_ ?_
        rotate_left
        ·intro w'
         go_simp
         with_reducible rfl
        rotate_left
        ·simp only [Act.put,List.setIfInBounds_toArray,List.set_cons_zero,List.set_cons_succ,i64_w,i32_w]
         rfl
        refine pure_ (i:=17) (N:=some 38) (v:=?_) (a':=?_) #[Y,Y,Y,Y,Y,Z,Y,Y,Y,Y,Z,Z,Y,Y,Y,Y,Y,Y,Z,Z,Z,Z,Z,Z,Z,Z] rfl rfl (any_of HT_.out (by kernel_rfl)) (fun _ _ _ h=>h) (Or.inl ⟨by rfl,?_⟩) ?_ ?_
        rotate_left
        ·intro w'
         go_simp
         with_reducible rfl
        rotate_left
        ·simp only [Act.put,List.setIfInBounds_toArray,List.set_cons_zero,List.set_cons_succ,i64_w,i32_w]
         rfl
        refine take_ (i:=5) (N:=some 26) (v:=?_) (a':=?_) #[Y,Y,Y,Y,Y,Y,Y,Y,Y,Y,Z,Z,Y,Y,Y,Y,Y,Y,Z,Z,Z,Z,Z,Z,Z,Z] rfl rfl (take_ofW HT_.out HW_.out (by kernel_rfl)) (fun _ _ _ h=>h) (Or.inl ⟨by rfl,?_⟩) hHeld ?_ ?_
        rotate_left
        ·rintro w' ⟨s0,s1,s2,s3,s4,s5,s6,s7,s8,s9,s10,s11,s12,s13,s14,s15,s16,s17,s18,s19,s20,s21,s22,s23⟩
         go_simp
         with_reducible rfl
        rotate_left
        ·simp only [Act.put,List.setIfInBounds_toArray,List.set_cons_zero,List.set_cons_succ,i64_w,i32_w]
         rfl
        refine take_ (i:=10) (N:=some 31) (v:=?_) (a':=?_) #[Y,Y,Y,Y,Y,Y,Y,Y,Y,Y,Y,Z,Y,Y,Y,Y,Y,Y,Z,Z,Z,Z,Z,Z,Z,Z] rfl rfl (take_ofW HT_.out HW_.out (by kernel_rfl)) (fun _ _ _ h=>h) (Or.inl ⟨by rfl,?_⟩) hHeld ?_ ?_
        rotate_left
        ·rintro w' ⟨s0,s1,s2,s3,s4,s5,s6,s7,s8,s9,s10,s11,s12,s13,s14,s15,s16,s17,s18,s19,s20,s21,s22,s23⟩
         go_simp
         with_reducible rfl
        rotate_left
        ·simp only [Act.put,List.setIfInBounds_toArray,List.set_cons_zero,List.set_cons_succ,i64_w,i32_w]
         rfl
        refine pure_ (i:=11) (N:=some 32) (v:=?_) (a':=?_) #[Y,Y,Y,Y,Y,Y,Y,Y,Y,Y,Y,Y,Y,Y,Y,Y,Y,Y,Z,Z,Z,Z,Z,Z,Z,Z] rfl rfl (any_of HT_.out (by kernel_rfl)) (fun _ _ _ h=>h) (Or.inl ⟨by rfl,?_⟩) ?_ ?_
        rotate_left
        ·intro w'
         go_simp
         with_reducible rfl
        rotate_left
        ·simp only [Act.put,List.setIfInBounds_toArray,List.set_cons_zero,List.set_cons_succ,i64_w,i32_w]
         rfl
        refine take_ (i:=18) (N:=some 39) (v:=?_) (a':=?_) #[Y,Y,Y,Y,Y,Y,Y,Y,Y,Y,Y,Y,Y,Y,Y,Y,Y,Y,Y,Z,Z,Z,Z,Z,Z,Z] rfl rfl (take_ofW HT_.out HW_.out (by kernel_rfl)) (fun _ _ _ h=>h) (Or.inl ⟨by rfl,?_⟩) hHeld ?_ ?_
        rotate_left
        ·rintro w' ⟨s0,s1,s2,s3,s4,s5,s6,s7,s8,s9,s10,s11,s12,s13,s14,s15,s16,s17,s18,s19,s20,s21,s22,s23⟩
         go_simp
         with_reducible rfl
        rotate_left
        ·simp only [Act.put,List.setIfInBounds_toArray,List.set_cons_zero,List.set_cons_succ,i64_w,i32_w]
         rfl
        refine one_ (i:=19) (N:=some 40) #[Y,Y,Y,Y,Y,Y,Y,Y,Y,Y,Y,Y,Y,Y,Y,Y,Y,Y,Y,Y,Z,Z,Z,Z,Z,Z] rfl rfl (one_of HT_.out (by kernel_rfl)) (by decide) (fun K hK=>?_)
        refine goes_ Try.func60 (by kernel_rfl) rfl #[.slice _ l1.length c1,.agg #[.string ((rd_T73 l0 x8_1).f0.f0),.int .i64 ((rd_T73 l0 x8_1).f0.f1),.int .i64 ((rd_T73 l0 x8_1).f0.f2),.int .i64 ((rd_T73 l0 x8_1).f0.f3)]] (by rfl) rfl rfl (by (try simp only [List.map_toArray,List.map_cons,List.map_nil]);first|done|rfl|(simp only [List.length_drop,List.length_take];rfl)) ?_
        with_reducible refine (contangoref23_find.calls k1 _ _ l1 ((rd_T73 l0 x8_1).f0.f0) ((rd_T73 l0 x8_1).f0.f1) ((rd_T73 l0 x8_1).f0.f2) ((rd_T73 l0 x8_1).f0.f3) t105 _ ?side1 ?side2 A8.out).mono ?_
        (case side1=>repeat (first|exact (Kd.C_below HR1.out HB.out)|(with_reducible refine Kd.C_alloc ?_ _)|(with_reducible refine Kd.C_drewN ?_ _)|(with_reducible refine Kd.C_drew ?_)))
        (case side2=>exact HC1.out)
        rintro e w12 ⟨rfl,hb⟩
        refine ⟨_,rfl,?_⟩
        have n0_:=Aside0.mk (below_step (by repeat (first|(with_reducible first|exact HB.out|apply below_alloc|apply pw_below_drewN|apply below_drew1)|exact HB.out)) hb)
        clear HB
        have HB:=n0_
        clear n0_
        (try clear hb)
        (try clear hb2)
        (try clear hk)
        (try clear hi)
        refine hK.out _ _ ⟨((HB.out.cell (World.block_lt_of_cell? w _ hw102_0)).trans hw102_0),((HB.out.cell (World.block_lt_of_cell? w _ hw102_1)).trans hw102_1),((HB.out.cell (World.block_lt_of_cell? w _ hw102_2)).trans hw102_2),((HB.out.cell (World.block_lt_of_cell? w _ hw102_3)).trans hw102_3),((HB.out.cell (World.block_lt_of_cell? w _ hw102_4)).trans hw102_4),((HB.out.cell (World.block_lt_of_cell? w _ hw102_5)).trans hw102_5),((HB.out.cell (World.block_lt_of_cell? w _ hw103_0)).trans hw103_0),((HB.out.cell (World.block_lt_of_cell? w _ hw103_1)).trans hw103_1),((HB.out.cell (World.block_lt_of_cell? w _ hw103_2)).trans hw103_2),((HB.out.cell (World.block_lt_of_cell? w _ hw103_3)).trans hw103_3),((HB.out.cell (World.block_lt_of_cell? w _ hw103_4)).trans hw103_4),((HB.out.cell (World.block_lt_of_cell? w _ hw103_5)).trans hw103_5),((HB.out.cell (World.block_lt_of_cell? w _ hw104_0)).trans hw104_0),((HB.out.cell (World.block_lt_of_cell? w _ hw104_1)).trans hw104_1),((HB.out.cell (World.block_lt_of_cell? w _ hw104_2)).trans hw104_2),((HB.out.cell (World.block_lt_of_cell? w _ hw104_3)).trans hw104_3),((HB.out.cell (World.block_lt_of_cell? w _ hw104_4)).trans hw104_4),((HB.out.cell (World.block_lt_of_cell? w _ hw104_5)).trans hw104_5),((HB.out.cell (World.block_lt_of_cell? w _ hw106_0)).trans hw106_0),((HB.out.cell (World.block_lt_of_cell? w _ hw106_1)).trans hw106_1),((HB.out.cell (World.block_lt_of_cell? w _ hw106_2)).trans hw106_2),((HB.out.cell (World.block_lt_of_cell? w _ hw106_3)).trans hw106_3),((HB.out.cell (World.block_lt_of_cell? w _ hw106_4)).trans hw106_4),((HB.out.cell (World.block_lt_of_cell? w _ hw106_5)).trans hw106_5)⟩ (fun hHeld=>?_)
        clear hK K
        refine norm_ (a':=?_) ?_ ?_
        rotate_left
        ·show Act.put _ (some 40) _ = _
         simp only [Act.put,List.setIfInBounds_toArray,List.set_cons_zero,List.set_cons_succ,i64_w,i32_w]
         rfl
        refine pure_ (i:=20) (N:=some 41) (v:=?_) (a':=?_) #[Y,Y,Y,Y,Y,Y,Y,Y,Y,Y,Y,Y,Y,Y,Y,Y,Y,Y,Y,Y,Y,Z,Z,Z,Z,Z] rfl rfl (any_of HT_.out (by kernel_rfl)) (fun _ _ _ h=>h) (Or.inl ⟨by rfl,?_⟩) ?_ ?_
        rotate_left
        ·intro w'
         go_simp
         with_reducible rfl
        rotate_left
        ·simp only [Act.put,List.setIfInBounds_toArray,List.set_cons_zero,List.set_cons_succ,i64_w,i32_w]
         rfl
        refine pure_ (i:=21) (N:=some 42) (v:=?_) (a':=?_) #[Y,Y,Y,Y,Y,Y,Y,Y,Y,Y,Y,Y,Y,Y,Y,Y,Y,Y,Y,Y,Y,Y,Z,Z,Z,Z] rfl rfl (any_of HT_.out (by kernel_rfl)) (fun _ _ _ h=>h) (Or.inl ⟨by rfl,?_⟩) ?_ ?_
        rotate_left
        ·intro w'
         go_simp
         with_reducible rfl
        rotate_left
        ·simp only [Act.put,List.setIfInBounds_toArray,List.set_cons_zero,List.set_cons_succ,i64_w,i32_w]
         rfl
        refine take_ (i:=22) (N:=some 43) (v:=?_) (a':=?_) #[Y,Y,Y,Y,Y,Y,Y,Y,Y,Y,Y,Y,Y,Y,Y,Y,Y,Y,Y,Y,Y,Y,Y,Z,Z,Z] rfl rfl (take_ofW HT_.out HW_.out (by kernel_rfl)) (fun _ _ _ h=>h) (Or.inl ⟨by rfl,?_⟩) hHeld ?_ ?_
        rotate_left
        ·rintro w' ⟨s0,s1,s2,s3,s4,s5,s6,s7,s8,s9,s10,s11,s12,s13,s14,s15,s16,s17,s18,s19,s20,s21,s22,s23⟩
         go_simp
         with_reducible rfl
        rotate_left
        ·simp only [Act.put,List.setIfInBounds_toArray,List.set_cons_zero,List.set_cons_succ,i64_w,i32_w]
         rfl
        refine pure_ (i:=23) (N:=some 44) (v:=?_) (a':=?_) #[Y,Y,Y,Y,Y,Y,Y,Y,Y,Y,Y,Y,Y,Y,Y,Y,Y,Y,Y,Y,Y,Y,Y,Y,Z,Z] rfl rfl (any_of HT_.out (by kernel_rfl)) (fun _ _ _ h=>h) (Or.inl ⟨by rfl,?_⟩) ?_ ?_
        rotate_left
        ·intro w'
         go_simp
         with_reducible rfl
        rotate_left
        ·simp only [Act.put,List.setIfInBounds_toArray,List.set_cons_zero,List.set_cons_succ,i64_w,i32_w]
         rfl
        refine pure_ (i:=24) (N:=some 45) (v:=?_) (a':=?_) #[Y,Y,Y,Y,Y,Y,Y,Y,Y,Y,Y,Y,Y,Y,Y,Y,Y,Y,Y,Y,Y,Y,Y,Y,Y,Z] rfl rfl (any_of HT_.out (by kernel_rfl)) (fun _ _ _ h=>h) (Or.inl ⟨by rfl,?_⟩) ?_ ?_
        rotate_left
        ·intro w'
         go_simp
         with_reducible rfl
        rotate_left
        ·simp only [Act.put,List.setIfInBounds_toArray,List.set_cons_zero,List.set_cons_succ,i64_w,i32_w]
         rfl
        refine pure_ (i:=25) (N:=some 7) (v:=?_) (a':=?_) #[Y,Y,Y,Y,Y,Y,Y,Y,Y,Y,Y,Y,Y,Y,Y,Y,Y,Y,Y,Y,Y,Y,Y,Y,Y,Y] rfl rfl (any_of HT_.out (by kernel_rfl)) (fun _ _ _ h=>h) (Or.inl ⟨by rfl,?_⟩) ?_ ?_
        rotate_left
        ·intro w'
         go_simp
         with_reducible rfl
        rotate_left
        ·simp only [Act.put,List.setIfInBounds_toArray,List.set_cons_zero,List.set_cons_succ,i64_w,i32_w]
         rfl
        refine done_ (done_of HT_.out (by kernel_rfl)) ?_
        try go_wp2
        go_roundg k1
        case measure=>have:=HK1.out;omega
        case rel=>exact ⟨(wrap64 (x7_1 + (wrap64 ((wrap64 (((rd_T73 l0 x8_1).f1) - ((rd_T73 l0 x8_1).f2))) * ((rd_T91 l1 t105).f2))))),(wrap64 (x8_1 + 1)),(by first|rfl|(simp;done)|(simp [*];done)),(by first|rfl|(simp;done)|(simp [*];done)),H',⟨by have:=HK1.out;omega⟩,⟨by repeat (first|(with_reducible first|exact HB.out|apply below_alloc|apply pw_below_drewN|apply below_drew1)|exact HB.out)⟩⟩
       ·rw [if_neg c10] at H
        exact absurd H (by simp)
      ·rw [if_neg c9] at H
       exact absurd H (by simp)
     ·rw [if_neg c7] at H
      exact absurd H (by simp)
    ·rw [if_neg c6] at H
     have c6b0:decide (x8_1 < (l0.length:Int)) = false:=decide_eq_false c6
     clear c6
     simp only [Option.some.injEq,Prod.mk.injEq] at H
     obtain ⟨rfl,rfl⟩:=H
     go_wp2
     go_ret2
     exact ⟨by first|rfl|(simp [errW_none,errW_some] <;> rfl)|(simp [*,errW_none,errW_some] <;> rfl),by repeat (first|(with_reducible first|exact HB.out|apply below_alloc|apply pw_below_drewN|apply below_drew1)|exact HB.out)⟩
 ·rw [if_neg c4] at H
  have c4b0:(t101 == 0) = false:=beq_eq_false_iff_ne.mpr c4
  have c4b1:(t101 != 0) = true:=bne_iff_ne.mpr c4
  simp only [Option.some.injEq,Prod.mk.injEq] at H
  obtain ⟨rfl,rfl⟩:=H
  go_enter Try.func42,Try.ntmps42
  go_wp2_with (first|((with_reducible refine gate_callee (f:=59) rfl ?_);refine goesL_ (some 11) rfl rfl Try.func59 (by kernel_rfl) rfl #[.slice A0 l0.length c0,.slice A1 l1.length c1] rfl (by (try simp only [List.map_toArray,List.map_cons,List.map_nil]);first|done|rfl|(simp only [List.length_drop,List.length_take];rfl)) ?_;(with_reducible refine (contangoref23_checks.calls k _ _ l0 _ _ l1 t101 _ ?side1 ?side2 ?side3 ?side4 A3.out).mono ?_);(case side1=>repeat (first|exact HR0.out|(with_reducible refine Kd.C_alloc ?_ _)|(with_reducible refine Kd.C_drewN ?_ _)|(with_reducible refine Kd.C_drew ?_)));(case side2=>exact HC0.out);(case side3=>repeat (first|exact HR1.out|(with_reducible refine Kd.C_alloc ?_ _)|(with_reducible refine Kd.C_drewN ?_ _)|(with_reducible refine Kd.C_drew ?_)));(case side4=>exact HC1.out);rintro e w13 ⟨rfl,hb⟩;refine ⟨_,rfl,?_⟩;have n0_:=Aside0.mk (below_step (by repeat (first|(with_reducible first|exact HB.out|apply below_alloc|apply pw_below_drewN|apply below_drew1)|exact HB.out)) hb);clear HB;have HB:=n0_;clear n0_;(try clear hb);(try clear hb2);(try clear hk);(try clear hi)))
  go_ret2
  exact ⟨by first|rfl|(simp [errW_none,errW_some] <;> rfl)|(simp [*,errW_none,errW_some] <;> rfl),by repeat (first|(with_reducible first|exact HB.out|apply below_alloc|apply pw_below_drewN|apply below_drew1)|exact HB.out)⟩
end Go.Proofs.Ytbgeceiddcokmaa.X
end
section
namespace Go.Proofs.Ytbgeceiddcokmaa.X
open Go.RowKit Go.Proofs.YtbgeceiddcokmaaW.PrintWords Go.Proofs.YtbgeceiddcokmaaW.PrintLast Go.Proofs.YtbgeceiddcokmaaW.PrintMore
attribute [local go_sem] max2_int min2_int max_two min_two max_three min_three max_four min_four
set_option linter.unusedVariables false
set_option linter.unusedSimpArgs false
mutual
def contangoref23_Expiries.l0:Nat → List (S73) → List (S91) → List Int → List Int → Bool → Option (List Int × List Int × Int)
 | 0,_,_,_,_,_=>none
 | k + 1,x0,x1,x8,x9,x10=>if x10 = true then (contangoref23_Expiries.l1 k x0 x1 x8 x9 false 0 0) else (some (x8,x9,0))
def contangoref23_Expiries.l1:Nat → List (S73) → List (S91) → List Int → List Int → Bool → Int → Int → Option (List Int × List Int × Int)
 | 0,_,_,_,_,_,_,_=>none
 | k + 1,x0,x1,x8,x9,x10,x11,x12=>if x12 < (x0.length:Int) then (if 0 ≤ x12 then (if (x8.length:Int) = 0 then (if x10 = true then (if ((rd_T73 x0 x12).f0.f2) < x11 then (contangoref23_Expiries.l1 k x0 x1 x8 x9 true ((rd_T73 x0 x12).f0.f2) (wrap64 (x12 + 1))) else (contangoref23_Expiries.l1 k x0 x1 x8 x9 x10 x11 (wrap64 (x12 + 1)))) else (contangoref23_Expiries.l1 k x0 x1 x8 x9 true ((rd_T73 x0 x12).f0.f2) (wrap64 (x12 + 1)))) else (if 0 ≤ (wrap64 ((x8.length:Int) - 1)) then (if (wrap64 ((x8.length:Int) - 1)) < (x8.length:Int) then (if ((rd_T73 x0 x12).f0.f2) > (rd x8 (wrap64 ((x8.length:Int) - 1))) then (if x10 = true then (if ((rd_T73 x0 x12).f0.f2) < x11 then (contangoref23_Expiries.l1 k x0 x1 x8 x9 true ((rd_T73 x0 x12).f0.f2) (wrap64 (x12 + 1))) else (contangoref23_Expiries.l1 k x0 x1 x8 x9 x10 x11 (wrap64 (x12 + 1)))) else (contangoref23_Expiries.l1 k x0 x1 x8 x9 true ((rd_T73 x0 x12).f0.f2) (wrap64 (x12 + 1)))) else (contangoref23_Expiries.l1 k x0 x1 x8 x9 x10 x11 (wrap64 (x12 + 1)))) else (none)) else (none))) else (none)) else (contangoref23_Expiries.l2 k x0 x1 x8 x9 x10 x11 0 0)
def contangoref23_Expiries.l2:Nat → List (S73) → List (S91) → List Int → List Int → Bool → Int → Int → Int → Option (List Int × List Int × Int)
 | 0,_,_,_,_,_,_,_,_=>none
 | k + 1,x0,x1,x8,x9,x10,x11,x14,x15=>if x15 < (x0.length:Int) then (if 0 ≤ x15 then (if ((rd_T73 x0 x15).f0.f2) = x11 then ((contangoref23_find.f k x1 ((rd_T73 x0 x15).f0.f0) ((rd_T73 x0 x15).f0.f1) ((rd_T73 x0 x15).f0.f2) ((rd_T73 x0 x15).f0.f3)).bind fun t114=>(if 0 ≤ t114 then (if t114 < (x1.length:Int) then (contangoref23_Expiries.l2 k x0 x1 x8 x9 x10 x11 (wrap64 (x14 + (wrap64 ((wrap64 (((rd_T73 x0 x15).f1) - ((rd_T73 x0 x15).f2))) * ((rd_T91 x1 t114).f2))))) (wrap64 (x15 + 1))) else (none)) else (none))) else (contangoref23_Expiries.l2 k x0 x1 x8 x9 x10 x11 x14 (wrap64 (x15 + 1)))) else (none)) else (if x10 = true then (if x8.length < 17592186044416 then (if x9.length < 17592186044416 then (contangoref23_Expiries.l0 k x0 x1 (x8 ++ [x11]) (x9 ++ [x14]) x10) else (none)) else (none)) else (contangoref23_Expiries.l0 k x0 x1 x8 x9 x10))
end
def contangoref23_Expiries.f (k:Nat) (l0:List (S73)) (l1:List (S91)):Option (List Int × List Int × Int):=(contangoref23_checks.f k l0 l1).bind fun t101=>(if t101 = 0 then (contangoref23_Expiries.l0 k l0 l1 (([]:List Int)) (([]:List Int)) true) else (some (([]:List Int),([]:List Int),t101)))
def contangoref23_Expiries.T22:Bool × List (List Nat × List Nat):=(true,[([],[]),([],[]),([],[]),([1,2],[1,2]),([3],[3]),([4],[4]),([],[]),([],[]),([6,7],[6,7]),([8],[8]),([9],[9]),([5,10],[5,10]),([],[]),([],[]),([],[]),([],[]),([14,15],[14,15]),([16],[16]),([17],[17]),([13,18],[13,18]),([12,19],[12,19]),([20],[20]),([21],[21]),([11,22],[11,22]),([0,23],[0,23]),([24,19,0,1,2,3,4,5,6,7,8,9,10,11,12,13,14,15,16,17,18,19,20,21,22,23,24],[0,24])])
def contangoref23_Expiries.B22:List Nat:=[0,0,0,6,14,30,0,0,192,448,960,2046,0,0,0,0,49152,114688,245760,516096,1044480,2093056,4190208,8388606,16777215,33554431]
theorem contangoref23_Expiries.tab22:rtab .any (opsOf Try.f44 22) = contangoref23_Expiries.T22:=by kernel_rfl
theorem contangoref23_Expiries.bits22:waitsOk contangoref23_Expiries.T22.2 contangoref23_Expiries.B22 = true:=by kernel_rfl
set_option maxHeartbeats 8000000 in
set_option maxRecDepth 100000 in
theorem contangoref23_Expiries.calls (k:Nat) (A0:Option Addr) (c0:Nat) (l0:List (S73)) (A1:Option Addr) (c1:Nat) (l1:List (S91)) (r1:List Int) (r2:List Int) (r3:Int) (w:World) (hr0:Kd.C k73 w A0 l0.length l0) (hc0:l0.length ≤ c0) (hr1:Kd.C k91 w A1 l1.length l1) (hc1:l1.length ≤ c1) (h:contangoref23_Expiries.f k l0 l1 = some (r1,r2,r3)) :
  Calls Try.prog 44 #[.slice A0 l0.length c0,.slice A1 l1.length c1] w fun e w'=>∃ v0_ v1_:Value,e = .returned (.tuple #[v0_,v1_,.int .i64 r3]) ∧ Kd.R (Kd.int .i64) 3 w' w.heap.size (fun k_=>some k_ ≠ (v1_:Value).ownBlock) v0_ r1 ∧ Kd.R (Kd.int .i64) 3 w' w.heap.size (fun k_=>some k_ ≠ (v0_:Value).ownBlock) v1_ r2 ∧ Below w.heap.size w w':=by
 have hu39:=Try.underlying39
 have HR0:=Aside0.mk hr0
 have HC0:=Aside0.mk hc0
 clear hr0 hc0
 have HR1:=Aside0.mk hr1
 have HC1:=Aside0.mk hc1
 clear hr1 hc1
 have HB:=Aside0.mk (Below.refl w.heap.size w)
 have H:((contangoref23_checks.f k l0 l1).bind fun t101=>(if t101 = 0 then (contangoref23_Expiries.l0 k l0 l1 (([]:List Int)) (([]:List Int)) true) else (some (([]:List Int),([]:List Int),t101)))) = some (r1,r2,r3):=h
 clear h
 replace H:=Option.bind_eq_some_iff.mp H
 obtain ⟨t101,A30,H⟩:=H
 replace H:(if t101 = 0 then (contangoref23_Expiries.l0 k l0 l1 (([]:List Int)) (([]:List Int)) true) else (some (([]:List Int),([]:List Int),t101))) = some (r1,r2,r3):=H
 have A3:=Aside0.mk A30
 clear A30
 by_cases c4:t101 = 0
 ·rw [if_pos c4] at H
  have c4b0:(t101 == 0) = true:=beq_iff_eq.mpr c4
  have c4b1:(t101 != 0) = false:=bne_eq_false_iff_eq.mpr c4
  clear c4
  obtain ⟨y102,hy102⟩:∃ y_:List Int,y_ = (([]:List Int)):=⟨_,rfl⟩
  replace H:(contangoref23_Expiries.l0 k l0 l1 y102 (([]:List Int)) true) = some (r1,r2,r3):=by first|(rw [hy102];with_reducible exact H)|(have H2_:=(Option.bind_some _ _).symm.trans H;rw [hy102];with_reducible exact H2_)|(have H2_:=(Option.bind_some _ _).symm.trans H;with_reducible exact H2_)|with_reducible exact H|(rw [hy102];exact H)|exact H
  have Ny102:=Aside0.mk hy102
  clear hy102
  obtain ⟨y105,hy105⟩:∃ y_:List Int,y_ = (([]:List Int)):=⟨_,rfl⟩
  replace H:(contangoref23_Expiries.l0 k l0 l1 y102 y105 true) = some (r1,r2,r3):=by first|(rw [hy105];with_reducible exact H)|(have H2_:=(Option.bind_some _ _).symm.trans H;rw [hy105];with_reducible exact H2_)|(have H2_:=(Option.bind_some _ _).symm.trans H;with_reducible exact H2_)|with_reducible exact H|(rw [hy105];exact H)|exact H
  have Ny105:=Aside0.mk hy105
  clear hy105
  have H':=Aside0.mk H
  clear H
  go_enter Try.func44,Try.ntmps44
  go_wp2_with (first|((with_reducible refine gate_callee (f:=59) rfl ?_);refine goesL_ (some 18) rfl rfl Try.func59 (by kernel_rfl) rfl #[.slice A0 l0.length c0,.slice A1 l1.length c1] rfl (by (try simp only [List.map_toArray,List.map_cons,List.map_nil]);first|done|rfl|(simp only [List.length_drop,List.length_take];rfl)) ?_;(with_reducible refine (contangoref23_checks.calls k _ _ l0 _ _ l1 t101 _ ?side1 ?side2 ?side3 ?side4 A3.out).mono ?_);(case side1=>repeat (first|exact HR0.out|(with_reducible refine Kd.C_alloc ?_ _)|(with_reducible refine Kd.C_drewN ?_ _)|(with_reducible refine Kd.C_drew ?_)));(case side2=>exact HC0.out);(case side3=>repeat (first|exact HR1.out|(with_reducible refine Kd.C_alloc ?_ _)|(with_reducible refine Kd.C_drewN ?_ _)|(with_reducible refine Kd.C_drew ?_)));(case side4=>exact HC1.out);rintro e w5 ⟨rfl,hb⟩;refine ⟨_,rfl,?_⟩;have n0_:=Aside0.mk (below_step (by repeat (first|(with_reducible first|exact HB.out|apply below_alloc|apply pw_below_drewN|apply below_drew1)|exact HB.out)) hb);clear HB;have HB:=n0_;clear n0_;(try clear hb);(try clear hb2);(try clear hk);(try clear hi))|((with_reducible refine gate_dst (N:=22) rfl ?_);(try (refine gate_guard (by rfl) ?_;dsimp only));refine Kd.R_lit (Kd.int .i64) _ 3 ?hg (N:=22) ?hd (xs:=([]:List Int)) (inner:=[]) (ok:=fun _=>True) (okp:=fun _=>True) ?hr ?hp (fun _ hk=>hk) trivial (Below.refl _ _) (Nat.le_refl _) (by simp) ?_;(case hd=>rfl);(case hg=>rfl);(case hr=>first|(go_simp;done)|(go_simp;rfl));(case hp=>exact (Reps.none _ _));intro v103 w6 ho7 hb hg_ hnew_;clear hg_ hnew_;(first|rw [← Ny102.out] at ho7|(simp only [Int.reduceToNat] at ho7;rw [← Ny102.out] at ho7));have n0_:=Aside0.mk (Kd.R_lower ho7 (below_size (by repeat (first|(with_reducible first|exact HB.out|apply below_alloc|apply pw_below_drewN|apply below_drew1)|exact HB.out))));have n1_:=Aside0.mk (below_step (by repeat (first|(with_reducible first|exact HB.out|apply below_alloc|apply pw_below_drewN|apply below_drew1)|exact HB.out)) hb);clear HB;have HO104:=n0_;have HB:=n1_;clear n0_ n1_;clear hb ho7)|((with_reducible refine gate_dst (N:=23) rfl ?_);(try (refine gate_guard (by rfl) ?_;dsimp only));refine Kd.R_lit (Kd.int .i64) _ 3 ?hg (N:=23) ?hd (xs:=([]:List Int)) (inner:=[]) (ok:=fun _=>True) (okp:=fun _=>True) ?hr ?hp (fun _ hk=>hk) trivial (Below.refl _ _) (Nat.le_refl _) (by simp) ?_;(case hd=>rfl);(case hg=>rfl);(case hr=>first|(go_simp;done)|(go_simp;rfl));(case hp=>exact (Reps.none _ _));intro v106 w8 ho9 hb hg_ hnew_;clear hg_ hnew_;(first|rw [← Ny105.out] at ho9|(simp only [Int.reduceToNat] at ho9;rw [← Ny105.out] at ho9));have n0_:=Aside0.mk (Kd.R_elder' (by (with_reducible repeat (first|apply Kd.R_alloc|apply Kd.R_drewN|apply Kd.R_drew));exact HO104.out) (Kd.R_base ho9) hb);have n1_:=Aside0.mk (Kd.R_lower (Kd.R_new' ho9 (Kd.R_lt (by (with_reducible repeat (first|apply Kd.R_alloc|apply Kd.R_drewN|apply Kd.R_drew));exact HO104.out))) (below_size (by repeat (first|(with_reducible first|exact HB.out|apply below_alloc|apply pw_below_drewN|apply below_drew1)|exact HB.out))));have n2_:=Aside0.mk (below_step (by repeat (first|(with_reducible first|exact HB.out|apply below_alloc|apply pw_below_drewN|apply below_drew1)|exact HB.out)) hb);clear HO104;clear HB;have HO104:=n0_;have HO107:=n1_;have HB:=n2_;clear n0_ n1_ n2_;clear hb ho9))
  go_loopg [8,9,10] k (fun kq v8 v9 v10 w'=>∃ (x8_1:List Int) (x9_1:List Int) (x10_1:Bool),v10 = .bool x10_1 ∧ Aside0 (contangoref23_Expiries.l0 kq l0 l1 x8_1 x9_1 x10_1 = some (r1,r2,r3)) ∧ Aside0 (kq ≤ k) ∧ Aside0 (Kd.R (Kd.int .i64) 3 w' w.heap.size (fun k_=>some k_ ≠ (v9:Value).ownBlock) v8 x8_1) ∧ Aside0 (Kd.R (Kd.int .i64) 3 w' w.heap.size (fun k_=>some k_ ≠ (v8:Value).ownBlock) v9 x9_1) ∧ Aside0 (Below w.heap.size w w'))
  case atStart=>exact ⟨(y102),(y105),(true),(by first|rfl|(simp;done)|(simp [*];done)),H',⟨Nat.le_refl _⟩,⟨by (with_reducible repeat (first|apply Kd.R_alloc|apply Kd.R_drewN|apply Kd.R_drew));exact Kd.R_mono HO104.out (fun _ hk=>hk.2)⟩,⟨by (with_reducible repeat (first|apply Kd.R_alloc|apply Kd.R_drewN|apply Kd.R_drew));exact Kd.R_mono HO107.out (fun _ hk=>hk.2)⟩,⟨by repeat (first|(with_reducible first|exact HB.out|apply below_alloc|apply pw_below_drewN|apply below_drew1)|exact HB.out)⟩⟩
  case round =>
   clear H'
   try clear c1
   try clear p2
   try clear c4
   try clear c4b0
   try clear c4b1
   try clear c5
   obtain ⟨x8_1,x9_1,x10_1,rfl,HA,HK1,HO_8,HO_9,HB⟩:=hrel
   cases gk with
   | zero=>exact absurd HA.out (by simp [contangoref23_Expiries.l0])
   | succ k1 =>
    have H:=HA.out
    clear HA
    simp only [contangoref23_Expiries.l0] at H
    by_cases c10:x10_1 = true
    ·subst c10
     have H1:(contangoref23_Expiries.l1 k1 l0 l1 x8_1 x9_1 false 0 0) = some (r1,r2,r3):=by rw [if_pos rfl] at H;exact H
     clear H
     have H:=H1
     clear H1
     have H':=Aside0.mk H
     clear H
     go_wp2
     go_loopg [10,11,12] k1 (fun kq v10 v11 v12 w'=>∃ (x10_2:Bool) (x11_2:Int) (x12_2:Int),v10 = .bool x10_2 ∧ v11 = .int .i64 x11_2 ∧ v12 = .int .i64 x12_2 ∧ Aside0 (contangoref23_Expiries.l1 kq l0 l1 x8_1 x9_1 x10_2 x11_2 x12_2 = some (r1,r2,r3)) ∧ Aside0 (kq ≤ k1) ∧ Aside0 (Kd.R (Kd.int .i64) 3 w' w.heap.size (fun k_=>some k_ ≠ (u9:Value).ownBlock) u8 x8_1) ∧ Aside0 (Kd.R (Kd.int .i64) 3 w' w.heap.size (fun k_=>some k_ ≠ (u8:Value).ownBlock) u9 x9_1) ∧ Aside0 (Below w.heap.size w w'))
     case atStart=>exact ⟨(false),(0),(0),(by first|rfl|(simp;done)|(simp [*];done)),(by first|rfl|(simp;done)|(simp [*];done)),(by first|rfl|(simp;done)|(simp [*];done)),H',⟨Nat.le_refl _⟩,⟨by (with_reducible repeat (first|apply Kd.R_alloc|apply Kd.R_drewN|apply Kd.R_drew));exact HO_8.out⟩,⟨by (with_reducible repeat (first|apply Kd.R_alloc|apply Kd.R_drewN|apply Kd.R_drew));exact HO_9.out⟩,⟨by repeat (first|(with_reducible first|exact HB.out|apply below_alloc|apply pw_below_drewN|apply below_drew1)|exact HB.out)⟩⟩
     case round =>
      clear H'
      try clear c1
      try clear p2
      try clear c4
      try clear c4b0
      try clear c4b1
      try clear c5
      try clear c10
      try clear p2
      obtain ⟨x10_2,x11_2,x12_2,rfl,rfl,rfl,HA,HK2,HO_8,HO_9,HB⟩:=hrel
      cases gk with
      | zero=>exact absurd HA.out (by simp [contangoref23_Expiries.l1])
      | succ k2 =>
       have H:=HA.out
       clear HA
       simp only [contangoref23_Expiries.l1] at H
       by_cases c11:x12_2 < (l0.length:Int)
       ·rw [if_pos c11] at H
        have c11b0:decide (x12_2 < (l0.length:Int)) = true:=decide_eq_true c11
        clear c11
        by_cases c12:0 ≤ x12_2
        ·rw [if_pos c12] at H
         have c12b0:decide (0 ≤ x12_2) = true:=decide_eq_true c12
         clear c12
         by_cases c13:(x8_1.length:Int) = 0
         ·rw [if_pos c13] at H
          have c13b0:((x8_1.length:Int) == 0) = true:=beq_iff_eq.mpr c13
          have c13b1:((x8_1.length:Int) != 0) = false:=bne_eq_false_iff_eq.mpr c13
          clear c13
          by_cases c14:x10_2 = true
          ·subst c14
           have H1:(if ((rd_T73 l0 x12_2).f0.f2) < x11_2 then (contangoref23_Expiries.l1 k2 l0 l1 x8_1 x9_1 true ((rd_T73 l0 x12_2).f0.f2) (wrap64 (x12_2 + 1))) else (contangoref23_Expiries.l1 k2 l0 l1 x8_1 x9_1 true x11_2 (wrap64 (x12_2 + 1)))) = some (r1,r2,r3):=by rw [if_pos rfl] at H;exact H
           clear H
           have H:=H1
           clear H1
           by_cases c15:((rd_T73 l0 x12_2).f0.f2) < x11_2
           ·rw [if_pos c15] at H
            have c15b0:decide (((rd_T73 l0 x12_2).f0.f2) < x11_2) = true:=decide_eq_true c15
            clear c15
            have H':=Aside0.mk H
            clear H
            have p108:0 ≤ (x12_2:Int):=of_decide_eq_true (by first|(with_reducible assumption)|assumption)
            have q108:x12_2 < (l0.length:Int):=of_decide_eq_true (by first|(with_reducible assumption)|assumption)
            obtain ⟨ad108,e108,hx108_0,hx108_1,hx108_2,hx108_3,hx108_4,hx108_5⟩:=at_T73 HR0.out x12_2 p108 q108
            cases e108
            replace hx108_0:=(HB.out.cell (World.block_lt_of_cell? w _ hx108_0)).trans hx108_0
            replace hx108_1:=(HB.out.cell (World.block_lt_of_cell? w _ hx108_1)).trans hx108_1
            replace hx108_2:=(HB.out.cell (World.block_lt_of_cell? w _ hx108_2)).trans hx108_2
            replace hx108_3:=(HB.out.cell (World.block_lt_of_cell? w _ hx108_3)).trans hx108_3
            replace hx108_4:=(HB.out.cell (World.block_lt_of_cell? w _ hx108_4)).trans hx108_4
            replace hx108_5:=(HB.out.cell (World.block_lt_of_cell? w _ hx108_5)).trans hx108_5
            replace p108:=eq_true p108
            replace q108:=eq_true q108
            obtain ⟨Ao16,co16,eo16⟩:=Kd.R_slice HO_8.out
            subst eo16
            go_wp2
            go_roundg k2
            case measure=>have:=HK1.out;have:=HK2.out;omega
            case rel=>exact ⟨(true),((rd_T73 l0 x12_2).f0.f2),(wrap64 (x12_2 + 1)),(by first|rfl|(simp;done)|(simp [*];done)),(by first|rfl|(simp;done)|(simp [*];done)),(by first|rfl|(simp;done)|(simp [*];done)),H',⟨by have:=HK1.out;have:=HK2.out;omega⟩,⟨by (with_reducible repeat (first|apply Kd.R_alloc|apply Kd.R_drewN|apply Kd.R_drew));exact HO_8.out⟩,⟨by (with_reducible repeat (first|apply Kd.R_alloc|apply Kd.R_drewN|apply Kd.R_drew));exact HO_9.out⟩,⟨by repeat (first|(with_reducible first|exact HB.out|apply below_alloc|apply pw_below_drewN|apply below_drew1)|exact HB.out)⟩⟩
           ·rw [if_neg c15] at H
            have c15b0:decide (((rd_T73 l0 x12_2).f0.f2) < x11_2) = false:=decide_eq_false c15
            clear c15
            have H':=Aside0.mk H
            clear H
            have p108:0 ≤ (x12_2:Int):=of_decide_eq_true (by first|(with_reducible assumption)|assumption)
            have q108:x12_2 < (l0.length:Int):=of_decide_eq_true (by first|(with_reducible assumption)|assumption)
            obtain ⟨ad108,e108,hx108_0,hx108_1,hx108_2,hx108_3,hx108_4,hx108_5⟩:=at_T73 HR0.out x12_2 p108 q108
            cases e108
            replace hx108_0:=(HB.out.cell (World.block_lt_of_cell? w _ hx108_0)).trans hx108_0
            replace hx108_1:=(HB.out.cell (World.block_lt_of_cell? w _ hx108_1)).trans hx108_1
            replace hx108_2:=(HB.out.cell (World.block_lt_of_cell? w _ hx108_2)).trans hx108_2
            replace hx108_3:=(HB.out.cell (World.block_lt_of_cell? w _ hx108_3)).trans hx108_3
            replace hx108_4:=(HB.out.cell (World.block_lt_of_cell? w _ hx108_4)).trans hx108_4
            replace hx108_5:=(HB.out.cell (World.block_lt_of_cell? w _ hx108_5)).trans hx108_5
            replace p108:=eq_true p108
            replace q108:=eq_true q108
            obtain ⟨Ao17,co17,eo17⟩:=Kd.R_slice HO_8.out
            subst eo17
            go_wp2
            go_roundg k2
            case measure=>have:=HK1.out;have:=HK2.out;omega
            case rel=>exact ⟨(true),(x11_2),(wrap64 (x12_2 + 1)),(by first|rfl|(simp;done)|(simp [*];done)),(by first|rfl|(simp;done)|(simp [*];done)),(by first|rfl|(simp;done)|(simp [*];done)),H',⟨by have:=HK1.out;have:=HK2.out;omega⟩,⟨by (with_reducible repeat (first|apply Kd.R_alloc|apply Kd.R_drewN|apply Kd.R_drew));exact HO_8.out⟩,⟨by (with_reducible repeat (first|apply Kd.R_alloc|apply Kd.R_drewN|apply Kd.R_drew));exact HO_9.out⟩,⟨by repeat (first|(with_reducible first|exact HB.out|apply below_alloc|apply pw_below_drewN|apply below_drew1)|exact HB.out)⟩⟩
          ·replace c14:=Bool.eq_false_iff.mpr c14
           subst c14
           have H1:(contangoref23_Expiries.l1 k2 l0 l1 x8_1 x9_1 true ((rd_T73 l0 x12_2).f0.f2) (wrap64 (x12_2 + 1))) = some (r1,r2,r3):=by rw [if_neg (show ¬ (false = true) by decide)] at H;exact H
           clear H
           have H:=H1
           clear H1
           have H':=Aside0.mk H
           clear H
           have p108:0 ≤ (x12_2:Int):=of_decide_eq_true (by first|(with_reducible assumption)|assumption)
           have q108:x12_2 < (l0.length:Int):=of_decide_eq_true (by first|(with_reducible assumption)|assumption)
           obtain ⟨ad108,e108,hx108_0,hx108_1,hx108_2,hx108_3,hx108_4,hx108_5⟩:=at_T73 HR0.out x12_2 p108 q108
           cases e108
           replace hx108_0:=(HB.out.cell (World.block_lt_of_cell? w _ hx108_0)).trans hx108_0
           replace hx108_1:=(HB.out.cell (World.block_lt_of_cell? w _ hx108_1)).trans hx108_1
           replace hx108_2:=(HB.out.cell (World.block_lt_of_cell? w _ hx108_2)).trans hx108_2
           replace hx108_3:=(HB.out.cell (World.block_lt_of_cell? w _ hx108_3)).trans hx108_3
           replace hx108_4:=(HB.out.cell (World.block_lt_of_cell? w _ hx108_4)).trans hx108_4
           replace hx108_5:=(HB.out.cell (World.block_lt_of_cell? w _ hx108_5)).trans hx108_5
           replace p108:=eq_true p108
           replace q108:=eq_true q108
           obtain ⟨Ao18,co18,eo18⟩:=Kd.R_slice HO_8.out
           subst eo18
           go_wp2
           go_roundg k2
           case measure=>have:=HK1.out;have:=HK2.out;omega
           case rel=>exact ⟨(true),((rd_T73 l0 x12_2).f0.f2),(wrap64 (x12_2 + 1)),(by first|rfl|(simp;done)|(simp [*];done)),(by first|rfl|(simp;done)|(simp [*];done)),(by first|rfl|(simp;done)|(simp [*];done)),H',⟨by have:=HK1.out;have:=HK2.out;omega⟩,⟨by (with_reducible repeat (first|apply Kd.R_alloc|apply Kd.R_drewN|apply Kd.R_drew));exact HO_8.out⟩,⟨by (with_reducible repeat (first|apply Kd.R_alloc|apply Kd.R_drewN|apply Kd.R_drew));exact HO_9.out⟩,⟨by repeat (first|(with_reducible first|exact HB.out|apply below_alloc|apply pw_below_drewN|apply below_drew1)|exact HB.out)⟩⟩
         ·rw [if_neg c13] at H
          have c13b0:((x8_1.length:Int) == 0) = false:=beq_eq_false_iff_ne.mpr c13
          have c13b1:((x8_1.length:Int) != 0) = true:=bne_iff_ne.mpr c13
          have c13b2:¬ (x8_1 = []):=fun h_=>c13 (by rw [h_];rfl)
          obtain ⟨ji19,hji19⟩:∃ j_:Int,(wrap64 ((x8_1.length:Int) - 1)) = j_:=⟨_,rfl⟩
          replace H:(if 0 ≤ (ji19) then (if (ji19) < (x8_1.length:Int) then (if ((rd_T73 l0 x12_2).f0.f2) > (rd x8_1 (ji19)) then (if x10_2 = true then (if ((rd_T73 l0 x12_2).f0.f2) < x11_2 then (contangoref23_Expiries.l1 k2 l0 l1 x8_1 x9_1 true ((rd_T73 l0 x12_2).f0.f2) (wrap64 (x12_2 + 1))) else (contangoref23_Expiries.l1 k2 l0 l1 x8_1 x9_1 x10_2 x11_2 (wrap64 (x12_2 + 1)))) else (contangoref23_Expiries.l1 k2 l0 l1 x8_1 x9_1 true ((rd_T73 l0 x12_2).f0.f2) (wrap64 (x12_2 + 1)))) else (contangoref23_Expiries.l1 k2 l0 l1 x8_1 x9_1 x10_2 x11_2 (wrap64 (x12_2 + 1)))) else (none)) else (none)) = some (r1,r2,r3):=by first|(rw [hji19] at H;exact H)|(simp only [hji19] at H ⊢;exact H)
          have hji19w:(IntKind.i64.wrap ((x8_1.length:Int) - 1)) = ji19:=(i64_w _).trans hji19
          by_cases c20:0 ≤ (ji19)
          ·rw [if_pos c20] at H
           have c20b0:decide (0 ≤ (ji19)) = true:=decide_eq_true c20
           clear c20
           by_cases c21:(ji19) < (x8_1.length:Int)
           ·rw [if_pos c21] at H
            have c21b0:decide ((ji19) < (x8_1.length:Int)) = true:=decide_eq_true c21
            clear c21
            by_cases c22:((rd_T73 l0 x12_2).f0.f2) > (rd x8_1 (ji19))
            ·rw [if_pos c22] at H
             have c22b0:decide ((rd x8_1 (ji19)) < ((rd_T73 l0 x12_2).f0.f2)) = true:=decide_eq_true c22
             clear c22
             by_cases c23:x10_2 = true
             ·subst c23
              have H1:(if ((rd_T73 l0 x12_2).f0.f2) < x11_2 then (contangoref23_Expiries.l1 k2 l0 l1 x8_1 x9_1 true ((rd_T73 l0 x12_2).f0.f2) (wrap64 (x12_2 + 1))) else (contangoref23_Expiries.l1 k2 l0 l1 x8_1 x9_1 true x11_2 (wrap64 (x12_2 + 1)))) = some (r1,r2,r3):=by rw [if_pos rfl] at H;exact H
              clear H
              have H:=H1
              clear H1
              by_cases c24:((rd_T73 l0 x12_2).f0.f2) < x11_2
              ·rw [if_pos c24] at H
               have c24b0:decide (((rd_T73 l0 x12_2).f0.f2) < x11_2) = true:=decide_eq_true c24
               clear c24
               have H':=Aside0.mk H
               clear H
               have p108:0 ≤ (x12_2:Int):=of_decide_eq_true (by first|(with_reducible assumption)|assumption)
               have q108:x12_2 < (l0.length:Int):=of_decide_eq_true (by first|(with_reducible assumption)|assumption)
               obtain ⟨ad108,e108,hx108_0,hx108_1,hx108_2,hx108_3,hx108_4,hx108_5⟩:=at_T73 HR0.out x12_2 p108 q108
               cases e108
               replace hx108_0:=(HB.out.cell (World.block_lt_of_cell? w _ hx108_0)).trans hx108_0
               replace hx108_1:=(HB.out.cell (World.block_lt_of_cell? w _ hx108_1)).trans hx108_1
               replace hx108_2:=(HB.out.cell (World.block_lt_of_cell? w _ hx108_2)).trans hx108_2
               replace hx108_3:=(HB.out.cell (World.block_lt_of_cell? w _ hx108_3)).trans hx108_3
               replace hx108_4:=(HB.out.cell (World.block_lt_of_cell? w _ hx108_4)).trans hx108_4
               replace hx108_5:=(HB.out.cell (World.block_lt_of_cell? w _ hx108_5)).trans hx108_5
               replace p108:=eq_true p108
               replace q108:=eq_true q108
               obtain ⟨Ao25,co25,eo25⟩:=Kd.R_slice HO_8.out
               subst eo25
               have p109:0 ≤ ((ji19):Int):=of_decide_eq_true (by first|(with_reducible assumption)|assumption)
               have q109:(ji19) < (x8_1.length:Int):=of_decide_eq_true (by first|(with_reducible assumption)|assumption)
               obtain ⟨ad109,e109,hx109_0⟩:=Kd.at_int (Kd.R_reads' HO_8.out).2.2 (ji19) p109 q109
               cases e109
               replace p109:=eq_true p109
               replace q109:=eq_true q109
               go_wp2
               go_roundg k2
               case measure=>have:=HK1.out;have:=HK2.out;omega
               case rel=>exact ⟨(true),((rd_T73 l0 x12_2).f0.f2),(wrap64 (x12_2 + 1)),(by first|rfl|(simp;done)|(simp [*];done)),(by first|rfl|(simp;done)|(simp [*];done)),(by first|rfl|(simp;done)|(simp [*];done)),H',⟨by have:=HK1.out;have:=HK2.out;omega⟩,⟨by (with_reducible repeat (first|apply Kd.R_alloc|apply Kd.R_drewN|apply Kd.R_drew));exact HO_8.out⟩,⟨by (with_reducible repeat (first|apply Kd.R_alloc|apply Kd.R_drewN|apply Kd.R_drew));exact HO_9.out⟩,⟨by repeat (first|(with_reducible first|exact HB.out|apply below_alloc|apply pw_below_drewN|apply below_drew1)|exact HB.out)⟩⟩
              ·rw [if_neg c24] at H
               have c24b0:decide (((rd_T73 l0 x12_2).f0.f2) < x11_2) = false:=decide_eq_false c24
               clear c24
               have H':=Aside0.mk H
               clear H
               have p108:0 ≤ (x12_2:Int):=of_decide_eq_true (by first|(with_reducible assumption)|assumption)
               have q108:x12_2 < (l0.length:Int):=of_decide_eq_true (by first|(with_reducible assumption)|assumption)
               obtain ⟨ad108,e108,hx108_0,hx108_1,hx108_2,hx108_3,hx108_4,hx108_5⟩:=at_T73 HR0.out x12_2 p108 q108
               cases e108
               replace hx108_0:=(HB.out.cell (World.block_lt_of_cell? w _ hx108_0)).trans hx108_0
               replace hx108_1:=(HB.out.cell (World.block_lt_of_cell? w _ hx108_1)).trans hx108_1
               replace hx108_2:=(HB.out.cell (World.block_lt_of_cell? w _ hx108_2)).trans hx108_2
               replace hx108_3:=(HB.out.cell (World.block_lt_of_cell? w _ hx108_3)).trans hx108_3
               replace hx108_4:=(HB.out.cell (World.block_lt_of_cell? w _ hx108_4)).trans hx108_4
               replace hx108_5:=(HB.out.cell (World.block_lt_of_cell? w _ hx108_5)).trans hx108_5
               replace p108:=eq_true p108
               replace q108:=eq_true q108
               obtain ⟨Ao26,co26,eo26⟩:=Kd.R_slice HO_8.out
               subst eo26
               have p109:0 ≤ ((ji19):Int):=of_decide_eq_true (by first|(with_reducible assumption)|assumption)
               have q109:(ji19) < (x8_1.length:Int):=of_decide_eq_true (by first|(with_reducible assumption)|assumption)
               obtain ⟨ad109,e109,hx109_0⟩:=Kd.at_int (Kd.R_reads' HO_8.out).2.2 (ji19) p109 q109
               cases e109
               replace p109:=eq_true p109
               replace q109:=eq_true q109
               go_wp2
               go_roundg k2
               case measure=>have:=HK1.out;have:=HK2.out;omega
               case rel=>exact ⟨(true),(x11_2),(wrap64 (x12_2 + 1)),(by first|rfl|(simp;done)|(simp [*];done)),(by first|rfl|(simp;done)|(simp [*];done)),(by first|rfl|(simp;done)|(simp [*];done)),H',⟨by have:=HK1.out;have:=HK2.out;omega⟩,⟨by (with_reducible repeat (first|apply Kd.R_alloc|apply Kd.R_drewN|apply Kd.R_drew));exact HO_8.out⟩,⟨by (with_reducible repeat (first|apply Kd.R_alloc|apply Kd.R_drewN|apply Kd.R_drew));exact HO_9.out⟩,⟨by repeat (first|(with_reducible first|exact HB.out|apply below_alloc|apply pw_below_drewN|apply below_drew1)|exact HB.out)⟩⟩
             ·replace c23:=Bool.eq_false_iff.mpr c23
              subst c23
              have H1:(contangoref23_Expiries.l1 k2 l0 l1 x8_1 x9_1 true ((rd_T73 l0 x12_2).f0.f2) (wrap64 (x12_2 + 1))) = some (r1,r2,r3):=by rw [if_neg (show ¬ (false = true) by decide)] at H;exact H
              clear H
              have H:=H1
              clear H1
              have H':=Aside0.mk H
              clear H
              have p108:0 ≤ (x12_2:Int):=of_decide_eq_true (by first|(with_reducible assumption)|assumption)
              have q108:x12_2 < (l0.length:Int):=of_decide_eq_true (by first|(with_reducible assumption)|assumption)
              obtain ⟨ad108,e108,hx108_0,hx108_1,hx108_2,hx108_3,hx108_4,hx108_5⟩:=at_T73 HR0.out x12_2 p108 q108
              cases e108
              replace hx108_0:=(HB.out.cell (World.block_lt_of_cell? w _ hx108_0)).trans hx108_0
              replace hx108_1:=(HB.out.cell (World.block_lt_of_cell? w _ hx108_1)).trans hx108_1
              replace hx108_2:=(HB.out.cell (World.block_lt_of_cell? w _ hx108_2)).trans hx108_2
              replace hx108_3:=(HB.out.cell (World.block_lt_of_cell? w _ hx108_3)).trans hx108_3
              replace hx108_4:=(HB.out.cell (World.block_lt_of_cell? w _ hx108_4)).trans hx108_4
              replace hx108_5:=(HB.out.cell (World.block_lt_of_cell? w _ hx108_5)).trans hx108_5
              replace p108:=eq_true p108
              replace q108:=eq_true q108
              obtain ⟨Ao27,co27,eo27⟩:=Kd.R_slice HO_8.out
              subst eo27
              have p109:0 ≤ ((ji19):Int):=of_decide_eq_true (by first|(with_reducible assumption)|assumption)
              have q109:(ji19) < (x8_1.length:Int):=of_decide_eq_true (by first|(with_reducible assumption)|assumption)
              obtain ⟨ad109,e109,hx109_0⟩:=Kd.at_int (Kd.R_reads' HO_8.out).2.2 (ji19) p109 q109
              cases e109
              replace p109:=eq_true p109
              replace q109:=eq_true q109
              go_wp2
              go_roundg k2
              case measure=>have:=HK1.out;have:=HK2.out;omega
              case rel=>exact ⟨(true),((rd_T73 l0 x12_2).f0.f2),(wrap64 (x12_2 + 1)),(by first|rfl|(simp;done)|(simp [*];done)),(by first|rfl|(simp;done)|(simp [*];done)),(by first|rfl|(simp;done)|(simp [*];done)),H',⟨by have:=HK1.out;have:=HK2.out;omega⟩,⟨by (with_reducible repeat (first|apply Kd.R_alloc|apply Kd.R_drewN|apply Kd.R_drew));exact HO_8.out⟩,⟨by (with_reducible repeat (first|apply Kd.R_alloc|apply Kd.R_drewN|apply Kd.R_drew));exact HO_9.out⟩,⟨by repeat (first|(with_reducible first|exact HB.out|apply below_alloc|apply pw_below_drewN|apply below_drew1)|exact HB.out)⟩⟩
            ·rw [if_neg c22] at H
             have c22b0:decide ((rd x8_1 (ji19)) < ((rd_T73 l0 x12_2).f0.f2)) = false:=decide_eq_false c22
             clear c22
             have H':=Aside0.mk H
             clear H
             have p108:0 ≤ (x12_2:Int):=of_decide_eq_true (by first|(with_reducible assumption)|assumption)
             have q108:x12_2 < (l0.length:Int):=of_decide_eq_true (by first|(with_reducible assumption)|assumption)
             obtain ⟨ad108,e108,hx108_0,hx108_1,hx108_2,hx108_3,hx108_4,hx108_5⟩:=at_T73 HR0.out x12_2 p108 q108
             cases e108
             replace hx108_0:=(HB.out.cell (World.block_lt_of_cell? w _ hx108_0)).trans hx108_0
             replace hx108_1:=(HB.out.cell (World.block_lt_of_cell? w _ hx108_1)).trans hx108_1
             replace hx108_2:=(HB.out.cell (World.block_lt_of_cell? w _ hx108_2)).trans hx108_2
             replace hx108_3:=(HB.out.cell (World.block_lt_of_cell? w _ hx108_3)).trans hx108_3
             replace hx108_4:=(HB.out.cell (World.block_lt_of_cell? w _ hx108_4)).trans hx108_4
             replace hx108_5:=(HB.out.cell (World.block_lt_of_cell? w _ hx108_5)).trans hx108_5
             replace p108:=eq_true p108
             replace q108:=eq_true q108
             obtain ⟨Ao28,co28,eo28⟩:=Kd.R_slice HO_8.out
             subst eo28
             have p109:0 ≤ ((ji19):Int):=of_decide_eq_true (by first|(with_reducible assumption)|assumption)
             have q109:(ji19) < (x8_1.length:Int):=of_decide_eq_true (by first|(with_reducible assumption)|assumption)
             obtain ⟨ad109,e109,hx109_0⟩:=Kd.at_int (Kd.R_reads' HO_8.out).2.2 (ji19) p109 q109
             cases e109
             replace p109:=eq_true p109
             replace q109:=eq_true q109
             go_wp2
             go_roundg k2
             case measure=>have:=HK1.out;have:=HK2.out;omega
             case rel=>exact ⟨(x10_2),(x11_2),(wrap64 (x12_2 + 1)),(by first|rfl|(simp;done)|(simp [*];done)),(by first|rfl|(simp;done)|(simp [*];done)),(by first|rfl|(simp;done)|(simp [*];done)),H',⟨by have:=HK1.out;have:=HK2.out;omega⟩,⟨by (with_reducible repeat (first|apply Kd.R_alloc|apply Kd.R_drewN|apply Kd.R_drew));exact HO_8.out⟩,⟨by (with_reducible repeat (first|apply Kd.R_alloc|apply Kd.R_drewN|apply Kd.R_drew));exact HO_9.out⟩,⟨by repeat (first|(with_reducible first|exact HB.out|apply below_alloc|apply pw_below_drewN|apply below_drew1)|exact HB.out)⟩⟩
           ·rw [if_neg c21] at H
            exact absurd H (by simp)
          ·rw [if_neg c20] at H
           exact absurd H (by simp)
        ·rw [if_neg c12] at H
         exact absurd H (by simp)
       ·rw [if_neg c11] at H
        have c11b0:decide (x12_2 < (l0.length:Int)) = false:=decide_eq_false c11
        clear c11
        have H':=Aside0.mk H
        clear H
        go_wp2
        go_loopg [14,15] k2 (fun kq v14 v15 w'=>∃ (x14_3:Int) (x15_3:Int),v14 = .int .i64 x14_3 ∧ v15 = .int .i64 x15_3 ∧ Aside0 (contangoref23_Expiries.l2 kq l0 l1 x8_1 x9_1 x10_2 x11_2 x14_3 x15_3 = some (r1,r2,r3)) ∧ Aside0 (kq ≤ k2) ∧ Aside0 (Kd.R (Kd.int .i64) 3 w' w.heap.size (fun k_=>some k_ ≠ (u9:Value).ownBlock) u8 x8_1) ∧ Aside0 (Kd.R (Kd.int .i64) 3 w' w.heap.size (fun k_=>some k_ ≠ (u8:Value).ownBlock) u9 x9_1) ∧ Aside0 (Below w.heap.size w w'))
        case atStart=>exact ⟨(0),(0),(by first|rfl|(simp;done)|(simp [*];done)),(by first|rfl|(simp;done)|(simp [*];done)),H',⟨Nat.le_refl _⟩,⟨by (with_reducible repeat (first|apply Kd.R_alloc|apply Kd.R_drewN|apply Kd.R_drew));exact HO_8.out⟩,⟨by (with_reducible repeat (first|apply Kd.R_alloc|apply Kd.R_drewN|apply Kd.R_drew));exact HO_9.out⟩,⟨by repeat (first|(with_reducible first|exact HB.out|apply below_alloc|apply pw_below_drewN|apply below_drew1)|exact HB.out)⟩⟩
        case round =>
         clear H'
         try clear c1
         try clear p1
         try clear q1
         try clear hx1
         try clear c2
         try clear p2
         try clear c4
         try clear c4b0
         try clear c4b1
         try clear c5
         try clear p6
         try clear c10
         try clear p10
         try clear q10
         try clear hx10
         try clear c11
         try clear c11b0
         try clear c12
         try clear c12b0
         try clear c13
         try clear c13b0
         try clear c13b1
         try clear c13b2
         try clear c14
         try clear c15
         try clear c15b0
         try clear c20
         try clear c20b0
         try clear c21
         try clear c21b0
         try clear c22
         try clear c22b0
         try clear c23
         try clear c24
         try clear c24b0
         try clear hx108_0
         try clear hx108_1
         try clear hx108_2
         try clear hx108_3
         try clear hx108_4
         try clear hx108_5
         try clear hx109_0
         try clear p108
         try clear p109
         try clear p2
         try clear q108
         try clear q109
         obtain ⟨x14_3,x15_3,rfl,rfl,HA,HK3,HO_8,HO_9,HB⟩:=hrel
         cases gk with
         | zero=>exact absurd HA.out (by simp [contangoref23_Expiries.l2])
         | succ k3 =>
          have H:=HA.out
          clear HA
          simp only [contangoref23_Expiries.l2] at H
          by_cases c29:x15_3 < (l0.length:Int)
          ·rw [if_pos c29] at H
           have c29b0:decide (x15_3 < (l0.length:Int)) = true:=decide_eq_true c29
           clear c29
           by_cases c30:0 ≤ x15_3
           ·rw [if_pos c30] at H
            have c30b0:decide (0 ≤ x15_3) = true:=decide_eq_true c30
            clear c30
            by_cases c31:((rd_T73 l0 x15_3).f0.f2) = x11_2
            ·rw [if_pos c31] at H
             have c31b0:(((rd_T73 l0 x15_3).f0.f2) == x11_2) = true:=beq_iff_eq.mpr c31
             have c31b1:(((rd_T73 l0 x15_3).f0.f2) != x11_2) = false:=bne_eq_false_iff_eq.mpr c31
             clear c31
             replace H:=Option.bind_eq_some_iff.mp H
             obtain ⟨t114,A320,H⟩:=H
             replace H:(if 0 ≤ t114 then (if t114 < (l1.length:Int) then (contangoref23_Expiries.l2 k3 l0 l1 x8_1 x9_1 x10_2 x11_2 (wrap64 (x14_3 + (wrap64 ((wrap64 (((rd_T73 l0 x15_3).f1) - ((rd_T73 l0 x15_3).f2))) * ((rd_T91 l1 t114).f2))))) (wrap64 (x15_3 + 1))) else (none)) else (none)) = some (r1,r2,r3):=H
             have A32:=Aside0.mk A320
             clear A320
             by_cases c33:0 ≤ t114
             ·rw [if_pos c33] at H
              have c33b0:decide (0 ≤ t114) = true:=decide_eq_true c33
              clear c33
              by_cases c34:t114 < (l1.length:Int)
              ·rw [if_pos c34] at H
               have c34b0:decide (t114 < (l1.length:Int)) = true:=decide_eq_true c34
               clear c34
               have H':=Aside0.mk H
               clear H
               have p110:0 ≤ (x15_3:Int):=of_decide_eq_true (by first|(with_reducible assumption)|assumption)
               have q110:x15_3 < (l0.length:Int):=of_decide_eq_true (by first|(with_reducible assumption)|assumption)
               obtain ⟨ad110,e110,hx110_0,hx110_1,hx110_2,hx110_3,hx110_4,hx110_5⟩:=at_T73 HR0.out x15_3 p110 q110
               cases e110
               replace hx110_0:=(HB.out.cell (World.block_lt_of_cell? w _ hx110_0)).trans hx110_0
               replace hx110_1:=(HB.out.cell (World.block_lt_of_cell? w _ hx110_1)).trans hx110_1
               replace hx110_2:=(HB.out.cell (World.block_lt_of_cell? w _ hx110_2)).trans hx110_2
               replace hx110_3:=(HB.out.cell (World.block_lt_of_cell? w _ hx110_3)).trans hx110_3
               replace hx110_4:=(HB.out.cell (World.block_lt_of_cell? w _ hx110_4)).trans hx110_4
               replace hx110_5:=(HB.out.cell (World.block_lt_of_cell? w _ hx110_5)).trans hx110_5
               replace p110:=eq_true p110
               replace q110:=eq_true q110
               try go_wp2
               have n0_:=Aside0.mk (Kd.R_drew HO_8.out)
               have n1_:=Aside0.mk (Kd.R_drew HO_9.out)
               have n2_:=Aside0.mk (below_drew1 HB.out)
               clear HO_8
               clear HO_9
               clear HB
               have HO_8:=n0_
               have HO_9:=n1_
               have HB:=n2_
               clear n0_ n1_ n2_
               have p111:0 ≤ (x15_3:Int):=of_decide_eq_true (by first|(with_reducible assumption)|assumption)
               have q111:x15_3 < (l0.length:Int):=of_decide_eq_true (by first|(with_reducible assumption)|assumption)
               obtain ⟨ad111,e111,hx111_0,hx111_1,hx111_2,hx111_3,hx111_4,hx111_5⟩:=at_T73 HR0.out x15_3 p111 q111
               have hw111_5:=hx111_5
               have hw111_4:=hx111_4
               have hw111_3:=hx111_3
               have hw111_2:=hx111_2
               have hw111_1:=hx111_1
               have hw111_0:=hx111_0
               obtain rfl:ad110 = ad111:=(by injection e111)
               replace hx111_0:=(HB.out.cell (World.block_lt_of_cell? w _ hx111_0)).trans hx111_0
               replace hx111_1:=(HB.out.cell (World.block_lt_of_cell? w _ hx111_1)).trans hx111_1
               replace hx111_2:=(HB.out.cell (World.block_lt_of_cell? w _ hx111_2)).trans hx111_2
               replace hx111_3:=(HB.out.cell (World.block_lt_of_cell? w _ hx111_3)).trans hx111_3
               replace hx111_4:=(HB.out.cell (World.block_lt_of_cell? w _ hx111_4)).trans hx111_4
               replace hx111_5:=(HB.out.cell (World.block_lt_of_cell? w _ hx111_5)).trans hx111_5
               replace p111:=eq_true p111
               replace q111:=eq_true q111
               have p112:0 ≤ (x15_3:Int):=of_decide_eq_true (by first|(with_reducible assumption)|assumption)
               have q112:x15_3 < (l0.length:Int):=of_decide_eq_true (by first|(with_reducible assumption)|assumption)
               obtain ⟨ad112,e112,hx112_0,hx112_1,hx112_2,hx112_3,hx112_4,hx112_5⟩:=at_T73 HR0.out x15_3 p112 q112
               have hw112_5:=hx112_5
               have hw112_4:=hx112_4
               have hw112_3:=hx112_3
               have hw112_2:=hx112_2
               have hw112_1:=hx112_1
               have hw112_0:=hx112_0
               obtain rfl:ad110 = ad112:=(by injection e112)
               replace hx112_0:=(HB.out.cell (World.block_lt_of_cell? w _ hx112_0)).trans hx112_0
               replace hx112_1:=(HB.out.cell (World.block_lt_of_cell? w _ hx112_1)).trans hx112_1
               replace hx112_2:=(HB.out.cell (World.block_lt_of_cell? w _ hx112_2)).trans hx112_2
               replace hx112_3:=(HB.out.cell (World.block_lt_of_cell? w _ hx112_3)).trans hx112_3
               replace hx112_4:=(HB.out.cell (World.block_lt_of_cell? w _ hx112_4)).trans hx112_4
               replace hx112_5:=(HB.out.cell (World.block_lt_of_cell? w _ hx112_5)).trans hx112_5
               replace p112:=eq_true p112
               replace q112:=eq_true q112
               have p113:0 ≤ (x15_3:Int):=of_decide_eq_true (by first|(with_reducible assumption)|assumption)
               have q113:x15_3 < (l0.length:Int):=of_decide_eq_true (by first|(with_reducible assumption)|assumption)
               obtain ⟨ad113,e113,hx113_0,hx113_1,hx113_2,hx113_3,hx113_4,hx113_5⟩:=at_T73 HR0.out x15_3 p113 q113
               have hw113_5:=hx113_5
               have hw113_4:=hx113_4
               have hw113_3:=hx113_3
               have hw113_2:=hx113_2
               have hw113_1:=hx113_1
               have hw113_0:=hx113_0
               obtain rfl:ad110 = ad113:=(by injection e113)
               replace hx113_0:=(HB.out.cell (World.block_lt_of_cell? w _ hx113_0)).trans hx113_0
               replace hx113_1:=(HB.out.cell (World.block_lt_of_cell? w _ hx113_1)).trans hx113_1
               replace hx113_2:=(HB.out.cell (World.block_lt_of_cell? w _ hx113_2)).trans hx113_2
               replace hx113_3:=(HB.out.cell (World.block_lt_of_cell? w _ hx113_3)).trans hx113_3
               replace hx113_4:=(HB.out.cell (World.block_lt_of_cell? w _ hx113_4)).trans hx113_4
               replace hx113_5:=(HB.out.cell (World.block_lt_of_cell? w _ hx113_5)).trans hx113_5
               replace p113:=eq_true p113
               replace q113:=eq_true q113
               have p115:0 ≤ (t114:Int):=of_decide_eq_true (by first|(with_reducible assumption)|assumption)
               have q115:t114 < (l1.length:Int):=of_decide_eq_true (by first|(with_reducible assumption)|assumption)
               obtain ⟨ad115,A115_4,c115_4,e115,hx115_0,hx115_1,hx115_2,hx115_3,hx115_4,hx115_5,hl115_4,hi115_4⟩:=at_T91 HR1.out t114 p115 q115
               have hw115_5:=hx115_5
               have hw115_4:=hx115_4
               have hw115_3:=hx115_3
               have hw115_2:=hx115_2
               have hw115_1:=hx115_1
               have hw115_0:=hx115_0
               cases e115
               replace hx115_0:=(HB.out.cell (World.block_lt_of_cell? w _ hx115_0)).trans hx115_0
               replace hx115_1:=(HB.out.cell (World.block_lt_of_cell? w _ hx115_1)).trans hx115_1
               replace hx115_2:=(HB.out.cell (World.block_lt_of_cell? w _ hx115_2)).trans hx115_2
               replace hx115_3:=(HB.out.cell (World.block_lt_of_cell? w _ hx115_3)).trans hx115_3
               replace hx115_4:=(HB.out.cell (World.block_lt_of_cell? w _ hx115_4)).trans hx115_4
               replace hx115_5:=(HB.out.cell (World.block_lt_of_cell? w _ hx115_5)).trans hx115_5
               have HR115_4:=Aside0.mk hi115_4
               have HC115_4:=Aside0.mk hl115_4
               clear hi115_4 hl115_4
               replace p115:=eq_true p115
               replace q115:=eq_true q115
               refine start_ (n:=26) (S:=fun w'=>w'.cell? (ad110.add ((x15_3).toNat * 6)) = some (.string ((rd_T73 l0 x15_3).f0.f0)) ∧ w'.cell? ⟨(ad110.add ((x15_3).toNat * 6)).block,(ad110.add ((x15_3).toNat * 6)).off + 1,none⟩ = some (.int .i64 ((rd_T73 l0 x15_3).f0.f1)) ∧ w'.cell? ⟨(ad110.add ((x15_3).toNat * 6)).block,(ad110.add ((x15_3).toNat * 6)).off + 2,none⟩ = some (.int .i64 ((rd_T73 l0 x15_3).f0.f2)) ∧ w'.cell? ⟨(ad110.add ((x15_3).toNat * 6)).block,(ad110.add ((x15_3).toNat * 6)).off + 3,none⟩ = some (.int .i64 ((rd_T73 l0 x15_3).f0.f3)) ∧ w'.cell? ⟨(ad110.add ((x15_3).toNat * 6)).block,(ad110.add ((x15_3).toNat * 6)).off + 4,none⟩ = some (.int .i64 ((rd_T73 l0 x15_3).f1)) ∧ w'.cell? ⟨(ad110.add ((x15_3).toNat * 6)).block,(ad110.add ((x15_3).toNat * 6)).off + 5,none⟩ = some (.int .i64 ((rd_T73 l0 x15_3).f2)) ∧ w'.cell? (ad110.add ((x15_3).toNat * 6)) = some (.string ((rd_T73 l0 x15_3).f0.f0)) ∧ w'.cell? ⟨(ad110.add ((x15_3).toNat * 6)).block,(ad110.add ((x15_3).toNat * 6)).off + 1,none⟩ = some (.int .i64 ((rd_T73 l0 x15_3).f0.f1)) ∧ w'.cell? ⟨(ad110.add ((x15_3).toNat * 6)).block,(ad110.add ((x15_3).toNat * 6)).off + 2,none⟩ = some (.int .i64 ((rd_T73 l0 x15_3).f0.f2)) ∧ w'.cell? ⟨(ad110.add ((x15_3).toNat * 6)).block,(ad110.add ((x15_3).toNat * 6)).off + 3,none⟩ = some (.int .i64 ((rd_T73 l0 x15_3).f0.f3)) ∧ w'.cell? ⟨(ad110.add ((x15_3).toNat * 6)).block,(ad110.add ((x15_3).toNat * 6)).off + 4,none⟩ = some (.int .i64 ((rd_T73 l0 x15_3).f1)) ∧ w'.cell? ⟨(ad110.add ((x15_3).toNat * 6)).block,(ad110.add ((x15_3).toNat * 6)).off + 5,none⟩ = some (.int .i64 ((rd_T73 l0 x15_3).f2)) ∧ w'.cell? (ad110.add ((x15_3).toNat * 6)) = some (.string ((rd_T73 l0 x15_3).f0.f0)) ∧ w'.cell? ⟨(ad110.add ((x15_3).toNat * 6)).block,(ad110.add ((x15_3).toNat * 6)).off + 1,none⟩ = some (.int .i64 ((rd_T73 l0 x15_3).f0.f1)) ∧ w'.cell? ⟨(ad110.add ((x15_3).toNat * 6)).block,(ad110.add ((x15_3).toNat * 6)).off + 2,none⟩ = some (.int .i64 ((rd_T73 l0 x15_3).f0.f2)) ∧ w'.cell? ⟨(ad110.add ((x15_3).toNat * 6)).block,(ad110.add ((x15_3).toNat * 6)).off + 3,none⟩ = some (.int .i64 ((rd_T73 l0 x15_3).f0.f3)) ∧ w'.cell? ⟨(ad110.add ((x15_3).toNat * 6)).block,(ad110.add ((x15_3).toNat * 6)).off + 4,none⟩ = some (.int .i64 ((rd_T73 l0 x15_3).f1)) ∧ w'.cell? ⟨(ad110.add ((x15_3).toNat * 6)).block,(ad110.add ((x15_3).toNat * 6)).off + 5,none⟩ = some (.int .i64 ((rd_T73 l0 x15_3).f2)) ∧ w'.cell? (ad115.add ((t114).toNat * 6)) = some (.string ((rd_T91 l1 t114).f0.f0)) ∧ w'.cell? ⟨(ad115.add ((t114).toNat * 6)).block,(ad115.add ((t114).toNat * 6)).off + 1,none⟩ = some (.int .i64 ((rd_T91 l1 t114).f0.f1)) ∧ w'.cell? ⟨(ad115.add ((t114).toNat * 6)).block,(ad115.add ((t114).toNat * 6)).off + 2,none⟩ = some (.int .i64 ((rd_T91 l1 t114).f0.f2)) ∧ w'.cell? ⟨(ad115.add ((t114).toNat * 6)).block,(ad115.add ((t114).toNat * 6)).off + 3,none⟩ = some (.int .i64 ((rd_T91 l1 t114).f0.f3)) ∧ w'.cell? ⟨(ad115.add ((t114).toNat * 6)).block,(ad115.add ((t114).toNat * 6)).off + 4,none⟩ = some (.slice A115_4 ((rd_T91 l1 t114).f1).length c115_4) ∧ w'.cell? ⟨(ad115.add ((t114).toNat * 6)).block,(ad115.add ((t114).toNat * 6)).off + 5,none⟩ = some (.int .i64 ((rd_T91 l1 t114).f2))) (ds:=[]) #[Z,Z,Z,Z,Z,Z,Z,Z,Z,Z,Z,Z,Z,Z,Z,Z,Z,Z,Z,Z,Z,Z,Z,Z,Z,Z] (by kernel_rfl) rfl rfl ⟨((HB.out.cell (World.block_lt_of_cell? w _ hw111_0)).trans hw111_0),((HB.out.cell (World.block_lt_of_cell? w _ hw111_1)).trans hw111_1),((HB.out.cell (World.block_lt_of_cell? w _ hw111_2)).trans hw111_2),((HB.out.cell (World.block_lt_of_cell? w _ hw111_3)).trans hw111_3),((HB.out.cell (World.block_lt_of_cell? w _ hw111_4)).trans hw111_4),((HB.out.cell (World.block_lt_of_cell? w _ hw111_5)).trans hw111_5),((HB.out.cell (World.block_lt_of_cell? w _ hw112_0)).trans hw112_0),((HB.out.cell (World.block_lt_of_cell? w _ hw112_1)).trans hw112_1),((HB.out.cell (World.block_lt_of_cell? w _ hw112_2)).trans hw112_2),((HB.out.cell (World.block_lt_of_cell? w _ hw112_3)).trans hw112_3),((HB.out.cell (World.block_lt_of_cell? w _ hw112_4)).trans hw112_4),((HB.out.cell (World.block_lt_of_cell? w _ hw112_5)).trans hw112_5),((HB.out.cell (World.block_lt_of_cell? w _ hw113_0)).trans hw113_0),((HB.out.cell (World.block_lt_of_cell? w _ hw113_1)).trans hw113_1),((HB.out.cell (World.block_lt_of_cell? w _ hw113_2)).trans hw113_2),((HB.out.cell (World.block_lt_of_cell? w _ hw113_3)).trans hw113_3),((HB.out.cell (World.block_lt_of_cell? w _ hw113_4)).trans hw113_4),((HB.out.cell (World.block_lt_of_cell? w _ hw113_5)).trans hw113_5),((HB.out.cell (World.block_lt_of_cell? w _ hw115_0)).trans hw115_0),((HB.out.cell (World.block_lt_of_cell? w _ hw115_1)).trans hw115_1),((HB.out.cell (World.block_lt_of_cell? w _ hw115_2)).trans hw115_2),((HB.out.cell (World.block_lt_of_cell? w _ hw115_3)).trans hw115_3),((HB.out.cell (World.block_lt_of_cell? w _ hw115_4)).trans hw115_4),((HB.out.cell (World.block_lt_of_cell? w _ hw115_5)).trans hw115_5)⟩ (fun hHeld=>?_);refine with_tabW contangoref23_Expiries.tab22 contangoref23_Expiries.bits22 (fun HT_ HW_=>?_)
               generalize wr.drew = w35 at HO_8 HO_9 HB HR115_4 hx111_0 hx111_1 hx111_2 hx111_3 hx111_4 hx111_5 hx112_0 hx112_1 hx112_2 hx112_3 hx112_4 hx112_5 hx113_0 hx113_1 hx113_2 hx113_3 hx113_4 hx113_5 hx115_0 hx115_1 hx115_2 hx115_3 hx115_4 hx115_5 hHeld ⊢
               refine pure_ (i:=0) (N:=some 74) (v:=?_) (a':=?_) #[Y,Z,Z,Z,Z,Z,Z,Z,Z,Z,Z,Z,Z,Z,Z,Z,Z,Z,Z,Z,Z,Z,Z,Z,Z,Z] rfl rfl (any_of HT_.out (by kernel_rfl)) (fun _ _ _ h=>h) (Or.inl ⟨by rfl,?_⟩) ?_ ?_
               rotate_left
               ·intro w'
                go_simp
                with_reducible rfl
               rotate_left
               ·simp only [Act.put,List.setIfInBounds_toArray,List.set_cons_zero,List.set_cons_succ,i64_w,i32_w]
                rfl
               refine pure_ (i:=1) (N:=some 75) (v:=?_) (a':=?_) #[Y,Y,Z,Z,Z,Z,Z,Z,Z,Z,Z,Z,Z,Z,Z,Z,Z,Z,Z,Z,Z,Z,Z,Z,Z,Z] rfl rfl (any_of HT_.out (by kernel_rfl)) (fun _ _ _ h=>h) (Or.inl ⟨by rfl,?_⟩) ?_ ?_
               rotate_left
               ·intro w'
                go_simp
                with_reducible rfl
               rotate_left
               ·simp only [Act.put,List.setIfInBounds_toArray,List.set_cons_zero,List.set_cons_succ,i64_w,i32_w]
                rfl
               refine pure_ (i:=2) (N:=some 76) (v:=?_) (a':=?_) #[Y,Y,Y,Z,Z,Z,Z,Z,Z,Z,Z,Z,Z,Z,Z,Z,Z,Z,Z,Z,Z,Z,Z,Z,Z,Z] rfl rfl (any_of HT_.out (by kernel_rfl)) (fun _ _ _ h=>h) (Or.inl ⟨by rfl,?_⟩) ?_ ?_
               rotate_left
               ·intro w'
                go_simp
                with_reducible rfl
               rotate_left
               ·simp only [Act.put,List.setIfInBounds_toArray,List.set_cons_zero,List.set_cons_succ,i64_w,i32_w]
                rfl
               refine pure_ (i:=3) (N:=some 77) (v:=?_) (a':=?_) #[Y,Y,Y,Y,Z,Z,Z,Z,Z,Z,Z,Z,Z,Z,Z,Z,Z,Z,Z,Z,Z,Z,Z,Z,Z,Z] rfl rfl (any_of HT_.out (by kernel_rfl)) (fun _ _ _ h=>h) (Or.inl ⟨by rfl,?_⟩) ?_ ?_
               rotate_left
               ·intro w'
                go_simp
                with_reducible rfl
               rotate_left
               ·simp only [Act.put,List.setIfInBounds_toArray,List.set_cons_zero,List.set_cons_succ,i64_w,i32_w]
                rfl
               refine pure_ (i:=4) (N:=some 78) (v:=?_) (a':=?_) #[Y,Y,Y,Y,Y,Z,Z,Z,Z,Z,Z,Z,Z,Z,Z,Z,Z,Z,Z,Z,Z,Z,Z,Z,Z,Z] rfl rfl (any_of HT_.out (by kernel_rfl)) (fun _ _ _ h=>h) (Or.inl ⟨by rfl,?_⟩) ?_ ?_
               rotate_left
               ·intro w'
                go_simp
                with_reducible rfl
               rotate_left
               ·simp only [Act.put,List.setIfInBounds_toArray,List.set_cons_zero,List.set_cons_succ,i64_w,i32_w]
                rfl
               refine pure_ (i:=6) (N:=some 80) (v:=?_) (a':=?_) #[Y,Y,Y,Y,Y,Z,Y,Z,Z,Z,Z,Z,Z,Z,Z,Z,Z,Z,Z,Z,Z,Z,Z,Z,Z,Z] rfl rfl (any_of HT_.out (by kernel_rfl)) (fun _ _ _ h=>h) (Or.inl ⟨by rfl,?_⟩) ?_ ?_
               rotate_left
               ·intro w'
                go_simp
                with_reducible rfl
               rotate_left
               ·simp only [Act.put,List.setIfInBounds_toArray,List.set_cons_zero,List.set_cons_succ,i64_w,i32_w]
                rfl
               refine pure_ (i:=7) (N:=some 81) (v:=?_) (a':=?_) #[Y,Y,Y,Y,Y,Z,Y,Y,Z,Z,Z,Z,Z,Z,Z,Z,Z,Z,Z,Z,Z,Z,Z,Z,Z,Z] rfl rfl (any_of HT_.out (by kernel_rfl)) (fun _ _ _ h=>h) (Or.inl ⟨by rfl,?_⟩) ?_ ?_
               rotate_left
               ·intro w'
                go_simp
                with_reducible rfl
               rotate_left
               ·simp only [Act.put,List.setIfInBounds_toArray,List.set_cons_zero,List.set_cons_succ,i64_w,i32_w]
                rfl
               refine pure_ (i:=8) (N:=some 82) (v:=?_) (a':=?_) #[Y,Y,Y,Y,Y,Z,Y,Y,Y,Z,Z,Z,Z,Z,Z,Z,Z,Z,Z,Z,Z,Z,Z,Z,Z,Z] rfl rfl (any_of HT_.out (by kernel_rfl)) (fun _ _ _ h=>h) (Or.inl ⟨by rfl,?_⟩) ?_ ?_
               rotate_left
               ·intro w'
                go_simp
                with_reducible rfl
               rotate_left
               ·simp only [Act.put,List.setIfInBounds_toArray,List.set_cons_zero,List.set_cons_succ,i64_w,i32_w]
                rfl
               refine pure_ (i:=9) (N:=some 83) (v:=?_) (a':=?_) #[Y,Y,Y,Y,Y,Z,Y,Y,Y,Y,Z,Z,Z,Z,Z,Z,Z,Z,Z,Z,Z,Z,Z,Z,Z,Z] rfl rfl (any_of HT_.out (by kernel_rfl)) (fun _ _ _ h=>h) (Or.inl ⟨by rfl,?_⟩) ?_ ?_
               rotate_left
               ·intro w'
                go_simp
                with_reducible rfl
               rotate_left
               ·simp only [Act.put,List.setIfInBounds_toArray,List.set_cons_zero,List.set_cons_succ,i64_w,i32_w]
                rfl
               refine pure_ (i:=12) (N:=some 86) (v:=?_) (a':=?_) #[Y,Y,Y,Y,Y,Z,Y,Y,Y,Y,Z,Z,Y,Z,Z,Z,Z,Z,Z,Z,Z,Z,Z,Z,Z,Z] rfl rfl (any_of HT_.out (by kernel_rfl)) (fun _ _ _ h=>h) (Or.inl ⟨by rfl,?_⟩) ?_ ?_
               rotate_left
               ·intro w'
                go_simp
                with_reducible rfl
               rotate_left
               ·simp only [Act.put,List.setIfInBounds_toArray,List.set_cons_zero,List.set_cons_succ,i64_w,i32_w]
                rfl
               refine pure_ (i:=13) (N:=some 87) (v:=?_) (a':=?_) #[Y,Y,Y,Y,Y,Z,Y,Y,Y,Y,Z,Z,Y,Y,Z,Z,Z,Z,Z,Z,Z,Z,Z,Z,Z,Z] rfl rfl (any_of HT_.out (by kernel_rfl)) (fun _ _ _ h=>h) (Or.inl ⟨by rfl,?_⟩) ?_ ?_
               rotate_left
               ·intro w'
                go_simp
                with_reducible rfl
               rotate_left
               ·simp only [Act.put,List.setIfInBounds_toArray,List.set_cons_zero,List.set_cons_succ,i64_w,i32_w]
                rfl
               refine pure_ (i:=14) (N:=some 88) (v:=?_) (a':=?_) #[Y,Y,Y,Y,Y,Z,Y,Y,Y,Y,Z,Z,Y,Y,Y,Z,Z,Z,Z,Z,Z,Z,Z,Z,Z,Z] rfl rfl (any_of HT_.out (by kernel_rfl)) (fun _ _ _ h=>h) (Or.inl ⟨by rfl,?_⟩) ?_ ?_
               rotate_left
               ·intro w'
                go_simp
                with_reducible rfl
               rotate_left
               ·simp only [Act.put,List.setIfInBounds_toArray,List.set_cons_zero,List.set_cons_succ,i64_w,i32_w]
                rfl
               refine pure_ (i:=15) (N:=some 89) (v:=?_) (a':=?_) #[Y,Y,Y,Y,Y,Z,Y,Y,Y,Y,Z,Z,Y,Y,Y,Y,Z,Z,Z,Z,Z,Z,Z,Z,Z,Z] rfl rfl (any_of HT_.out (by kernel_rfl)) (fun _ _ _ h=>h) (Or.inl ⟨by rfl,?_⟩) ?_ ?_
               rotate_left
               ·intro w'
                go_simp
                with_reducible rfl
               rotate_left
               ·simp only [Act.put,List.setIfInBounds_toArray,List.set_cons_zero,List.set_cons_succ,i64_w,i32_w]
                rfl
               refine pure_ (i:=16) (N:=some 90) (v:=?_) (a':=?_) #[Y,Y,Y,Y,Y,Z,Y,Y,Y,Y,Z,Z,Y,Y,Y,Y,Y,Z,Z,Z,Z,Z,Z,Z,Z,Z] rfl rfl (any_of HT_.out (by kernel_rfl)) (fun _ _ _ h=>h) (Or.inl ⟨by rfl,?_⟩) ?_ ?_
               rotate_left
               ·intro w'
                go_simp
                with_reducible rfl
               rotate_left
               ·simp only [Act.put,List.setIfInBounds_toArray,List.set_cons_zero,List.set_cons_succ,i64_w,i32_w]
                rfl
               refine pure_ (i:=17) (N:=some 91) (v:=?_) (a':=?_) #[Y,Y,Y,Y,Y,Z,Y,Y,Y,Y,Z,Z,Y,Y,Y,Y,Y,Y,Z,Z,Z,Z,Z,Z,Z,Z] rfl rfl (any_of HT_.out (by kernel_rfl)) (fun _ _ _ h=>h) (Or.inl ⟨by rfl,?_⟩) ?_ ?_
               rotate_left
               ·intro w'
                go_simp
                with_reducible rfl
               rotate_left
               ·simp only [Act.put,List.setIfInBounds_toArray,List.set_cons_zero,List.set_cons_succ,i64_w,i32_w]
                rfl
               refine take_ (i:=5) (N:=some 79) (v:=?_) (a':=?_) #[Y,Y,Y,Y,Y,Y,Y,Y,Y,Y,Z,Z,Y,Y,Y,Y,Y,Y,Z,Z,Z,Z,Z,Z,Z,Z] rfl rfl (take_ofW HT_.out HW_.out (by kernel_rfl)) (fun _ _ _ h=>h) (Or.inl ⟨by rfl,?_⟩) hHeld ?_ ?_
               rotate_left
               ·rintro w' ⟨s0,s1,s2,s3,s4,s5,s6,s7,s8,s9,s10,s11,s12,s13,s14,s15,s16,s17,s18,s19,s20,s21,s22,s23⟩
                go_simp
                with_reducible rfl
               rotate_left
               ·simp only [Act.put,List.setIfInBounds_toArray,List.set_cons_zero,List.set_cons_succ,i64_w,i32_w]
                rfl
               refine take_ (i:=10) (N:=some 84) (v:=?_) (a':=?_) #[Y,Y,Y,Y,Y,Y,Y,Y,Y,Y,Y,Z,Y,Y,Y,Y,Y,Y,Z,Z,Z,Z,Z,Z,Z,Z] rfl rfl (take_ofW HT_.out HW_.out (by kernel_rfl)) (fun _ _ _ h=>h) (Or.inl ⟨by rfl,?_⟩) hHeld ?_ ?_
               rotate_left
               ·rintro w' ⟨s0,s1,s2,s3,s4,s5,s6,s7,s8,s9,s10,s11,s12,s13,s14,s15,s16,s17,s18,s19,s20,s21,s22,s23⟩
                go_simp
                with_reducible rfl
               rotate_left
               ·simp only [Act.put,List.setIfInBounds_toArray,List.set_cons_zero,List.set_cons_succ,i64_w,i32_w]
                rfl
               refine pure_ (i:=11) (N:=some 85) (v:=?_) (a':=?_) #[Y,Y,Y,Y,Y,Y,Y,Y,Y,Y,Y,Y,Y,Y,Y,Y,Y,Y,Z,Z,Z,Z,Z,Z,Z,Z] rfl rfl (any_of HT_.out (by kernel_rfl)) (fun _ _ _ h=>h) (Or.inl ⟨by rfl,?_⟩) ?_ ?_
               rotate_left
               ·intro w'
                go_simp
                with_reducible rfl
               rotate_left
               ·simp only [Act.put,List.setIfInBounds_toArray,List.set_cons_zero,List.set_cons_succ,i64_w,i32_w]
                rfl
               refine take_ (i:=18) (N:=some 92) (v:=?_) (a':=?_) #[Y,Y,Y,Y,Y,Y,Y,Y,Y,Y,Y,Y,Y,Y,Y,Y,Y,Y,Y,Z,Z,Z,Z,Z,Z,Z] rfl rfl (take_ofW HT_.out HW_.out (by kernel_rfl)) (fun _ _ _ h=>h) (Or.inl ⟨by rfl,?_⟩) hHeld ?_ ?_
               rotate_left
               ·rintro w' ⟨s0,s1,s2,s3,s4,s5,s6,s7,s8,s9,s10,s11,s12,s13,s14,s15,s16,s17,s18,s19,s20,s21,s22,s23⟩
                go_simp
                with_reducible rfl
               rotate_left
               ·simp only [Act.put,List.setIfInBounds_toArray,List.set_cons_zero,List.set_cons_succ,i64_w,i32_w]
                rfl
               refine one_ (i:=19) (N:=some 93) #[Y,Y,Y,Y,Y,Y,Y,Y,Y,Y,Y,Y,Y,Y,Y,Y,Y,Y,Y,Y,Z,Z,Z,Z,Z,Z] rfl rfl (one_of HT_.out (by kernel_rfl)) (by decide) (fun K hK=>?_)
               refine goes_ Try.func60 (by kernel_rfl) rfl #[.slice _ l1.length c1,.agg #[.string ((rd_T73 l0 x15_3).f0.f0),.int .i64 ((rd_T73 l0 x15_3).f0.f1),.int .i64 ((rd_T73 l0 x15_3).f0.f2),.int .i64 ((rd_T73 l0 x15_3).f0.f3)]] (by rfl) rfl rfl (by (try simp only [List.map_toArray,List.map_cons,List.map_nil]);first|done|rfl|(simp only [List.length_drop,List.length_take];rfl)) ?_
               with_reducible refine (contangoref23_find.calls k3 _ _ l1 ((rd_T73 l0 x15_3).f0.f0) ((rd_T73 l0 x15_3).f0.f1) ((rd_T73 l0 x15_3).f0.f2) ((rd_T73 l0 x15_3).f0.f3) t114 _ ?side1 ?side2 A32.out).mono ?_
               (case side1=>repeat (first|exact (Kd.C_below HR1.out HB.out)|(with_reducible refine Kd.C_alloc ?_ _)|(with_reducible refine Kd.C_drewN ?_ _)|(with_reducible refine Kd.C_drew ?_)))
               (case side2=>exact HC1.out)
               rintro e w36 ⟨rfl,hb⟩
               refine ⟨_,rfl,?_⟩
               have n0_:=Aside0.mk (Kd.R_below (by (with_reducible repeat (first|apply Kd.R_alloc|apply Kd.R_drewN|apply Kd.R_drew));exact HO_8.out) hb)
               have n1_:=Aside0.mk (Kd.R_below (by (with_reducible repeat (first|apply Kd.R_alloc|apply Kd.R_drewN|apply Kd.R_drew));exact HO_9.out) hb)
               have n2_:=Aside0.mk (below_step (by repeat (first|(with_reducible first|exact HB.out|apply below_alloc|apply pw_below_drewN|apply below_drew1)|exact HB.out)) hb)
               clear HO_8
               clear HO_9
               clear HB
               have HO_8:=n0_
               have HO_9:=n1_
               have HB:=n2_
               clear n0_ n1_ n2_
               (try clear hb)
               (try clear hb2)
               (try clear hk)
               (try clear hi)
               refine hK.out _ _ ⟨((HB.out.cell (World.block_lt_of_cell? w _ hw111_0)).trans hw111_0),((HB.out.cell (World.block_lt_of_cell? w _ hw111_1)).trans hw111_1),((HB.out.cell (World.block_lt_of_cell? w _ hw111_2)).trans hw111_2),((HB.out.cell (World.block_lt_of_cell? w _ hw111_3)).trans hw111_3),((HB.out.cell (World.block_lt_of_cell? w _ hw111_4)).trans hw111_4),((HB.out.cell (World.block_lt_of_cell? w _ hw111_5)).trans hw111_5),((HB.out.cell (World.block_lt_of_cell? w _ hw112_0)).trans hw112_0),((HB.out.cell (World.block_lt_of_cell? w _ hw112_1)).trans hw112_1),((HB.out.cell (World.block_lt_of_cell? w _ hw112_2)).trans hw112_2),((HB.out.cell (World.block_lt_of_cell? w _ hw112_3)).trans hw112_3),((HB.out.cell (World.block_lt_of_cell? w _ hw112_4)).trans hw112_4),((HB.out.cell (World.block_lt_of_cell? w _ hw112_5)).trans hw112_5),((HB.out.cell (World.block_lt_of_cell? w _ hw113_0)).trans hw113_0),((HB.out.cell (World.block_lt_of_cell? w _ hw113_1)).trans hw113_1),((HB.out.cell (World.block_lt_of_cell? w _ hw113_2)).trans hw113_2),((HB.out.cell (World.block_lt_of_cell? w _ hw113_3)).trans hw113_3),((HB.out.cell (World.block_lt_of_cell? w _ hw113_4)).trans hw113_4),((HB.out.cell (World.block_lt_of_cell? w _ hw113_5)).trans hw113_5),((HB.out.cell (World.block_lt_of_cell? w _ hw115_0)).trans hw115_0),((HB.out.cell (World.block_lt_of_cell? w _ hw115_1)).trans hw115_1),((HB.out.cell (World.block_lt_of_cell? w _ hw115_2)).trans hw115_2),((HB.out.cell (World.block_lt_of_cell? w _ hw115_3)).trans hw115_3),((HB.out.cell (World.block_lt_of_cell? w _ hw115_4)).trans hw115_4),((HB.out.cell (World.block_lt_of_cell? w _ hw115_5)).trans hw115_5)⟩ (fun hHeld=>?_)
               clear hK K
               refine norm_ (a':=?_) ?_ ?_
               rotate_left
               ·show Act.put _ (some 93) _ = _
                simp only [Act.put,List.setIfInBounds_toArray,List.set_cons_zero,List.set_cons_succ,i64_w,i32_w]
                rfl
               refine pure_ (i:=20) (N:=some 94) (v:=?_) (a':=?_) #[Y,Y,Y,Y,Y,Y,Y,Y,Y,Y,Y,Y,Y,Y,Y,Y,Y,Y,Y,Y,Y,Z,Z,Z,Z,Z] rfl rfl (any_of HT_.out (by kernel_rfl)) (fun _ _ _ h=>h) (Or.inl ⟨by rfl,?_⟩) ?_ ?_
               rotate_left
               ·intro w'
                go_simp
                with_reducible rfl
               rotate_left
               ·simp only [Act.put,List.setIfInBounds_toArray,List.set_cons_zero,List.set_cons_succ,i64_w,i32_w]
                rfl
               refine pure_ (i:=21) (N:=some 95) (v:=?_) (a':=?_) #[Y,Y,Y,Y,Y,Y,Y,Y,Y,Y,Y,Y,Y,Y,Y,Y,Y,Y,Y,Y,Y,Y,Z,Z,Z,Z] rfl rfl (any_of HT_.out (by kernel_rfl)) (fun _ _ _ h=>h) (Or.inl ⟨by rfl,?_⟩) ?_ ?_
               rotate_left
               ·intro w'
                go_simp
                with_reducible rfl
               rotate_left
               ·simp only [Act.put,List.setIfInBounds_toArray,List.set_cons_zero,List.set_cons_succ,i64_w,i32_w]
                rfl
               refine take_ (i:=22) (N:=some 96) (v:=?_) (a':=?_) #[Y,Y,Y,Y,Y,Y,Y,Y,Y,Y,Y,Y,Y,Y,Y,Y,Y,Y,Y,Y,Y,Y,Y,Z,Z,Z] rfl rfl (take_ofW HT_.out HW_.out (by kernel_rfl)) (fun _ _ _ h=>h) (Or.inl ⟨by rfl,?_⟩) hHeld ?_ ?_
               rotate_left
               ·rintro w' ⟨s0,s1,s2,s3,s4,s5,s6,s7,s8,s9,s10,s11,s12,s13,s14,s15,s16,s17,s18,s19,s20,s21,s22,s23⟩
                go_simp
                with_reducible rfl
               rotate_left
               ·simp only [Act.put,List.setIfInBounds_toArray,List.set_cons_zero,List.set_cons_succ,i64_w,i32_w]
                rfl
               refine pure_ (i:=23) (N:=some 97) (v:=?_) (a':=?_) #[Y,Y,Y,Y,Y,Y,Y,Y,Y,Y,Y,Y,Y,Y,Y,Y,Y,Y,Y,Y,Y,Y,Y,Y,Z,Z] rfl rfl (any_of HT_.out (by kernel_rfl)) (fun _ _ _ h=>h) (Or.inl ⟨by rfl,?_⟩) ?_ ?_
               rotate_left
               ·intro w'
                go_simp
                with_reducible rfl
               rotate_left
               ·simp only [Act.put,List.setIfInBounds_toArray,List.set_cons_zero,List.set_cons_succ,i64_w,i32_w]
                rfl
               refine pure_ (i:=24) (N:=some 98) (v:=?_) (a':=?_) #[Y,Y,Y,Y,Y,Y,Y,Y,Y,Y,Y,Y,Y,Y,Y,Y,Y,Y,Y,Y,Y,Y,Y,Y,Y,Z] rfl rfl (any_of HT_.out (by kernel_rfl)) (fun _ _ _ h=>h) (Or.inl ⟨by rfl,?_⟩) ?_ ?_
               rotate_left
               ·intro w'
                go_simp
                with_reducible rfl
               rotate_left
               ·simp only [Act.put,List.setIfInBounds_toArray,List.set_cons_zero,List.set_cons_succ,i64_w,i32_w]
                rfl
               refine pure_ (i:=25) (N:=some 14) (v:=?_) (a':=?_) #[Y,Y,Y,Y,Y,Y,Y,Y,Y,Y,Y,Y,Y,Y,Y,Y,Y,Y,Y,Y,Y,Y,Y,Y,Y,Y] rfl rfl (any_of HT_.out (by kernel_rfl)) (fun _ _ _ h=>h) (Or.inl ⟨by rfl,?_⟩) ?_ ?_
               rotate_left
               ·intro w'
                go_simp
                with_reducible rfl
               rotate_left
               ·simp only [Act.put,List.setIfInBounds_toArray,List.set_cons_zero,List.set_cons_succ,i64_w,i32_w]
                rfl
               refine done_ (done_of HT_.out (by kernel_rfl)) ?_
               try go_wp2
               go_roundg k3
               case measure=>have:=HK1.out;have:=HK2.out;have:=HK3.out;omega
               case rel=>exact ⟨(wrap64 (x14_3 + (wrap64 ((wrap64 (((rd_T73 l0 x15_3).f1) - ((rd_T73 l0 x15_3).f2))) * ((rd_T91 l1 t114).f2))))),(wrap64 (x15_3 + 1)),(by first|rfl|(simp;done)|(simp [*];done)),(by first|rfl|(simp;done)|(simp [*];done)),H',⟨by have:=HK1.out;have:=HK2.out;have:=HK3.out;omega⟩,⟨by (with_reducible repeat (first|apply Kd.R_alloc|apply Kd.R_drewN|apply Kd.R_drew));exact HO_8.out⟩,⟨by (with_reducible repeat (first|apply Kd.R_alloc|apply Kd.R_drewN|apply Kd.R_drew));exact HO_9.out⟩,⟨by repeat (first|(with_reducible first|exact HB.out|apply below_alloc|apply pw_below_drewN|apply below_drew1)|exact HB.out)⟩⟩
              ·rw [if_neg c34] at H
               exact absurd H (by simp)
             ·rw [if_neg c33] at H
              exact absurd H (by simp)
            ·rw [if_neg c31] at H
             have c31b0:(((rd_T73 l0 x15_3).f0.f2) == x11_2) = false:=beq_eq_false_iff_ne.mpr c31
             have c31b1:(((rd_T73 l0 x15_3).f0.f2) != x11_2) = true:=bne_iff_ne.mpr c31
             have H':=Aside0.mk H
             clear H
             have p110:0 ≤ (x15_3:Int):=of_decide_eq_true (by first|(with_reducible assumption)|assumption)
             have q110:x15_3 < (l0.length:Int):=of_decide_eq_true (by first|(with_reducible assumption)|assumption)
             obtain ⟨ad110,e110,hx110_0,hx110_1,hx110_2,hx110_3,hx110_4,hx110_5⟩:=at_T73 HR0.out x15_3 p110 q110
             cases e110
             replace hx110_0:=(HB.out.cell (World.block_lt_of_cell? w _ hx110_0)).trans hx110_0
             replace hx110_1:=(HB.out.cell (World.block_lt_of_cell? w _ hx110_1)).trans hx110_1
             replace hx110_2:=(HB.out.cell (World.block_lt_of_cell? w _ hx110_2)).trans hx110_2
             replace hx110_3:=(HB.out.cell (World.block_lt_of_cell? w _ hx110_3)).trans hx110_3
             replace hx110_4:=(HB.out.cell (World.block_lt_of_cell? w _ hx110_4)).trans hx110_4
             replace hx110_5:=(HB.out.cell (World.block_lt_of_cell? w _ hx110_5)).trans hx110_5
             replace p110:=eq_true p110
             replace q110:=eq_true q110
             go_wp2
             go_roundg k3
             case measure=>have:=HK1.out;have:=HK2.out;have:=HK3.out;omega
             case rel=>exact ⟨(x14_3),(wrap64 (x15_3 + 1)),(by first|rfl|(simp;done)|(simp [*];done)),(by first|rfl|(simp;done)|(simp [*];done)),H',⟨by have:=HK1.out;have:=HK2.out;have:=HK3.out;omega⟩,⟨by (with_reducible repeat (first|apply Kd.R_alloc|apply Kd.R_drewN|apply Kd.R_drew));exact HO_8.out⟩,⟨by (with_reducible repeat (first|apply Kd.R_alloc|apply Kd.R_drewN|apply Kd.R_drew));exact HO_9.out⟩,⟨by repeat (first|(with_reducible first|exact HB.out|apply below_alloc|apply pw_below_drewN|apply below_drew1)|exact HB.out)⟩⟩
           ·rw [if_neg c30] at H
            exact absurd H (by simp)
          ·rw [if_neg c29] at H
           have c29b0:decide (x15_3 < (l0.length:Int)) = false:=decide_eq_false c29
           clear c29
           by_cases c37:x10_2 = true
           ·subst c37
            have H1:(if x8_1.length < 17592186044416 then (if x9_1.length < 17592186044416 then (contangoref23_Expiries.l0 k3 l0 l1 (x8_1 ++ [x11_2]) (x9_1 ++ [x14_3]) true) else (none)) else (none)) = some (r1,r2,r3):=by rw [if_pos rfl] at H;exact H
            clear H
            have H:=H1
            clear H1
            by_cases c38:x8_1.length < 17592186044416
            ·rw [if_pos c38] at H
             have LMc38:=Aside0.mk c38
             clear c38
             obtain ⟨y116,hy116⟩:∃ y_:List Int,y_ = (x8_1 ++ [x11_2]):=⟨_,rfl⟩
             replace H:(if x9_1.length < 17592186044416 then (contangoref23_Expiries.l0 k3 l0 l1 y116 (x9_1 ++ [x14_3]) true) else (none)) = some (r1,r2,r3):=by first|(rw [hy116];with_reducible exact H)|(have H2_:=(Option.bind_some _ _).symm.trans H;rw [hy116];with_reducible exact H2_)|(have H2_:=(Option.bind_some _ _).symm.trans H;with_reducible exact H2_)|with_reducible exact H|(rw [hy116];exact H)|exact H
             have Ny116:=Aside0.mk hy116
             clear hy116
             by_cases c39:x9_1.length < 17592186044416
             ·rw [if_pos c39] at H
              have LMc39:=Aside0.mk c39
              clear c39
              obtain ⟨y119,hy119⟩:∃ y_:List Int,y_ = (x9_1 ++ [x14_3]):=⟨_,rfl⟩
              replace H:(contangoref23_Expiries.l0 k3 l0 l1 y116 y119 true) = some (r1,r2,r3):=by first|(rw [hy119];with_reducible exact H)|(have H2_:=(Option.bind_some _ _).symm.trans H;rw [hy119];with_reducible exact H2_)|(have H2_:=(Option.bind_some _ _).symm.trans H;with_reducible exact H2_)|with_reducible exact H|(rw [hy119];exact H)|exact H
              have Ny119:=Aside0.mk hy119
              clear hy119
              have H':=Aside0.mk H
              clear H
              go_wp2_with (first|((with_reducible refine gate_builtin (b:=.append) (xs:=#[.tmp 100,.tmp 102]) rfl ?_);(try (refine gate_guard (by rfl) ?_;dsimp only));at_builtin;refine Kd.R_append (Kd.int .i64) (w0:=w) w.heap.size rfl (.tmp 100) (.tmp 102) 23 3 (.int .i64 0) 8 rfl Try.underlying23 info3 rfl (by decide) (by omega) u8 x8_1 x11_2 [.int .i64 x11_2] (fun k_=>some k_ ≠ (u9:Value).ownBlock) (fun _=>False) rfl rfl ?aP (fun _ hk=>hk.elim) ?aF ?aO ?aB ?aS ?aL ?_;(case aP=>exact rfl);(case aB=>exact (by repeat (first|(with_reducible first|exact HB.out|apply below_alloc|apply pw_below_drewN|apply below_drew1)|exact HB.out)));(case aF=>exact (fun k_ hk=>Kd.fresh' (Kd.R_lt (by (with_reducible repeat (first|apply Kd.R_alloc|apply Kd.R_drewN|apply Kd.R_drew));exact HO_9.out)) k_ hk));(case aO=>exact (by (with_reducible repeat (first|apply Kd.R_alloc|apply Kd.R_drewN|apply Kd.R_drew));exact HO_8.out));(case aS=>exact (below_size (by repeat (first|(with_reducible first|exact HB.out|apply below_alloc|apply pw_below_drewN|apply below_drew1)|exact HB.out))));(case aL=>have:=LMc38.out;omega);intro v117 w40 ho hb hg hat;rw [← Ny116.out] at ho;have n0_:=Aside0.mk (Kd.R_after (ok:=(fun _=>True)) (by (with_reducible repeat (first|apply Kd.R_alloc|apply Kd.R_drewN|apply Kd.R_drew));exact Kd.R_mono HO_9.out (fun _ hk=>⟨trivial,hk⟩)) hg hat);have n1_:=Aside0.mk (hb);have n2_:=Aside0.mk (ho);clear HO_9;clear HB;clear HO_8;have HO_9:=n0_;have HB:=n1_;have HO118:=n2_;clear n0_ n1_ n2_;clear ho hb hg hat)|((with_reducible refine gate_builtin (b:=.append) (xs:=#[.tmp 104,.tmp 106]) rfl ?_);(try (refine gate_guard (by rfl) ?_;dsimp only));at_builtin;refine Kd.R_append (Kd.int .i64) (w0:=w) w.heap.size rfl (.tmp 104) (.tmp 106) 23 3 (.int .i64 0) 8 rfl Try.underlying23 info3 rfl (by decide) (by omega) u9 x9_1 x14_3 [.int .i64 x14_3] (fun k_=>some k_ ≠ (v117:Value).ownBlock) (fun _=>False) rfl rfl ?aP (fun _ hk=>hk.elim) ?aF ?aO ?aB ?aS ?aL ?_;(case aP=>exact rfl);(case aB=>exact (by repeat (first|(with_reducible first|exact HB.out|apply below_alloc|apply pw_below_drewN|apply below_drew1)|exact HB.out)));(case aF=>exact (fun k_ hk=>Kd.fresh' (Kd.R_lt (by (with_reducible repeat (first|apply Kd.R_alloc|apply Kd.R_drewN|apply Kd.R_drew));exact HO118.out)) k_ hk));(case aO=>exact (by (with_reducible repeat (first|apply Kd.R_alloc|apply Kd.R_drewN|apply Kd.R_drew));exact Kd.R_mono HO_9.out (fun _ hk=>hk.2)));(case aS=>exact (below_size (by repeat (first|(with_reducible first|exact HB.out|apply below_alloc|apply pw_below_drewN|apply below_drew1)|exact HB.out))));(case aL=>have:=LMc39.out;omega);intro v120 w41 ho hb hg hat;rw [← Ny119.out] at ho;have n0_:=Aside0.mk (Kd.R_after (ok:=(fun _=>True)) (by (with_reducible repeat (first|apply Kd.R_alloc|apply Kd.R_drewN|apply Kd.R_drew));exact Kd.R_mono HO118.out (fun _ hk=>⟨trivial,hk⟩)) hg hat);have n1_:=Aside0.mk (hb);have n2_:=Aside0.mk (ho);clear HO118;clear HB;clear HO_9;have HO118:=n0_;have HB:=n1_;have HO121:=n2_;clear n0_ n1_ n2_;clear ho hb hg hat))
              go_roundg k3
              case measure=>have:=HK1.out;have:=HK2.out;have:=HK3.out;omega
              case rel=>exact ⟨(y116),(y119),(true),(by first|rfl|(simp;done)|(simp [*];done)),H',⟨by have:=HK1.out;have:=HK2.out;have:=HK3.out;omega⟩,⟨by (with_reducible repeat (first|apply Kd.R_alloc|apply Kd.R_drewN|apply Kd.R_drew));exact Kd.R_mono HO118.out (fun _ hk=>hk.2)⟩,⟨by (with_reducible repeat (first|apply Kd.R_alloc|apply Kd.R_drewN|apply Kd.R_drew));exact HO121.out⟩,⟨by repeat (first|(with_reducible first|exact HB.out|apply below_alloc|apply pw_below_drewN|apply below_drew1)|exact HB.out)⟩⟩
             ·rw [if_neg c39] at H
              exact absurd H (by simp)
            ·rw [if_neg c38] at H
             exact absurd H (by simp)
           ·replace c37:=Bool.eq_false_iff.mpr c37
            subst c37
            have H1:(contangoref23_Expiries.l0 k3 l0 l1 x8_1 x9_1 false) = some (r1,r2,r3):=by rw [if_neg (show ¬ (false = true) by decide)] at H;exact H
            clear H
            have H:=H1
            clear H1
            have H':=Aside0.mk H
            clear H
            go_wp2
            go_roundg k3
            case measure=>have:=HK1.out;have:=HK2.out;have:=HK3.out;omega
            case rel=>exact ⟨(x8_1),(x9_1),(false),(by first|rfl|(simp;done)|(simp [*];done)),H',⟨by have:=HK1.out;have:=HK2.out;have:=HK3.out;omega⟩,⟨by (with_reducible repeat (first|apply Kd.R_alloc|apply Kd.R_drewN|apply Kd.R_drew));exact HO_8.out⟩,⟨by (with_reducible repeat (first|apply Kd.R_alloc|apply Kd.R_drewN|apply Kd.R_drew));exact HO_9.out⟩,⟨by repeat (first|(with_reducible first|exact HB.out|apply below_alloc|apply pw_below_drewN|apply below_drew1)|exact HB.out)⟩⟩
    ·replace c10:=Bool.eq_false_iff.mpr c10
     subst c10
     have H1:(some (x8_1,x9_1,0)) = some (r1,r2,r3):=by rw [if_neg (show ¬ (false = true) by decide)] at H;exact H
     clear H
     have H:=H1
     clear H1
     simp only [Option.some.injEq,Prod.mk.injEq] at H
     obtain ⟨rfl,rfl,rfl⟩:=H
     go_wp2
     go_ret3
     exact ⟨_,_,by first|rfl|(simp [errW_none,errW_some] <;> rfl)|(simp [*,errW_none,errW_some] <;> rfl),by (with_reducible repeat (first|apply Kd.R_alloc|apply Kd.R_drewN|apply Kd.R_drew));exact HO_8.out,by (with_reducible repeat (first|apply Kd.R_alloc|apply Kd.R_drewN|apply Kd.R_drew));exact HO_9.out,by repeat (first|(with_reducible first|exact HB.out|apply below_alloc|apply pw_below_drewN|apply below_drew1)|exact HB.out)⟩
 ·rw [if_neg c4] at H
  have c4b0:(t101 == 0) = false:=beq_eq_false_iff_ne.mpr c4
  have c4b1:(t101 != 0) = true:=bne_iff_ne.mpr c4
  simp only [Option.some.injEq,Prod.mk.injEq] at H
  obtain ⟨rfl,rfl,rfl⟩:=H
  go_enter Try.func44,Try.ntmps44
  go_wp2_with (first|((with_reducible refine gate_callee (f:=59) rfl ?_);refine goesL_ (some 18) rfl rfl Try.func59 (by kernel_rfl) rfl #[.slice A0 l0.length c0,.slice A1 l1.length c1] rfl (by (try simp only [List.map_toArray,List.map_cons,List.map_nil]);first|done|rfl|(simp only [List.length_drop,List.length_take];rfl)) ?_;(with_reducible refine (contangoref23_checks.calls k _ _ l0 _ _ l1 t101 _ ?side1 ?side2 ?side3 ?side4 A3.out).mono ?_);(case side1=>repeat (first|exact HR0.out|(with_reducible refine Kd.C_alloc ?_ _)|(with_reducible refine Kd.C_drewN ?_ _)|(with_reducible refine Kd.C_drew ?_)));(case side2=>exact HC0.out);(case side3=>repeat (first|exact HR1.out|(with_reducible refine Kd.C_alloc ?_ _)|(with_reducible refine Kd.C_drewN ?_ _)|(with_reducible refine Kd.C_drew ?_)));(case side4=>exact HC1.out);rintro e w42 ⟨rfl,hb⟩;refine ⟨_,rfl,?_⟩;have n0_:=Aside0.mk (below_step (by repeat (first|(with_reducible first|exact HB.out|apply below_alloc|apply pw_below_drewN|apply below_drew1)|exact HB.out)) hb);clear HB;have HB:=n0_;clear n0_;(try clear hb);(try clear hb2);(try clear hk);(try clear hi)))
  go_ret3
  exact ⟨_,_,by first|rfl|(simp [errW_none,errW_some] <;> rfl)|(simp [*,errW_none,errW_some] <;> rfl),by first|exact Kd.R_nil _ _ _ _ _|exact Kd.N_nil _ _ _ _ _|exact Kd.V_nil _ _ _ _ _|exact Kd.Q_nil _ _ _ _ _|exact Kd.S_nil _ _ _ _ _,by first|exact Kd.R_nil _ _ _ _ _|exact Kd.N_nil _ _ _ _ _|exact Kd.V_nil _ _ _ _ _|exact Kd.Q_nil _ _ _ _ _|exact Kd.S_nil _ _ _ _ _,by repeat (first|(with_reducible first|exact HB.out|apply below_alloc|apply pw_below_drewN|apply below_drew1)|exact HB.out)⟩
end Go.Proofs.Ytbgeceiddcokmaa.X
end
section
namespace Go.Proofs.Ytbgeceiddcokmaa.X
open Go.RowKit Go.Proofs.YtbgeceiddcokmaaW.PrintWords Go.Proofs.YtbgeceiddcokmaaW.PrintLast Go.Proofs.YtbgeceiddcokmaaW.PrintMore
attribute [local go_sem] max2_int min2_int max_two min_two max_three min_three max_four min_four
set_option linter.unusedVariables false
set_option linter.unusedSimpArgs false
def cmp_Less_int.f (a0:Int) (a1:Int):Option (Bool):=(cmp_isNaN_int.f a0).bind fun t101=>(if t101 = true then ((cmp_isNaN_int.f a1).bind fun t102=>(if t102 = true then (some (decide (a0 < a1))) else (some true))) else (some (decide (a0 < a1))))
set_option maxHeartbeats 8000000 in
set_option maxRecDepth 100000 in
theorem cmp_Less_int.calls (a0:Int) (a1:Int) (r:Bool) (w:World) (h:cmp_Less_int.f a0 a1 = some r) :
  Calls Try.prog 88 #[.int .i64 a0,.int .i64 a1] w fun e w'=>e = .returned (.bool r) ∧ Drawn0 w w':=by
 have H:((cmp_isNaN_int.f a0).bind fun t101=>(if t101 = true then ((cmp_isNaN_int.f a1).bind fun t102=>(if t102 = true then (some (decide (a0 < a1))) else (some true))) else (some (decide (a0 < a1))))) = some r:=h
 clear h
 replace H:=Option.bind_eq_some_iff.mp H
 obtain ⟨t101,A30,H⟩:=H
 replace H:(if t101 = true then ((cmp_isNaN_int.f a1).bind fun t102=>(if t102 = true then (some (decide (a0 < a1))) else (some true))) else (some (decide (a0 < a1)))) = some r:=H
 have A3:=Aside0.mk A30
 clear A30
 by_cases c4:t101 = true
 ·subst c4
  have H1:((cmp_isNaN_int.f a1).bind fun t102=>(if t102 = true then (some (decide (a0 < a1))) else (some true))) = some r:=by rw [if_pos rfl] at H;exact H
  clear H
  have H:=H1
  clear H1
  replace H:=Option.bind_eq_some_iff.mp H
  obtain ⟨t102,A50,H⟩:=H
  replace H:(if t102 = true then (some (decide (a0 < a1))) else (some true)) = some r:=H
  have A5:=Aside0.mk A50
  clear A50
  by_cases c6:t102 = true
  ·subst c6
   have H1:(some (decide (a0 < a1))) = some r:=by rw [if_pos rfl] at H;exact H
   clear H
   have H:=H1
   clear H1
   obtain rfl:=Option.some.inj H
   go_enter Try.func88,Try.ntmps88
   go_wp2_with (first|((with_reducible refine gate_callee (f:=102) rfl ?_);refine goesL_ (some 6) rfl rfl Try.func102 (by kernel_rfl) rfl #[.int .i64 a0] rfl (by (try simp only [List.map_toArray,List.map_cons,List.map_nil]);first|done|rfl|(simp only [List.length_drop,List.length_take];rfl)) ?_;(with_reducible refine (cmp_isNaN_int.calls a0 true _ A3.out).mono ?_);rintro e w' ⟨rfl,⟨nd,rfl⟩⟩;refine ⟨_,rfl,?_⟩)|(go_at_call 102;(with_reducible refine (cmp_isNaN_int.calls a1 true _ A5.out).mono ?_);rintro e w' ⟨rfl,⟨nd,rfl⟩⟩))
   go_ret
   exact ⟨by first|rfl|(simp;done)|(simp [*];done),by repeat (first|exact Drawn0.refl _|apply Drawn0.step)⟩
  ·replace c6:=Bool.eq_false_iff.mpr c6
   subst c6
   have H1:(some true) = some r:=by rw [if_neg (show ¬ (false = true) by decide)] at H;exact H
   clear H
   have H:=H1
   clear H1
   obtain rfl:=Option.some.inj H
   go_enter Try.func88,Try.ntmps88
   go_wp2_with (first|((with_reducible refine gate_callee (f:=102) rfl ?_);refine goesL_ (some 6) rfl rfl Try.func102 (by kernel_rfl) rfl #[.int .i64 a0] rfl (by (try simp only [List.map_toArray,List.map_cons,List.map_nil]);first|done|rfl|(simp only [List.length_drop,List.length_take];rfl)) ?_;(with_reducible refine (cmp_isNaN_int.calls a0 true _ A3.out).mono ?_);rintro e w' ⟨rfl,⟨nd,rfl⟩⟩;refine ⟨_,rfl,?_⟩)|(go_at_call 102;(with_reducible refine (cmp_isNaN_int.calls a1 false _ A5.out).mono ?_);rintro e w' ⟨rfl,⟨nd,rfl⟩⟩))
   go_ret
   exact ⟨by first|rfl|(simp;done)|(simp [*];done),by repeat (first|exact Drawn0.refl _|apply Drawn0.step)⟩
 ·replace c4:=Bool.eq_false_iff.mpr c4
  subst c4
  have H1:(some (decide (a0 < a1))) = some r:=by rw [if_neg (show ¬ (false = true) by decide)] at H;exact H
  clear H
  have H:=H1
  clear H1
  obtain rfl:=Option.some.inj H
  go_enter Try.func88,Try.ntmps88
  go_wp2_with (first|((with_reducible refine gate_callee (f:=102) rfl ?_);refine goesL_ (some 6) rfl rfl Try.func102 (by kernel_rfl) rfl #[.int .i64 a0] rfl (by (try simp only [List.map_toArray,List.map_cons,List.map_nil]);first|done|rfl|(simp only [List.length_drop,List.length_take];rfl)) ?_;(with_reducible refine (cmp_isNaN_int.calls a0 false _ A3.out).mono ?_);rintro e w' ⟨rfl,⟨nd,rfl⟩⟩;refine ⟨_,rfl,?_⟩))
  go_ret
  exact ⟨by first|rfl|(simp;done)|(simp [*];done),by repeat (first|exact Drawn0.refl _|apply Drawn0.step)⟩
end Go.Proofs.Ytbgeceiddcokmaa.X
end
section
namespace Go.Proofs.Ytbgeceiddcokmaa.X
open Go.RowKit Go.Proofs.YtbgeceiddcokmaaW.PrintWords Go.Proofs.YtbgeceiddcokmaaW.PrintLast Go.Proofs.YtbgeceiddcokmaaW.PrintMore
attribute [local go_sem] max2_int min2_int max_two min_two max_three min_three max_four min_four
set_option linter.unusedVariables false
set_option linter.unusedSimpArgs false
def slices_isNaN_int.f (a0:Int):Option (Bool):=some (a0 != a0)
set_option maxHeartbeats 8000000 in
set_option maxRecDepth 100000 in
theorem slices_isNaN_int.calls (a0:Int) (r:Bool) (w:World) (h:slices_isNaN_int.f a0 = some r) :
  Calls Try.prog 89 #[.int .i64 a0] w fun e w'=>e = .returned (.bool r) ∧ Drawn0 w w':=by
 have H:(some (a0 != a0)) = some r:=h
 clear h
 obtain rfl:=Option.some.inj H
 go_enter Try.func89,Try.ntmps89
 go_wp2
 go_ret
 exact ⟨by first|rfl|(simp;done)|(simp [*];done),by repeat (first|exact Drawn0.refl _|apply Drawn0.step)⟩
end Go.Proofs.Ytbgeceiddcokmaa.X
end
section
namespace Go.Proofs.Ytbgeceiddcokmaa.X
open Go.RowKit Go.Proofs.YtbgeceiddcokmaaW.PrintWords Go.Proofs.YtbgeceiddcokmaaW.PrintLast Go.Proofs.YtbgeceiddcokmaaW.PrintMore
attribute [local go_sem] max2_int min2_int max_two min_two max_three min_three max_four min_four
set_option linter.unusedVariables false
set_option linter.unusedSimpArgs false
def slices_BinarySearch_int_int.l0:Nat → List Int → Int → Int → Int → Int → Option (Int × Bool)
 | 0,_,_,_,_,_=>none
 | k + 1,x0,x1,x6,x7,x8=>if x7 < x8 then (if 0 ≤ (wrap64 ((IntKind.u64.wrap (wrap64 (x7 + x8))) / 2)) then (if (wrap64 ((IntKind.u64.wrap (wrap64 (x7 + x8))) / 2)) < (x0.length:Int) then ((cmp_Less_int.f (rd x0 (wrap64 ((IntKind.u64.wrap (wrap64 (x7 + x8))) / 2))) x1).bind fun t102=>(if t102 = true then (slices_BinarySearch_int_int.l0 k x0 x1 x6 (wrap64 ((wrap64 ((IntKind.u64.wrap (wrap64 (x7 + x8))) / 2)) + 1)) x8) else (slices_BinarySearch_int_int.l0 k x0 x1 x6 x7 (wrap64 ((IntKind.u64.wrap (wrap64 (x7 + x8))) / 2))))) else (none)) else (none)) else (if x7 < x6 then (if 0 ≤ x7 then (if x7 < (x0.length:Int) then (if (rd x0 x7) = x1 then (some (x7,true)) else ((slices_isNaN_int.f (rd x0 x7)).bind fun t105=>(if t105 = true then ((slices_isNaN_int.f x1).bind fun t106=>(some (x7,t106))) else (some (x7,false))))) else (none)) else (none)) else (some (x7,false)))
def slices_BinarySearch_int_int.f (k:Nat) (l0:List Int) (a1:Int):Option (Int × Bool):=slices_BinarySearch_int_int.l0 k l0 a1 (l0.length:Int) 0 (l0.length:Int)
set_option maxHeartbeats 8000000 in
set_option maxRecDepth 100000 in
theorem slices_BinarySearch_int_int.calls (k:Nat) (A0:Option Addr) (c0:Nat) (l0:List Int) (a1:Int) (r1:Int) (r2:Bool) (w:World) (hr0:Kd.C (Kd.int .i64) w A0 l0.length l0) (hc0:l0.length ≤ c0) (h:slices_BinarySearch_int_int.f k l0 a1 = some (r1,r2)) :
  Calls Try.prog 67 #[.slice A0 l0.length c0,.int .i64 a1] w fun e w'=>e = .returned (.tuple #[.int .i64 r1,.bool r2]) ∧ Drawn0 w w':=by
 have HR0:=Aside0.mk hr0
 have HC0:=Aside0.mk hc0
 clear hr0 hc0
 have H:(slices_BinarySearch_int_int.l0 k l0 a1 (l0.length:Int) 0 (l0.length:Int)) = some (r1,r2):=h
 clear h
 have H':=Aside0.mk H
 clear H
 go_enter Try.func67,Try.ntmps67
 go_wp2
 go_loopg [7,8] k (fun kq v7 v8 w'=>∃ (x7_1:Int) (x8_1:Int),v7 = .int .i64 x7_1 ∧ v8 = .int .i64 x8_1 ∧ Aside0 (slices_BinarySearch_int_int.l0 kq l0 a1 (l0.length:Int) x7_1 x8_1 = some (r1,r2)) ∧ Aside0 (kq ≤ k) ∧ Drawn0 w w')
 case atStart=>exact ⟨(0),((l0.length:Int)),(by first|rfl|(simp;done)|(simp [*];done)),(by first|rfl|(simp;done)|(simp [*];done)),H',⟨Nat.le_refl _⟩,by repeat (first|exact Drawn0.refl _|apply Drawn0.step)⟩
 case round =>
  clear H'
  try clear p2
  obtain ⟨x7_1,x8_1,rfl,rfl,HA,HK1,⟨m1,rfl⟩⟩:=hrel
  cases gk with
  | zero=>exact absurd HA.out (by simp [slices_BinarySearch_int_int.l0])
  | succ k1 =>
   have H:=HA.out
   clear HA
   simp only [slices_BinarySearch_int_int.l0] at H
   by_cases c3:x7_1 < x8_1
   ·rw [if_pos c3] at H
    have c3b0:decide (x7_1 < x8_1) = true:=decide_eq_true c3
    clear c3
    obtain ⟨ji4,hji4⟩:∃ j_:Int,(wrap64 ((IntKind.u64.wrap (wrap64 (x7_1 + x8_1))) / 2)) = j_:=⟨_,rfl⟩
    replace H:(if 0 ≤ (ji4) then (if (ji4) < (l0.length:Int) then ((cmp_Less_int.f (rd l0 (ji4)) a1).bind fun t102=>(if t102 = true then (slices_BinarySearch_int_int.l0 k1 l0 a1 (l0.length:Int) (wrap64 ((ji4) + 1)) x8_1) else (slices_BinarySearch_int_int.l0 k1 l0 a1 (l0.length:Int) x7_1 ji4))) else (none)) else (none)) = some (r1,r2):=by first|(rw [hji4] at H;exact H)|(simp only [hji4] at H ⊢;exact H)
    have hji4w:(IntKind.i64.wrap ((IntKind.u64.wrap (wrap64 (x7_1 + x8_1))) / 2)) = ji4:=(i64_w _).trans hji4
    by_cases c5:0 ≤ (ji4)
    ·rw [if_pos c5] at H
     have c5b0:decide (0 ≤ (ji4)) = true:=decide_eq_true c5
     clear c5
     by_cases c6:(ji4) < (l0.length:Int)
     ·rw [if_pos c6] at H
      have c6b0:decide ((ji4) < (l0.length:Int)) = true:=decide_eq_true c6
      clear c6
      replace H:=Option.bind_eq_some_iff.mp H
      obtain ⟨t102,A70,H⟩:=H
      replace H:(if t102 = true then (slices_BinarySearch_int_int.l0 k1 l0 a1 (l0.length:Int) (wrap64 ((ji4) + 1)) x8_1) else (slices_BinarySearch_int_int.l0 k1 l0 a1 (l0.length:Int) x7_1 ji4)) = some (r1,r2):=H
      have A7:=Aside0.mk A70
      clear A70
      by_cases c8:t102 = true
      ·subst c8
       have H1:(slices_BinarySearch_int_int.l0 k1 l0 a1 (l0.length:Int) (wrap64 ((ji4) + 1)) x8_1) = some (r1,r2):=by rw [if_pos rfl] at H;exact H
       clear H
       have H:=H1
       clear H1
       have H':=Aside0.mk H
       clear H
       have p101:0 ≤ ((ji4):Int):=of_decide_eq_true (by first|(with_reducible assumption)|assumption)
       have q101:(ji4) < (l0.length:Int):=of_decide_eq_true (by first|(with_reducible assumption)|assumption)
       obtain ⟨ad101,e101,hx101_0⟩:=Kd.at_int HR0.out (ji4) p101 q101
       cases e101
       replace p101:=eq_true p101
       replace q101:=eq_true q101
       go_wp2_with (first|((with_reducible refine gate_callee (f:=88) rfl ?_);refine goesL_ (some 27) rfl rfl Try.func88 (by kernel_rfl) rfl #[.int .i64 (rd l0 (ji4)),.int .i64 a1] rfl (by (try simp only [List.map_toArray,List.map_cons,List.map_nil]);first|done|(simp only [hji4];rfl)|rfl|(simp only [List.length_drop,List.length_take];rfl)) ?_;(with_reducible refine (cmp_Less_int.calls (rd l0 (ji4)) a1 true _ A7.out).mono ?_);rintro e w' ⟨rfl,⟨nd,rfl⟩⟩;refine ⟨_,rfl,?_⟩))
       go_roundg k1
       case measure=>have:=HK1.out;omega
       case rel=>exact ⟨(wrap64 ((ji4) + 1)),(x8_1),(by first|rfl|(simp;done)|(simp only [← hji4] <;> (first|rfl|simp))|(simp [*];done)),(by first|rfl|(simp;done)|(simp [*];done)),H',⟨by have:=HK1.out;omega⟩,by repeat (first|exact Drawn0.refl _|apply Drawn0.step)⟩
      ·replace c8:=Bool.eq_false_iff.mpr c8
       subst c8
       have H1:(slices_BinarySearch_int_int.l0 k1 l0 a1 (l0.length:Int) x7_1 ji4) = some (r1,r2):=by rw [if_neg (show ¬ (false = true) by decide)] at H;exact H
       clear H
       have H:=H1
       clear H1
       have H':=Aside0.mk H
       clear H
       have p101:0 ≤ ((ji4):Int):=of_decide_eq_true (by first|(with_reducible assumption)|assumption)
       have q101:(ji4) < (l0.length:Int):=of_decide_eq_true (by first|(with_reducible assumption)|assumption)
       obtain ⟨ad101,e101,hx101_0⟩:=Kd.at_int HR0.out (ji4) p101 q101
       cases e101
       replace p101:=eq_true p101
       replace q101:=eq_true q101
       go_wp2_with (first|((with_reducible refine gate_callee (f:=88) rfl ?_);refine goesL_ (some 27) rfl rfl Try.func88 (by kernel_rfl) rfl #[.int .i64 (rd l0 (ji4)),.int .i64 a1] rfl (by (try simp only [List.map_toArray,List.map_cons,List.map_nil]);first|done|(simp only [hji4];rfl)|rfl|(simp only [List.length_drop,List.length_take];rfl)) ?_;(with_reducible refine (cmp_Less_int.calls (rd l0 (ji4)) a1 false _ A7.out).mono ?_);rintro e w' ⟨rfl,⟨nd,rfl⟩⟩;refine ⟨_,rfl,?_⟩))
       go_roundg k1
       case measure=>have:=HK1.out;omega
       case rel=>exact ⟨(x7_1),(ji4),(by first|rfl|(simp;done)|(simp [*];done)),(by first|rfl|(simp;done)|(simp only [← hji4] <;> (first|rfl|simp))|(simp [*];done)),H',⟨by have:=HK1.out;omega⟩,by repeat (first|exact Drawn0.refl _|apply Drawn0.step)⟩
     ·rw [if_neg c6] at H
      exact absurd H (by simp)
    ·rw [if_neg c5] at H
     exact absurd H (by simp)
   ·rw [if_neg c3] at H
    have c3b0:decide (x7_1 < x8_1) = false:=decide_eq_false c3
    clear c3
    by_cases c9:x7_1 < (l0.length:Int)
    ·rw [if_pos c9] at H
     have c9b0:decide (x7_1 < (l0.length:Int)) = true:=decide_eq_true c9
     clear c9
     by_cases c10:0 ≤ x7_1
     ·rw [if_pos c10] at H
      have c10b0:decide (0 ≤ x7_1) = true:=decide_eq_true c10
      clear c10
      by_cases c11:x7_1 < (l0.length:Int)
      ·rw [if_pos c11] at H
       have c11b0:decide (x7_1 < (l0.length:Int)) = true:=decide_eq_true c11
       clear c11
       by_cases c12:(rd l0 x7_1) = a1
       ·rw [if_pos c12] at H
        have c12b0:((rd l0 x7_1) == a1) = true:=beq_iff_eq.mpr c12
        have c12b1:((rd l0 x7_1) != a1) = false:=bne_eq_false_iff_eq.mpr c12
        clear c12
        simp only [Option.some.injEq,Prod.mk.injEq] at H
        obtain ⟨rfl,rfl⟩:=H
        have p103:0 ≤ (x7_1:Int):=of_decide_eq_true (by first|(with_reducible assumption)|assumption)
        have q103:x7_1 < (l0.length:Int):=of_decide_eq_true (by first|(with_reducible assumption)|assumption)
        obtain ⟨ad103,e103,hx103_0⟩:=Kd.at_int HR0.out x7_1 p103 q103
        cases e103
        replace p103:=eq_true p103
        replace q103:=eq_true q103
        go_wp2
        go_ret2
        exact ⟨by first|rfl|(simp;done)|(simp [*];done),by repeat (first|exact Drawn0.refl _|apply Drawn0.step)⟩
       ·rw [if_neg c12] at H
        have c12b0:((rd l0 x7_1) == a1) = false:=beq_eq_false_iff_ne.mpr c12
        have c12b1:((rd l0 x7_1) != a1) = true:=bne_iff_ne.mpr c12
        replace H:=Option.bind_eq_some_iff.mp H
        obtain ⟨t105,A130,H⟩:=H
        replace H:(if t105 = true then ((slices_isNaN_int.f a1).bind fun t106=>(some (x7_1,t106))) else (some (x7_1,false))) = some (r1,r2):=H
        have A13:=Aside0.mk A130
        clear A130
        by_cases c14:t105 = true
        ·subst c14
         have H1:((slices_isNaN_int.f a1).bind fun t106=>(some (x7_1,t106))) = some (r1,r2):=by rw [if_pos rfl] at H;exact H
         clear H
         have H:=H1
         clear H1
         replace H:=Option.bind_eq_some_iff.mp H
         obtain ⟨t106,A150,H⟩:=H
         replace H:(some (x7_1,t106)) = some (r1,r2):=H
         have A15:=Aside0.mk A150
         clear A150
         simp only [Option.some.injEq,Prod.mk.injEq] at H
         obtain ⟨rfl,rfl⟩:=H
         have p103:0 ≤ (x7_1:Int):=of_decide_eq_true (by first|(with_reducible assumption)|assumption)
         have q103:x7_1 < (l0.length:Int):=of_decide_eq_true (by first|(with_reducible assumption)|assumption)
         obtain ⟨ad103,e103,hx103_0⟩:=Kd.at_int HR0.out x7_1 p103 q103
         cases e103
         replace p103:=eq_true p103
         replace q103:=eq_true q103
         have p104:0 ≤ (x7_1:Int):=of_decide_eq_true (by first|(with_reducible assumption)|assumption)
         have q104:x7_1 < (l0.length:Int):=of_decide_eq_true (by first|(with_reducible assumption)|assumption)
         obtain ⟨ad104,e104,hx104_0⟩:=Kd.at_int HR0.out x7_1 p104 q104
         obtain rfl:ad103 = ad104:=(by injection e104)
         replace p104:=eq_true p104
         replace q104:=eq_true q104
         go_wp2_with (first|(go_at_call 89;(with_reducible refine (slices_isNaN_int.calls (rd l0 x7_1) true _ A13.out).mono ?_);rintro e w' ⟨rfl,⟨nd,rfl⟩⟩)|(go_at_call 89;(with_reducible refine (slices_isNaN_int.calls a1 t106 _ A15.out).mono ?_);rintro e w' ⟨rfl,⟨nd,rfl⟩⟩))
         go_ret2
         exact ⟨by first|rfl|(simp;done)|(simp [*];done),by repeat (first|exact Drawn0.refl _|apply Drawn0.step)⟩
        ·replace c14:=Bool.eq_false_iff.mpr c14
         subst c14
         have H1:(some (x7_1,false)) = some (r1,r2):=by rw [if_neg (show ¬ (false = true) by decide)] at H;exact H
         clear H
         have H:=H1
         clear H1
         simp only [Option.some.injEq,Prod.mk.injEq] at H
         obtain ⟨rfl,rfl⟩:=H
         have p103:0 ≤ (x7_1:Int):=of_decide_eq_true (by first|(with_reducible assumption)|assumption)
         have q103:x7_1 < (l0.length:Int):=of_decide_eq_true (by first|(with_reducible assumption)|assumption)
         obtain ⟨ad103,e103,hx103_0⟩:=Kd.at_int HR0.out x7_1 p103 q103
         cases e103
         replace p103:=eq_true p103
         replace q103:=eq_true q103
         have p104:0 ≤ (x7_1:Int):=of_decide_eq_true (by first|(with_reducible assumption)|assumption)
         have q104:x7_1 < (l0.length:Int):=of_decide_eq_true (by first|(with_reducible assumption)|assumption)
         obtain ⟨ad104,e104,hx104_0⟩:=Kd.at_int HR0.out x7_1 p104 q104
         obtain rfl:ad103 = ad104:=(by injection e104)
         replace p104:=eq_true p104
         replace q104:=eq_true q104
         go_wp2_with (first|(go_at_call 89;(with_reducible refine (slices_isNaN_int.calls (rd l0 x7_1) false _ A13.out).mono ?_);rintro e w' ⟨rfl,⟨nd,rfl⟩⟩))
         go_ret2
         exact ⟨by first|rfl|(simp;done)|(simp [*];done),by repeat (first|exact Drawn0.refl _|apply Drawn0.step)⟩
      ·rw [if_neg c11] at H
       exact absurd H (by simp)
     ·rw [if_neg c10] at H
      exact absurd H (by simp)
    ·rw [if_neg c9] at H
     have c9b0:decide (x7_1 < (l0.length:Int)) = false:=decide_eq_false c9
     clear c9
     simp only [Option.some.injEq,Prod.mk.injEq] at H
     obtain ⟨rfl,rfl⟩:=H
     go_wp2
     go_ret2
     exact ⟨by first|rfl|(simp;done)|(simp [*];done),by repeat (first|exact Drawn0.refl _|apply Drawn0.step)⟩
end Go.Proofs.Ytbgeceiddcokmaa.X
end
section
namespace Go.Proofs.Ytbgeceiddcokmaa.X
open Go.RowKit Go.Proofs.YtbgeceiddcokmaaW.PrintWords
def KT (T:TypeId) (W W':World):Prop:=∀ (g:Nat) (cs:Array Value),W.heap[g]? = some (.cells cs T (0,0)) → W'.heap[g]? = some (.cells cs T (0,0))
theorem KT.refl (T:TypeId) (W:World):KT T W W:=fun _ _ h=>h
theorem KT.trans {T:TypeId} {a b c:World} (h:KT T a b) (k:KT T b c):KT T a c:=fun g cs hg=>k g cs (h g cs hg)
theorem KT.alloc {T:TypeId} {a b:World} (h:KT T a b) (o:Obj):KT T a (b.alloc o):=fun g cs hg=>blk_alloc (h g cs hg) o
theorem KT.drew {T:TypeId} {a b:World} (h:KT T a b):KT T a b.drew:=h
theorem KT.drewN {T:TypeId} {a b:World} (h:KT T a b) (n:Nat):KT T a (b.drewN n):=h
theorem KT.setCell {T T':TypeId} {a b:World} (h:KT T a b) {p:Addr} {cs':Array Value} (hb:b.heap[p.block]? = some (.cells cs' T' (0,0))) (hne:T' ≠ T) (u:Value):KT T a (b.setCell p u):=fun g cs hg=>by
  have h1:=h g cs hg
  refine blk_far h1 (fun e=>?_) u
  rw [e,hb] at h1
  injection h1 with h2
  injection h2 with _ h3 _
  exact hne h3
theorem KT.below {T:TypeId} {a b c:World} (h:KT T a b) (hb:Below b.heap.size b c):KT T a c:=fun g cs hg=>blk_below (h g cs hg) hb
theorem KT.grown {T T':TypeId} {a b c:World} (h:KT T a b) {row:Option Nat} (hg:b.grownBy c row) (hr:∀ k,row = some k → ∃ cs',b.heap[k]? = some (.cells cs' T' (0,0))) (hne:T' ≠ T):KT T a c:=fun g cs hh=>by
  have h1:=h g cs hh
  refine blk_grown h1 hg (fun e=>?_)
  obtain ⟨cs',h2⟩:=hr g e.symm
  rw [h2] at h1
  injection h1 with h3
  injection h3 with _ h4 _
  exact hne h4
end Go.Proofs.Ytbgeceiddcokmaa.X
end
