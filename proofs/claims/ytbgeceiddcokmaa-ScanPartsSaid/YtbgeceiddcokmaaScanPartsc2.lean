/- For ScanParts: contracts, and facts on lists and numbers, that it uses (part 2). -/
import Derived.Test.YtbgeceiddcokmaaScanPartsc1
section
namespace Go.Proofs.Ytbgeceiddcokmaa.X
open Go.RowKit Go.Proofs.YtbgeceiddcokmaaW.PrintWords Go.Proofs.YtbgeceiddcokmaaW.PrintLast Go.Proofs.YtbgeceiddcokmaaW.PrintMore
attribute [local go_sem] max2_int min2_int max_two min_two max_three min_three max_four min_four
set_option linter.unusedVariables false
set_option linter.unusedSimpArgs false
mutual
def scan_Check.l0:Nat → List (S91) → List (S91) → Int → Int → Option (Int)
 | 0,_,_,_,_=>none
 | k + 1,x0,x10,x11,x12=>if x12 < x11 then (if 0 ≤ x12 then (if x12 < (x10.length:Int) then (if x12 > 0 then (if 0 ≤ (wrap64 (x12 - 1)) then (if (wrap64 (x12 - 1)) < (x0.length:Int) then ((series_Compare.f ((rd_T91 x0 (wrap64 (x12 - 1))).f0.f0) ((rd_T91 x0 (wrap64 (x12 - 1))).f0.f1) ((rd_T91 x0 (wrap64 (x12 - 1))).f0.f2) ((rd_T91 x0 (wrap64 (x12 - 1))).f0.f3) ((rd_T91 x10 x12).f0.f0) ((rd_T91 x10 x12).f0.f1) ((rd_T91 x10 x12).f0.f2) ((rd_T91 x10 x12).f0.f3)).bind fun t104=>(scan_Check.j1 k x0 x10 x11 x12 (decide (t104 ≥ 0)) ((rd_T91 x10 x12).f0.f0) ((rd_T91 x10 x12).f0.f1) ((rd_T91 x10 x12).f0.f2) ((rd_T91 x10 x12).f0.f3) ((rd_T91 x10 x12).f1) ((rd_T91 x10 x12).f2))) else (none)) else (none)) else (scan_Check.j1 k x0 x10 x11 x12 false ((rd_T91 x10 x12).f0.f0) ((rd_T91 x10 x12).f0.f1) ((rd_T91 x10 x12).f0.f2) ((rd_T91 x10 x12).f0.f3) ((rd_T91 x10 x12).f1) ((rd_T91 x10 x12).f2))) else (none)) else (none)) else (some 0)
def scan_Check.j1:Nat → List (S91) → List (S91) → Int → Int → Bool → ByteArray → Int → Int → Int → List Int → Int → Option (Int)
 | 0,_,_,_,_,_,_,_,_,_,_,_=>none
 | k + 1,x0,x10,x11,x12,x30,x103000,x103001,x103002,x103003,x103004,x103005=>if x30 = true then (some 19) else (if (x103004.length:Int) < 1 then (scan_Check.j2 k x0 x10 x11 x12 true x103000 x103001 x103002 x103003 x103004 x103005) else (if (x103004.length:Int) > 32 then (scan_Check.j2 k x0 x10 x11 x12 true x103000 x103001 x103002 x103003 x103004 x103005) else (if 0 < (x0.length:Int) then (scan_Check.j2 k x0 x10 x11 x12 ((x103004.length:Int) != (((rd_T91 x0 0).f1).length:Int)) x103000 x103001 x103002 x103003 x103004 x103005) else (none))))
def scan_Check.j2:Nat → List (S91) → List (S91) → Int → Int → Bool → ByteArray → Int → Int → Int → List Int → Int → Option (Int)
 | 0,_,_,_,_,_,_,_,_,_,_,_=>none
 | k + 1,x0,x10,x11,x12,x51,x103000,x103001,x103002,x103003,x103004,x103005=>if x51 = true then (some 27) else (scan_Check.l1 k x0 x10 x11 x12 x103004 (x103004.length:Int) 0 x103000 x103001 x103002 x103003 x103004 x103005)
def scan_Check.l1:Nat → List (S91) → List (S91) → Int → Int → List Int → Int → Int → ByteArray → Int → Int → Int → List Int → Int → Option (Int)
 | 0,_,_,_,_,_,_,_,_,_,_,_,_,_=>none
 | k + 1,x0,x10,x11,x12,x53,x54,x55,x103000,x103001,x103002,x103003,x103004,x103005=>if x55 < x54 then (if 0 ≤ x55 then (if x55 < (x53.length:Int) then (if (rd x53 x55) < (-68719476736) then (some 3) else (if (rd x53 x55) > 68719476736 then (some 3) else (scan_Check.l1 k x0 x10 x11 x12 x53 x54 (wrap64 (x55 + 1)) x103000 x103001 x103002 x103003 x103004 x103005))) else (none)) else (none)) else (if x103005 < (-1000) then (some 2) else (if x103005 > 1000 then (some 2) else (scan_Check.l0 k x0 x10 x11 (wrap64 (x12 + 1)))))
end
def scan_Check.f (k:Nat) (l0:List (S91)):Option (Int):=if (l0.length:Int) > 128 then (some 8) else (scan_Check.l0 k l0 l0 (l0.length:Int) 0)
theorem scan_Check.mono_l:∀ k,(∀ y0 y1 y2 y3,LeO (scan_Check.l0 k y0 y1 y2 y3) (scan_Check.l0 (k + 1) y0 y1 y2 y3)) ∧ (∀ y0 y1 y2 y3 y4 y5 y6 y7 y8 y9 y10,LeO (scan_Check.j1 k y0 y1 y2 y3 y4 y5 y6 y7 y8 y9 y10) (scan_Check.j1 (k + 1) y0 y1 y2 y3 y4 y5 y6 y7 y8 y9 y10)) ∧ (∀ y0 y1 y2 y3 y4 y5 y6 y7 y8 y9 y10,LeO (scan_Check.j2 k y0 y1 y2 y3 y4 y5 y6 y7 y8 y9 y10) (scan_Check.j2 (k + 1) y0 y1 y2 y3 y4 y5 y6 y7 y8 y9 y10)) ∧ (∀ y0 y1 y2 y3 y4 y5 y6 y7 y8 y9 y10 y11 y12,LeO (scan_Check.l1 k y0 y1 y2 y3 y4 y5 y6 y7 y8 y9 y10 y11 y12) (scan_Check.l1 (k + 1) y0 y1 y2 y3 y4 y5 y6 y7 y8 y9 y10 y11 y12))
 | 0=>⟨fun _ _ _ _ r h=>by simp [scan_Check.l0] at h,fun _ _ _ _ _ _ _ _ _ _ _ r h=>by simp [scan_Check.j1] at h,fun _ _ _ _ _ _ _ _ _ _ _ r h=>by simp [scan_Check.j2] at h,fun _ _ _ _ _ _ _ _ _ _ _ _ _ r h=>by simp [scan_Check.l1] at h⟩
 | k + 1=>by
  obtain ⟨ih0,ih1,ih2,ih3⟩:=scan_Check.mono_l k
  refine ⟨?_,?_,?_,?_⟩
  ·intro y0 y1 y2 y3
   unfold scan_Check.l0
   repeat' first
   | (with_reducible exact ih0 _ _ _ _)
   | (with_reducible exact ih1 _ _ _ _ _ _ _ _ _ _ _)
   | (with_reducible exact ih2 _ _ _ _ _ _ _ _ _ _ _)
   | (with_reducible exact ih3 _ _ _ _ _ _ _ _ _ _ _ _ _)
   | (with_reducible exact LeO.refl _)
   | (with_reducible exact LeO.none _)
   | (with_reducible refine LeO.ite ?_ ?_)
   | (with_reducible refine LeO.bind ?_ (fun _=>?_))
   | exact ih0 _ _ _ _
   | exact ih1 _ _ _ _ _ _ _ _ _ _ _
   | exact ih2 _ _ _ _ _ _ _ _ _ _ _
   | exact ih3 _ _ _ _ _ _ _ _ _ _ _ _ _
   | exact LeO.none _
   | refine LeO.ite ?_ ?_
   | refine LeO.bind ?_ (fun _=>?_)
  ·intro y0 y1 y2 y3 y4 y5 y6 y7 y8 y9 y10
   unfold scan_Check.j1
   repeat' first
   | (with_reducible exact ih0 _ _ _ _)
   | (with_reducible exact ih1 _ _ _ _ _ _ _ _ _ _ _)
   | (with_reducible exact ih2 _ _ _ _ _ _ _ _ _ _ _)
   | (with_reducible exact ih3 _ _ _ _ _ _ _ _ _ _ _ _ _)
   | (with_reducible exact LeO.refl _)
   | (with_reducible exact LeO.none _)
   | (with_reducible refine LeO.ite ?_ ?_)
   | (with_reducible refine LeO.bind ?_ (fun _=>?_))
   | exact ih0 _ _ _ _
   | exact ih1 _ _ _ _ _ _ _ _ _ _ _
   | exact ih2 _ _ _ _ _ _ _ _ _ _ _
   | exact ih3 _ _ _ _ _ _ _ _ _ _ _ _ _
   | exact LeO.none _
   | refine LeO.ite ?_ ?_
   | refine LeO.bind ?_ (fun _=>?_)
  ·intro y0 y1 y2 y3 y4 y5 y6 y7 y8 y9 y10
   unfold scan_Check.j2
   repeat' first
   | (with_reducible exact ih0 _ _ _ _)
   | (with_reducible exact ih1 _ _ _ _ _ _ _ _ _ _ _)
   | (with_reducible exact ih2 _ _ _ _ _ _ _ _ _ _ _)
   | (with_reducible exact ih3 _ _ _ _ _ _ _ _ _ _ _ _ _)
   | (with_reducible exact LeO.refl _)
   | (with_reducible exact LeO.none _)
   | (with_reducible refine LeO.ite ?_ ?_)
   | (with_reducible refine LeO.bind ?_ (fun _=>?_))
   | exact ih0 _ _ _ _
   | exact ih1 _ _ _ _ _ _ _ _ _ _ _
   | exact ih2 _ _ _ _ _ _ _ _ _ _ _
   | exact ih3 _ _ _ _ _ _ _ _ _ _ _ _ _
   | exact LeO.none _
   | refine LeO.ite ?_ ?_
   | refine LeO.bind ?_ (fun _=>?_)
  ·intro y0 y1 y2 y3 y4 y5 y6 y7 y8 y9 y10 y11 y12
   unfold scan_Check.l1
   repeat' first
   | (with_reducible exact ih0 _ _ _ _)
   | (with_reducible exact ih1 _ _ _ _ _ _ _ _ _ _ _)
   | (with_reducible exact ih2 _ _ _ _ _ _ _ _ _ _ _)
   | (with_reducible exact ih3 _ _ _ _ _ _ _ _ _ _ _ _ _)
   | (with_reducible exact LeO.refl _)
   | (with_reducible exact LeO.none _)
   | (with_reducible refine LeO.ite ?_ ?_)
   | (with_reducible refine LeO.bind ?_ (fun _=>?_))
   | exact ih0 _ _ _ _
   | exact ih1 _ _ _ _ _ _ _ _ _ _ _
   | exact ih2 _ _ _ _ _ _ _ _ _ _ _
   | exact ih3 _ _ _ _ _ _ _ _ _ _ _ _ _
   | exact LeO.none _
   | refine LeO.ite ?_ ?_
   | refine LeO.bind ?_ (fun _=>?_)
theorem scan_Check.mono:∀ a0 k,LeO (scan_Check.f k a0) (scan_Check.f (k + 1) a0):=by
 intro a0 k
 obtain ⟨ih0,ih1,ih2,ih3⟩:=scan_Check.mono_l k
 unfold scan_Check.f
 repeat' first
   | (with_reducible exact ih0 _ _ _ _)
   | (with_reducible exact ih1 _ _ _ _ _ _ _ _ _ _ _)
   | (with_reducible exact ih2 _ _ _ _ _ _ _ _ _ _ _)
   | (with_reducible exact ih3 _ _ _ _ _ _ _ _ _ _ _ _ _)
   | (with_reducible exact LeO.refl _)
   | (with_reducible exact LeO.none _)
   | (with_reducible refine LeO.ite ?_ ?_)
   | (with_reducible refine LeO.bind ?_ (fun _=>?_))
   | exact ih0 _ _ _ _
   | exact ih1 _ _ _ _ _ _ _ _ _ _ _
   | exact ih2 _ _ _ _ _ _ _ _ _ _ _
   | exact ih3 _ _ _ _ _ _ _ _ _ _ _ _ _
   | exact LeO.none _
   | refine LeO.ite ?_ ?_
   | refine LeO.bind ?_ (fun _=>?_)
def scan_Check.T6:Bool × List (List Nat × List Nat):=(true,[([],[]),([0],[0]),([1],[1]),([2],[2]),([2],[2]),([4,2],[2,4]),([3,5,2],[2,3,5]),([6,2],[2,6]),([7,2],[2,7]),([2],[2]),([9,2],[2,9]),([8,10,2,2],[2,8,10]),([11,2],[2,11]),([2,12],[2,12])])
def scan_Check.B6:List Nat:=[0,1,3,7,7,23,63,127,255,7,519,2047,4095,8191]
theorem scan_Check.tab6:rtab .any (opsOf Try.f31 6) = scan_Check.T6:=by kernel_rfl
theorem scan_Check.bits6:waitsOk scan_Check.T6.2 scan_Check.B6 = true:=by kernel_rfl
def scan_Check.T8:Bool × List (List Nat × List Nat):=(true,[([],[]),([0],[0]),([1],[1]),([2],[2]),([3],[3]),([4],[4]),([5,4],[4,5]),([6,4],[4,6]),([7,4],[4,7]),([4,8],[4,8]),([9,4],[9]),([10],[10]),([11,10],[10,11]),([12,10],[10,12]),([10],[10]),([14,10],[10,14]),([15,10],[10,15]),([16,10],[10,16]),([17,10],[10,17]),([13,18,10],[10,13,18]),([10,19],[10,19])])
def scan_Check.B8:List Nat:=[0,1,3,7,15,31,63,127,255,511,1023,2047,4095,8191,2047,18431,51199,116735,247807,524287,1048575]
theorem scan_Check.tab8:rtab .any (opsOf Try.f31 8) = scan_Check.T8:=by kernel_rfl
theorem scan_Check.bits8:waitsOk scan_Check.T8.2 scan_Check.B8 = true:=by kernel_rfl
set_option maxHeartbeats 8000000 in
set_option maxRecDepth 100000 in
theorem scan_Check.calls (k:Nat) (A0:Option Addr) (c0:Nat) (l0:List (S91)) (r:Int) (w:World) (hr0:Kd.C k91 w A0 l0.length l0) (hc0:l0.length ≤ c0) (h:scan_Check.f k l0 = some r) :
  Calls Try.prog 31 #[.slice A0 l0.length c0] w fun e w'=>e = .returned (.int .i64 r) ∧ Below w.heap.size w w':=by
 have hu91:=Try.underlying91
 have hu39:=Try.underlying39
 have HR0:=Aside0.mk hr0
 have HC0:=Aside0.mk hc0
 clear hr0 hc0
 have HB:=Aside0.mk (Below.refl w.heap.size w)
 have H:(if (l0.length:Int) > 128 then (some 8) else (scan_Check.l0 k l0 l0 (l0.length:Int) 0)) = some r:=h
 clear h
 by_cases c2:(l0.length:Int) > 128
 ·rw [if_pos c2] at H
  have c2b0:decide (128 < (l0.length:Int)) = true:=decide_eq_true c2
  have c2b1:decide (128 < l0.length) = true:=decide_eq_true (by omega)
  clear c2
  obtain rfl:=Option.some.inj H
  go_enter Try.func31,Try.ntmps31
  go_wp2
  go_ret
  exact ⟨by first|rfl|(simp [errW_none,errW_some] <;> rfl)|(simp [*,errW_none,errW_some] <;> rfl),by repeat (first|(with_reducible first|exact HB.out|apply below_alloc|apply pw_below_drewN|apply below_drew1)|exact HB.out)⟩
 ·rw [if_neg c2] at H
  have c2b0:decide (128 < (l0.length:Int)) = false:=decide_eq_false c2
  have c2b1:decide (128 < l0.length) = false:=decide_eq_false (by omega)
  clear c2
  have H':=Aside0.mk H
  clear H
  go_enter Try.func31,Try.ntmps31
  go_wp2
  go_loopg [12] k (fun kq v12 w'=>∃ (x12_1:Int),v12 = .int .i64 x12_1 ∧ Aside0 (scan_Check.l0 kq l0 l0 (l0.length:Int) x12_1 = some r) ∧ Aside0 (kq ≤ k) ∧ Aside0 (Below w.heap.size w w'))
  case atStart=>exact ⟨(0),(by first|rfl|(simp;done)|(simp [*];done)),H',⟨Nat.le_refl _⟩,⟨by repeat (first|(with_reducible first|exact HB.out|apply below_alloc|apply pw_below_drewN|apply below_drew1)|exact HB.out)⟩⟩
  case round =>
   clear H'
   try clear c2
   try clear c2b0
   try clear c2b1
   try clear p2
   obtain ⟨x12_1,rfl,HA,HK1,HB⟩:=hrel
   cases gk with
   | zero=>exact absurd HA.out (by simp [scan_Check.l0])
   | succ k1 =>
    have H:=HA.out
    clear HA
    simp only [scan_Check.l0] at H
    by_cases c3:x12_1 < (l0.length:Int)
    ·rw [if_pos c3] at H
     have c3b0:decide (x12_1 < (l0.length:Int)) = true:=decide_eq_true c3
     clear c3
     by_cases c4:0 ≤ x12_1
     ·rw [if_pos c4] at H
      have c4b0:decide (0 ≤ x12_1) = true:=decide_eq_true c4
      clear c4
      by_cases c5:x12_1 < (l0.length:Int)
      ·rw [if_pos c5] at H
       have c5b0:decide (x12_1 < (l0.length:Int)) = true:=decide_eq_true c5
       clear c5
       have HC6:=Aside0.mk H
       clear H
       have p101:0 ≤ (x12_1:Int):=of_decide_eq_true (by first|(with_reducible assumption)|assumption)
       have q101:x12_1 < (l0.length:Int):=of_decide_eq_true (by first|(with_reducible assumption)|assumption)
       obtain ⟨ad101,A101_4,c101_4,e101,hx101_0,hx101_1,hx101_2,hx101_3,hx101_4,hx101_5,hl101_4,hi101_4⟩:=at_T91 HR0.out x12_1 p101 q101
       cases e101
       replace hx101_0:=(HB.out.cell (World.block_lt_of_cell? w _ hx101_0)).trans hx101_0
       replace hx101_1:=(HB.out.cell (World.block_lt_of_cell? w _ hx101_1)).trans hx101_1
       replace hx101_2:=(HB.out.cell (World.block_lt_of_cell? w _ hx101_2)).trans hx101_2
       replace hx101_3:=(HB.out.cell (World.block_lt_of_cell? w _ hx101_3)).trans hx101_3
       replace hx101_4:=(HB.out.cell (World.block_lt_of_cell? w _ hx101_4)).trans hx101_4
       replace hx101_5:=(HB.out.cell (World.block_lt_of_cell? w _ hx101_5)).trans hx101_5
       have HR101_4:=Aside0.mk hi101_4
       have HC101_4:=Aside0.mk hl101_4
       clear hi101_4 hl101_4
       replace p101:=eq_true p101
       replace q101:=eq_true q101
       go_upto_region 6 with (first|((with_reducible refine gate_dst (N:=4) rfl ?_);(try (refine gate_guard (by rfl) ?_;dsimp only));refine box_event ?hg (N:=4) ?hd (cs:=#[.string (⟨#[]⟩:ByteArray),.int .i64 0,.int .i64 0,.int .i64 0,.slice none 0 0,.int .i64 0]) (t:=91) ?hr ?_;(case hd=>rfl);(case hg=>rfl);(case hr=>first|(go_simp;done)|(go_simp;rfl));intro gb102 hg w7 hbox hb;have n0_:=Aside0.mk (below_step (by repeat (first|(with_reducible first|exact HB.out|apply below_alloc|apply pw_below_drewN|apply below_drew1)|exact HB.out)) hb);have n1_:=Aside0.mk (hbox);have n2_:=Aside0.mk ((by rw [hg];exact (below_size (by repeat (first|(with_reducible first|exact HB.out|apply below_alloc|apply pw_below_drewN|apply below_drew1)|exact HB.out))):w.heap.size ≤ gb102));have n3_:=Aside0.mk ((by rw [hg];exact (below_size (by repeat (first|(with_reducible first|exact HB.out|apply below_alloc|apply pw_below_drewN|apply below_drew1)|exact HB.out))):w.heap.size ≤ gb102));clear HB;have HB:=n0_;have BK102:=n1_;have GW102:=n2_;have GE102:=n3_;clear n0_ n1_ n2_ n3_;clear hb hbox hg;have hcz8_0:w7.cell? ⟨gb102,0,none⟩ = some (.string (⟨#[]⟩:ByteArray)):=(blk_cell BK102.out 0).trans rfl;have hcz8_1:w7.cell? ⟨gb102,1,none⟩ = some (.int .i64 0):=(blk_cell BK102.out 1).trans rfl;have hcz8_2:w7.cell? ⟨gb102,2,none⟩ = some (.int .i64 0):=(blk_cell BK102.out 2).trans rfl;have hcz8_3:w7.cell? ⟨gb102,3,none⟩ = some (.int .i64 0):=(blk_cell BK102.out 3).trans rfl;have hcz8_4:w7.cell? ⟨gb102,4,none⟩ = some (.slice none 0 0):=(blk_cell BK102.out 4).trans rfl;have hcz8_5:w7.cell? ⟨gb102,5,none⟩ = some (.int .i64 0):=(blk_cell BK102.out 5).trans rfl;have hfz8_0:=blk_frozen BK102.out 0;have hfz8_1:=blk_frozen BK102.out 1;have hfz8_2:=blk_frozen BK102.out 2;have hfz8_3:=blk_frozen BK102.out 3;have hfz8_4:=blk_frozen BK102.out 4;have hfz8_5:=blk_frozen BK102.out 5))
       (try simp only [Act.put,List.setIfInBounds_toArray,List.set_cons_zero,List.set_cons_succ])
       go_cut [30] (fun v30 wc=>∃ (kq:Nat) (x30_5:Bool),v30 = .bool x30_5 ∧ Aside0 (scan_Check.j1 kq l0 l0 (l0.length:Int) x12_1 x30_5 ((rd_T91 l0 x12_1).f0.f0) ((rd_T91 l0 x12_1).f0.f1) ((rd_T91 l0 x12_1).f0.f2) ((rd_T91 l0 x12_1).f0.f3) ((rd_T91 l0 x12_1).f1) ((rd_T91 l0 x12_1).f2) = some r) ∧ Aside0 (kq ≤ k1) ∧ Aside0 (wc.heap[gb102]? = some (.cells #[.string ((rd_T91 l0 x12_1).f0.f0),.int .i64 ((rd_T91 l0 x12_1).f0.f1),.int .i64 ((rd_T91 l0 x12_1).f0.f2),.int .i64 ((rd_T91 l0 x12_1).f0.f3),(.slice A101_4 ((rd_T91 l0 x12_1).f1).length c101_4),.int .i64 ((rd_T91 l0 x12_1).f2)] 91 (0,0))) ∧ Aside0 (Below w.heap.size w wc))
       case first =>
        have H:=HC6.out
        clear HC6
        by_cases c9:x12_1 > 0
        ·rw [if_pos c9] at H
         have c9b0:decide (0 < x12_1) = true:=decide_eq_true c9
         clear c9
         (first|rw [c9b0]|(simp only [i64_w,i32_w];rw [c9b0])|skip)
         obtain ⟨ji10,hji10⟩:∃ j_:Int,(wrap64 (x12_1 - 1)) = j_:=⟨_,rfl⟩
         replace H:(if 0 ≤ (ji10) then (if (ji10) < (l0.length:Int) then ((series_Compare.f ((rd_T91 l0 (ji10)).f0.f0) ((rd_T91 l0 (ji10)).f0.f1) ((rd_T91 l0 (ji10)).f0.f2) ((rd_T91 l0 (ji10)).f0.f3) ((rd_T91 l0 x12_1).f0.f0) ((rd_T91 l0 x12_1).f0.f1) ((rd_T91 l0 x12_1).f0.f2) ((rd_T91 l0 x12_1).f0.f3)).bind fun t104=>(scan_Check.j1 k1 l0 l0 (l0.length:Int) x12_1 (decide (t104 ≥ 0)) ((rd_T91 l0 x12_1).f0.f0) ((rd_T91 l0 x12_1).f0.f1) ((rd_T91 l0 x12_1).f0.f2) ((rd_T91 l0 x12_1).f0.f3) ((rd_T91 l0 x12_1).f1) ((rd_T91 l0 x12_1).f2))) else (none)) else (none)) = some r:=by first|(rw [hji10] at H;exact H)|(simp only [hji10] at H ⊢;exact H)
         have hji10w:(IntKind.i64.wrap (x12_1 - 1)) = ji10:=(i64_w _).trans hji10
         by_cases c11:0 ≤ (ji10)
         ·rw [if_pos c11] at H
          have c11b0:decide (0 ≤ (ji10)) = true:=decide_eq_true c11
          clear c11
          by_cases c12:(ji10) < (l0.length:Int)
          ·rw [if_pos c12] at H
           have c12b0:decide ((ji10) < (l0.length:Int)) = true:=decide_eq_true c12
           clear c12
           replace H:=Option.bind_eq_some_iff.mp H
           obtain ⟨t104,A130,H⟩:=H
           replace H:(scan_Check.j1 k1 l0 l0 (l0.length:Int) x12_1 (decide (t104 ≥ 0)) ((rd_T91 l0 x12_1).f0.f0) ((rd_T91 l0 x12_1).f0.f1) ((rd_T91 l0 x12_1).f0.f2) ((rd_T91 l0 x12_1).f0.f3) ((rd_T91 l0 x12_1).f1) ((rd_T91 l0 x12_1).f2)) = some r:=H
           have A13:=Aside0.mk A130
           clear A130
           have H':=Aside0.mk H
           clear H
           try go_wp2
           have n0_:Aside0 (((((((w7.setCell ⟨gb102,0,none⟩ (.string ((rd_T91 l0 x12_1).f0.f0))).setCell ⟨gb102,1,none⟩ (.int .i64 ((rd_T91 l0 x12_1).f0.f1))).setCell ⟨gb102,2,none⟩ (.int .i64 ((rd_T91 l0 x12_1).f0.f2))).setCell ⟨gb102,3,none⟩ (.int .i64 ((rd_T91 l0 x12_1).f0.f3))).setCell ⟨gb102,4,none⟩ (.slice A101_4 ((rd_T91 l0 x12_1).f1).length c101_4)).setCell ⟨gb102,5,none⟩ (.int .i64 ((rd_T91 l0 x12_1).f2))).heap[gb102]? = some (.cells #[.string ((rd_T91 l0 x12_1).f0.f0),.int .i64 ((rd_T91 l0 x12_1).f0.f1),.int .i64 ((rd_T91 l0 x12_1).f0.f2),.int .i64 ((rd_T91 l0 x12_1).f0.f3),.slice A101_4 ((rd_T91 l0 x12_1).f1).length c101_4,.int .i64 ((rd_T91 l0 x12_1).f2)] 91 (0,0))):=⟨by (with_reducible repeat (first|refine blk_drewN ?_ _|refine blk_drew ?_|refine blk_alloc ?_ _));refine blk_put (cs:=#[.string ((rd_T91 l0 x12_1).f0.f0),.int .i64 ((rd_T91 l0 x12_1).f0.f1),.int .i64 ((rd_T91 l0 x12_1).f0.f2),.int .i64 ((rd_T91 l0 x12_1).f0.f3),.slice A101_4 ((rd_T91 l0 x12_1).f1).length c101_4,.int .i64 0]) ?_ 5 _ rfl;(with_reducible repeat (first|refine blk_drewN ?_ _|refine blk_drew ?_|refine blk_alloc ?_ _));refine blk_put (cs:=#[.string ((rd_T91 l0 x12_1).f0.f0),.int .i64 ((rd_T91 l0 x12_1).f0.f1),.int .i64 ((rd_T91 l0 x12_1).f0.f2),.int .i64 ((rd_T91 l0 x12_1).f0.f3),.slice none 0 0,.int .i64 0]) ?_ 4 _ rfl;(with_reducible repeat (first|refine blk_drewN ?_ _|refine blk_drew ?_|refine blk_alloc ?_ _));refine blk_put (cs:=#[.string ((rd_T91 l0 x12_1).f0.f0),.int .i64 ((rd_T91 l0 x12_1).f0.f1),.int .i64 ((rd_T91 l0 x12_1).f0.f2),.int .i64 0,.slice none 0 0,.int .i64 0]) ?_ 3 _ rfl;(with_reducible repeat (first|refine blk_drewN ?_ _|refine blk_drew ?_|refine blk_alloc ?_ _));refine blk_put (cs:=#[.string ((rd_T91 l0 x12_1).f0.f0),.int .i64 ((rd_T91 l0 x12_1).f0.f1),.int .i64 0,.int .i64 0,.slice none 0 0,.int .i64 0]) ?_ 2 _ rfl;(with_reducible repeat (first|refine blk_drewN ?_ _|refine blk_drew ?_|refine blk_alloc ?_ _));refine blk_put (cs:=#[.string ((rd_T91 l0 x12_1).f0.f0),.int .i64 0,.int .i64 0,.int .i64 0,.slice none 0 0,.int .i64 0]) ?_ 1 _ rfl;(with_reducible repeat (first|refine blk_drewN ?_ _|refine blk_drew ?_|refine blk_alloc ?_ _));refine blk_put (cs:=#[.string (⟨#[]⟩:ByteArray),.int .i64 0,.int .i64 0,.int .i64 0,.slice none 0 0,.int .i64 0]) ?_ 0 _ rfl;(with_reducible repeat (first|refine blk_drewN ?_ _|refine blk_drew ?_|refine blk_alloc ?_ _));exact BK102.out⟩
           have n1_:Aside0 (Below w.heap.size w ((((((w7.setCell ⟨gb102,0,none⟩ (.string ((rd_T91 l0 x12_1).f0.f0))).setCell ⟨gb102,1,none⟩ (.int .i64 ((rd_T91 l0 x12_1).f0.f1))).setCell ⟨gb102,2,none⟩ (.int .i64 ((rd_T91 l0 x12_1).f0.f2))).setCell ⟨gb102,3,none⟩ (.int .i64 ((rd_T91 l0 x12_1).f0.f3))).setCell ⟨gb102,4,none⟩ (.slice A101_4 ((rd_T91 l0 x12_1).f1).length c101_4)).setCell ⟨gb102,5,none⟩ (.int .i64 ((rd_T91 l0 x12_1).f2)))):=⟨by repeat (first|(with_reducible first|exact HB.out|apply below_alloc|apply pw_below_drewN|apply below_drew1|refine below_set ?_ GE102.out)|exact HB.out)⟩
           (try clear BK102)
           (try clear HB)
           generalize ((((((w7.setCell ⟨gb102,0,none⟩ (.string ((rd_T91 l0 x12_1).f0.f0))).setCell ⟨gb102,1,none⟩ (.int .i64 ((rd_T91 l0 x12_1).f0.f1))).setCell ⟨gb102,2,none⟩ (.int .i64 ((rd_T91 l0 x12_1).f0.f2))).setCell ⟨gb102,3,none⟩ (.int .i64 ((rd_T91 l0 x12_1).f0.f3))).setCell ⟨gb102,4,none⟩ (.slice A101_4 ((rd_T91 l0 x12_1).f1).length c101_4)).setCell ⟨gb102,5,none⟩ (.int .i64 ((rd_T91 l0 x12_1).f2))) = w14 at n0_ n1_ ⊢
           have BK102:=n0_
           have HB:=n1_
           clear n0_ n1_
           have n0_:=Aside0.mk (blk_drew BK102.out)
           have n1_:=Aside0.mk (below_drew1 HB.out)
           clear BK102
           clear HB
           have BK102:=n0_
           have HB:=n1_
           clear n0_ n1_
           have p103:0 ≤ ((ji10):Int):=of_decide_eq_true (by first|(with_reducible assumption)|assumption)
           have q103:(ji10) < (l0.length:Int):=of_decide_eq_true (by first|(with_reducible assumption)|assumption)
           obtain ⟨ad103,A103_4,c103_4,e103,hx103_0,hx103_1,hx103_2,hx103_3,hx103_4,hx103_5,hl103_4,hi103_4⟩:=at_T91 HR0.out (ji10) p103 q103
           have hw103_5:=hx103_5
           have hw103_4:=hx103_4
           have hw103_3:=hx103_3
           have hw103_2:=hx103_2
           have hw103_1:=hx103_1
           have hw103_0:=hx103_0
           obtain rfl:ad101 = ad103:=(by injection e103)
           replace hx103_0:=(HB.out.cell (World.block_lt_of_cell? w _ hx103_0)).trans hx103_0
           replace hx103_1:=(HB.out.cell (World.block_lt_of_cell? w _ hx103_1)).trans hx103_1
           replace hx103_2:=(HB.out.cell (World.block_lt_of_cell? w _ hx103_2)).trans hx103_2
           replace hx103_3:=(HB.out.cell (World.block_lt_of_cell? w _ hx103_3)).trans hx103_3
           replace hx103_4:=(HB.out.cell (World.block_lt_of_cell? w _ hx103_4)).trans hx103_4
           replace hx103_5:=(HB.out.cell (World.block_lt_of_cell? w _ hx103_5)).trans hx103_5
           have HR103_4:=Aside0.mk hi103_4
           have HC103_4:=Aside0.mk hl103_4
           clear hi103_4 hl103_4
           replace p103:=eq_true p103
           replace q103:=eq_true q103
           refine start_ (n:=14) (S:=fun w'=>w'.cell? ⟨gb102,0,none⟩ = some (.string ((rd_T91 l0 x12_1).f0.f0)) ∧ w'.cell? ⟨gb102,1,none⟩ = some (.int .i64 ((rd_T91 l0 x12_1).f0.f1)) ∧ w'.cell? ⟨gb102,2,none⟩ = some (.int .i64 ((rd_T91 l0 x12_1).f0.f2)) ∧ w'.cell? ⟨gb102,3,none⟩ = some (.int .i64 ((rd_T91 l0 x12_1).f0.f3)) ∧ w'.cell? ⟨gb102,4,none⟩ = some (.slice A101_4 ((rd_T91 l0 x12_1).f1).length c101_4) ∧ w'.cell? ⟨gb102,5,none⟩ = some (.int .i64 ((rd_T91 l0 x12_1).f2)) ∧ w'.cell? (ad101.add (((ji10)).toNat * 6)) = some (.string ((rd_T91 l0 (ji10)).f0.f0)) ∧ w'.cell? ⟨(ad101.add (((ji10)).toNat * 6)).block,(ad101.add (((ji10)).toNat * 6)).off + 1,none⟩ = some (.int .i64 ((rd_T91 l0 (ji10)).f0.f1)) ∧ w'.cell? ⟨(ad101.add (((ji10)).toNat * 6)).block,(ad101.add (((ji10)).toNat * 6)).off + 2,none⟩ = some (.int .i64 ((rd_T91 l0 (ji10)).f0.f2)) ∧ w'.cell? ⟨(ad101.add (((ji10)).toNat * 6)).block,(ad101.add (((ji10)).toNat * 6)).off + 3,none⟩ = some (.int .i64 ((rd_T91 l0 (ji10)).f0.f3)) ∧ w'.cell? ⟨(ad101.add (((ji10)).toNat * 6)).block,(ad101.add (((ji10)).toNat * 6)).off + 4,none⟩ = some (.slice A103_4 ((rd_T91 l0 (ji10)).f1).length c103_4) ∧ w'.cell? ⟨(ad101.add (((ji10)).toNat * 6)).block,(ad101.add (((ji10)).toNat * 6)).off + 5,none⟩ = some (.int .i64 ((rd_T91 l0 (ji10)).f2))) (ds:=[]) #[Z,Z,Z,Z,Z,Z,Z,Z,Z,Z,Z,Z,Z,Z] (by kernel_rfl) rfl rfl ⟨(blk_cell BK102.out 0).trans rfl,(blk_cell BK102.out 1).trans rfl,(blk_cell BK102.out 2).trans rfl,(blk_cell BK102.out 3).trans rfl,(blk_cell BK102.out 4).trans rfl,(blk_cell BK102.out 5).trans rfl,((HB.out.cell (World.block_lt_of_cell? w _ hw103_0)).trans hw103_0),((HB.out.cell (World.block_lt_of_cell? w _ hw103_1)).trans hw103_1),((HB.out.cell (World.block_lt_of_cell? w _ hw103_2)).trans hw103_2),((HB.out.cell (World.block_lt_of_cell? w _ hw103_3)).trans hw103_3),((HB.out.cell (World.block_lt_of_cell? w _ hw103_4)).trans hw103_4),((HB.out.cell (World.block_lt_of_cell? w _ hw103_5)).trans hw103_5)⟩ (fun hHeld=>?_);refine with_tabW scan_Check.tab6 scan_Check.bits6 (fun HT_ HW_=>?_)
           generalize w14.drew = w15 at BK102 HB HR103_4 hx103_0 hx103_1 hx103_2 hx103_3 hx103_4 hx103_5 hHeld ⊢
           refine pure_ (i:=0) (N:=some 17) (v:=?_) (a':=?_) #[Y,Z,Z,Z,Z,Z,Z,Z,Z,Z,Z,Z,Z,Z] rfl rfl (any_of HT_.out (by kernel_rfl)) (fun _ _ _ h=>h) (Or.inl ⟨by rfl,?_⟩) ?_ ?_
           rotate_left
           ·intro w'
            go_simp
            with_reducible rfl
           rotate_left
           ·simp only [Act.put,List.setIfInBounds_toArray,List.set_cons_zero,List.set_cons_succ,i64_w,i32_w]
            rfl
           refine pure_ (i:=1) (N:=some 18) (v:=?_) (a':=?_) #[Y,Y,Z,Z,Z,Z,Z,Z,Z,Z,Z,Z,Z,Z] rfl rfl (any_of HT_.out (by kernel_rfl)) (fun _ _ _ h=>h) (Or.inl ⟨by rfl,?_⟩) ?_ ?_
           rotate_left
           ·intro w'
            go_simp
            with_reducible rfl
           rotate_left
           ·simp only [Act.put,List.setIfInBounds_toArray,List.set_cons_zero,List.set_cons_succ,i64_w,i32_w]
            rfl
           refine pure_ (i:=2) (N:=some 19) (v:=?_) (a':=?_) #[Y,Y,Y,Z,Z,Z,Z,Z,Z,Z,Z,Z,Z,Z] rfl rfl (any_of HT_.out (by kernel_rfl)) (fun _ _ _ h=>h) (Or.inl ⟨by rfl,?_⟩) ?_ ?_
           rotate_left
           ·intro w'
            go_simp
            with_reducible rfl
           rotate_left
           ·simp only [Act.put,List.setIfInBounds_toArray,List.set_cons_zero,List.set_cons_succ,i64_w,i32_w]
            rfl
           refine pure_ (i:=3) (N:=some 20) (v:=?_) (a':=?_) #[Y,Y,Y,Y,Z,Z,Z,Z,Z,Z,Z,Z,Z,Z] rfl rfl (any_of HT_.out (by kernel_rfl)) (fun _ _ _ h=>h) (Or.inl ⟨by rfl,?_⟩) ?_ ?_
           rotate_left
           ·intro w'
            go_simp
            with_reducible rfl
           rotate_left
           ·simp only [Act.put,List.setIfInBounds_toArray,List.set_cons_zero,List.set_cons_succ,i64_w,i32_w]
            rfl
           refine pure_ (i:=4) (N:=some 21) (v:=?_) (a':=?_) #[Y,Y,Y,Y,Y,Z,Z,Z,Z,Z,Z,Z,Z,Z] rfl rfl (any_of HT_.out (by kernel_rfl)) (fun _ _ _ h=>h) (Or.inl ⟨by rfl,?_⟩) ?_ ?_
           rotate_left
           ·intro w'
            go_simp
            with_reducible rfl
           rotate_left
           ·simp only [Act.put,List.setIfInBounds_toArray,List.set_cons_zero,List.set_cons_succ,i64_w,i32_w]
            rfl
           refine pure_ (i:=5) (N:=some 22) (v:=?_) (a':=?_) #[Y,Y,Y,Y,Y,Y,Z,Z,Z,Z,Z,Z,Z,Z] rfl rfl (any_of HT_.out (by kernel_rfl)) (fun _ _ _ h=>h) (Or.inl ⟨by rfl,?_⟩) ?_ ?_
           rotate_left
           ·intro w'
            go_simp
            with_reducible rfl
           rotate_left
           ·simp only [Act.put,List.setIfInBounds_toArray,List.set_cons_zero,List.set_cons_succ,i64_w,i32_w]
            rfl
           refine pure_ (i:=6) (N:=some 23) (v:=?_) (a':=?_) #[Y,Y,Y,Y,Y,Y,Y,Z,Z,Z,Z,Z,Z,Z] rfl rfl (any_of HT_.out (by kernel_rfl)) (fun _ _ _ h=>h) (Or.inl ⟨by rfl,?_⟩) ?_ ?_
           rotate_left
           ·intro w'
            go_simp
            with_reducible rfl
           rotate_left
           ·simp only [Act.put,List.setIfInBounds_toArray,List.set_cons_zero,List.set_cons_succ,i64_w,i32_w]
            rfl
           refine pure_ (i:=7) (N:=some 24) (v:=?_) (a':=?_) #[Y,Y,Y,Y,Y,Y,Y,Y,Z,Z,Z,Z,Z,Z] rfl rfl (any_of HT_.out (by kernel_rfl)) (fun _ _ _ h=>h) (Or.inl ⟨by rfl,?_⟩) ?_ ?_
           rotate_left
           ·intro w'
            go_simp
            with_reducible rfl
           rotate_left
           ·simp only [Act.put,List.setIfInBounds_toArray,List.set_cons_zero,List.set_cons_succ,i64_w,i32_w]
            rfl
           refine pure_ (i:=9) (N:=some 26) (v:=?_) (a':=?_) #[Y,Y,Y,Y,Y,Y,Y,Y,Z,Y,Z,Z,Z,Z] rfl rfl (any_of HT_.out (by kernel_rfl)) (fun _ _ _ h=>h) (Or.inl ⟨by rfl,?_⟩) ?_ ?_
           rotate_left
           ·intro w'
            go_simp
            with_reducible rfl
           rotate_left
           ·simp only [Act.put,List.setIfInBounds_toArray,List.set_cons_zero,List.set_cons_succ,i64_w,i32_w]
            rfl
           refine take_ (i:=8) (N:=some 25) (v:=?_) (a':=?_) #[Y,Y,Y,Y,Y,Y,Y,Y,Y,Y,Z,Z,Z,Z] rfl rfl (take_ofW HT_.out HW_.out (by kernel_rfl)) (fun _ _ _ h=>h) (Or.inl ⟨by rfl,?_⟩) hHeld ?_ ?_
           rotate_left
           ·rintro w' ⟨s0,s1,s2,s3,s4,s5,s6,s7,s8,s9,s10,s11⟩
            go_simp
            with_reducible rfl
           rotate_left
           ·simp only [Act.put,List.setIfInBounds_toArray,List.set_cons_zero,List.set_cons_succ,i64_w,i32_w]
            rfl
           refine take_ (i:=10) (N:=some 27) (v:=?_) (a':=?_) #[Y,Y,Y,Y,Y,Y,Y,Y,Y,Y,Y,Z,Z,Z] rfl rfl (take_ofW HT_.out HW_.out (by kernel_rfl)) (fun _ _ _ h=>h) (Or.inl ⟨by rfl,?_⟩) hHeld ?_ ?_
           rotate_left
           ·rintro w' ⟨s0,s1,s2,s3,s4,s5,s6,s7,s8,s9,s10,s11⟩
            go_simp
            with_reducible rfl
           rotate_left
           ·simp only [Act.put,List.setIfInBounds_toArray,List.set_cons_zero,List.set_cons_succ,i64_w,i32_w]
            rfl
           refine one_ (i:=11) (N:=some 28) #[Y,Y,Y,Y,Y,Y,Y,Y,Y,Y,Y,Y,Z,Z] rfl rfl (one_of HT_.out (by kernel_rfl)) (by decide) (fun K hK=>?_)
           refine goes_ Try.func62 (by kernel_rfl) rfl #[.agg #[.string ((rd_T91 l0 (ji10)).f0.f0),.int .i64 ((rd_T91 l0 (ji10)).f0.f1),.int .i64 ((rd_T91 l0 (ji10)).f0.f2),.int .i64 ((rd_T91 l0 (ji10)).f0.f3)],.agg #[.string ((rd_T91 l0 x12_1).f0.f0),.int .i64 ((rd_T91 l0 x12_1).f0.f1),.int .i64 ((rd_T91 l0 x12_1).f0.f2),.int .i64 ((rd_T91 l0 x12_1).f0.f3)]] (by rfl) rfl rfl (by (try simp only [List.map_toArray,List.map_cons,List.map_nil]);first|done|(simp only [hji10];rfl)|rfl|(simp only [List.length_drop,List.length_take];rfl)) ?_
           with_reducible refine (series_Compare.calls ((rd_T91 l0 (ji10)).f0.f0) ((rd_T91 l0 (ji10)).f0.f1) ((rd_T91 l0 (ji10)).f0.f2) ((rd_T91 l0 (ji10)).f0.f3) ((rd_T91 l0 x12_1).f0.f0) ((rd_T91 l0 x12_1).f0.f1) ((rd_T91 l0 x12_1).f0.f2) ((rd_T91 l0 x12_1).f0.f3) t104 _ A13.out).mono ?_
           rintro e w16 ⟨rfl,hb⟩
           refine ⟨_,rfl,?_⟩
           have n0_:=Aside0.mk (blk_below (g:=gb102) (o:=.cells #[.string ((rd_T91 l0 x12_1).f0.f0),.int .i64 ((rd_T91 l0 x12_1).f0.f1),.int .i64 ((rd_T91 l0 x12_1).f0.f2),.int .i64 ((rd_T91 l0 x12_1).f0.f3),.slice A101_4 ((rd_T91 l0 x12_1).f1).length c101_4,.int .i64 ((rd_T91 l0 x12_1).f2)] 91 (0,0)) (by (with_reducible repeat (first|refine blk_drewN ?_ _|refine blk_drew ?_|refine blk_alloc ?_ _));exact BK102.out) hb)
           have n1_:=Aside0.mk (below_step (by repeat (first|(with_reducible first|exact HB.out|apply below_alloc|apply pw_below_drewN|apply below_drew1|refine below_set ?_ GE102.out)|exact HB.out)) hb)
           clear BK102
           clear HB
           have BK102:=n0_
           have HB:=n1_
           clear n0_ n1_
           (try clear hb)
           (try clear hb2)
           (try clear hk)
           (try clear hi)
           refine hK.out _ _ ⟨(blk_cell BK102.out 0).trans rfl,(blk_cell BK102.out 1).trans rfl,(blk_cell BK102.out 2).trans rfl,(blk_cell BK102.out 3).trans rfl,(blk_cell BK102.out 4).trans rfl,(blk_cell BK102.out 5).trans rfl,((HB.out.cell (World.block_lt_of_cell? w _ hw103_0)).trans hw103_0),((HB.out.cell (World.block_lt_of_cell? w _ hw103_1)).trans hw103_1),((HB.out.cell (World.block_lt_of_cell? w _ hw103_2)).trans hw103_2),((HB.out.cell (World.block_lt_of_cell? w _ hw103_3)).trans hw103_3),((HB.out.cell (World.block_lt_of_cell? w _ hw103_4)).trans hw103_4),((HB.out.cell (World.block_lt_of_cell? w _ hw103_5)).trans hw103_5)⟩ (fun hHeld=>?_)
           clear hK K
           refine norm_ (a':=?_) ?_ ?_
           rotate_left
           ·show Act.put _ (some 28) _ = _
            simp only [Act.put,List.setIfInBounds_toArray,List.set_cons_zero,List.set_cons_succ,i64_w,i32_w]
            rfl
           refine pure_ (i:=12) (N:=some 29) (v:=?_) (a':=?_) #[Y,Y,Y,Y,Y,Y,Y,Y,Y,Y,Y,Y,Y,Z] rfl rfl (any_of HT_.out (by kernel_rfl)) (fun _ _ _ h=>h) (Or.inl ⟨by rfl,?_⟩) ?_ ?_
           rotate_left
           ·intro w'
            go_simp
            with_reducible rfl
           rotate_left
           ·simp only [Act.put,List.setIfInBounds_toArray,List.set_cons_zero,List.set_cons_succ,i64_w,i32_w]
            rfl
           refine pure_ (i:=13) (N:=some 30) (v:=?_) (a':=?_) #[Y,Y,Y,Y,Y,Y,Y,Y,Y,Y,Y,Y,Y,Y] rfl rfl (any_of HT_.out (by kernel_rfl)) (fun _ _ _ h=>h) (Or.inl ⟨by rfl,?_⟩) ?_ ?_
           rotate_left
           ·intro w'
            go_simp
            with_reducible rfl
           rotate_left
           ·simp only [Act.put,List.setIfInBounds_toArray,List.set_cons_zero,List.set_cons_succ,i64_w,i32_w]
            rfl
           refine done_ (done_of HT_.out (by kernel_rfl)) ?_
           try go_wp2
           go_meet
           case rel=>exact ⟨_,(decide (t104 ≥ 0)),(by first|rfl|(simp;done)|(simp [*];done)),H',⟨by have:=HK1.out;first|omega|exact Nat.le_refl _⟩,⟨by (with_reducible repeat (first|refine blk_drewN ?_ _|refine blk_drew ?_|refine blk_alloc ?_ _));exact BK102.out⟩,⟨by repeat (first|(with_reducible first|exact HB.out|apply below_alloc|apply pw_below_drewN|apply below_drew1|refine below_set ?_ GE102.out)|exact HB.out)⟩⟩
          ·rw [if_neg c12] at H
           exact absurd H (by simp)
         ·rw [if_neg c11] at H
          exact absurd H (by simp)
        ·rw [if_neg c9] at H
         have c9b0:decide (0 < x12_1) = false:=decide_eq_false c9
         clear c9
         (first|rw [c9b0]|(simp only [i64_w,i32_w];rw [c9b0])|skip)
         have H':=Aside0.mk H
         clear H
         try go_wp2
         have n0_:Aside0 (((((((w7.setCell ⟨gb102,0,none⟩ (.string ((rd_T91 l0 x12_1).f0.f0))).setCell ⟨gb102,1,none⟩ (.int .i64 ((rd_T91 l0 x12_1).f0.f1))).setCell ⟨gb102,2,none⟩ (.int .i64 ((rd_T91 l0 x12_1).f0.f2))).setCell ⟨gb102,3,none⟩ (.int .i64 ((rd_T91 l0 x12_1).f0.f3))).setCell ⟨gb102,4,none⟩ (.slice A101_4 ((rd_T91 l0 x12_1).f1).length c101_4)).setCell ⟨gb102,5,none⟩ (.int .i64 ((rd_T91 l0 x12_1).f2))).heap[gb102]? = some (.cells #[.string ((rd_T91 l0 x12_1).f0.f0),.int .i64 ((rd_T91 l0 x12_1).f0.f1),.int .i64 ((rd_T91 l0 x12_1).f0.f2),.int .i64 ((rd_T91 l0 x12_1).f0.f3),.slice A101_4 ((rd_T91 l0 x12_1).f1).length c101_4,.int .i64 ((rd_T91 l0 x12_1).f2)] 91 (0,0))):=⟨by (with_reducible repeat (first|refine blk_drewN ?_ _|refine blk_drew ?_|refine blk_alloc ?_ _));refine blk_put (cs:=#[.string ((rd_T91 l0 x12_1).f0.f0),.int .i64 ((rd_T91 l0 x12_1).f0.f1),.int .i64 ((rd_T91 l0 x12_1).f0.f2),.int .i64 ((rd_T91 l0 x12_1).f0.f3),.slice A101_4 ((rd_T91 l0 x12_1).f1).length c101_4,.int .i64 0]) ?_ 5 _ rfl;(with_reducible repeat (first|refine blk_drewN ?_ _|refine blk_drew ?_|refine blk_alloc ?_ _));refine blk_put (cs:=#[.string ((rd_T91 l0 x12_1).f0.f0),.int .i64 ((rd_T91 l0 x12_1).f0.f1),.int .i64 ((rd_T91 l0 x12_1).f0.f2),.int .i64 ((rd_T91 l0 x12_1).f0.f3),.slice none 0 0,.int .i64 0]) ?_ 4 _ rfl;(with_reducible repeat (first|refine blk_drewN ?_ _|refine blk_drew ?_|refine blk_alloc ?_ _));refine blk_put (cs:=#[.string ((rd_T91 l0 x12_1).f0.f0),.int .i64 ((rd_T91 l0 x12_1).f0.f1),.int .i64 ((rd_T91 l0 x12_1).f0.f2),.int .i64 0,.slice none 0 0,.int .i64 0]) ?_ 3 _ rfl;(with_reducible repeat (first|refine blk_drewN ?_ _|refine blk_drew ?_|refine blk_alloc ?_ _));refine blk_put (cs:=#[.string ((rd_T91 l0 x12_1).f0.f0),.int .i64 ((rd_T91 l0 x12_1).f0.f1),.int .i64 0,.int .i64 0,.slice none 0 0,.int .i64 0]) ?_ 2 _ rfl;(with_reducible repeat (first|refine blk_drewN ?_ _|refine blk_drew ?_|refine blk_alloc ?_ _));refine blk_put (cs:=#[.string ((rd_T91 l0 x12_1).f0.f0),.int .i64 0,.int .i64 0,.int .i64 0,.slice none 0 0,.int .i64 0]) ?_ 1 _ rfl;(with_reducible repeat (first|refine blk_drewN ?_ _|refine blk_drew ?_|refine blk_alloc ?_ _));refine blk_put (cs:=#[.string (⟨#[]⟩:ByteArray),.int .i64 0,.int .i64 0,.int .i64 0,.slice none 0 0,.int .i64 0]) ?_ 0 _ rfl;(with_reducible repeat (first|refine blk_drewN ?_ _|refine blk_drew ?_|refine blk_alloc ?_ _));exact BK102.out⟩
         have n1_:Aside0 (Below w.heap.size w ((((((w7.setCell ⟨gb102,0,none⟩ (.string ((rd_T91 l0 x12_1).f0.f0))).setCell ⟨gb102,1,none⟩ (.int .i64 ((rd_T91 l0 x12_1).f0.f1))).setCell ⟨gb102,2,none⟩ (.int .i64 ((rd_T91 l0 x12_1).f0.f2))).setCell ⟨gb102,3,none⟩ (.int .i64 ((rd_T91 l0 x12_1).f0.f3))).setCell ⟨gb102,4,none⟩ (.slice A101_4 ((rd_T91 l0 x12_1).f1).length c101_4)).setCell ⟨gb102,5,none⟩ (.int .i64 ((rd_T91 l0 x12_1).f2)))):=⟨by repeat (first|(with_reducible first|exact HB.out|apply below_alloc|apply pw_below_drewN|apply below_drew1|refine below_set ?_ GE102.out)|exact HB.out)⟩
         (try clear BK102)
         (try clear HB)
         generalize ((((((w7.setCell ⟨gb102,0,none⟩ (.string ((rd_T91 l0 x12_1).f0.f0))).setCell ⟨gb102,1,none⟩ (.int .i64 ((rd_T91 l0 x12_1).f0.f1))).setCell ⟨gb102,2,none⟩ (.int .i64 ((rd_T91 l0 x12_1).f0.f2))).setCell ⟨gb102,3,none⟩ (.int .i64 ((rd_T91 l0 x12_1).f0.f3))).setCell ⟨gb102,4,none⟩ (.slice A101_4 ((rd_T91 l0 x12_1).f1).length c101_4)).setCell ⟨gb102,5,none⟩ (.int .i64 ((rd_T91 l0 x12_1).f2))) = w17 at n0_ n1_ ⊢
         have BK102:=n0_
         have HB:=n1_
         clear n0_ n1_
         have n0_:=Aside0.mk (blk_drew BK102.out)
         have n1_:=Aside0.mk (below_drew1 HB.out)
         clear BK102
         clear HB
         have BK102:=n0_
         have HB:=n1_
         clear n0_ n1_
         refine start_ (n:=14) (S:=fun w'=>True) (ds:=[]) #[Z,Z,Z,Z,Z,Z,Z,Z,Z,Z,Z,Z,Z,Z] (by kernel_rfl) rfl rfl trivial (fun hHeld=>?_);refine with_tabW scan_Check.tab6 scan_Check.bits6 (fun HT_ HW_=>?_)
         generalize w17.drew = w18 at BK102 HB hHeld ⊢
         refine pure_ (i:=0) (N:=some 17) (v:=?_) (a':=?_) #[Y,Z,Z,Z,Z,Z,Z,Z,Z,Z,Z,Z,Z,Z] rfl rfl (any_of HT_.out (by kernel_rfl)) (fun _ _ _ h=>h) (Or.inl ⟨by rfl,?_⟩) ?_ ?_
         rotate_left
         ·intro w'
          go_simp
          with_reducible rfl
         rotate_left
         ·simp only [Act.put,List.setIfInBounds_toArray,List.set_cons_zero,List.set_cons_succ,i64_w,i32_w]
          rfl
         refine pure_ (i:=1) (N:=some 18) (v:=?_) (a':=?_) #[Y,Y,Z,Z,Z,Z,Z,Z,Z,Z,Z,Z,Z,Z] rfl rfl (any_of HT_.out (by kernel_rfl)) (fun _ _ _ h=>h) (Or.inl ⟨by rfl,?_⟩) ?_ ?_
         rotate_left
         ·intro w'
          go_simp
          with_reducible rfl
         rotate_left
         ·simp only [Act.put,List.setIfInBounds_toArray,List.set_cons_zero,List.set_cons_succ,i64_w,i32_w]
          rfl
         refine pure_ (i:=2) (N:=some 19) (v:=?_) (a':=?_) #[Y,Y,Y,Z,Z,Z,Z,Z,Z,Z,Z,Z,Z,Z] rfl rfl (any_of HT_.out (by kernel_rfl)) (fun _ _ _ h=>h) (Or.inl ⟨by rfl,?_⟩) ?_ ?_
         rotate_left
         ·intro w'
          go_simp
          with_reducible rfl
         rotate_left
         ·simp only [Act.put,List.setIfInBounds_toArray,List.set_cons_zero,List.set_cons_succ,i64_w,i32_w]
          rfl
         refine pure_ (i:=3) (N:=some 20) (v:=undef) (a':=?_) #[Y,Y,Y,Y,Z,Z,Z,Z,Z,Z,Z,Z,Z,Z] rfl rfl (any_of HT_.out (by kernel_rfl)) (fun _ _ _ h=>h) (Or.inr ⟨by rfl,rfl⟩) ?_ ?_
         rotate_left
         ·simp only [Act.put,List.setIfInBounds_toArray,List.set_cons_zero,List.set_cons_succ,i64_w,i32_w]
          rfl
         refine pure_ (i:=4) (N:=some 21) (v:=undef) (a':=?_) #[Y,Y,Y,Y,Y,Z,Z,Z,Z,Z,Z,Z,Z,Z] rfl rfl (any_of HT_.out (by kernel_rfl)) (fun _ _ _ h=>h) (Or.inr ⟨by rfl,rfl⟩) ?_ ?_
         rotate_left
         ·simp only [Act.put,List.setIfInBounds_toArray,List.set_cons_zero,List.set_cons_succ,i64_w,i32_w]
          rfl
         refine pure_ (i:=5) (N:=some 22) (v:=undef) (a':=?_) #[Y,Y,Y,Y,Y,Y,Z,Z,Z,Z,Z,Z,Z,Z] rfl rfl (any_of HT_.out (by kernel_rfl)) (fun _ _ _ h=>h) (Or.inr ⟨by rfl,rfl⟩) ?_ ?_
         rotate_left
         ·simp only [Act.put,List.setIfInBounds_toArray,List.set_cons_zero,List.set_cons_succ,i64_w,i32_w]
          rfl
         refine pure_ (i:=6) (N:=some 23) (v:=undef) (a':=?_) #[Y,Y,Y,Y,Y,Y,Y,Z,Z,Z,Z,Z,Z,Z] rfl rfl (any_of HT_.out (by kernel_rfl)) (fun _ _ _ h=>h) (Or.inr ⟨by rfl,rfl⟩) ?_ ?_
         rotate_left
         ·simp only [Act.put,List.setIfInBounds_toArray,List.set_cons_zero,List.set_cons_succ,i64_w,i32_w]
          rfl
         refine pure_ (i:=7) (N:=some 24) (v:=undef) (a':=?_) #[Y,Y,Y,Y,Y,Y,Y,Y,Z,Z,Z,Z,Z,Z] rfl rfl (any_of HT_.out (by kernel_rfl)) (fun _ _ _ h=>h) (Or.inr ⟨by rfl,rfl⟩) ?_ ?_
         rotate_left
         ·simp only [Act.put,List.setIfInBounds_toArray,List.set_cons_zero,List.set_cons_succ,i64_w,i32_w]
          rfl
         refine pure_ (i:=8) (N:=some 25) (v:=undef) (a':=?_) #[Y,Y,Y,Y,Y,Y,Y,Y,Y,Z,Z,Z,Z,Z] rfl rfl (any_of HT_.out (by kernel_rfl)) (fun _ _ _ h=>h) (Or.inr ⟨by rfl,rfl⟩) ?_ ?_
         rotate_left
         ·simp only [Act.put,List.setIfInBounds_toArray,List.set_cons_zero,List.set_cons_succ,i64_w,i32_w]
          rfl
         refine pure_ (i:=9) (N:=some 26) (v:=undef) (a':=?_) #[Y,Y,Y,Y,Y,Y,Y,Y,Y,Y,Z,Z,Z,Z] rfl rfl (any_of HT_.out (by kernel_rfl)) (fun _ _ _ h=>h) (Or.inr ⟨by rfl,rfl⟩) ?_ ?_
         rotate_left
         ·simp only [Act.put,List.setIfInBounds_toArray,List.set_cons_zero,List.set_cons_succ,i64_w,i32_w]
          rfl
         refine pure_ (i:=10) (N:=some 27) (v:=undef) (a':=?_) #[Y,Y,Y,Y,Y,Y,Y,Y,Y,Y,Y,Z,Z,Z] rfl rfl (any_of HT_.out (by kernel_rfl)) (fun _ _ _ h=>h) (Or.inr ⟨by rfl,rfl⟩) ?_ ?_
         rotate_left
         ·simp only [Act.put,List.setIfInBounds_toArray,List.set_cons_zero,List.set_cons_succ,i64_w,i32_w]
          rfl
         refine pure_ (i:=11) (N:=some 28) (v:=undef) (a':=?_) #[Y,Y,Y,Y,Y,Y,Y,Y,Y,Y,Y,Y,Z,Z] rfl rfl (any_of HT_.out (by kernel_rfl)) (fun _ _ _ h=>h) (Or.inr ⟨by rfl,rfl⟩) ?_ ?_
         rotate_left
         ·simp only [Act.put,List.setIfInBounds_toArray,List.set_cons_zero,List.set_cons_succ,i64_w,i32_w]
          rfl
         refine pure_ (i:=12) (N:=some 29) (v:=undef) (a':=?_) #[Y,Y,Y,Y,Y,Y,Y,Y,Y,Y,Y,Y,Y,Z] rfl rfl (any_of HT_.out (by kernel_rfl)) (fun _ _ _ h=>h) (Or.inr ⟨by rfl,rfl⟩) ?_ ?_
         rotate_left
         ·simp only [Act.put,List.setIfInBounds_toArray,List.set_cons_zero,List.set_cons_succ,i64_w,i32_w]
          rfl
         refine pure_ (i:=13) (N:=some 30) (v:=?_) (a':=?_) #[Y,Y,Y,Y,Y,Y,Y,Y,Y,Y,Y,Y,Y,Y] rfl rfl (any_of HT_.out (by kernel_rfl)) (fun _ _ _ h=>h) (Or.inl ⟨by rfl,?_⟩) ?_ ?_
         rotate_left
         ·intro w'
          go_simp
          with_reducible rfl
         rotate_left
         ·simp only [Act.put,List.setIfInBounds_toArray,List.set_cons_zero,List.set_cons_succ,i64_w,i32_w]
          rfl
         refine done_ (done_of HT_.out (by kernel_rfl)) ?_
         try go_wp2
         go_meet
         case rel=>exact ⟨_,(false),(by first|rfl|(simp;done)|(simp [*];done)),H',⟨by have:=HK1.out;first|omega|exact Nat.le_refl _⟩,⟨by (with_reducible repeat (first|refine blk_drewN ?_ _|refine blk_drew ?_|refine blk_alloc ?_ _));exact BK102.out⟩,⟨by repeat (first|(with_reducible first|exact HB.out|apply below_alloc|apply pw_below_drewN|apply below_drew1|refine below_set ?_ GE102.out)|exact HB.out)⟩⟩
       case rest =>
        clear HC6
        try clear c1
        try clear p1
        try clear q1
        try clear hx1
        try clear c2
        try clear c2b0
        try clear c2b1
        try clear p2
        try clear c3
        try clear c3b0
        try clear c4
        try clear c4b0
        try clear c5
        try clear c5b0
        try clear c6
        try clear p6
        try clear c9
        try clear c9b0
        try clear c10
        try clear p10
        try clear q10
        try clear hx10
        try clear c11
        try clear c11b0
        try clear c12
        try clear c12b0
        try clear hcz8_0
        try clear hcz8_1
        try clear hcz8_2
        try clear hcz8_3
        try clear hcz8_4
        try clear hcz8_5
        try clear hfz8_0
        try clear hfz8_1
        try clear hfz8_2
        try clear hfz8_3
        try clear hfz8_4
        try clear hfz8_5
        try clear hx101_0
        try clear hx101_1
        try clear hx101_2
        try clear hx101_3
        try clear hx101_4
        try clear hx101_5
        try clear hx103_0
        try clear hx103_1
        try clear hx103_2
        try clear hx103_3
        try clear hx103_4
        try clear hx103_5
        try clear p101
        try clear p103
        try clear p2
        try clear q101
        try clear q103
        obtain ⟨kq,x30_5,rfl,HA,HJ5,BK102,HB⟩:=hcut
        cases kq with
        | zero=>exact absurd HA.out (by simp [scan_Check.j1])
        | succ kj5 =>
         have H:=HA.out
         clear HA
         simp only [scan_Check.j1] at H
         by_cases c19:x30_5 = true
         ·subst c19
          have H1:(some 19) = some r:=by rw [if_pos rfl] at H;exact H
          clear H
          have H:=H1
          clear H1
          obtain rfl:=Option.some.inj H
          go_wp2
          go_ret
          exact ⟨by first|rfl|(simp [errW_none,errW_some] <;> rfl)|(simp [*,errW_none,errW_some] <;> rfl),by repeat (first|(with_reducible first|exact HB.out|apply below_alloc|apply pw_below_drewN|apply below_drew1|refine below_set ?_ GE102.out)|exact HB.out)⟩
         ·replace c19:=Bool.eq_false_iff.mpr c19
          subst c19
          have H1:(if (((rd_T91 l0 x12_1).f1).length:Int) < 1 then (scan_Check.j2 kj5 l0 l0 (l0.length:Int) x12_1 true ((rd_T91 l0 x12_1).f0.f0) ((rd_T91 l0 x12_1).f0.f1) ((rd_T91 l0 x12_1).f0.f2) ((rd_T91 l0 x12_1).f0.f3) ((rd_T91 l0 x12_1).f1) ((rd_T91 l0 x12_1).f2)) else (if (((rd_T91 l0 x12_1).f1).length:Int) > 32 then (scan_Check.j2 kj5 l0 l0 (l0.length:Int) x12_1 true ((rd_T91 l0 x12_1).f0.f0) ((rd_T91 l0 x12_1).f0.f1) ((rd_T91 l0 x12_1).f0.f2) ((rd_T91 l0 x12_1).f0.f3) ((rd_T91 l0 x12_1).f1) ((rd_T91 l0 x12_1).f2)) else (if 0 < (l0.length:Int) then (scan_Check.j2 kj5 l0 l0 (l0.length:Int) x12_1 ((((rd_T91 l0 x12_1).f1).length:Int) != (((rd_T91 l0 0).f1).length:Int)) ((rd_T91 l0 x12_1).f0.f0) ((rd_T91 l0 x12_1).f0.f1) ((rd_T91 l0 x12_1).f0.f2) ((rd_T91 l0 x12_1).f0.f3) ((rd_T91 l0 x12_1).f1) ((rd_T91 l0 x12_1).f2)) else (none)))) = some r:=by rw [if_neg (show ¬ (false = true) by decide)] at H;exact H
          clear H
          have H:=H1
          clear H1
          have HC20:=Aside0.mk H
          clear H
          go_upto_region 8 with (fail)
          go_cut [51] (fun v51 wc=>∃ (kq:Nat) (x51_19:Bool),v51 = .bool x51_19 ∧ Aside0 (scan_Check.j2 kq l0 l0 (l0.length:Int) x12_1 x51_19 ((rd_T91 l0 x12_1).f0.f0) ((rd_T91 l0 x12_1).f0.f1) ((rd_T91 l0 x12_1).f0.f2) ((rd_T91 l0 x12_1).f0.f3) ((rd_T91 l0 x12_1).f1) ((rd_T91 l0 x12_1).f2) = some r) ∧ Aside0 (kq ≤ kj5) ∧ Aside0 (wc.heap[gb102]? = some (.cells #[.string ((rd_T91 l0 x12_1).f0.f0),.int .i64 ((rd_T91 l0 x12_1).f0.f1),.int .i64 ((rd_T91 l0 x12_1).f0.f2),.int .i64 ((rd_T91 l0 x12_1).f0.f3),(.slice A101_4 ((rd_T91 l0 x12_1).f1).length c101_4),.int .i64 ((rd_T91 l0 x12_1).f2)] 91 (0,0))) ∧ Aside0 (Below w.heap.size w wc))
          case first =>
           have H:=HC20.out
           clear HC20
           by_cases c21:(((rd_T91 l0 x12_1).f1).length:Int) < 1
           ·rw [if_pos c21] at H
            have c21b0:decide ((((rd_T91 l0 x12_1).f1).length:Int) < 1) = true:=decide_eq_true c21
            have c21b1:decide (((rd_T91 l0 x12_1).f1).length < 1) = true:=decide_eq_true (by omega)
            clear c21
            (first|rw [c21b0]|(simp only [i64_w,i32_w];rw [c21b0])|skip)
            have H':=Aside0.mk H
            clear H
            try go_wp2
            have n0_:=Aside0.mk (blk_drew BK102.out)
            have n1_:=Aside0.mk (below_drew1 HB.out)
            clear BK102
            clear HB
            have BK102:=n0_
            have HB:=n1_
            clear n0_ n1_
            refine start_ (n:=21) (S:=fun w'=>w'.cell? ⟨gb102,0,none⟩ = some (.string ((rd_T91 l0 x12_1).f0.f0)) ∧ w'.cell? ⟨gb102,1,none⟩ = some (.int .i64 ((rd_T91 l0 x12_1).f0.f1)) ∧ w'.cell? ⟨gb102,2,none⟩ = some (.int .i64 ((rd_T91 l0 x12_1).f0.f2)) ∧ w'.cell? ⟨gb102,3,none⟩ = some (.int .i64 ((rd_T91 l0 x12_1).f0.f3)) ∧ w'.cell? ⟨gb102,4,none⟩ = some (.slice A101_4 ((rd_T91 l0 x12_1).f1).length c101_4) ∧ w'.cell? ⟨gb102,5,none⟩ = some (.int .i64 ((rd_T91 l0 x12_1).f2))) (ds:=[]) #[Z,Z,Z,Z,Z,Z,Z,Z,Z,Z,Z,Z,Z,Z,Z,Z,Z,Z,Z,Z,Z] (by kernel_rfl) rfl rfl ⟨(blk_cell BK102.out 0).trans rfl,(blk_cell BK102.out 1).trans rfl,(blk_cell BK102.out 2).trans rfl,(blk_cell BK102.out 3).trans rfl,(blk_cell BK102.out 4).trans rfl,(blk_cell BK102.out 5).trans rfl⟩ (fun hHeld=>?_);refine with_tabW scan_Check.tab8 scan_Check.bits8 (fun HT_ HW_=>?_)
            generalize wc.drew = w22 at BK102 HB hHeld ⊢
            refine pure_ (i:=0) (N:=some 31) (v:=?_) (a':=?_) #[Y,Z,Z,Z,Z,Z,Z,Z,Z,Z,Z,Z,Z,Z,Z,Z,Z,Z,Z,Z,Z] rfl rfl (any_of HT_.out (by kernel_rfl)) (fun _ _ _ h=>h) (Or.inl ⟨by rfl,?_⟩) ?_ ?_
            rotate_left
            ·intro w'
             go_simp
             with_reducible rfl
            rotate_left
            ·simp only [Act.put,List.setIfInBounds_toArray,List.set_cons_zero,List.set_cons_succ,i64_w,i32_w]
             rfl
            refine take_ (i:=1) (N:=some 32) (v:=?_) (a':=?_) #[Y,Y,Z,Z,Z,Z,Z,Z,Z,Z,Z,Z,Z,Z,Z,Z,Z,Z,Z,Z,Z] rfl rfl (take_ofW HT_.out HW_.out (by kernel_rfl)) (fun _ _ _ h=>h) (Or.inl ⟨by rfl,?_⟩) hHeld ?_ ?_
            rotate_left
            ·rintro w' ⟨s0,s1,s2,s3,s4,s5⟩
             go_simp
             with_reducible rfl
            rotate_left
            ·simp only [Act.put,List.setIfInBounds_toArray,List.set_cons_zero,List.set_cons_succ,i64_w,i32_w]
             rfl
            refine pure_ (i:=2) (N:=some 33) (v:=?_) (a':=?_) #[Y,Y,Y,Z,Z,Z,Z,Z,Z,Z,Z,Z,Z,Z,Z,Z,Z,Z,Z,Z,Z] rfl rfl (any_of HT_.out (by kernel_rfl)) (fun _ _ _ h=>h) (Or.inl ⟨by rfl,?_⟩) ?_ ?_
            rotate_left
            ·intro w'
             go_simp
             with_reducible rfl
            rotate_left
            ·simp only [Act.put,List.setIfInBounds_toArray,List.set_cons_zero,List.set_cons_succ,i64_w,i32_w]
             rfl
            refine pure_ (i:=3) (N:=some 34) (v:=?_) (a':=?_) #[Y,Y,Y,Y,Z,Z,Z,Z,Z,Z,Z,Z,Z,Z,Z,Z,Z,Z,Z,Z,Z] rfl rfl (any_of HT_.out (by kernel_rfl)) (fun _ _ _ h=>h) (Or.inl ⟨by rfl,?_⟩) ?_ ?_
            rotate_left
            ·intro w'
             go_simp
             with_reducible rfl
            rotate_left
            ·simp only [Act.put,List.setIfInBounds_toArray,List.set_cons_zero,List.set_cons_succ,i64_w,i32_w]
             rfl
            refine pure_ (i:=4) (N:=some 35) (v:=?_) (a':=?_) #[Y,Y,Y,Y,Y,Z,Z,Z,Z,Z,Z,Z,Z,Z,Z,Z,Z,Z,Z,Z,Z] rfl rfl (any_of HT_.out (by kernel_rfl)) (fun _ _ _ h=>h) (Or.inl ⟨by rfl,?_⟩) ?_ ?_
            rotate_left
            ·intro w'
             go_simp
             with_reducible rfl
            rotate_left
            ·simp only [Act.put,List.setIfInBounds_toArray,List.set_cons_zero,List.set_cons_succ,i64_w,i32_w]
             rfl
            refine pure_ (i:=5) (N:=some 36) (v:=undef) (a':=?_) #[Y,Y,Y,Y,Y,Y,Z,Z,Z,Z,Z,Z,Z,Z,Z,Z,Z,Z,Z,Z,Z] rfl rfl (any_of HT_.out (by kernel_rfl)) (fun _ _ _ h=>h) (Or.inr ⟨by rfl,rfl⟩) ?_ ?_
            rotate_left
            ·simp only [Act.put,List.setIfInBounds_toArray,List.set_cons_zero,List.set_cons_succ,i64_w,i32_w]
             rfl
            refine pure_ (i:=6) (N:=some 37) (v:=undef) (a':=?_) #[Y,Y,Y,Y,Y,Y,Y,Z,Z,Z,Z,Z,Z,Z,Z,Z,Z,Z,Z,Z,Z] rfl rfl (any_of HT_.out (by kernel_rfl)) (fun _ _ _ h=>h) (Or.inr ⟨by rfl,rfl⟩) ?_ ?_
            rotate_left
            ·simp only [Act.put,List.setIfInBounds_toArray,List.set_cons_zero,List.set_cons_succ,i64_w,i32_w]
             rfl
            refine pure_ (i:=7) (N:=some 38) (v:=undef) (a':=?_) #[Y,Y,Y,Y,Y,Y,Y,Y,Z,Z,Z,Z,Z,Z,Z,Z,Z,Z,Z,Z,Z] rfl rfl (any_of HT_.out (by kernel_rfl)) (fun _ _ _ h=>h) (Or.inr ⟨by rfl,rfl⟩) ?_ ?_
            rotate_left
            ·simp only [Act.put,List.setIfInBounds_toArray,List.set_cons_zero,List.set_cons_succ,i64_w,i32_w]
             rfl
            refine pure_ (i:=8) (N:=some 39) (v:=undef) (a':=?_) #[Y,Y,Y,Y,Y,Y,Y,Y,Y,Z,Z,Z,Z,Z,Z,Z,Z,Z,Z,Z,Z] rfl rfl (any_of HT_.out (by kernel_rfl)) (fun _ _ _ h=>h) (Or.inr ⟨by rfl,rfl⟩) ?_ ?_
            rotate_left
            ·simp only [Act.put,List.setIfInBounds_toArray,List.set_cons_zero,List.set_cons_succ,i64_w,i32_w]
             rfl
            refine pure_ (i:=9) (N:=some 40) (v:=?_) (a':=?_) #[Y,Y,Y,Y,Y,Y,Y,Y,Y,Y,Z,Z,Z,Z,Z,Z,Z,Z,Z,Z,Z] rfl rfl (any_of HT_.out (by kernel_rfl)) (fun _ _ _ h=>h) (Or.inl ⟨by rfl,?_⟩) ?_ ?_
            rotate_left
            ·intro w'
             go_simp
             with_reducible rfl
            rotate_left
            ·simp only [Act.put,List.setIfInBounds_toArray,List.set_cons_zero,List.set_cons_succ,i64_w,i32_w]
             rfl
            refine pure_ (i:=10) (N:=some 41) (v:=?_) (a':=?_) #[Y,Y,Y,Y,Y,Y,Y,Y,Y,Y,Y,Z,Z,Z,Z,Z,Z,Z,Z,Z,Z] rfl rfl (any_of HT_.out (by kernel_rfl)) (fun _ _ _ h=>h) (Or.inl ⟨by rfl,?_⟩) ?_ ?_
            rotate_left
            ·intro w'
             go_simp
             with_reducible rfl
            rotate_left
            ·simp only [Act.put,List.setIfInBounds_toArray,List.set_cons_zero,List.set_cons_succ,i64_w,i32_w]
             rfl
            refine pure_ (i:=11) (N:=some 42) (v:=undef) (a':=?_) #[Y,Y,Y,Y,Y,Y,Y,Y,Y,Y,Y,Y,Z,Z,Z,Z,Z,Z,Z,Z,Z] rfl rfl (any_of HT_.out (by kernel_rfl)) (fun _ _ _ h=>h) (Or.inr ⟨by rfl,rfl⟩) ?_ ?_
            rotate_left
            ·simp only [Act.put,List.setIfInBounds_toArray,List.set_cons_zero,List.set_cons_succ,i64_w,i32_w]
             rfl
            refine pure_ (i:=12) (N:=some 43) (v:=undef) (a':=?_) #[Y,Y,Y,Y,Y,Y,Y,Y,Y,Y,Y,Y,Y,Z,Z,Z,Z,Z,Z,Z,Z] rfl rfl (any_of HT_.out (by kernel_rfl)) (fun _ _ _ h=>h) (Or.inr ⟨by rfl,rfl⟩) ?_ ?_
            rotate_left
            ·simp only [Act.put,List.setIfInBounds_toArray,List.set_cons_zero,List.set_cons_succ,i64_w,i32_w]
             rfl
            refine pure_ (i:=13) (N:=some 44) (v:=undef) (a':=?_) #[Y,Y,Y,Y,Y,Y,Y,Y,Y,Y,Y,Y,Y,Y,Z,Z,Z,Z,Z,Z,Z] rfl rfl (any_of HT_.out (by kernel_rfl)) (fun _ _ _ h=>h) (Or.inr ⟨by rfl,rfl⟩) ?_ ?_
            rotate_left
            ·simp only [Act.put,List.setIfInBounds_toArray,List.set_cons_zero,List.set_cons_succ,i64_w,i32_w]
             rfl
            refine pure_ (i:=14) (N:=some 45) (v:=undef) (a':=?_) #[Y,Y,Y,Y,Y,Y,Y,Y,Y,Y,Y,Y,Y,Y,Y,Z,Z,Z,Z,Z,Z] rfl rfl (any_of HT_.out (by kernel_rfl)) (fun _ _ _ h=>h) (Or.inr ⟨by rfl,rfl⟩) ?_ ?_
            rotate_left
            ·simp only [Act.put,List.setIfInBounds_toArray,List.set_cons_zero,List.set_cons_succ,i64_w,i32_w]
             rfl
            refine pure_ (i:=15) (N:=some 46) (v:=undef) (a':=?_) #[Y,Y,Y,Y,Y,Y,Y,Y,Y,Y,Y,Y,Y,Y,Y,Y,Z,Z,Z,Z,Z] rfl rfl (any_of HT_.out (by kernel_rfl)) (fun _ _ _ h=>h) (Or.inr ⟨by rfl,rfl⟩) ?_ ?_
            rotate_left
            ·simp only [Act.put,List.setIfInBounds_toArray,List.set_cons_zero,List.set_cons_succ,i64_w,i32_w]
             rfl
            refine pure_ (i:=16) (N:=some 47) (v:=undef) (a':=?_) #[Y,Y,Y,Y,Y,Y,Y,Y,Y,Y,Y,Y,Y,Y,Y,Y,Y,Z,Z,Z,Z] rfl rfl (any_of HT_.out (by kernel_rfl)) (fun _ _ _ h=>h) (Or.inr ⟨by rfl,rfl⟩) ?_ ?_
            rotate_left
            ·simp only [Act.put,List.setIfInBounds_toArray,List.set_cons_zero,List.set_cons_succ,i64_w,i32_w]
             rfl
            refine pure_ (i:=17) (N:=some 48) (v:=undef) (a':=?_) #[Y,Y,Y,Y,Y,Y,Y,Y,Y,Y,Y,Y,Y,Y,Y,Y,Y,Y,Z,Z,Z] rfl rfl (any_of HT_.out (by kernel_rfl)) (fun _ _ _ h=>h) (Or.inr ⟨by rfl,rfl⟩) ?_ ?_
            rotate_left
            ·simp only [Act.put,List.setIfInBounds_toArray,List.set_cons_zero,List.set_cons_succ,i64_w,i32_w]
             rfl
            refine pure_ (i:=18) (N:=some 49) (v:=undef) (a':=?_) #[Y,Y,Y,Y,Y,Y,Y,Y,Y,Y,Y,Y,Y,Y,Y,Y,Y,Y,Y,Z,Z] rfl rfl (any_of HT_.out (by kernel_rfl)) (fun _ _ _ h=>h) (Or.inr ⟨by rfl,rfl⟩) ?_ ?_
            rotate_left
            ·simp only [Act.put,List.setIfInBounds_toArray,List.set_cons_zero,List.set_cons_succ,i64_w,i32_w]
             rfl
            refine pure_ (i:=19) (N:=some 50) (v:=undef) (a':=?_) #[Y,Y,Y,Y,Y,Y,Y,Y,Y,Y,Y,Y,Y,Y,Y,Y,Y,Y,Y,Y,Z] rfl rfl (any_of HT_.out (by kernel_rfl)) (fun _ _ _ h=>h) (Or.inr ⟨by rfl,rfl⟩) ?_ ?_
            rotate_left
            ·simp only [Act.put,List.setIfInBounds_toArray,List.set_cons_zero,List.set_cons_succ,i64_w,i32_w]
             rfl
            refine pure_ (i:=20) (N:=some 51) (v:=?_) (a':=?_) #[Y,Y,Y,Y,Y,Y,Y,Y,Y,Y,Y,Y,Y,Y,Y,Y,Y,Y,Y,Y,Y] rfl rfl (any_of HT_.out (by kernel_rfl)) (fun _ _ _ h=>h) (Or.inl ⟨by rfl,?_⟩) ?_ ?_
            rotate_left
            ·intro w'
             go_simp
             with_reducible rfl
            rotate_left
            ·simp only [Act.put,List.setIfInBounds_toArray,List.set_cons_zero,List.set_cons_succ,i64_w,i32_w]
             rfl
            refine done_ (done_of HT_.out (by kernel_rfl)) ?_
            try go_wp2
            go_meet
            case rel=>exact ⟨_,(true),(by first|rfl|(simp;done)|(simp [*];done)),H',⟨by have:=HK1.out;have:=HJ5.out;first|omega|exact Nat.le_refl _⟩,⟨by (with_reducible repeat (first|refine blk_drewN ?_ _|refine blk_drew ?_|refine blk_alloc ?_ _));exact BK102.out⟩,⟨by repeat (first|(with_reducible first|exact HB.out|apply below_alloc|apply pw_below_drewN|apply below_drew1|refine below_set ?_ GE102.out)|exact HB.out)⟩⟩
           ·rw [if_neg c21] at H
            have c21b0:decide ((((rd_T91 l0 x12_1).f1).length:Int) < 1) = false:=decide_eq_false c21
            have c21b1:decide (((rd_T91 l0 x12_1).f1).length < 1) = false:=decide_eq_false (by omega)
            clear c21
            (first|rw [c21b0]|(simp only [i64_w,i32_w];rw [c21b0])|skip)
            by_cases c23:(((rd_T91 l0 x12_1).f1).length:Int) > 32
            ·rw [if_pos c23] at H
             have c23b0:decide (32 < (((rd_T91 l0 x12_1).f1).length:Int)) = true:=decide_eq_true c23
             have c23b1:decide (32 < ((rd_T91 l0 x12_1).f1).length) = true:=decide_eq_true (by omega)
             clear c23
             have H':=Aside0.mk H
             clear H
             try go_wp2
             have n0_:=Aside0.mk (blk_drew BK102.out)
             have n1_:=Aside0.mk (below_drew1 HB.out)
             clear BK102
             clear HB
             have BK102:=n0_
             have HB:=n1_
             clear n0_ n1_
             refine start_ (n:=21) (S:=fun w'=>w'.cell? ⟨gb102,0,none⟩ = some (.string ((rd_T91 l0 x12_1).f0.f0)) ∧ w'.cell? ⟨gb102,1,none⟩ = some (.int .i64 ((rd_T91 l0 x12_1).f0.f1)) ∧ w'.cell? ⟨gb102,2,none⟩ = some (.int .i64 ((rd_T91 l0 x12_1).f0.f2)) ∧ w'.cell? ⟨gb102,3,none⟩ = some (.int .i64 ((rd_T91 l0 x12_1).f0.f3)) ∧ w'.cell? ⟨gb102,4,none⟩ = some (.slice A101_4 ((rd_T91 l0 x12_1).f1).length c101_4) ∧ w'.cell? ⟨gb102,5,none⟩ = some (.int .i64 ((rd_T91 l0 x12_1).f2))) (ds:=[]) #[Z,Z,Z,Z,Z,Z,Z,Z,Z,Z,Z,Z,Z,Z,Z,Z,Z,Z,Z,Z,Z] (by kernel_rfl) rfl rfl ⟨(blk_cell BK102.out 0).trans rfl,(blk_cell BK102.out 1).trans rfl,(blk_cell BK102.out 2).trans rfl,(blk_cell BK102.out 3).trans rfl,(blk_cell BK102.out 4).trans rfl,(blk_cell BK102.out 5).trans rfl⟩ (fun hHeld=>?_);refine with_tabW scan_Check.tab8 scan_Check.bits8 (fun HT_ HW_=>?_)
             generalize wc.drew = w24 at BK102 HB hHeld ⊢
             refine pure_ (i:=0) (N:=some 31) (v:=?_) (a':=?_) #[Y,Z,Z,Z,Z,Z,Z,Z,Z,Z,Z,Z,Z,Z,Z,Z,Z,Z,Z,Z,Z] rfl rfl (any_of HT_.out (by kernel_rfl)) (fun _ _ _ h=>h) (Or.inl ⟨by rfl,?_⟩) ?_ ?_
             rotate_left
             ·intro w'
              go_simp
              with_reducible rfl
             rotate_left
             ·simp only [Act.put,List.setIfInBounds_toArray,List.set_cons_zero,List.set_cons_succ,i64_w,i32_w]
              rfl
             refine take_ (i:=1) (N:=some 32) (v:=?_) (a':=?_) #[Y,Y,Z,Z,Z,Z,Z,Z,Z,Z,Z,Z,Z,Z,Z,Z,Z,Z,Z,Z,Z] rfl rfl (take_ofW HT_.out HW_.out (by kernel_rfl)) (fun _ _ _ h=>h) (Or.inl ⟨by rfl,?_⟩) hHeld ?_ ?_
             rotate_left
             ·rintro w' ⟨s0,s1,s2,s3,s4,s5⟩
              go_simp
              with_reducible rfl
             rotate_left
             ·simp only [Act.put,List.setIfInBounds_toArray,List.set_cons_zero,List.set_cons_succ,i64_w,i32_w]
              rfl
             refine pure_ (i:=2) (N:=some 33) (v:=?_) (a':=?_) #[Y,Y,Y,Z,Z,Z,Z,Z,Z,Z,Z,Z,Z,Z,Z,Z,Z,Z,Z,Z,Z] rfl rfl (any_of HT_.out (by kernel_rfl)) (fun _ _ _ h=>h) (Or.inl ⟨by rfl,?_⟩) ?_ ?_
             rotate_left
             ·intro w'
              go_simp
              with_reducible rfl
             rotate_left
             ·simp only [Act.put,List.setIfInBounds_toArray,List.set_cons_zero,List.set_cons_succ,i64_w,i32_w]
              rfl
             refine pure_ (i:=3) (N:=some 34) (v:=?_) (a':=?_) #[Y,Y,Y,Y,Z,Z,Z,Z,Z,Z,Z,Z,Z,Z,Z,Z,Z,Z,Z,Z,Z] rfl rfl (any_of HT_.out (by kernel_rfl)) (fun _ _ _ h=>h) (Or.inl ⟨by rfl,?_⟩) ?_ ?_
             rotate_left
             ·intro w'
              go_simp
              with_reducible rfl
             rotate_left
             ·simp only [Act.put,List.setIfInBounds_toArray,List.set_cons_zero,List.set_cons_succ,i64_w,i32_w]
              rfl
             refine pure_ (i:=4) (N:=some 35) (v:=?_) (a':=?_) #[Y,Y,Y,Y,Y,Z,Z,Z,Z,Z,Z,Z,Z,Z,Z,Z,Z,Z,Z,Z,Z] rfl rfl (any_of HT_.out (by kernel_rfl)) (fun _ _ _ h=>h) (Or.inl ⟨by rfl,?_⟩) ?_ ?_
             rotate_left
             ·intro w'
              go_simp
              with_reducible rfl
             rotate_left
             ·simp only [Act.put,List.setIfInBounds_toArray,List.set_cons_zero,List.set_cons_succ,i64_w,i32_w]
              rfl
             refine pure_ (i:=5) (N:=some 36) (v:=?_) (a':=?_) #[Y,Y,Y,Y,Y,Y,Z,Z,Z,Z,Z,Z,Z,Z,Z,Z,Z,Z,Z,Z,Z] rfl rfl (any_of HT_.out (by kernel_rfl)) (fun _ _ _ h=>h) (Or.inl ⟨by rfl,?_⟩) ?_ ?_
             rotate_left
             ·intro w'
              go_simp
              with_reducible rfl
             rotate_left
             ·simp only [Act.put,List.setIfInBounds_toArray,List.set_cons_zero,List.set_cons_succ,i64_w,i32_w]
              rfl
             refine take_ (i:=6) (N:=some 37) (v:=?_) (a':=?_) #[Y,Y,Y,Y,Y,Y,Y,Z,Z,Z,Z,Z,Z,Z,Z,Z,Z,Z,Z,Z,Z] rfl rfl (take_ofW HT_.out HW_.out (by kernel_rfl)) (fun _ _ _ h=>h) (Or.inl ⟨by rfl,?_⟩) hHeld ?_ ?_
             rotate_left
             ·rintro w' ⟨s0,s1,s2,s3,s4,s5⟩
              go_simp
              with_reducible rfl
             rotate_left
             ·simp only [Act.put,List.setIfInBounds_toArray,List.set_cons_zero,List.set_cons_succ,i64_w,i32_w]
              rfl
             refine pure_ (i:=7) (N:=some 38) (v:=?_) (a':=?_) #[Y,Y,Y,Y,Y,Y,Y,Y,Z,Z,Z,Z,Z,Z,Z,Z,Z,Z,Z,Z,Z] rfl rfl (any_of HT_.out (by kernel_rfl)) (fun _ _ _ h=>h) (Or.inl ⟨by rfl,?_⟩) ?_ ?_
             rotate_left
             ·intro w'
              go_simp
              with_reducible rfl
             rotate_left
             ·simp only [Act.put,List.setIfInBounds_toArray,List.set_cons_zero,List.set_cons_succ,i64_w,i32_w]
              rfl
             refine pure_ (i:=8) (N:=some 39) (v:=?_) (a':=?_) #[Y,Y,Y,Y,Y,Y,Y,Y,Y,Z,Z,Z,Z,Z,Z,Z,Z,Z,Z,Z,Z] rfl rfl (any_of HT_.out (by kernel_rfl)) (fun _ _ _ h=>h) (Or.inl ⟨by rfl,?_⟩) ?_ ?_
             rotate_left
             ·intro w'
              go_simp
              with_reducible rfl
             rotate_left
             ·simp only [Act.put,List.setIfInBounds_toArray,List.set_cons_zero,List.set_cons_succ,i64_w,i32_w]
              rfl
             refine pure_ (i:=9) (N:=some 40) (v:=?_) (a':=?_) #[Y,Y,Y,Y,Y,Y,Y,Y,Y,Y,Z,Z,Z,Z,Z,Z,Z,Z,Z,Z,Z] rfl rfl (any_of HT_.out (by kernel_rfl)) (fun _ _ _ h=>h) (Or.inl ⟨by rfl,?_⟩) ?_ ?_
             rotate_left
             ·intro w'
              go_simp
              with_reducible rfl
             rotate_left
             ·simp only [Act.put,List.setIfInBounds_toArray,List.set_cons_zero,List.set_cons_succ,i64_w,i32_w]
              rfl
             refine pure_ (i:=10) (N:=some 41) (v:=?_) (a':=?_) #[Y,Y,Y,Y,Y,Y,Y,Y,Y,Y,Y,Z,Z,Z,Z,Z,Z,Z,Z,Z,Z] rfl rfl (any_of HT_.out (by kernel_rfl)) (fun _ _ _ h=>h) (Or.inl ⟨by rfl,?_⟩) ?_ ?_
             rotate_left
             ·intro w'
              go_simp
              with_reducible rfl
             rotate_left
             ·simp only [Act.put,List.setIfInBounds_toArray,List.set_cons_zero,List.set_cons_succ,i64_w,i32_w]
              rfl
             refine pure_ (i:=11) (N:=some 42) (v:=undef) (a':=?_) #[Y,Y,Y,Y,Y,Y,Y,Y,Y,Y,Y,Y,Z,Z,Z,Z,Z,Z,Z,Z,Z] rfl rfl (any_of HT_.out (by kernel_rfl)) (fun _ _ _ h=>h) (Or.inr ⟨by rfl,rfl⟩) ?_ ?_
             rotate_left
             ·simp only [Act.put,List.setIfInBounds_toArray,List.set_cons_zero,List.set_cons_succ,i64_w,i32_w]
              rfl
             refine pure_ (i:=12) (N:=some 43) (v:=undef) (a':=?_) #[Y,Y,Y,Y,Y,Y,Y,Y,Y,Y,Y,Y,Y,Z,Z,Z,Z,Z,Z,Z,Z] rfl rfl (any_of HT_.out (by kernel_rfl)) (fun _ _ _ h=>h) (Or.inr ⟨by rfl,rfl⟩) ?_ ?_
             rotate_left
             ·simp only [Act.put,List.setIfInBounds_toArray,List.set_cons_zero,List.set_cons_succ,i64_w,i32_w]
              rfl
             refine pure_ (i:=13) (N:=some 44) (v:=undef) (a':=?_) #[Y,Y,Y,Y,Y,Y,Y,Y,Y,Y,Y,Y,Y,Y,Z,Z,Z,Z,Z,Z,Z] rfl rfl (any_of HT_.out (by kernel_rfl)) (fun _ _ _ h=>h) (Or.inr ⟨by rfl,rfl⟩) ?_ ?_
             rotate_left
             ·simp only [Act.put,List.setIfInBounds_toArray,List.set_cons_zero,List.set_cons_succ,i64_w,i32_w]
              rfl
             refine pure_ (i:=14) (N:=some 45) (v:=undef) (a':=?_) #[Y,Y,Y,Y,Y,Y,Y,Y,Y,Y,Y,Y,Y,Y,Y,Z,Z,Z,Z,Z,Z] rfl rfl (any_of HT_.out (by kernel_rfl)) (fun _ _ _ h=>h) (Or.inr ⟨by rfl,rfl⟩) ?_ ?_
             rotate_left
             ·simp only [Act.put,List.setIfInBounds_toArray,List.set_cons_zero,List.set_cons_succ,i64_w,i32_w]
              rfl
             refine pure_ (i:=15) (N:=some 46) (v:=undef) (a':=?_) #[Y,Y,Y,Y,Y,Y,Y,Y,Y,Y,Y,Y,Y,Y,Y,Y,Z,Z,Z,Z,Z] rfl rfl (any_of HT_.out (by kernel_rfl)) (fun _ _ _ h=>h) (Or.inr ⟨by rfl,rfl⟩) ?_ ?_
             rotate_left
             ·simp only [Act.put,List.setIfInBounds_toArray,List.set_cons_zero,List.set_cons_succ,i64_w,i32_w]
              rfl
             refine pure_ (i:=16) (N:=some 47) (v:=undef) (a':=?_) #[Y,Y,Y,Y,Y,Y,Y,Y,Y,Y,Y,Y,Y,Y,Y,Y,Y,Z,Z,Z,Z] rfl rfl (any_of HT_.out (by kernel_rfl)) (fun _ _ _ h=>h) (Or.inr ⟨by rfl,rfl⟩) ?_ ?_
             rotate_left
             ·simp only [Act.put,List.setIfInBounds_toArray,List.set_cons_zero,List.set_cons_succ,i64_w,i32_w]
              rfl
             refine pure_ (i:=17) (N:=some 48) (v:=undef) (a':=?_) #[Y,Y,Y,Y,Y,Y,Y,Y,Y,Y,Y,Y,Y,Y,Y,Y,Y,Y,Z,Z,Z] rfl rfl (any_of HT_.out (by kernel_rfl)) (fun _ _ _ h=>h) (Or.inr ⟨by rfl,rfl⟩) ?_ ?_
             rotate_left
             ·simp only [Act.put,List.setIfInBounds_toArray,List.set_cons_zero,List.set_cons_succ,i64_w,i32_w]
              rfl
             refine pure_ (i:=18) (N:=some 49) (v:=undef) (a':=?_) #[Y,Y,Y,Y,Y,Y,Y,Y,Y,Y,Y,Y,Y,Y,Y,Y,Y,Y,Y,Z,Z] rfl rfl (any_of HT_.out (by kernel_rfl)) (fun _ _ _ h=>h) (Or.inr ⟨by rfl,rfl⟩) ?_ ?_
             rotate_left
             ·simp only [Act.put,List.setIfInBounds_toArray,List.set_cons_zero,List.set_cons_succ,i64_w,i32_w]
              rfl
             refine pure_ (i:=19) (N:=some 50) (v:=undef) (a':=?_) #[Y,Y,Y,Y,Y,Y,Y,Y,Y,Y,Y,Y,Y,Y,Y,Y,Y,Y,Y,Y,Z] rfl rfl (any_of HT_.out (by kernel_rfl)) (fun _ _ _ h=>h) (Or.inr ⟨by rfl,rfl⟩) ?_ ?_
             rotate_left
             ·simp only [Act.put,List.setIfInBounds_toArray,List.set_cons_zero,List.set_cons_succ,i64_w,i32_w]
              rfl
             refine pure_ (i:=20) (N:=some 51) (v:=?_) (a':=?_) #[Y,Y,Y,Y,Y,Y,Y,Y,Y,Y,Y,Y,Y,Y,Y,Y,Y,Y,Y,Y,Y] rfl rfl (any_of HT_.out (by kernel_rfl)) (fun _ _ _ h=>h) (Or.inl ⟨by rfl,?_⟩) ?_ ?_
             rotate_left
             ·intro w'
              go_simp
              with_reducible rfl
             rotate_left
             ·simp only [Act.put,List.setIfInBounds_toArray,List.set_cons_zero,List.set_cons_succ,i64_w,i32_w]
              rfl
             refine done_ (done_of HT_.out (by kernel_rfl)) ?_
             try go_wp2
             go_meet
             case rel=>exact ⟨_,(true),(by first|rfl|(simp;done)|(simp [*];done)),H',⟨by have:=HK1.out;have:=HJ5.out;first|omega|exact Nat.le_refl _⟩,⟨by (with_reducible repeat (first|refine blk_drewN ?_ _|refine blk_drew ?_|refine blk_alloc ?_ _));exact BK102.out⟩,⟨by repeat (first|(with_reducible first|exact HB.out|apply below_alloc|apply pw_below_drewN|apply below_drew1|refine below_set ?_ GE102.out)|exact HB.out)⟩⟩
            ·rw [if_neg c23] at H
             have c23b0:decide (32 < (((rd_T91 l0 x12_1).f1).length:Int)) = false:=decide_eq_false c23
             have c23b1:decide (32 < ((rd_T91 l0 x12_1).f1).length) = false:=decide_eq_false (by omega)
             clear c23
             by_cases c25:0 < (l0.length:Int)
             ·rw [if_pos c25] at H
              have c25b0:decide (0 < (l0.length:Int)) = true:=decide_eq_true c25
              have c25b1:decide (0 < l0.length) = true:=decide_eq_true (by omega)
              clear c25
              have H':=Aside0.mk H
              clear H
              try go_wp2
              have n0_:=Aside0.mk (blk_drew BK102.out)
              have n1_:=Aside0.mk (below_drew1 HB.out)
              clear BK102
              clear HB
              have BK102:=n0_
              have HB:=n1_
              clear n0_ n1_
              have p105:0 ≤ (0:Int):=(by omega)
              have q105:0 < (l0.length:Int):=of_decide_eq_true (by first|(with_reducible assumption)|assumption)
              obtain ⟨ad105,A105_4,c105_4,e105,hx105_0,hx105_1,hx105_2,hx105_3,hx105_4,hx105_5,hl105_4,hi105_4⟩:=at_T91 HR0.out 0 p105 q105
              have hw105_5:=hx105_5
              (try rw [show ((0:Int)).toNat = 0 from rfl] at hw105_5)
              (try rw [show 0 * 6 = 0 from rfl] at hw105_5)
              (try rw [Addr.add_zero'] at hw105_5)
              have hw105_4:=hx105_4
              (try rw [show ((0:Int)).toNat = 0 from rfl] at hw105_4)
              (try rw [show 0 * 6 = 0 from rfl] at hw105_4)
              (try rw [Addr.add_zero'] at hw105_4)
              have hw105_3:=hx105_3
              (try rw [show ((0:Int)).toNat = 0 from rfl] at hw105_3)
              (try rw [show 0 * 6 = 0 from rfl] at hw105_3)
              (try rw [Addr.add_zero'] at hw105_3)
              have hw105_2:=hx105_2
              (try rw [show ((0:Int)).toNat = 0 from rfl] at hw105_2)
              (try rw [show 0 * 6 = 0 from rfl] at hw105_2)
              (try rw [Addr.add_zero'] at hw105_2)
              have hw105_1:=hx105_1
              (try rw [show ((0:Int)).toNat = 0 from rfl] at hw105_1)
              (try rw [show 0 * 6 = 0 from rfl] at hw105_1)
              (try rw [Addr.add_zero'] at hw105_1)
              have hw105_0:=hx105_0
              (try rw [show ((0:Int)).toNat = 0 from rfl] at hw105_0)
              (try rw [show 0 * 6 = 0 from rfl] at hw105_0)
              (try rw [Addr.add_zero'] at hw105_0)
              obtain rfl:ad101 = ad105:=(by injection e105)
              have qi105:(0 < l0.length) = True:=eq_true (by omega)
              (try rw [show ((0:Int)).toNat = 0 from rfl] at hx105_0)
              (try rw [show 0 * 6 = 0 from rfl] at hx105_0)
              (try rw [Addr.add_zero'] at hx105_0)
              (try rw [show ((0:Int)).toNat = 0 from rfl] at hx105_1)
              (try rw [show 0 * 6 = 0 from rfl] at hx105_1)
              (try rw [Addr.add_zero'] at hx105_1)
              (try rw [show ((0:Int)).toNat = 0 from rfl] at hx105_2)
              (try rw [show 0 * 6 = 0 from rfl] at hx105_2)
              (try rw [Addr.add_zero'] at hx105_2)
              (try rw [show ((0:Int)).toNat = 0 from rfl] at hx105_3)
              (try rw [show 0 * 6 = 0 from rfl] at hx105_3)
              (try rw [Addr.add_zero'] at hx105_3)
              (try rw [show ((0:Int)).toNat = 0 from rfl] at hx105_4)
              (try rw [show 0 * 6 = 0 from rfl] at hx105_4)
              (try rw [Addr.add_zero'] at hx105_4)
              (try rw [show ((0:Int)).toNat = 0 from rfl] at hx105_5)
              (try rw [show 0 * 6 = 0 from rfl] at hx105_5)
              (try rw [Addr.add_zero'] at hx105_5)
              replace hx105_0:=(HB.out.cell (World.block_lt_of_cell? w _ hx105_0)).trans hx105_0
              replace hx105_1:=(HB.out.cell (World.block_lt_of_cell? w _ hx105_1)).trans hx105_1
              replace hx105_2:=(HB.out.cell (World.block_lt_of_cell? w _ hx105_2)).trans hx105_2
              replace hx105_3:=(HB.out.cell (World.block_lt_of_cell? w _ hx105_3)).trans hx105_3
              replace hx105_4:=(HB.out.cell (World.block_lt_of_cell? w _ hx105_4)).trans hx105_4
              replace hx105_5:=(HB.out.cell (World.block_lt_of_cell? w _ hx105_5)).trans hx105_5
              have HR105_4:=Aside0.mk hi105_4
              have HC105_4:=Aside0.mk hl105_4
              clear hi105_4 hl105_4
              replace p105:=eq_true p105
              replace q105:=eq_true q105
              refine start_ (n:=21) (S:=fun w'=>w'.cell? ⟨gb102,0,none⟩ = some (.string ((rd_T91 l0 x12_1).f0.f0)) ∧ w'.cell? ⟨gb102,1,none⟩ = some (.int .i64 ((rd_T91 l0 x12_1).f0.f1)) ∧ w'.cell? ⟨gb102,2,none⟩ = some (.int .i64 ((rd_T91 l0 x12_1).f0.f2)) ∧ w'.cell? ⟨gb102,3,none⟩ = some (.int .i64 ((rd_T91 l0 x12_1).f0.f3)) ∧ w'.cell? ⟨gb102,4,none⟩ = some (.slice A101_4 ((rd_T91 l0 x12_1).f1).length c101_4) ∧ w'.cell? ⟨gb102,5,none⟩ = some (.int .i64 ((rd_T91 l0 x12_1).f2)) ∧ w'.cell? ad101 = some (.string ((rd_T91 l0 0).f0.f0)) ∧ w'.cell? ⟨ad101.block,ad101.off + 1,none⟩ = some (.int .i64 ((rd_T91 l0 0).f0.f1)) ∧ w'.cell? ⟨ad101.block,ad101.off + 2,none⟩ = some (.int .i64 ((rd_T91 l0 0).f0.f2)) ∧ w'.cell? ⟨ad101.block,ad101.off + 3,none⟩ = some (.int .i64 ((rd_T91 l0 0).f0.f3)) ∧ w'.cell? ⟨ad101.block,ad101.off + 4,none⟩ = some (.slice A105_4 ((rd_T91 l0 0).f1).length c105_4) ∧ w'.cell? ⟨ad101.block,ad101.off + 5,none⟩ = some (.int .i64 ((rd_T91 l0 0).f2))) (ds:=[]) #[Z,Z,Z,Z,Z,Z,Z,Z,Z,Z,Z,Z,Z,Z,Z,Z,Z,Z,Z,Z,Z] (by kernel_rfl) rfl rfl ⟨(blk_cell BK102.out 0).trans rfl,(blk_cell BK102.out 1).trans rfl,(blk_cell BK102.out 2).trans rfl,(blk_cell BK102.out 3).trans rfl,(blk_cell BK102.out 4).trans rfl,(blk_cell BK102.out 5).trans rfl,((HB.out.cell (World.block_lt_of_cell? w _ hw105_0)).trans hw105_0),((HB.out.cell (World.block_lt_of_cell? w _ hw105_1)).trans hw105_1),((HB.out.cell (World.block_lt_of_cell? w _ hw105_2)).trans hw105_2),((HB.out.cell (World.block_lt_of_cell? w _ hw105_3)).trans hw105_3),((HB.out.cell (World.block_lt_of_cell? w _ hw105_4)).trans hw105_4),((HB.out.cell (World.block_lt_of_cell? w _ hw105_5)).trans hw105_5)⟩ (fun hHeld=>?_);refine with_tabW scan_Check.tab8 scan_Check.bits8 (fun HT_ HW_=>?_)
              generalize wc.drew = w26 at BK102 HB HR105_4 hx105_0 hx105_1 hx105_2 hx105_3 hx105_4 hx105_5 hHeld ⊢
              refine pure_ (i:=0) (N:=some 31) (v:=?_) (a':=?_) #[Y,Z,Z,Z,Z,Z,Z,Z,Z,Z,Z,Z,Z,Z,Z,Z,Z,Z,Z,Z,Z] rfl rfl (any_of HT_.out (by kernel_rfl)) (fun _ _ _ h=>h) (Or.inl ⟨by rfl,?_⟩) ?_ ?_
              rotate_left
              ·intro w'
               go_simp
               with_reducible rfl
              rotate_left
              ·simp only [Act.put,List.setIfInBounds_toArray,List.set_cons_zero,List.set_cons_succ,i64_w,i32_w]
               rfl
              refine take_ (i:=1) (N:=some 32) (v:=?_) (a':=?_) #[Y,Y,Z,Z,Z,Z,Z,Z,Z,Z,Z,Z,Z,Z,Z,Z,Z,Z,Z,Z,Z] rfl rfl (take_ofW HT_.out HW_.out (by kernel_rfl)) (fun _ _ _ h=>h) (Or.inl ⟨by rfl,?_⟩) hHeld ?_ ?_
              rotate_left
              ·rintro w' ⟨s0,s1,s2,s3,s4,s5,s6,s7,s8,s9,s10,s11⟩
               go_simp
               with_reducible rfl
              rotate_left
              ·simp only [Act.put,List.setIfInBounds_toArray,List.set_cons_zero,List.set_cons_succ,i64_w,i32_w]
               rfl
              refine pure_ (i:=2) (N:=some 33) (v:=?_) (a':=?_) #[Y,Y,Y,Z,Z,Z,Z,Z,Z,Z,Z,Z,Z,Z,Z,Z,Z,Z,Z,Z,Z] rfl rfl (any_of HT_.out (by kernel_rfl)) (fun _ _ _ h=>h) (Or.inl ⟨by rfl,?_⟩) ?_ ?_
              rotate_left
              ·intro w'
               go_simp
               with_reducible rfl
              rotate_left
              ·simp only [Act.put,List.setIfInBounds_toArray,List.set_cons_zero,List.set_cons_succ,i64_w,i32_w]
               rfl
              refine pure_ (i:=3) (N:=some 34) (v:=?_) (a':=?_) #[Y,Y,Y,Y,Z,Z,Z,Z,Z,Z,Z,Z,Z,Z,Z,Z,Z,Z,Z,Z,Z] rfl rfl (any_of HT_.out (by kernel_rfl)) (fun _ _ _ h=>h) (Or.inl ⟨by rfl,?_⟩) ?_ ?_
              rotate_left
              ·intro w'
               go_simp
               with_reducible rfl
              rotate_left
              ·simp only [Act.put,List.setIfInBounds_toArray,List.set_cons_zero,List.set_cons_succ,i64_w,i32_w]
               rfl
              refine pure_ (i:=4) (N:=some 35) (v:=?_) (a':=?_) #[Y,Y,Y,Y,Y,Z,Z,Z,Z,Z,Z,Z,Z,Z,Z,Z,Z,Z,Z,Z,Z] rfl rfl (any_of HT_.out (by kernel_rfl)) (fun _ _ _ h=>h) (Or.inl ⟨by rfl,?_⟩) ?_ ?_
              rotate_left
              ·intro w'
               go_simp
               with_reducible rfl
              rotate_left
              ·simp only [Act.put,List.setIfInBounds_toArray,List.set_cons_zero,List.set_cons_succ,i64_w,i32_w]
               rfl
              refine pure_ (i:=5) (N:=some 36) (v:=?_) (a':=?_) #[Y,Y,Y,Y,Y,Y,Z,Z,Z,Z,Z,Z,Z,Z,Z,Z,Z,Z,Z,Z,Z] rfl rfl (any_of HT_.out (by kernel_rfl)) (fun _ _ _ h=>h) (Or.inl ⟨by rfl,?_⟩) ?_ ?_
              rotate_left
              ·intro w'
               go_simp
               with_reducible rfl
              rotate_left
              ·simp only [Act.put,List.setIfInBounds_toArray,List.set_cons_zero,List.set_cons_succ,i64_w,i32_w]
               rfl
              refine take_ (i:=6) (N:=some 37) (v:=?_) (a':=?_) #[Y,Y,Y,Y,Y,Y,Y,Z,Z,Z,Z,Z,Z,Z,Z,Z,Z,Z,Z,Z,Z] rfl rfl (take_ofW HT_.out HW_.out (by kernel_rfl)) (fun _ _ _ h=>h) (Or.inl ⟨by rfl,?_⟩) hHeld ?_ ?_
              rotate_left
              ·rintro w' ⟨s0,s1,s2,s3,s4,s5,s6,s7,s8,s9,s10,s11⟩
               go_simp
               with_reducible rfl
              rotate_left
              ·simp only [Act.put,List.setIfInBounds_toArray,List.set_cons_zero,List.set_cons_succ,i64_w,i32_w]
               rfl
              refine pure_ (i:=7) (N:=some 38) (v:=?_) (a':=?_) #[Y,Y,Y,Y,Y,Y,Y,Y,Z,Z,Z,Z,Z,Z,Z,Z,Z,Z,Z,Z,Z] rfl rfl (any_of HT_.out (by kernel_rfl)) (fun _ _ _ h=>h) (Or.inl ⟨by rfl,?_⟩) ?_ ?_
              rotate_left
              ·intro w'
               go_simp
               with_reducible rfl
              rotate_left
              ·simp only [Act.put,List.setIfInBounds_toArray,List.set_cons_zero,List.set_cons_succ,i64_w,i32_w]
               rfl
              refine pure_ (i:=8) (N:=some 39) (v:=?_) (a':=?_) #[Y,Y,Y,Y,Y,Y,Y,Y,Y,Z,Z,Z,Z,Z,Z,Z,Z,Z,Z,Z,Z] rfl rfl (any_of HT_.out (by kernel_rfl)) (fun _ _ _ h=>h) (Or.inl ⟨by rfl,?_⟩) ?_ ?_
              rotate_left
              ·intro w'
               go_simp
               with_reducible rfl
              rotate_left
              ·simp only [Act.put,List.setIfInBounds_toArray,List.set_cons_zero,List.set_cons_succ,i64_w,i32_w]
               rfl
              refine pure_ (i:=9) (N:=some 40) (v:=?_) (a':=?_) #[Y,Y,Y,Y,Y,Y,Y,Y,Y,Y,Z,Z,Z,Z,Z,Z,Z,Z,Z,Z,Z] rfl rfl (any_of HT_.out (by kernel_rfl)) (fun _ _ _ h=>h) (Or.inl ⟨by rfl,?_⟩) ?_ ?_
              rotate_left
              ·intro w'
               go_simp
               with_reducible rfl
              rotate_left
              ·simp only [Act.put,List.setIfInBounds_toArray,List.set_cons_zero,List.set_cons_succ,i64_w,i32_w]
               rfl
              refine pure_ (i:=10) (N:=some 41) (v:=?_) (a':=?_) #[Y,Y,Y,Y,Y,Y,Y,Y,Y,Y,Y,Z,Z,Z,Z,Z,Z,Z,Z,Z,Z] rfl rfl (any_of HT_.out (by kernel_rfl)) (fun _ _ _ h=>h) (Or.inl ⟨by rfl,?_⟩) ?_ ?_
              rotate_left
              ·intro w'
               go_simp
               with_reducible rfl
              rotate_left
              ·simp only [Act.put,List.setIfInBounds_toArray,List.set_cons_zero,List.set_cons_succ,i64_w,i32_w]
               rfl
              refine pure_ (i:=11) (N:=some 42) (v:=?_) (a':=?_) #[Y,Y,Y,Y,Y,Y,Y,Y,Y,Y,Y,Y,Z,Z,Z,Z,Z,Z,Z,Z,Z] rfl rfl (any_of HT_.out (by kernel_rfl)) (fun _ _ _ h=>h) (Or.inl ⟨by rfl,?_⟩) ?_ ?_
              rotate_left
              ·intro w'
               go_simp
               with_reducible rfl
              rotate_left
              ·simp only [Act.put,List.setIfInBounds_toArray,List.set_cons_zero,List.set_cons_succ,i64_w,i32_w]
               rfl
              refine pure_ (i:=14) (N:=some 45) (v:=?_) (a':=?_) #[Y,Y,Y,Y,Y,Y,Y,Y,Y,Y,Y,Y,Z,Z,Y,Z,Z,Z,Z,Z,Z] rfl rfl (any_of HT_.out (by kernel_rfl)) (fun _ _ _ h=>h) (Or.inl ⟨by rfl,?_⟩) ?_ ?_
              rotate_left
              ·intro w'
               go_simp
               with_reducible rfl
              rotate_left
              ·simp only [Act.put,List.setIfInBounds_toArray,List.set_cons_zero,List.set_cons_succ,i64_w,i32_w]
               rfl
              refine pure_ (i:=15) (N:=some 46) (v:=?_) (a':=?_) #[Y,Y,Y,Y,Y,Y,Y,Y,Y,Y,Y,Y,Z,Z,Y,Y,Z,Z,Z,Z,Z] rfl rfl (any_of HT_.out (by kernel_rfl)) (fun _ _ _ h=>h) (Or.inl ⟨by rfl,?_⟩) ?_ ?_
              rotate_left
              ·intro w'
               go_simp
               with_reducible rfl
              rotate_left
              ·simp only [Act.put,List.setIfInBounds_toArray,List.set_cons_zero,List.set_cons_succ,i64_w,i32_w]
               rfl
              refine pure_ (i:=16) (N:=some 47) (v:=?_) (a':=?_) #[Y,Y,Y,Y,Y,Y,Y,Y,Y,Y,Y,Y,Z,Z,Y,Y,Y,Z,Z,Z,Z] rfl rfl (any_of HT_.out (by kernel_rfl)) (fun _ _ _ h=>h) (Or.inl ⟨by rfl,?_⟩) ?_ ?_
              rotate_left
              ·intro w'
               go_simp
               with_reducible rfl
              rotate_left
              ·simp only [Act.put,List.setIfInBounds_toArray,List.set_cons_zero,List.set_cons_succ,i64_w,i32_w]
               rfl
              refine take_ (i:=12) (N:=some 43) (v:=?_) (a':=?_) #[Y,Y,Y,Y,Y,Y,Y,Y,Y,Y,Y,Y,Y,Z,Y,Y,Y,Z,Z,Z,Z] rfl rfl (take_ofW HT_.out HW_.out (by kernel_rfl)) (fun _ _ _ h=>h) (Or.inl ⟨by rfl,?_⟩) hHeld ?_ ?_
              rotate_left
              ·rintro w' ⟨s0,s1,s2,s3,s4,s5,s6,s7,s8,s9,s10,s11⟩
               go_simp
               with_reducible rfl
              rotate_left
              ·simp only [Act.put,List.setIfInBounds_toArray,List.set_cons_zero,List.set_cons_succ,i64_w,i32_w]
               rfl
              refine pure_ (i:=13) (N:=some 44) (v:=?_) (a':=?_) #[Y,Y,Y,Y,Y,Y,Y,Y,Y,Y,Y,Y,Y,Y,Y,Y,Y,Z,Z,Z,Z] rfl rfl (any_of HT_.out (by kernel_rfl)) (fun _ _ _ h=>h) (Or.inl ⟨by rfl,?_⟩) ?_ ?_
              rotate_left
              ·intro w'
               go_simp
               with_reducible rfl
              rotate_left
              ·simp only [Act.put,List.setIfInBounds_toArray,List.set_cons_zero,List.set_cons_succ,i64_w,i32_w]
               rfl
              refine take_ (i:=17) (N:=some 48) (v:=?_) (a':=?_) #[Y,Y,Y,Y,Y,Y,Y,Y,Y,Y,Y,Y,Y,Y,Y,Y,Y,Y,Z,Z,Z] rfl rfl (take_ofW HT_.out HW_.out (by kernel_rfl)) (fun _ _ _ h=>h) (Or.inl ⟨by rfl,?_⟩) hHeld ?_ ?_
              rotate_left
              ·rintro w' ⟨s0,s1,s2,s3,s4,s5,s6,s7,s8,s9,s10,s11⟩
               go_simp
               with_reducible rfl
              rotate_left
              ·simp only [Act.put,List.setIfInBounds_toArray,List.set_cons_zero,List.set_cons_succ,i64_w,i32_w]
               rfl
              refine pure_ (i:=18) (N:=some 49) (v:=?_) (a':=?_) #[Y,Y,Y,Y,Y,Y,Y,Y,Y,Y,Y,Y,Y,Y,Y,Y,Y,Y,Y,Z,Z] rfl rfl (any_of HT_.out (by kernel_rfl)) (fun _ _ _ h=>h) (Or.inl ⟨by rfl,?_⟩) ?_ ?_
              rotate_left
              ·intro w'
               go_simp
               with_reducible rfl
              rotate_left
              ·simp only [Act.put,List.setIfInBounds_toArray,List.set_cons_zero,List.set_cons_succ,i64_w,i32_w]
               rfl
              refine pure_ (i:=19) (N:=some 50) (v:=?_) (a':=?_) #[Y,Y,Y,Y,Y,Y,Y,Y,Y,Y,Y,Y,Y,Y,Y,Y,Y,Y,Y,Y,Z] rfl rfl (any_of HT_.out (by kernel_rfl)) (fun _ _ _ h=>h) (Or.inl ⟨by rfl,?_⟩) ?_ ?_
              rotate_left
              ·intro w'
               go_simp
               with_reducible rfl
              rotate_left
              ·simp only [Act.put,List.setIfInBounds_toArray,List.set_cons_zero,List.set_cons_succ,i64_w,i32_w]
               rfl
              refine pure_ (i:=20) (N:=some 51) (v:=?_) (a':=?_) #[Y,Y,Y,Y,Y,Y,Y,Y,Y,Y,Y,Y,Y,Y,Y,Y,Y,Y,Y,Y,Y] rfl rfl (any_of HT_.out (by kernel_rfl)) (fun _ _ _ h=>h) (Or.inl ⟨by rfl,?_⟩) ?_ ?_
              rotate_left
              ·intro w'
               go_simp
               with_reducible rfl
              rotate_left
              ·simp only [Act.put,List.setIfInBounds_toArray,List.set_cons_zero,List.set_cons_succ,i64_w,i32_w]
               rfl
              refine done_ (done_of HT_.out (by kernel_rfl)) ?_
              try go_wp2
              go_meet
              case rel=>exact ⟨_,(((((rd_T91 l0 x12_1).f1).length:Int) != (((rd_T91 l0 0).f1).length:Int))),(by first|rfl|(simp;done)|(simp [*];done)),H',⟨by have:=HK1.out;have:=HJ5.out;first|omega|exact Nat.le_refl _⟩,⟨by (with_reducible repeat (first|refine blk_drewN ?_ _|refine blk_drew ?_|refine blk_alloc ?_ _));exact BK102.out⟩,⟨by repeat (first|(with_reducible first|exact HB.out|apply below_alloc|apply pw_below_drewN|apply below_drew1|refine below_set ?_ GE102.out)|exact HB.out)⟩⟩
             ·rw [if_neg c25] at H
              exact absurd H (by simp)
          case rest =>
           clear HC20
           try clear c1
           try clear p1
           try clear q1
           try clear hx1
           try clear qi1
           try clear c2
           try clear p2
           try clear c10
           try clear p10
           try clear q10
           try clear hx10
           try clear qi10
           try clear c19
           try clear c21
           try clear c21b0
           try clear c21b1
           try clear c23
           try clear c23b0
           try clear c23b1
           try clear c25
           try clear c25b0
           try clear c25b1
           try clear hfz8_4
           try clear hfz8_5
           try clear hx101_0
           try clear hx101_1
           try clear hx101_2
           try clear hx101_3
           try clear hx101_4
           try clear hx101_5
           try clear hx103_0
           try clear hx103_1
           try clear hx103_2
           try clear hx103_3
           try clear hx103_4
           try clear hx103_5
           try clear hx105_0
           try clear hx105_1
           try clear hx105_2
           try clear hx105_3
           try clear hx105_4
           try clear hx105_5
           try clear p101
           try clear p103
           try clear p105
           try clear p2
           try clear q101
           try clear q103
           try clear q105
           obtain ⟨kq,x51_19,rfl,HA,HJ19,BK102,HB⟩:=hcut
           cases kq with
           | zero=>exact absurd HA.out (by simp [scan_Check.j2])
           | succ kj19 =>
            have H:=HA.out
            clear HA
            simp only [scan_Check.j2] at H
            by_cases c27:x51_19 = true
            ·subst c27
             have H1:(some 27) = some r:=by rw [if_pos rfl] at H;exact H
             clear H
             have H:=H1
             clear H1
             obtain rfl:=Option.some.inj H
             go_wp2
             go_ret
             exact ⟨by first|rfl|(simp [errW_none,errW_some] <;> rfl)|(simp [*,errW_none,errW_some] <;> rfl),by repeat (first|(with_reducible first|exact HB.out|apply below_alloc|apply pw_below_drewN|apply below_drew1|refine below_set ?_ GE102.out)|exact HB.out)⟩
            ·replace c27:=Bool.eq_false_iff.mpr c27
             subst c27
             have H1:(scan_Check.l1 kj19 l0 l0 (l0.length:Int) x12_1 ((rd_T91 l0 x12_1).f1) (((rd_T91 l0 x12_1).f1).length:Int) 0 ((rd_T91 l0 x12_1).f0.f0) ((rd_T91 l0 x12_1).f0.f1) ((rd_T91 l0 x12_1).f0.f2) ((rd_T91 l0 x12_1).f0.f3) ((rd_T91 l0 x12_1).f1) ((rd_T91 l0 x12_1).f2)) = some r:=by rw [if_neg (show ¬ (false = true) by decide)] at H;exact H
             clear H
             have H:=H1
             clear H1
             have H':=Aside0.mk H
             clear H
             have hcz28_0:wc.cell? ⟨gb102,0,none⟩ = some (.string ((rd_T91 l0 x12_1).f0.f0)):=(blk_cell BK102.out 0).trans rfl
             have hcz28_1:wc.cell? ⟨gb102,1,none⟩ = some (.int .i64 ((rd_T91 l0 x12_1).f0.f1)):=(blk_cell BK102.out 1).trans rfl
             have hcz28_2:wc.cell? ⟨gb102,2,none⟩ = some (.int .i64 ((rd_T91 l0 x12_1).f0.f2)):=(blk_cell BK102.out 2).trans rfl
             have hcz28_3:wc.cell? ⟨gb102,3,none⟩ = some (.int .i64 ((rd_T91 l0 x12_1).f0.f3)):=(blk_cell BK102.out 3).trans rfl
             have hcz28_4:wc.cell? ⟨gb102,4,none⟩ = some (.slice A101_4 ((rd_T91 l0 x12_1).f1).length c101_4):=(blk_cell BK102.out 4).trans rfl
             have hcz28_5:wc.cell? ⟨gb102,5,none⟩ = some (.int .i64 ((rd_T91 l0 x12_1).f2)):=(blk_cell BK102.out 5).trans rfl
             have hfz28_0:=blk_frozen BK102.out 0
             have hfz28_1:=blk_frozen BK102.out 1
             have hfz28_2:=blk_frozen BK102.out 2
             have hfz28_3:=blk_frozen BK102.out 3
             have hfz28_4:=blk_frozen BK102.out 4
             have hfz28_5:=blk_frozen BK102.out 5
             go_wp2
             go_loopg [55] kj19 (fun kq v55 w'=>∃ (x55_4:Int),v55 = .int .i64 x55_4 ∧ Aside0 (scan_Check.l1 kq l0 l0 (l0.length:Int) x12_1 ((rd_T91 l0 x12_1).f1) (((rd_T91 l0 x12_1).f1).length:Int) x55_4 ((rd_T91 l0 x12_1).f0.f0) ((rd_T91 l0 x12_1).f0.f1) ((rd_T91 l0 x12_1).f0.f2) ((rd_T91 l0 x12_1).f0.f3) ((rd_T91 l0 x12_1).f1) ((rd_T91 l0 x12_1).f2) = some r) ∧ Aside0 (kq ≤ kj19) ∧ Aside0 (w'.heap[gb102]? = some (.cells #[.string ((rd_T91 l0 x12_1).f0.f0),.int .i64 ((rd_T91 l0 x12_1).f0.f1),.int .i64 ((rd_T91 l0 x12_1).f0.f2),.int .i64 ((rd_T91 l0 x12_1).f0.f3),(.slice A101_4 ((rd_T91 l0 x12_1).f1).length c101_4),.int .i64 ((rd_T91 l0 x12_1).f2)] 91 (0,0))) ∧ Aside0 (Below w.heap.size w w'))
             case atStart=>exact ⟨(0),(by first|rfl|(simp;done)|(simp [*];done)),H',⟨Nat.le_refl _⟩,⟨by (with_reducible repeat (first|refine blk_drewN ?_ _|refine blk_drew ?_|refine blk_alloc ?_ _));exact BK102.out⟩,⟨by repeat (first|(with_reducible first|exact HB.out|apply below_alloc|apply pw_below_drewN|apply below_drew1|refine below_set ?_ GE102.out)|exact HB.out)⟩⟩
             case round =>
              clear H'
              try clear c1
              try clear p1
              try clear q1
              try clear hx1
              try clear qi1
              try clear c2
              try clear p2
              try clear c10
              try clear p10
              try clear q10
              try clear hx10
              try clear qi10
              try clear c19
              try clear c21
              try clear c21b0
              try clear c21b1
              try clear c23
              try clear c23b0
              try clear c23b1
              try clear c25
              try clear c25b0
              try clear c25b1
              try clear c27
              try clear hcz28_0
              try clear hcz28_1
              try clear hcz28_2
              try clear hcz28_3
              try clear hcz28_4
              try clear hcz28_5
              try clear hfz28_0
              try clear hfz28_1
              try clear hfz28_2
              try clear hfz28_3
              try clear hfz28_4
              try clear hfz28_5
              try clear hfz8_4
              try clear hfz8_5
              try clear hx101_0
              try clear hx101_1
              try clear hx101_2
              try clear hx101_3
              try clear hx101_4
              try clear hx101_5
              try clear hx103_0
              try clear hx103_1
              try clear hx103_2
              try clear hx103_3
              try clear hx103_4
              try clear hx103_5
              try clear hx105_0
              try clear hx105_1
              try clear hx105_2
              try clear hx105_3
              try clear hx105_4
              try clear hx105_5
              try clear p1
              try clear p10
              try clear p101
              try clear p103
              try clear p105
              try clear p2
              try clear q1
              try clear q10
              try clear q101
              try clear q103
              try clear q105
              obtain ⟨x55_4,rfl,HA,HK4,BK102,HB⟩:=hrel
              cases gk with
              | zero=>exact absurd HA.out (by simp [scan_Check.l1])
              | succ k4 =>
               have H:=HA.out
               clear HA
               simp only [scan_Check.l1] at H
               by_cases c29:x55_4 < (((rd_T91 l0 x12_1).f1).length:Int)
               ·rw [if_pos c29] at H
                have c29b0:decide (x55_4 < (((rd_T91 l0 x12_1).f1).length:Int)) = true:=decide_eq_true c29
                clear c29
                by_cases c30:0 ≤ x55_4
                ·rw [if_pos c30] at H
                 have c30b0:decide (0 ≤ x55_4) = true:=decide_eq_true c30
                 clear c30
                 by_cases c31:x55_4 < (((rd_T91 l0 x12_1).f1).length:Int)
                 ·rw [if_pos c31] at H
                  have c31b0:decide (x55_4 < (((rd_T91 l0 x12_1).f1).length:Int)) = true:=decide_eq_true c31
                  clear c31
                  by_cases c32:(rd ((rd_T91 l0 x12_1).f1) x55_4) < (-68719476736)
                  ·rw [if_pos c32] at H
                   have c32b0:decide ((rd ((rd_T91 l0 x12_1).f1) x55_4) < (-68719476736)) = true:=decide_eq_true c32
                   clear c32
                   obtain rfl:=Option.some.inj H
                   have p106:0 ≤ (x55_4:Int):=of_decide_eq_true (by first|(with_reducible assumption)|assumption)
                   have q106:x55_4 < (((rd_T91 l0 x12_1).f1).length:Int):=of_decide_eq_true (by first|(with_reducible assumption)|assumption)
                   obtain ⟨ad106,e106,hx106_0⟩:=Kd.at_int HR101_4.out x55_4 p106 q106
                   cases e106
                   replace hx106_0:=(HB.out.cell (World.block_lt_of_cell? w _ hx106_0)).trans hx106_0
                   replace p106:=eq_true p106
                   replace q106:=eq_true q106
                   go_wp2
                   go_ret
                   exact ⟨by first|rfl|(simp [errW_none,errW_some] <;> rfl)|(simp [*,errW_none,errW_some] <;> rfl),by repeat (first|(with_reducible first|exact HB.out|apply below_alloc|apply pw_below_drewN|apply below_drew1|refine below_set ?_ GE102.out)|exact HB.out)⟩
                  ·rw [if_neg c32] at H
                   have c32b0:decide ((rd ((rd_T91 l0 x12_1).f1) x55_4) < (-68719476736)) = false:=decide_eq_false c32
                   clear c32
                   by_cases c33:(rd ((rd_T91 l0 x12_1).f1) x55_4) > 68719476736
                   ·rw [if_pos c33] at H
                    have c33b0:decide (68719476736 < (rd ((rd_T91 l0 x12_1).f1) x55_4)) = true:=decide_eq_true c33
                    clear c33
                    obtain rfl:=Option.some.inj H
                    have p106:0 ≤ (x55_4:Int):=of_decide_eq_true (by first|(with_reducible assumption)|assumption)
                    have q106:x55_4 < (((rd_T91 l0 x12_1).f1).length:Int):=of_decide_eq_true (by first|(with_reducible assumption)|assumption)
                    obtain ⟨ad106,e106,hx106_0⟩:=Kd.at_int HR101_4.out x55_4 p106 q106
                    cases e106
                    replace hx106_0:=(HB.out.cell (World.block_lt_of_cell? w _ hx106_0)).trans hx106_0
                    replace p106:=eq_true p106
                    replace q106:=eq_true q106
                    go_wp2
                    go_ret
                    exact ⟨by first|rfl|(simp [errW_none,errW_some] <;> rfl)|(simp [*,errW_none,errW_some] <;> rfl),by repeat (first|(with_reducible first|exact HB.out|apply below_alloc|apply pw_below_drewN|apply below_drew1|refine below_set ?_ GE102.out)|exact HB.out)⟩
                   ·rw [if_neg c33] at H
                    have c33b0:decide (68719476736 < (rd ((rd_T91 l0 x12_1).f1) x55_4)) = false:=decide_eq_false c33
                    clear c33
                    have H':=Aside0.mk H
                    clear H
                    have p106:0 ≤ (x55_4:Int):=of_decide_eq_true (by first|(with_reducible assumption)|assumption)
                    have q106:x55_4 < (((rd_T91 l0 x12_1).f1).length:Int):=of_decide_eq_true (by first|(with_reducible assumption)|assumption)
                    obtain ⟨ad106,e106,hx106_0⟩:=Kd.at_int HR101_4.out x55_4 p106 q106
                    cases e106
                    replace hx106_0:=(HB.out.cell (World.block_lt_of_cell? w _ hx106_0)).trans hx106_0
                    replace p106:=eq_true p106
                    replace q106:=eq_true q106
                    go_wp2
                    go_roundg k4
                    case measure=>have:=HK1.out;have:=HJ5.out;have:=HJ19.out;have:=HK4.out;omega
                    case rel=>exact ⟨(wrap64 (x55_4 + 1)),(by first|rfl|(simp;done)|(simp [*];done)),H',⟨by have:=HK1.out;have:=HJ5.out;have:=HJ19.out;have:=HK4.out;omega⟩,⟨by (with_reducible repeat (first|refine blk_drewN ?_ _|refine blk_drew ?_|refine blk_alloc ?_ _));exact BK102.out⟩,⟨by repeat (first|(with_reducible first|exact HB.out|apply below_alloc|apply pw_below_drewN|apply below_drew1|refine below_set ?_ GE102.out)|exact HB.out)⟩⟩
                 ·rw [if_neg c31] at H
                  exact absurd H (by simp)
                ·rw [if_neg c30] at H
                 exact absurd H (by simp)
               ·rw [if_neg c29] at H
                have c29b0:decide (x55_4 < (((rd_T91 l0 x12_1).f1).length:Int)) = false:=decide_eq_false c29
                clear c29
                by_cases c34:((rd_T91 l0 x12_1).f2) < (-1000)
                ·rw [if_pos c34] at H
                 have c34b0:decide (((rd_T91 l0 x12_1).f2) < (-1000)) = true:=decide_eq_true c34
                 clear c34
                 obtain rfl:=Option.some.inj H
                 have hcz35_0:wr.cell? ⟨gb102,0,none⟩ = some (.string ((rd_T91 l0 x12_1).f0.f0)):=(blk_cell BK102.out 0).trans rfl
                 have hcz35_1:wr.cell? ⟨gb102,1,none⟩ = some (.int .i64 ((rd_T91 l0 x12_1).f0.f1)):=(blk_cell BK102.out 1).trans rfl
                 have hcz35_2:wr.cell? ⟨gb102,2,none⟩ = some (.int .i64 ((rd_T91 l0 x12_1).f0.f2)):=(blk_cell BK102.out 2).trans rfl
                 have hcz35_3:wr.cell? ⟨gb102,3,none⟩ = some (.int .i64 ((rd_T91 l0 x12_1).f0.f3)):=(blk_cell BK102.out 3).trans rfl
                 have hcz35_4:wr.cell? ⟨gb102,4,none⟩ = some (.slice A101_4 ((rd_T91 l0 x12_1).f1).length c101_4):=(blk_cell BK102.out 4).trans rfl
                 have hcz35_5:wr.cell? ⟨gb102,5,none⟩ = some (.int .i64 ((rd_T91 l0 x12_1).f2)):=(blk_cell BK102.out 5).trans rfl
                 have hfz35_0:=blk_frozen BK102.out 0
                 have hfz35_1:=blk_frozen BK102.out 1
                 have hfz35_2:=blk_frozen BK102.out 2
                 have hfz35_3:=blk_frozen BK102.out 3
                 have hfz35_4:=blk_frozen BK102.out 4
                 have hfz35_5:=blk_frozen BK102.out 5
                 go_wp2
                 go_ret
                 exact ⟨by first|rfl|(simp [errW_none,errW_some] <;> rfl)|(simp [*,errW_none,errW_some] <;> rfl),by repeat (first|(with_reducible first|exact HB.out|apply below_alloc|apply pw_below_drewN|apply below_drew1|refine below_set ?_ GE102.out)|exact HB.out)⟩
                ·rw [if_neg c34] at H
                 have c34b0:decide (((rd_T91 l0 x12_1).f2) < (-1000)) = false:=decide_eq_false c34
                 clear c34
                 by_cases c36:((rd_T91 l0 x12_1).f2) > 1000
                 ·rw [if_pos c36] at H
                  have c36b0:decide (1000 < ((rd_T91 l0 x12_1).f2)) = true:=decide_eq_true c36
                  clear c36
                  obtain rfl:=Option.some.inj H
                  have hcz37_0:wr.cell? ⟨gb102,0,none⟩ = some (.string ((rd_T91 l0 x12_1).f0.f0)):=(blk_cell BK102.out 0).trans rfl
                  have hcz37_1:wr.cell? ⟨gb102,1,none⟩ = some (.int .i64 ((rd_T91 l0 x12_1).f0.f1)):=(blk_cell BK102.out 1).trans rfl
                  have hcz37_2:wr.cell? ⟨gb102,2,none⟩ = some (.int .i64 ((rd_T91 l0 x12_1).f0.f2)):=(blk_cell BK102.out 2).trans rfl
                  have hcz37_3:wr.cell? ⟨gb102,3,none⟩ = some (.int .i64 ((rd_T91 l0 x12_1).f0.f3)):=(blk_cell BK102.out 3).trans rfl
                  have hcz37_4:wr.cell? ⟨gb102,4,none⟩ = some (.slice A101_4 ((rd_T91 l0 x12_1).f1).length c101_4):=(blk_cell BK102.out 4).trans rfl
                  have hcz37_5:wr.cell? ⟨gb102,5,none⟩ = some (.int .i64 ((rd_T91 l0 x12_1).f2)):=(blk_cell BK102.out 5).trans rfl
                  have hfz37_0:=blk_frozen BK102.out 0
                  have hfz37_1:=blk_frozen BK102.out 1
                  have hfz37_2:=blk_frozen BK102.out 2
                  have hfz37_3:=blk_frozen BK102.out 3
                  have hfz37_4:=blk_frozen BK102.out 4
                  have hfz37_5:=blk_frozen BK102.out 5
                  go_wp2
                  go_ret
                  exact ⟨by first|rfl|(simp [errW_none,errW_some] <;> rfl)|(simp [*,errW_none,errW_some] <;> rfl),by repeat (first|(with_reducible first|exact HB.out|apply below_alloc|apply pw_below_drewN|apply below_drew1|refine below_set ?_ GE102.out)|exact HB.out)⟩
                 ·rw [if_neg c36] at H
                  have c36b0:decide (1000 < ((rd_T91 l0 x12_1).f2)) = false:=decide_eq_false c36
                  clear c36
                  have H':=Aside0.mk H
                  clear H
                  have hcz38_0:wr.cell? ⟨gb102,0,none⟩ = some (.string ((rd_T91 l0 x12_1).f0.f0)):=(blk_cell BK102.out 0).trans rfl
                  have hcz38_1:wr.cell? ⟨gb102,1,none⟩ = some (.int .i64 ((rd_T91 l0 x12_1).f0.f1)):=(blk_cell BK102.out 1).trans rfl
                  have hcz38_2:wr.cell? ⟨gb102,2,none⟩ = some (.int .i64 ((rd_T91 l0 x12_1).f0.f2)):=(blk_cell BK102.out 2).trans rfl
                  have hcz38_3:wr.cell? ⟨gb102,3,none⟩ = some (.int .i64 ((rd_T91 l0 x12_1).f0.f3)):=(blk_cell BK102.out 3).trans rfl
                  have hcz38_4:wr.cell? ⟨gb102,4,none⟩ = some (.slice A101_4 ((rd_T91 l0 x12_1).f1).length c101_4):=(blk_cell BK102.out 4).trans rfl
                  have hcz38_5:wr.cell? ⟨gb102,5,none⟩ = some (.int .i64 ((rd_T91 l0 x12_1).f2)):=(blk_cell BK102.out 5).trans rfl
                  have hfz38_0:=blk_frozen BK102.out 0
                  have hfz38_1:=blk_frozen BK102.out 1
                  have hfz38_2:=blk_frozen BK102.out 2
                  have hfz38_3:=blk_frozen BK102.out 3
                  have hfz38_4:=blk_frozen BK102.out 4
                  have hfz38_5:=blk_frozen BK102.out 5
                  go_wp2
                  go_roundg k4
                  case measure=>have:=HK1.out;have:=HJ5.out;have:=HJ19.out;have:=HK4.out;omega
                  case rel=>exact ⟨(wrap64 (x12_1 + 1)),(by first|rfl|(simp;done)|(simp [*];done)),H',⟨by have:=HK1.out;have:=HJ5.out;have:=HJ19.out;have:=HK4.out;omega⟩,⟨by repeat (first|(with_reducible first|exact HB.out|apply below_alloc|apply pw_below_drewN|apply below_drew1|refine below_set ?_ GE102.out)|exact HB.out)⟩⟩
      ·rw [if_neg c5] at H
       exact absurd H (by simp)
     ·rw [if_neg c4] at H
      exact absurd H (by simp)
    ·rw [if_neg c3] at H
     have c3b0:decide (x12_1 < (l0.length:Int)) = false:=decide_eq_false c3
     clear c3
     obtain rfl:=Option.some.inj H
     go_wp2
     go_ret
     exact ⟨by first|rfl|(simp [errW_none,errW_some] <;> rfl)|(simp [*,errW_none,errW_some] <;> rfl),by repeat (first|(with_reducible first|exact HB.out|apply below_alloc|apply pw_below_drewN|apply below_drew1)|exact HB.out)⟩
end Go.Proofs.Ytbgeceiddcokmaa.X
end
section
namespace Go.Proofs.Ytbgeceiddcokmaa.X
open Go.RowKit Go.Proofs.YtbgeceiddcokmaaW.PrintWords Go.Proofs.YtbgeceiddcokmaaW.PrintLast Go.Proofs.YtbgeceiddcokmaaW.PrintMore
attribute [local go_sem] max2_int min2_int max_two min_two max_three min_three max_four min_four
set_option linter.unusedVariables false
set_option linter.unusedSimpArgs false
def scan_both.f (k:Nat) (l0:List (S73)) (l1:List (S91)):Option (Int):=(scan_Check.f k l1).bind fun t101=>(if t101 = 0 then ((position_Check.f k l0).bind fun t102=>(some t102)) else (some t101))
theorem scan_both.mono:∀ a0 a1 k,LeO (scan_both.f k a0 a1) (scan_both.f (k + 1) a0 a1):=by
 intro a0 a1 k
 unfold scan_both.f
 repeat' first
   | (with_reducible exact position_Check.mono _ _)
   | (with_reducible exact scan_Check.mono _ _)
   | (with_reducible exact LeO.refl _)
   | (with_reducible exact LeO.none _)
   | (with_reducible refine LeO.ite ?_ ?_)
   | (with_reducible refine LeO.bind ?_ (fun _=>?_))
   | exact position_Check.mono _ _
   | exact scan_Check.mono _ _
   | exact LeO.none _
   | refine LeO.ite ?_ ?_
   | refine LeO.bind ?_ (fun _=>?_)
set_option maxHeartbeats 8000000 in
set_option maxRecDepth 100000 in
theorem scan_both.calls (k:Nat) (A0:Option Addr) (c0:Nat) (l0:List (S73)) (A1:Option Addr) (c1:Nat) (l1:List (S91)) (r:Int) (w:World) (hr0:Kd.C k73 w A0 l0.length l0) (hc0:l0.length ≤ c0) (hr1:Kd.C k91 w A1 l1.length l1) (hc1:l1.length ≤ c1) (h:scan_both.f k l0 l1 = some r) :
  Calls Try.prog 79 #[.slice A0 l0.length c0,.slice A1 l1.length c1] w fun e w'=>e = .returned (.int .i64 r) ∧ Below w.heap.size w w':=by
 have HR0:=Aside0.mk hr0
 have HC0:=Aside0.mk hc0
 clear hr0 hc0
 have HR1:=Aside0.mk hr1
 have HC1:=Aside0.mk hc1
 clear hr1 hc1
 have HB:=Aside0.mk (Below.refl w.heap.size w)
 have H:((scan_Check.f k l1).bind fun t101=>(if t101 = 0 then ((position_Check.f k l0).bind fun t102=>(some t102)) else (some t101))) = some r:=h
 clear h
 replace H:=Option.bind_eq_some_iff.mp H
 obtain ⟨t101,A30,H⟩:=H
 replace H:(if t101 = 0 then ((position_Check.f k l0).bind fun t102=>(some t102)) else (some t101)) = some r:=H
 have A3:=Aside0.mk A30
 clear A30
 by_cases c4:t101 = 0
 ·rw [if_pos c4] at H
  have c4b0:(t101 == 0) = true:=beq_iff_eq.mpr c4
  have c4b1:(t101 != 0) = false:=bne_eq_false_iff_eq.mpr c4
  clear c4
  replace H:=Option.bind_eq_some_iff.mp H
  obtain ⟨t102,A50,H⟩:=H
  replace H:(some t102) = some r:=H
  have A5:=Aside0.mk A50
  clear A50
  obtain rfl:=Option.some.inj H
  go_enter Try.func79,Try.ntmps79
  go_wp2_with (first|((with_reducible refine gate_callee (f:=31) rfl ?_);refine goesL_ (some 7) rfl rfl Try.func31 (by kernel_rfl) rfl #[.slice A1 l1.length c1] rfl (by (try simp only [List.map_toArray,List.map_cons,List.map_nil]);first|done|rfl|(simp only [List.length_drop,List.length_take];rfl)) ?_;(with_reducible refine (scan_Check.calls k _ _ l1 t101 _ ?side1 ?side2 A3.out).mono ?_);(case side1=>repeat (first|exact HR1.out|(with_reducible refine Kd.C_alloc ?_ _)|(with_reducible refine Kd.C_drewN ?_ _)|(with_reducible refine Kd.C_drew ?_)));(case side2=>exact HC1.out);rintro e w6 ⟨rfl,hb⟩;refine ⟨_,rfl,?_⟩;have n0_:=Aside0.mk (below_step (by repeat (first|(with_reducible first|exact HB.out|apply below_alloc|apply pw_below_drewN|apply below_drew1)|exact HB.out)) hb);clear HB;have HB:=n0_;clear n0_;(try clear hb);(try clear hb2);(try clear hk);(try clear hi))|((with_reducible refine gate_callee (f:=65) rfl ?_);refine goesL_ (some 12) rfl rfl Try.func65 (by kernel_rfl) rfl #[.slice A0 l0.length c0] rfl (by (try simp only [List.map_toArray,List.map_cons,List.map_nil]);first|done|rfl|(simp only [List.length_drop,List.length_take];rfl)) ?_;(with_reducible refine (position_Check.calls k _ _ l0 t102 _ ?side1 ?side2 A5.out).mono ?_);(case side1=>repeat (first|exact (Kd.C_below HR0.out HB.out)|(with_reducible refine Kd.C_alloc ?_ _)|(with_reducible refine Kd.C_drewN ?_ _)|(with_reducible refine Kd.C_drew ?_)));(case side2=>exact HC0.out);rintro e w7 ⟨rfl,hb⟩;refine ⟨_,rfl,?_⟩;have n0_:=Aside0.mk (below_step (by repeat (first|(with_reducible first|exact HB.out|apply below_alloc|apply pw_below_drewN|apply below_drew1)|exact HB.out)) hb);clear HB;have HB:=n0_;clear n0_;(try clear hb);(try clear hb2);(try clear hk);(try clear hi)))
  go_ret
  exact ⟨by first|rfl|(simp [errW_none,errW_some] <;> rfl)|(simp [*,errW_none,errW_some] <;> rfl),by repeat (first|(with_reducible first|exact HB.out|apply below_alloc|apply pw_below_drewN|apply below_drew1)|exact HB.out)⟩
 ·rw [if_neg c4] at H
  have c4b0:(t101 == 0) = false:=beq_eq_false_iff_ne.mpr c4
  have c4b1:(t101 != 0) = true:=bne_iff_ne.mpr c4
  obtain rfl:=Option.some.inj H
  go_enter Try.func79,Try.ntmps79
  go_wp2_with (first|((with_reducible refine gate_callee (f:=31) rfl ?_);refine goesL_ (some 7) rfl rfl Try.func31 (by kernel_rfl) rfl #[.slice A1 l1.length c1] rfl (by (try simp only [List.map_toArray,List.map_cons,List.map_nil]);first|done|rfl|(simp only [List.length_drop,List.length_take];rfl)) ?_;(with_reducible refine (scan_Check.calls k _ _ l1 t101 _ ?side1 ?side2 A3.out).mono ?_);(case side1=>repeat (first|exact HR1.out|(with_reducible refine Kd.C_alloc ?_ _)|(with_reducible refine Kd.C_drewN ?_ _)|(with_reducible refine Kd.C_drew ?_)));(case side2=>exact HC1.out);rintro e w8 ⟨rfl,hb⟩;refine ⟨_,rfl,?_⟩;have n0_:=Aside0.mk (below_step (by repeat (first|(with_reducible first|exact HB.out|apply below_alloc|apply pw_below_drewN|apply below_drew1)|exact HB.out)) hb);clear HB;have HB:=n0_;clear n0_;(try clear hb);(try clear hb2);(try clear hk);(try clear hi)))
  go_ret
  exact ⟨by first|rfl|(simp [errW_none,errW_some] <;> rfl)|(simp [*,errW_none,errW_some] <;> rfl),by repeat (first|(with_reducible first|exact HB.out|apply below_alloc|apply pw_below_drewN|apply below_drew1)|exact HB.out)⟩
end Go.Proofs.Ytbgeceiddcokmaa.X
end
section
namespace Go.Proofs.Ytbgeceiddcokmaa.X
open Go.RowKit Go.Proofs.YtbgeceiddcokmaaW.PrintWords Go.Proofs.YtbgeceiddcokmaaW.PrintLast Go.Proofs.YtbgeceiddcokmaaW.PrintMore
attribute [local go_sem] max2_int min2_int max_two min_two max_three min_three max_four min_four
set_option linter.unusedVariables false
set_option linter.unusedSimpArgs false
attribute [local go_sem high] eqA39
mutual
def scan_found.l0:Nat → List (S91) → List (S91) → List (S73) → Int → Int → Option ((List (S91)) × Int)
 | 0,_,_,_,_,_=>none
 | k + 1,x1,x4,x16,x17,x18=>if x18 < x17 then (if 0 ≤ x18 then (if x18 < (x16.length:Int) then (scan_found.l1 k x1 x4 x16 x17 x18 x1 (x1.length:Int) 0 ((rd_T73 x16 x18).f0.f0) ((rd_T73 x16 x18).f0.f1) ((rd_T73 x16 x18).f0.f2) ((rd_T73 x16 x18).f0.f3) ((rd_T73 x16 x18).f1) ((rd_T73 x16 x18).f2)) else (none)) else (none)) else (some (x4,0))
def scan_found.l1:Nat → List (S91) → List (S91) → List (S73) → Int → Int → List (S91) → Int → Int → ByteArray → Int → Int → Int → Int → Int → Option ((List (S91)) × Int)
 | 0,_,_,_,_,_,_,_,_,_,_,_,_,_,_=>none
 | k + 1,x1,x4,x16,x17,x18,x22,x23,x24,x104000,x104001,x104002,x104003,x104004,x104005=>if x24 < x23 then (if 0 ≤ x24 then (if x24 < (x22.length:Int) then (if ((((rd_T91 x22 x24).f0.f0).toList) == x104000.toList && (((rd_T91 x22 x24).f0.f1) == x104001 && (((rd_T91 x22 x24).f0.f2) == x104002 && (((rd_T91 x22 x24).f0.f3) == x104003)))) = true then (if x4.length < 1954687338268 then (scan_found.l0 k x1 (x4 ++ [(⟨(⟨(rd_T91 x22 x24).f0.f0,(rd_T91 x22 x24).f0.f1,(rd_T91 x22 x24).f0.f2,(rd_T91 x22 x24).f0.f3⟩:S39),(rd_T91 x22 x24).f1,(rd_T91 x22 x24).f2⟩:S91)]) x16 x17 (wrap64 (x18 + 1))) else (none)) else (scan_found.l1 k x1 x4 x16 x17 x18 x22 x23 (wrap64 (x24 + 1)) x104000 x104001 x104002 x104003 x104004 x104005)) else (none)) else (none)) else (some (([]:List (S91)),11))
end
def scan_found.f (k:Nat) (l0:List (S73)) (l1:List (S91)):Option ((List (S91)) × Int):=(scan_both.f k l0 l1).bind fun t101=>(if t101 = 0 then (scan_found.l0 k l1 ([]:List (S91)) l0 (l0.length:Int) 0) else (some (([]:List (S91)),t101)))
theorem scan_found.mono_l:∀ k,(∀ y0 y1 y2 y3 y4,LeO (scan_found.l0 k y0 y1 y2 y3 y4) (scan_found.l0 (k + 1) y0 y1 y2 y3 y4)) ∧ (∀ y0 y1 y2 y3 y4 y5 y6 y7 y8 y9 y10 y11 y12 y13,LeO (scan_found.l1 k y0 y1 y2 y3 y4 y5 y6 y7 y8 y9 y10 y11 y12 y13) (scan_found.l1 (k + 1) y0 y1 y2 y3 y4 y5 y6 y7 y8 y9 y10 y11 y12 y13))
 | 0=>⟨fun _ _ _ _ _ r h=>by simp [scan_found.l0] at h,fun _ _ _ _ _ _ _ _ _ _ _ _ _ _ r h=>by simp [scan_found.l1] at h⟩
 | k + 1=>by
  obtain ⟨ih0,ih1⟩:=scan_found.mono_l k
  refine ⟨?_,?_⟩
  ·intro y0 y1 y2 y3 y4
   unfold scan_found.l0
   repeat' first
   | (with_reducible exact ih0 _ _ _ _ _)
   | (with_reducible exact ih1 _ _ _ _ _ _ _ _ _ _ _ _ _ _)
   | (with_reducible exact scan_both.mono _ _ _)
   | (with_reducible exact LeO.refl _)
   | (with_reducible exact LeO.none _)
   | (with_reducible refine LeO.ite ?_ ?_)
   | (with_reducible refine LeO.bind ?_ (fun _=>?_))
   | exact ih0 _ _ _ _ _
   | exact ih1 _ _ _ _ _ _ _ _ _ _ _ _ _ _
   | exact scan_both.mono _ _ _
   | exact LeO.none _
   | refine LeO.ite ?_ ?_
   | refine LeO.bind ?_ (fun _=>?_)
  ·intro y0 y1 y2 y3 y4 y5 y6 y7 y8 y9 y10 y11 y12 y13
   unfold scan_found.l1
   repeat' first
   | (with_reducible exact ih0 _ _ _ _ _)
   | (with_reducible exact ih1 _ _ _ _ _ _ _ _ _ _ _ _ _ _)
   | (with_reducible exact scan_both.mono _ _ _)
   | (with_reducible exact LeO.refl _)
   | (with_reducible exact LeO.none _)
   | (with_reducible refine LeO.ite ?_ ?_)
   | (with_reducible refine LeO.bind ?_ (fun _=>?_))
   | exact ih0 _ _ _ _ _
   | exact ih1 _ _ _ _ _ _ _ _ _ _ _ _ _ _
   | exact scan_both.mono _ _ _
   | exact LeO.none _
   | refine LeO.ite ?_ ?_
   | refine LeO.bind ?_ (fun _=>?_)
theorem scan_found.mono:∀ a0 a1 k,LeO (scan_found.f k a0 a1) (scan_found.f (k + 1) a0 a1):=by
 intro a0 a1 k
 obtain ⟨ih0,ih1⟩:=scan_found.mono_l k
 unfold scan_found.f
 repeat' first
   | (with_reducible exact ih0 _ _ _ _ _)
   | (with_reducible exact ih1 _ _ _ _ _ _ _ _ _ _ _ _ _ _)
   | (with_reducible exact scan_both.mono _ _ _)
   | (with_reducible exact LeO.refl _)
   | (with_reducible exact LeO.none _)
   | (with_reducible refine LeO.ite ?_ ?_)
   | (with_reducible refine LeO.bind ?_ (fun _=>?_))
   | exact ih0 _ _ _ _ _
   | exact ih1 _ _ _ _ _ _ _ _ _ _ _ _ _ _
   | exact scan_both.mono _ _ _
   | exact LeO.none _
   | refine LeO.ite ?_ ?_
   | refine LeO.bind ?_ (fun _=>?_)
set_option maxHeartbeats 8000000 in
set_option maxRecDepth 100000 in
theorem scan_found.calls (k:Nat) (A0:Option Addr) (c0:Nat) (l0:List (S73)) (P1_:Nat → Prop) (A1:Option Addr) (c1:Nat) (l1:List (S91)) (r1:List (S91)) (r2:Int) (w:World) (hr0:Kd.C k73 w A0 l0.length l0) (hc0:l0.length ≤ c0) (hs1:Kd.V k91 91 w w.heap.size (fun k_=>P1_ k_) (.slice A1 l1.length c1) l1) (h:scan_found.f k l0 l1 = some (r1,r2)) :
  Calls Try.prog 57 #[.slice A0 l0.length c0,.slice A1 l1.length c1] w fun e w'=>∃ v0_:Value,e = .returned (.tuple #[v0_,.int .i64 r2]) ∧ Kd.N k91 91 w' w.heap.size (fun k_=>(P1_ k_ ∨ w.heap.size ≤ k_)) v0_ r1 ∧ Below w.heap.size w w':=by
 have hu73:=Try.underlying73
 have hu91:=Try.underlying91
 have hu39:=Try.underlying39
 have HR0:=Aside0.mk hr0
 have HC0:=Aside0.mk hc0
 clear hr0 hc0
 have HO1:=Aside0.mk (show Kd.V k91 91 w w.heap.size (fun k_=>(P1_ k_ ∨ w.heap.size ≤ k_)) (.slice A1 l1.length c1) l1 from Kd.V_mono hs1 (fun k_ hk=>.inl hk))
 have HB:=Aside0.mk (Below.refl w.heap.size w)
 have H:((scan_both.f k l0 l1).bind fun t101=>(if t101 = 0 then (scan_found.l0 k l1 ([]:List (S91)) l0 (l0.length:Int) 0) else (some (([]:List (S91)),t101)))) = some (r1,r2):=h
 clear h
 replace H:=Option.bind_eq_some_iff.mp H
 obtain ⟨t101,A30,H⟩:=H
 replace H:(if t101 = 0 then (scan_found.l0 k l1 ([]:List (S91)) l0 (l0.length:Int) 0) else (some (([]:List (S91)),t101))) = some (r1,r2):=H
 have A3:=Aside0.mk A30
 clear A30
 by_cases c4:t101 = 0
 ·rw [if_pos c4] at H
  have c4b0:(t101 == 0) = true:=beq_iff_eq.mpr c4
  have c4b1:(t101 != 0) = false:=bne_eq_false_iff_eq.mpr c4
  clear c4
  have H':=Aside0.mk H
  clear H
  go_enter Try.func57,Try.ntmps57
  go_wp2_with (first|((with_reducible refine gate_callee (f:=79) rfl ?_);refine goesL_ (some 12) rfl rfl Try.func79 (by kernel_rfl) rfl #[.slice A0 l0.length c0,.slice A1 l1.length c1] rfl (by (try simp only [List.map_toArray,List.map_cons,List.map_nil]);first|done|rfl|(simp only [List.length_drop,List.length_take];rfl)) ?_;(with_reducible refine (scan_both.calls k _ _ l0 _ _ l1 t101 _ ?side1 ?side2 ?side3 ?side4 A3.out).mono ?_);(case side1=>repeat (first|exact HR0.out|(with_reducible refine Kd.C_alloc ?_ _)|(with_reducible refine Kd.C_drewN ?_ _)|(with_reducible refine Kd.C_drew ?_)));(case side2=>exact HC0.out);(case side3=>repeat (first|exact (Kd.V_reads' HO1.out).2.2|(with_reducible refine Kd.C_alloc ?_ _)|(with_reducible refine Kd.C_drewN ?_ _)|(with_reducible refine Kd.C_drew ?_)));(case side4=>exact (Kd.V_reads' HO1.out).2.1);rintro e w5 ⟨rfl,hb⟩;refine ⟨_,rfl,?_⟩;have n0_:=Aside0.mk (Kd.V_below (by (with_reducible repeat (first|apply Kd.V_alloc|apply Kd.V_drewN|apply Kd.V_drew));exact HO1.out) hb);have n1_:=Aside0.mk (below_step (by repeat (first|(with_reducible first|exact HB.out|apply below_alloc|apply pw_below_drewN|apply below_drew1)|exact HB.out)) hb);clear HO1;clear HB;have HO1:=n0_;have HB:=n1_;clear n0_ n1_;(try clear hb);(try clear hb2);(try clear hk);(try clear hi)))
  try (go_step3;go_wp2_with (first|((with_reducible refine gate_callee (f:=79) rfl ?_);refine goesL_ (some 12) rfl rfl Try.func79 (by kernel_rfl) rfl #[.slice A0 l0.length c0,.slice A1 l1.length c1] rfl (by (try simp only [List.map_toArray,List.map_cons,List.map_nil]);first|done|rfl|(simp only [List.length_drop,List.length_take];rfl)) ?_;(with_reducible refine (scan_both.calls k _ _ l0 _ _ l1 t101 _ ?side1 ?side2 ?side3 ?side4 A3.out).mono ?_);(case side1=>repeat (first|exact HR0.out|(with_reducible refine Kd.C_alloc ?_ _)|(with_reducible refine Kd.C_drewN ?_ _)|(with_reducible refine Kd.C_drew ?_)));(case side2=>exact HC0.out);(case side3=>repeat (first|exact (Kd.V_reads' HO1.out).2.2|(with_reducible refine Kd.C_alloc ?_ _)|(with_reducible refine Kd.C_drewN ?_ _)|(with_reducible refine Kd.C_drew ?_)));(case side4=>exact (Kd.V_reads' HO1.out).2.1);rintro e w5 ⟨rfl,hb⟩;refine ⟨_,rfl,?_⟩;have n0_:=Aside0.mk (Kd.V_below (by (with_reducible repeat (first|apply Kd.V_alloc|apply Kd.V_drewN|apply Kd.V_drew));exact HO1.out) hb);have n1_:=Aside0.mk (below_step (by repeat (first|(with_reducible first|exact HB.out|apply below_alloc|apply pw_below_drewN|apply below_drew1)|exact HB.out)) hb);clear HO1;clear HB;have HO1:=n0_;have HB:=n1_;clear n0_ n1_;(try clear hb);(try clear hb2);(try clear hk);(try clear hi))))
  try (go_step3;go_wp2_with (first|((with_reducible refine gate_callee (f:=79) rfl ?_);refine goesL_ (some 12) rfl rfl Try.func79 (by kernel_rfl) rfl #[.slice A0 l0.length c0,.slice A1 l1.length c1] rfl (by (try simp only [List.map_toArray,List.map_cons,List.map_nil]);first|done|rfl|(simp only [List.length_drop,List.length_take];rfl)) ?_;(with_reducible refine (scan_both.calls k _ _ l0 _ _ l1 t101 _ ?side1 ?side2 ?side3 ?side4 A3.out).mono ?_);(case side1=>repeat (first|exact HR0.out|(with_reducible refine Kd.C_alloc ?_ _)|(with_reducible refine Kd.C_drewN ?_ _)|(with_reducible refine Kd.C_drew ?_)));(case side2=>exact HC0.out);(case side3=>repeat (first|exact (Kd.V_reads' HO1.out).2.2|(with_reducible refine Kd.C_alloc ?_ _)|(with_reducible refine Kd.C_drewN ?_ _)|(with_reducible refine Kd.C_drew ?_)));(case side4=>exact (Kd.V_reads' HO1.out).2.1);rintro e w5 ⟨rfl,hb⟩;refine ⟨_,rfl,?_⟩;have n0_:=Aside0.mk (Kd.V_below (by (with_reducible repeat (first|apply Kd.V_alloc|apply Kd.V_drewN|apply Kd.V_drew));exact HO1.out) hb);have n1_:=Aside0.mk (below_step (by repeat (first|(with_reducible first|exact HB.out|apply below_alloc|apply pw_below_drewN|apply below_drew1)|exact HB.out)) hb);clear HO1;clear HB;have HO1:=n0_;have HB:=n1_;clear n0_ n1_;(try clear hb);(try clear hb2);(try clear hk);(try clear hi))))
  go_loopg [4,18] k (fun kq v4 v18 w'=>∃ (x4_1:List (S91)) (x18_1:Int),v18 = .int .i64 x18_1 ∧ Aside0 (scan_found.l0 kq l1 x4_1 l0 (l0.length:Int) x18_1 = some (r1,r2)) ∧ Aside0 (kq ≤ k) ∧ Aside0 (Kd.V k91 91 w' w.heap.size (fun k_=>(P1_ k_ ∨ w.heap.size ≤ k_) ∧ some k_ ≠ (v4:Value).ownBlock) (.slice A1 l1.length c1) l1) ∧ Aside0 (Kd.N k91 91 w' w.heap.size (fun k_=>(P1_ k_ ∨ w.heap.size ≤ k_)) v4 x4_1) ∧ Aside0 (Below w.heap.size w w'))
  case atStart=>exact ⟨(([]:List (S91))),(0),(by first|rfl|(simp;done)|(simp [*];done)),H',⟨Nat.le_refl _⟩,⟨by (with_reducible repeat (first|apply Kd.V_alloc|apply Kd.V_drewN|apply Kd.V_drew));exact Kd.V_mono HO1.out (fun _ hk=>⟨hk,(by simp [Value.ownBlock])⟩)⟩,⟨by first|exact Kd.S_nil _ _ _ _ _|exact Kd.N_nil _ _ _ _ _|exact Kd.V_nil _ _ _ _ _|exact Kd.Q_nil _ _ _ _ _|exact Kd.R_nil _ _ _ _ _⟩,⟨by repeat (first|(with_reducible first|exact HB.out|apply below_alloc|apply pw_below_drewN|apply below_drew1)|exact HB.out)⟩⟩
  case round =>
   clear H'
   try clear c1
   try clear p2
   try clear c4
   try clear c4b0
   try clear c4b1
   try clear c5
   obtain ⟨x4_1,x18_1,rfl,HA,HK1,HO_1,HO_4,HB⟩:=hrel
   cases gk with
   | zero=>exact absurd HA.out (by simp [scan_found.l0])
   | succ k1 =>
    have H:=HA.out
    clear HA
    simp only [scan_found.l0] at H
    by_cases c6:x18_1 < (l0.length:Int)
    ·rw [if_pos c6] at H
     have c6b0:decide (x18_1 < (l0.length:Int)) = true:=decide_eq_true c6
     clear c6
     by_cases c7:0 ≤ x18_1
     ·rw [if_pos c7] at H
      have c7b0:decide (0 ≤ x18_1) = true:=decide_eq_true c7
      clear c7
      by_cases c8:x18_1 < (l0.length:Int)
      ·rw [if_pos c8] at H
       have c8b0:decide (x18_1 < (l0.length:Int)) = true:=decide_eq_true c8
       clear c8
       have H':=Aside0.mk H
       clear H
       have p102:0 ≤ (x18_1:Int):=of_decide_eq_true (by first|(with_reducible assumption)|assumption)
       have q102:x18_1 < (l0.length:Int):=of_decide_eq_true (by first|(with_reducible assumption)|assumption)
       obtain ⟨ad102,e102,hx102_0,hx102_1,hx102_2,hx102_3,hx102_4,hx102_5⟩:=at_T73 HR0.out x18_1 p102 q102
       cases e102
       replace hx102_0:=(HB.out.cell (World.block_lt_of_cell? w _ hx102_0)).trans hx102_0
       replace hx102_1:=(HB.out.cell (World.block_lt_of_cell? w _ hx102_1)).trans hx102_1
       replace hx102_2:=(HB.out.cell (World.block_lt_of_cell? w _ hx102_2)).trans hx102_2
       replace hx102_3:=(HB.out.cell (World.block_lt_of_cell? w _ hx102_3)).trans hx102_3
       replace hx102_4:=(HB.out.cell (World.block_lt_of_cell? w _ hx102_4)).trans hx102_4
       replace hx102_5:=(HB.out.cell (World.block_lt_of_cell? w _ hx102_5)).trans hx102_5
       replace p102:=eq_true p102
       replace q102:=eq_true q102
       go_wp2_with (first|((with_reducible refine gate_dst (N:=7) rfl ?_);refine box_event ?hg (N:=7) ?hd (cs:=#[.string (⟨#[]⟩:ByteArray),.int .i64 0,.int .i64 0,.int .i64 0,.int .i64 0,.int .i64 0]) (t:=73) ?hr ?_;(case hd=>rfl);(case hg=>rfl);(case hr=>first|(go_simp;done)|(go_simp;rfl));intro gb103 hg w9 hbox hb;have n0_:=Aside0.mk (Kd.V_below (Kd.V_elderB (by (with_reducible repeat (first|apply Kd.V_alloc|apply Kd.V_drewN|apply Kd.V_drew));exact HO_1.out) gb103 (Nat.le_of_eq hg.symm)) hb);have n1_:=Aside0.mk (Kd.N_below (Kd.N_elderB (by (with_reducible repeat (first|apply Kd.N_alloc|apply Kd.N_drewN|apply Kd.N_drew));exact HO_4.out) gb103 (Nat.le_of_eq hg.symm)) hb);have n2_:=Aside0.mk (below_step (by repeat (first|(with_reducible first|exact HB.out|apply below_alloc|apply pw_below_drewN|apply below_drew1)|exact HB.out)) hb);have n3_:=Aside0.mk (hbox);have n4_:=Aside0.mk ((by rw [hg];exact (below_size (by repeat (first|(with_reducible first|exact HB.out|apply below_alloc|apply pw_below_drewN|apply below_drew1)|exact HB.out))):w.heap.size ≤ gb103));have n5_:=Aside0.mk ((by rw [hg];exact (below_size (by repeat (first|(with_reducible first|exact HB.out|apply below_alloc|apply pw_below_drewN|apply below_drew1)|exact HB.out))):w.heap.size ≤ gb103));clear HO_1;clear HO_4;clear HB;have HO_1:=n0_;have HO_4:=n1_;have HB:=n2_;have BK103:=n3_;have GW103:=n4_;have GE103:=n5_;clear n0_ n1_ n2_ n3_ n4_ n5_;clear hb hbox hg;have hcz10_0:w9.cell? ⟨gb103,0,none⟩ = some (.string (⟨#[]⟩:ByteArray)):=(blk_cell BK103.out 0).trans rfl;have hcz10_1:w9.cell? ⟨gb103,1,none⟩ = some (.int .i64 0):=(blk_cell BK103.out 1).trans rfl;have hcz10_2:w9.cell? ⟨gb103,2,none⟩ = some (.int .i64 0):=(blk_cell BK103.out 2).trans rfl;have hcz10_3:w9.cell? ⟨gb103,3,none⟩ = some (.int .i64 0):=(blk_cell BK103.out 3).trans rfl;have hcz10_4:w9.cell? ⟨gb103,4,none⟩ = some (.int .i64 0):=(blk_cell BK103.out 4).trans rfl;have hcz10_5:w9.cell? ⟨gb103,5,none⟩ = some (.int .i64 0):=(blk_cell BK103.out 5).trans rfl;have hfz10_0:=blk_frozen BK103.out 0;have hfz10_1:=blk_frozen BK103.out 1;have hfz10_2:=blk_frozen BK103.out 2;have hfz10_3:=blk_frozen BK103.out 3;have hfz10_4:=blk_frozen BK103.out 4;have hfz10_5:=blk_frozen BK103.out 5))
       go_loopg [4,24] k1 (fun kq v4 v24 w'=>∃ (x4_2:List (S91)) (x24_2:Int),v24 = .int .i64 x24_2 ∧ Aside0 (scan_found.l1 kq l1 x4_2 l0 (l0.length:Int) x18_1 l1 (l1.length:Int) x24_2 ((rd_T73 l0 x18_1).f0.f0) ((rd_T73 l0 x18_1).f0.f1) ((rd_T73 l0 x18_1).f0.f2) ((rd_T73 l0 x18_1).f0.f3) ((rd_T73 l0 x18_1).f1) ((rd_T73 l0 x18_1).f2) = some (r1,r2)) ∧ Aside0 (kq ≤ k1) ∧ Aside0 (Kd.V k91 91 w' w.heap.size (fun k_=>(P1_ k_ ∨ w.heap.size ≤ k_) ∧ some k_ ≠ (v4:Value).ownBlock ∧ k_ ≠ gb103) (.slice A1 l1.length c1) l1) ∧ Aside0 (Kd.N k91 91 w' w.heap.size (fun k_=>(P1_ k_ ∨ w.heap.size ≤ k_) ∧ k_ ≠ gb103) v4 x4_2) ∧ Aside0 (Kd.V k91 91 w' w.heap.size (fun k_=>(P1_ k_ ∨ w.heap.size ≤ k_) ∧ some k_ ≠ (v4:Value).ownBlock ∧ k_ ≠ gb103) (.slice A1 l1.length c1) l1) ∧ Aside0 (w'.heap[gb103]? = some (.cells #[.string ((rd_T73 l0 x18_1).f0.f0),.int .i64 ((rd_T73 l0 x18_1).f0.f1),.int .i64 ((rd_T73 l0 x18_1).f0.f2),.int .i64 ((rd_T73 l0 x18_1).f0.f3),.int .i64 ((rd_T73 l0 x18_1).f1),.int .i64 ((rd_T73 l0 x18_1).f2)] 73 (0,0))) ∧ Aside0 (Below w.heap.size w w'))
       case atStart=>exact ⟨(x4_1),(0),(by first|rfl|(simp;done)|(simp [*];done)),H',⟨Nat.le_refl _⟩,⟨by (with_reducible repeat (first|apply Kd.V_alloc|apply Kd.V_drewN|apply Kd.V_drew));exact Kd.V_mono (Kd.V_far (p:=⟨gb103,5,none⟩) (Kd.V_far (p:=⟨gb103,4,none⟩) (Kd.V_far (p:=⟨gb103,3,none⟩) (Kd.V_far (p:=⟨gb103,2,none⟩) (Kd.V_far (p:=⟨gb103,1,none⟩) (Kd.V_far (p:=⟨gb103,0,none⟩) (Kd.V_mono HO_1.out (fun k_ hk=>(⟨hk,hk.2⟩:_ ∧ k_ ≠ gb103))) (fun _ hk=>hk.2) (.string ((rd_T73 l0 x18_1).f0.f0))) (fun _ hk=>hk.2) (.int .i64 ((rd_T73 l0 x18_1).f0.f1))) (fun _ hk=>hk.2) (.int .i64 ((rd_T73 l0 x18_1).f0.f2))) (fun _ hk=>hk.2) (.int .i64 ((rd_T73 l0 x18_1).f0.f3))) (fun _ hk=>hk.2) (.int .i64 ((rd_T73 l0 x18_1).f1))) (fun _ hk=>hk.2) (.int .i64 ((rd_T73 l0 x18_1).f2))) (fun _ hk=>⟨hk.1.1.1,⟨hk.1.1.2,hk.1.2⟩⟩)⟩,⟨by (with_reducible repeat (first|apply Kd.N_alloc|apply Kd.N_drewN|apply Kd.N_drew));exact Kd.N_mono (Kd.N_far (p:=⟨gb103,5,none⟩) (Kd.N_far (p:=⟨gb103,4,none⟩) (Kd.N_far (p:=⟨gb103,3,none⟩) (Kd.N_far (p:=⟨gb103,2,none⟩) (Kd.N_far (p:=⟨gb103,1,none⟩) (Kd.N_far (p:=⟨gb103,0,none⟩) (Kd.N_mono HO_4.out (fun k_ hk=>(⟨hk,hk.2⟩:_ ∧ k_ ≠ gb103))) (fun _ hk=>hk.2) (.string ((rd_T73 l0 x18_1).f0.f0))) (fun _ hk=>hk.2) (.int .i64 ((rd_T73 l0 x18_1).f0.f1))) (fun _ hk=>hk.2) (.int .i64 ((rd_T73 l0 x18_1).f0.f2))) (fun _ hk=>hk.2) (.int .i64 ((rd_T73 l0 x18_1).f0.f3))) (fun _ hk=>hk.2) (.int .i64 ((rd_T73 l0 x18_1).f1))) (fun _ hk=>hk.2) (.int .i64 ((rd_T73 l0 x18_1).f2))) (fun _ hk=>⟨hk.1.1,hk.1.2⟩)⟩,⟨by (with_reducible repeat (first|apply Kd.V_alloc|apply Kd.V_drewN|apply Kd.V_drew));exact Kd.V_mono (Kd.V_far (p:=⟨gb103,5,none⟩) (Kd.V_far (p:=⟨gb103,4,none⟩) (Kd.V_far (p:=⟨gb103,3,none⟩) (Kd.V_far (p:=⟨gb103,2,none⟩) (Kd.V_far (p:=⟨gb103,1,none⟩) (Kd.V_far (p:=⟨gb103,0,none⟩) (Kd.V_mono HO_1.out (fun k_ hk=>(⟨hk,hk.2⟩:_ ∧ k_ ≠ gb103))) (fun _ hk=>hk.2) (.string ((rd_T73 l0 x18_1).f0.f0))) (fun _ hk=>hk.2) (.int .i64 ((rd_T73 l0 x18_1).f0.f1))) (fun _ hk=>hk.2) (.int .i64 ((rd_T73 l0 x18_1).f0.f2))) (fun _ hk=>hk.2) (.int .i64 ((rd_T73 l0 x18_1).f0.f3))) (fun _ hk=>hk.2) (.int .i64 ((rd_T73 l0 x18_1).f1))) (fun _ hk=>hk.2) (.int .i64 ((rd_T73 l0 x18_1).f2))) (fun _ hk=>⟨hk.1.1.1,⟨hk.1.1.2,hk.1.2⟩⟩)⟩,⟨by (with_reducible repeat (first|refine blk_drewN ?_ _|refine blk_drew ?_|refine blk_alloc ?_ _));refine blk_put (cs:=#[.string ((rd_T73 l0 x18_1).f0.f0),.int .i64 ((rd_T73 l0 x18_1).f0.f1),.int .i64 ((rd_T73 l0 x18_1).f0.f2),.int .i64 ((rd_T73 l0 x18_1).f0.f3),.int .i64 ((rd_T73 l0 x18_1).f1),.int .i64 0]) ?_ 5 _ rfl;(with_reducible repeat (first|refine blk_drewN ?_ _|refine blk_drew ?_|refine blk_alloc ?_ _));refine blk_put (cs:=#[.string ((rd_T73 l0 x18_1).f0.f0),.int .i64 ((rd_T73 l0 x18_1).f0.f1),.int .i64 ((rd_T73 l0 x18_1).f0.f2),.int .i64 ((rd_T73 l0 x18_1).f0.f3),.int .i64 0,.int .i64 0]) ?_ 4 _ rfl;(with_reducible repeat (first|refine blk_drewN ?_ _|refine blk_drew ?_|refine blk_alloc ?_ _));refine blk_put (cs:=#[.string ((rd_T73 l0 x18_1).f0.f0),.int .i64 ((rd_T73 l0 x18_1).f0.f1),.int .i64 ((rd_T73 l0 x18_1).f0.f2),.int .i64 0,.int .i64 0,.int .i64 0]) ?_ 3 _ rfl;(with_reducible repeat (first|refine blk_drewN ?_ _|refine blk_drew ?_|refine blk_alloc ?_ _));refine blk_put (cs:=#[.string ((rd_T73 l0 x18_1).f0.f0),.int .i64 ((rd_T73 l0 x18_1).f0.f1),.int .i64 0,.int .i64 0,.int .i64 0,.int .i64 0]) ?_ 2 _ rfl;(with_reducible repeat (first|refine blk_drewN ?_ _|refine blk_drew ?_|refine blk_alloc ?_ _));refine blk_put (cs:=#[.string ((rd_T73 l0 x18_1).f0.f0),.int .i64 0,.int .i64 0,.int .i64 0,.int .i64 0,.int .i64 0]) ?_ 1 _ rfl;(with_reducible repeat (first|refine blk_drewN ?_ _|refine blk_drew ?_|refine blk_alloc ?_ _));refine blk_put (cs:=#[.string (⟨#[]⟩:ByteArray),.int .i64 0,.int .i64 0,.int .i64 0,.int .i64 0,.int .i64 0]) ?_ 0 _ rfl;(with_reducible repeat (first|refine blk_drewN ?_ _|refine blk_drew ?_|refine blk_alloc ?_ _));exact BK103.out⟩,⟨by repeat (first|(with_reducible first|exact HB.out|apply below_alloc|apply pw_below_drewN|apply below_drew1|refine below_set ?_ GE103.out)|exact HB.out)⟩⟩
       case round =>
        clear H'
        try clear c1
        try clear p1
        try clear q1
        try clear hx1
        try clear p2
        try clear c4
        try clear c4b0
        try clear c4b1
        try clear c5
        try clear c6
        try clear c6b0
        try clear c7
        try clear c7b0
        try clear c8
        try clear c8b0
        try clear p10
        try clear q10
        try clear hx10
        try clear hcz10_0
        try clear hcz10_1
        try clear hcz10_2
        try clear hcz10_3
        try clear hcz10_4
        try clear hcz10_5
        try clear hfz10_0
        try clear hfz10_1
        try clear hfz10_2
        try clear hfz10_3
        try clear hfz10_4
        try clear hfz10_5
        try clear hx102_0
        try clear hx102_1
        try clear hx102_2
        try clear hx102_3
        try clear hx102_4
        try clear hx102_5
        try clear p102
        try clear p2
        try clear q102
        obtain ⟨x4_2,x24_2,rfl,HA,HK2,HO_1,HO_4,HO_22,BK103,HB⟩:=hrel
        cases gk with
        | zero=>exact absurd HA.out (by simp [scan_found.l1])
        | succ k2 =>
         have H:=HA.out
         clear HA
         simp only [scan_found.l1] at H
         by_cases c11:x24_2 < (l1.length:Int)
         ·rw [if_pos c11] at H
          have c11b0:decide (x24_2 < (l1.length:Int)) = true:=decide_eq_true c11
          clear c11
          by_cases c12:0 ≤ x24_2
          ·rw [if_pos c12] at H
           have c12b0:decide (0 ≤ x24_2) = true:=decide_eq_true c12
           clear c12
           by_cases c13:x24_2 < (l1.length:Int)
           ·rw [if_pos c13] at H
            have c13b0:decide (x24_2 < (l1.length:Int)) = true:=decide_eq_true c13
            clear c13
            by_cases c14:((((rd_T91 l1 x24_2).f0.f0).toList) == ((rd_T73 l0 x18_1).f0.f0).toList && (((rd_T91 l1 x24_2).f0.f1) == ((rd_T73 l0 x18_1).f0.f1) && (((rd_T91 l1 x24_2).f0.f2) == ((rd_T73 l0 x18_1).f0.f2) && (((rd_T91 l1 x24_2).f0.f3) == ((rd_T73 l0 x18_1).f0.f3))))) = true
            ·rw [if_pos c14] at H
             have c14b0:((((rd_T91 l1 x24_2).f0.f0).toList) == ((rd_T73 l0 x18_1).f0.f0).toList && (((rd_T91 l1 x24_2).f0.f1) == ((rd_T73 l0 x18_1).f0.f1) && (((rd_T91 l1 x24_2).f0.f2) == ((rd_T73 l0 x18_1).f0.f2) && (((rd_T91 l1 x24_2).f0.f3) == ((rd_T73 l0 x18_1).f0.f3))))) = true:=c14
             (try (have c14b1:decide ((((rd_T91 l1 x24_2).f0.f0).toList) = ((rd_T73 l0 x18_1).f0.f0).toList && (((rd_T91 l1 x24_2).f0.f1) == ((rd_T73 l0 x18_1).f0.f1) && (((rd_T91 l1 x24_2).f0.f2) == ((rd_T73 l0 x18_1).f0.f2) && (((rd_T91 l1 x24_2).f0.f3) == ((rd_T73 l0 x18_1).f0.f3))))) = true:=by simpa using c14))
             (try (have c14b2:((((rd_T91 l1 x24_2).f0.f0).toList) == ((rd_T73 l0 x18_1).f0.f0).toList && (((rd_T91 l1 x24_2).f0.f1) == ((rd_T73 l0 x18_1).f0.f1) && (((rd_T91 l1 x24_2).f0.f2) == ((rd_T73 l0 x18_1).f0.f2) && (((rd_T91 l1 x24_2).f0.f3) == ((rd_T73 l0 x18_1).f0.f3))))) = true:=by simpa using c14))
             clear c14
             by_cases c15:x4_2.length < 1954687338268
             ·rw [if_pos c15] at H
              have LMc15:=Aside0.mk c15
              clear c15
              obtain ⟨y106,hy106⟩:∃ y_:List (S91),y_ = (x4_2 ++ [(⟨(⟨(rd_T91 l1 x24_2).f0.f0,(rd_T91 l1 x24_2).f0.f1,(rd_T91 l1 x24_2).f0.f2,(rd_T91 l1 x24_2).f0.f3⟩:S39),(rd_T91 l1 x24_2).f1,(rd_T91 l1 x24_2).f2⟩:S91)]):=⟨_,rfl⟩
              replace H:(scan_found.l0 k2 l1 y106 l0 (l0.length:Int) (wrap64 (x18_1 + 1))) = some (r1,r2):=by first|(rw [hy106];with_reducible exact H)|(have H2_:=(Option.bind_some _ _).symm.trans H;rw [hy106];with_reducible exact H2_)|(have H2_:=(Option.bind_some _ _).symm.trans H;with_reducible exact H2_)|with_reducible exact H|(rw [hy106];exact H)|exact H
              have Ny106:=Aside0.mk hy106
              clear hy106
              have H':=Aside0.mk H
              clear H
              have p104:0 ≤ (x24_2:Int):=of_decide_eq_true (by first|(with_reducible assumption)|assumption)
              have q104:x24_2 < (l1.length:Int):=of_decide_eq_true (by first|(with_reducible assumption)|assumption)
              obtain ⟨ad104,A104_4,c104_4,e104,hx104_0,hx104_1,hx104_2,hx104_3,hx104_4,hx104_5,hl104_4,hi104_4⟩:=at_T91 (Kd.V_reads' HO_22.out).2.2 x24_2 p104 q104
              cases e104
              obtain ⟨ce104,hce104,hMe104,hcc104⟩:=Kd.V_get HO_22.out z91 x24_2 p104 (by first|exact q104|exact of_decide_eq_true (by first|(with_reducible assumption)|assumption)|(have e_:=(Kd.V_reads' HO_22.out).1;omega))
              obtain ⟨ua104_4,uc104_4,rfl,ul104_4,ge104_4⟩:=k91_openF hMe104
              have hv104_4:=hcc104 4 _ rfl
              rw [add_field _ _ 4 (by omega)] at hv104_4
              replace hv104_4:=Option.some.inj (hv104_4.symm.trans hx104_4)
              injection hv104_4 with hva_ hvn_ hvc_
              rw [hva_] at ge104_4
              rw [hvc_] at ul104_4
              have HL104_4:=Aside0.mk (show Kd.V (Kd.int .i64) 3 _ w.heap.size _ _ ((rd_T91 l1 x24_2).f1) from Kd.V_mk ul104_4 ge104_4)
              clear hva_ hvn_ hvc_ ge104_4 ul104_4
              clear hcc104 hce104
              have HR104_4:=Aside0.mk hi104_4
              have HC104_4:=Aside0.mk hl104_4
              clear hi104_4 hl104_4
              replace p104:=eq_true p104
              replace q104:=eq_true q104
              go_wp2_with (first|((with_reducible refine gate_dst (N:=9) rfl ?_);refine box_event ?hg (N:=9) ?hd (cs:=#[.string (⟨#[]⟩:ByteArray),.int .i64 0,.int .i64 0,.int .i64 0,.slice none 0 0,.int .i64 0]) (t:=91) ?hr ?_;(case hd=>rfl);(case hg=>rfl);(case hr=>first|(go_simp;done)|(go_simp;rfl));intro gb105 hg w16 hbox hb;have n0_:=Aside0.mk (Kd.V_below (Kd.V_elderB (by (with_reducible repeat (first|apply Kd.V_alloc|apply Kd.V_drewN|apply Kd.V_drew));exact HO_1.out) gb105 (Nat.le_of_eq hg.symm)) hb);have n1_:=Aside0.mk (Kd.N_below (Kd.N_elderB (by (with_reducible repeat (first|apply Kd.N_alloc|apply Kd.N_drewN|apply Kd.N_drew));exact HO_4.out) gb105 (Nat.le_of_eq hg.symm)) hb);have n2_:=Aside0.mk (Kd.V_below (Kd.V_elderB (by (with_reducible repeat (first|apply Kd.V_alloc|apply Kd.V_drewN|apply Kd.V_drew));exact HO_22.out) gb105 (Nat.le_of_eq hg.symm)) hb);have n3_:=Aside0.mk (Kd.V_below (Kd.V_elderB (by (with_reducible repeat (first|apply Kd.V_alloc|apply Kd.V_drewN|apply Kd.V_drew));exact HL104_4.out) gb105 (Nat.le_of_eq hg.symm)) hb);have n4_:=Aside0.mk (blk_below (g:=gb103) (o:=.cells #[.string ((rd_T73 l0 x18_1).f0.f0),.int .i64 ((rd_T73 l0 x18_1).f0.f1),.int .i64 ((rd_T73 l0 x18_1).f0.f2),.int .i64 ((rd_T73 l0 x18_1).f0.f3),.int .i64 ((rd_T73 l0 x18_1).f1),.int .i64 ((rd_T73 l0 x18_1).f2)] 73 (0,0)) (by (with_reducible repeat (first|refine blk_drewN ?_ _|refine blk_drew ?_|refine blk_alloc ?_ _));exact BK103.out) hb);have n5_:=Aside0.mk (Kd.C_below (by repeat (first|(with_reducible exact HR104_4.out)|(with_reducible refine Kd.C_alloc ?_ _)|(with_reducible refine Kd.C_drewN ?_ _)|(with_reducible refine Kd.C_drew ?_)|exact HR104_4.out)) hb);have n6_:=Aside0.mk (below_step (by repeat (first|(with_reducible first|exact HB.out|apply below_alloc|apply pw_below_drewN|apply below_drew1|refine below_set ?_ GE103.out)|exact HB.out)) hb);have n7_:=Aside0.mk (hbox);have n8_:=Aside0.mk ((by rw [hg];exact (below_size (by repeat (first|(with_reducible first|exact HB.out|apply below_alloc|apply pw_below_drewN|apply below_drew1|refine below_set ?_ GE103.out)|exact HB.out))):w.heap.size ≤ gb105));have n9_:=Aside0.mk ((by rw [hg];exact (below_size (by repeat (first|(with_reducible first|exact HB.out|apply below_alloc|apply pw_below_drewN|apply below_drew1|refine below_set ?_ GE103.out)|exact HB.out))):w.heap.size ≤ gb105));have n10_:=Aside0.mk ((by rw [hg];exact Nat.ne_of_lt (blk_lt (g:=gb103) (o:=.cells #[.string ((rd_T73 l0 x18_1).f0.f0),.int .i64 ((rd_T73 l0 x18_1).f0.f1),.int .i64 ((rd_T73 l0 x18_1).f0.f2),.int .i64 ((rd_T73 l0 x18_1).f0.f3),.int .i64 ((rd_T73 l0 x18_1).f1),.int .i64 ((rd_T73 l0 x18_1).f2)] 73 (0,0)) (by (with_reducible repeat (first|refine blk_drewN ?_ _|refine blk_drew ?_|refine blk_alloc ?_ _));exact BK103.out)):gb103 ≠ gb105));have n11_:=Aside0.mk ((by rw [hg];exact Nat.ne_of_gt (blk_lt (g:=gb103) (o:=.cells #[.string ((rd_T73 l0 x18_1).f0.f0),.int .i64 ((rd_T73 l0 x18_1).f0.f1),.int .i64 ((rd_T73 l0 x18_1).f0.f2),.int .i64 ((rd_T73 l0 x18_1).f0.f3),.int .i64 ((rd_T73 l0 x18_1).f1),.int .i64 ((rd_T73 l0 x18_1).f2)] 73 (0,0)) (by (with_reducible repeat (first|refine blk_drewN ?_ _|refine blk_drew ?_|refine blk_alloc ?_ _));exact BK103.out)):gb105 ≠ gb103));clear HO_1;clear HO_4;clear HO_22;clear HL104_4;clear BK103;clear HR104_4;clear HB;have HO_1:=n0_;have HO_4:=n1_;have HO_22:=n2_;have HL104_4:=n3_;have BK103:=n4_;have HR104_4:=n5_;have HB:=n6_;have BK105:=n7_;have GW105:=n8_;have GE105:=n9_;have NB103_105:=n10_;have NB105_103:=n11_;clear n0_ n1_ n2_ n3_ n4_ n5_ n6_ n7_ n8_ n9_ n10_ n11_;clear hb hbox hg;have hnb17:=NB105_103.out;have hnc17:=NB103_105.out;have hcz18_0:w16.cell? ⟨gb105,0,none⟩ = some (.string (⟨#[]⟩:ByteArray)):=(blk_cell BK105.out 0).trans rfl;have hcz18_1:w16.cell? ⟨gb105,1,none⟩ = some (.int .i64 0):=(blk_cell BK105.out 1).trans rfl;have hcz18_2:w16.cell? ⟨gb105,2,none⟩ = some (.int .i64 0):=(blk_cell BK105.out 2).trans rfl;have hcz18_3:w16.cell? ⟨gb105,3,none⟩ = some (.int .i64 0):=(blk_cell BK105.out 3).trans rfl;have hcz18_4:w16.cell? ⟨gb105,4,none⟩ = some (.slice none 0 0):=(blk_cell BK105.out 4).trans rfl;have hcz18_5:w16.cell? ⟨gb105,5,none⟩ = some (.int .i64 0):=(blk_cell BK105.out 5).trans rfl;have hfz18_0:=blk_frozen BK105.out 0;have hfz18_1:=blk_frozen BK105.out 1;have hfz18_2:=blk_frozen BK105.out 2;have hfz18_3:=blk_frozen BK105.out 3;have hfz18_4:=blk_frozen BK105.out 4;have hfz18_5:=blk_frozen BK105.out 5)|((with_reducible refine gate_store (t:=91) (p:=9) rfl ?_);refine store_event (t:=91) (p:=9) (v:=?vo_w19) (w1:=((((((w16.setCell ⟨gb105,0,none⟩ (.string ((rd_T91 l1 x24_2).f0.f0))).setCell ⟨gb105,1,none⟩ (.int .i64 ((rd_T91 l1 x24_2).f0.f1))).setCell ⟨gb105,2,none⟩ (.int .i64 ((rd_T91 l1 x24_2).f0.f2))).setCell ⟨gb105,3,none⟩ (.int .i64 ((rd_T91 l1 x24_2).f0.f3))).setCell ⟨gb105,4,none⟩ (.slice A104_4 ((rd_T91 l1 x24_2).f1).length c104_4)).setCell ⟨gb105,5,none⟩ (.int .i64 ((rd_T91 l1 x24_2).f2)))) ?hg ?ho ?hn ?hr ?_;(case ho=>rfl);(case hg=>rfl);(case hn=>rfl);(case hr=>first|(go_simp;done)|(go_simp;rfl));intro w19 hw;have n0_:Aside0 (Kd.V k91 91 w19 w.heap.size (fun k_=>(P1_ k_ ∨ w.heap.size ≤ k_) ∧ some k_ ≠ (u4:Value).ownBlock ∧ k_ ≠ gb103 ∧ k_ ≠ gb105) (.slice (some ad104) l1.length c1) l1):=⟨(by rw [hw];exact (by (with_reducible repeat (first|apply Kd.V_alloc|apply Kd.V_drewN|apply Kd.V_drew));exact Kd.V_mono (Kd.V_far (p:=⟨gb105,5,none⟩) (Kd.V_far (p:=⟨gb105,4,none⟩) (Kd.V_far (p:=⟨gb105,3,none⟩) (Kd.V_far (p:=⟨gb105,2,none⟩) (Kd.V_far (p:=⟨gb105,1,none⟩) (Kd.V_far (p:=⟨gb105,0,none⟩) (Kd.V_mono HO_1.out (fun k_ hk=>(⟨hk,hk.2⟩:_ ∧ k_ ≠ gb105))) (fun _ hk=>hk.2) (.string ((rd_T91 l1 x24_2).f0.f0))) (fun _ hk=>hk.2) (.int .i64 ((rd_T91 l1 x24_2).f0.f1))) (fun _ hk=>hk.2) (.int .i64 ((rd_T91 l1 x24_2).f0.f2))) (fun _ hk=>hk.2) (.int .i64 ((rd_T91 l1 x24_2).f0.f3))) (fun _ hk=>hk.2) (.slice A104_4 ((rd_T91 l1 x24_2).f1).length c104_4)) (fun _ hk=>hk.2) (.int .i64 ((rd_T91 l1 x24_2).f2))) (fun _ hk=>⟨hk.1.1.1,⟨hk.1.1.2.1,⟨hk.1.1.2.2,hk.1.2⟩⟩⟩)))⟩;have n1_:Aside0 (Kd.N k91 91 w19 w.heap.size (fun k_=>(P1_ k_ ∨ w.heap.size ≤ k_) ∧ k_ ≠ gb103 ∧ k_ ≠ gb105) u4 x4_2):=⟨(by rw [hw];exact (by (with_reducible repeat (first|apply Kd.N_alloc|apply Kd.N_drewN|apply Kd.N_drew));exact Kd.N_mono (Kd.N_far (p:=⟨gb105,5,none⟩) (Kd.N_far (p:=⟨gb105,4,none⟩) (Kd.N_far (p:=⟨gb105,3,none⟩) (Kd.N_far (p:=⟨gb105,2,none⟩) (Kd.N_far (p:=⟨gb105,1,none⟩) (Kd.N_far (p:=⟨gb105,0,none⟩) (Kd.N_mono HO_4.out (fun k_ hk=>(⟨hk,hk.2⟩:_ ∧ k_ ≠ gb105))) (fun _ hk=>hk.2) (.string ((rd_T91 l1 x24_2).f0.f0))) (fun _ hk=>hk.2) (.int .i64 ((rd_T91 l1 x24_2).f0.f1))) (fun _ hk=>hk.2) (.int .i64 ((rd_T91 l1 x24_2).f0.f2))) (fun _ hk=>hk.2) (.int .i64 ((rd_T91 l1 x24_2).f0.f3))) (fun _ hk=>hk.2) (.slice A104_4 ((rd_T91 l1 x24_2).f1).length c104_4)) (fun _ hk=>hk.2) (.int .i64 ((rd_T91 l1 x24_2).f2))) (fun _ hk=>⟨hk.1.1.1,⟨hk.1.1.2,hk.1.2⟩⟩)))⟩;have n2_:Aside0 (Kd.V k91 91 w19 w.heap.size (fun k_=>(P1_ k_ ∨ w.heap.size ≤ k_) ∧ some k_ ≠ (u4:Value).ownBlock ∧ k_ ≠ gb103 ∧ k_ ≠ gb105) (.slice (some ad104) l1.length c1) l1):=⟨(by rw [hw];exact (by (with_reducible repeat (first|apply Kd.V_alloc|apply Kd.V_drewN|apply Kd.V_drew));exact Kd.V_mono (Kd.V_far (p:=⟨gb105,5,none⟩) (Kd.V_far (p:=⟨gb105,4,none⟩) (Kd.V_far (p:=⟨gb105,3,none⟩) (Kd.V_far (p:=⟨gb105,2,none⟩) (Kd.V_far (p:=⟨gb105,1,none⟩) (Kd.V_far (p:=⟨gb105,0,none⟩) (Kd.V_mono HO_22.out (fun k_ hk=>(⟨hk,hk.2⟩:_ ∧ k_ ≠ gb105))) (fun _ hk=>hk.2) (.string ((rd_T91 l1 x24_2).f0.f0))) (fun _ hk=>hk.2) (.int .i64 ((rd_T91 l1 x24_2).f0.f1))) (fun _ hk=>hk.2) (.int .i64 ((rd_T91 l1 x24_2).f0.f2))) (fun _ hk=>hk.2) (.int .i64 ((rd_T91 l1 x24_2).f0.f3))) (fun _ hk=>hk.2) (.slice A104_4 ((rd_T91 l1 x24_2).f1).length c104_4)) (fun _ hk=>hk.2) (.int .i64 ((rd_T91 l1 x24_2).f2))) (fun _ hk=>⟨hk.1.1.1,⟨hk.1.1.2.1,⟨hk.1.1.2.2,hk.1.2⟩⟩⟩)))⟩;have n3_:Aside0 (Kd.V (Kd.int .i64) 3 w19 w.heap.size (fun k_=>(P1_ k_ ∨ w.heap.size ≤ k_) ∧ some k_ ≠ (u4:Value).ownBlock ∧ k_ ≠ gb103 ∧ k_ ≠ gb105) (.slice A104_4 ((rd_T91 l1 x24_2).f1).length c104_4) ((rd_T91 l1 x24_2).f1)):=⟨(by rw [hw];exact (by (with_reducible repeat (first|apply Kd.V_alloc|apply Kd.V_drewN|apply Kd.V_drew));exact Kd.V_mono (Kd.V_far (p:=⟨gb105,5,none⟩) (Kd.V_far (p:=⟨gb105,4,none⟩) (Kd.V_far (p:=⟨gb105,3,none⟩) (Kd.V_far (p:=⟨gb105,2,none⟩) (Kd.V_far (p:=⟨gb105,1,none⟩) (Kd.V_far (p:=⟨gb105,0,none⟩) (Kd.V_mono HL104_4.out (fun k_ hk=>(⟨hk,hk.2⟩:_ ∧ k_ ≠ gb105))) (fun _ hk=>hk.2) (.string ((rd_T91 l1 x24_2).f0.f0))) (fun _ hk=>hk.2) (.int .i64 ((rd_T91 l1 x24_2).f0.f1))) (fun _ hk=>hk.2) (.int .i64 ((rd_T91 l1 x24_2).f0.f2))) (fun _ hk=>hk.2) (.int .i64 ((rd_T91 l1 x24_2).f0.f3))) (fun _ hk=>hk.2) (.slice A104_4 ((rd_T91 l1 x24_2).f1).length c104_4)) (fun _ hk=>hk.2) (.int .i64 ((rd_T91 l1 x24_2).f2))) (fun _ hk=>⟨hk.1.1.1,⟨hk.1.1.2.1,⟨hk.1.1.2.2,hk.1.2⟩⟩⟩)))⟩;have n4_:Aside0 (w19.heap[gb103]? = some (.cells #[.string ((rd_T73 l0 x18_1).f0.f0),.int .i64 ((rd_T73 l0 x18_1).f0.f1),.int .i64 ((rd_T73 l0 x18_1).f0.f2),.int .i64 ((rd_T73 l0 x18_1).f0.f3),.int .i64 ((rd_T73 l0 x18_1).f1),.int .i64 ((rd_T73 l0 x18_1).f2)] 73 (0,0))):=⟨(by rw [hw];exact (by (with_reducible repeat (first|refine blk_drewN ?_ _|refine blk_drew ?_|refine blk_alloc ?_ _));refine blk_far ?_ NB103_105.out _;(with_reducible repeat (first|refine blk_drewN ?_ _|refine blk_drew ?_|refine blk_alloc ?_ _));refine blk_far ?_ NB103_105.out _;(with_reducible repeat (first|refine blk_drewN ?_ _|refine blk_drew ?_|refine blk_alloc ?_ _));refine blk_far ?_ NB103_105.out _;(with_reducible repeat (first|refine blk_drewN ?_ _|refine blk_drew ?_|refine blk_alloc ?_ _));refine blk_far ?_ NB103_105.out _;(with_reducible repeat (first|refine blk_drewN ?_ _|refine blk_drew ?_|refine blk_alloc ?_ _));refine blk_far ?_ NB103_105.out _;(with_reducible repeat (first|refine blk_drewN ?_ _|refine blk_drew ?_|refine blk_alloc ?_ _));refine blk_far ?_ NB103_105.out _;(with_reducible repeat (first|refine blk_drewN ?_ _|refine blk_drew ?_|refine blk_alloc ?_ _));exact BK103.out))⟩;have n5_:Aside0 (w19.heap[gb105]? = some (.cells #[.string ((rd_T91 l1 x24_2).f0.f0),.int .i64 ((rd_T91 l1 x24_2).f0.f1),.int .i64 ((rd_T91 l1 x24_2).f0.f2),.int .i64 ((rd_T91 l1 x24_2).f0.f3),.slice A104_4 ((rd_T91 l1 x24_2).f1).length c104_4,.int .i64 ((rd_T91 l1 x24_2).f2)] 91 (0,0))):=⟨(by rw [hw];exact (by (with_reducible repeat (first|refine blk_drewN ?_ _|refine blk_drew ?_|refine blk_alloc ?_ _));refine blk_put (cs:=#[.string ((rd_T91 l1 x24_2).f0.f0),.int .i64 ((rd_T91 l1 x24_2).f0.f1),.int .i64 ((rd_T91 l1 x24_2).f0.f2),.int .i64 ((rd_T91 l1 x24_2).f0.f3),.slice A104_4 ((rd_T91 l1 x24_2).f1).length c104_4,.int .i64 0]) ?_ 5 _ rfl;(with_reducible repeat (first|refine blk_drewN ?_ _|refine blk_drew ?_|refine blk_alloc ?_ _));refine blk_put (cs:=#[.string ((rd_T91 l1 x24_2).f0.f0),.int .i64 ((rd_T91 l1 x24_2).f0.f1),.int .i64 ((rd_T91 l1 x24_2).f0.f2),.int .i64 ((rd_T91 l1 x24_2).f0.f3),.slice none 0 0,.int .i64 0]) ?_ 4 _ rfl;(with_reducible repeat (first|refine blk_drewN ?_ _|refine blk_drew ?_|refine blk_alloc ?_ _));refine blk_put (cs:=#[.string ((rd_T91 l1 x24_2).f0.f0),.int .i64 ((rd_T91 l1 x24_2).f0.f1),.int .i64 ((rd_T91 l1 x24_2).f0.f2),.int .i64 0,.slice none 0 0,.int .i64 0]) ?_ 3 _ rfl;(with_reducible repeat (first|refine blk_drewN ?_ _|refine blk_drew ?_|refine blk_alloc ?_ _));refine blk_put (cs:=#[.string ((rd_T91 l1 x24_2).f0.f0),.int .i64 ((rd_T91 l1 x24_2).f0.f1),.int .i64 0,.int .i64 0,.slice none 0 0,.int .i64 0]) ?_ 2 _ rfl;(with_reducible repeat (first|refine blk_drewN ?_ _|refine blk_drew ?_|refine blk_alloc ?_ _));refine blk_put (cs:=#[.string ((rd_T91 l1 x24_2).f0.f0),.int .i64 0,.int .i64 0,.int .i64 0,.slice none 0 0,.int .i64 0]) ?_ 1 _ rfl;(with_reducible repeat (first|refine blk_drewN ?_ _|refine blk_drew ?_|refine blk_alloc ?_ _));refine blk_put (cs:=#[.string (⟨#[]⟩:ByteArray),.int .i64 0,.int .i64 0,.int .i64 0,.slice none 0 0,.int .i64 0]) ?_ 0 _ rfl;(with_reducible repeat (first|refine blk_drewN ?_ _|refine blk_drew ?_|refine blk_alloc ?_ _));exact BK105.out))⟩;have n6_:Aside0 (Below w.heap.size w w19):=⟨(by rw [hw];exact (by repeat (first|(with_reducible first|exact HB.out|apply below_alloc|apply pw_below_drewN|apply below_drew1|refine below_set ?_ GE103.out|refine below_set ?_ GE105.out)|exact HB.out)))⟩;clear hw;clear HO_1;clear HO_4;clear HO_22;clear HL104_4;clear BK103;clear BK105;clear HB;have HO_1:=n0_;have HO_4:=n1_;have HO_22:=n2_;have HL104_4:=n3_;have BK103:=n4_;have BK105:=n5_;have HB:=n6_;clear n0_ n1_ n2_ n3_ n4_ n5_ n6_;have hcz20_0:w19.cell? ⟨gb105,0,none⟩ = some (.string ((rd_T91 l1 x24_2).f0.f0)):=(blk_cell BK105.out 0).trans rfl;have hcz20_1:w19.cell? ⟨gb105,1,none⟩ = some (.int .i64 ((rd_T91 l1 x24_2).f0.f1)):=(blk_cell BK105.out 1).trans rfl;have hcz20_2:w19.cell? ⟨gb105,2,none⟩ = some (.int .i64 ((rd_T91 l1 x24_2).f0.f2)):=(blk_cell BK105.out 2).trans rfl;have hcz20_3:w19.cell? ⟨gb105,3,none⟩ = some (.int .i64 ((rd_T91 l1 x24_2).f0.f3)):=(blk_cell BK105.out 3).trans rfl;have hcz20_4:w19.cell? ⟨gb105,4,none⟩ = some (.slice A104_4 ((rd_T91 l1 x24_2).f1).length c104_4):=(blk_cell BK105.out 4).trans rfl;have hcz20_5:w19.cell? ⟨gb105,5,none⟩ = some (.int .i64 ((rd_T91 l1 x24_2).f2)):=(blk_cell BK105.out 5).trans rfl;have hfz20_0:=blk_frozen BK105.out 0;have hfz20_1:=blk_frozen BK105.out 1;have hfz20_2:=blk_frozen BK105.out 2;have hfz20_3:=blk_frozen BK105.out 3;have hfz20_4:=blk_frozen BK105.out 4;have hfz20_5:=blk_frozen BK105.out 5;have hcz21_0:w19.cell? ⟨gb103,0,none⟩ = some (.string ((rd_T73 l0 x18_1).f0.f0)):=(blk_cell BK103.out 0).trans rfl;have hcz21_1:w19.cell? ⟨gb103,1,none⟩ = some (.int .i64 ((rd_T73 l0 x18_1).f0.f1)):=(blk_cell BK103.out 1).trans rfl;have hcz21_2:w19.cell? ⟨gb103,2,none⟩ = some (.int .i64 ((rd_T73 l0 x18_1).f0.f2)):=(blk_cell BK103.out 2).trans rfl;have hcz21_3:w19.cell? ⟨gb103,3,none⟩ = some (.int .i64 ((rd_T73 l0 x18_1).f0.f3)):=(blk_cell BK103.out 3).trans rfl;have hcz21_4:w19.cell? ⟨gb103,4,none⟩ = some (.int .i64 ((rd_T73 l0 x18_1).f1)):=(blk_cell BK103.out 4).trans rfl;have hcz21_5:w19.cell? ⟨gb103,5,none⟩ = some (.int .i64 ((rd_T73 l0 x18_1).f2)):=(blk_cell BK103.out 5).trans rfl;have hfz21_0:=blk_frozen BK103.out 0;have hfz21_1:=blk_frozen BK103.out 1;have hfz21_2:=blk_frozen BK103.out 2;have hfz21_3:=blk_frozen BK103.out 3;have hfz21_4:=blk_frozen BK103.out 4;have hfz21_5:=blk_frozen BK103.out 5)|((with_reducible refine gate_builtin (b:=.append) (xs:=#[.tmp 33,.tmp 35]) rfl ?_);at_builtin;refine Kd.N_append k91 (w0:=w) w.heap.size rfl (.tmp 33) (.tmp 35) 56 91 (.agg #[(.string ⟨#[]⟩),(.int .i64 0),(.int .i64 0),(.int .i64 0),(.slice none 0 0),(.int .i64 0)]) 72 rfl Try.underlying56 info91 rfl (by decide) (by omega) u4 x4_2 (⟨(⟨(rd_T91 l1 x24_2).f0.f0,(rd_T91 l1 x24_2).f0.f1,(rd_T91 l1 x24_2).f0.f2,(rd_T91 l1 x24_2).f0.f3⟩:S39),(rd_T91 l1 x24_2).f1,(rd_T91 l1 x24_2).f2⟩:S91) [.string ((rd_T91 l1 x24_2).f0.f0),.int .i64 ((rd_T91 l1 x24_2).f0.f1),.int .i64 ((rd_T91 l1 x24_2).f0.f2),.int .i64 ((rd_T91 l1 x24_2).f0.f3),.slice A104_4 ((rd_T91 l1 x24_2).f1).length c104_4,.int .i64 ((rd_T91 l1 x24_2).f2)] (fun k_=>(P1_ k_ ∨ w.heap.size ≤ k_) ∧ k_ ≠ gb103 ∧ k_ ≠ gb105) (fun k_=>((fun k_=>(P1_ k_ ∨ w.heap.size ≤ k_) ∧ k_ ≠ gb103 ∧ k_ ≠ gb105)) k_ ∧ some k_ ≠ (u4:Value).ownBlock) rfl rfl ?aP (fun _ hk=>hk) ?aF ?aO ?aB ?aS ?aL ?_;(case aP=>exact (k91_mkF _ _ (⟨(⟨(rd_T91 l1 x24_2).f0.f0,(rd_T91 l1 x24_2).f0.f1,(rd_T91 l1 x24_2).f0.f2,(rd_T91 l1 x24_2).f0.f3⟩:S39),(rd_T91 l1 x24_2).f1,(rd_T91 l1 x24_2).f2⟩:S91) (Kd.V_reads' (Kd.V_mono (ok':=(fun k_=>((fun k_=>(P1_ k_ ∨ w.heap.size ≤ k_) ∧ k_ ≠ gb103 ∧ k_ ≠ gb105)) k_ ∧ some k_ ≠ (u4:Value).ownBlock)) (HL104_4.out) (fun k_ hk=>⟨⟨hk.1,⟨hk.2.2.1,hk.2.2.2⟩⟩,hk.2.1⟩))).2.1 (Kd.V_F (Kd.V_mono (ok':=(fun k_=>((fun k_=>(P1_ k_ ∨ w.heap.size ≤ k_) ∧ k_ ≠ gb103 ∧ k_ ≠ gb105)) k_ ∧ some k_ ≠ (u4:Value).ownBlock)) (HL104_4.out) (fun k_ hk=>⟨⟨hk.1,⟨hk.2.2.1,hk.2.2.2⟩⟩,hk.2.1⟩)))));(case aB=>exact (by repeat (first|(with_reducible first|exact HB.out|apply below_alloc|apply pw_below_drewN|apply below_drew1|refine below_set ?_ GE103.out|refine below_set ?_ GE105.out)|exact HB.out)));(case aF=>exact (fun k_ hk=>⟨(.inr (Nat.le_trans (below_size (by repeat (first|(with_reducible first|exact HB.out|apply below_alloc|apply pw_below_drewN|apply below_drew1|refine below_set ?_ GE103.out|refine below_set ?_ GE105.out)|exact HB.out))) hk)),Kd.freshB (g:=gb103) (o:=.cells #[.string ((rd_T73 l0 x18_1).f0.f0),.int .i64 ((rd_T73 l0 x18_1).f0.f1),.int .i64 ((rd_T73 l0 x18_1).f0.f2),.int .i64 ((rd_T73 l0 x18_1).f0.f3),.int .i64 ((rd_T73 l0 x18_1).f1),.int .i64 ((rd_T73 l0 x18_1).f2)] 73 (0,0)) (by (with_reducible repeat (first|refine blk_drewN ?_ _|refine blk_drew ?_|refine blk_alloc ?_ _));exact BK103.out) k_ hk,Kd.freshB (g:=gb105) (o:=.cells #[.string ((rd_T91 l1 x24_2).f0.f0),.int .i64 ((rd_T91 l1 x24_2).f0.f1),.int .i64 ((rd_T91 l1 x24_2).f0.f2),.int .i64 ((rd_T91 l1 x24_2).f0.f3),.slice A104_4 ((rd_T91 l1 x24_2).f1).length c104_4,.int .i64 ((rd_T91 l1 x24_2).f2)] 91 (0,0)) (by (with_reducible repeat (first|refine blk_drewN ?_ _|refine blk_drew ?_|refine blk_alloc ?_ _));exact BK105.out) k_ hk⟩));(case aO=>exact (by (with_reducible repeat (first|apply Kd.N_alloc|apply Kd.N_drewN|apply Kd.N_drew));exact HO_4.out));(case aS=>exact (below_size (by repeat (first|(with_reducible first|exact HB.out|apply below_alloc|apply pw_below_drewN|apply below_drew1|refine below_set ?_ GE103.out|refine below_set ?_ GE105.out)|exact HB.out))));(case aL=>have:=LMc15.out;omega);intro v107 w22 ho hb hg hat;rw [← Ny106.out] at ho;have n0_:=Aside0.mk (Kd.V_afterv (ok:=(fun k_=>(P1_ k_ ∨ w.heap.size ≤ k_) ∧ k_ ≠ gb103 ∧ k_ ≠ gb105)) (by (with_reducible repeat (first|apply Kd.V_alloc|apply Kd.V_drewN|apply Kd.V_drew));exact Kd.V_mono HO_1.out (fun _ hk=>⟨⟨hk.1,⟨hk.2.2.1,hk.2.2.2⟩⟩,hk.2.1⟩)) hg hat);have n1_:=Aside0.mk (Kd.V_afterv (ok:=(fun k_=>(P1_ k_ ∨ w.heap.size ≤ k_) ∧ k_ ≠ gb103 ∧ k_ ≠ gb105)) (by (with_reducible repeat (first|apply Kd.V_alloc|apply Kd.V_drewN|apply Kd.V_drew));exact Kd.V_mono HO_22.out (fun _ hk=>⟨⟨hk.1,⟨hk.2.2.1,hk.2.2.2⟩⟩,hk.2.1⟩)) hg hat);have n2_:=Aside0.mk (blk_grown (g:=gb103) (o:=.cells #[.string ((rd_T73 l0 x18_1).f0.f0),.int .i64 ((rd_T73 l0 x18_1).f0.f1),.int .i64 ((rd_T73 l0 x18_1).f0.f2),.int .i64 ((rd_T73 l0 x18_1).f0.f3),.int .i64 ((rd_T73 l0 x18_1).f1),.int .i64 ((rd_T73 l0 x18_1).f2)] 73 (0,0)) (by (with_reducible repeat (first|refine blk_drewN ?_ _|refine blk_drew ?_|refine blk_alloc ?_ _));exact BK103.out) hg (Kd.N_ne HO_4.out BK103.out (by decide)));have n3_:=Aside0.mk (Kd.V_afterv (ok:=(fun k_=>(P1_ k_ ∨ w.heap.size ≤ k_) ∧ k_ ≠ gb103 ∧ k_ ≠ gb105)) (by (with_reducible repeat (first|apply Kd.V_alloc|apply Kd.V_drewN|apply Kd.V_drew));exact Kd.V_mono HL104_4.out (fun _ hk=>⟨⟨hk.1,⟨hk.2.2.1,hk.2.2.2⟩⟩,hk.2.1⟩)) hg hat);have n4_:=Aside0.mk (blk_grown (g:=gb105) (o:=.cells #[.string ((rd_T91 l1 x24_2).f0.f0),.int .i64 ((rd_T91 l1 x24_2).f0.f1),.int .i64 ((rd_T91 l1 x24_2).f0.f2),.int .i64 ((rd_T91 l1 x24_2).f0.f3),.slice A104_4 ((rd_T91 l1 x24_2).f1).length c104_4,.int .i64 ((rd_T91 l1 x24_2).f2)] 91 (0,0)) (by (with_reducible repeat (first|refine blk_drewN ?_ _|refine blk_drew ?_|refine blk_alloc ?_ _));exact BK105.out) hg (Kd.N_away HO_4.out (fun _ hk=>hk.2.2)));have n5_:=Aside0.mk (hb);have n6_:=Aside0.mk (ho);clear HO_1;clear HO_22;clear BK103;clear HL104_4;clear BK105;clear HB;clear HO_4;have HO_1:=n0_;have HO_22:=n1_;have BK103:=n2_;have HL104_4:=n3_;have BK105:=n4_;have HB:=n5_;have HO108:=n6_;clear n0_ n1_ n2_ n3_ n4_ n5_ n6_;clear ho hb hg hat))
              go_roundg k2
              case measure=>have:=HK1.out;have:=HK2.out;omega
              case rel=>exact ⟨(y106),(wrap64 (x18_1 + 1)),(by first|rfl|(simp;done)|(simp [*];done)),H',⟨by have:=HK1.out;have:=HK2.out;omega⟩,⟨by (with_reducible repeat (first|apply Kd.V_alloc|apply Kd.V_drewN|apply Kd.V_drew));exact Kd.V_mono HO_1.out (fun _ hk=>⟨hk.1.1,hk.2⟩)⟩,⟨by (with_reducible repeat (first|apply Kd.N_alloc|apply Kd.N_drewN|apply Kd.N_drew));exact Kd.N_mono HO108.out (fun _ hk=>hk.1)⟩,⟨by repeat (first|(with_reducible first|exact HB.out|apply below_alloc|apply pw_below_drewN|apply below_drew1|refine below_set ?_ GE103.out|refine below_set ?_ GE105.out)|exact HB.out)⟩⟩
             ·rw [if_neg c15] at H
              exact absurd H (by simp)
            ·rw [if_neg c14] at H
             have c14b0:((((rd_T91 l1 x24_2).f0.f0).toList) == ((rd_T73 l0 x18_1).f0.f0).toList && (((rd_T91 l1 x24_2).f0.f1) == ((rd_T73 l0 x18_1).f0.f1) && (((rd_T91 l1 x24_2).f0.f2) == ((rd_T73 l0 x18_1).f0.f2) && (((rd_T91 l1 x24_2).f0.f3) == ((rd_T73 l0 x18_1).f0.f3))))) = false:=by simpa using c14
             (try (have c14b1:decide ((((rd_T91 l1 x24_2).f0.f0).toList) = ((rd_T73 l0 x18_1).f0.f0).toList && (((rd_T91 l1 x24_2).f0.f1) == ((rd_T73 l0 x18_1).f0.f1) && (((rd_T91 l1 x24_2).f0.f2) == ((rd_T73 l0 x18_1).f0.f2) && (((rd_T91 l1 x24_2).f0.f3) == ((rd_T73 l0 x18_1).f0.f3))))) = false:=by simpa using c14))
             (try (have c14b2:((((rd_T91 l1 x24_2).f0.f0).toList) == ((rd_T73 l0 x18_1).f0.f0).toList && (((rd_T91 l1 x24_2).f0.f1) == ((rd_T73 l0 x18_1).f0.f1) && (((rd_T91 l1 x24_2).f0.f2) == ((rd_T73 l0 x18_1).f0.f2) && (((rd_T91 l1 x24_2).f0.f3) == ((rd_T73 l0 x18_1).f0.f3))))) = false:=by simpa using c14))
             (try (have c14b3:¬ ((((rd_T91 l1 x24_2).f0.f0).toList) = ((rd_T73 l0 x18_1).f0.f0).toList && (((rd_T91 l1 x24_2).f0.f1) == ((rd_T73 l0 x18_1).f0.f1) && (((rd_T91 l1 x24_2).f0.f2) == ((rd_T73 l0 x18_1).f0.f2) && (((rd_T91 l1 x24_2).f0.f3) == ((rd_T73 l0 x18_1).f0.f3))))):=by simpa using c14))
             clear c14
             have H':=Aside0.mk H
             clear H
             have p104:0 ≤ (x24_2:Int):=of_decide_eq_true (by first|(with_reducible assumption)|assumption)
             have q104:x24_2 < (l1.length:Int):=of_decide_eq_true (by first|(with_reducible assumption)|assumption)
             obtain ⟨ad104,A104_4,c104_4,e104,hx104_0,hx104_1,hx104_2,hx104_3,hx104_4,hx104_5,hl104_4,hi104_4⟩:=at_T91 (Kd.V_reads' HO_22.out).2.2 x24_2 p104 q104
             cases e104
             obtain ⟨ce104,hce104,hMe104,hcc104⟩:=Kd.V_get HO_22.out z91 x24_2 p104 (by first|exact q104|exact of_decide_eq_true (by first|(with_reducible assumption)|assumption)|(have e_:=(Kd.V_reads' HO_22.out).1;omega))
             obtain ⟨ua104_4,uc104_4,rfl,ul104_4,ge104_4⟩:=k91_openF hMe104
             have hv104_4:=hcc104 4 _ rfl
             rw [add_field _ _ 4 (by omega)] at hv104_4
             replace hv104_4:=Option.some.inj (hv104_4.symm.trans hx104_4)
             injection hv104_4 with hva_ hvn_ hvc_
             rw [hva_] at ge104_4
             rw [hvc_] at ul104_4
             have HL104_4:=Aside0.mk (show Kd.V (Kd.int .i64) 3 _ w.heap.size _ _ ((rd_T91 l1 x24_2).f1) from Kd.V_mk ul104_4 ge104_4)
             clear hva_ hvn_ hvc_ ge104_4 ul104_4
             clear hcc104 hce104
             have HR104_4:=Aside0.mk hi104_4
             have HC104_4:=Aside0.mk hl104_4
             clear hi104_4 hl104_4
             replace p104:=eq_true p104
             replace q104:=eq_true q104
             go_wp2_with (first|((with_reducible refine gate_dst (N:=9) rfl ?_);refine box_event ?hg (N:=9) ?hd (cs:=#[.string (⟨#[]⟩:ByteArray),.int .i64 0,.int .i64 0,.int .i64 0,.slice none 0 0,.int .i64 0]) (t:=91) ?hr ?_;(case hd=>rfl);(case hg=>rfl);(case hr=>first|(go_simp;done)|(go_simp;rfl));intro gb105 hg w23 hbox hb;have n0_:=Aside0.mk (Kd.V_below (Kd.V_elderB (by (with_reducible repeat (first|apply Kd.V_alloc|apply Kd.V_drewN|apply Kd.V_drew));exact HO_1.out) gb105 (Nat.le_of_eq hg.symm)) hb);have n1_:=Aside0.mk (Kd.N_below (Kd.N_elderB (by (with_reducible repeat (first|apply Kd.N_alloc|apply Kd.N_drewN|apply Kd.N_drew));exact HO_4.out) gb105 (Nat.le_of_eq hg.symm)) hb);have n2_:=Aside0.mk (Kd.V_below (Kd.V_elderB (by (with_reducible repeat (first|apply Kd.V_alloc|apply Kd.V_drewN|apply Kd.V_drew));exact HO_22.out) gb105 (Nat.le_of_eq hg.symm)) hb);have n3_:=Aside0.mk (Kd.V_below (Kd.V_elderB (by (with_reducible repeat (first|apply Kd.V_alloc|apply Kd.V_drewN|apply Kd.V_drew));exact HL104_4.out) gb105 (Nat.le_of_eq hg.symm)) hb);have n4_:=Aside0.mk (blk_below (g:=gb103) (o:=.cells #[.string ((rd_T73 l0 x18_1).f0.f0),.int .i64 ((rd_T73 l0 x18_1).f0.f1),.int .i64 ((rd_T73 l0 x18_1).f0.f2),.int .i64 ((rd_T73 l0 x18_1).f0.f3),.int .i64 ((rd_T73 l0 x18_1).f1),.int .i64 ((rd_T73 l0 x18_1).f2)] 73 (0,0)) (by (with_reducible repeat (first|refine blk_drewN ?_ _|refine blk_drew ?_|refine blk_alloc ?_ _));exact BK103.out) hb);have n5_:=Aside0.mk (Kd.C_below (by repeat (first|(with_reducible exact HR104_4.out)|(with_reducible refine Kd.C_alloc ?_ _)|(with_reducible refine Kd.C_drewN ?_ _)|(with_reducible refine Kd.C_drew ?_)|exact HR104_4.out)) hb);have n6_:=Aside0.mk (below_step (by repeat (first|(with_reducible first|exact HB.out|apply below_alloc|apply pw_below_drewN|apply below_drew1|refine below_set ?_ GE103.out)|exact HB.out)) hb);have n7_:=Aside0.mk (hbox);have n8_:=Aside0.mk ((by rw [hg];exact (below_size (by repeat (first|(with_reducible first|exact HB.out|apply below_alloc|apply pw_below_drewN|apply below_drew1|refine below_set ?_ GE103.out)|exact HB.out))):w.heap.size ≤ gb105));have n9_:=Aside0.mk ((by rw [hg];exact (below_size (by repeat (first|(with_reducible first|exact HB.out|apply below_alloc|apply pw_below_drewN|apply below_drew1|refine below_set ?_ GE103.out)|exact HB.out))):w.heap.size ≤ gb105));have n10_:=Aside0.mk ((by rw [hg];exact Nat.ne_of_lt (blk_lt (g:=gb103) (o:=.cells #[.string ((rd_T73 l0 x18_1).f0.f0),.int .i64 ((rd_T73 l0 x18_1).f0.f1),.int .i64 ((rd_T73 l0 x18_1).f0.f2),.int .i64 ((rd_T73 l0 x18_1).f0.f3),.int .i64 ((rd_T73 l0 x18_1).f1),.int .i64 ((rd_T73 l0 x18_1).f2)] 73 (0,0)) (by (with_reducible repeat (first|refine blk_drewN ?_ _|refine blk_drew ?_|refine blk_alloc ?_ _));exact BK103.out)):gb103 ≠ gb105));have n11_:=Aside0.mk ((by rw [hg];exact Nat.ne_of_gt (blk_lt (g:=gb103) (o:=.cells #[.string ((rd_T73 l0 x18_1).f0.f0),.int .i64 ((rd_T73 l0 x18_1).f0.f1),.int .i64 ((rd_T73 l0 x18_1).f0.f2),.int .i64 ((rd_T73 l0 x18_1).f0.f3),.int .i64 ((rd_T73 l0 x18_1).f1),.int .i64 ((rd_T73 l0 x18_1).f2)] 73 (0,0)) (by (with_reducible repeat (first|refine blk_drewN ?_ _|refine blk_drew ?_|refine blk_alloc ?_ _));exact BK103.out)):gb105 ≠ gb103));clear HO_1;clear HO_4;clear HO_22;clear HL104_4;clear BK103;clear HR104_4;clear HB;have HO_1:=n0_;have HO_4:=n1_;have HO_22:=n2_;have HL104_4:=n3_;have BK103:=n4_;have HR104_4:=n5_;have HB:=n6_;have BK105:=n7_;have GW105:=n8_;have GE105:=n9_;have NB103_105:=n10_;have NB105_103:=n11_;clear n0_ n1_ n2_ n3_ n4_ n5_ n6_ n7_ n8_ n9_ n10_ n11_;clear hb hbox hg;have hnb24:=NB105_103.out;have hnc24:=NB103_105.out;have hcz25_0:w23.cell? ⟨gb105,0,none⟩ = some (.string (⟨#[]⟩:ByteArray)):=(blk_cell BK105.out 0).trans rfl;have hcz25_1:w23.cell? ⟨gb105,1,none⟩ = some (.int .i64 0):=(blk_cell BK105.out 1).trans rfl;have hcz25_2:w23.cell? ⟨gb105,2,none⟩ = some (.int .i64 0):=(blk_cell BK105.out 2).trans rfl;have hcz25_3:w23.cell? ⟨gb105,3,none⟩ = some (.int .i64 0):=(blk_cell BK105.out 3).trans rfl;have hcz25_4:w23.cell? ⟨gb105,4,none⟩ = some (.slice none 0 0):=(blk_cell BK105.out 4).trans rfl;have hcz25_5:w23.cell? ⟨gb105,5,none⟩ = some (.int .i64 0):=(blk_cell BK105.out 5).trans rfl;have hfz25_0:=blk_frozen BK105.out 0;have hfz25_1:=blk_frozen BK105.out 1;have hfz25_2:=blk_frozen BK105.out 2;have hfz25_3:=blk_frozen BK105.out 3;have hfz25_4:=blk_frozen BK105.out 4;have hfz25_5:=blk_frozen BK105.out 5;have hcz26_0:w23.cell? ⟨gb103,0,none⟩ = some (.string ((rd_T73 l0 x18_1).f0.f0)):=(blk_cell BK103.out 0).trans rfl;have hcz26_1:w23.cell? ⟨gb103,1,none⟩ = some (.int .i64 ((rd_T73 l0 x18_1).f0.f1)):=(blk_cell BK103.out 1).trans rfl;have hcz26_2:w23.cell? ⟨gb103,2,none⟩ = some (.int .i64 ((rd_T73 l0 x18_1).f0.f2)):=(blk_cell BK103.out 2).trans rfl;have hcz26_3:w23.cell? ⟨gb103,3,none⟩ = some (.int .i64 ((rd_T73 l0 x18_1).f0.f3)):=(blk_cell BK103.out 3).trans rfl;have hcz26_4:w23.cell? ⟨gb103,4,none⟩ = some (.int .i64 ((rd_T73 l0 x18_1).f1)):=(blk_cell BK103.out 4).trans rfl;have hcz26_5:w23.cell? ⟨gb103,5,none⟩ = some (.int .i64 ((rd_T73 l0 x18_1).f2)):=(blk_cell BK103.out 5).trans rfl;have hfz26_0:=blk_frozen BK103.out 0;have hfz26_1:=blk_frozen BK103.out 1;have hfz26_2:=blk_frozen BK103.out 2;have hfz26_3:=blk_frozen BK103.out 3;have hfz26_4:=blk_frozen BK103.out 4;have hfz26_5:=blk_frozen BK103.out 5))
             go_roundg k2
             case measure=>have:=HK1.out;have:=HK2.out;omega
             case rel=>exact ⟨(x4_2),(wrap64 (x24_2 + 1)),(by first|rfl|(simp;done)|(simp [*];done)),H',⟨by have:=HK1.out;have:=HK2.out;omega⟩,⟨by (with_reducible repeat (first|apply Kd.V_alloc|apply Kd.V_drewN|apply Kd.V_drew));exact Kd.V_mono (Kd.V_far (p:=⟨gb105,5,none⟩) (Kd.V_far (p:=⟨gb105,4,none⟩) (Kd.V_far (p:=⟨gb105,3,none⟩) (Kd.V_far (p:=⟨gb105,2,none⟩) (Kd.V_far (p:=⟨gb105,1,none⟩) (Kd.V_far (p:=⟨gb105,0,none⟩) (Kd.V_mono HO_1.out (fun k_ hk=>(⟨hk,hk.2⟩:_ ∧ k_ ≠ gb105))) (fun _ hk=>hk.2) (.string ((rd_T91 l1 x24_2).f0.f0))) (fun _ hk=>hk.2) (.int .i64 ((rd_T91 l1 x24_2).f0.f1))) (fun _ hk=>hk.2) (.int .i64 ((rd_T91 l1 x24_2).f0.f2))) (fun _ hk=>hk.2) (.int .i64 ((rd_T91 l1 x24_2).f0.f3))) (fun _ hk=>hk.2) (.slice A104_4 ((rd_T91 l1 x24_2).f1).length c104_4)) (fun _ hk=>hk.2) (.int .i64 ((rd_T91 l1 x24_2).f2))) (fun _ hk=>⟨hk.1.1.1,⟨hk.1.1.2.1,hk.1.1.2.2⟩⟩)⟩,⟨by (with_reducible repeat (first|apply Kd.N_alloc|apply Kd.N_drewN|apply Kd.N_drew));exact Kd.N_mono (Kd.N_far (p:=⟨gb105,5,none⟩) (Kd.N_far (p:=⟨gb105,4,none⟩) (Kd.N_far (p:=⟨gb105,3,none⟩) (Kd.N_far (p:=⟨gb105,2,none⟩) (Kd.N_far (p:=⟨gb105,1,none⟩) (Kd.N_far (p:=⟨gb105,0,none⟩) (Kd.N_mono HO_4.out (fun k_ hk=>(⟨hk,hk.2⟩:_ ∧ k_ ≠ gb105))) (fun _ hk=>hk.2) (.string ((rd_T91 l1 x24_2).f0.f0))) (fun _ hk=>hk.2) (.int .i64 ((rd_T91 l1 x24_2).f0.f1))) (fun _ hk=>hk.2) (.int .i64 ((rd_T91 l1 x24_2).f0.f2))) (fun _ hk=>hk.2) (.int .i64 ((rd_T91 l1 x24_2).f0.f3))) (fun _ hk=>hk.2) (.slice A104_4 ((rd_T91 l1 x24_2).f1).length c104_4)) (fun _ hk=>hk.2) (.int .i64 ((rd_T91 l1 x24_2).f2))) (fun _ hk=>⟨hk.1.1.1,hk.1.1.2⟩)⟩,⟨by (with_reducible repeat (first|apply Kd.V_alloc|apply Kd.V_drewN|apply Kd.V_drew));exact Kd.V_mono (Kd.V_far (p:=⟨gb105,5,none⟩) (Kd.V_far (p:=⟨gb105,4,none⟩) (Kd.V_far (p:=⟨gb105,3,none⟩) (Kd.V_far (p:=⟨gb105,2,none⟩) (Kd.V_far (p:=⟨gb105,1,none⟩) (Kd.V_far (p:=⟨gb105,0,none⟩) (Kd.V_mono HO_22.out (fun k_ hk=>(⟨hk,hk.2⟩:_ ∧ k_ ≠ gb105))) (fun _ hk=>hk.2) (.string ((rd_T91 l1 x24_2).f0.f0))) (fun _ hk=>hk.2) (.int .i64 ((rd_T91 l1 x24_2).f0.f1))) (fun _ hk=>hk.2) (.int .i64 ((rd_T91 l1 x24_2).f0.f2))) (fun _ hk=>hk.2) (.int .i64 ((rd_T91 l1 x24_2).f0.f3))) (fun _ hk=>hk.2) (.slice A104_4 ((rd_T91 l1 x24_2).f1).length c104_4)) (fun _ hk=>hk.2) (.int .i64 ((rd_T91 l1 x24_2).f2))) (fun _ hk=>⟨hk.1.1.1,⟨hk.1.1.2.1,hk.1.1.2.2⟩⟩)⟩,⟨by (with_reducible repeat (first|refine blk_drewN ?_ _|refine blk_drew ?_|refine blk_alloc ?_ _));refine blk_far ?_ NB103_105.out _;(with_reducible repeat (first|refine blk_drewN ?_ _|refine blk_drew ?_|refine blk_alloc ?_ _));refine blk_far ?_ NB103_105.out _;(with_reducible repeat (first|refine blk_drewN ?_ _|refine blk_drew ?_|refine blk_alloc ?_ _));refine blk_far ?_ NB103_105.out _;(with_reducible repeat (first|refine blk_drewN ?_ _|refine blk_drew ?_|refine blk_alloc ?_ _));refine blk_far ?_ NB103_105.out _;(with_reducible repeat (first|refine blk_drewN ?_ _|refine blk_drew ?_|refine blk_alloc ?_ _));refine blk_far ?_ NB103_105.out _;(with_reducible repeat (first|refine blk_drewN ?_ _|refine blk_drew ?_|refine blk_alloc ?_ _));refine blk_far ?_ NB103_105.out _;(with_reducible repeat (first|refine blk_drewN ?_ _|refine blk_drew ?_|refine blk_alloc ?_ _));exact BK103.out⟩,⟨by repeat (first|(with_reducible first|exact HB.out|apply below_alloc|apply pw_below_drewN|apply below_drew1|refine below_set ?_ GE103.out|refine below_set ?_ GE105.out)|exact HB.out)⟩⟩
           ·rw [if_neg c13] at H
            exact absurd H (by simp)
          ·rw [if_neg c12] at H
           exact absurd H (by simp)
         ·rw [if_neg c11] at H
          have c11b0:decide (x24_2 < (l1.length:Int)) = false:=decide_eq_false c11
          clear c11
          simp only [Option.some.injEq,Prod.mk.injEq] at H
          obtain ⟨rfl,rfl⟩:=H
          go_wp2
          try (go_step3;go_wp2)
          try (go_step3;go_wp2)
          try rw [Exit.noGoto_ret]
          go_ret2
          exact ⟨_,by first|rfl|(simp [errW_none,errW_some] <;> rfl)|(simp [*,errW_none,errW_some] <;> rfl),by first|exact Kd.S_nil _ _ _ _ _|exact Kd.N_nil _ _ _ _ _|exact Kd.V_nil _ _ _ _ _|exact Kd.Q_nil _ _ _ _ _|exact Kd.R_nil _ _ _ _ _,by repeat (first|(with_reducible first|exact HB.out|apply below_alloc|apply pw_below_drewN|apply below_drew1|refine below_set ?_ GE103.out)|exact HB.out)⟩
      ·rw [if_neg c8] at H
       exact absurd H (by simp)
     ·rw [if_neg c7] at H
      exact absurd H (by simp)
    ·rw [if_neg c6] at H
     have c6b0:decide (x18_1 < (l0.length:Int)) = false:=decide_eq_false c6
     clear c6
     simp only [Option.some.injEq,Prod.mk.injEq] at H
     obtain ⟨rfl,rfl⟩:=H
     go_wp2
     try (go_step3;go_wp2)
     try (go_step3;go_wp2)
     try rw [Exit.noGoto_ret]
     go_ret2
     exact ⟨_,by first|rfl|(simp [errW_none,errW_some] <;> rfl)|(simp [*,errW_none,errW_some] <;> rfl),by (with_reducible repeat (first|apply Kd.N_alloc|apply Kd.N_drewN|apply Kd.N_drew));exact HO_4.out,by repeat (first|(with_reducible first|exact HB.out|apply below_alloc|apply pw_below_drewN|apply below_drew1)|exact HB.out)⟩
 ·rw [if_neg c4] at H
  have c4b0:(t101 == 0) = false:=beq_eq_false_iff_ne.mpr c4
  have c4b1:(t101 != 0) = true:=bne_iff_ne.mpr c4
  simp only [Option.some.injEq,Prod.mk.injEq] at H
  obtain ⟨rfl,rfl⟩:=H
  go_enter Try.func57,Try.ntmps57
  go_wp2_with (first|((with_reducible refine gate_callee (f:=79) rfl ?_);refine goesL_ (some 12) rfl rfl Try.func79 (by kernel_rfl) rfl #[.slice A0 l0.length c0,.slice A1 l1.length c1] rfl (by (try simp only [List.map_toArray,List.map_cons,List.map_nil]);first|done|rfl|(simp only [List.length_drop,List.length_take];rfl)) ?_;(with_reducible refine (scan_both.calls k _ _ l0 _ _ l1 t101 _ ?side1 ?side2 ?side3 ?side4 A3.out).mono ?_);(case side1=>repeat (first|exact HR0.out|(with_reducible refine Kd.C_alloc ?_ _)|(with_reducible refine Kd.C_drewN ?_ _)|(with_reducible refine Kd.C_drew ?_)));(case side2=>exact HC0.out);(case side3=>repeat (first|exact (Kd.V_reads' HO1.out).2.2|(with_reducible refine Kd.C_alloc ?_ _)|(with_reducible refine Kd.C_drewN ?_ _)|(with_reducible refine Kd.C_drew ?_)));(case side4=>exact (Kd.V_reads' HO1.out).2.1);rintro e w27 ⟨rfl,hb⟩;refine ⟨_,rfl,?_⟩;have n0_:=Aside0.mk (Kd.V_below (by (with_reducible repeat (first|apply Kd.V_alloc|apply Kd.V_drewN|apply Kd.V_drew));exact HO1.out) hb);have n1_:=Aside0.mk (below_step (by repeat (first|(with_reducible first|exact HB.out|apply below_alloc|apply pw_below_drewN|apply below_drew1)|exact HB.out)) hb);clear HO1;clear HB;have HO1:=n0_;have HB:=n1_;clear n0_ n1_;(try clear hb);(try clear hb2);(try clear hk);(try clear hi)))
  try (go_step3;go_wp2_with (first|((with_reducible refine gate_callee (f:=79) rfl ?_);refine goesL_ (some 12) rfl rfl Try.func79 (by kernel_rfl) rfl #[.slice A0 l0.length c0,.slice A1 l1.length c1] rfl (by (try simp only [List.map_toArray,List.map_cons,List.map_nil]);first|done|rfl|(simp only [List.length_drop,List.length_take];rfl)) ?_;(with_reducible refine (scan_both.calls k _ _ l0 _ _ l1 t101 _ ?side1 ?side2 ?side3 ?side4 A3.out).mono ?_);(case side1=>repeat (first|exact HR0.out|(with_reducible refine Kd.C_alloc ?_ _)|(with_reducible refine Kd.C_drewN ?_ _)|(with_reducible refine Kd.C_drew ?_)));(case side2=>exact HC0.out);(case side3=>repeat (first|exact (Kd.V_reads' HO1.out).2.2|(with_reducible refine Kd.C_alloc ?_ _)|(with_reducible refine Kd.C_drewN ?_ _)|(with_reducible refine Kd.C_drew ?_)));(case side4=>exact (Kd.V_reads' HO1.out).2.1);rintro e w27 ⟨rfl,hb⟩;refine ⟨_,rfl,?_⟩;have n0_:=Aside0.mk (Kd.V_below (by (with_reducible repeat (first|apply Kd.V_alloc|apply Kd.V_drewN|apply Kd.V_drew));exact HO1.out) hb);have n1_:=Aside0.mk (below_step (by repeat (first|(with_reducible first|exact HB.out|apply below_alloc|apply pw_below_drewN|apply below_drew1)|exact HB.out)) hb);clear HO1;clear HB;have HO1:=n0_;have HB:=n1_;clear n0_ n1_;(try clear hb);(try clear hb2);(try clear hk);(try clear hi))))
  try (go_step3;go_wp2_with (first|((with_reducible refine gate_callee (f:=79) rfl ?_);refine goesL_ (some 12) rfl rfl Try.func79 (by kernel_rfl) rfl #[.slice A0 l0.length c0,.slice A1 l1.length c1] rfl (by (try simp only [List.map_toArray,List.map_cons,List.map_nil]);first|done|rfl|(simp only [List.length_drop,List.length_take];rfl)) ?_;(with_reducible refine (scan_both.calls k _ _ l0 _ _ l1 t101 _ ?side1 ?side2 ?side3 ?side4 A3.out).mono ?_);(case side1=>repeat (first|exact HR0.out|(with_reducible refine Kd.C_alloc ?_ _)|(with_reducible refine Kd.C_drewN ?_ _)|(with_reducible refine Kd.C_drew ?_)));(case side2=>exact HC0.out);(case side3=>repeat (first|exact (Kd.V_reads' HO1.out).2.2|(with_reducible refine Kd.C_alloc ?_ _)|(with_reducible refine Kd.C_drewN ?_ _)|(with_reducible refine Kd.C_drew ?_)));(case side4=>exact (Kd.V_reads' HO1.out).2.1);rintro e w27 ⟨rfl,hb⟩;refine ⟨_,rfl,?_⟩;have n0_:=Aside0.mk (Kd.V_below (by (with_reducible repeat (first|apply Kd.V_alloc|apply Kd.V_drewN|apply Kd.V_drew));exact HO1.out) hb);have n1_:=Aside0.mk (below_step (by repeat (first|(with_reducible first|exact HB.out|apply below_alloc|apply pw_below_drewN|apply below_drew1)|exact HB.out)) hb);clear HO1;clear HB;have HO1:=n0_;have HB:=n1_;clear n0_ n1_;(try clear hb);(try clear hb2);(try clear hk);(try clear hi))))
  try rw [Exit.noGoto_ret]
  go_ret2
  exact ⟨_,by first|rfl|(simp [errW_none,errW_some] <;> rfl)|(simp [*,errW_none,errW_some] <;> rfl),by first|exact Kd.S_nil _ _ _ _ _|exact Kd.N_nil _ _ _ _ _|exact Kd.V_nil _ _ _ _ _|exact Kd.Q_nil _ _ _ _ _|exact Kd.R_nil _ _ _ _ _,by repeat (first|(with_reducible first|exact HB.out|apply below_alloc|apply pw_below_drewN|apply below_drew1)|exact HB.out)⟩
end Go.Proofs.Ytbgeceiddcokmaa.X
end
