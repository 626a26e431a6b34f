/- For ScanParts: contracts, and facts on lists and numbers, that it uses (part 5). -/
import Derived.Test.YtbgeceiddcokmaaScanPartsc4
section
namespace Go.Proofs.Ytbgeceiddcokmaa.X
open Go.RowKit Go.Proofs.YtbgeceiddcokmaaW.PrintWords Go.Proofs.YtbgeceiddcokmaaW.PrintLast Go.Proofs.YtbgeceiddcokmaaW.PrintMore
attribute [local go_sem] max2_int min2_int max_two min_two max_three min_three max_four min_four
set_option linter.unusedVariables false
set_option linter.unusedSimpArgs false
def scan_Products.l0:Nat → List ByteArray → List (List (S73)) → List (S73) → Int → Int → Option (List ByteArray × (List (List (S73))))
 | 0,_,_,_,_,_=>none
 | k + 1,x2,x3,x10,x11,x12=>if x12 < x11 then (if 0 ≤ x12 then (if x12 < (x10.length:Int) then (if (x2.length:Int) = 0 then (if x2.length < 8796093022208 then (if x3.length < 5864062014805 then ((some (x3 ++ [([]:List (S73))]:List (List (S73)))).bind fun y107=>(if 0 ≤ (wrap64 ((y107.length:Int) - 1)) then (if (wrap64 ((y107.length:Int) - 1)) < (y107.length:Int) then (if (rd_L14 y107 (wrap64 ((y107.length:Int) - 1))).length < 2513169434916 then (scan_Products.l0 k (x2 ++ [(rd_T73 x10 x12).f0.f0]) (y107.set ((wrap64 ((y107.length:Int) - 1)):Int).toNat ((rd_L14 y107 (wrap64 ((y107.length:Int) - 1))) ++ [(⟨(⟨(rd_T73 x10 x12).f0.f0,(rd_T73 x10 x12).f0.f1,(rd_T73 x10 x12).f0.f2,(rd_T73 x10 x12).f0.f3⟩:S39),(rd_T73 x10 x12).f1,(rd_T73 x10 x12).f2⟩:S73)])) x10 x11 (wrap64 (x12 + 1))) else (none)) else (none)) else (none))) else (none)) else (none)) else (if 0 ≤ (wrap64 ((x2.length:Int) - 1)) then (if (wrap64 ((x2.length:Int) - 1)) < (x2.length:Int) then (if (rdOf ByteArray.empty x2 (wrap64 ((x2.length:Int) - 1))).toList = ((rd_T73 x10 x12).f0.f0).toList then (if 0 ≤ (wrap64 ((x3.length:Int) - 1)) then (if (wrap64 ((x3.length:Int) - 1)) < (x3.length:Int) then (if (rd_L14 x3 (wrap64 ((x3.length:Int) - 1))).length < 2513169434916 then (scan_Products.l0 k x2 (x3.set ((wrap64 ((x3.length:Int) - 1)):Int).toNat ((rd_L14 x3 (wrap64 ((x3.length:Int) - 1))) ++ [(⟨(⟨(rd_T73 x10 x12).f0.f0,(rd_T73 x10 x12).f0.f1,(rd_T73 x10 x12).f0.f2,(rd_T73 x10 x12).f0.f3⟩:S39),(rd_T73 x10 x12).f1,(rd_T73 x10 x12).f2⟩:S73)])) x10 x11 (wrap64 (x12 + 1))) else (none)) else (none)) else (none)) else (if x2.length < 8796093022208 then (if x3.length < 5864062014805 then ((some (x3 ++ [([]:List (S73))]:List (List (S73)))).bind fun y124=>(if 0 ≤ (wrap64 ((y124.length:Int) - 1)) then (if (wrap64 ((y124.length:Int) - 1)) < (y124.length:Int) then (if (rd_L14 y124 (wrap64 ((y124.length:Int) - 1))).length < 2513169434916 then (scan_Products.l0 k (x2 ++ [(rd_T73 x10 x12).f0.f0]) (y124.set ((wrap64 ((y124.length:Int) - 1)):Int).toNat ((rd_L14 y124 (wrap64 ((y124.length:Int) - 1))) ++ [(⟨(⟨(rd_T73 x10 x12).f0.f0,(rd_T73 x10 x12).f0.f1,(rd_T73 x10 x12).f0.f2,(rd_T73 x10 x12).f0.f3⟩:S39),(rd_T73 x10 x12).f1,(rd_T73 x10 x12).f2⟩:S73)])) x10 x11 (wrap64 (x12 + 1))) else (none)) else (none)) else (none))) else (none)) else (none))) else (none)) else (none))) else (none)) else (none)) else (some (x2,x3))
def scan_Products.f (k:Nat) (l0:List (S73)):Option (List ByteArray × (List (List (S73)))):=(position_Check.f k l0).bind fun t101=>(if t101 = 0 then (scan_Products.l0 k ([]:List ByteArray) ([]:List (List (S73))) l0 (l0.length:Int) 0) else (some (([]:List ByteArray),([]:List (List (S73))))))
def scan_Products.T7:Bool × List (List Nat × List Nat):=(true,[([],[]),([0],[0]),([1],[1]),([2],[2]),([2],[2]),([4,2],[2,4]),([3,5,2],[2,3,5]),([6,2],[2,6]),([2],[2]),([8,2],[2,8]),([9,2],[2,9]),([7,10,2],[2,7,10]),([2,11],[2,11])])
def scan_Products.B7:List Nat:=[0,1,3,7,7,23,63,127,7,263,775,2047,4095]
theorem scan_Products.tab7:rtab .any (opsOf Try.f37 7) = scan_Products.T7:=by kernel_rfl
theorem scan_Products.bits7:waitsOk scan_Products.T7.2 scan_Products.B7 = true:=by kernel_rfl
def scan_Products.T10:Bool × List (List Nat × List Nat):=(true,[([],[]),([],[]),([1],[1]),([2],[2]),([],[]),([],[]),([5],[5]),([6],[6]),([4,7],[4,7]),([8],[8]),([],[]),([10],[10]),([9,11],[9,11]),([0,3,0,1,2,3,4,5,6,7,8,9,10,11,12],[0,3]),([13,12,12,0,1,2,3,4,5,6,7,8,9,10,11,12],[12,13])])
def scan_Products.B10:List Nat:=[0,0,2,6,0,0,32,96,240,496,0,1024,4080,8191,16383]
theorem scan_Products.tab10:rtab .any (opsOf Try.f37 10) = scan_Products.T10:=by kernel_rfl
theorem scan_Products.bits10:waitsOk scan_Products.T10.2 scan_Products.B10 = true:=by kernel_rfl
set_option maxHeartbeats 8000000 in
set_option maxRecDepth 100000 in
theorem scan_Products.calls (k:Nat) (A0:Option Addr) (c0:Nat) (l0:List (S73)) (r1:List ByteArray) (r2:List (List (S73))) (w:World) (hr0:Kd.C k73 w A0 l0.length l0) (hc0:l0.length ≤ c0) (h:scan_Products.f k l0 = some (r1,r2)) :
  Calls Try.prog 37 #[.slice A0 l0.length c0] w fun e w'=>∃ v0_ v1_:Value,e = .returned (.tuple #[v0_,v1_]) ∧ Kd.R Kd.string 9 w' w.heap.size (fun _=>True) v0_ r1 ∧ Kd.S (Kd.slice 73 k73) 55 w' w.heap.size (fun _=>True) v1_ r2 ∧ Below w.heap.size w w':=by
 have hu73:=Try.underlying73
 have HR0:=Aside0.mk hr0
 have HC0:=Aside0.mk hc0
 clear hr0 hc0
 have HB:=Aside0.mk (Below.refl w.heap.size w)
 have H:((position_Check.f k l0).bind fun t101=>(if t101 = 0 then (scan_Products.l0 k ([]:List ByteArray) ([]:List (List (S73))) l0 (l0.length:Int) 0) else (some (([]:List ByteArray),([]:List (List (S73))))))) = some (r1,r2):=h
 clear h
 replace H:=Option.bind_eq_some_iff.mp H
 obtain ⟨t101,A20,H⟩:=H
 replace H:(if t101 = 0 then (scan_Products.l0 k ([]:List ByteArray) ([]:List (List (S73))) l0 (l0.length:Int) 0) else (some (([]:List ByteArray),([]:List (List (S73)))))) = some (r1,r2):=H
 have A2:=Aside0.mk A20
 clear A20
 by_cases c3:t101 = 0
 ·rw [if_pos c3] at H
  have c3b0:(t101 == 0) = true:=beq_iff_eq.mpr c3
  have c3b1:(t101 != 0) = false:=bne_eq_false_iff_eq.mpr c3
  clear c3
  have H':=Aside0.mk H
  clear H
  go_enter Try.func37,Try.ntmps37
  go_wp2_with (first|((with_reducible refine gate_callee (f:=65) rfl ?_);refine goesL_ (some 8) rfl rfl Try.func65 (by kernel_rfl) rfl #[.slice A0 l0.length c0] rfl (by (try simp only [List.map_toArray,List.map_cons,List.map_nil]);first|done|rfl|(simp only [List.length_drop,List.length_take];rfl)) ?_;(with_reducible refine (position_Check.calls k _ _ l0 t101 _ ?side1 ?side2 A2.out).mono ?_);(case side1=>repeat (first|exact HR0.out|(with_reducible refine Kd.C_alloc ?_ _)|(with_reducible refine Kd.C_drewN ?_ _)|(with_reducible refine Kd.C_drew ?_)));(case side2=>exact HC0.out);rintro e w4 ⟨rfl,hb⟩;refine ⟨_,rfl,?_⟩;have n0_:=Aside0.mk (below_step (by repeat (first|(with_reducible first|exact HB.out|apply below_alloc|apply pw_below_drewN|apply below_drew1)|exact HB.out)) hb);clear HB;have HB:=n0_;clear n0_;(try clear hb);(try clear hb2);(try clear hk);(try clear hi)))
  go_loopg [2,3,12] k (fun kq v2 v3 v12 w'=>∃ (x2_1:List ByteArray) (x3_1:List (List (S73))) (x12_1:Int),v12 = .int .i64 x12_1 ∧ Aside0 (scan_Products.l0 kq x2_1 x3_1 l0 (l0.length:Int) x12_1 = some (r1,r2)) ∧ Aside0 (kq ≤ k) ∧ Aside0 (Kd.R Kd.string 9 w' w.heap.size (fun _=>True) v2 x2_1) ∧ Aside0 (Kd.S (Kd.slice 73 k73) 55 w' w.heap.size (fun _=>True) v3 x3_1) ∧ Aside0 (Below w.heap.size w w'))
  case atStart=>exact ⟨(([]:List ByteArray)),(([]:List (List (S73)))),(0),(by first|rfl|(simp;done)|(simp [*];done)),H',⟨Nat.le_refl _⟩,⟨by first|exact Kd.R_nil _ _ _ _ _|exact Kd.N_nil _ _ _ _ _|exact Kd.V_nil _ _ _ _ _|exact Kd.Q_nil _ _ _ _ _|exact Kd.S_nil _ _ _ _ _⟩,⟨by first|exact Kd.S_nil _ _ _ _ _|exact Kd.N_nil _ _ _ _ _|exact Kd.V_nil _ _ _ _ _|exact Kd.Q_nil _ _ _ _ _|exact Kd.R_nil _ _ _ _ _⟩,⟨by repeat (first|(with_reducible first|exact HB.out|apply below_alloc|apply pw_below_drewN|apply below_drew1)|exact HB.out)⟩⟩
  case round =>
   clear H'
   try clear p2
   try clear c3
   try clear c3b0
   try clear c3b1
   obtain ⟨x2_1,x3_1,x12_1,rfl,HA,HK1,HO_2,HO_3,HB⟩:=hrel
   cases gk with
   | zero=>exact absurd HA.out (by simp [scan_Products.l0])
   | succ k1 =>
    have H:=HA.out
    clear HA
    simp only [scan_Products.l0] at H
    by_cases c5:x12_1 < (l0.length:Int)
    ·rw [if_pos c5] at H
     have c5b0:decide (x12_1 < (l0.length:Int)) = true:=decide_eq_true c5
     clear c5
     by_cases c6:0 ≤ x12_1
     ·rw [if_pos c6] at H
      have c6b0:decide (0 ≤ x12_1) = true:=decide_eq_true c6
      clear c6
      by_cases c7:x12_1 < (l0.length:Int)
      ·rw [if_pos c7] at H
       have c7b0:decide (x12_1 < (l0.length:Int)) = true:=decide_eq_true c7
       clear c7
       by_cases c8:(x2_1.length:Int) = 0
       ·rw [if_pos c8] at H
        have c8b0:((x2_1.length:Int) == 0) = true:=beq_iff_eq.mpr c8
        have c8b1:((x2_1.length:Int) != 0) = false:=bne_eq_false_iff_eq.mpr c8
        clear c8
        by_cases c9:x2_1.length < 8796093022208
        ·rw [if_pos c9] at H
         have LMc9:=Aside0.mk c9
         clear c9
         obtain ⟨y104,hy104⟩:∃ y_:List ByteArray,y_ = (x2_1 ++ [(rd_T73 l0 x12_1).f0.f0]):=⟨_,rfl⟩
         replace H:(if x3_1.length < 5864062014805 then ((some (x3_1 ++ [([]:List (S73))]:List (List (S73)))).bind fun y107=>(if 0 ≤ (wrap64 ((y107.length:Int) - 1)) then (if (wrap64 ((y107.length:Int) - 1)) < (y107.length:Int) then (if (rd_L14 y107 (wrap64 ((y107.length:Int) - 1))).length < 2513169434916 then (scan_Products.l0 k1 y104 (y107.set ((wrap64 ((y107.length:Int) - 1)):Int).toNat ((rd_L14 y107 (wrap64 ((y107.length:Int) - 1))) ++ [(⟨(⟨(rd_T73 l0 x12_1).f0.f0,(rd_T73 l0 x12_1).f0.f1,(rd_T73 l0 x12_1).f0.f2,(rd_T73 l0 x12_1).f0.f3⟩:S39),(rd_T73 l0 x12_1).f1,(rd_T73 l0 x12_1).f2⟩:S73)])) l0 (l0.length:Int) (wrap64 (x12_1 + 1))) else (none)) else (none)) else (none))) else (none)) = some (r1,r2):=by first|(rw [hy104];with_reducible exact H)|(have H2_:=(Option.bind_some _ _).symm.trans H;rw [hy104];with_reducible exact H2_)|(have H2_:=(Option.bind_some _ _).symm.trans H;with_reducible exact H2_)|with_reducible exact H|(rw [hy104];exact H)|exact H
         have Ny104:=Aside0.mk hy104
         clear hy104
         by_cases c10:x3_1.length < 5864062014805
         ·rw [if_pos c10] at H
          have LMc10:=Aside0.mk c10
          clear c10
          obtain ⟨y107,hy107⟩:∃ y_:List (List (S73)),y_ = (x3_1 ++ [([]:List (S73))]):=⟨_,rfl⟩
          replace H:(if 0 ≤ (wrap64 ((y107.length:Int) - 1)) then (if (wrap64 ((y107.length:Int) - 1)) < (y107.length:Int) then (if (rd_L14 y107 (wrap64 ((y107.length:Int) - 1))).length < 2513169434916 then (scan_Products.l0 k1 y104 (y107.set ((wrap64 ((y107.length:Int) - 1)):Int).toNat ((rd_L14 y107 (wrap64 ((y107.length:Int) - 1))) ++ [(⟨(⟨(rd_T73 l0 x12_1).f0.f0,(rd_T73 l0 x12_1).f0.f1,(rd_T73 l0 x12_1).f0.f2,(rd_T73 l0 x12_1).f0.f3⟩:S39),(rd_T73 l0 x12_1).f1,(rd_T73 l0 x12_1).f2⟩:S73)])) l0 (l0.length:Int) (wrap64 (x12_1 + 1))) else (none)) else (none)) else (none)) = some (r1,r2):=by first|(rw [hy107];with_reducible exact H)|(have H2_:=(Option.bind_some _ _).symm.trans H;rw [hy107];with_reducible exact H2_)|(have H2_:=(Option.bind_some _ _).symm.trans H;with_reducible exact H2_)|with_reducible exact H|(rw [hy107];exact H)|exact H
          have Ny107:=Aside0.mk hy107
          clear hy107
          obtain ⟨ji11,hji11⟩:∃ j_:Int,(wrap64 ((y107.length:Int) - 1)) = j_:=⟨_,rfl⟩
          replace H:(if 0 ≤ (ji11) then (if (ji11) < (y107.length:Int) then (if (rd_L14 y107 (ji11)).length < 2513169434916 then (scan_Products.l0 k1 y104 (y107.set ((ji11):Int).toNat ((rd_L14 y107 (ji11)) ++ [(⟨(⟨(rd_T73 l0 x12_1).f0.f0,(rd_T73 l0 x12_1).f0.f1,(rd_T73 l0 x12_1).f0.f2,(rd_T73 l0 x12_1).f0.f3⟩:S39),(rd_T73 l0 x12_1).f1,(rd_T73 l0 x12_1).f2⟩:S73)])) l0 (l0.length:Int) (wrap64 (x12_1 + 1))) else (none)) else (none)) else (none)) = some (r1,r2):=by first|(rw [hji11] at H;exact H)|(simp only [hji11] at H ⊢;exact H)
          have hji11w:(IntKind.i64.wrap ((y107.length:Int) - 1)) = ji11:=(i64_w _).trans hji11
          by_cases c12:0 ≤ (ji11)
          ·rw [if_pos c12] at H
           have c12b0:decide (0 ≤ (ji11)) = true:=decide_eq_true c12
           clear c12
           by_cases c13:(ji11) < (y107.length:Int)
           ·rw [if_pos c13] at H
            have c13b0:decide ((ji11) < (y107.length:Int)) = true:=decide_eq_true c13
            clear c13
            by_cases c14:(rd_L14 y107 (ji11)).length < 2513169434916
            ·rw [if_pos c14] at H
             have LMc14:=Aside0.mk c14
             clear c14
             obtain ⟨y111,hy111⟩:∃ y_:List (S73),y_ = ((rd_L14 y107 (ji11)) ++ [(⟨(⟨(rd_T73 l0 x12_1).f0.f0,(rd_T73 l0 x12_1).f0.f1,(rd_T73 l0 x12_1).f0.f2,(rd_T73 l0 x12_1).f0.f3⟩:S39),(rd_T73 l0 x12_1).f1,(rd_T73 l0 x12_1).f2⟩:S73)]):=⟨_,rfl⟩
             replace H:(scan_Products.l0 k1 y104 (y107.set ((ji11):Int).toNat y111) l0 (l0.length:Int) (wrap64 (x12_1 + 1))) = some (r1,r2):=by first|(rw [hy111];with_reducible exact H)|(have H2_:=(Option.bind_some _ _).symm.trans H;rw [hy111];with_reducible exact H2_)|(have H2_:=(Option.bind_some _ _).symm.trans H;with_reducible exact H2_)|with_reducible exact H|(rw [hy111];exact H)|exact H
             have Ny111:=Aside0.mk hy111
             clear hy111
             obtain ⟨y114,hy114⟩:∃ y_:List (List (S73)),y_ = (y107.set ((ji11):Int).toNat y111):=⟨_,rfl⟩
             replace H:(scan_Products.l0 k1 y104 y114 l0 (l0.length:Int) (wrap64 (x12_1 + 1))) = some (r1,r2):=by first|(rw [hy114];with_reducible exact H)|(have H2_:=(Option.bind_some _ _).symm.trans H;rw [hy114];with_reducible exact H2_)|(have H2_:=(Option.bind_some _ _).symm.trans H;with_reducible exact H2_)|with_reducible exact H|(rw [hy114];exact H)|exact H
             have Ny114:=Aside0.mk hy114
             clear hy114
             have H':=Aside0.mk H
             clear H
             have p102:0 ≤ (x12_1:Int):=of_decide_eq_true (by first|(with_reducible assumption)|assumption)
             have q102:x12_1 < (l0.length:Int):=of_decide_eq_true (by first|(with_reducible assumption)|assumption)
             obtain ⟨ad102,e102,hx102_0,hx102_1,hx102_2,hx102_3,hx102_4,hx102_5⟩:=at_T73 HR0.out x12_1 p102 q102
             cases e102
             replace hx102_0:=(HB.out.cell (World.block_lt_of_cell? w _ hx102_0)).trans hx102_0
             replace hx102_1:=(HB.out.cell (World.block_lt_of_cell? w _ hx102_1)).trans hx102_1
             replace hx102_2:=(HB.out.cell (World.block_lt_of_cell? w _ hx102_2)).trans hx102_2
             replace hx102_3:=(HB.out.cell (World.block_lt_of_cell? w _ hx102_3)).trans hx102_3
             replace hx102_4:=(HB.out.cell (World.block_lt_of_cell? w _ hx102_4)).trans hx102_4
             replace hx102_5:=(HB.out.cell (World.block_lt_of_cell? w _ hx102_5)).trans hx102_5
             replace p102:=eq_true p102
             replace q102:=eq_true q102
             try go_wp2_with (first|((with_reducible refine gate_dst (N:=5) rfl ?_);refine box_event ?hg (N:=5) ?hd (cs:=#[.string (⟨#[]⟩:ByteArray),.int .i64 0,.int .i64 0,.int .i64 0,.int .i64 0,.int .i64 0]) (t:=73) ?hr ?_;(case hd=>rfl);(case hg=>rfl);(case hr=>first|(go_simp;done)|(go_simp;rfl));intro gb103 hg w16 hbox hb;have n0_:=Aside0.mk (Kd.R_below (by (with_reducible repeat (first|apply Kd.R_alloc|apply Kd.R_drewN|apply Kd.R_drew));exact HO_2.out) hb);have n1_:=Aside0.mk (Kd.S_below (Kd.S_elderB (by (with_reducible repeat (first|apply Kd.S_alloc|apply Kd.S_drewN|apply Kd.S_drew));exact HO_3.out) gb103 (Nat.le_of_eq hg.symm)) hb);have n2_:=Aside0.mk (below_step (by repeat (first|(with_reducible first|exact HB.out|apply below_alloc|apply pw_below_drewN|apply below_drew1)|exact HB.out)) hb);have n3_:=Aside0.mk (hbox);have n4_:=Aside0.mk ((by rw [hg];exact (below_size (by repeat (first|(with_reducible first|exact HB.out|apply below_alloc|apply pw_below_drewN|apply below_drew1)|exact HB.out))):w.heap.size ≤ gb103));have n5_:=Aside0.mk ((by rw [hg];exact (below_size (by repeat (first|(with_reducible first|exact HB.out|apply below_alloc|apply pw_below_drewN|apply below_drew1)|exact HB.out))):w.heap.size ≤ gb103));clear HO_2;clear HO_3;clear HB;have HO_2:=n0_;have HO_3:=n1_;have HB:=n2_;have BK103:=n3_;have GW103:=n4_;have GE103:=n5_;clear n0_ n1_ n2_ n3_ n4_ n5_;clear hb hbox hg;have hcz17_0:w16.cell? ⟨gb103,0,none⟩ = some (.string (⟨#[]⟩:ByteArray)):=(blk_cell BK103.out 0).trans rfl;have hcz17_1:w16.cell? ⟨gb103,1,none⟩ = some (.int .i64 0):=(blk_cell BK103.out 1).trans rfl;have hcz17_2:w16.cell? ⟨gb103,2,none⟩ = some (.int .i64 0):=(blk_cell BK103.out 2).trans rfl;have hcz17_3:w16.cell? ⟨gb103,3,none⟩ = some (.int .i64 0):=(blk_cell BK103.out 3).trans rfl;have hcz17_4:w16.cell? ⟨gb103,4,none⟩ = some (.int .i64 0):=(blk_cell BK103.out 4).trans rfl;have hcz17_5:w16.cell? ⟨gb103,5,none⟩ = some (.int .i64 0):=(blk_cell BK103.out 5).trans rfl;have hfz17_0:=blk_frozen BK103.out 0;have hfz17_1:=blk_frozen BK103.out 1;have hfz17_2:=blk_frozen BK103.out 2;have hfz17_3:=blk_frozen BK103.out 3;have hfz17_4:=blk_frozen BK103.out 4;have hfz17_5:=blk_frozen BK103.out 5;obtain ⟨Ao18,co18,eo18⟩:=Kd.R_slice HO_2.out;subst eo18))
             have n0_:Aside0 (Kd.R Kd.string 9 ((((((w16.setCell ⟨gb103,0,none⟩ (.string ((rd_T73 l0 x12_1).f0.f0))).setCell ⟨gb103,1,none⟩ (.int .i64 ((rd_T73 l0 x12_1).f0.f1))).setCell ⟨gb103,2,none⟩ (.int .i64 ((rd_T73 l0 x12_1).f0.f2))).setCell ⟨gb103,3,none⟩ (.int .i64 ((rd_T73 l0 x12_1).f0.f3))).setCell ⟨gb103,4,none⟩ (.int .i64 ((rd_T73 l0 x12_1).f1))).setCell ⟨gb103,5,none⟩ (.int .i64 ((rd_T73 l0 x12_1).f2))) w.heap.size (fun _=>True) (.slice Ao18 x2_1.length co18) x2_1):=⟨by (with_reducible repeat (first|apply Kd.R_alloc|apply Kd.R_drewN|apply Kd.R_drew));exact Kd.R_mono (Kd.R_far (p:=⟨gb103,5,none⟩) (Kd.R_far (p:=⟨gb103,4,none⟩) (Kd.R_far (p:=⟨gb103,3,none⟩) (Kd.R_far (p:=⟨gb103,2,none⟩) (Kd.R_far (p:=⟨gb103,1,none⟩) (Kd.R_far (p:=⟨gb103,0,none⟩) (Kd.R_types HO_2.out BK103.out (by decide)) (fun _ hk=>hk.2) (.string ((rd_T73 l0 x12_1).f0.f0))) (fun _ hk=>hk.2) (.int .i64 ((rd_T73 l0 x12_1).f0.f1))) (fun _ hk=>hk.2) (.int .i64 ((rd_T73 l0 x12_1).f0.f2))) (fun _ hk=>hk.2) (.int .i64 ((rd_T73 l0 x12_1).f0.f3))) (fun _ hk=>hk.2) (.int .i64 ((rd_T73 l0 x12_1).f1))) (fun _ hk=>hk.2) (.int .i64 ((rd_T73 l0 x12_1).f2))) (fun _ hk=>trivial)⟩
             have n1_:Aside0 (Kd.S (Kd.slice 73 k73) 55 ((((((w16.setCell ⟨gb103,0,none⟩ (.string ((rd_T73 l0 x12_1).f0.f0))).setCell ⟨gb103,1,none⟩ (.int .i64 ((rd_T73 l0 x12_1).f0.f1))).setCell ⟨gb103,2,none⟩ (.int .i64 ((rd_T73 l0 x12_1).f0.f2))).setCell ⟨gb103,3,none⟩ (.int .i64 ((rd_T73 l0 x12_1).f0.f3))).setCell ⟨gb103,4,none⟩ (.int .i64 ((rd_T73 l0 x12_1).f1))).setCell ⟨gb103,5,none⟩ (.int .i64 ((rd_T73 l0 x12_1).f2))) w.heap.size (fun k_=>k_ ≠ gb103) u3 x3_1):=⟨by (with_reducible repeat (first|apply Kd.S_alloc|apply Kd.S_drewN|apply Kd.S_drew));exact Kd.S_mono (Kd.S_far (p:=⟨gb103,5,none⟩) (Kd.S_far (p:=⟨gb103,4,none⟩) (Kd.S_far (p:=⟨gb103,3,none⟩) (Kd.S_far (p:=⟨gb103,2,none⟩) (Kd.S_far (p:=⟨gb103,1,none⟩) (Kd.S_far (p:=⟨gb103,0,none⟩) (Kd.S_mono HO_3.out (fun k_ hk=>(⟨hk,hk.2⟩:_ ∧ k_ ≠ gb103))) (fun _ hk=>hk.2) (.string ((rd_T73 l0 x12_1).f0.f0))) (fun _ hk=>hk.2) (.int .i64 ((rd_T73 l0 x12_1).f0.f1))) (fun _ hk=>hk.2) (.int .i64 ((rd_T73 l0 x12_1).f0.f2))) (fun _ hk=>hk.2) (.int .i64 ((rd_T73 l0 x12_1).f0.f3))) (fun _ hk=>hk.2) (.int .i64 ((rd_T73 l0 x12_1).f1))) (fun _ hk=>hk.2) (.int .i64 ((rd_T73 l0 x12_1).f2))) (fun _ hk=>hk.1.2)⟩
             have n2_:Aside0 (((((((w16.setCell ⟨gb103,0,none⟩ (.string ((rd_T73 l0 x12_1).f0.f0))).setCell ⟨gb103,1,none⟩ (.int .i64 ((rd_T73 l0 x12_1).f0.f1))).setCell ⟨gb103,2,none⟩ (.int .i64 ((rd_T73 l0 x12_1).f0.f2))).setCell ⟨gb103,3,none⟩ (.int .i64 ((rd_T73 l0 x12_1).f0.f3))).setCell ⟨gb103,4,none⟩ (.int .i64 ((rd_T73 l0 x12_1).f1))).setCell ⟨gb103,5,none⟩ (.int .i64 ((rd_T73 l0 x12_1).f2))).heap[gb103]? = some (.cells #[.string ((rd_T73 l0 x12_1).f0.f0),.int .i64 ((rd_T73 l0 x12_1).f0.f1),.int .i64 ((rd_T73 l0 x12_1).f0.f2),.int .i64 ((rd_T73 l0 x12_1).f0.f3),.int .i64 ((rd_T73 l0 x12_1).f1),.int .i64 ((rd_T73 l0 x12_1).f2)] 73 (0,0))):=⟨by (with_reducible repeat (first|refine blk_drewN ?_ _|refine blk_drew ?_|refine blk_alloc ?_ _));refine blk_put (cs:=#[.string ((rd_T73 l0 x12_1).f0.f0),.int .i64 ((rd_T73 l0 x12_1).f0.f1),.int .i64 ((rd_T73 l0 x12_1).f0.f2),.int .i64 ((rd_T73 l0 x12_1).f0.f3),.int .i64 ((rd_T73 l0 x12_1).f1),.int .i64 0]) ?_ 5 _ rfl;(with_reducible repeat (first|refine blk_drewN ?_ _|refine blk_drew ?_|refine blk_alloc ?_ _));refine blk_put (cs:=#[.string ((rd_T73 l0 x12_1).f0.f0),.int .i64 ((rd_T73 l0 x12_1).f0.f1),.int .i64 ((rd_T73 l0 x12_1).f0.f2),.int .i64 ((rd_T73 l0 x12_1).f0.f3),.int .i64 0,.int .i64 0]) ?_ 4 _ rfl;(with_reducible repeat (first|refine blk_drewN ?_ _|refine blk_drew ?_|refine blk_alloc ?_ _));refine blk_put (cs:=#[.string ((rd_T73 l0 x12_1).f0.f0),.int .i64 ((rd_T73 l0 x12_1).f0.f1),.int .i64 ((rd_T73 l0 x12_1).f0.f2),.int .i64 0,.int .i64 0,.int .i64 0]) ?_ 3 _ rfl;(with_reducible repeat (first|refine blk_drewN ?_ _|refine blk_drew ?_|refine blk_alloc ?_ _));refine blk_put (cs:=#[.string ((rd_T73 l0 x12_1).f0.f0),.int .i64 ((rd_T73 l0 x12_1).f0.f1),.int .i64 0,.int .i64 0,.int .i64 0,.int .i64 0]) ?_ 2 _ rfl;(with_reducible repeat (first|refine blk_drewN ?_ _|refine blk_drew ?_|refine blk_alloc ?_ _));refine blk_put (cs:=#[.string ((rd_T73 l0 x12_1).f0.f0),.int .i64 0,.int .i64 0,.int .i64 0,.int .i64 0,.int .i64 0]) ?_ 1 _ rfl;(with_reducible repeat (first|refine blk_drewN ?_ _|refine blk_drew ?_|refine blk_alloc ?_ _));refine blk_put (cs:=#[.string (⟨#[]⟩:ByteArray),.int .i64 0,.int .i64 0,.int .i64 0,.int .i64 0,.int .i64 0]) ?_ 0 _ rfl;(with_reducible repeat (first|refine blk_drewN ?_ _|refine blk_drew ?_|refine blk_alloc ?_ _));exact BK103.out⟩
             have n3_:Aside0 (Below w.heap.size w ((((((w16.setCell ⟨gb103,0,none⟩ (.string ((rd_T73 l0 x12_1).f0.f0))).setCell ⟨gb103,1,none⟩ (.int .i64 ((rd_T73 l0 x12_1).f0.f1))).setCell ⟨gb103,2,none⟩ (.int .i64 ((rd_T73 l0 x12_1).f0.f2))).setCell ⟨gb103,3,none⟩ (.int .i64 ((rd_T73 l0 x12_1).f0.f3))).setCell ⟨gb103,4,none⟩ (.int .i64 ((rd_T73 l0 x12_1).f1))).setCell ⟨gb103,5,none⟩ (.int .i64 ((rd_T73 l0 x12_1).f2)))):=⟨by repeat (first|(with_reducible first|exact HB.out|apply below_alloc|apply pw_below_drewN|apply below_drew1|refine below_set ?_ GE103.out)|exact HB.out)⟩
             (try clear HO_2)
             (try clear HO_3)
             (try clear BK103)
             (try clear HB)
             generalize ((((((w16.setCell ⟨gb103,0,none⟩ (.string ((rd_T73 l0 x12_1).f0.f0))).setCell ⟨gb103,1,none⟩ (.int .i64 ((rd_T73 l0 x12_1).f0.f1))).setCell ⟨gb103,2,none⟩ (.int .i64 ((rd_T73 l0 x12_1).f0.f2))).setCell ⟨gb103,3,none⟩ (.int .i64 ((rd_T73 l0 x12_1).f0.f3))).setCell ⟨gb103,4,none⟩ (.int .i64 ((rd_T73 l0 x12_1).f1))).setCell ⟨gb103,5,none⟩ (.int .i64 ((rd_T73 l0 x12_1).f2))) = w19 at n0_ n1_ n2_ n3_ ⊢
             have HO_2:=n0_
             have HO_3:=n1_
             have BK103:=n2_
             have HB:=n3_
             clear n0_ n1_ n2_ n3_
             have n0_:=Aside0.mk (Kd.R_drew HO_2.out)
             have n1_:=Aside0.mk (Kd.S_drew HO_3.out)
             have n2_:=Aside0.mk (blk_drew BK103.out)
             have n3_:=Aside0.mk (below_drew1 HB.out)
             clear HO_2
             clear HO_3
             clear BK103
             clear HB
             have HO_2:=n0_
             have HO_3:=n1_
             have BK103:=n2_
             have HB:=n3_
             clear n0_ n1_ n2_ n3_
             refine start_ (n:=13) (S:=fun w'=>True) (ds:=[]) #[Z,Z,Z,Z,Z,Z,Z,Z,Z,Z,Z,Z,Z] (by kernel_rfl) rfl rfl trivial (fun hHeld=>?_);refine with_tabW scan_Products.tab7 scan_Products.bits7 (fun HT_ HW_=>?_)
             generalize w19.drew = w20 at HO_2 HO_3 BK103 HB hHeld ⊢
             refine pure_ (i:=0) (N:=some 18) (v:=?_) (a':=?_) #[Y,Z,Z,Z,Z,Z,Z,Z,Z,Z,Z,Z,Z] rfl rfl (any_of HT_.out (by kernel_rfl)) (fun _ _ _ h=>h) (Or.inl ⟨by rfl,?_⟩) ?_ ?_
             rotate_left
             ·intro w'
              go_simp
              with_reducible rfl
             rotate_left
             ·simp only [Act.put,List.setIfInBounds_toArray,List.set_cons_zero,List.set_cons_succ,i64_w,i32_w]
              rfl
             refine pure_ (i:=1) (N:=some 19) (v:=?_) (a':=?_) #[Y,Y,Z,Z,Z,Z,Z,Z,Z,Z,Z,Z,Z] rfl rfl (any_of HT_.out (by kernel_rfl)) (fun _ _ _ h=>h) (Or.inl ⟨by rfl,?_⟩) ?_ ?_
             rotate_left
             ·intro w'
              go_simp
              with_reducible rfl
             rotate_left
             ·simp only [Act.put,List.setIfInBounds_toArray,List.set_cons_zero,List.set_cons_succ,i64_w,i32_w]
              rfl
             refine pure_ (i:=2) (N:=some 20) (v:=?_) (a':=?_) #[Y,Y,Y,Z,Z,Z,Z,Z,Z,Z,Z,Z,Z] rfl rfl (any_of HT_.out (by kernel_rfl)) (fun _ _ _ h=>h) (Or.inl ⟨by rfl,?_⟩) ?_ ?_
             rotate_left
             ·intro w'
              go_simp
              with_reducible rfl
             rotate_left
             ·simp only [Act.put,List.setIfInBounds_toArray,List.set_cons_zero,List.set_cons_succ,i64_w,i32_w]
              rfl
             refine pure_ (i:=3) (N:=some 21) (v:=undef) (a':=?_) #[Y,Y,Y,Y,Z,Z,Z,Z,Z,Z,Z,Z,Z] rfl rfl (any_of HT_.out (by kernel_rfl)) (fun _ _ _ h=>h) (Or.inr ⟨by rfl,rfl⟩) ?_ ?_
             rotate_left
             ·simp only [Act.put,List.setIfInBounds_toArray,List.set_cons_zero,List.set_cons_succ,i64_w,i32_w]
              rfl
             refine pure_ (i:=4) (N:=some 22) (v:=undef) (a':=?_) #[Y,Y,Y,Y,Y,Z,Z,Z,Z,Z,Z,Z,Z] rfl rfl (any_of HT_.out (by kernel_rfl)) (fun _ _ _ h=>h) (Or.inr ⟨by rfl,rfl⟩) ?_ ?_
             rotate_left
             ·simp only [Act.put,List.setIfInBounds_toArray,List.set_cons_zero,List.set_cons_succ,i64_w,i32_w]
              rfl
             refine pure_ (i:=5) (N:=some 23) (v:=undef) (a':=?_) #[Y,Y,Y,Y,Y,Y,Z,Z,Z,Z,Z,Z,Z] rfl rfl (any_of HT_.out (by kernel_rfl)) (fun _ _ _ h=>h) (Or.inr ⟨by rfl,rfl⟩) ?_ ?_
             rotate_left
             ·simp only [Act.put,List.setIfInBounds_toArray,List.set_cons_zero,List.set_cons_succ,i64_w,i32_w]
              rfl
             refine pure_ (i:=6) (N:=some 24) (v:=undef) (a':=?_) #[Y,Y,Y,Y,Y,Y,Y,Z,Z,Z,Z,Z,Z] rfl rfl (any_of HT_.out (by kernel_rfl)) (fun _ _ _ h=>h) (Or.inr ⟨by rfl,rfl⟩) ?_ ?_
             rotate_left
             ·simp only [Act.put,List.setIfInBounds_toArray,List.set_cons_zero,List.set_cons_succ,i64_w,i32_w]
              rfl
             refine pure_ (i:=7) (N:=some 25) (v:=undef) (a':=?_) #[Y,Y,Y,Y,Y,Y,Y,Y,Z,Z,Z,Z,Z] rfl rfl (any_of HT_.out (by kernel_rfl)) (fun _ _ _ h=>h) (Or.inr ⟨by rfl,rfl⟩) ?_ ?_
             rotate_left
             ·simp only [Act.put,List.setIfInBounds_toArray,List.set_cons_zero,List.set_cons_succ,i64_w,i32_w]
              rfl
             refine pure_ (i:=8) (N:=some 26) (v:=undef) (a':=?_) #[Y,Y,Y,Y,Y,Y,Y,Y,Y,Z,Z,Z,Z] rfl rfl (any_of HT_.out (by kernel_rfl)) (fun _ _ _ h=>h) (Or.inr ⟨by rfl,rfl⟩) ?_ ?_
             rotate_left
             ·simp only [Act.put,List.setIfInBounds_toArray,List.set_cons_zero,List.set_cons_succ,i64_w,i32_w]
              rfl
             refine pure_ (i:=9) (N:=some 27) (v:=undef) (a':=?_) #[Y,Y,Y,Y,Y,Y,Y,Y,Y,Y,Z,Z,Z] rfl rfl (any_of HT_.out (by kernel_rfl)) (fun _ _ _ h=>h) (Or.inr ⟨by rfl,rfl⟩) ?_ ?_
             rotate_left
             ·simp only [Act.put,List.setIfInBounds_toArray,List.set_cons_zero,List.set_cons_succ,i64_w,i32_w]
              rfl
             refine pure_ (i:=10) (N:=some 28) (v:=undef) (a':=?_) #[Y,Y,Y,Y,Y,Y,Y,Y,Y,Y,Y,Z,Z] rfl rfl (any_of HT_.out (by kernel_rfl)) (fun _ _ _ h=>h) (Or.inr ⟨by rfl,rfl⟩) ?_ ?_
             rotate_left
             ·simp only [Act.put,List.setIfInBounds_toArray,List.set_cons_zero,List.set_cons_succ,i64_w,i32_w]
              rfl
             refine pure_ (i:=11) (N:=some 29) (v:=undef) (a':=?_) #[Y,Y,Y,Y,Y,Y,Y,Y,Y,Y,Y,Y,Z] rfl rfl (any_of HT_.out (by kernel_rfl)) (fun _ _ _ h=>h) (Or.inr ⟨by rfl,rfl⟩) ?_ ?_
             rotate_left
             ·simp only [Act.put,List.setIfInBounds_toArray,List.set_cons_zero,List.set_cons_succ,i64_w,i32_w]
              rfl
             refine pure_ (i:=12) (N:=some 30) (v:=?_) (a':=?_) #[Y,Y,Y,Y,Y,Y,Y,Y,Y,Y,Y,Y,Y] rfl rfl (any_of HT_.out (by kernel_rfl)) (fun _ _ _ h=>h) (Or.inl ⟨by rfl,?_⟩) ?_ ?_
             rotate_left
             ·intro w'
              go_simp
              with_reducible rfl
             rotate_left
             ·simp only [Act.put,List.setIfInBounds_toArray,List.set_cons_zero,List.set_cons_succ,i64_w,i32_w]
              rfl
             refine done_ (done_of HT_.out (by kernel_rfl)) ?_
             have hcz21_0:w20.cell? ⟨gb103,0,none⟩ = some (.string ((rd_T73 l0 x12_1).f0.f0)):=(blk_cell BK103.out 0).trans rfl
             have hcz21_1:w20.cell? ⟨gb103,1,none⟩ = some (.int .i64 ((rd_T73 l0 x12_1).f0.f1)):=(blk_cell BK103.out 1).trans rfl
             have hcz21_2:w20.cell? ⟨gb103,2,none⟩ = some (.int .i64 ((rd_T73 l0 x12_1).f0.f2)):=(blk_cell BK103.out 2).trans rfl
             have hcz21_3:w20.cell? ⟨gb103,3,none⟩ = some (.int .i64 ((rd_T73 l0 x12_1).f0.f3)):=(blk_cell BK103.out 3).trans rfl
             have hcz21_4:w20.cell? ⟨gb103,4,none⟩ = some (.int .i64 ((rd_T73 l0 x12_1).f1)):=(blk_cell BK103.out 4).trans rfl
             have hcz21_5:w20.cell? ⟨gb103,5,none⟩ = some (.int .i64 ((rd_T73 l0 x12_1).f2)):=(blk_cell BK103.out 5).trans rfl
             have hfz21_0:=blk_frozen BK103.out 0
             have hfz21_1:=blk_frozen BK103.out 1
             have hfz21_2:=blk_frozen BK103.out 2
             have hfz21_3:=blk_frozen BK103.out 3
             have hfz21_4:=blk_frozen BK103.out 4
             have hfz21_5:=blk_frozen BK103.out 5
             try go_wp2_with (first|((with_reducible refine gate_builtin (b:=.append) (xs:=#[.tmp 31,.tmp 35]) rfl ?_);at_builtin;refine Kd.R_append Kd.string (w0:=w) w.heap.size rfl (.tmp 31) (.tmp 35) 22 9 (.string ⟨#[]⟩) 16 rfl Try.underlying22 info9 rfl (by decide) (by omega) (.slice Ao18 x2_1.length co18) x2_1 ((rd_T73 l0 x12_1).f0.f0) [.string ((rd_T73 l0 x12_1).f0.f0)] (fun _=>True) (fun _=>False) rfl rfl ?aP (fun _ hk=>hk.elim) ?aF ?aO ?aB ?aS ?aL ?_;(case aP=>exact rfl);(case aB=>exact (by repeat (first|(with_reducible first|exact HB.out|apply below_alloc|apply pw_below_drewN|apply below_drew1|refine below_set ?_ GE103.out)|exact HB.out)));(case aF=>exact (fun _ _=>trivial));(case aO=>exact (by (with_reducible repeat (first|apply Kd.R_alloc|apply Kd.R_drewN|apply Kd.R_drew));exact HO_2.out));(case aS=>exact (below_size (by repeat (first|(with_reducible first|exact HB.out|apply below_alloc|apply pw_below_drewN|apply below_drew1|refine below_set ?_ GE103.out)|exact HB.out))));(case aL=>have:=LMc9.out;omega);intro v105 w22 ho hb hg hat;rw [← Ny104.out] at ho;have n0_:=Aside0.mk (Kd.S_over' (by (with_reducible repeat (first|apply Kd.S_alloc|apply Kd.S_drewN|apply Kd.S_drew));exact HO_3.out) (Kd.R_typed (by (with_reducible repeat (first|apply Kd.R_alloc|apply Kd.R_drewN|apply Kd.R_drew));exact HO_2.out)) (by decide) hg);have n1_:=Aside0.mk (blk_grown (g:=gb103) (o:=.cells #[.string ((rd_T73 l0 x12_1).f0.f0),.int .i64 ((rd_T73 l0 x12_1).f0.f1),.int .i64 ((rd_T73 l0 x12_1).f0.f2),.int .i64 ((rd_T73 l0 x12_1).f0.f3),.int .i64 ((rd_T73 l0 x12_1).f1),.int .i64 ((rd_T73 l0 x12_1).f2)] 73 (0,0)) (by (with_reducible repeat (first|refine blk_drewN ?_ _|refine blk_drew ?_|refine blk_alloc ?_ _));exact BK103.out) hg (Kd.R_ne HO_2.out BK103.out (by decide)));have n2_:=Aside0.mk (hb);have n3_:=Aside0.mk (ho);clear HO_3;clear BK103;clear HB;clear HO_2;have HO_3:=n0_;have BK103:=n1_;have HB:=n2_;have HO106:=n3_;clear n0_ n1_ n2_ n3_;clear ho hb hg hat)|((with_reducible refine gate_builtin (b:=.append) (xs:=#[.tmp 37,.tmp 38]) rfl ?_);at_builtin;refine Kd.S_append (Kd.slice 73 k73) (w0:=w) w.heap.size rfl (.tmp 37) (.tmp 38) 76 55 (.slice none 0 0) 24 rfl Try.underlying76 info55 rfl (by decide) (by omega) u3 x3_1 ([]:List (S73)) [.slice none 0 0] (fun k_=>k_ ≠ gb103) (fun _=>False) rfl rfl ?aP (fun k_ hk_=>hk_.elim) ?aF ?aO ?aB ?aS ?aL ?_;(case aP=>exact Kd.M_row (Kd.R_nil _ _ _ _ _));(case aB=>exact (by repeat (first|(with_reducible first|exact HB.out|apply below_alloc|apply pw_below_drewN|apply below_drew1|refine below_set ?_ GE103.out)|exact HB.out)));(case aF=>exact (fun k_ hk=>Kd.freshB (g:=gb103) (o:=.cells #[.string ((rd_T73 l0 x12_1).f0.f0),.int .i64 ((rd_T73 l0 x12_1).f0.f1),.int .i64 ((rd_T73 l0 x12_1).f0.f2),.int .i64 ((rd_T73 l0 x12_1).f0.f3),.int .i64 ((rd_T73 l0 x12_1).f1),.int .i64 ((rd_T73 l0 x12_1).f2)] 73 (0,0)) (by (with_reducible repeat (first|refine blk_drewN ?_ _|refine blk_drew ?_|refine blk_alloc ?_ _));exact BK103.out) k_ hk));(case aO=>exact (by (with_reducible repeat (first|apply Kd.S_alloc|apply Kd.S_drewN|apply Kd.S_drew));exact Kd.S_mono HO_3.out (fun k_ hk=>⟨hk,fun e_=>e_⟩)));(case aS=>exact (below_size (by repeat (first|(with_reducible first|exact HB.out|apply below_alloc|apply pw_below_drewN|apply below_drew1|refine below_set ?_ GE103.out)|exact HB.out))));(case aL=>have:=LMc10.out;omega);intro v108 w23 ho hb hg hat;rw [← Ny107.out] at ho;have n0_:=Aside0.mk (blk_grown (g:=gb103) (o:=.cells #[.string ((rd_T73 l0 x12_1).f0.f0),.int .i64 ((rd_T73 l0 x12_1).f0.f1),.int .i64 ((rd_T73 l0 x12_1).f0.f2),.int .i64 ((rd_T73 l0 x12_1).f0.f3),.int .i64 ((rd_T73 l0 x12_1).f1),.int .i64 ((rd_T73 l0 x12_1).f2)] 73 (0,0)) (by (with_reducible repeat (first|refine blk_drewN ?_ _|refine blk_drew ?_|refine blk_alloc ?_ _));exact BK103.out) hg (Kd.S_ne HO_3.out BK103.out (by decide)));have n1_:=Aside0.mk (Kd.R_over' (by (with_reducible repeat (first|apply Kd.R_alloc|apply Kd.R_drewN|apply Kd.R_drew));exact HO106.out) (Kd.S_typed (by (with_reducible repeat (first|apply Kd.S_alloc|apply Kd.S_drewN|apply Kd.S_drew));exact HO_3.out)) (by decide) hg);have n2_:=Aside0.mk (hb);have n3_:=Aside0.mk (ho);clear BK103;clear HO106;clear HB;clear HO_3;have BK103:=n0_;have HO106:=n1_;have HB:=n2_;have HO109:=n3_;clear n0_ n1_ n2_ n3_;clear ho hb hg hat))
             have n0_:=Aside0.mk (Kd.R_drew HO106.out)
             have n1_:=Aside0.mk (Kd.S_drew HO109.out)
             have n2_:=Aside0.mk (blk_drew BK103.out)
             have n3_:=Aside0.mk (below_drew1 HB.out)
             clear HO106
             clear HO109
             clear BK103
             clear HB
             have HO106:=n0_
             have HO109:=n1_
             have BK103:=n2_
             have HB:=n3_
             clear n0_ n1_ n2_ n3_
             obtain ⟨Ao25,co25,eo25⟩:=Kd.S_slice HO109.out
             (first|subst eo25|(injection eo25 with f1_ f2_ f3_;have f4_:=f1_.symm;have f5_:=f3_.symm;clear f1_ f2_ f3_;subst f4_;subst f5_))
             have p110:0 ≤ ((ji11):Int):=of_decide_eq_true (by first|(with_reducible assumption)|assumption)
             have q110:(ji11) < (y107.length:Int):=of_decide_eq_true (by first|(with_reducible assumption)|assumption)
             obtain ⟨ad110,A110_0,c110_0,e110,hx110_0,hl110_0,hi110_0⟩:=at_L14 (Kd.S_reads' HO109.out).2.2 (ji11) p110 q110
             cases e110
             obtain ⟨ce110,hce110,hMe110,hcc110⟩:=Kd.S_get HO109.out [] (ji11) p110 (by first|exact q110|exact of_decide_eq_true (by first|(with_reducible assumption)|assumption)|(have e_:=(Kd.S_reads' HO109.out).1;omega))
             obtain ⟨ve110_0,rfl,ge110_0⟩:=hMe110
             have hv110_0:=hcc110 0 _ rfl
             rw [Nat.add_zero,show ((Kd.slice 73 k73)).sz = 1 from rfl,Nat.mul_one] at hv110_0
             replace hv110_0:=Option.some.inj (hv110_0.symm.trans hx110_0)
             rw [hv110_0] at ge110_0
             have HL110_0:=Aside0.mk (show Kd.R k73 73 _ _ _ _ (rd_L14 y107 (ji11)) from ge110_0)
             clear hv110_0 ge110_0
             have HX110_0:=Aside0.mk hx110_0
             clear hcc110 hce110
             have HR110_0:=Aside0.mk hi110_0
             have HC110_0:=Aside0.mk hl110_0
             clear hi110_0 hl110_0
             replace p110:=eq_true p110
             replace q110:=eq_true q110
             obtain ⟨go26,co26,eo26,gb26,gl26,cl26,HG26⟩:=Kd.S_form HO109.out (by have h_:((ji11):Int) < ((y107.length:Int):Int):=of_decide_eq_true (by first|(with_reducible assumption)|assumption);have h2_:0 ≤ ((ji11):Int):=(of_decide_eq_true (by first|(with_reducible assumption)|assumption));omega)
             (first|cases eo26|(injection eo26 with ea_ en_ ec_;(first|subst ea_|(injection ea_ with ea_;subst ea_));subst ec_;clear en_))
             have GB26:=Aside0.mk gb26
             have GG26:=Aside0.mk HG26
             clear gb26 gl26 HG26
             (first|simp only [add_plain] at hx110_0|skip)
             obtain ⟨oki26,ce26,hcl26,hM26,hcc26,_,_,hH26⟩:=Kd.S_elem HO109.out [] ((ji11):Int) (of_decide_eq_true (by first|(with_reducible assumption)|assumption)) (by have h_:((ji11):Int) < ((y107.length:Int):Int):=of_decide_eq_true (by first|(with_reducible assumption)|assumption);first|exact h_|(have e_:=(Kd.S_reads' HO109.out).1;omega)|simpa using h_)
             obtain ⟨ve26_0,rfl,ge26_0⟩:=hM26
             have hv26:=hcc26 0 _ rfl
             have hX26:=HX110_0.out
             (try simp only [add_plain] at hX26)
             (try simp only [Nat.add_zero] at hv26)
             (try rw [show ((Kd.slice 73 k73)).sz = 1 from rfl,Nat.mul_one] at hv26)
             replace hv26:=Option.some.inj (hv26.symm.trans hX26)
             subst hv26
             clear hX26 hcc26 hcl26
             have UU26:=Aside0.mk (show Kd.R k73 73 _ w.heap.size oki26 (.slice A110_0 (rd_L14 y107 (ji11)).length c110_0) (rd_L14 y107 (ji11)) from ge26_0)
             have HH26:=Aside0.mk hH26
             have HN26:=Aside0.mk (Kd.S_reads' HO109.out).1
             clear hH26 ge26_0
             refine start_ (n:=15) (S:=fun w'=>w'.cell? ⟨gb103,0,none⟩ = some (.string ((rd_T73 l0 x12_1).f0.f0)) ∧ w'.cell? ⟨gb103,1,none⟩ = some (.int .i64 ((rd_T73 l0 x12_1).f0.f1)) ∧ w'.cell? ⟨gb103,2,none⟩ = some (.int .i64 ((rd_T73 l0 x12_1).f0.f2)) ∧ w'.cell? ⟨gb103,3,none⟩ = some (.int .i64 ((rd_T73 l0 x12_1).f0.f3)) ∧ w'.cell? ⟨gb103,4,none⟩ = some (.int .i64 ((rd_T73 l0 x12_1).f1)) ∧ w'.cell? ⟨gb103,5,none⟩ = some (.int .i64 ((rd_T73 l0 x12_1).f2)) ∧ w'.cell? ⟨go26,((ji11)).toNat,none⟩ = some (.slice A110_0 (rd_L14 y107 (ji11)).length c110_0)) (ds:=[14]) #[Z,Z,Z,Z,Z,Z,Z,Z,Z,Z,Z,Z,Z,Z,Z] (by kernel_rfl) rfl rfl ⟨(blk_cell BK103.out 0).trans rfl,(blk_cell BK103.out 1).trans rfl,(blk_cell BK103.out 2).trans rfl,(blk_cell BK103.out 3).trans rfl,(blk_cell BK103.out 4).trans rfl,(blk_cell BK103.out 5).trans rfl,hx110_0⟩ (fun hHeld=>?_);refine with_tabW scan_Products.tab10 scan_Products.bits10 (fun HT_ HW_=>?_)
             generalize w23.drew = w24 at HO106 HO109 BK103 HB GG26 HH26 HL110_0 HR110_0 HX110_0 UU26 hx110_0 hHeld ⊢
             refine pure_ (i:=0) (N:=some 40) (v:=?_) (a':=?_) #[Y,Z,Z,Z,Z,Z,Z,Z,Z,Z,Z,Z,Z,Z,Z] rfl rfl (any_of HT_.out (by kernel_rfl)) (fun _ _ _ h=>h) (Or.inl ⟨by rfl,?_⟩) ?_ ?_
             rotate_left
             ·intro w'
              go_simp
              with_reducible rfl
             rotate_left
             ·simp only [Act.put,List.setIfInBounds_toArray,List.set_cons_zero,List.set_cons_succ,i64_w,i32_w]
              rfl
             refine pure_ (i:=1) (N:=some 41) (v:=?_) (a':=?_) #[Y,Y,Z,Z,Z,Z,Z,Z,Z,Z,Z,Z,Z,Z,Z] rfl rfl (any_of HT_.out (by kernel_rfl)) (fun _ _ _ h=>h) (Or.inl ⟨by rfl,?_⟩) ?_ ?_
             rotate_left
             ·intro w'
              go_simp
              with_reducible rfl
             rotate_left
             ·simp only [Act.put,List.setIfInBounds_toArray,List.set_cons_zero,List.set_cons_succ,i64_w,i32_w]
              rfl
             refine pure_ (i:=2) (N:=some 42) (v:=?_) (a':=?_) #[Y,Y,Y,Z,Z,Z,Z,Z,Z,Z,Z,Z,Z,Z,Z] rfl rfl (any_of HT_.out (by kernel_rfl)) (fun _ _ _ h=>h) (Or.inl ⟨by rfl,?_⟩) ?_ ?_
             rotate_left
             ·intro w'
              go_simp
              with_reducible rfl
             rotate_left
             ·simp only [Act.put,List.setIfInBounds_toArray,List.set_cons_zero,List.set_cons_succ,i64_w,i32_w]
              rfl
             refine pure_ (i:=3) (N:=some 43) (v:=?_) (a':=?_) #[Y,Y,Y,Y,Z,Z,Z,Z,Z,Z,Z,Z,Z,Z,Z] rfl rfl (any_of HT_.out (by kernel_rfl)) (fun _ _ _ h=>h) (Or.inl ⟨by rfl,?_⟩) ?_ ?_
             rotate_left
             ·intro w'
              go_simp
              with_reducible rfl
             rotate_left
             ·simp only [Act.put,List.setIfInBounds_toArray,List.set_cons_zero,List.set_cons_succ,i64_w,i32_w]
              rfl
             refine pure_ (i:=4) (N:=some 44) (v:=?_) (a':=?_) #[Y,Y,Y,Y,Y,Z,Z,Z,Z,Z,Z,Z,Z,Z,Z] rfl rfl (any_of HT_.out (by kernel_rfl)) (fun _ _ _ h=>h) (Or.inl ⟨by rfl,?_⟩) ?_ ?_
             rotate_left
             ·intro w'
              go_simp
              with_reducible rfl
             rotate_left
             ·simp only [Act.put,List.setIfInBounds_toArray,List.set_cons_zero,List.set_cons_succ,i64_w,i32_w]
              rfl
             refine pure_ (i:=5) (N:=some 45) (v:=?_) (a':=?_) #[Y,Y,Y,Y,Y,Y,Z,Z,Z,Z,Z,Z,Z,Z,Z] rfl rfl (any_of HT_.out (by kernel_rfl)) (fun _ _ _ h=>h) (Or.inl ⟨by rfl,?_⟩) ?_ ?_
             rotate_left
             ·intro w'
              go_simp
              with_reducible rfl
             rotate_left
             ·simp only [Act.put,List.setIfInBounds_toArray,List.set_cons_zero,List.set_cons_succ,i64_w,i32_w]
              rfl
             refine pure_ (i:=6) (N:=some 46) (v:=?_) (a':=?_) #[Y,Y,Y,Y,Y,Y,Y,Z,Z,Z,Z,Z,Z,Z,Z] rfl rfl (any_of HT_.out (by kernel_rfl)) (fun _ _ _ h=>h) (Or.inl ⟨by rfl,?_⟩) ?_ ?_
             rotate_left
             ·intro w'
              go_simp
              with_reducible rfl
             rotate_left
             ·simp only [Act.put,List.setIfInBounds_toArray,List.set_cons_zero,List.set_cons_succ,i64_w,i32_w]
              rfl
             refine pure_ (i:=7) (N:=some 47) (v:=?_) (a':=?_) #[Y,Y,Y,Y,Y,Y,Y,Y,Z,Z,Z,Z,Z,Z,Z] rfl rfl (any_of HT_.out (by kernel_rfl)) (fun _ _ _ h=>h) (Or.inl ⟨by rfl,?_⟩) ?_ ?_
             rotate_left
             ·intro w'
              go_simp
              with_reducible rfl
             rotate_left
             ·simp only [Act.put,List.setIfInBounds_toArray,List.set_cons_zero,List.set_cons_succ,i64_w,i32_w]
              rfl
             refine pure_ (i:=8) (N:=some 48) (v:=?_) (a':=?_) #[Y,Y,Y,Y,Y,Y,Y,Y,Y,Z,Z,Z,Z,Z,Z] rfl rfl (any_of HT_.out (by kernel_rfl)) (fun _ _ _ h=>h) (Or.inl ⟨by rfl,?_⟩) ?_ ?_
             rotate_left
             ·intro w'
              go_simp
              with_reducible rfl
             rotate_left
             ·simp only [Act.put,List.setIfInBounds_toArray,List.set_cons_zero,List.set_cons_succ,i64_w,i32_w]
              rfl
             refine take_ (i:=9) (N:=some 49) (v:=?_) (a':=?_) #[Y,Y,Y,Y,Y,Y,Y,Y,Y,Y,Z,Z,Z,Z,Z] rfl rfl (take_ofW HT_.out HW_.out (by kernel_rfl)) (fun _ _ _ h=>h) (Or.inl ⟨by rfl,?_⟩) hHeld ?_ ?_
             rotate_left
             ·rintro w' ⟨s0,s1,s2,s3,s4,s5,s6⟩
              go_simp
              with_reducible rfl
             rotate_left
             ·simp only [Act.put,List.setIfInBounds_toArray,List.set_cons_zero,List.set_cons_succ,i64_w,i32_w]
              rfl
             refine take_ (i:=10) (N:=some 50) (v:=?_) (a':=?_) #[Y,Y,Y,Y,Y,Y,Y,Y,Y,Y,Y,Z,Z,Z,Z] rfl rfl (take_ofW HT_.out HW_.out (by kernel_rfl)) (fun _ _ _ h=>h) (Or.inl ⟨by rfl,?_⟩) hHeld ?_ ?_
             rotate_left
             ·rintro w' ⟨s0,s1,s2,s3,s4,s5,s6⟩
              go_simp
              with_reducible rfl
             rotate_left
             ·simp only [Act.put,List.setIfInBounds_toArray,List.set_cons_zero,List.set_cons_succ,i64_w,i32_w]
              rfl
             refine one_ (i:=11) (N:=some 51) #[Y,Y,Y,Y,Y,Y,Y,Y,Y,Y,Y,Y,Z,Z,Z] rfl rfl (one_of HT_.out (by kernel_rfl)) (by decide) (fun K hK=>?_)
             refine value_ (w1:=?_) (v:=?_) (by rfl) rfl ?_ ?_
             rotate_left 2
             ·go_simp
              constructor
              ·rfl
              ·rfl
             refine hK.out _ _ ⟨(blk_cell (blk_alloc BK103.out _) 0).trans rfl,(blk_cell (blk_alloc BK103.out _) 1).trans rfl,(blk_cell (blk_alloc BK103.out _) 2).trans rfl,(blk_cell (blk_alloc BK103.out _) 3).trans rfl,(blk_cell (blk_alloc BK103.out _) 4).trans rfl,(blk_cell (blk_alloc BK103.out _) 5).trans rfl,(World.cell?_alloc_lt _ _ _ (World.block_lt_of_cell? _ _ (hHeld.2.2.2.2.2.2))).trans (hHeld.2.2.2.2.2.2)⟩ (fun hHeld=>?_)
             clear hK K
             refine norm_ (a':=?_) ?_ ?_
             rotate_left
             ·show Act.put _ (some 51) _ = _
              simp only [Act.put,List.setIfInBounds_toArray,List.set_cons_zero,List.set_cons_succ,i64_w,i32_w]
              rfl
             refine one_ (i:=12) (N:=some 52) #[Y,Y,Y,Y,Y,Y,Y,Y,Y,Y,Y,Y,Y,Z,Z] rfl rfl (one_of HT_.out (by kernel_rfl)) (by decide) (fun K hK=>?_)
             refine Kd.R_append_step k73 (w0:=w) w.heap.size (by rfl) (.tmp 49) (.tmp 51) 55 73 (.agg #[(.string ⟨#[]⟩),(.int .i64 0),(.int .i64 0),(.int .i64 0),(.int .i64 0),(.int .i64 0)]) 56 rfl Try.underlying55 info73 rfl (by decide) (by omega) (.slice A110_0 (rd_L14 y107 (ji11)).length c110_0) (rd_L14 y107 (ji11)) (⟨(⟨(rd_T73 l0 x12_1).f0.f0,(rd_T73 l0 x12_1).f0.f1,(rd_T73 l0 x12_1).f0.f2,(rd_T73 l0 x12_1).f0.f3⟩:S39),(rd_T73 l0 x12_1).f1,(rd_T73 l0 x12_1).f2⟩:S73) [.string ((rd_T73 l0 x12_1).f0.f0),.int .i64 ((rd_T73 l0 x12_1).f0.f1),.int .i64 ((rd_T73 l0 x12_1).f0.f2),.int .i64 ((rd_T73 l0 x12_1).f0.f3),.int .i64 ((rd_T73 l0 x12_1).f1),.int .i64 ((rd_T73 l0 x12_1).f2)] (fun k_=>oki26 k_ ∨ ((fun k_=>k_ ≠ gb103)) k_ ∧ w24.heap.size ≤ k_) (fun _=>False) rfl rfl ?aP (fun _ hk=>hk.elim) ?aF ?aO ?aB ?aS ?aL ?_
             (case aP=>exact k73_mkM _ _ _ (⟨(⟨(rd_T73 l0 x12_1).f0.f0,(rd_T73 l0 x12_1).f0.f1,(rd_T73 l0 x12_1).f0.f2,(rd_T73 l0 x12_1).f0.f3⟩:S39),(rd_T73 l0 x12_1).f1,(rd_T73 l0 x12_1).f2⟩:S73))
             (case aB=>exact (by repeat (first|(with_reducible first|exact HB.out|apply below_alloc|apply pw_below_drewN|apply below_drew1|refine below_set ?_ GE103.out)|exact HB.out)))
             (case aF=>exact (fun k_ hk=>.inr ⟨Kd.freshB (g:=gb103) (o:=.cells #[.string ((rd_T73 l0 x12_1).f0.f0),.int .i64 ((rd_T73 l0 x12_1).f0.f1),.int .i64 ((rd_T73 l0 x12_1).f0.f2),.int .i64 ((rd_T73 l0 x12_1).f0.f3),.int .i64 ((rd_T73 l0 x12_1).f1),.int .i64 ((rd_T73 l0 x12_1).f2)] 73 (0,0)) (by (with_reducible repeat (first|refine blk_drewN ?_ _|refine blk_drew ?_|refine blk_alloc ?_ _));exact BK103.out) k_ hk,hk⟩))
             (case aO=>exact (by (with_reducible repeat (first|apply Kd.R_alloc|apply Kd.R_drewN|apply Kd.R_drew));exact Kd.R_mono UU26.out (fun _ hk=>.inl hk)))
             (case aS=>exact (below_size (by repeat (first|(with_reducible first|exact HB.out|apply below_alloc|apply pw_below_drewN|apply below_drew1|refine below_set ?_ GE103.out)|exact HB.out))))
             (case aL=>have:=LMc14.out;omega)
             intro v112 w27 ho hb hg hat
             (first|have HS6_:=cell_grown hg (hHeld.2.2.2.2.2.2) (by first|(rw [add_block];exact (fun e_=>((HL110_0.out.1 _ e_.symm).2) rfl))|(show some (Addr.add _ _).block ≠ _;rw [add_block];exact (fun e_=>((HL110_0.out.1 _ e_.symm).2) rfl))|exact (fun e_=>((HL110_0.out.1 _ e_.symm).2) rfl))|have HS6_:=cell_grown hg (cell_unalloc (hHeld.2.2.2.2.2.2) (by first|(rw [add_block];exact Kd.S_lt HO109.out _ rfl)|(show (Addr.add _ _).block < _;rw [add_block];exact Kd.S_lt HO109.out _ rfl)|exact Kd.S_lt HO109.out _ rfl)) (by first|(rw [add_block];exact (fun e_=>((HL110_0.out.1 _ e_.symm).2) rfl))|(show some (Addr.add _ _).block ≠ _;rw [add_block];exact (fun e_=>((HL110_0.out.1 _ e_.symm).2) rfl))|exact (fun e_=>((HL110_0.out.1 _ e_.symm).2) rfl)))
             rw [← Ny111.out] at ho
             have n0_:=Aside0.mk (blk_grown (g:=gb103) (o:=.cells #[.string ((rd_T73 l0 x12_1).f0.f0),.int .i64 ((rd_T73 l0 x12_1).f0.f1),.int .i64 ((rd_T73 l0 x12_1).f0.f2),.int .i64 ((rd_T73 l0 x12_1).f0.f3),.int .i64 ((rd_T73 l0 x12_1).f1),.int .i64 ((rd_T73 l0 x12_1).f2)] 73 (0,0)) (by (with_reducible repeat (first|refine blk_drewN ?_ _|refine blk_drew ?_|refine blk_alloc ?_ _));exact BK103.out) hg (Kd.R_away HL110_0.out (fun _ hk=>hk.1)))
             have n1_:=Aside0.mk (Kd.R_over' (v:=(.slice A110_0 (rd_L14 y107 (ji11)).length c110_0)) (by (with_reducible repeat (first|apply Kd.R_alloc|apply Kd.R_drewN|apply Kd.R_drew));exact HO106.out) (Kd.R_typed HL110_0.out) (by decide) hg)
             have n2_:=Aside0.mk (hb)
             have n3_:=Aside0.mk (Kd.H_grown (Kd.H_widen (by repeat (first|exact HH26.out|refine Kd.H_alloc ?_ _|refine Kd.H_drewN ?_ _|refine Kd.H_drew ?_))) hg (fun k_ e_=>.inl (UU26.out.1 k_ e_)))
             have n4_:=Aside0.mk (ho)
             clear BK103
             clear HO106
             clear HB
             clear HH26
             clear HO109
             clear UU26
             clear HL110_0
             have BK103:=n0_
             have HO106:=n1_
             have HB:=n2_
             have HH26:=n3_
             have HO113:=n4_
             clear n0_ n1_ n2_ n3_ n4_
             clear ho hb hg hat
             have p15:0 ≤ ((ji11):Int):=of_decide_eq_true (by first|(with_reducible assumption)|assumption)
             have q15:((ji11):Int) < ((y107.length:Int):Int):=of_decide_eq_true (by first|(with_reducible assumption)|assumption)
             replace p15:=eq_true p15
             replace q15:=eq_true q15
             obtain ⟨Ao30,co30,eo30⟩:=Kd.R_slice HO113.out
             (first|subst eo30|(injection eo30 with f1_ f2_ f3_;have f4_:=f1_.symm;have f5_:=f3_.symm;clear f1_ f2_ f3_;subst f4_;subst f5_))
             obtain ⟨_,_,hraw28,_,_,hcc28,_⟩:=Kd.H_raw HH26.out (of_decide_eq_true (by first|(with_reducible assumption)|assumption)) (by have h_:((ji11):Int) < ((y107.length:Int):Int):=of_decide_eq_true (by first|(with_reducible assumption)|assumption);first|exact h_|(have e_:=(HN26.out);omega)|simpa using h_)
             obtain ⟨_,hfr28⟩:=Kd.H_at HH26.out (of_decide_eq_true (by first|(with_reducible assumption)|assumption)) (by have h_:((ji11):Int) < ((y107.length:Int):Int):=of_decide_eq_true (by first|(with_reducible assumption)|assumption);first|exact h_|(have e_:=(HN26.out);omega)|simpa using h_)
             have hx28_0:=hcc28 0 _ rfl
             have hf28_0:=hfr28 0
             (try simp only [Nat.add_zero] at hx28_0 hf28_0)
             (try rw [show ((Kd.slice 73 k73)).sz = 1 from rfl,Nat.mul_one] at hx28_0)
             (try rw [show ((Kd.slice 73 k73)).sz = 1 from rfl,Nat.mul_one] at hf28_0)
             have HP28:=Kd.S_seg0 HH26.out (of_decide_eq_true (by first|(with_reducible assumption)|assumption)) (by have h_:((ji11):Int) < ((y107.length:Int):Int):=of_decide_eq_true (by first|(with_reducible assumption)|assumption);first|exact h_|(have e_:=(HN26.out);omega)|simpa using h_) (seg:=[.slice Ao30 y111.length co30]) (j:=0) (show 1 ≤ 1 from by decide) (x':=y111) (Kd.M_row HO113.out) (fun _ hk=>hk)
             (try simp only [show ((Kd.slice 73 k73)).sz = 1 from rfl,Nat.mul_one,Nat.add_zero] at HP28)
             clear hcc28 hfr28
             have HNB103_go26:=Aside0.mk (show gb103 ≠ go26 from by have h_:=Kd.R_ne hraw28 BK103.out (by decide);intro e_;exact h_ (by rw [e_];rfl))
             have HS28:=HP28.1
             rw [← Ny114.out] at HS28
             have HQ28:=Aside0.mk HS28
             obtain ⟨_,hgg28⟩:=Kd.R_typed hraw28 go26 rfl
             have GG28_:=Aside0.mk hgg28
             clear HP28 HS28 hgg28
             refine hK.out _ _ ⟨(blk_cell BK103.out 0).trans rfl,(blk_cell BK103.out 1).trans rfl,(blk_cell BK103.out 2).trans rfl,(blk_cell BK103.out 3).trans rfl,(blk_cell BK103.out 4).trans rfl,(blk_cell BK103.out 5).trans rfl,HS6_⟩ (fun hHeld=>?_)
             clear hK K
             refine norm_ (a':=?_) ?_ ?_
             rotate_left
             ·show Act.put _ (some 52) _ = _
              simp only [Act.put,List.setIfInBounds_toArray,List.set_cons_zero,List.set_cons_succ,i64_w,i32_w]
              rfl
             refine pure_ (i:=13) (N:=some 53) (v:=?_) (a':=?_) #[Y,Y,Y,Y,Y,Y,Y,Y,Y,Y,Y,Y,Y,Y,Z] rfl rfl (any_of HT_.out (by kernel_rfl)) (fun _ _ _ h=>h) (Or.inl ⟨by rfl,?_⟩) ?_ ?_
             rotate_left
             ·intro w'
              go_simp
              with_reducible rfl
             rotate_left
             ·simp only [Act.put,List.setIfInBounds_toArray,List.set_cons_zero,List.set_cons_succ,i64_w,i32_w]
              rfl
             refine last_ (i:=14) (N:=none) #[Y,Y,Y,Y,Y,Y,Y,Y,Y,Y,Y,Y,Y,Y,Y] rfl rfl (one_of HT_.out (by kernel_rfl)) (by decide) (fun K hK=>?_)
             refine skip_ (w1:=?_) (by rfl) rfl ?_ ?_
             rotate_left
             ·go_simp
              rfl
             refine hK.out _ _ ?_
             clear hK K
             refine done_ (done_of HT_.out (by kernel_rfl)) ?_
             try go_wp2
             go_roundg k1
             case measure=>have:=HK1.out;omega
             case rel=>exact ⟨(y104),(y114),(wrap64 (x12_1 + 1)),(by first|rfl|(simp;done)|(simp [*];done)),H',⟨by have:=HK1.out;omega⟩,⟨by (with_reducible repeat (first|apply Kd.R_alloc|apply Kd.R_drewN|apply Kd.R_drew));exact Kd.R_mono (Kd.R_far (p:=⟨go26,((ji11):Int).toNat,none⟩) (Kd.R_types HO106.out GG28_.out (by decide)) (fun _ hk=>hk.2) (.slice Ao30 y111.length co30)) (fun _ hk=>trivial)⟩,⟨by (with_reducible repeat (first|apply Kd.S_alloc|apply Kd.S_drewN|apply Kd.S_drew));exact Kd.S_mono HQ28.out (fun _ hk=>trivial)⟩,⟨by repeat (first|(with_reducible first|exact HB.out|apply below_alloc|apply pw_below_drewN|apply below_drew1|refine below_set ?_ GB26.out|refine below_set ?_ GE103.out)|exact HB.out)⟩⟩
            ·rw [if_neg c14] at H
             exact absurd H (by simp)
           ·rw [if_neg c13] at H
            exact absurd H (by simp)
          ·rw [if_neg c12] at H
           exact absurd H (by simp)
         ·rw [if_neg c10] at H
          exact absurd H (by simp)
        ·rw [if_neg c9] at H
         exact absurd H (by simp)
       ·rw [if_neg c8] at H
        have c8b0:((x2_1.length:Int) == 0) = false:=beq_eq_false_iff_ne.mpr c8
        have c8b1:((x2_1.length:Int) != 0) = true:=bne_iff_ne.mpr c8
        have c8b2:¬ (x2_1 = []):=fun h_=>c8 (by rw [h_];rfl)
        obtain ⟨ji31,hji31⟩:∃ j_:Int,(wrap64 ((x2_1.length:Int) - 1)) = j_:=⟨_,rfl⟩
        replace H:(if 0 ≤ (ji31) then (if (ji31) < (x2_1.length:Int) then (if (rdOf ByteArray.empty x2_1 (ji31)).toList = ((rd_T73 l0 x12_1).f0.f0).toList then (if 0 ≤ (wrap64 ((x3_1.length:Int) - 1)) then (if (wrap64 ((x3_1.length:Int) - 1)) < (x3_1.length:Int) then (if (rd_L14 x3_1 (wrap64 ((x3_1.length:Int) - 1))).length < 2513169434916 then (scan_Products.l0 k1 x2_1 (x3_1.set ((wrap64 ((x3_1.length:Int) - 1)):Int).toNat ((rd_L14 x3_1 (wrap64 ((x3_1.length:Int) - 1))) ++ [(⟨(⟨(rd_T73 l0 x12_1).f0.f0,(rd_T73 l0 x12_1).f0.f1,(rd_T73 l0 x12_1).f0.f2,(rd_T73 l0 x12_1).f0.f3⟩:S39),(rd_T73 l0 x12_1).f1,(rd_T73 l0 x12_1).f2⟩:S73)])) l0 (l0.length:Int) (wrap64 (x12_1 + 1))) else (none)) else (none)) else (none)) else (if x2_1.length < 8796093022208 then (if x3_1.length < 5864062014805 then ((some (x3_1 ++ [([]:List (S73))]:List (List (S73)))).bind fun y124=>(if 0 ≤ (wrap64 ((y124.length:Int) - 1)) then (if (wrap64 ((y124.length:Int) - 1)) < (y124.length:Int) then (if (rd_L14 y124 (wrap64 ((y124.length:Int) - 1))).length < 2513169434916 then (scan_Products.l0 k1 (x2_1 ++ [(rd_T73 l0 x12_1).f0.f0]) (y124.set ((wrap64 ((y124.length:Int) - 1)):Int).toNat ((rd_L14 y124 (wrap64 ((y124.length:Int) - 1))) ++ [(⟨(⟨(rd_T73 l0 x12_1).f0.f0,(rd_T73 l0 x12_1).f0.f1,(rd_T73 l0 x12_1).f0.f2,(rd_T73 l0 x12_1).f0.f3⟩:S39),(rd_T73 l0 x12_1).f1,(rd_T73 l0 x12_1).f2⟩:S73)])) l0 (l0.length:Int) (wrap64 (x12_1 + 1))) else (none)) else (none)) else (none))) else (none)) else (none))) else (none)) else (none)) = some (r1,r2):=by first|(rw [hji31] at H;exact H)|(simp only [hji31] at H ⊢;exact H)
        have hji31w:(IntKind.i64.wrap ((x2_1.length:Int) - 1)) = ji31:=(i64_w _).trans hji31
        by_cases c32:0 ≤ (ji31)
        ·rw [if_pos c32] at H
         have c32b0:decide (0 ≤ (ji31)) = true:=decide_eq_true c32
         clear c32
         by_cases c33:(ji31) < (x2_1.length:Int)
         ·rw [if_pos c33] at H
          have c33b0:decide ((ji31) < (x2_1.length:Int)) = true:=decide_eq_true c33
          clear c33
          by_cases c34:(rdOf ByteArray.empty x2_1 (ji31)).toList = ((rd_T73 l0 x12_1).f0.f0).toList
          ·rw [if_pos c34] at H
           have c34b0:((rdOf ByteArray.empty x2_1 (ji31)).toList == ((rd_T73 l0 x12_1).f0.f0).toList) = true:=beq_iff_eq.mpr c34
           have c34b1:((rdOf ByteArray.empty x2_1 (ji31)).toList != ((rd_T73 l0 x12_1).f0.f0).toList) = false:=bne_eq_false_iff_eq.mpr c34
           clear c34
           obtain ⟨ji35,hji35⟩:∃ j_:Int,(wrap64 ((x3_1.length:Int) - 1)) = j_:=⟨_,rfl⟩
           replace H:(if 0 ≤ (ji35) then (if (ji35) < (x3_1.length:Int) then (if (rd_L14 x3_1 (ji35)).length < 2513169434916 then (scan_Products.l0 k1 x2_1 (x3_1.set ((ji35):Int).toNat ((rd_L14 x3_1 (ji35)) ++ [(⟨(⟨(rd_T73 l0 x12_1).f0.f0,(rd_T73 l0 x12_1).f0.f1,(rd_T73 l0 x12_1).f0.f2,(rd_T73 l0 x12_1).f0.f3⟩:S39),(rd_T73 l0 x12_1).f1,(rd_T73 l0 x12_1).f2⟩:S73)])) l0 (l0.length:Int) (wrap64 (x12_1 + 1))) else (none)) else (none)) else (none)) = some (r1,r2):=by first|(rw [hji35] at H;exact H)|(simp only [hji35] at H ⊢;exact H)
           have hji35w:(IntKind.i64.wrap ((x3_1.length:Int) - 1)) = ji35:=(i64_w _).trans hji35
           by_cases c36:0 ≤ (ji35)
           ·rw [if_pos c36] at H
            have c36b0:decide (0 ≤ (ji35)) = true:=decide_eq_true c36
            clear c36
            by_cases c37:(ji35) < (x3_1.length:Int)
            ·rw [if_pos c37] at H
             have c37b0:decide ((ji35) < (x3_1.length:Int)) = true:=decide_eq_true c37
             clear c37
             by_cases c38:(rd_L14 x3_1 (ji35)).length < 2513169434916
             ·rw [if_pos c38] at H
              have LMc38:=Aside0.mk c38
              clear c38
              obtain ⟨y117,hy117⟩:∃ y_:List (S73),y_ = ((rd_L14 x3_1 (ji35)) ++ [(⟨(⟨(rd_T73 l0 x12_1).f0.f0,(rd_T73 l0 x12_1).f0.f1,(rd_T73 l0 x12_1).f0.f2,(rd_T73 l0 x12_1).f0.f3⟩:S39),(rd_T73 l0 x12_1).f1,(rd_T73 l0 x12_1).f2⟩:S73)]):=⟨_,rfl⟩
              replace H:(scan_Products.l0 k1 x2_1 (x3_1.set ((ji35):Int).toNat y117) l0 (l0.length:Int) (wrap64 (x12_1 + 1))) = some (r1,r2):=by first|(rw [hy117];with_reducible exact H)|(have H2_:=(Option.bind_some _ _).symm.trans H;rw [hy117];with_reducible exact H2_)|(have H2_:=(Option.bind_some _ _).symm.trans H;with_reducible exact H2_)|with_reducible exact H|(rw [hy117];exact H)|exact H
              have Ny117:=Aside0.mk hy117
              clear hy117
              obtain ⟨y120,hy120⟩:∃ y_:List (List (S73)),y_ = (x3_1.set ((ji35):Int).toNat y117):=⟨_,rfl⟩
              replace H:(scan_Products.l0 k1 x2_1 y120 l0 (l0.length:Int) (wrap64 (x12_1 + 1))) = some (r1,r2):=by first|(rw [hy120];with_reducible exact H)|(have H2_:=(Option.bind_some _ _).symm.trans H;rw [hy120];with_reducible exact H2_)|(have H2_:=(Option.bind_some _ _).symm.trans H;with_reducible exact H2_)|with_reducible exact H|(rw [hy120];exact H)|exact H
              have Ny120:=Aside0.mk hy120
              clear hy120
              have H':=Aside0.mk H
              clear H
              have p102:0 ≤ (x12_1:Int):=of_decide_eq_true (by first|(with_reducible assumption)|assumption)
              have q102:x12_1 < (l0.length:Int):=of_decide_eq_true (by first|(with_reducible assumption)|assumption)
              obtain ⟨ad102,e102,hx102_0,hx102_1,hx102_2,hx102_3,hx102_4,hx102_5⟩:=at_T73 HR0.out x12_1 p102 q102
              cases e102
              replace hx102_0:=(HB.out.cell (World.block_lt_of_cell? w _ hx102_0)).trans hx102_0
              replace hx102_1:=(HB.out.cell (World.block_lt_of_cell? w _ hx102_1)).trans hx102_1
              replace hx102_2:=(HB.out.cell (World.block_lt_of_cell? w _ hx102_2)).trans hx102_2
              replace hx102_3:=(HB.out.cell (World.block_lt_of_cell? w _ hx102_3)).trans hx102_3
              replace hx102_4:=(HB.out.cell (World.block_lt_of_cell? w _ hx102_4)).trans hx102_4
              replace hx102_5:=(HB.out.cell (World.block_lt_of_cell? w _ hx102_5)).trans hx102_5
              replace p102:=eq_true p102
              replace q102:=eq_true q102
              try go_wp2_with (first|((with_reducible refine gate_dst (N:=5) rfl ?_);refine box_event ?hg (N:=5) ?hd (cs:=#[.string (⟨#[]⟩:ByteArray),.int .i64 0,.int .i64 0,.int .i64 0,.int .i64 0,.int .i64 0]) (t:=73) ?hr ?_;(case hd=>rfl);(case hg=>rfl);(case hr=>first|(go_simp;done)|(go_simp;rfl));intro gb103 hg w40 hbox hb;have n0_:=Aside0.mk (Kd.R_below (by (with_reducible repeat (first|apply Kd.R_alloc|apply Kd.R_drewN|apply Kd.R_drew));exact HO_2.out) hb);have n1_:=Aside0.mk (Kd.S_below (Kd.S_elderB (by (with_reducible repeat (first|apply Kd.S_alloc|apply Kd.S_drewN|apply Kd.S_drew));exact HO_3.out) gb103 (Nat.le_of_eq hg.symm)) hb);have n2_:=Aside0.mk (below_step (by repeat (first|(with_reducible first|exact HB.out|apply below_alloc|apply pw_below_drewN|apply below_drew1)|exact HB.out)) hb);have n3_:=Aside0.mk (hbox);have n4_:=Aside0.mk ((by rw [hg];exact (below_size (by repeat (first|(with_reducible first|exact HB.out|apply below_alloc|apply pw_below_drewN|apply below_drew1)|exact HB.out))):w.heap.size ≤ gb103));have n5_:=Aside0.mk ((by rw [hg];exact (below_size (by repeat (first|(with_reducible first|exact HB.out|apply below_alloc|apply pw_below_drewN|apply below_drew1)|exact HB.out))):w.heap.size ≤ gb103));clear HO_2;clear HO_3;clear HB;have HO_2:=n0_;have HO_3:=n1_;have HB:=n2_;have BK103:=n3_;have GW103:=n4_;have GE103:=n5_;clear n0_ n1_ n2_ n3_ n4_ n5_;clear hb hbox hg;have hcz41_0:w40.cell? ⟨gb103,0,none⟩ = some (.string (⟨#[]⟩:ByteArray)):=(blk_cell BK103.out 0).trans rfl;have hcz41_1:w40.cell? ⟨gb103,1,none⟩ = some (.int .i64 0):=(blk_cell BK103.out 1).trans rfl;have hcz41_2:w40.cell? ⟨gb103,2,none⟩ = some (.int .i64 0):=(blk_cell BK103.out 2).trans rfl;have hcz41_3:w40.cell? ⟨gb103,3,none⟩ = some (.int .i64 0):=(blk_cell BK103.out 3).trans rfl;have hcz41_4:w40.cell? ⟨gb103,4,none⟩ = some (.int .i64 0):=(blk_cell BK103.out 4).trans rfl;have hcz41_5:w40.cell? ⟨gb103,5,none⟩ = some (.int .i64 0):=(blk_cell BK103.out 5).trans rfl;have hfz41_0:=blk_frozen BK103.out 0;have hfz41_1:=blk_frozen BK103.out 1;have hfz41_2:=blk_frozen BK103.out 2;have hfz41_3:=blk_frozen BK103.out 3;have hfz41_4:=blk_frozen BK103.out 4;have hfz41_5:=blk_frozen BK103.out 5;obtain ⟨Ao42,co42,eo42⟩:=Kd.R_slice HO_2.out;subst eo42))
              have n0_:Aside0 (Kd.R Kd.string 9 ((((((w40.setCell ⟨gb103,0,none⟩ (.string ((rd_T73 l0 x12_1).f0.f0))).setCell ⟨gb103,1,none⟩ (.int .i64 ((rd_T73 l0 x12_1).f0.f1))).setCell ⟨gb103,2,none⟩ (.int .i64 ((rd_T73 l0 x12_1).f0.f2))).setCell ⟨gb103,3,none⟩ (.int .i64 ((rd_T73 l0 x12_1).f0.f3))).setCell ⟨gb103,4,none⟩ (.int .i64 ((rd_T73 l0 x12_1).f1))).setCell ⟨gb103,5,none⟩ (.int .i64 ((rd_T73 l0 x12_1).f2))) w.heap.size (fun _=>True) (.slice Ao42 x2_1.length co42) x2_1):=⟨by (with_reducible repeat (first|apply Kd.R_alloc|apply Kd.R_drewN|apply Kd.R_drew));exact Kd.R_mono (Kd.R_far (p:=⟨gb103,5,none⟩) (Kd.R_far (p:=⟨gb103,4,none⟩) (Kd.R_far (p:=⟨gb103,3,none⟩) (Kd.R_far (p:=⟨gb103,2,none⟩) (Kd.R_far (p:=⟨gb103,1,none⟩) (Kd.R_far (p:=⟨gb103,0,none⟩) (Kd.R_types HO_2.out BK103.out (by decide)) (fun _ hk=>hk.2) (.string ((rd_T73 l0 x12_1).f0.f0))) (fun _ hk=>hk.2) (.int .i64 ((rd_T73 l0 x12_1).f0.f1))) (fun _ hk=>hk.2) (.int .i64 ((rd_T73 l0 x12_1).f0.f2))) (fun _ hk=>hk.2) (.int .i64 ((rd_T73 l0 x12_1).f0.f3))) (fun _ hk=>hk.2) (.int .i64 ((rd_T73 l0 x12_1).f1))) (fun _ hk=>hk.2) (.int .i64 ((rd_T73 l0 x12_1).f2))) (fun _ hk=>trivial)⟩
              have n1_:Aside0 (Kd.S (Kd.slice 73 k73) 55 ((((((w40.setCell ⟨gb103,0,none⟩ (.string ((rd_T73 l0 x12_1).f0.f0))).setCell ⟨gb103,1,none⟩ (.int .i64 ((rd_T73 l0 x12_1).f0.f1))).setCell ⟨gb103,2,none⟩ (.int .i64 ((rd_T73 l0 x12_1).f0.f2))).setCell ⟨gb103,3,none⟩ (.int .i64 ((rd_T73 l0 x12_1).f0.f3))).setCell ⟨gb103,4,none⟩ (.int .i64 ((rd_T73 l0 x12_1).f1))).setCell ⟨gb103,5,none⟩ (.int .i64 ((rd_T73 l0 x12_1).f2))) w.heap.size (fun k_=>k_ ≠ gb103) u3 x3_1):=⟨by (with_reducible repeat (first|apply Kd.S_alloc|apply Kd.S_drewN|apply Kd.S_drew));exact Kd.S_mono (Kd.S_far (p:=⟨gb103,5,none⟩) (Kd.S_far (p:=⟨gb103,4,none⟩) (Kd.S_far (p:=⟨gb103,3,none⟩) (Kd.S_far (p:=⟨gb103,2,none⟩) (Kd.S_far (p:=⟨gb103,1,none⟩) (Kd.S_far (p:=⟨gb103,0,none⟩) (Kd.S_mono HO_3.out (fun k_ hk=>(⟨hk,hk.2⟩:_ ∧ k_ ≠ gb103))) (fun _ hk=>hk.2) (.string ((rd_T73 l0 x12_1).f0.f0))) (fun _ hk=>hk.2) (.int .i64 ((rd_T73 l0 x12_1).f0.f1))) (fun _ hk=>hk.2) (.int .i64 ((rd_T73 l0 x12_1).f0.f2))) (fun _ hk=>hk.2) (.int .i64 ((rd_T73 l0 x12_1).f0.f3))) (fun _ hk=>hk.2) (.int .i64 ((rd_T73 l0 x12_1).f1))) (fun _ hk=>hk.2) (.int .i64 ((rd_T73 l0 x12_1).f2))) (fun _ hk=>hk.1.2)⟩
              have n2_:Aside0 (((((((w40.setCell ⟨gb103,0,none⟩ (.string ((rd_T73 l0 x12_1).f0.f0))).setCell ⟨gb103,1,none⟩ (.int .i64 ((rd_T73 l0 x12_1).f0.f1))).setCell ⟨gb103,2,none⟩ (.int .i64 ((rd_T73 l0 x12_1).f0.f2))).setCell ⟨gb103,3,none⟩ (.int .i64 ((rd_T73 l0 x12_1).f0.f3))).setCell ⟨gb103,4,none⟩ (.int .i64 ((rd_T73 l0 x12_1).f1))).setCell ⟨gb103,5,none⟩ (.int .i64 ((rd_T73 l0 x12_1).f2))).heap[gb103]? = some (.cells #[.string ((rd_T73 l0 x12_1).f0.f0),.int .i64 ((rd_T73 l0 x12_1).f0.f1),.int .i64 ((rd_T73 l0 x12_1).f0.f2),.int .i64 ((rd_T73 l0 x12_1).f0.f3),.int .i64 ((rd_T73 l0 x12_1).f1),.int .i64 ((rd_T73 l0 x12_1).f2)] 73 (0,0))):=⟨by (with_reducible repeat (first|refine blk_drewN ?_ _|refine blk_drew ?_|refine blk_alloc ?_ _));refine blk_put (cs:=#[.string ((rd_T73 l0 x12_1).f0.f0),.int .i64 ((rd_T73 l0 x12_1).f0.f1),.int .i64 ((rd_T73 l0 x12_1).f0.f2),.int .i64 ((rd_T73 l0 x12_1).f0.f3),.int .i64 ((rd_T73 l0 x12_1).f1),.int .i64 0]) ?_ 5 _ rfl;(with_reducible repeat (first|refine blk_drewN ?_ _|refine blk_drew ?_|refine blk_alloc ?_ _));refine blk_put (cs:=#[.string ((rd_T73 l0 x12_1).f0.f0),.int .i64 ((rd_T73 l0 x12_1).f0.f1),.int .i64 ((rd_T73 l0 x12_1).f0.f2),.int .i64 ((rd_T73 l0 x12_1).f0.f3),.int .i64 0,.int .i64 0]) ?_ 4 _ rfl;(with_reducible repeat (first|refine blk_drewN ?_ _|refine blk_drew ?_|refine blk_alloc ?_ _));refine blk_put (cs:=#[.string ((rd_T73 l0 x12_1).f0.f0),.int .i64 ((rd_T73 l0 x12_1).f0.f1),.int .i64 ((rd_T73 l0 x12_1).f0.f2),.int .i64 0,.int .i64 0,.int .i64 0]) ?_ 3 _ rfl;(with_reducible repeat (first|refine blk_drewN ?_ _|refine blk_drew ?_|refine blk_alloc ?_ _));refine blk_put (cs:=#[.string ((rd_T73 l0 x12_1).f0.f0),.int .i64 ((rd_T73 l0 x12_1).f0.f1),.int .i64 0,.int .i64 0,.int .i64 0,.int .i64 0]) ?_ 2 _ rfl;(with_reducible repeat (first|refine blk_drewN ?_ _|refine blk_drew ?_|refine blk_alloc ?_ _));refine blk_put (cs:=#[.string ((rd_T73 l0 x12_1).f0.f0),.int .i64 0,.int .i64 0,.int .i64 0,.int .i64 0,.int .i64 0]) ?_ 1 _ rfl;(with_reducible repeat (first|refine blk_drewN ?_ _|refine blk_drew ?_|refine blk_alloc ?_ _));refine blk_put (cs:=#[.string (⟨#[]⟩:ByteArray),.int .i64 0,.int .i64 0,.int .i64 0,.int .i64 0,.int .i64 0]) ?_ 0 _ rfl;(with_reducible repeat (first|refine blk_drewN ?_ _|refine blk_drew ?_|refine blk_alloc ?_ _));exact BK103.out⟩
              have n3_:Aside0 (Below w.heap.size w ((((((w40.setCell ⟨gb103,0,none⟩ (.string ((rd_T73 l0 x12_1).f0.f0))).setCell ⟨gb103,1,none⟩ (.int .i64 ((rd_T73 l0 x12_1).f0.f1))).setCell ⟨gb103,2,none⟩ (.int .i64 ((rd_T73 l0 x12_1).f0.f2))).setCell ⟨gb103,3,none⟩ (.int .i64 ((rd_T73 l0 x12_1).f0.f3))).setCell ⟨gb103,4,none⟩ (.int .i64 ((rd_T73 l0 x12_1).f1))).setCell ⟨gb103,5,none⟩ (.int .i64 ((rd_T73 l0 x12_1).f2)))):=⟨by repeat (first|(with_reducible first|exact HB.out|apply below_alloc|apply pw_below_drewN|apply below_drew1|refine below_set ?_ GE103.out)|exact HB.out)⟩
              (try clear HO_2)
              (try clear HO_3)
              (try clear BK103)
              (try clear HB)
              generalize ((((((w40.setCell ⟨gb103,0,none⟩ (.string ((rd_T73 l0 x12_1).f0.f0))).setCell ⟨gb103,1,none⟩ (.int .i64 ((rd_T73 l0 x12_1).f0.f1))).setCell ⟨gb103,2,none⟩ (.int .i64 ((rd_T73 l0 x12_1).f0.f2))).setCell ⟨gb103,3,none⟩ (.int .i64 ((rd_T73 l0 x12_1).f0.f3))).setCell ⟨gb103,4,none⟩ (.int .i64 ((rd_T73 l0 x12_1).f1))).setCell ⟨gb103,5,none⟩ (.int .i64 ((rd_T73 l0 x12_1).f2))) = w43 at n0_ n1_ n2_ n3_ ⊢
              have HO_2:=n0_
              have HO_3:=n1_
              have BK103:=n2_
              have HB:=n3_
              clear n0_ n1_ n2_ n3_
              have n0_:=Aside0.mk (Kd.R_drew HO_2.out)
              have n1_:=Aside0.mk (Kd.S_drew HO_3.out)
              have n2_:=Aside0.mk (blk_drew BK103.out)
              have n3_:=Aside0.mk (below_drew1 HB.out)
              clear HO_2
              clear HO_3
              clear BK103
              clear HB
              have HO_2:=n0_
              have HO_3:=n1_
              have BK103:=n2_
              have HB:=n3_
              clear n0_ n1_ n2_ n3_
              have p115:0 ≤ ((ji31):Int):=of_decide_eq_true (by first|(with_reducible assumption)|assumption)
              have q115:(ji31) < (x2_1.length:Int):=of_decide_eq_true (by first|(with_reducible assumption)|assumption)
              obtain ⟨ad115,e115,hx115_0⟩:=Kd.at_string (Kd.R_reads' HO_2.out).2.2 (ji31) p115 q115
              cases e115
              replace p115:=eq_true p115
              replace q115:=eq_true q115
              refine start_ (n:=13) (S:=fun w'=>w'.cell? ⟨gb103,0,none⟩ = some (.string ((rd_T73 l0 x12_1).f0.f0)) ∧ w'.cell? ⟨gb103,1,none⟩ = some (.int .i64 ((rd_T73 l0 x12_1).f0.f1)) ∧ w'.cell? ⟨gb103,2,none⟩ = some (.int .i64 ((rd_T73 l0 x12_1).f0.f2)) ∧ w'.cell? ⟨gb103,3,none⟩ = some (.int .i64 ((rd_T73 l0 x12_1).f0.f3)) ∧ w'.cell? ⟨gb103,4,none⟩ = some (.int .i64 ((rd_T73 l0 x12_1).f1)) ∧ w'.cell? ⟨gb103,5,none⟩ = some (.int .i64 ((rd_T73 l0 x12_1).f2)) ∧ w'.cell? (ad115.add ((ji31)).toNat) = some (.string (rdOf ByteArray.empty x2_1 (ji31)))) (ds:=[]) #[Z,Z,Z,Z,Z,Z,Z,Z,Z,Z,Z,Z,Z] (by kernel_rfl) rfl rfl ⟨(blk_cell BK103.out 0).trans rfl,(blk_cell BK103.out 1).trans rfl,(blk_cell BK103.out 2).trans rfl,(blk_cell BK103.out 3).trans rfl,(blk_cell BK103.out 4).trans rfl,(blk_cell BK103.out 5).trans rfl,hx115_0⟩ (fun hHeld=>?_);refine with_tabW scan_Products.tab7 scan_Products.bits7 (fun HT_ HW_=>?_)
              generalize w43.drew = w44 at HO_2 HO_3 BK103 HB hx115_0 hHeld ⊢
              refine pure_ (i:=0) (N:=some 18) (v:=?_) (a':=?_) #[Y,Z,Z,Z,Z,Z,Z,Z,Z,Z,Z,Z,Z] rfl rfl (any_of HT_.out (by kernel_rfl)) (fun _ _ _ h=>h) (Or.inl ⟨by rfl,?_⟩) ?_ ?_
              rotate_left
              ·intro w'
               go_simp
               with_reducible rfl
              rotate_left
              ·simp only [Act.put,List.setIfInBounds_toArray,List.set_cons_zero,List.set_cons_succ,i64_w,i32_w]
               rfl
              refine pure_ (i:=1) (N:=some 19) (v:=?_) (a':=?_) #[Y,Y,Z,Z,Z,Z,Z,Z,Z,Z,Z,Z,Z] rfl rfl (any_of HT_.out (by kernel_rfl)) (fun _ _ _ h=>h) (Or.inl ⟨by rfl,?_⟩) ?_ ?_
              rotate_left
              ·intro w'
               go_simp
               with_reducible rfl
              rotate_left
              ·simp only [Act.put,List.setIfInBounds_toArray,List.set_cons_zero,List.set_cons_succ,i64_w,i32_w]
               rfl
              refine pure_ (i:=2) (N:=some 20) (v:=?_) (a':=?_) #[Y,Y,Y,Z,Z,Z,Z,Z,Z,Z,Z,Z,Z] rfl rfl (any_of HT_.out (by kernel_rfl)) (fun _ _ _ h=>h) (Or.inl ⟨by rfl,?_⟩) ?_ ?_
              rotate_left
              ·intro w'
               go_simp
               with_reducible rfl
              rotate_left
              ·simp only [Act.put,List.setIfInBounds_toArray,List.set_cons_zero,List.set_cons_succ,i64_w,i32_w]
               rfl
              refine pure_ (i:=3) (N:=some 21) (v:=?_) (a':=?_) #[Y,Y,Y,Y,Z,Z,Z,Z,Z,Z,Z,Z,Z] rfl rfl (any_of HT_.out (by kernel_rfl)) (fun _ _ _ h=>h) (Or.inl ⟨by rfl,?_⟩) ?_ ?_
              rotate_left
              ·intro w'
               go_simp
               with_reducible rfl
              rotate_left
              ·simp only [Act.put,List.setIfInBounds_toArray,List.set_cons_zero,List.set_cons_succ,i64_w,i32_w]
               rfl
              refine pure_ (i:=4) (N:=some 22) (v:=?_) (a':=?_) #[Y,Y,Y,Y,Y,Z,Z,Z,Z,Z,Z,Z,Z] rfl rfl (any_of HT_.out (by kernel_rfl)) (fun _ _ _ h=>h) (Or.inl ⟨by rfl,?_⟩) ?_ ?_
              rotate_left
              ·intro w'
               go_simp
               with_reducible rfl
              rotate_left
              ·simp only [Act.put,List.setIfInBounds_toArray,List.set_cons_zero,List.set_cons_succ,i64_w,i32_w]
               rfl
              refine pure_ (i:=5) (N:=some 23) (v:=?_) (a':=?_) #[Y,Y,Y,Y,Y,Y,Z,Z,Z,Z,Z,Z,Z] rfl rfl (any_of HT_.out (by kernel_rfl)) (fun _ _ _ h=>h) (Or.inl ⟨by rfl,?_⟩) ?_ ?_
              rotate_left
              ·intro w'
               go_simp
               with_reducible rfl
              rotate_left
              ·simp only [Act.put,List.setIfInBounds_toArray,List.set_cons_zero,List.set_cons_succ,i64_w,i32_w]
               rfl
              refine pure_ (i:=6) (N:=some 24) (v:=?_) (a':=?_) #[Y,Y,Y,Y,Y,Y,Y,Z,Z,Z,Z,Z,Z] rfl rfl (any_of HT_.out (by kernel_rfl)) (fun _ _ _ h=>h) (Or.inl ⟨by rfl,?_⟩) ?_ ?_
              rotate_left
              ·intro w'
               go_simp
               with_reducible rfl
              rotate_left
              ·simp only [Act.put,List.setIfInBounds_toArray,List.set_cons_zero,List.set_cons_succ,i64_w,i32_w]
               rfl
              refine pure_ (i:=8) (N:=some 26) (v:=?_) (a':=?_) #[Y,Y,Y,Y,Y,Y,Y,Z,Y,Z,Z,Z,Z] rfl rfl (any_of HT_.out (by kernel_rfl)) (fun _ _ _ h=>h) (Or.inl ⟨by rfl,?_⟩) ?_ ?_
              rotate_left
              ·intro w'
               go_simp
               with_reducible rfl
              rotate_left
              ·simp only [Act.put,List.setIfInBounds_toArray,List.set_cons_zero,List.set_cons_succ,i64_w,i32_w]
               rfl
              refine pure_ (i:=9) (N:=some 27) (v:=?_) (a':=?_) #[Y,Y,Y,Y,Y,Y,Y,Z,Y,Y,Z,Z,Z] rfl rfl (any_of HT_.out (by kernel_rfl)) (fun _ _ _ h=>h) (Or.inl ⟨by rfl,?_⟩) ?_ ?_
              rotate_left
              ·intro w'
               go_simp
               with_reducible rfl
              rotate_left
              ·simp only [Act.put,List.setIfInBounds_toArray,List.set_cons_zero,List.set_cons_succ,i64_w,i32_w]
               rfl
              refine take_ (i:=7) (N:=some 25) (v:=?_) (a':=?_) #[Y,Y,Y,Y,Y,Y,Y,Y,Y,Y,Z,Z,Z] rfl rfl (take_ofW HT_.out HW_.out (by kernel_rfl)) (fun _ _ _ h=>h) (Or.inl ⟨by rfl,?_⟩) hHeld ?_ ?_
              rotate_left
              ·rintro w' ⟨s0,s1,s2,s3,s4,s5,s6⟩
               go_simp
               with_reducible rfl
              rotate_left
              ·simp only [Act.put,List.setIfInBounds_toArray,List.set_cons_zero,List.set_cons_succ,i64_w,i32_w]
               rfl
              refine take_ (i:=10) (N:=some 28) (v:=?_) (a':=?_) #[Y,Y,Y,Y,Y,Y,Y,Y,Y,Y,Y,Z,Z] rfl rfl (take_ofW HT_.out HW_.out (by kernel_rfl)) (fun _ _ _ h=>h) (Or.inl ⟨by rfl,?_⟩) hHeld ?_ ?_
              rotate_left
              ·rintro w' ⟨s0,s1,s2,s3,s4,s5,s6⟩
               go_simp
               with_reducible rfl
              rotate_left
              ·simp only [Act.put,List.setIfInBounds_toArray,List.set_cons_zero,List.set_cons_succ,i64_w,i32_w]
               rfl
              refine pure_ (i:=11) (N:=some 29) (v:=?_) (a':=?_) #[Y,Y,Y,Y,Y,Y,Y,Y,Y,Y,Y,Y,Z] rfl rfl (any_of HT_.out (by kernel_rfl)) (fun _ _ _ h=>h) (Or.inl ⟨by rfl,?_⟩) ?_ ?_
              rotate_left
              ·intro w'
               go_simp
               with_reducible rfl
              rotate_left
              ·simp only [Act.put,List.setIfInBounds_toArray,List.set_cons_zero,List.set_cons_succ,i64_w,i32_w]
               rfl
              refine pure_ (i:=12) (N:=some 30) (v:=?_) (a':=?_) #[Y,Y,Y,Y,Y,Y,Y,Y,Y,Y,Y,Y,Y] rfl rfl (any_of HT_.out (by kernel_rfl)) (fun _ _ _ h=>h) (Or.inl ⟨by rfl,?_⟩) ?_ ?_
              rotate_left
              ·intro w'
               go_simp
               with_reducible rfl
              rotate_left
              ·simp only [Act.put,List.setIfInBounds_toArray,List.set_cons_zero,List.set_cons_succ,i64_w,i32_w]
               rfl
              refine done_ (done_of HT_.out (by kernel_rfl)) ?_
              try go_wp2
              have n0_:=Aside0.mk (Kd.R_drew HO_2.out)
              have n1_:=Aside0.mk (Kd.S_drew HO_3.out)
              have n2_:=Aside0.mk (blk_drew BK103.out)
              have n3_:=Aside0.mk (below_drew1 HB.out)
              clear HO_2
              clear HO_3
              clear BK103
              clear HB
              have HO_2:=n0_
              have HO_3:=n1_
              have BK103:=n2_
              have HB:=n3_
              clear n0_ n1_ n2_ n3_
              obtain ⟨Ao46,co46,eo46⟩:=Kd.S_slice HO_3.out
              (first|subst eo46|(injection eo46 with f1_ f2_ f3_;have f4_:=f1_.symm;have f5_:=f3_.symm;clear f1_ f2_ f3_;subst f4_;subst f5_))
              have p116:0 ≤ ((ji35):Int):=of_decide_eq_true (by first|(with_reducible assumption)|assumption)
              have q116:(ji35) < (x3_1.length:Int):=of_decide_eq_true (by first|(with_reducible assumption)|assumption)
              obtain ⟨ad116,A116_0,c116_0,e116,hx116_0,hl116_0,hi116_0⟩:=at_L14 (Kd.S_reads' HO_3.out).2.2 (ji35) p116 q116
              cases e116
              obtain ⟨ce116,hce116,hMe116,hcc116⟩:=Kd.S_get HO_3.out [] (ji35) p116 (by first|exact q116|exact of_decide_eq_true (by first|(with_reducible assumption)|assumption)|(have e_:=(Kd.S_reads' HO_3.out).1;omega))
              obtain ⟨ve116_0,rfl,ge116_0⟩:=hMe116
              have hv116_0:=hcc116 0 _ rfl
              rw [Nat.add_zero,show ((Kd.slice 73 k73)).sz = 1 from rfl,Nat.mul_one] at hv116_0
              replace hv116_0:=Option.some.inj (hv116_0.symm.trans hx116_0)
              rw [hv116_0] at ge116_0
              have HL116_0:=Aside0.mk (show Kd.R k73 73 _ _ _ _ (rd_L14 x3_1 (ji35)) from ge116_0)
              clear hv116_0 ge116_0
              have HX116_0:=Aside0.mk hx116_0
              clear hcc116 hce116
              have HR116_0:=Aside0.mk hi116_0
              have HC116_0:=Aside0.mk hl116_0
              clear hi116_0 hl116_0
              replace p116:=eq_true p116
              replace q116:=eq_true q116
              obtain ⟨go47,co47,eo47,gb47,gl47,cl47,HG47⟩:=Kd.S_form HO_3.out (by have h_:((ji35):Int) < ((x3_1.length:Int):Int):=of_decide_eq_true (by first|(with_reducible assumption)|assumption);have h2_:0 ≤ ((ji35):Int):=(of_decide_eq_true (by first|(with_reducible assumption)|assumption));omega)
              (first|cases eo47|(injection eo47 with ea_ en_ ec_;(first|subst ea_|(injection ea_ with ea_;subst ea_));subst ec_;clear en_))
              have GB47:=Aside0.mk gb47
              have GG47:=Aside0.mk HG47
              clear gb47 gl47 HG47
              (first|simp only [add_plain] at hx116_0|skip)
              obtain ⟨oki47,ce47,hcl47,hM47,hcc47,_,_,hH47⟩:=Kd.S_elem HO_3.out [] ((ji35):Int) (of_decide_eq_true (by first|(with_reducible assumption)|assumption)) (by have h_:((ji35):Int) < ((x3_1.length:Int):Int):=of_decide_eq_true (by first|(with_reducible assumption)|assumption);first|exact h_|(have e_:=(Kd.S_reads' HO_3.out).1;omega)|simpa using h_)
              obtain ⟨ve47_0,rfl,ge47_0⟩:=hM47
              have hv47:=hcc47 0 _ rfl
              have hX47:=HX116_0.out
              (try simp only [add_plain] at hX47)
              (try simp only [Nat.add_zero] at hv47)
              (try rw [show ((Kd.slice 73 k73)).sz = 1 from rfl,Nat.mul_one] at hv47)
              replace hv47:=Option.some.inj (hv47.symm.trans hX47)
              subst hv47
              clear hX47 hcc47 hcl47
              have UU47:=Aside0.mk (show Kd.R k73 73 _ w.heap.size oki47 (.slice A116_0 (rd_L14 x3_1 (ji35)).length c116_0) (rd_L14 x3_1 (ji35)) from ge47_0)
              have HH47:=Aside0.mk hH47
              have HN47:=Aside0.mk (Kd.S_reads' HO_3.out).1
              clear hH47 ge47_0
              refine start_ (n:=15) (S:=fun w'=>w'.cell? ⟨gb103,0,none⟩ = some (.string ((rd_T73 l0 x12_1).f0.f0)) ∧ w'.cell? ⟨gb103,1,none⟩ = some (.int .i64 ((rd_T73 l0 x12_1).f0.f1)) ∧ w'.cell? ⟨gb103,2,none⟩ = some (.int .i64 ((rd_T73 l0 x12_1).f0.f2)) ∧ w'.cell? ⟨gb103,3,none⟩ = some (.int .i64 ((rd_T73 l0 x12_1).f0.f3)) ∧ w'.cell? ⟨gb103,4,none⟩ = some (.int .i64 ((rd_T73 l0 x12_1).f1)) ∧ w'.cell? ⟨gb103,5,none⟩ = some (.int .i64 ((rd_T73 l0 x12_1).f2)) ∧ w'.cell? ⟨go47,((ji35)).toNat,none⟩ = some (.slice A116_0 (rd_L14 x3_1 (ji35)).length c116_0)) (ds:=[14]) #[Z,Z,Z,Z,Z,Z,Z,Z,Z,Z,Z,Z,Z,Z,Z] (by kernel_rfl) rfl rfl ⟨(blk_cell BK103.out 0).trans rfl,(blk_cell BK103.out 1).trans rfl,(blk_cell BK103.out 2).trans rfl,(blk_cell BK103.out 3).trans rfl,(blk_cell BK103.out 4).trans rfl,(blk_cell BK103.out 5).trans rfl,hx116_0⟩ (fun hHeld=>?_);refine with_tabW scan_Products.tab10 scan_Products.bits10 (fun HT_ HW_=>?_)
              generalize w44.drew = w45 at HO_2 HO_3 BK103 HB GG47 HH47 HL116_0 HR116_0 HX116_0 UU47 hx116_0 hHeld ⊢
              refine pure_ (i:=0) (N:=some 40) (v:=?_) (a':=?_) #[Y,Z,Z,Z,Z,Z,Z,Z,Z,Z,Z,Z,Z,Z,Z] rfl rfl (any_of HT_.out (by kernel_rfl)) (fun _ _ _ h=>h) (Or.inl ⟨by rfl,?_⟩) ?_ ?_
              rotate_left
              ·intro w'
               go_simp
               with_reducible rfl
              rotate_left
              ·simp only [Act.put,List.setIfInBounds_toArray,List.set_cons_zero,List.set_cons_succ,i64_w,i32_w]
               rfl
              refine pure_ (i:=1) (N:=some 41) (v:=?_) (a':=?_) #[Y,Y,Z,Z,Z,Z,Z,Z,Z,Z,Z,Z,Z,Z,Z] rfl rfl (any_of HT_.out (by kernel_rfl)) (fun _ _ _ h=>h) (Or.inl ⟨by rfl,?_⟩) ?_ ?_
              rotate_left
              ·intro w'
               go_simp
               with_reducible rfl
              rotate_left
              ·simp only [Act.put,List.setIfInBounds_toArray,List.set_cons_zero,List.set_cons_succ,i64_w,i32_w]
               rfl
              refine pure_ (i:=2) (N:=some 42) (v:=?_) (a':=?_) #[Y,Y,Y,Z,Z,Z,Z,Z,Z,Z,Z,Z,Z,Z,Z] rfl rfl (any_of HT_.out (by kernel_rfl)) (fun _ _ _ h=>h) (Or.inl ⟨by rfl,?_⟩) ?_ ?_
              rotate_left
              ·intro w'
               go_simp
               with_reducible rfl
              rotate_left
              ·simp only [Act.put,List.setIfInBounds_toArray,List.set_cons_zero,List.set_cons_succ,i64_w,i32_w]
               rfl
              refine pure_ (i:=3) (N:=some 43) (v:=?_) (a':=?_) #[Y,Y,Y,Y,Z,Z,Z,Z,Z,Z,Z,Z,Z,Z,Z] rfl rfl (any_of HT_.out (by kernel_rfl)) (fun _ _ _ h=>h) (Or.inl ⟨by rfl,?_⟩) ?_ ?_
              rotate_left
              ·intro w'
               go_simp
               with_reducible rfl
              rotate_left
              ·simp only [Act.put,List.setIfInBounds_toArray,List.set_cons_zero,List.set_cons_succ,i64_w,i32_w]
               rfl
              refine pure_ (i:=4) (N:=some 44) (v:=?_) (a':=?_) #[Y,Y,Y,Y,Y,Z,Z,Z,Z,Z,Z,Z,Z,Z,Z] rfl rfl (any_of HT_.out (by kernel_rfl)) (fun _ _ _ h=>h) (Or.inl ⟨by rfl,?_⟩) ?_ ?_
              rotate_left
              ·intro w'
               go_simp
               with_reducible rfl
              rotate_left
              ·simp only [Act.put,List.setIfInBounds_toArray,List.set_cons_zero,List.set_cons_succ,i64_w,i32_w]
               rfl
              refine pure_ (i:=5) (N:=some 45) (v:=?_) (a':=?_) #[Y,Y,Y,Y,Y,Y,Z,Z,Z,Z,Z,Z,Z,Z,Z] rfl rfl (any_of HT_.out (by kernel_rfl)) (fun _ _ _ h=>h) (Or.inl ⟨by rfl,?_⟩) ?_ ?_
              rotate_left
              ·intro w'
               go_simp
               with_reducible rfl
              rotate_left
              ·simp only [Act.put,List.setIfInBounds_toArray,List.set_cons_zero,List.set_cons_succ,i64_w,i32_w]
               rfl
              refine pure_ (i:=6) (N:=some 46) (v:=?_) (a':=?_) #[Y,Y,Y,Y,Y,Y,Y,Z,Z,Z,Z,Z,Z,Z,Z] rfl rfl (any_of HT_.out (by kernel_rfl)) (fun _ _ _ h=>h) (Or.inl ⟨by rfl,?_⟩) ?_ ?_
              rotate_left
              ·intro w'
               go_simp
               with_reducible rfl
              rotate_left
              ·simp only [Act.put,List.setIfInBounds_toArray,List.set_cons_zero,List.set_cons_succ,i64_w,i32_w]
               rfl
              refine pure_ (i:=7) (N:=some 47) (v:=?_) (a':=?_) #[Y,Y,Y,Y,Y,Y,Y,Y,Z,Z,Z,Z,Z,Z,Z] rfl rfl (any_of HT_.out (by kernel_rfl)) (fun _ _ _ h=>h) (Or.inl ⟨by rfl,?_⟩) ?_ ?_
              rotate_left
              ·intro w'
               go_simp
               with_reducible rfl
              rotate_left
              ·simp only [Act.put,List.setIfInBounds_toArray,List.set_cons_zero,List.set_cons_succ,i64_w,i32_w]
               rfl
              refine pure_ (i:=8) (N:=some 48) (v:=?_) (a':=?_) #[Y,Y,Y,Y,Y,Y,Y,Y,Y,Z,Z,Z,Z,Z,Z] rfl rfl (any_of HT_.out (by kernel_rfl)) (fun _ _ _ h=>h) (Or.inl ⟨by rfl,?_⟩) ?_ ?_
              rotate_left
              ·intro w'
               go_simp
               with_reducible rfl
              rotate_left
              ·simp only [Act.put,List.setIfInBounds_toArray,List.set_cons_zero,List.set_cons_succ,i64_w,i32_w]
               rfl
              refine take_ (i:=9) (N:=some 49) (v:=?_) (a':=?_) #[Y,Y,Y,Y,Y,Y,Y,Y,Y,Y,Z,Z,Z,Z,Z] rfl rfl (take_ofW HT_.out HW_.out (by kernel_rfl)) (fun _ _ _ h=>h) (Or.inl ⟨by rfl,?_⟩) hHeld ?_ ?_
              rotate_left
              ·rintro w' ⟨s0,s1,s2,s3,s4,s5,s6⟩
               go_simp
               with_reducible rfl
              rotate_left
              ·simp only [Act.put,List.setIfInBounds_toArray,List.set_cons_zero,List.set_cons_succ,i64_w,i32_w]
               rfl
              refine take_ (i:=10) (N:=some 50) (v:=?_) (a':=?_) #[Y,Y,Y,Y,Y,Y,Y,Y,Y,Y,Y,Z,Z,Z,Z] rfl rfl (take_ofW HT_.out HW_.out (by kernel_rfl)) (fun _ _ _ h=>h) (Or.inl ⟨by rfl,?_⟩) hHeld ?_ ?_
              rotate_left
              ·rintro w' ⟨s0,s1,s2,s3,s4,s5,s6⟩
               go_simp
               with_reducible rfl
              rotate_left
              ·simp only [Act.put,List.setIfInBounds_toArray,List.set_cons_zero,List.set_cons_succ,i64_w,i32_w]
               rfl
              refine one_ (i:=11) (N:=some 51) #[Y,Y,Y,Y,Y,Y,Y,Y,Y,Y,Y,Y,Z,Z,Z] rfl rfl (one_of HT_.out (by kernel_rfl)) (by decide) (fun K hK=>?_)
              refine value_ (w1:=?_) (v:=?_) (by rfl) rfl ?_ ?_
              rotate_left 2
              ·go_simp
               constructor
               ·rfl
               ·rfl
              refine hK.out _ _ ⟨(blk_cell (blk_alloc BK103.out _) 0).trans rfl,(blk_cell (blk_alloc BK103.out _) 1).trans rfl,(blk_cell (blk_alloc BK103.out _) 2).trans rfl,(blk_cell (blk_alloc BK103.out _) 3).trans rfl,(blk_cell (blk_alloc BK103.out _) 4).trans rfl,(blk_cell (blk_alloc BK103.out _) 5).trans rfl,(World.cell?_alloc_lt _ _ _ (World.block_lt_of_cell? _ _ (hHeld.2.2.2.2.2.2))).trans (hHeld.2.2.2.2.2.2)⟩ (fun hHeld=>?_)
              clear hK K
              refine norm_ (a':=?_) ?_ ?_
              rotate_left
              ·show Act.put _ (some 51) _ = _
               simp only [Act.put,List.setIfInBounds_toArray,List.set_cons_zero,List.set_cons_succ,i64_w,i32_w]
               rfl
              refine one_ (i:=12) (N:=some 52) #[Y,Y,Y,Y,Y,Y,Y,Y,Y,Y,Y,Y,Y,Z,Z] rfl rfl (one_of HT_.out (by kernel_rfl)) (by decide) (fun K hK=>?_)
              refine Kd.R_append_step k73 (w0:=w) w.heap.size (by rfl) (.tmp 49) (.tmp 51) 55 73 (.agg #[(.string ⟨#[]⟩),(.int .i64 0),(.int .i64 0),(.int .i64 0),(.int .i64 0),(.int .i64 0)]) 56 rfl Try.underlying55 info73 rfl (by decide) (by omega) (.slice A116_0 (rd_L14 x3_1 (ji35)).length c116_0) (rd_L14 x3_1 (ji35)) (⟨(⟨(rd_T73 l0 x12_1).f0.f0,(rd_T73 l0 x12_1).f0.f1,(rd_T73 l0 x12_1).f0.f2,(rd_T73 l0 x12_1).f0.f3⟩:S39),(rd_T73 l0 x12_1).f1,(rd_T73 l0 x12_1).f2⟩:S73) [.string ((rd_T73 l0 x12_1).f0.f0),.int .i64 ((rd_T73 l0 x12_1).f0.f1),.int .i64 ((rd_T73 l0 x12_1).f0.f2),.int .i64 ((rd_T73 l0 x12_1).f0.f3),.int .i64 ((rd_T73 l0 x12_1).f1),.int .i64 ((rd_T73 l0 x12_1).f2)] (fun k_=>oki47 k_ ∨ ((fun k_=>k_ ≠ gb103)) k_ ∧ w45.heap.size ≤ k_) (fun _=>False) rfl rfl ?aP (fun _ hk=>hk.elim) ?aF ?aO ?aB ?aS ?aL ?_
              (case aP=>exact k73_mkM _ _ _ (⟨(⟨(rd_T73 l0 x12_1).f0.f0,(rd_T73 l0 x12_1).f0.f1,(rd_T73 l0 x12_1).f0.f2,(rd_T73 l0 x12_1).f0.f3⟩:S39),(rd_T73 l0 x12_1).f1,(rd_T73 l0 x12_1).f2⟩:S73))
              (case aB=>exact (by repeat (first|(with_reducible first|exact HB.out|apply below_alloc|apply pw_below_drewN|apply below_drew1|refine below_set ?_ GE103.out)|exact HB.out)))
              (case aF=>exact (fun k_ hk=>.inr ⟨Kd.freshB (g:=gb103) (o:=.cells #[.string ((rd_T73 l0 x12_1).f0.f0),.int .i64 ((rd_T73 l0 x12_1).f0.f1),.int .i64 ((rd_T73 l0 x12_1).f0.f2),.int .i64 ((rd_T73 l0 x12_1).f0.f3),.int .i64 ((rd_T73 l0 x12_1).f1),.int .i64 ((rd_T73 l0 x12_1).f2)] 73 (0,0)) (by (with_reducible repeat (first|refine blk_drewN ?_ _|refine blk_drew ?_|refine blk_alloc ?_ _));exact BK103.out) k_ hk,hk⟩))
              (case aO=>exact (by (with_reducible repeat (first|apply Kd.R_alloc|apply Kd.R_drewN|apply Kd.R_drew));exact Kd.R_mono UU47.out (fun _ hk=>.inl hk)))
              (case aS=>exact (below_size (by repeat (first|(with_reducible first|exact HB.out|apply below_alloc|apply pw_below_drewN|apply below_drew1|refine below_set ?_ GE103.out)|exact HB.out))))
              (case aL=>have:=LMc38.out;omega)
              intro v118 w48 ho hb hg hat
              (first|have HS6_:=cell_grown hg (hHeld.2.2.2.2.2.2) (by first|(rw [add_block];exact (fun e_=>((HL116_0.out.1 _ e_.symm).2) rfl))|(show some (Addr.add _ _).block ≠ _;rw [add_block];exact (fun e_=>((HL116_0.out.1 _ e_.symm).2) rfl))|exact (fun e_=>((HL116_0.out.1 _ e_.symm).2) rfl))|have HS6_:=cell_grown hg (cell_unalloc (hHeld.2.2.2.2.2.2) (by first|(rw [add_block];exact Kd.S_lt HO_3.out _ rfl)|(show (Addr.add _ _).block < _;rw [add_block];exact Kd.S_lt HO_3.out _ rfl)|exact Kd.S_lt HO_3.out _ rfl)) (by first|(rw [add_block];exact (fun e_=>((HL116_0.out.1 _ e_.symm).2) rfl))|(show some (Addr.add _ _).block ≠ _;rw [add_block];exact (fun e_=>((HL116_0.out.1 _ e_.symm).2) rfl))|exact (fun e_=>((HL116_0.out.1 _ e_.symm).2) rfl)))
              rw [← Ny117.out] at ho
              have n0_:=Aside0.mk (Kd.R_over' (v:=(.slice A116_0 (rd_L14 x3_1 (ji35)).length c116_0)) (by (with_reducible repeat (first|apply Kd.R_alloc|apply Kd.R_drewN|apply Kd.R_drew));exact HO_2.out) (Kd.R_typed HL116_0.out) (by decide) hg)
              have n1_:=Aside0.mk (blk_grown (g:=gb103) (o:=.cells #[.string ((rd_T73 l0 x12_1).f0.f0),.int .i64 ((rd_T73 l0 x12_1).f0.f1),.int .i64 ((rd_T73 l0 x12_1).f0.f2),.int .i64 ((rd_T73 l0 x12_1).f0.f3),.int .i64 ((rd_T73 l0 x12_1).f1),.int .i64 ((rd_T73 l0 x12_1).f2)] 73 (0,0)) (by (with_reducible repeat (first|refine blk_drewN ?_ _|refine blk_drew ?_|refine blk_alloc ?_ _));exact BK103.out) hg (Kd.R_away HL116_0.out (fun _ hk=>hk.1)))
              have n2_:=Aside0.mk (hb)
              have n3_:=Aside0.mk (Kd.H_grown (Kd.H_widen (by repeat (first|exact HH47.out|refine Kd.H_alloc ?_ _|refine Kd.H_drewN ?_ _|refine Kd.H_drew ?_))) hg (fun k_ e_=>.inl (UU47.out.1 k_ e_)))
              have n4_:=Aside0.mk (ho)
              clear HO_2
              clear BK103
              clear HB
              clear HH47
              clear HO_3
              clear UU47
              clear HL116_0
              have HO_2:=n0_
              have BK103:=n1_
              have HB:=n2_
              have HH47:=n3_
              have HO119:=n4_
              clear n0_ n1_ n2_ n3_ n4_
              clear ho hb hg hat
              have p39:0 ≤ ((ji35):Int):=of_decide_eq_true (by first|(with_reducible assumption)|assumption)
              have q39:((ji35):Int) < ((x3_1.length:Int):Int):=of_decide_eq_true (by first|(with_reducible assumption)|assumption)
              replace p39:=eq_true p39
              replace q39:=eq_true q39
              obtain ⟨Ao51,co51,eo51⟩:=Kd.R_slice HO119.out
              (first|subst eo51|(injection eo51 with f1_ f2_ f3_;have f4_:=f1_.symm;have f5_:=f3_.symm;clear f1_ f2_ f3_;subst f4_;subst f5_))
              obtain ⟨_,_,hraw49,_,_,hcc49,_⟩:=Kd.H_raw HH47.out (of_decide_eq_true (by first|(with_reducible assumption)|assumption)) (by have h_:((ji35):Int) < ((x3_1.length:Int):Int):=of_decide_eq_true (by first|(with_reducible assumption)|assumption);first|exact h_|(have e_:=(HN47.out);omega)|simpa using h_)
              obtain ⟨_,hfr49⟩:=Kd.H_at HH47.out (of_decide_eq_true (by first|(with_reducible assumption)|assumption)) (by have h_:((ji35):Int) < ((x3_1.length:Int):Int):=of_decide_eq_true (by first|(with_reducible assumption)|assumption);first|exact h_|(have e_:=(HN47.out);omega)|simpa using h_)
              have hx49_0:=hcc49 0 _ rfl
              have hf49_0:=hfr49 0
              (try simp only [Nat.add_zero] at hx49_0 hf49_0)
              (try rw [show ((Kd.slice 73 k73)).sz = 1 from rfl,Nat.mul_one] at hx49_0)
              (try rw [show ((Kd.slice 73 k73)).sz = 1 from rfl,Nat.mul_one] at hf49_0)
              have HP49:=Kd.S_seg0 HH47.out (of_decide_eq_true (by first|(with_reducible assumption)|assumption)) (by have h_:((ji35):Int) < ((x3_1.length:Int):Int):=of_decide_eq_true (by first|(with_reducible assumption)|assumption);first|exact h_|(have e_:=(HN47.out);omega)|simpa using h_) (seg:=[.slice Ao51 y117.length co51]) (j:=0) (show 1 ≤ 1 from by decide) (x':=y117) (Kd.M_row HO119.out) (fun _ hk=>hk)
              (try simp only [show ((Kd.slice 73 k73)).sz = 1 from rfl,Nat.mul_one,Nat.add_zero] at HP49)
              clear hcc49 hfr49
              have HNB103_go47:=Aside0.mk (show gb103 ≠ go47 from by have h_:=Kd.R_ne hraw49 BK103.out (by decide);intro e_;exact h_ (by rw [e_];rfl))
              have HS49:=HP49.1
              rw [← Ny120.out] at HS49
              have HQ49:=Aside0.mk HS49
              obtain ⟨_,hgg49⟩:=Kd.R_typed hraw49 go47 rfl
              have GG49_:=Aside0.mk hgg49
              clear HP49 HS49 hgg49
              refine hK.out _ _ ⟨(blk_cell BK103.out 0).trans rfl,(blk_cell BK103.out 1).trans rfl,(blk_cell BK103.out 2).trans rfl,(blk_cell BK103.out 3).trans rfl,(blk_cell BK103.out 4).trans rfl,(blk_cell BK103.out 5).trans rfl,HS6_⟩ (fun hHeld=>?_)
              clear hK K
              refine norm_ (a':=?_) ?_ ?_
              rotate_left
              ·show Act.put _ (some 52) _ = _
               simp only [Act.put,List.setIfInBounds_toArray,List.set_cons_zero,List.set_cons_succ,i64_w,i32_w]
               rfl
              refine pure_ (i:=13) (N:=some 53) (v:=?_) (a':=?_) #[Y,Y,Y,Y,Y,Y,Y,Y,Y,Y,Y,Y,Y,Y,Z] rfl rfl (any_of HT_.out (by kernel_rfl)) (fun _ _ _ h=>h) (Or.inl ⟨by rfl,?_⟩) ?_ ?_
              rotate_left
              ·intro w'
               go_simp
               with_reducible rfl
              rotate_left
              ·simp only [Act.put,List.setIfInBounds_toArray,List.set_cons_zero,List.set_cons_succ,i64_w,i32_w]
               rfl
              refine last_ (i:=14) (N:=none) #[Y,Y,Y,Y,Y,Y,Y,Y,Y,Y,Y,Y,Y,Y,Y] rfl rfl (one_of HT_.out (by kernel_rfl)) (by decide) (fun K hK=>?_)
              refine skip_ (w1:=?_) (by rfl) rfl ?_ ?_
              rotate_left
              ·go_simp
               rfl
              refine hK.out _ _ ?_
              clear hK K
              refine done_ (done_of HT_.out (by kernel_rfl)) ?_
              try go_wp2
              go_roundg k1
              case measure=>have:=HK1.out;omega
              case rel=>exact ⟨(x2_1),(y120),(wrap64 (x12_1 + 1)),(by first|rfl|(simp;done)|(simp [*];done)),H',⟨by have:=HK1.out;omega⟩,⟨by (with_reducible repeat (first|apply Kd.R_alloc|apply Kd.R_drewN|apply Kd.R_drew));exact Kd.R_mono (Kd.R_far (p:=⟨go47,((ji35):Int).toNat,none⟩) (Kd.R_types HO_2.out GG49_.out (by decide)) (fun _ hk=>hk.2) (.slice Ao51 y117.length co51)) (fun _ hk=>trivial)⟩,⟨by (with_reducible repeat (first|apply Kd.S_alloc|apply Kd.S_drewN|apply Kd.S_drew));exact Kd.S_mono HQ49.out (fun _ hk=>trivial)⟩,⟨by repeat (first|(with_reducible first|exact HB.out|apply below_alloc|apply pw_below_drewN|apply below_drew1|refine below_set ?_ GB47.out|refine below_set ?_ GE103.out)|exact HB.out)⟩⟩
             ·rw [if_neg c38] at H
              exact absurd H (by simp)
            ·rw [if_neg c37] at H
             exact absurd H (by simp)
           ·rw [if_neg c36] at H
            exact absurd H (by simp)
          ·rw [if_neg c34] at H
           have c34b0:((rdOf ByteArray.empty x2_1 (ji31)).toList == ((rd_T73 l0 x12_1).f0.f0).toList) = false:=beq_eq_false_iff_ne.mpr c34
           have c34b1:((rdOf ByteArray.empty x2_1 (ji31)).toList != ((rd_T73 l0 x12_1).f0.f0).toList) = true:=bne_iff_ne.mpr c34
           by_cases c52:x2_1.length < 8796093022208
           ·rw [if_pos c52] at H
            have LMc52:=Aside0.mk c52
            clear c52
            obtain ⟨y121,hy121⟩:∃ y_:List ByteArray,y_ = (x2_1 ++ [(rd_T73 l0 x12_1).f0.f0]):=⟨_,rfl⟩
            replace H:(if x3_1.length < 5864062014805 then ((some (x3_1 ++ [([]:List (S73))]:List (List (S73)))).bind fun y124=>(if 0 ≤ (wrap64 ((y124.length:Int) - 1)) then (if (wrap64 ((y124.length:Int) - 1)) < (y124.length:Int) then (if (rd_L14 y124 (wrap64 ((y124.length:Int) - 1))).length < 2513169434916 then (scan_Products.l0 k1 y121 (y124.set ((wrap64 ((y124.length:Int) - 1)):Int).toNat ((rd_L14 y124 (wrap64 ((y124.length:Int) - 1))) ++ [(⟨(⟨(rd_T73 l0 x12_1).f0.f0,(rd_T73 l0 x12_1).f0.f1,(rd_T73 l0 x12_1).f0.f2,(rd_T73 l0 x12_1).f0.f3⟩:S39),(rd_T73 l0 x12_1).f1,(rd_T73 l0 x12_1).f2⟩:S73)])) l0 (l0.length:Int) (wrap64 (x12_1 + 1))) else (none)) else (none)) else (none))) else (none)) = some (r1,r2):=by first|(rw [hy121];with_reducible exact H)|(have H2_:=(Option.bind_some _ _).symm.trans H;rw [hy121];with_reducible exact H2_)|(have H2_:=(Option.bind_some _ _).symm.trans H;with_reducible exact H2_)|with_reducible exact H|(rw [hy121];exact H)|exact H
            have Ny121:=Aside0.mk hy121
            clear hy121
            by_cases c53:x3_1.length < 5864062014805
            ·rw [if_pos c53] at H
             have LMc53:=Aside0.mk c53
             clear c53
             obtain ⟨y124,hy124⟩:∃ y_:List (List (S73)),y_ = (x3_1 ++ [([]:List (S73))]):=⟨_,rfl⟩
             replace H:(if 0 ≤ (wrap64 ((y124.length:Int) - 1)) then (if (wrap64 ((y124.length:Int) - 1)) < (y124.length:Int) then (if (rd_L14 y124 (wrap64 ((y124.length:Int) - 1))).length < 2513169434916 then (scan_Products.l0 k1 y121 (y124.set ((wrap64 ((y124.length:Int) - 1)):Int).toNat ((rd_L14 y124 (wrap64 ((y124.length:Int) - 1))) ++ [(⟨(⟨(rd_T73 l0 x12_1).f0.f0,(rd_T73 l0 x12_1).f0.f1,(rd_T73 l0 x12_1).f0.f2,(rd_T73 l0 x12_1).f0.f3⟩:S39),(rd_T73 l0 x12_1).f1,(rd_T73 l0 x12_1).f2⟩:S73)])) l0 (l0.length:Int) (wrap64 (x12_1 + 1))) else (none)) else (none)) else (none)) = some (r1,r2):=by first|(rw [hy124];with_reducible exact H)|(have H2_:=(Option.bind_some _ _).symm.trans H;rw [hy124];with_reducible exact H2_)|(have H2_:=(Option.bind_some _ _).symm.trans H;with_reducible exact H2_)|with_reducible exact H|(rw [hy124];exact H)|exact H
             have Ny124:=Aside0.mk hy124
             clear hy124
             obtain ⟨ji54,hji54⟩:∃ j_:Int,(wrap64 ((y124.length:Int) - 1)) = j_:=⟨_,rfl⟩
             replace H:(if 0 ≤ (ji54) then (if (ji54) < (y124.length:Int) then (if (rd_L14 y124 (ji54)).length < 2513169434916 then (scan_Products.l0 k1 y121 (y124.set ((ji54):Int).toNat ((rd_L14 y124 (ji54)) ++ [(⟨(⟨(rd_T73 l0 x12_1).f0.f0,(rd_T73 l0 x12_1).f0.f1,(rd_T73 l0 x12_1).f0.f2,(rd_T73 l0 x12_1).f0.f3⟩:S39),(rd_T73 l0 x12_1).f1,(rd_T73 l0 x12_1).f2⟩:S73)])) l0 (l0.length:Int) (wrap64 (x12_1 + 1))) else (none)) else (none)) else (none)) = some (r1,r2):=by first|(rw [hji54] at H;exact H)|(simp only [hji54] at H ⊢;exact H)
             have hji54w:(IntKind.i64.wrap ((y124.length:Int) - 1)) = ji54:=(i64_w _).trans hji54
             by_cases c55:0 ≤ (ji54)
             ·rw [if_pos c55] at H
              have c55b0:decide (0 ≤ (ji54)) = true:=decide_eq_true c55
              clear c55
              by_cases c56:(ji54) < (y124.length:Int)
              ·rw [if_pos c56] at H
               have c56b0:decide ((ji54) < (y124.length:Int)) = true:=decide_eq_true c56
               clear c56
               by_cases c57:(rd_L14 y124 (ji54)).length < 2513169434916
               ·rw [if_pos c57] at H
                have LMc57:=Aside0.mk c57
                clear c57
                obtain ⟨y128,hy128⟩:∃ y_:List (S73),y_ = ((rd_L14 y124 (ji54)) ++ [(⟨(⟨(rd_T73 l0 x12_1).f0.f0,(rd_T73 l0 x12_1).f0.f1,(rd_T73 l0 x12_1).f0.f2,(rd_T73 l0 x12_1).f0.f3⟩:S39),(rd_T73 l0 x12_1).f1,(rd_T73 l0 x12_1).f2⟩:S73)]):=⟨_,rfl⟩
                replace H:(scan_Products.l0 k1 y121 (y124.set ((ji54):Int).toNat y128) l0 (l0.length:Int) (wrap64 (x12_1 + 1))) = some (r1,r2):=by first|(rw [hy128];with_reducible exact H)|(have H2_:=(Option.bind_some _ _).symm.trans H;rw [hy128];with_reducible exact H2_)|(have H2_:=(Option.bind_some _ _).symm.trans H;with_reducible exact H2_)|with_reducible exact H|(rw [hy128];exact H)|exact H
                have Ny128:=Aside0.mk hy128
                clear hy128
                obtain ⟨y131,hy131⟩:∃ y_:List (List (S73)),y_ = (y124.set ((ji54):Int).toNat y128):=⟨_,rfl⟩
                replace H:(scan_Products.l0 k1 y121 y131 l0 (l0.length:Int) (wrap64 (x12_1 + 1))) = some (r1,r2):=by first|(rw [hy131];with_reducible exact H)|(have H2_:=(Option.bind_some _ _).symm.trans H;rw [hy131];with_reducible exact H2_)|(have H2_:=(Option.bind_some _ _).symm.trans H;with_reducible exact H2_)|with_reducible exact H|(rw [hy131];exact H)|exact H
                have Ny131:=Aside0.mk hy131
                clear hy131
                have H':=Aside0.mk H
                clear H
                have p102:0 ≤ (x12_1:Int):=of_decide_eq_true (by first|(with_reducible assumption)|assumption)
                have q102:x12_1 < (l0.length:Int):=of_decide_eq_true (by first|(with_reducible assumption)|assumption)
                obtain ⟨ad102,e102,hx102_0,hx102_1,hx102_2,hx102_3,hx102_4,hx102_5⟩:=at_T73 HR0.out x12_1 p102 q102
                cases e102
                replace hx102_0:=(HB.out.cell (World.block_lt_of_cell? w _ hx102_0)).trans hx102_0
                replace hx102_1:=(HB.out.cell (World.block_lt_of_cell? w _ hx102_1)).trans hx102_1
                replace hx102_2:=(HB.out.cell (World.block_lt_of_cell? w _ hx102_2)).trans hx102_2
                replace hx102_3:=(HB.out.cell (World.block_lt_of_cell? w _ hx102_3)).trans hx102_3
                replace hx102_4:=(HB.out.cell (World.block_lt_of_cell? w _ hx102_4)).trans hx102_4
                replace hx102_5:=(HB.out.cell (World.block_lt_of_cell? w _ hx102_5)).trans hx102_5
                replace p102:=eq_true p102
                replace q102:=eq_true q102
                try go_wp2_with (first|((with_reducible refine gate_dst (N:=5) rfl ?_);refine box_event ?hg (N:=5) ?hd (cs:=#[.string (⟨#[]⟩:ByteArray),.int .i64 0,.int .i64 0,.int .i64 0,.int .i64 0,.int .i64 0]) (t:=73) ?hr ?_;(case hd=>rfl);(case hg=>rfl);(case hr=>first|(go_simp;done)|(go_simp;rfl));intro gb103 hg w59 hbox hb;have n0_:=Aside0.mk (Kd.R_below (by (with_reducible repeat (first|apply Kd.R_alloc|apply Kd.R_drewN|apply Kd.R_drew));exact HO_2.out) hb);have n1_:=Aside0.mk (Kd.S_below (Kd.S_elderB (by (with_reducible repeat (first|apply Kd.S_alloc|apply Kd.S_drewN|apply Kd.S_drew));exact HO_3.out) gb103 (Nat.le_of_eq hg.symm)) hb);have n2_:=Aside0.mk (below_step (by repeat (first|(with_reducible first|exact HB.out|apply below_alloc|apply pw_below_drewN|apply below_drew1)|exact HB.out)) hb);have n3_:=Aside0.mk (hbox);have n4_:=Aside0.mk ((by rw [hg];exact (below_size (by repeat (first|(with_reducible first|exact HB.out|apply below_alloc|apply pw_below_drewN|apply below_drew1)|exact HB.out))):w.heap.size ≤ gb103));have n5_:=Aside0.mk ((by rw [hg];exact (below_size (by repeat (first|(with_reducible first|exact HB.out|apply below_alloc|apply pw_below_drewN|apply below_drew1)|exact HB.out))):w.heap.size ≤ gb103));clear HO_2;clear HO_3;clear HB;have HO_2:=n0_;have HO_3:=n1_;have HB:=n2_;have BK103:=n3_;have GW103:=n4_;have GE103:=n5_;clear n0_ n1_ n2_ n3_ n4_ n5_;clear hb hbox hg;have hcz60_0:w59.cell? ⟨gb103,0,none⟩ = some (.string (⟨#[]⟩:ByteArray)):=(blk_cell BK103.out 0).trans rfl;have hcz60_1:w59.cell? ⟨gb103,1,none⟩ = some (.int .i64 0):=(blk_cell BK103.out 1).trans rfl;have hcz60_2:w59.cell? ⟨gb103,2,none⟩ = some (.int .i64 0):=(blk_cell BK103.out 2).trans rfl;have hcz60_3:w59.cell? ⟨gb103,3,none⟩ = some (.int .i64 0):=(blk_cell BK103.out 3).trans rfl;have hcz60_4:w59.cell? ⟨gb103,4,none⟩ = some (.int .i64 0):=(blk_cell BK103.out 4).trans rfl;have hcz60_5:w59.cell? ⟨gb103,5,none⟩ = some (.int .i64 0):=(blk_cell BK103.out 5).trans rfl;have hfz60_0:=blk_frozen BK103.out 0;have hfz60_1:=blk_frozen BK103.out 1;have hfz60_2:=blk_frozen BK103.out 2;have hfz60_3:=blk_frozen BK103.out 3;have hfz60_4:=blk_frozen BK103.out 4;have hfz60_5:=blk_frozen BK103.out 5;obtain ⟨Ao61,co61,eo61⟩:=Kd.R_slice HO_2.out;subst eo61))
                have n0_:Aside0 (Kd.R Kd.string 9 ((((((w59.setCell ⟨gb103,0,none⟩ (.string ((rd_T73 l0 x12_1).f0.f0))).setCell ⟨gb103,1,none⟩ (.int .i64 ((rd_T73 l0 x12_1).f0.f1))).setCell ⟨gb103,2,none⟩ (.int .i64 ((rd_T73 l0 x12_1).f0.f2))).setCell ⟨gb103,3,none⟩ (.int .i64 ((rd_T73 l0 x12_1).f0.f3))).setCell ⟨gb103,4,none⟩ (.int .i64 ((rd_T73 l0 x12_1).f1))).setCell ⟨gb103,5,none⟩ (.int .i64 ((rd_T73 l0 x12_1).f2))) w.heap.size (fun _=>True) (.slice Ao61 x2_1.length co61) x2_1):=⟨by (with_reducible repeat (first|apply Kd.R_alloc|apply Kd.R_drewN|apply Kd.R_drew));exact Kd.R_mono (Kd.R_far (p:=⟨gb103,5,none⟩) (Kd.R_far (p:=⟨gb103,4,none⟩) (Kd.R_far (p:=⟨gb103,3,none⟩) (Kd.R_far (p:=⟨gb103,2,none⟩) (Kd.R_far (p:=⟨gb103,1,none⟩) (Kd.R_far (p:=⟨gb103,0,none⟩) (Kd.R_types HO_2.out BK103.out (by decide)) (fun _ hk=>hk.2) (.string ((rd_T73 l0 x12_1).f0.f0))) (fun _ hk=>hk.2) (.int .i64 ((rd_T73 l0 x12_1).f0.f1))) (fun _ hk=>hk.2) (.int .i64 ((rd_T73 l0 x12_1).f0.f2))) (fun _ hk=>hk.2) (.int .i64 ((rd_T73 l0 x12_1).f0.f3))) (fun _ hk=>hk.2) (.int .i64 ((rd_T73 l0 x12_1).f1))) (fun _ hk=>hk.2) (.int .i64 ((rd_T73 l0 x12_1).f2))) (fun _ hk=>trivial)⟩
                have n1_:Aside0 (Kd.S (Kd.slice 73 k73) 55 ((((((w59.setCell ⟨gb103,0,none⟩ (.string ((rd_T73 l0 x12_1).f0.f0))).setCell ⟨gb103,1,none⟩ (.int .i64 ((rd_T73 l0 x12_1).f0.f1))).setCell ⟨gb103,2,none⟩ (.int .i64 ((rd_T73 l0 x12_1).f0.f2))).setCell ⟨gb103,3,none⟩ (.int .i64 ((rd_T73 l0 x12_1).f0.f3))).setCell ⟨gb103,4,none⟩ (.int .i64 ((rd_T73 l0 x12_1).f1))).setCell ⟨gb103,5,none⟩ (.int .i64 ((rd_T73 l0 x12_1).f2))) w.heap.size (fun k_=>k_ ≠ gb103) u3 x3_1):=⟨by (with_reducible repeat (first|apply Kd.S_alloc|apply Kd.S_drewN|apply Kd.S_drew));exact Kd.S_mono (Kd.S_far (p:=⟨gb103,5,none⟩) (Kd.S_far (p:=⟨gb103,4,none⟩) (Kd.S_far (p:=⟨gb103,3,none⟩) (Kd.S_far (p:=⟨gb103,2,none⟩) (Kd.S_far (p:=⟨gb103,1,none⟩) (Kd.S_far (p:=⟨gb103,0,none⟩) (Kd.S_mono HO_3.out (fun k_ hk=>(⟨hk,hk.2⟩:_ ∧ k_ ≠ gb103))) (fun _ hk=>hk.2) (.string ((rd_T73 l0 x12_1).f0.f0))) (fun _ hk=>hk.2) (.int .i64 ((rd_T73 l0 x12_1).f0.f1))) (fun _ hk=>hk.2) (.int .i64 ((rd_T73 l0 x12_1).f0.f2))) (fun _ hk=>hk.2) (.int .i64 ((rd_T73 l0 x12_1).f0.f3))) (fun _ hk=>hk.2) (.int .i64 ((rd_T73 l0 x12_1).f1))) (fun _ hk=>hk.2) (.int .i64 ((rd_T73 l0 x12_1).f2))) (fun _ hk=>hk.1.2)⟩
                have n2_:Aside0 (((((((w59.setCell ⟨gb103,0,none⟩ (.string ((rd_T73 l0 x12_1).f0.f0))).setCell ⟨gb103,1,none⟩ (.int .i64 ((rd_T73 l0 x12_1).f0.f1))).setCell ⟨gb103,2,none⟩ (.int .i64 ((rd_T73 l0 x12_1).f0.f2))).setCell ⟨gb103,3,none⟩ (.int .i64 ((rd_T73 l0 x12_1).f0.f3))).setCell ⟨gb103,4,none⟩ (.int .i64 ((rd_T73 l0 x12_1).f1))).setCell ⟨gb103,5,none⟩ (.int .i64 ((rd_T73 l0 x12_1).f2))).heap[gb103]? = some (.cells #[.string ((rd_T73 l0 x12_1).f0.f0),.int .i64 ((rd_T73 l0 x12_1).f0.f1),.int .i64 ((rd_T73 l0 x12_1).f0.f2),.int .i64 ((rd_T73 l0 x12_1).f0.f3),.int .i64 ((rd_T73 l0 x12_1).f1),.int .i64 ((rd_T73 l0 x12_1).f2)] 73 (0,0))):=⟨by (with_reducible repeat (first|refine blk_drewN ?_ _|refine blk_drew ?_|refine blk_alloc ?_ _));refine blk_put (cs:=#[.string ((rd_T73 l0 x12_1).f0.f0),.int .i64 ((rd_T73 l0 x12_1).f0.f1),.int .i64 ((rd_T73 l0 x12_1).f0.f2),.int .i64 ((rd_T73 l0 x12_1).f0.f3),.int .i64 ((rd_T73 l0 x12_1).f1),.int .i64 0]) ?_ 5 _ rfl;(with_reducible repeat (first|refine blk_drewN ?_ _|refine blk_drew ?_|refine blk_alloc ?_ _));refine blk_put (cs:=#[.string ((rd_T73 l0 x12_1).f0.f0),.int .i64 ((rd_T73 l0 x12_1).f0.f1),.int .i64 ((rd_T73 l0 x12_1).f0.f2),.int .i64 ((rd_T73 l0 x12_1).f0.f3),.int .i64 0,.int .i64 0]) ?_ 4 _ rfl;(with_reducible repeat (first|refine blk_drewN ?_ _|refine blk_drew ?_|refine blk_alloc ?_ _));refine blk_put (cs:=#[.string ((rd_T73 l0 x12_1).f0.f0),.int .i64 ((rd_T73 l0 x12_1).f0.f1),.int .i64 ((rd_T73 l0 x12_1).f0.f2),.int .i64 0,.int .i64 0,.int .i64 0]) ?_ 3 _ rfl;(with_reducible repeat (first|refine blk_drewN ?_ _|refine blk_drew ?_|refine blk_alloc ?_ _));refine blk_put (cs:=#[.string ((rd_T73 l0 x12_1).f0.f0),.int .i64 ((rd_T73 l0 x12_1).f0.f1),.int .i64 0,.int .i64 0,.int .i64 0,.int .i64 0]) ?_ 2 _ rfl;(with_reducible repeat (first|refine blk_drewN ?_ _|refine blk_drew ?_|refine blk_alloc ?_ _));refine blk_put (cs:=#[.string ((rd_T73 l0 x12_1).f0.f0),.int .i64 0,.int .i64 0,.int .i64 0,.int .i64 0,.int .i64 0]) ?_ 1 _ rfl;(with_reducible repeat (first|refine blk_drewN ?_ _|refine blk_drew ?_|refine blk_alloc ?_ _));refine blk_put (cs:=#[.string (⟨#[]⟩:ByteArray),.int .i64 0,.int .i64 0,.int .i64 0,.int .i64 0,.int .i64 0]) ?_ 0 _ rfl;(with_reducible repeat (first|refine blk_drewN ?_ _|refine blk_drew ?_|refine blk_alloc ?_ _));exact BK103.out⟩
                have n3_:Aside0 (Below w.heap.size w ((((((w59.setCell ⟨gb103,0,none⟩ (.string ((rd_T73 l0 x12_1).f0.f0))).setCell ⟨gb103,1,none⟩ (.int .i64 ((rd_T73 l0 x12_1).f0.f1))).setCell ⟨gb103,2,none⟩ (.int .i64 ((rd_T73 l0 x12_1).f0.f2))).setCell ⟨gb103,3,none⟩ (.int .i64 ((rd_T73 l0 x12_1).f0.f3))).setCell ⟨gb103,4,none⟩ (.int .i64 ((rd_T73 l0 x12_1).f1))).setCell ⟨gb103,5,none⟩ (.int .i64 ((rd_T73 l0 x12_1).f2)))):=⟨by repeat (first|(with_reducible first|exact HB.out|apply below_alloc|apply pw_below_drewN|apply below_drew1|refine below_set ?_ GE103.out)|exact HB.out)⟩
                (try clear HO_2)
                (try clear HO_3)
                (try clear BK103)
                (try clear HB)
                generalize ((((((w59.setCell ⟨gb103,0,none⟩ (.string ((rd_T73 l0 x12_1).f0.f0))).setCell ⟨gb103,1,none⟩ (.int .i64 ((rd_T73 l0 x12_1).f0.f1))).setCell ⟨gb103,2,none⟩ (.int .i64 ((rd_T73 l0 x12_1).f0.f2))).setCell ⟨gb103,3,none⟩ (.int .i64 ((rd_T73 l0 x12_1).f0.f3))).setCell ⟨gb103,4,none⟩ (.int .i64 ((rd_T73 l0 x12_1).f1))).setCell ⟨gb103,5,none⟩ (.int .i64 ((rd_T73 l0 x12_1).f2))) = w62 at n0_ n1_ n2_ n3_ ⊢
                have HO_2:=n0_
                have HO_3:=n1_
                have BK103:=n2_
                have HB:=n3_
                clear n0_ n1_ n2_ n3_
                have n0_:=Aside0.mk (Kd.R_drew HO_2.out)
                have n1_:=Aside0.mk (Kd.S_drew HO_3.out)
                have n2_:=Aside0.mk (blk_drew BK103.out)
                have n3_:=Aside0.mk (below_drew1 HB.out)
                clear HO_2
                clear HO_3
                clear BK103
                clear HB
                have HO_2:=n0_
                have HO_3:=n1_
                have BK103:=n2_
                have HB:=n3_
                clear n0_ n1_ n2_ n3_
                have p115:0 ≤ ((ji31):Int):=of_decide_eq_true (by first|(with_reducible assumption)|assumption)
                have q115:(ji31) < (x2_1.length:Int):=of_decide_eq_true (by first|(with_reducible assumption)|assumption)
                obtain ⟨ad115,e115,hx115_0⟩:=Kd.at_string (Kd.R_reads' HO_2.out).2.2 (ji31) p115 q115
                cases e115
                replace p115:=eq_true p115
                replace q115:=eq_true q115
                refine start_ (n:=13) (S:=fun w'=>w'.cell? ⟨gb103,0,none⟩ = some (.string ((rd_T73 l0 x12_1).f0.f0)) ∧ w'.cell? ⟨gb103,1,none⟩ = some (.int .i64 ((rd_T73 l0 x12_1).f0.f1)) ∧ w'.cell? ⟨gb103,2,none⟩ = some (.int .i64 ((rd_T73 l0 x12_1).f0.f2)) ∧ w'.cell? ⟨gb103,3,none⟩ = some (.int .i64 ((rd_T73 l0 x12_1).f0.f3)) ∧ w'.cell? ⟨gb103,4,none⟩ = some (.int .i64 ((rd_T73 l0 x12_1).f1)) ∧ w'.cell? ⟨gb103,5,none⟩ = some (.int .i64 ((rd_T73 l0 x12_1).f2)) ∧ w'.cell? (ad115.add ((ji31)).toNat) = some (.string (rdOf ByteArray.empty x2_1 (ji31)))) (ds:=[]) #[Z,Z,Z,Z,Z,Z,Z,Z,Z,Z,Z,Z,Z] (by kernel_rfl) rfl rfl ⟨(blk_cell BK103.out 0).trans rfl,(blk_cell BK103.out 1).trans rfl,(blk_cell BK103.out 2).trans rfl,(blk_cell BK103.out 3).trans rfl,(blk_cell BK103.out 4).trans rfl,(blk_cell BK103.out 5).trans rfl,hx115_0⟩ (fun hHeld=>?_);refine with_tabW scan_Products.tab7 scan_Products.bits7 (fun HT_ HW_=>?_)
                generalize w62.drew = w63 at HO_2 HO_3 BK103 HB hx115_0 hHeld ⊢
                refine pure_ (i:=0) (N:=some 18) (v:=?_) (a':=?_) #[Y,Z,Z,Z,Z,Z,Z,Z,Z,Z,Z,Z,Z] rfl rfl (any_of HT_.out (by kernel_rfl)) (fun _ _ _ h=>h) (Or.inl ⟨by rfl,?_⟩) ?_ ?_
                rotate_left
                ·intro w'
                 go_simp
                 with_reducible rfl
                rotate_left
                ·simp only [Act.put,List.setIfInBounds_toArray,List.set_cons_zero,List.set_cons_succ,i64_w,i32_w]
                 rfl
                refine pure_ (i:=1) (N:=some 19) (v:=?_) (a':=?_) #[Y,Y,Z,Z,Z,Z,Z,Z,Z,Z,Z,Z,Z] rfl rfl (any_of HT_.out (by kernel_rfl)) (fun _ _ _ h=>h) (Or.inl ⟨by rfl,?_⟩) ?_ ?_
                rotate_left
                ·intro w'
                 go_simp
                 with_reducible rfl
                rotate_left
                ·simp only [Act.put,List.setIfInBounds_toArray,List.set_cons_zero,List.set_cons_succ,i64_w,i32_w]
                 rfl
                refine pure_ (i:=2) (N:=some 20) (v:=?_) (a':=?_) #[Y,Y,Y,Z,Z,Z,Z,Z,Z,Z,Z,Z,Z] rfl rfl (any_of HT_.out (by kernel_rfl)) (fun _ _ _ h=>h) (Or.inl ⟨by rfl,?_⟩) ?_ ?_
                rotate_left
                ·intro w'
                 go_simp
                 with_reducible rfl
                rotate_left
                ·simp only [Act.put,List.setIfInBounds_toArray,List.set_cons_zero,List.set_cons_succ,i64_w,i32_w]
                 rfl
                refine pure_ (i:=3) (N:=some 21) (v:=?_) (a':=?_) #[Y,Y,Y,Y,Z,Z,Z,Z,Z,Z,Z,Z,Z] rfl rfl (any_of HT_.out (by kernel_rfl)) (fun _ _ _ h=>h) (Or.inl ⟨by rfl,?_⟩) ?_ ?_
                rotate_left
                ·intro w'
                 go_simp
                 with_reducible rfl
                rotate_left
                ·simp only [Act.put,List.setIfInBounds_toArray,List.set_cons_zero,List.set_cons_succ,i64_w,i32_w]
                 rfl
                refine pure_ (i:=4) (N:=some 22) (v:=?_) (a':=?_) #[Y,Y,Y,Y,Y,Z,Z,Z,Z,Z,Z,Z,Z] rfl rfl (any_of HT_.out (by kernel_rfl)) (fun _ _ _ h=>h) (Or.inl ⟨by rfl,?_⟩) ?_ ?_
                rotate_left
                ·intro w'
                 go_simp
                 with_reducible rfl
                rotate_left
                ·simp only [Act.put,List.setIfInBounds_toArray,List.set_cons_zero,List.set_cons_succ,i64_w,i32_w]
                 rfl
                refine pure_ (i:=5) (N:=some 23) (v:=?_) (a':=?_) #[Y,Y,Y,Y,Y,Y,Z,Z,Z,Z,Z,Z,Z] rfl rfl (any_of HT_.out (by kernel_rfl)) (fun _ _ _ h=>h) (Or.inl ⟨by rfl,?_⟩) ?_ ?_
                rotate_left
                ·intro w'
                 go_simp
                 with_reducible rfl
                rotate_left
                ·simp only [Act.put,List.setIfInBounds_toArray,List.set_cons_zero,List.set_cons_succ,i64_w,i32_w]
                 rfl
                refine pure_ (i:=6) (N:=some 24) (v:=?_) (a':=?_) #[Y,Y,Y,Y,Y,Y,Y,Z,Z,Z,Z,Z,Z] rfl rfl (any_of HT_.out (by kernel_rfl)) (fun _ _ _ h=>h) (Or.inl ⟨by rfl,?_⟩) ?_ ?_
                rotate_left
                ·intro w'
                 go_simp
                 with_reducible rfl
                rotate_left
                ·simp only [Act.put,List.setIfInBounds_toArray,List.set_cons_zero,List.set_cons_succ,i64_w,i32_w]
                 rfl
                refine pure_ (i:=8) (N:=some 26) (v:=?_) (a':=?_) #[Y,Y,Y,Y,Y,Y,Y,Z,Y,Z,Z,Z,Z] rfl rfl (any_of HT_.out (by kernel_rfl)) (fun _ _ _ h=>h) (Or.inl ⟨by rfl,?_⟩) ?_ ?_
                rotate_left
                ·intro w'
                 go_simp
                 with_reducible rfl
                rotate_left
                ·simp only [Act.put,List.setIfInBounds_toArray,List.set_cons_zero,List.set_cons_succ,i64_w,i32_w]
                 rfl
                refine pure_ (i:=9) (N:=some 27) (v:=?_) (a':=?_) #[Y,Y,Y,Y,Y,Y,Y,Z,Y,Y,Z,Z,Z] rfl rfl (any_of HT_.out (by kernel_rfl)) (fun _ _ _ h=>h) (Or.inl ⟨by rfl,?_⟩) ?_ ?_
                rotate_left
                ·intro w'
                 go_simp
                 with_reducible rfl
                rotate_left
                ·simp only [Act.put,List.setIfInBounds_toArray,List.set_cons_zero,List.set_cons_succ,i64_w,i32_w]
                 rfl
                refine take_ (i:=7) (N:=some 25) (v:=?_) (a':=?_) #[Y,Y,Y,Y,Y,Y,Y,Y,Y,Y,Z,Z,Z] rfl rfl (take_ofW HT_.out HW_.out (by kernel_rfl)) (fun _ _ _ h=>h) (Or.inl ⟨by rfl,?_⟩) hHeld ?_ ?_
                rotate_left
                ·rintro w' ⟨s0,s1,s2,s3,s4,s5,s6⟩
                 go_simp
                 with_reducible rfl
                rotate_left
                ·simp only [Act.put,List.setIfInBounds_toArray,List.set_cons_zero,List.set_cons_succ,i64_w,i32_w]
                 rfl
                refine take_ (i:=10) (N:=some 28) (v:=?_) (a':=?_) #[Y,Y,Y,Y,Y,Y,Y,Y,Y,Y,Y,Z,Z] rfl rfl (take_ofW HT_.out HW_.out (by kernel_rfl)) (fun _ _ _ h=>h) (Or.inl ⟨by rfl,?_⟩) hHeld ?_ ?_
                rotate_left
                ·rintro w' ⟨s0,s1,s2,s3,s4,s5,s6⟩
                 go_simp
                 with_reducible rfl
                rotate_left
                ·simp only [Act.put,List.setIfInBounds_toArray,List.set_cons_zero,List.set_cons_succ,i64_w,i32_w]
                 rfl
                refine pure_ (i:=11) (N:=some 29) (v:=?_) (a':=?_) #[Y,Y,Y,Y,Y,Y,Y,Y,Y,Y,Y,Y,Z] rfl rfl (any_of HT_.out (by kernel_rfl)) (fun _ _ _ h=>h) (Or.inl ⟨by rfl,?_⟩) ?_ ?_
                rotate_left
                ·intro w'
                 go_simp
                 with_reducible rfl
                rotate_left
                ·simp only [Act.put,List.setIfInBounds_toArray,List.set_cons_zero,List.set_cons_succ,i64_w,i32_w]
                 rfl
                refine pure_ (i:=12) (N:=some 30) (v:=?_) (a':=?_) #[Y,Y,Y,Y,Y,Y,Y,Y,Y,Y,Y,Y,Y] rfl rfl (any_of HT_.out (by kernel_rfl)) (fun _ _ _ h=>h) (Or.inl ⟨by rfl,?_⟩) ?_ ?_
                rotate_left
                ·intro w'
                 go_simp
                 with_reducible rfl
                rotate_left
                ·simp only [Act.put,List.setIfInBounds_toArray,List.set_cons_zero,List.set_cons_succ,i64_w,i32_w]
                 rfl
                refine done_ (done_of HT_.out (by kernel_rfl)) ?_
                have hcz64_0:w63.cell? ⟨gb103,0,none⟩ = some (.string ((rd_T73 l0 x12_1).f0.f0)):=(blk_cell BK103.out 0).trans rfl
                have hcz64_1:w63.cell? ⟨gb103,1,none⟩ = some (.int .i64 ((rd_T73 l0 x12_1).f0.f1)):=(blk_cell BK103.out 1).trans rfl
                have hcz64_2:w63.cell? ⟨gb103,2,none⟩ = some (.int .i64 ((rd_T73 l0 x12_1).f0.f2)):=(blk_cell BK103.out 2).trans rfl
                have hcz64_3:w63.cell? ⟨gb103,3,none⟩ = some (.int .i64 ((rd_T73 l0 x12_1).f0.f3)):=(blk_cell BK103.out 3).trans rfl
                have hcz64_4:w63.cell? ⟨gb103,4,none⟩ = some (.int .i64 ((rd_T73 l0 x12_1).f1)):=(blk_cell BK103.out 4).trans rfl
                have hcz64_5:w63.cell? ⟨gb103,5,none⟩ = some (.int .i64 ((rd_T73 l0 x12_1).f2)):=(blk_cell BK103.out 5).trans rfl
                have hfz64_0:=blk_frozen BK103.out 0
                have hfz64_1:=blk_frozen BK103.out 1
                have hfz64_2:=blk_frozen BK103.out 2
                have hfz64_3:=blk_frozen BK103.out 3
                have hfz64_4:=blk_frozen BK103.out 4
                have hfz64_5:=blk_frozen BK103.out 5
                try go_wp2_with (first|((with_reducible refine gate_builtin (b:=.append) (xs:=#[.tmp 31,.tmp 35]) rfl ?_);at_builtin;refine Kd.R_append Kd.string (w0:=w) w.heap.size rfl (.tmp 31) (.tmp 35) 22 9 (.string ⟨#[]⟩) 16 rfl Try.underlying22 info9 rfl (by decide) (by omega) (.slice (some ad115) x2_1.length co61) x2_1 ((rd_T73 l0 x12_1).f0.f0) [.string ((rd_T73 l0 x12_1).f0.f0)] (fun _=>True) (fun _=>False) rfl rfl ?aP (fun _ hk=>hk.elim) ?aF ?aO ?aB ?aS ?aL ?_;(case aP=>exact rfl);(case aB=>exact (by repeat (first|(with_reducible first|exact HB.out|apply below_alloc|apply pw_below_drewN|apply below_drew1|refine below_set ?_ GE103.out)|exact HB.out)));(case aF=>exact (fun _ _=>trivial));(case aO=>exact (by (with_reducible repeat (first|apply Kd.R_alloc|apply Kd.R_drewN|apply Kd.R_drew));exact HO_2.out));(case aS=>exact (below_size (by repeat (first|(with_reducible first|exact HB.out|apply below_alloc|apply pw_below_drewN|apply below_drew1|refine below_set ?_ GE103.out)|exact HB.out))));(case aL=>have:=LMc52.out;omega);intro v122 w65 ho hb hg hat;rw [← Ny121.out] at ho;have n0_:=Aside0.mk (Kd.S_over' (by (with_reducible repeat (first|apply Kd.S_alloc|apply Kd.S_drewN|apply Kd.S_drew));exact HO_3.out) (Kd.R_typed (by (with_reducible repeat (first|apply Kd.R_alloc|apply Kd.R_drewN|apply Kd.R_drew));exact HO_2.out)) (by decide) hg);have n1_:=Aside0.mk (blk_grown (g:=gb103) (o:=.cells #[.string ((rd_T73 l0 x12_1).f0.f0),.int .i64 ((rd_T73 l0 x12_1).f0.f1),.int .i64 ((rd_T73 l0 x12_1).f0.f2),.int .i64 ((rd_T73 l0 x12_1).f0.f3),.int .i64 ((rd_T73 l0 x12_1).f1),.int .i64 ((rd_T73 l0 x12_1).f2)] 73 (0,0)) (by (with_reducible repeat (first|refine blk_drewN ?_ _|refine blk_drew ?_|refine blk_alloc ?_ _));exact BK103.out) hg (Kd.R_ne HO_2.out BK103.out (by decide)));have n2_:=Aside0.mk (hb);have n3_:=Aside0.mk (ho);clear HO_3;clear BK103;clear HB;clear HO_2;have HO_3:=n0_;have BK103:=n1_;have HB:=n2_;have HO123:=n3_;clear n0_ n1_ n2_ n3_;clear ho hb hg hat)|((with_reducible refine gate_builtin (b:=.append) (xs:=#[.tmp 37,.tmp 38]) rfl ?_);at_builtin;refine Kd.S_append (Kd.slice 73 k73) (w0:=w) w.heap.size rfl (.tmp 37) (.tmp 38) 76 55 (.slice none 0 0) 24 rfl Try.underlying76 info55 rfl (by decide) (by omega) u3 x3_1 ([]:List (S73)) [.slice none 0 0] (fun k_=>k_ ≠ gb103) (fun _=>False) rfl rfl ?aP (fun k_ hk_=>hk_.elim) ?aF ?aO ?aB ?aS ?aL ?_;(case aP=>exact Kd.M_row (Kd.R_nil _ _ _ _ _));(case aB=>exact (by repeat (first|(with_reducible first|exact HB.out|apply below_alloc|apply pw_below_drewN|apply below_drew1|refine below_set ?_ GE103.out)|exact HB.out)));(case aF=>exact (fun k_ hk=>Kd.freshB (g:=gb103) (o:=.cells #[.string ((rd_T73 l0 x12_1).f0.f0),.int .i64 ((rd_T73 l0 x12_1).f0.f1),.int .i64 ((rd_T73 l0 x12_1).f0.f2),.int .i64 ((rd_T73 l0 x12_1).f0.f3),.int .i64 ((rd_T73 l0 x12_1).f1),.int .i64 ((rd_T73 l0 x12_1).f2)] 73 (0,0)) (by (with_reducible repeat (first|refine blk_drewN ?_ _|refine blk_drew ?_|refine blk_alloc ?_ _));exact BK103.out) k_ hk));(case aO=>exact (by (with_reducible repeat (first|apply Kd.S_alloc|apply Kd.S_drewN|apply Kd.S_drew));exact Kd.S_mono HO_3.out (fun k_ hk=>⟨hk,fun e_=>e_⟩)));(case aS=>exact (below_size (by repeat (first|(with_reducible first|exact HB.out|apply below_alloc|apply pw_below_drewN|apply below_drew1|refine below_set ?_ GE103.out)|exact HB.out))));(case aL=>have:=LMc53.out;omega);intro v125 w66 ho hb hg hat;rw [← Ny124.out] at ho;have n0_:=Aside0.mk (blk_grown (g:=gb103) (o:=.cells #[.string ((rd_T73 l0 x12_1).f0.f0),.int .i64 ((rd_T73 l0 x12_1).f0.f1),.int .i64 ((rd_T73 l0 x12_1).f0.f2),.int .i64 ((rd_T73 l0 x12_1).f0.f3),.int .i64 ((rd_T73 l0 x12_1).f1),.int .i64 ((rd_T73 l0 x12_1).f2)] 73 (0,0)) (by (with_reducible repeat (first|refine blk_drewN ?_ _|refine blk_drew ?_|refine blk_alloc ?_ _));exact BK103.out) hg (Kd.S_ne HO_3.out BK103.out (by decide)));have n1_:=Aside0.mk (Kd.R_over' (by (with_reducible repeat (first|apply Kd.R_alloc|apply Kd.R_drewN|apply Kd.R_drew));exact HO123.out) (Kd.S_typed (by (with_reducible repeat (first|apply Kd.S_alloc|apply Kd.S_drewN|apply Kd.S_drew));exact HO_3.out)) (by decide) hg);have n2_:=Aside0.mk (hb);have n3_:=Aside0.mk (ho);clear BK103;clear HO123;clear HB;clear HO_3;have BK103:=n0_;have HO123:=n1_;have HB:=n2_;have HO126:=n3_;clear n0_ n1_ n2_ n3_;clear ho hb hg hat))
                have n0_:=Aside0.mk (Kd.R_drew HO123.out)
                have n1_:=Aside0.mk (Kd.S_drew HO126.out)
                have n2_:=Aside0.mk (blk_drew BK103.out)
                have n3_:=Aside0.mk (below_drew1 HB.out)
                clear HO123
                clear HO126
                clear BK103
                clear HB
                have HO123:=n0_
                have HO126:=n1_
                have BK103:=n2_
                have HB:=n3_
                clear n0_ n1_ n2_ n3_
                obtain ⟨Ao68,co68,eo68⟩:=Kd.S_slice HO126.out
                (first|subst eo68|(injection eo68 with f1_ f2_ f3_;have f4_:=f1_.symm;have f5_:=f3_.symm;clear f1_ f2_ f3_;subst f4_;subst f5_))
                have p127:0 ≤ ((ji54):Int):=of_decide_eq_true (by first|(with_reducible assumption)|assumption)
                have q127:(ji54) < (y124.length:Int):=of_decide_eq_true (by first|(with_reducible assumption)|assumption)
                obtain ⟨ad127,A127_0,c127_0,e127,hx127_0,hl127_0,hi127_0⟩:=at_L14 (Kd.S_reads' HO126.out).2.2 (ji54) p127 q127
                cases e127
                obtain ⟨ce127,hce127,hMe127,hcc127⟩:=Kd.S_get HO126.out [] (ji54) p127 (by first|exact q127|exact of_decide_eq_true (by first|(with_reducible assumption)|assumption)|(have e_:=(Kd.S_reads' HO126.out).1;omega))
                obtain ⟨ve127_0,rfl,ge127_0⟩:=hMe127
                have hv127_0:=hcc127 0 _ rfl
                rw [Nat.add_zero,show ((Kd.slice 73 k73)).sz = 1 from rfl,Nat.mul_one] at hv127_0
                replace hv127_0:=Option.some.inj (hv127_0.symm.trans hx127_0)
                rw [hv127_0] at ge127_0
                have HL127_0:=Aside0.mk (show Kd.R k73 73 _ _ _ _ (rd_L14 y124 (ji54)) from ge127_0)
                clear hv127_0 ge127_0
                have HX127_0:=Aside0.mk hx127_0
                clear hcc127 hce127
                have HR127_0:=Aside0.mk hi127_0
                have HC127_0:=Aside0.mk hl127_0
                clear hi127_0 hl127_0
                replace p127:=eq_true p127
                replace q127:=eq_true q127
                obtain ⟨go69,co69,eo69,gb69,gl69,cl69,HG69⟩:=Kd.S_form HO126.out (by have h_:((ji54):Int) < ((y124.length:Int):Int):=of_decide_eq_true (by first|(with_reducible assumption)|assumption);have h2_:0 ≤ ((ji54):Int):=(of_decide_eq_true (by first|(with_reducible assumption)|assumption));omega)
                (first|cases eo69|(injection eo69 with ea_ en_ ec_;(first|subst ea_|(injection ea_ with ea_;subst ea_));subst ec_;clear en_))
                have GB69:=Aside0.mk gb69
                have GG69:=Aside0.mk HG69
                clear gb69 gl69 HG69
                (first|simp only [add_plain] at hx127_0|skip)
                obtain ⟨oki69,ce69,hcl69,hM69,hcc69,_,_,hH69⟩:=Kd.S_elem HO126.out [] ((ji54):Int) (of_decide_eq_true (by first|(with_reducible assumption)|assumption)) (by have h_:((ji54):Int) < ((y124.length:Int):Int):=of_decide_eq_true (by first|(with_reducible assumption)|assumption);first|exact h_|(have e_:=(Kd.S_reads' HO126.out).1;omega)|simpa using h_)
                obtain ⟨ve69_0,rfl,ge69_0⟩:=hM69
                have hv69:=hcc69 0 _ rfl
                have hX69:=HX127_0.out
                (try simp only [add_plain] at hX69)
                (try simp only [Nat.add_zero] at hv69)
                (try rw [show ((Kd.slice 73 k73)).sz = 1 from rfl,Nat.mul_one] at hv69)
                replace hv69:=Option.some.inj (hv69.symm.trans hX69)
                subst hv69
                clear hX69 hcc69 hcl69
                have UU69:=Aside0.mk (show Kd.R k73 73 _ w.heap.size oki69 (.slice A127_0 (rd_L14 y124 (ji54)).length c127_0) (rd_L14 y124 (ji54)) from ge69_0)
                have HH69:=Aside0.mk hH69
                have HN69:=Aside0.mk (Kd.S_reads' HO126.out).1
                clear hH69 ge69_0
                refine start_ (n:=15) (S:=fun w'=>w'.cell? ⟨gb103,0,none⟩ = some (.string ((rd_T73 l0 x12_1).f0.f0)) ∧ w'.cell? ⟨gb103,1,none⟩ = some (.int .i64 ((rd_T73 l0 x12_1).f0.f1)) ∧ w'.cell? ⟨gb103,2,none⟩ = some (.int .i64 ((rd_T73 l0 x12_1).f0.f2)) ∧ w'.cell? ⟨gb103,3,none⟩ = some (.int .i64 ((rd_T73 l0 x12_1).f0.f3)) ∧ w'.cell? ⟨gb103,4,none⟩ = some (.int .i64 ((rd_T73 l0 x12_1).f1)) ∧ w'.cell? ⟨gb103,5,none⟩ = some (.int .i64 ((rd_T73 l0 x12_1).f2)) ∧ w'.cell? ⟨go69,((ji54)).toNat,none⟩ = some (.slice A127_0 (rd_L14 y124 (ji54)).length c127_0)) (ds:=[14]) #[Z,Z,Z,Z,Z,Z,Z,Z,Z,Z,Z,Z,Z,Z,Z] (by kernel_rfl) rfl rfl ⟨(blk_cell BK103.out 0).trans rfl,(blk_cell BK103.out 1).trans rfl,(blk_cell BK103.out 2).trans rfl,(blk_cell BK103.out 3).trans rfl,(blk_cell BK103.out 4).trans rfl,(blk_cell BK103.out 5).trans rfl,hx127_0⟩ (fun hHeld=>?_);refine with_tabW scan_Products.tab10 scan_Products.bits10 (fun HT_ HW_=>?_)
                generalize w66.drew = w67 at HO123 HO126 BK103 HB GG69 HH69 HL127_0 HR127_0 HX127_0 UU69 hx127_0 hHeld ⊢
                refine pure_ (i:=0) (N:=some 40) (v:=?_) (a':=?_) #[Y,Z,Z,Z,Z,Z,Z,Z,Z,Z,Z,Z,Z,Z,Z] rfl rfl (any_of HT_.out (by kernel_rfl)) (fun _ _ _ h=>h) (Or.inl ⟨by rfl,?_⟩) ?_ ?_
                rotate_left
                ·intro w'
                 go_simp
                 with_reducible rfl
                rotate_left
                ·simp only [Act.put,List.setIfInBounds_toArray,List.set_cons_zero,List.set_cons_succ,i64_w,i32_w]
                 rfl
                refine pure_ (i:=1) (N:=some 41) (v:=?_) (a':=?_) #[Y,Y,Z,Z,Z,Z,Z,Z,Z,Z,Z,Z,Z,Z,Z] rfl rfl (any_of HT_.out (by kernel_rfl)) (fun _ _ _ h=>h) (Or.inl ⟨by rfl,?_⟩) ?_ ?_
                rotate_left
                ·intro w'
                 go_simp
                 with_reducible rfl
                rotate_left
                ·simp only [Act.put,List.setIfInBounds_toArray,List.set_cons_zero,List.set_cons_succ,i64_w,i32_w]
                 rfl
                refine pure_ (i:=2) (N:=some 42) (v:=?_) (a':=?_) #[Y,Y,Y,Z,Z,Z,Z,Z,Z,Z,Z,Z,Z,Z,Z] rfl rfl (any_of HT_.out (by kernel_rfl)) (fun _ _ _ h=>h) (Or.inl ⟨by rfl,?_⟩) ?_ ?_
                rotate_left
                ·intro w'
                 go_simp
                 with_reducible rfl
                rotate_left
                ·simp only [Act.put,List.setIfInBounds_toArray,List.set_cons_zero,List.set_cons_succ,i64_w,i32_w]
                 rfl
                refine pure_ (i:=3) (N:=some 43) (v:=?_) (a':=?_) #[Y,Y,Y,Y,Z,Z,Z,Z,Z,Z,Z,Z,Z,Z,Z] rfl rfl (any_of HT_.out (by kernel_rfl)) (fun _ _ _ h=>h) (Or.inl ⟨by rfl,?_⟩) ?_ ?_
                rotate_left
                ·intro w'
                 go_simp
                 with_reducible rfl
                rotate_left
                ·simp only [Act.put,List.setIfInBounds_toArray,List.set_cons_zero,List.set_cons_succ,i64_w,i32_w]
                 rfl
                refine pure_ (i:=4) (N:=some 44) (v:=?_) (a':=?_) #[Y,Y,Y,Y,Y,Z,Z,Z,Z,Z,Z,Z,Z,Z,Z] rfl rfl (any_of HT_.out (by kernel_rfl)) (fun _ _ _ h=>h) (Or.inl ⟨by rfl,?_⟩) ?_ ?_
                rotate_left
                ·intro w'
                 go_simp
                 with_reducible rfl
                rotate_left
                ·simp only [Act.put,List.setIfInBounds_toArray,List.set_cons_zero,List.set_cons_succ,i64_w,i32_w]
                 rfl
                refine pure_ (i:=5) (N:=some 45) (v:=?_) (a':=?_) #[Y,Y,Y,Y,Y,Y,Z,Z,Z,Z,Z,Z,Z,Z,Z] rfl rfl (any_of HT_.out (by kernel_rfl)) (fun _ _ _ h=>h) (Or.inl ⟨by rfl,?_⟩) ?_ ?_
                rotate_left
                ·intro w'
                 go_simp
                 with_reducible rfl
                rotate_left
                ·simp only [Act.put,List.setIfInBounds_toArray,List.set_cons_zero,List.set_cons_succ,i64_w,i32_w]
                 rfl
                refine pure_ (i:=6) (N:=some 46) (v:=?_) (a':=?_) #[Y,Y,Y,Y,Y,Y,Y,Z,Z,Z,Z,Z,Z,Z,Z] rfl rfl (any_of HT_.out (by kernel_rfl)) (fun _ _ _ h=>h) (Or.inl ⟨by rfl,?_⟩) ?_ ?_
                rotate_left
                ·intro w'
                 go_simp
                 with_reducible rfl
                rotate_left
                ·simp only [Act.put,List.setIfInBounds_toArray,List.set_cons_zero,List.set_cons_succ,i64_w,i32_w]
                 rfl
                refine pure_ (i:=7) (N:=some 47) (v:=?_) (a':=?_) #[Y,Y,Y,Y,Y,Y,Y,Y,Z,Z,Z,Z,Z,Z,Z] rfl rfl (any_of HT_.out (by kernel_rfl)) (fun _ _ _ h=>h) (Or.inl ⟨by rfl,?_⟩) ?_ ?_
                rotate_left
                ·intro w'
                 go_simp
                 with_reducible rfl
                rotate_left
                ·simp only [Act.put,List.setIfInBounds_toArray,List.set_cons_zero,List.set_cons_succ,i64_w,i32_w]
                 rfl
                refine pure_ (i:=8) (N:=some 48) (v:=?_) (a':=?_) #[Y,Y,Y,Y,Y,Y,Y,Y,Y,Z,Z,Z,Z,Z,Z] rfl rfl (any_of HT_.out (by kernel_rfl)) (fun _ _ _ h=>h) (Or.inl ⟨by rfl,?_⟩) ?_ ?_
                rotate_left
                ·intro w'
                 go_simp
                 with_reducible rfl
                rotate_left
                ·simp only [Act.put,List.setIfInBounds_toArray,List.set_cons_zero,List.set_cons_succ,i64_w,i32_w]
                 rfl
                refine take_ (i:=9) (N:=some 49) (v:=?_) (a':=?_) #[Y,Y,Y,Y,Y,Y,Y,Y,Y,Y,Z,Z,Z,Z,Z] rfl rfl (take_ofW HT_.out HW_.out (by kernel_rfl)) (fun _ _ _ h=>h) (Or.inl ⟨by rfl,?_⟩) hHeld ?_ ?_
                rotate_left
                ·rintro w' ⟨s0,s1,s2,s3,s4,s5,s6⟩
                 go_simp
                 with_reducible rfl
                rotate_left
                ·simp only [Act.put,List.setIfInBounds_toArray,List.set_cons_zero,List.set_cons_succ,i64_w,i32_w]
                 rfl
                refine take_ (i:=10) (N:=some 50) (v:=?_) (a':=?_) #[Y,Y,Y,Y,Y,Y,Y,Y,Y,Y,Y,Z,Z,Z,Z] rfl rfl (take_ofW HT_.out HW_.out (by kernel_rfl)) (fun _ _ _ h=>h) (Or.inl ⟨by rfl,?_⟩) hHeld ?_ ?_
                rotate_left
                ·rintro w' ⟨s0,s1,s2,s3,s4,s5,s6⟩
                 go_simp
                 with_reducible rfl
                rotate_left
                ·simp only [Act.put,List.setIfInBounds_toArray,List.set_cons_zero,List.set_cons_succ,i64_w,i32_w]
                 rfl
                refine one_ (i:=11) (N:=some 51) #[Y,Y,Y,Y,Y,Y,Y,Y,Y,Y,Y,Y,Z,Z,Z] rfl rfl (one_of HT_.out (by kernel_rfl)) (by decide) (fun K hK=>?_)
                refine value_ (w1:=?_) (v:=?_) (by rfl) rfl ?_ ?_
                rotate_left 2
                ·go_simp
                 constructor
                 ·rfl
                 ·rfl
                refine hK.out _ _ ⟨(blk_cell (blk_alloc BK103.out _) 0).trans rfl,(blk_cell (blk_alloc BK103.out _) 1).trans rfl,(blk_cell (blk_alloc BK103.out _) 2).trans rfl,(blk_cell (blk_alloc BK103.out _) 3).trans rfl,(blk_cell (blk_alloc BK103.out _) 4).trans rfl,(blk_cell (blk_alloc BK103.out _) 5).trans rfl,(World.cell?_alloc_lt _ _ _ (World.block_lt_of_cell? _ _ (hHeld.2.2.2.2.2.2))).trans (hHeld.2.2.2.2.2.2)⟩ (fun hHeld=>?_)
                clear hK K
                refine norm_ (a':=?_) ?_ ?_
                rotate_left
                ·show Act.put _ (some 51) _ = _
                 simp only [Act.put,List.setIfInBounds_toArray,List.set_cons_zero,List.set_cons_succ,i64_w,i32_w]
                 rfl
                refine one_ (i:=12) (N:=some 52) #[Y,Y,Y,Y,Y,Y,Y,Y,Y,Y,Y,Y,Y,Z,Z] rfl rfl (one_of HT_.out (by kernel_rfl)) (by decide) (fun K hK=>?_)
                refine Kd.R_append_step k73 (w0:=w) w.heap.size (by rfl) (.tmp 49) (.tmp 51) 55 73 (.agg #[(.string ⟨#[]⟩),(.int .i64 0),(.int .i64 0),(.int .i64 0),(.int .i64 0),(.int .i64 0)]) 56 rfl Try.underlying55 info73 rfl (by decide) (by omega) (.slice A127_0 (rd_L14 y124 (ji54)).length c127_0) (rd_L14 y124 (ji54)) (⟨(⟨(rd_T73 l0 x12_1).f0.f0,(rd_T73 l0 x12_1).f0.f1,(rd_T73 l0 x12_1).f0.f2,(rd_T73 l0 x12_1).f0.f3⟩:S39),(rd_T73 l0 x12_1).f1,(rd_T73 l0 x12_1).f2⟩:S73) [.string ((rd_T73 l0 x12_1).f0.f0),.int .i64 ((rd_T73 l0 x12_1).f0.f1),.int .i64 ((rd_T73 l0 x12_1).f0.f2),.int .i64 ((rd_T73 l0 x12_1).f0.f3),.int .i64 ((rd_T73 l0 x12_1).f1),.int .i64 ((rd_T73 l0 x12_1).f2)] (fun k_=>oki69 k_ ∨ ((fun k_=>k_ ≠ gb103)) k_ ∧ w67.heap.size ≤ k_) (fun _=>False) rfl rfl ?aP (fun _ hk=>hk.elim) ?aF ?aO ?aB ?aS ?aL ?_
                (case aP=>exact k73_mkM _ _ _ (⟨(⟨(rd_T73 l0 x12_1).f0.f0,(rd_T73 l0 x12_1).f0.f1,(rd_T73 l0 x12_1).f0.f2,(rd_T73 l0 x12_1).f0.f3⟩:S39),(rd_T73 l0 x12_1).f1,(rd_T73 l0 x12_1).f2⟩:S73))
                (case aB=>exact (by repeat (first|(with_reducible first|exact HB.out|apply below_alloc|apply pw_below_drewN|apply below_drew1|refine below_set ?_ GE103.out)|exact HB.out)))
                (case aF=>exact (fun k_ hk=>.inr ⟨Kd.freshB (g:=gb103) (o:=.cells #[.string ((rd_T73 l0 x12_1).f0.f0),.int .i64 ((rd_T73 l0 x12_1).f0.f1),.int .i64 ((rd_T73 l0 x12_1).f0.f2),.int .i64 ((rd_T73 l0 x12_1).f0.f3),.int .i64 ((rd_T73 l0 x12_1).f1),.int .i64 ((rd_T73 l0 x12_1).f2)] 73 (0,0)) (by (with_reducible repeat (first|refine blk_drewN ?_ _|refine blk_drew ?_|refine blk_alloc ?_ _));exact BK103.out) k_ hk,hk⟩))
                (case aO=>exact (by (with_reducible repeat (first|apply Kd.R_alloc|apply Kd.R_drewN|apply Kd.R_drew));exact Kd.R_mono UU69.out (fun _ hk=>.inl hk)))
                (case aS=>exact (below_size (by repeat (first|(with_reducible first|exact HB.out|apply below_alloc|apply pw_below_drewN|apply below_drew1|refine below_set ?_ GE103.out)|exact HB.out))))
                (case aL=>have:=LMc57.out;omega)
                intro v129 w70 ho hb hg hat
                (first|have HS6_:=cell_grown hg (hHeld.2.2.2.2.2.2) (by first|(rw [add_block];exact (fun e_=>((HL127_0.out.1 _ e_.symm).2) rfl))|(show some (Addr.add _ _).block ≠ _;rw [add_block];exact (fun e_=>((HL127_0.out.1 _ e_.symm).2) rfl))|exact (fun e_=>((HL127_0.out.1 _ e_.symm).2) rfl))|have HS6_:=cell_grown hg (cell_unalloc (hHeld.2.2.2.2.2.2) (by first|(rw [add_block];exact Kd.S_lt HO126.out _ rfl)|(show (Addr.add _ _).block < _;rw [add_block];exact Kd.S_lt HO126.out _ rfl)|exact Kd.S_lt HO126.out _ rfl)) (by first|(rw [add_block];exact (fun e_=>((HL127_0.out.1 _ e_.symm).2) rfl))|(show some (Addr.add _ _).block ≠ _;rw [add_block];exact (fun e_=>((HL127_0.out.1 _ e_.symm).2) rfl))|exact (fun e_=>((HL127_0.out.1 _ e_.symm).2) rfl)))
                rw [← Ny128.out] at ho
                have n0_:=Aside0.mk (blk_grown (g:=gb103) (o:=.cells #[.string ((rd_T73 l0 x12_1).f0.f0),.int .i64 ((rd_T73 l0 x12_1).f0.f1),.int .i64 ((rd_T73 l0 x12_1).f0.f2),.int .i64 ((rd_T73 l0 x12_1).f0.f3),.int .i64 ((rd_T73 l0 x12_1).f1),.int .i64 ((rd_T73 l0 x12_1).f2)] 73 (0,0)) (by (with_reducible repeat (first|refine blk_drewN ?_ _|refine blk_drew ?_|refine blk_alloc ?_ _));exact BK103.out) hg (Kd.R_away HL127_0.out (fun _ hk=>hk.1)))
                have n1_:=Aside0.mk (Kd.R_over' (v:=(.slice A127_0 (rd_L14 y124 (ji54)).length c127_0)) (by (with_reducible repeat (first|apply Kd.R_alloc|apply Kd.R_drewN|apply Kd.R_drew));exact HO123.out) (Kd.R_typed HL127_0.out) (by decide) hg)
                have n2_:=Aside0.mk (hb)
                have n3_:=Aside0.mk (Kd.H_grown (Kd.H_widen (by repeat (first|exact HH69.out|refine Kd.H_alloc ?_ _|refine Kd.H_drewN ?_ _|refine Kd.H_drew ?_))) hg (fun k_ e_=>.inl (UU69.out.1 k_ e_)))
                have n4_:=Aside0.mk (ho)
                clear BK103
                clear HO123
                clear HB
                clear HH69
                clear HO126
                clear UU69
                clear HL127_0
                have BK103:=n0_
                have HO123:=n1_
                have HB:=n2_
                have HH69:=n3_
                have HO130:=n4_
                clear n0_ n1_ n2_ n3_ n4_
                clear ho hb hg hat
                have p58:0 ≤ ((ji54):Int):=of_decide_eq_true (by first|(with_reducible assumption)|assumption)
                have q58:((ji54):Int) < ((y124.length:Int):Int):=of_decide_eq_true (by first|(with_reducible assumption)|assumption)
                replace p58:=eq_true p58
                replace q58:=eq_true q58
                obtain ⟨Ao73,co73,eo73⟩:=Kd.R_slice HO130.out
                (first|subst eo73|(injection eo73 with f1_ f2_ f3_;have f4_:=f1_.symm;have f5_:=f3_.symm;clear f1_ f2_ f3_;subst f4_;subst f5_))
                obtain ⟨_,_,hraw71,_,_,hcc71,_⟩:=Kd.H_raw HH69.out (of_decide_eq_true (by first|(with_reducible assumption)|assumption)) (by have h_:((ji54):Int) < ((y124.length:Int):Int):=of_decide_eq_true (by first|(with_reducible assumption)|assumption);first|exact h_|(have e_:=(HN69.out);omega)|simpa using h_)
                obtain ⟨_,hfr71⟩:=Kd.H_at HH69.out (of_decide_eq_true (by first|(with_reducible assumption)|assumption)) (by have h_:((ji54):Int) < ((y124.length:Int):Int):=of_decide_eq_true (by first|(with_reducible assumption)|assumption);first|exact h_|(have e_:=(HN69.out);omega)|simpa using h_)
                have hx71_0:=hcc71 0 _ rfl
                have hf71_0:=hfr71 0
                (try simp only [Nat.add_zero] at hx71_0 hf71_0)
                (try rw [show ((Kd.slice 73 k73)).sz = 1 from rfl,Nat.mul_one] at hx71_0)
                (try rw [show ((Kd.slice 73 k73)).sz = 1 from rfl,Nat.mul_one] at hf71_0)
                have HP71:=Kd.S_seg0 HH69.out (of_decide_eq_true (by first|(with_reducible assumption)|assumption)) (by have h_:((ji54):Int) < ((y124.length:Int):Int):=of_decide_eq_true (by first|(with_reducible assumption)|assumption);first|exact h_|(have e_:=(HN69.out);omega)|simpa using h_) (seg:=[.slice Ao73 y128.length co73]) (j:=0) (show 1 ≤ 1 from by decide) (x':=y128) (Kd.M_row HO130.out) (fun _ hk=>hk)
                (try simp only [show ((Kd.slice 73 k73)).sz = 1 from rfl,Nat.mul_one,Nat.add_zero] at HP71)
                clear hcc71 hfr71
                have HNB103_go69:=Aside0.mk (show gb103 ≠ go69 from by have h_:=Kd.R_ne hraw71 BK103.out (by decide);intro e_;exact h_ (by rw [e_];rfl))
                have HS71:=HP71.1
                rw [← Ny131.out] at HS71
                have HQ71:=Aside0.mk HS71
                obtain ⟨_,hgg71⟩:=Kd.R_typed hraw71 go69 rfl
                have GG71_:=Aside0.mk hgg71
                clear HP71 HS71 hgg71
                refine hK.out _ _ ⟨(blk_cell BK103.out 0).trans rfl,(blk_cell BK103.out 1).trans rfl,(blk_cell BK103.out 2).trans rfl,(blk_cell BK103.out 3).trans rfl,(blk_cell BK103.out 4).trans rfl,(blk_cell BK103.out 5).trans rfl,HS6_⟩ (fun hHeld=>?_)
                clear hK K
                refine norm_ (a':=?_) ?_ ?_
                rotate_left
                ·show Act.put _ (some 52) _ = _
                 simp only [Act.put,List.setIfInBounds_toArray,List.set_cons_zero,List.set_cons_succ,i64_w,i32_w]
                 rfl
                refine pure_ (i:=13) (N:=some 53) (v:=?_) (a':=?_) #[Y,Y,Y,Y,Y,Y,Y,Y,Y,Y,Y,Y,Y,Y,Z] rfl rfl (any_of HT_.out (by kernel_rfl)) (fun _ _ _ h=>h) (Or.inl ⟨by rfl,?_⟩) ?_ ?_
                rotate_left
                ·intro w'
                 go_simp
                 with_reducible rfl
                rotate_left
                ·simp only [Act.put,List.setIfInBounds_toArray,List.set_cons_zero,List.set_cons_succ,i64_w,i32_w]
                 rfl
                refine last_ (i:=14) (N:=none) #[Y,Y,Y,Y,Y,Y,Y,Y,Y,Y,Y,Y,Y,Y,Y] rfl rfl (one_of HT_.out (by kernel_rfl)) (by decide) (fun K hK=>?_)
                refine skip_ (w1:=?_) (by rfl) rfl ?_ ?_
                rotate_left
                ·go_simp
                 rfl
                refine hK.out _ _ ?_
                clear hK K
                refine done_ (done_of HT_.out (by kernel_rfl)) ?_
                try go_wp2
                go_roundg k1
                case measure=>have:=HK1.out;omega
                case rel=>exact ⟨(y121),(y131),(wrap64 (x12_1 + 1)),(by first|rfl|(simp;done)|(simp [*];done)),H',⟨by have:=HK1.out;omega⟩,⟨by (with_reducible repeat (first|apply Kd.R_alloc|apply Kd.R_drewN|apply Kd.R_drew));exact Kd.R_mono (Kd.R_far (p:=⟨go69,((ji54):Int).toNat,none⟩) (Kd.R_types HO123.out GG71_.out (by decide)) (fun _ hk=>hk.2) (.slice Ao73 y128.length co73)) (fun _ hk=>trivial)⟩,⟨by (with_reducible repeat (first|apply Kd.S_alloc|apply Kd.S_drewN|apply Kd.S_drew));exact Kd.S_mono HQ71.out (fun _ hk=>trivial)⟩,⟨by repeat (first|(with_reducible first|exact HB.out|apply below_alloc|apply pw_below_drewN|apply below_drew1|refine below_set ?_ GB69.out|refine below_set ?_ GE103.out)|exact HB.out)⟩⟩
               ·rw [if_neg c57] at H
                exact absurd H (by simp)
              ·rw [if_neg c56] at H
               exact absurd H (by simp)
             ·rw [if_neg c55] at H
              exact absurd H (by simp)
            ·rw [if_neg c53] at H
             exact absurd H (by simp)
           ·rw [if_neg c52] at H
            exact absurd H (by simp)
         ·rw [if_neg c33] at H
          exact absurd H (by simp)
        ·rw [if_neg c32] at H
         exact absurd H (by simp)
      ·rw [if_neg c7] at H
       exact absurd H (by simp)
     ·rw [if_neg c6] at H
      exact absurd H (by simp)
    ·rw [if_neg c5] at H
     have c5b0:decide (x12_1 < (l0.length:Int)) = false:=decide_eq_false c5
     clear c5
     simp only [Option.some.injEq,Prod.mk.injEq] at H
     obtain ⟨rfl,rfl⟩:=H
     go_wp2
     go_ret2
     exact ⟨_,_,by first|rfl|(simp [errW_none,errW_some] <;> rfl)|(simp [*,errW_none,errW_some] <;> rfl),by (with_reducible repeat (first|apply Kd.R_alloc|apply Kd.R_drewN|apply Kd.R_drew));exact HO_2.out,by (with_reducible repeat (first|apply Kd.S_alloc|apply Kd.S_drewN|apply Kd.S_drew));exact HO_3.out,by repeat (first|(with_reducible first|exact HB.out|apply below_alloc|apply pw_below_drewN|apply below_drew1)|exact HB.out)⟩
 ·rw [if_neg c3] at H
  have c3b0:(t101 == 0) = false:=beq_eq_false_iff_ne.mpr c3
  have c3b1:(t101 != 0) = true:=bne_iff_ne.mpr c3
  simp only [Option.some.injEq,Prod.mk.injEq] at H
  obtain ⟨rfl,rfl⟩:=H
  go_enter Try.func37,Try.ntmps37
  go_wp2_with (first|((with_reducible refine gate_callee (f:=65) rfl ?_);refine goesL_ (some 8) rfl rfl Try.func65 (by kernel_rfl) rfl #[.slice A0 l0.length c0] rfl (by (try simp only [List.map_toArray,List.map_cons,List.map_nil]);first|done|rfl|(simp only [List.length_drop,List.length_take];rfl)) ?_;(with_reducible refine (position_Check.calls k _ _ l0 t101 _ ?side1 ?side2 A2.out).mono ?_);(case side1=>repeat (first|exact HR0.out|(with_reducible refine Kd.C_alloc ?_ _)|(with_reducible refine Kd.C_drewN ?_ _)|(with_reducible refine Kd.C_drew ?_)));(case side2=>exact HC0.out);rintro e w74 ⟨rfl,hb⟩;refine ⟨_,rfl,?_⟩;have n0_:=Aside0.mk (below_step (by repeat (first|(with_reducible first|exact HB.out|apply below_alloc|apply pw_below_drewN|apply below_drew1)|exact HB.out)) hb);clear HB;have HB:=n0_;clear n0_;(try clear hb);(try clear hb2);(try clear hk);(try clear hi)))
  go_ret2
  exact ⟨_,_,by first|rfl|(simp [errW_none,errW_some] <;> rfl)|(simp [*,errW_none,errW_some] <;> rfl),by first|exact Kd.R_nil _ _ _ _ _|exact Kd.N_nil _ _ _ _ _|exact Kd.V_nil _ _ _ _ _|exact Kd.Q_nil _ _ _ _ _|exact Kd.S_nil _ _ _ _ _,by first|exact Kd.S_nil _ _ _ _ _|exact Kd.N_nil _ _ _ _ _|exact Kd.V_nil _ _ _ _ _|exact Kd.Q_nil _ _ _ _ _|exact Kd.R_nil _ _ _ _ _,by repeat (first|(with_reducible first|exact HB.out|apply below_alloc|apply pw_below_drewN|apply below_drew1)|exact HB.out)⟩
end Go.Proofs.Ytbgeceiddcokmaa.X
end
