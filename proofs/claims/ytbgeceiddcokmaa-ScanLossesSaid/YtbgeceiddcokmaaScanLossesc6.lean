/- For ScanLosses: contracts, and facts on lists and numbers, that it uses (part 6). -/
import Derived.ChangeArms
import Derived.Deep.Slices
import Derived.Laws.BitsLemmas
import Derived.Laws.Strings
import Derived.SizedLaws
import Derived.Test.YtbgeceiddcokmaaScanLossesc5
import Derived.WideShapes
section
namespace Go.Proofs.Ytbgeceiddcokmaa.X
open Go.RowKit Go.Proofs.YtbgeceiddcokmaaW.PrintWords Go.Proofs.YtbgeceiddcokmaaW.PrintLast Go.Proofs.YtbgeceiddcokmaaW.PrintMore
attribute [local go_sem] max2_int min2_int max_two min_two max_three min_three max_four min_four
set_option linter.unusedVariables false
set_option linter.unusedSimpArgs false
def contangoref23_checks.l0:Nat → List (S73) → List (S91) → Int → Option (Int)
 | 0,_,_,_=>none
 | k + 1,x0,x1,x7=>if x7 < (x0.length:Int) then (if 0 ≤ x7 then ((contangoref23_find.f k x1 ((rd_T73 x0 x7).f0.f0) ((rd_T73 x0 x7).f0.f1) ((rd_T73 x0 x7).f0.f2) ((rd_T73 x0 x7).f0.f3)).bind fun t104=>(if t104 < 0 then (some 11) else (contangoref23_checks.l0 k x0 x1 (wrap64 (x7 + 1))))) else (none)) else (some 0)
def contangoref23_checks.f (k:Nat) (l0:List (S73)) (l1:List (S91)):Option (Int):=(contangoref23_Check.f k l1).bind fun t101=>(if t101 = 0 then ((contangoref15_Check.f k l0).bind fun t102=>(if t102 = 0 then (contangoref23_checks.l0 k l0 l1 0) else (some t102))) else (some t101))
theorem contangoref23_checks.mono_l:∀ k,(∀ y0 y1 y2,LeO (contangoref23_checks.l0 k y0 y1 y2) (contangoref23_checks.l0 (k + 1) y0 y1 y2))
 | 0=>fun _ _ _ r h=>by simp [contangoref23_checks.l0] at h
 | k + 1=>by
  have ih0:=contangoref23_checks.mono_l k
  ·intro y0 y1 y2
   unfold contangoref23_checks.l0
   repeat' first
   | (with_reducible exact ih0 _ _ _)
   | (with_reducible exact contangoref15_Check.mono _ _)
   | (with_reducible exact contangoref23_Check.mono _ _)
   | (with_reducible exact contangoref23_find.mono _ _ _ _ _ _)
   | (with_reducible exact LeO.refl _)
   | (with_reducible exact LeO.none _)
   | (with_reducible refine LeO.ite ?_ ?_)
   | (with_reducible refine LeO.bind ?_ (fun _=>?_))
   | exact ih0 _ _ _
   | exact contangoref15_Check.mono _ _
   | exact contangoref23_Check.mono _ _
   | exact contangoref23_find.mono _ _ _ _ _ _
   | exact LeO.none _
   | refine LeO.ite ?_ ?_
   | refine LeO.bind ?_ (fun _=>?_)
theorem contangoref23_checks.mono:∀ a0 a1 k,LeO (contangoref23_checks.f k a0 a1) (contangoref23_checks.f (k + 1) a0 a1):=by
 intro a0 a1 k
 have ih0:=contangoref23_checks.mono_l k
 unfold contangoref23_checks.f
 repeat' first
   | (with_reducible exact ih0 _ _ _)
   | (with_reducible exact contangoref15_Check.mono _ _)
   | (with_reducible exact contangoref23_Check.mono _ _)
   | (with_reducible exact contangoref23_find.mono _ _ _ _ _ _)
   | (with_reducible exact LeO.refl _)
   | (with_reducible exact LeO.none _)
   | (with_reducible refine LeO.ite ?_ ?_)
   | (with_reducible refine LeO.bind ?_ (fun _=>?_))
   | exact ih0 _ _ _
   | exact contangoref15_Check.mono _ _
   | exact contangoref23_Check.mono _ _
   | exact contangoref23_find.mono _ _ _ _ _ _
   | exact LeO.none _
   | refine LeO.ite ?_ ?_
   | refine LeO.bind ?_ (fun _=>?_)
set_option maxHeartbeats 8000000 in
set_option maxRecDepth 100000 in
theorem contangoref23_checks.calls (k:Nat) (A0:Option Addr) (c0:Nat) (l0:List (S73)) (A1:Option Addr) (c1:Nat) (l1:List (S91)) (r:Int) (w:World) (hr0:Kd.C k73 w A0 l0.length l0) (hc0:l0.length ≤ c0) (hr1:Kd.C k91 w A1 l1.length l1) (hc1:l1.length ≤ c1) (h:contangoref23_checks.f k l0 l1 = some r) :
  Calls Try.prog 59 #[.slice A0 l0.length c0,.slice A1 l1.length c1] w fun e w'=>e = .returned (.int .i64 r) ∧ Below w.heap.size w w':=by
 have hu39:=Try.underlying39
 have HR0:=Aside0.mk hr0
 have HC0:=Aside0.mk hc0
 clear hr0 hc0
 have HR1:=Aside0.mk hr1
 have HC1:=Aside0.mk hc1
 clear hr1 hc1
 have HB:=Aside0.mk (Below.refl w.heap.size w)
 have H:((contangoref23_Check.f k l1).bind fun t101=>(if t101 = 0 then ((contangoref15_Check.f k l0).bind fun t102=>(if t102 = 0 then (contangoref23_checks.l0 k l0 l1 0) else (some t102))) else (some t101))) = some r:=h
 clear h
 replace H:=Option.bind_eq_some_iff.mp H
 obtain ⟨t101,A30,H⟩:=H
 replace H:(if t101 = 0 then ((contangoref15_Check.f k l0).bind fun t102=>(if t102 = 0 then (contangoref23_checks.l0 k l0 l1 0) else (some t102))) else (some t101)) = some r:=H
 have A3:=Aside0.mk A30
 clear A30
 by_cases c4:t101 = 0
 ·rw [if_pos c4] at H
  have c4b0:(t101 == 0) = true:=beq_iff_eq.mpr c4
  have c4b1:(t101 != 0) = false:=bne_eq_false_iff_eq.mpr c4
  clear c4
  replace H:=Option.bind_eq_some_iff.mp H
  obtain ⟨t102,A50,H⟩:=H
  replace H:(if t102 = 0 then (contangoref23_checks.l0 k l0 l1 0) else (some t102)) = some r:=H
  have A5:=Aside0.mk A50
  clear A50
  by_cases c6:t102 = 0
  ·rw [if_pos c6] at H
   have c6b0:(t102 == 0) = true:=beq_iff_eq.mpr c6
   have c6b1:(t102 != 0) = false:=bne_eq_false_iff_eq.mpr c6
   clear c6
   have H':=Aside0.mk H
   clear H
   go_enter Try.func59,Try.ntmps59
   go_wp2_with (first|((with_reducible refine gate_callee (f:=32) rfl ?_);refine goesL_ (some 9) rfl rfl Try.func32 (by kernel_rfl) rfl #[.slice A1 l1.length c1] rfl (by (try simp only [List.map_toArray,List.map_cons,List.map_nil]);first|done|rfl|(simp only [List.length_drop,List.length_take];rfl)) ?_;(with_reducible refine (contangoref23_Check.calls k _ _ l1 t101 _ ?side1 ?side2 A3.out).mono ?_);(case side1=>repeat (first|exact HR1.out|(with_reducible refine Kd.C_alloc ?_ _)|(with_reducible refine Kd.C_drewN ?_ _)|(with_reducible refine Kd.C_drew ?_)));(case side2=>exact HC1.out);rintro e w7 ⟨rfl,hb⟩;refine ⟨_,rfl,?_⟩;have n0_:=Aside0.mk (below_step (by repeat (first|(with_reducible first|exact HB.out|apply below_alloc|apply pw_below_drewN|apply below_drew1)|exact HB.out)) hb);clear HB;have HB:=n0_;clear n0_;(try clear hb);(try clear hb2);(try clear hk);(try clear hi))|((with_reducible refine gate_callee (f:=66) rfl ?_);refine goesL_ (some 14) rfl rfl Try.func66 (by kernel_rfl) rfl #[.slice A0 l0.length c0] rfl (by (try simp only [List.map_toArray,List.map_cons,List.map_nil]);first|done|rfl|(simp only [List.length_drop,List.length_take];rfl)) ?_;(with_reducible refine (contangoref15_Check.calls k _ _ l0 t102 _ ?side1 ?side2 A5.out).mono ?_);(case side1=>repeat (first|exact (Kd.C_below HR0.out HB.out)|(with_reducible refine Kd.C_alloc ?_ _)|(with_reducible refine Kd.C_drewN ?_ _)|(with_reducible refine Kd.C_drew ?_)));(case side2=>exact HC0.out);rintro e w8 ⟨rfl,hb⟩;refine ⟨_,rfl,?_⟩;have n0_:=Aside0.mk (below_step (by repeat (first|(with_reducible first|exact HB.out|apply below_alloc|apply pw_below_drewN|apply below_drew1)|exact HB.out)) hb);clear HB;have HB:=n0_;clear n0_;(try clear hb);(try clear hb2);(try clear hk);(try clear hi)))
   go_loopg [7] k (fun kq v7 w'=>∃ (x7_1:Int),v7 = .int .i64 x7_1 ∧ Aside0 (contangoref23_checks.l0 kq l0 l1 x7_1 = some r) ∧ Aside0 (kq ≤ k) ∧ Aside0 (Below w.heap.size w w'))
   case atStart=>exact ⟨(0),(by first|rfl|(simp;done)|(simp [*];done)),H',⟨Nat.le_refl _⟩,⟨by repeat (first|(with_reducible first|exact HB.out|apply below_alloc|apply pw_below_drewN|apply below_drew1)|exact HB.out)⟩⟩
   case round =>
    clear H'
    try clear c1
    try clear p2
    try clear c3
    try clear c4
    try clear c4b0
    try clear c4b1
    try clear c5
    try clear c6
    try clear c6b0
    try clear c6b1
    obtain ⟨x7_1,rfl,HA,HK1,HB⟩:=hrel
    cases gk with
    | zero=>exact absurd HA.out (by simp [contangoref23_checks.l0])
    | succ k1 =>
     have H:=HA.out
     clear HA
     simp only [contangoref23_checks.l0] at H
     by_cases c9:x7_1 < (l0.length:Int)
     ·rw [if_pos c9] at H
      have c9b0:decide (x7_1 < (l0.length:Int)) = true:=decide_eq_true c9
      clear c9
      by_cases c10:0 ≤ x7_1
      ·rw [if_pos c10] at H
       have c10b0:decide (0 ≤ x7_1) = true:=decide_eq_true c10
       clear c10
       replace H:=Option.bind_eq_some_iff.mp H
       obtain ⟨t104,A110,H⟩:=H
       replace H:(if t104 < 0 then (some 11) else (contangoref23_checks.l0 k1 l0 l1 (wrap64 (x7_1 + 1)))) = some r:=H
       have A11:=Aside0.mk A110
       clear A110
       by_cases c12:t104 < 0
       ·rw [if_pos c12] at H
        have c12b0:decide (t104 < 0) = true:=decide_eq_true c12
        clear c12
        obtain rfl:=Option.some.inj H
        have p103:0 ≤ (x7_1:Int):=of_decide_eq_true (by first|(with_reducible assumption)|assumption)
        have q103:x7_1 < (l0.length:Int):=of_decide_eq_true (by first|(with_reducible assumption)|assumption)
        obtain ⟨ad103,e103,hx103_0,hx103_1,hx103_2,hx103_3,hx103_4,hx103_5⟩:=at_T73 HR0.out x7_1 p103 q103
        cases e103
        replace hx103_0:=(HB.out.cell (World.block_lt_of_cell? w _ hx103_0)).trans hx103_0
        replace hx103_1:=(HB.out.cell (World.block_lt_of_cell? w _ hx103_1)).trans hx103_1
        replace hx103_2:=(HB.out.cell (World.block_lt_of_cell? w _ hx103_2)).trans hx103_2
        replace hx103_3:=(HB.out.cell (World.block_lt_of_cell? w _ hx103_3)).trans hx103_3
        replace hx103_4:=(HB.out.cell (World.block_lt_of_cell? w _ hx103_4)).trans hx103_4
        replace hx103_5:=(HB.out.cell (World.block_lt_of_cell? w _ hx103_5)).trans hx103_5
        replace p103:=eq_true p103
        replace q103:=eq_true q103
        go_wp2_with (first|((with_reducible refine gate_callee (f:=60) rfl ?_);refine goesL_ (some 30) rfl rfl Try.func60 (by kernel_rfl) rfl #[.slice A1 l1.length c1,.agg #[.string ((rd_T73 l0 x7_1).f0.f0),.int .i64 ((rd_T73 l0 x7_1).f0.f1),.int .i64 ((rd_T73 l0 x7_1).f0.f2),.int .i64 ((rd_T73 l0 x7_1).f0.f3)]] rfl (by (try simp only [List.map_toArray,List.map_cons,List.map_nil]);first|done|rfl|(simp only [List.length_drop,List.length_take];rfl)) ?_;(with_reducible refine (contangoref23_find.calls k1 _ _ l1 ((rd_T73 l0 x7_1).f0.f0) ((rd_T73 l0 x7_1).f0.f1) ((rd_T73 l0 x7_1).f0.f2) ((rd_T73 l0 x7_1).f0.f3) t104 _ ?side1 ?side2 A11.out).mono ?_);(case side1=>repeat (first|exact (Kd.C_below HR1.out HB.out)|(with_reducible refine Kd.C_alloc ?_ _)|(with_reducible refine Kd.C_drewN ?_ _)|(with_reducible refine Kd.C_drew ?_)));(case side2=>exact HC1.out);rintro e w13 ⟨rfl,hb⟩;refine ⟨_,rfl,?_⟩;have n0_:=Aside0.mk (below_step (by repeat (first|(with_reducible first|exact HB.out|apply below_alloc|apply pw_below_drewN|apply below_drew1)|exact HB.out)) hb);clear HB;have HB:=n0_;clear n0_;(try clear hb);(try clear hb2);(try clear hk);(try clear hi)))
        go_ret
        exact ⟨by first|rfl|(simp [errW_none,errW_some] <;> rfl)|(simp [*,errW_none,errW_some] <;> rfl),by repeat (first|(with_reducible first|exact HB.out|apply below_alloc|apply pw_below_drewN|apply below_drew1)|exact HB.out)⟩
       ·rw [if_neg c12] at H
        have c12b0:decide (t104 < 0) = false:=decide_eq_false c12
        clear c12
        have H':=Aside0.mk H
        clear H
        have p103:0 ≤ (x7_1:Int):=of_decide_eq_true (by first|(with_reducible assumption)|assumption)
        have q103:x7_1 < (l0.length:Int):=of_decide_eq_true (by first|(with_reducible assumption)|assumption)
        obtain ⟨ad103,e103,hx103_0,hx103_1,hx103_2,hx103_3,hx103_4,hx103_5⟩:=at_T73 HR0.out x7_1 p103 q103
        cases e103
        replace hx103_0:=(HB.out.cell (World.block_lt_of_cell? w _ hx103_0)).trans hx103_0
        replace hx103_1:=(HB.out.cell (World.block_lt_of_cell? w _ hx103_1)).trans hx103_1
        replace hx103_2:=(HB.out.cell (World.block_lt_of_cell? w _ hx103_2)).trans hx103_2
        replace hx103_3:=(HB.out.cell (World.block_lt_of_cell? w _ hx103_3)).trans hx103_3
        replace hx103_4:=(HB.out.cell (World.block_lt_of_cell? w _ hx103_4)).trans hx103_4
        replace hx103_5:=(HB.out.cell (World.block_lt_of_cell? w _ hx103_5)).trans hx103_5
        replace p103:=eq_true p103
        replace q103:=eq_true q103
        go_wp2_with (first|((with_reducible refine gate_callee (f:=60) rfl ?_);refine goesL_ (some 30) rfl rfl Try.func60 (by kernel_rfl) rfl #[.slice A1 l1.length c1,.agg #[.string ((rd_T73 l0 x7_1).f0.f0),.int .i64 ((rd_T73 l0 x7_1).f0.f1),.int .i64 ((rd_T73 l0 x7_1).f0.f2),.int .i64 ((rd_T73 l0 x7_1).f0.f3)]] rfl (by (try simp only [List.map_toArray,List.map_cons,List.map_nil]);first|done|rfl|(simp only [List.length_drop,List.length_take];rfl)) ?_;(with_reducible refine (contangoref23_find.calls k1 _ _ l1 ((rd_T73 l0 x7_1).f0.f0) ((rd_T73 l0 x7_1).f0.f1) ((rd_T73 l0 x7_1).f0.f2) ((rd_T73 l0 x7_1).f0.f3) t104 _ ?side1 ?side2 A11.out).mono ?_);(case side1=>repeat (first|exact (Kd.C_below HR1.out HB.out)|(with_reducible refine Kd.C_alloc ?_ _)|(with_reducible refine Kd.C_drewN ?_ _)|(with_reducible refine Kd.C_drew ?_)));(case side2=>exact HC1.out);rintro e w14 ⟨rfl,hb⟩;refine ⟨_,rfl,?_⟩;have n0_:=Aside0.mk (below_step (by repeat (first|(with_reducible first|exact HB.out|apply below_alloc|apply pw_below_drewN|apply below_drew1)|exact HB.out)) hb);clear HB;have HB:=n0_;clear n0_;(try clear hb);(try clear hb2);(try clear hk);(try clear hi)))
        go_roundg k1
        case measure=>have:=HK1.out;omega
        case rel=>exact ⟨(wrap64 (x7_1 + 1)),(by first|rfl|(simp;done)|(simp [*];done)),H',⟨by have:=HK1.out;omega⟩,⟨by repeat (first|(with_reducible first|exact HB.out|apply below_alloc|apply pw_below_drewN|apply below_drew1)|exact HB.out)⟩⟩
      ·rw [if_neg c10] at H
       exact absurd H (by simp)
     ·rw [if_neg c9] at H
      have c9b0:decide (x7_1 < (l0.length:Int)) = false:=decide_eq_false c9
      clear c9
      obtain rfl:=Option.some.inj H
      go_wp2
      go_ret
      exact ⟨by first|rfl|(simp [errW_none,errW_some] <;> rfl)|(simp [*,errW_none,errW_some] <;> rfl),by repeat (first|(with_reducible first|exact HB.out|apply below_alloc|apply pw_below_drewN|apply below_drew1)|exact HB.out)⟩
  ·rw [if_neg c6] at H
   have c6b0:(t102 == 0) = false:=beq_eq_false_iff_ne.mpr c6
   have c6b1:(t102 != 0) = true:=bne_iff_ne.mpr c6
   obtain rfl:=Option.some.inj H
   go_enter Try.func59,Try.ntmps59
   go_wp2_with (first|((with_reducible refine gate_callee (f:=32) rfl ?_);refine goesL_ (some 9) rfl rfl Try.func32 (by kernel_rfl) rfl #[.slice A1 l1.length c1] rfl (by (try simp only [List.map_toArray,List.map_cons,List.map_nil]);first|done|rfl|(simp only [List.length_drop,List.length_take];rfl)) ?_;(with_reducible refine (contangoref23_Check.calls k _ _ l1 t101 _ ?side1 ?side2 A3.out).mono ?_);(case side1=>repeat (first|exact HR1.out|(with_reducible refine Kd.C_alloc ?_ _)|(with_reducible refine Kd.C_drewN ?_ _)|(with_reducible refine Kd.C_drew ?_)));(case side2=>exact HC1.out);rintro e w15 ⟨rfl,hb⟩;refine ⟨_,rfl,?_⟩;have n0_:=Aside0.mk (below_step (by repeat (first|(with_reducible first|exact HB.out|apply below_alloc|apply pw_below_drewN|apply below_drew1)|exact HB.out)) hb);clear HB;have HB:=n0_;clear n0_;(try clear hb);(try clear hb2);(try clear hk);(try clear hi))|((with_reducible refine gate_callee (f:=66) rfl ?_);refine goesL_ (some 14) rfl rfl Try.func66 (by kernel_rfl) rfl #[.slice A0 l0.length c0] rfl (by (try simp only [List.map_toArray,List.map_cons,List.map_nil]);first|done|rfl|(simp only [List.length_drop,List.length_take];rfl)) ?_;(with_reducible refine (contangoref15_Check.calls k _ _ l0 t102 _ ?side1 ?side2 A5.out).mono ?_);(case side1=>repeat (first|exact (Kd.C_below HR0.out HB.out)|(with_reducible refine Kd.C_alloc ?_ _)|(with_reducible refine Kd.C_drewN ?_ _)|(with_reducible refine Kd.C_drew ?_)));(case side2=>exact HC0.out);rintro e w16 ⟨rfl,hb⟩;refine ⟨_,rfl,?_⟩;have n0_:=Aside0.mk (below_step (by repeat (first|(with_reducible first|exact HB.out|apply below_alloc|apply pw_below_drewN|apply below_drew1)|exact HB.out)) hb);clear HB;have HB:=n0_;clear n0_;(try clear hb);(try clear hb2);(try clear hk);(try clear hi)))
   go_ret
   exact ⟨by first|rfl|(simp [errW_none,errW_some] <;> rfl)|(simp [*,errW_none,errW_some] <;> rfl),by repeat (first|(with_reducible first|exact HB.out|apply below_alloc|apply pw_below_drewN|apply below_drew1)|exact HB.out)⟩
 ·rw [if_neg c4] at H
  have c4b0:(t101 == 0) = false:=beq_eq_false_iff_ne.mpr c4
  have c4b1:(t101 != 0) = true:=bne_iff_ne.mpr c4
  obtain rfl:=Option.some.inj H
  go_enter Try.func59,Try.ntmps59
  go_wp2_with (first|((with_reducible refine gate_callee (f:=32) rfl ?_);refine goesL_ (some 9) rfl rfl Try.func32 (by kernel_rfl) rfl #[.slice A1 l1.length c1] rfl (by (try simp only [List.map_toArray,List.map_cons,List.map_nil]);first|done|rfl|(simp only [List.length_drop,List.length_take];rfl)) ?_;(with_reducible refine (contangoref23_Check.calls k _ _ l1 t101 _ ?side1 ?side2 A3.out).mono ?_);(case side1=>repeat (first|exact HR1.out|(with_reducible refine Kd.C_alloc ?_ _)|(with_reducible refine Kd.C_drewN ?_ _)|(with_reducible refine Kd.C_drew ?_)));(case side2=>exact HC1.out);rintro e w17 ⟨rfl,hb⟩;refine ⟨_,rfl,?_⟩;have n0_:=Aside0.mk (below_step (by repeat (first|(with_reducible first|exact HB.out|apply below_alloc|apply pw_below_drewN|apply below_drew1)|exact HB.out)) hb);clear HB;have HB:=n0_;clear n0_;(try clear hb);(try clear hb2);(try clear hk);(try clear hi)))
  go_ret
  exact ⟨by first|rfl|(simp [errW_none,errW_some] <;> rfl)|(simp [*,errW_none,errW_some] <;> rfl),by repeat (first|(with_reducible first|exact HB.out|apply below_alloc|apply pw_below_drewN|apply below_drew1)|exact HB.out)⟩
end Go.Proofs.Ytbgeceiddcokmaa.X
end
section
namespace Go.Proofs.Ytbgeceiddcokmaa.X
open Go.RowKit Go.Proofs.YtbgeceiddcokmaaW.PrintWords Go.Proofs.YtbgeceiddcokmaaW.PrintLast Go.Proofs.YtbgeceiddcokmaaW.PrintMore
attribute [local go_sem] max2_int min2_int max_two min_two max_three min_three max_four min_four
set_option linter.unusedVariables false
set_option linter.unusedSimpArgs false
mutual
def contangoref23_Losses.l0:Nat → List (S73) → List (S91) → List Int → Int → Option (List Int × Int)
 | 0,_,_,_,_=>none
 | k + 1,x0,x1,x7,x8=>if (x1.length:Int) > 0 then (if 0 < (x1.length:Int) then (contangoref23_Losses.j1 k x0 x1 x7 x8 (decide (x8 < (((rd_T91 x1 0).f1).length:Int)))) else (none)) else (contangoref23_Losses.j1 k x0 x1 x7 x8 false)
def contangoref23_Losses.j1:Nat → List (S73) → List (S91) → List Int → Int → Bool → Option (List Int × Int)
 | 0,_,_,_,_,_=>none
 | k + 1,x0,x1,x7,x8,x31=>if x31 = true then (contangoref23_Losses.l1 k x0 x1 x7 x8 (([]:List Int)) 0) else (some (x7,0))
def contangoref23_Losses.l1:Nat → List (S73) → List (S91) → List Int → Int → List Int → Int → Option (List Int × Int)
 | 0,_,_,_,_,_,_=>none
 | k + 1,x0,x1,x7,x8,x9,x10=>if x10 < (x0.length:Int) then (if 0 ≤ x10 then ((contangoref23_find.f k x1 ((rd_T73 x0 x10).f0.f0) ((rd_T73 x0 x10).f0.f1) ((rd_T73 x0 x10).f0.f2) ((rd_T73 x0 x10).f0.f3)).bind fun t112=>(if 0 ≤ t112 then (if t112 < (x1.length:Int) then (if 0 ≤ x8 then (if x8 < (((rd_T91 x1 t112).f1).length:Int) then (if x9.length < 17592186044416 then (contangoref23_Losses.l1 k x0 x1 x7 x8 (x9 ++ [wrap64 ((wrap64 (((rd_T73 x0 x10).f1) - ((rd_T73 x0 x10).f2))) * (rd ((rd_T91 x1 t112).f1) x8))]) (wrap64 (x10 + 1))) else (none)) else (none)) else (none)) else (none)) else (none))) else (none)) else ((contangoref01_Sum.f k x9).bind fun bt118=>(if bt118.2 = 0 then (if x7.length < 17592186044416 then (contangoref23_Losses.l0 k x0 x1 (x7 ++ [bt118.1]) (wrap64 (x8 + 1))) else (none)) else (some (([]:List Int),bt118.2))))
end
def contangoref23_Losses.f (k:Nat) (l0:List (S73)) (l1:List (S91)):Option (List Int × Int):=(contangoref23_checks.f k l0 l1).bind fun t101=>(if t101 = 0 then (contangoref23_Losses.l0 k l0 l1 (([]:List Int)) 0) else (some (([]:List Int),t101)))
theorem contangoref23_Losses.mono_l:∀ k,(∀ y0 y1 y2 y3,LeO (contangoref23_Losses.l0 k y0 y1 y2 y3) (contangoref23_Losses.l0 (k + 1) y0 y1 y2 y3)) ∧ (∀ y0 y1 y2 y3 y4,LeO (contangoref23_Losses.j1 k y0 y1 y2 y3 y4) (contangoref23_Losses.j1 (k + 1) y0 y1 y2 y3 y4)) ∧ (∀ y0 y1 y2 y3 y4 y5,LeO (contangoref23_Losses.l1 k y0 y1 y2 y3 y4 y5) (contangoref23_Losses.l1 (k + 1) y0 y1 y2 y3 y4 y5))
 | 0=>⟨fun _ _ _ _ r h=>by simp [contangoref23_Losses.l0] at h,fun _ _ _ _ _ r h=>by simp [contangoref23_Losses.j1] at h,fun _ _ _ _ _ _ r h=>by simp [contangoref23_Losses.l1] at h⟩
 | k + 1=>by
  obtain ⟨ih0,ih1,ih2⟩:=contangoref23_Losses.mono_l k
  refine ⟨?_,?_,?_⟩
  ·intro y0 y1 y2 y3
   unfold contangoref23_Losses.l0
   repeat' first
   | (with_reducible exact ih0 _ _ _ _)
   | (with_reducible exact ih1 _ _ _ _ _)
   | (with_reducible exact ih2 _ _ _ _ _ _)
   | (with_reducible exact contangoref01_Sum.mono _ _)
   | (with_reducible exact contangoref23_checks.mono _ _ _)
   | (with_reducible exact contangoref23_find.mono _ _ _ _ _ _)
   | (with_reducible exact LeO.refl _)
   | (with_reducible exact LeO.none _)
   | (with_reducible refine LeO.ite ?_ ?_)
   | (with_reducible refine LeO.bind ?_ (fun _=>?_))
   | exact ih0 _ _ _ _
   | exact ih1 _ _ _ _ _
   | exact ih2 _ _ _ _ _ _
   | exact contangoref01_Sum.mono _ _
   | exact contangoref23_checks.mono _ _ _
   | exact contangoref23_find.mono _ _ _ _ _ _
   | exact LeO.none _
   | refine LeO.ite ?_ ?_
   | refine LeO.bind ?_ (fun _=>?_)
  ·intro y0 y1 y2 y3 y4
   unfold contangoref23_Losses.j1
   repeat' first
   | (with_reducible exact ih0 _ _ _ _)
   | (with_reducible exact ih1 _ _ _ _ _)
   | (with_reducible exact ih2 _ _ _ _ _ _)
   | (with_reducible exact contangoref01_Sum.mono _ _)
   | (with_reducible exact contangoref23_checks.mono _ _ _)
   | (with_reducible exact contangoref23_find.mono _ _ _ _ _ _)
   | (with_reducible exact LeO.refl _)
   | (with_reducible exact LeO.none _)
   | (with_reducible refine LeO.ite ?_ ?_)
   | (with_reducible refine LeO.bind ?_ (fun _=>?_))
   | exact ih0 _ _ _ _
   | exact ih1 _ _ _ _ _
   | exact ih2 _ _ _ _ _ _
   | exact contangoref01_Sum.mono _ _
   | exact contangoref23_checks.mono _ _ _
   | exact contangoref23_find.mono _ _ _ _ _ _
   | exact LeO.none _
   | refine LeO.ite ?_ ?_
   | refine LeO.bind ?_ (fun _=>?_)
  ·intro y0 y1 y2 y3 y4 y5
   unfold contangoref23_Losses.l1
   repeat' first
   | (with_reducible exact ih0 _ _ _ _)
   | (with_reducible exact ih1 _ _ _ _ _)
   | (with_reducible exact ih2 _ _ _ _ _ _)
   | (with_reducible exact contangoref01_Sum.mono _ _)
   | (with_reducible exact contangoref23_checks.mono _ _ _)
   | (with_reducible exact contangoref23_find.mono _ _ _ _ _ _)
   | (with_reducible exact LeO.refl _)
   | (with_reducible exact LeO.none _)
   | (with_reducible refine LeO.ite ?_ ?_)
   | (with_reducible refine LeO.bind ?_ (fun _=>?_))
   | exact ih0 _ _ _ _
   | exact ih1 _ _ _ _ _
   | exact ih2 _ _ _ _ _ _
   | exact contangoref01_Sum.mono _ _
   | exact contangoref23_checks.mono _ _ _
   | exact contangoref23_find.mono _ _ _ _ _ _
   | exact LeO.none _
   | refine LeO.ite ?_ ?_
   | refine LeO.bind ?_ (fun _=>?_)
theorem contangoref23_Losses.mono:∀ a0 a1 k,LeO (contangoref23_Losses.f k a0 a1) (contangoref23_Losses.f (k + 1) a0 a1):=by
 intro a0 a1 k
 obtain ⟨ih0,ih1,ih2⟩:=contangoref23_Losses.mono_l k
 unfold contangoref23_Losses.f
 repeat' first
   | (with_reducible exact ih0 _ _ _ _)
   | (with_reducible exact ih1 _ _ _ _ _)
   | (with_reducible exact ih2 _ _ _ _ _ _)
   | (with_reducible exact contangoref01_Sum.mono _ _)
   | (with_reducible exact contangoref23_checks.mono _ _ _)
   | (with_reducible exact contangoref23_find.mono _ _ _ _ _ _)
   | (with_reducible exact LeO.refl _)
   | (with_reducible exact LeO.none _)
   | (with_reducible refine LeO.ite ?_ ?_)
   | (with_reducible refine LeO.bind ?_ (fun _=>?_))
   | exact ih0 _ _ _ _
   | exact ih1 _ _ _ _ _
   | exact ih2 _ _ _ _ _ _
   | exact contangoref01_Sum.mono _ _
   | exact contangoref23_checks.mono _ _ _
   | exact contangoref23_find.mono _ _ _ _ _ _
   | exact LeO.none _
   | refine LeO.ite ?_ ?_
   | refine LeO.bind ?_ (fun _=>?_)
def contangoref23_Losses.T12:Bool × List (List Nat × List Nat):=(true,[([],[]),([],[]),([],[]),([1,2],[1,2]),([3],[3]),([4],[4]),([],[]),([],[]),([6,7],[6,7]),([8],[8]),([9],[9]),([5,10],[5,10]),([],[]),([],[]),([],[]),([],[]),([14,15],[14,15]),([16],[16]),([17],[17]),([13,18],[13,18]),([12,19],[12,19]),([20],[20]),([21],[21]),([],[]),([22,23],[22,23]),([24],[24]),([11,25],[11,25]),([26],[26]),([0,27,19],[0,27]),([28,28,0,1,2,3,4,5,6,7,8,9,10,11,12,13,14,15,16,17,18,19,20,21,22,23,24,25,26,27,28],[0,28])])
def contangoref23_Losses.B12:List Nat:=[0,0,0,6,14,30,0,0,192,448,960,2046,0,0,0,0,49152,114688,245760,516096,1044480,2093056,4190208,0,16773120,33550336,67108862,134217726,268435455,536870911]
theorem contangoref23_Losses.tab12:rtab .any (opsOf Try.f28 12) = contangoref23_Losses.T12:=by kernel_rfl
theorem contangoref23_Losses.bits12:waitsOk contangoref23_Losses.T12.2 contangoref23_Losses.B12 = true:=by kernel_rfl
set_option maxHeartbeats 8000000 in
set_option maxRecDepth 100000 in
theorem contangoref23_Losses.calls (k:Nat) (A0:Option Addr) (c0:Nat) (l0:List (S73)) (A1:Option Addr) (c1:Nat) (l1:List (S91)) (r1:List Int) (r2:Int) (w:World) (hr0:Kd.C k73 w A0 l0.length l0) (hc0:l0.length ≤ c0) (hr1:Kd.C k91 w A1 l1.length l1) (hc1:l1.length ≤ c1) (h:contangoref23_Losses.f k l0 l1 = some (r1,r2)) :
  Calls Try.prog 28 #[.slice A0 l0.length c0,.slice A1 l1.length c1] w fun e w'=>∃ v0_:Value,e = .returned (.tuple #[v0_,.int .i64 r2]) ∧ Kd.R (Kd.int .i64) 3 w' w.heap.size (fun _=>True) v0_ r1 ∧ Below w.heap.size w w':=by
 have hu39:=Try.underlying39
 have HR0:=Aside0.mk hr0
 have HC0:=Aside0.mk hc0
 clear hr0 hc0
 have HR1:=Aside0.mk hr1
 have HC1:=Aside0.mk hc1
 clear hr1 hc1
 have HB:=Aside0.mk (Below.refl w.heap.size w)
 have H:((contangoref23_checks.f k l0 l1).bind fun t101=>(if t101 = 0 then (contangoref23_Losses.l0 k l0 l1 (([]:List Int)) 0) else (some (([]:List Int),t101)))) = some (r1,r2):=h
 clear h
 replace H:=Option.bind_eq_some_iff.mp H
 obtain ⟨t101,A30,H⟩:=H
 replace H:(if t101 = 0 then (contangoref23_Losses.l0 k l0 l1 (([]:List Int)) 0) else (some (([]:List Int),t101))) = some (r1,r2):=H
 have A3:=Aside0.mk A30
 clear A30
 by_cases c4:t101 = 0
 ·rw [if_pos c4] at H
  have c4b0:(t101 == 0) = true:=beq_iff_eq.mpr c4
  have c4b1:(t101 != 0) = false:=bne_eq_false_iff_eq.mpr c4
  clear c4
  obtain ⟨y102,hy102⟩:∃ y_:List Int,y_ = (([]:List Int)):=⟨_,rfl⟩
  replace H:(contangoref23_Losses.l0 k l0 l1 y102 0) = some (r1,r2):=by first|(rw [hy102];with_reducible exact H)|(have H2_:=(Option.bind_some _ _).symm.trans H;rw [hy102];with_reducible exact H2_)|(have H2_:=(Option.bind_some _ _).symm.trans H;with_reducible exact H2_)|with_reducible exact H|(rw [hy102];exact H)|exact H
  have Ny102:=Aside0.mk hy102
  clear hy102
  have H':=Aside0.mk H
  clear H
  go_enter Try.func28,Try.ntmps28
  go_wp2_with (first|((with_reducible refine gate_callee (f:=59) rfl ?_);refine goesL_ (some 15) rfl rfl Try.func59 (by kernel_rfl) rfl #[.slice A0 l0.length c0,.slice A1 l1.length c1] rfl (by (try simp only [List.map_toArray,List.map_cons,List.map_nil]);first|done|rfl|(simp only [List.length_drop,List.length_take];rfl)) ?_;(with_reducible refine (contangoref23_checks.calls k _ _ l0 _ _ l1 t101 _ ?side1 ?side2 ?side3 ?side4 A3.out).mono ?_);(case side1=>repeat (first|exact HR0.out|(with_reducible refine Kd.C_alloc ?_ _)|(with_reducible refine Kd.C_drewN ?_ _)|(with_reducible refine Kd.C_drew ?_)));(case side2=>exact HC0.out);(case side3=>repeat (first|exact HR1.out|(with_reducible refine Kd.C_alloc ?_ _)|(with_reducible refine Kd.C_drewN ?_ _)|(with_reducible refine Kd.C_drew ?_)));(case side4=>exact HC1.out);rintro e w5 ⟨rfl,hb⟩;refine ⟨_,rfl,?_⟩;have n0_:=Aside0.mk (below_step (by repeat (first|(with_reducible first|exact HB.out|apply below_alloc|apply pw_below_drewN|apply below_drew1)|exact HB.out)) hb);clear HB;have HB:=n0_;clear n0_;(try clear hb);(try clear hb2);(try clear hk);(try clear hi))|((with_reducible refine gate_dst (N:=19) rfl ?_);(try (refine gate_guard (by rfl) ?_;dsimp only));refine Kd.R_lit (Kd.int .i64) _ 3 ?hg (N:=19) ?hd (xs:=([]:List Int)) (inner:=[]) (ok:=fun _=>True) (okp:=fun _=>True) ?hr ?hp (fun _ hk=>hk) trivial (Below.refl _ _) (Nat.le_refl _) (by simp) ?_;(case hd=>rfl);(case hg=>rfl);(case hr=>first|(go_simp;done)|(go_simp;rfl));(case hp=>exact (Reps.none _ _));intro v103 w6 ho7 hb hg_ hnew_;clear hg_ hnew_;(first|rw [← Ny102.out] at ho7|(simp only [Int.reduceToNat] at ho7;rw [← Ny102.out] at ho7));have n0_:=Aside0.mk (Kd.R_lower ho7 (below_size (by repeat (first|(with_reducible first|exact HB.out|apply below_alloc|apply pw_below_drewN|apply below_drew1)|exact HB.out))));have n1_:=Aside0.mk (below_step (by repeat (first|(with_reducible first|exact HB.out|apply below_alloc|apply pw_below_drewN|apply below_drew1)|exact HB.out)) hb);clear HB;have HO104:=n0_;have HB:=n1_;clear n0_ n1_;clear hb ho7))
  go_loopg [7,8] k (fun kq v7 v8 w'=>∃ (x7_1:List Int) (x8_1:Int),v8 = .int .i64 x8_1 ∧ Aside0 (contangoref23_Losses.l0 kq l0 l1 x7_1 x8_1 = some (r1,r2)) ∧ Aside0 (kq ≤ k) ∧ Aside0 (Kd.R (Kd.int .i64) 3 w' w.heap.size (fun _=>True) v7 x7_1) ∧ Aside0 (Below w.heap.size w w'))
  case atStart=>exact ⟨(y102),(0),(by first|rfl|(simp;done)|(simp [*];done)),H',⟨Nat.le_refl _⟩,⟨by (with_reducible repeat (first|apply Kd.R_alloc|apply Kd.R_drewN|apply Kd.R_drew));exact HO104.out⟩,⟨by repeat (first|(with_reducible first|exact HB.out|apply below_alloc|apply pw_below_drewN|apply below_drew1)|exact HB.out)⟩⟩
  case round =>
   clear H'
   try clear c1
   try clear c2
   try clear p2
   try clear c4
   try clear c4b0
   try clear c4b1
   try clear c5
   obtain ⟨x7_1,x8_1,rfl,HA,HK1,HO_7,HB⟩:=hrel
   cases gk with
   | zero=>exact absurd HA.out (by simp [contangoref23_Losses.l0])
   | succ k1 =>
    have H:=HA.out
    clear HA
    simp only [contangoref23_Losses.l0] at H
    have HC8:=Aside0.mk H
    clear H
    go_upto_region 6 with (fail)
    go_cut [31] (fun v31 wc=>∃ (kq:Nat) (x31_7:Bool),v31 = .bool x31_7 ∧ Aside0 (contangoref23_Losses.j1 kq l0 l1 x7_1 x8_1 x31_7 = some (r1,r2)) ∧ Aside0 (kq ≤ k1) ∧ Aside0 (Kd.R (Kd.int .i64) 3 wc w.heap.size (fun _=>True) u7 x7_1) ∧ Aside0 (Below w.heap.size w wc))
    case first =>
     have H:=HC8.out
     clear HC8
     by_cases c9:(l1.length:Int) > 0
     ·rw [if_pos c9] at H
      have c9b0:decide (0 < (l1.length:Int)) = true:=decide_eq_true c9
      have c9b1:decide (0 < l1.length) = true:=decide_eq_true (by omega)
      clear c9
      (first|rw [c9b0]|(simp only [i64_w,i32_w];rw [c9b0])|skip)
      by_cases c10:0 < (l1.length:Int)
      ·rw [if_pos c10] at H
       have c10b0:decide (0 < (l1.length:Int)) = true:=decide_eq_true c10
       have c10b1:decide (0 < l1.length) = true:=decide_eq_true (by omega)
       clear c10
       have H':=Aside0.mk H
       clear H
       have p105:0 ≤ (0:Int):=(by omega)
       have q105:0 < (l1.length:Int):=of_decide_eq_true (by first|(with_reducible assumption)|assumption)
       obtain ⟨ad105,A105_4,c105_4,e105,hx105_0,hx105_1,hx105_2,hx105_3,hx105_4,hx105_5,hl105_4,hi105_4⟩:=at_T91 HR1.out 0 p105 q105
       cases e105
       have qi105:(0 < l1.length) = True:=eq_true (by omega)
       (try rw [show ((0:Int)).toNat = 0 from rfl] at hx105_0)
       (try rw [show 0 * 6 = 0 from rfl] at hx105_0)
       (try rw [Addr.add_zero'] at hx105_0)
       (try rw [show ((0:Int)).toNat = 0 from rfl] at hx105_1)
       (try rw [show 0 * 6 = 0 from rfl] at hx105_1)
       (try rw [Addr.add_zero'] at hx105_1)
       (try rw [show ((0:Int)).toNat = 0 from rfl] at hx105_2)
       (try rw [show 0 * 6 = 0 from rfl] at hx105_2)
       (try rw [Addr.add_zero'] at hx105_2)
       (try rw [show ((0:Int)).toNat = 0 from rfl] at hx105_3)
       (try rw [show 0 * 6 = 0 from rfl] at hx105_3)
       (try rw [Addr.add_zero'] at hx105_3)
       (try rw [show ((0:Int)).toNat = 0 from rfl] at hx105_4)
       (try rw [show 0 * 6 = 0 from rfl] at hx105_4)
       (try rw [Addr.add_zero'] at hx105_4)
       (try rw [show ((0:Int)).toNat = 0 from rfl] at hx105_5)
       (try rw [show 0 * 6 = 0 from rfl] at hx105_5)
       (try rw [Addr.add_zero'] at hx105_5)
       replace hx105_0:=(HB.out.cell (World.block_lt_of_cell? w _ hx105_0)).trans hx105_0
       replace hx105_1:=(HB.out.cell (World.block_lt_of_cell? w _ hx105_1)).trans hx105_1
       replace hx105_2:=(HB.out.cell (World.block_lt_of_cell? w _ hx105_2)).trans hx105_2
       replace hx105_3:=(HB.out.cell (World.block_lt_of_cell? w _ hx105_3)).trans hx105_3
       replace hx105_4:=(HB.out.cell (World.block_lt_of_cell? w _ hx105_4)).trans hx105_4
       replace hx105_5:=(HB.out.cell (World.block_lt_of_cell? w _ hx105_5)).trans hx105_5
       have HR105_4:=Aside0.mk hi105_4
       have HC105_4:=Aside0.mk hl105_4
       clear hi105_4 hl105_4
       replace p105:=eq_true p105
       replace q105:=eq_true q105
       go_wp2
       go_meet
       case rel=>exact ⟨_,(decide (x8_1 < (((rd_T91 l1 0).f1).length:Int))),(by first|rfl|(simp;done)|(simp [*];done)),H',⟨by have:=HK1.out;first|omega|exact Nat.le_refl _⟩,⟨by (with_reducible repeat (first|apply Kd.R_alloc|apply Kd.R_drewN|apply Kd.R_drew));exact HO_7.out⟩,⟨by repeat (first|(with_reducible first|exact HB.out|apply below_alloc|apply pw_below_drewN|apply below_drew1)|exact HB.out)⟩⟩
      ·rw [if_neg c10] at H
       exact absurd H (by simp)
     ·rw [if_neg c9] at H
      have c9b0:decide (0 < (l1.length:Int)) = false:=decide_eq_false c9
      have c9b1:decide (0 < l1.length) = false:=decide_eq_false (by omega)
      clear c9
      (first|rw [c9b0]|(simp only [i64_w,i32_w];rw [c9b0])|skip)
      have H':=Aside0.mk H
      clear H
      go_wp2
      go_meet
      case rel=>exact ⟨_,(false),(by first|rfl|(simp;done)|(simp [*];done)),H',⟨by have:=HK1.out;first|omega|exact Nat.le_refl _⟩,⟨by (with_reducible repeat (first|apply Kd.R_alloc|apply Kd.R_drewN|apply Kd.R_drew));exact HO_7.out⟩,⟨by repeat (first|(with_reducible first|exact HB.out|apply below_alloc|apply pw_below_drewN|apply below_drew1)|exact HB.out)⟩⟩
    case rest =>
     clear HC8
     try clear c1
     try clear p1
     try clear q1
     try clear hx1
     try clear qi1
     try clear c2
     try clear p2
     try clear c4
     try clear c4b0
     try clear c4b1
     try clear c5
     try clear c9
     try clear c9b0
     try clear c9b1
     try clear c10
     try clear c10b0
     try clear c10b1
     try clear p10
     try clear q10
     try clear hx10
     try clear qi10
     try clear hx105_0
     try clear hx105_1
     try clear hx105_2
     try clear hx105_3
     try clear hx105_4
     try clear hx105_5
     try clear p105
     try clear p2
     try clear q105
     obtain ⟨kq,x31_7,rfl,HA,HJ7,HO_7,HB⟩:=hcut
     cases kq with
     | zero=>exact absurd HA.out (by simp [contangoref23_Losses.j1])
     | succ kj7 =>
      have H:=HA.out
      clear HA
      simp only [contangoref23_Losses.j1] at H
      by_cases c11:x31_7 = true
      ·subst c11
       have H1:(contangoref23_Losses.l1 kj7 l0 l1 x7_1 x8_1 (([]:List Int)) 0) = some (r1,r2):=by rw [if_pos rfl] at H;exact H
       clear H
       have H:=H1
       clear H1
       obtain ⟨y106,hy106⟩:∃ y_:List Int,y_ = (([]:List Int)):=⟨_,rfl⟩
       replace H:(contangoref23_Losses.l1 kj7 l0 l1 x7_1 x8_1 y106 0) = some (r1,r2):=by first|(rw [hy106];with_reducible exact H)|(have H2_:=(Option.bind_some _ _).symm.trans H;rw [hy106];with_reducible exact H2_)|(have H2_:=(Option.bind_some _ _).symm.trans H;with_reducible exact H2_)|with_reducible exact H|(rw [hy106];exact H)|exact H
       have Ny106:=Aside0.mk hy106
       clear hy106
       have H':=Aside0.mk H
       clear H
       go_wp2_with (first|((with_reducible refine gate_dst (N:=34) rfl ?_);(try (refine gate_guard (by rfl) ?_;dsimp only));refine Kd.R_lit (Kd.int .i64) _ 3 ?hg (N:=34) ?hd (xs:=([]:List Int)) (inner:=[]) (ok:=fun _=>True) (okp:=fun _=>True) ?hr ?hp (fun _ hk=>hk) trivial (Below.refl _ _) (Nat.le_refl _) (by simp) ?_;(case hd=>rfl);(case hg=>rfl);(case hr=>first|(go_simp;done)|(go_simp;rfl));(case hp=>exact (Reps.none _ _));intro v107 w12 ho13 hb hg_ hnew_;clear hg_ hnew_;(first|rw [← Ny106.out] at ho13|(simp only [Int.reduceToNat] at ho13;rw [← Ny106.out] at ho13));have n0_:=Aside0.mk (Kd.R_elder' (by (with_reducible repeat (first|apply Kd.R_alloc|apply Kd.R_drewN|apply Kd.R_drew));exact HO_7.out) (Kd.R_base ho13) hb);have n1_:=Aside0.mk (Kd.R_lower (Kd.R_new' ho13 (Kd.R_lt (by (with_reducible repeat (first|apply Kd.R_alloc|apply Kd.R_drewN|apply Kd.R_drew));exact HO_7.out))) (below_size (by repeat (first|(with_reducible first|exact HB.out|apply below_alloc|apply pw_below_drewN|apply below_drew1)|exact HB.out))));have n2_:=Aside0.mk (below_step (by repeat (first|(with_reducible first|exact HB.out|apply below_alloc|apply pw_below_drewN|apply below_drew1)|exact HB.out)) hb);clear HO_7;clear HB;have HO_7:=n0_;have HO108:=n1_;have HB:=n2_;clear n0_ n1_ n2_;clear hb ho13))
       go_loopg [9,10] kj7 (fun kq v9 v10 w'=>∃ (x9_3:List Int) (x10_3:Int),v10 = .int .i64 x10_3 ∧ Aside0 (contangoref23_Losses.l1 kq l0 l1 x7_1 x8_1 x9_3 x10_3 = some (r1,r2)) ∧ Aside0 (kq ≤ kj7) ∧ Aside0 (Kd.R (Kd.int .i64) 3 w' w.heap.size (fun k_=>some k_ ≠ (v9:Value).ownBlock) u7 x7_1) ∧ Aside0 (Kd.R (Kd.int .i64) 3 w' w.heap.size (fun k_=>some k_ ≠ (u7:Value).ownBlock) v9 x9_3) ∧ Aside0 (Below w.heap.size w w'))
       case atStart=>exact ⟨(y106),(0),(by first|rfl|(simp;done)|(simp [*];done)),H',⟨Nat.le_refl _⟩,⟨by (with_reducible repeat (first|apply Kd.R_alloc|apply Kd.R_drewN|apply Kd.R_drew));exact Kd.R_mono HO_7.out (fun _ hk=>hk.2)⟩,⟨by (with_reducible repeat (first|apply Kd.R_alloc|apply Kd.R_drewN|apply Kd.R_drew));exact Kd.R_mono HO108.out (fun _ hk=>hk.2)⟩,⟨by repeat (first|(with_reducible first|exact HB.out|apply below_alloc|apply pw_below_drewN|apply below_drew1)|exact HB.out)⟩⟩
       case round =>
        clear H'
        try clear c1
        try clear p1
        try clear q1
        try clear hx1
        try clear qi1
        try clear c2
        try clear p2
        try clear c4
        try clear c4b0
        try clear c4b1
        try clear c5
        try clear c9
        try clear c9b0
        try clear c9b1
        try clear c10
        try clear c10b0
        try clear c10b1
        try clear p10
        try clear q10
        try clear hx10
        try clear qi10
        try clear c11
        try clear hx105_0
        try clear hx105_1
        try clear hx105_2
        try clear hx105_3
        try clear hx105_4
        try clear hx105_5
        try clear p1
        try clear p10
        try clear p105
        try clear p2
        try clear q1
        try clear q10
        try clear q105
        obtain ⟨x9_3,x10_3,rfl,HA,HK3,HO_7,HO_9,HB⟩:=hrel
        cases gk with
        | zero=>exact absurd HA.out (by simp [contangoref23_Losses.l1])
        | succ k3 =>
         have H:=HA.out
         clear HA
         simp only [contangoref23_Losses.l1] at H
         by_cases c14:x10_3 < (l0.length:Int)
         ·rw [if_pos c14] at H
          have c14b0:decide (x10_3 < (l0.length:Int)) = true:=decide_eq_true c14
          clear c14
          by_cases c15:0 ≤ x10_3
          ·rw [if_pos c15] at H
           have c15b0:decide (0 ≤ x10_3) = true:=decide_eq_true c15
           clear c15
           replace H:=Option.bind_eq_some_iff.mp H
           obtain ⟨t112,A160,H⟩:=H
           replace H:(if 0 ≤ t112 then (if t112 < (l1.length:Int) then (if 0 ≤ x8_1 then (if x8_1 < (((rd_T91 l1 t112).f1).length:Int) then (if x9_3.length < 17592186044416 then (contangoref23_Losses.l1 k3 l0 l1 x7_1 x8_1 (x9_3 ++ [wrap64 ((wrap64 (((rd_T73 l0 x10_3).f1) - ((rd_T73 l0 x10_3).f2))) * (rd ((rd_T91 l1 t112).f1) x8_1))]) (wrap64 (x10_3 + 1))) else (none)) else (none)) else (none)) else (none)) else (none)) = some (r1,r2):=H
           have A16:=Aside0.mk A160
           clear A160
           by_cases c17:0 ≤ t112
           ·rw [if_pos c17] at H
            have c17b0:decide (0 ≤ t112) = true:=decide_eq_true c17
            clear c17
            by_cases c18:t112 < (l1.length:Int)
            ·rw [if_pos c18] at H
             have c18b0:decide (t112 < (l1.length:Int)) = true:=decide_eq_true c18
             clear c18
             by_cases c19:0 ≤ x8_1
             ·rw [if_pos c19] at H
              have c19b0:decide (0 ≤ x8_1) = true:=decide_eq_true c19
              clear c19
              by_cases c20:x8_1 < (((rd_T91 l1 t112).f1).length:Int)
              ·rw [if_pos c20] at H
               have c20b0:decide (x8_1 < (((rd_T91 l1 t112).f1).length:Int)) = true:=decide_eq_true c20
               clear c20
               by_cases c21:x9_3.length < 17592186044416
               ·rw [if_pos c21] at H
                have LMc21:=Aside0.mk c21
                clear c21
                obtain ⟨y115,hy115⟩:∃ y_:List Int,y_ = (x9_3 ++ [wrap64 ((wrap64 (((rd_T73 l0 x10_3).f1) - ((rd_T73 l0 x10_3).f2))) * (rd ((rd_T91 l1 t112).f1) x8_1))]):=⟨_,rfl⟩
                replace H:(contangoref23_Losses.l1 k3 l0 l1 x7_1 x8_1 y115 (wrap64 (x10_3 + 1))) = some (r1,r2):=by first|(rw [hy115];with_reducible exact H)|(have H2_:=(Option.bind_some _ _).symm.trans H;rw [hy115];with_reducible exact H2_)|(have H2_:=(Option.bind_some _ _).symm.trans H;with_reducible exact H2_)|with_reducible exact H|(rw [hy115];exact H)|exact H
                have Ny115:=Aside0.mk hy115
                clear hy115
                have H':=Aside0.mk H
                clear H
                try go_wp2
                have n0_:=Aside0.mk (Kd.R_drew HO_7.out)
                have n1_:=Aside0.mk (Kd.R_drew HO_9.out)
                have n2_:=Aside0.mk (below_drew1 HB.out)
                clear HO_7
                clear HO_9
                clear HB
                have HO_7:=n0_
                have HO_9:=n1_
                have HB:=n2_
                clear n0_ n1_ n2_
                have p109:0 ≤ (x10_3:Int):=of_decide_eq_true (by first|(with_reducible assumption)|assumption)
                have q109:x10_3 < (l0.length:Int):=of_decide_eq_true (by first|(with_reducible assumption)|assumption)
                obtain ⟨ad109,e109,hx109_0,hx109_1,hx109_2,hx109_3,hx109_4,hx109_5⟩:=at_T73 HR0.out x10_3 p109 q109
                have hw109_5:=hx109_5
                have hw109_4:=hx109_4
                have hw109_3:=hx109_3
                have hw109_2:=hx109_2
                have hw109_1:=hx109_1
                have hw109_0:=hx109_0
                cases e109
                replace hx109_0:=(HB.out.cell (World.block_lt_of_cell? w _ hx109_0)).trans hx109_0
                replace hx109_1:=(HB.out.cell (World.block_lt_of_cell? w _ hx109_1)).trans hx109_1
                replace hx109_2:=(HB.out.cell (World.block_lt_of_cell? w _ hx109_2)).trans hx109_2
                replace hx109_3:=(HB.out.cell (World.block_lt_of_cell? w _ hx109_3)).trans hx109_3
                replace hx109_4:=(HB.out.cell (World.block_lt_of_cell? w _ hx109_4)).trans hx109_4
                replace hx109_5:=(HB.out.cell (World.block_lt_of_cell? w _ hx109_5)).trans hx109_5
                replace p109:=eq_true p109
                replace q109:=eq_true q109
                have p110:0 ≤ (x10_3:Int):=of_decide_eq_true (by first|(with_reducible assumption)|assumption)
                have q110:x10_3 < (l0.length:Int):=of_decide_eq_true (by first|(with_reducible assumption)|assumption)
                obtain ⟨ad110,e110,hx110_0,hx110_1,hx110_2,hx110_3,hx110_4,hx110_5⟩:=at_T73 HR0.out x10_3 p110 q110
                have hw110_5:=hx110_5
                have hw110_4:=hx110_4
                have hw110_3:=hx110_3
                have hw110_2:=hx110_2
                have hw110_1:=hx110_1
                have hw110_0:=hx110_0
                obtain rfl:ad109 = ad110:=(by injection e110)
                replace hx110_0:=(HB.out.cell (World.block_lt_of_cell? w _ hx110_0)).trans hx110_0
                replace hx110_1:=(HB.out.cell (World.block_lt_of_cell? w _ hx110_1)).trans hx110_1
                replace hx110_2:=(HB.out.cell (World.block_lt_of_cell? w _ hx110_2)).trans hx110_2
                replace hx110_3:=(HB.out.cell (World.block_lt_of_cell? w _ hx110_3)).trans hx110_3
                replace hx110_4:=(HB.out.cell (World.block_lt_of_cell? w _ hx110_4)).trans hx110_4
                replace hx110_5:=(HB.out.cell (World.block_lt_of_cell? w _ hx110_5)).trans hx110_5
                replace p110:=eq_true p110
                replace q110:=eq_true q110
                have p111:0 ≤ (x10_3:Int):=of_decide_eq_true (by first|(with_reducible assumption)|assumption)
                have q111:x10_3 < (l0.length:Int):=of_decide_eq_true (by first|(with_reducible assumption)|assumption)
                obtain ⟨ad111,e111,hx111_0,hx111_1,hx111_2,hx111_3,hx111_4,hx111_5⟩:=at_T73 HR0.out x10_3 p111 q111
                have hw111_5:=hx111_5
                have hw111_4:=hx111_4
                have hw111_3:=hx111_3
                have hw111_2:=hx111_2
                have hw111_1:=hx111_1
                have hw111_0:=hx111_0
                obtain rfl:ad109 = ad111:=(by injection e111)
                replace hx111_0:=(HB.out.cell (World.block_lt_of_cell? w _ hx111_0)).trans hx111_0
                replace hx111_1:=(HB.out.cell (World.block_lt_of_cell? w _ hx111_1)).trans hx111_1
                replace hx111_2:=(HB.out.cell (World.block_lt_of_cell? w _ hx111_2)).trans hx111_2
                replace hx111_3:=(HB.out.cell (World.block_lt_of_cell? w _ hx111_3)).trans hx111_3
                replace hx111_4:=(HB.out.cell (World.block_lt_of_cell? w _ hx111_4)).trans hx111_4
                replace hx111_5:=(HB.out.cell (World.block_lt_of_cell? w _ hx111_5)).trans hx111_5
                replace p111:=eq_true p111
                replace q111:=eq_true q111
                have p113:0 ≤ (t112:Int):=of_decide_eq_true (by first|(with_reducible assumption)|assumption)
                have q113:t112 < (l1.length:Int):=of_decide_eq_true (by first|(with_reducible assumption)|assumption)
                obtain ⟨ad113,A113_4,c113_4,e113,hx113_0,hx113_1,hx113_2,hx113_3,hx113_4,hx113_5,hl113_4,hi113_4⟩:=at_T91 HR1.out t112 p113 q113
                have hw113_5:=hx113_5
                have hw113_4:=hx113_4
                have hw113_3:=hx113_3
                have hw113_2:=hx113_2
                have hw113_1:=hx113_1
                have hw113_0:=hx113_0
                cases e113
                replace hx113_0:=(HB.out.cell (World.block_lt_of_cell? w _ hx113_0)).trans hx113_0
                replace hx113_1:=(HB.out.cell (World.block_lt_of_cell? w _ hx113_1)).trans hx113_1
                replace hx113_2:=(HB.out.cell (World.block_lt_of_cell? w _ hx113_2)).trans hx113_2
                replace hx113_3:=(HB.out.cell (World.block_lt_of_cell? w _ hx113_3)).trans hx113_3
                replace hx113_4:=(HB.out.cell (World.block_lt_of_cell? w _ hx113_4)).trans hx113_4
                replace hx113_5:=(HB.out.cell (World.block_lt_of_cell? w _ hx113_5)).trans hx113_5
                have HR113_4:=Aside0.mk hi113_4
                have HC113_4:=Aside0.mk hl113_4
                clear hi113_4 hl113_4
                replace p113:=eq_true p113
                replace q113:=eq_true q113
                have p114:0 ≤ (x8_1:Int):=of_decide_eq_true (by first|(with_reducible assumption)|assumption)
                have q114:x8_1 < (((rd_T91 l1 t112).f1).length:Int):=of_decide_eq_true (by first|(with_reducible assumption)|assumption)
                obtain ⟨ad114,e114,hx114_0⟩:=Kd.at_int HR113_4.out x8_1 p114 q114
                have hw114_0:=hx114_0
                cases e114
                replace hx114_0:=(HB.out.cell (World.block_lt_of_cell? w _ hx114_0)).trans hx114_0
                replace p114:=eq_true p114
                replace q114:=eq_true q114
                refine start_ (n:=30) (S:=fun w'=>w'.cell? (ad109.add ((x10_3).toNat * 6)) = some (.string ((rd_T73 l0 x10_3).f0.f0)) ∧ w'.cell? ⟨(ad109.add ((x10_3).toNat * 6)).block,(ad109.add ((x10_3).toNat * 6)).off + 1,none⟩ = some (.int .i64 ((rd_T73 l0 x10_3).f0.f1)) ∧ w'.cell? ⟨(ad109.add ((x10_3).toNat * 6)).block,(ad109.add ((x10_3).toNat * 6)).off + 2,none⟩ = some (.int .i64 ((rd_T73 l0 x10_3).f0.f2)) ∧ w'.cell? ⟨(ad109.add ((x10_3).toNat * 6)).block,(ad109.add ((x10_3).toNat * 6)).off + 3,none⟩ = some (.int .i64 ((rd_T73 l0 x10_3).f0.f3)) ∧ w'.cell? ⟨(ad109.add ((x10_3).toNat * 6)).block,(ad109.add ((x10_3).toNat * 6)).off + 4,none⟩ = some (.int .i64 ((rd_T73 l0 x10_3).f1)) ∧ w'.cell? ⟨(ad109.add ((x10_3).toNat * 6)).block,(ad109.add ((x10_3).toNat * 6)).off + 5,none⟩ = some (.int .i64 ((rd_T73 l0 x10_3).f2)) ∧ w'.cell? (ad109.add ((x10_3).toNat * 6)) = some (.string ((rd_T73 l0 x10_3).f0.f0)) ∧ w'.cell? ⟨(ad109.add ((x10_3).toNat * 6)).block,(ad109.add ((x10_3).toNat * 6)).off + 1,none⟩ = some (.int .i64 ((rd_T73 l0 x10_3).f0.f1)) ∧ w'.cell? ⟨(ad109.add ((x10_3).toNat * 6)).block,(ad109.add ((x10_3).toNat * 6)).off + 2,none⟩ = some (.int .i64 ((rd_T73 l0 x10_3).f0.f2)) ∧ w'.cell? ⟨(ad109.add ((x10_3).toNat * 6)).block,(ad109.add ((x10_3).toNat * 6)).off + 3,none⟩ = some (.int .i64 ((rd_T73 l0 x10_3).f0.f3)) ∧ w'.cell? ⟨(ad109.add ((x10_3).toNat * 6)).block,(ad109.add ((x10_3).toNat * 6)).off + 4,none⟩ = some (.int .i64 ((rd_T73 l0 x10_3).f1)) ∧ w'.cell? ⟨(ad109.add ((x10_3).toNat * 6)).block,(ad109.add ((x10_3).toNat * 6)).off + 5,none⟩ = some (.int .i64 ((rd_T73 l0 x10_3).f2)) ∧ w'.cell? (ad109.add ((x10_3).toNat * 6)) = some (.string ((rd_T73 l0 x10_3).f0.f0)) ∧ w'.cell? ⟨(ad109.add ((x10_3).toNat * 6)).block,(ad109.add ((x10_3).toNat * 6)).off + 1,none⟩ = some (.int .i64 ((rd_T73 l0 x10_3).f0.f1)) ∧ w'.cell? ⟨(ad109.add ((x10_3).toNat * 6)).block,(ad109.add ((x10_3).toNat * 6)).off + 2,none⟩ = some (.int .i64 ((rd_T73 l0 x10_3).f0.f2)) ∧ w'.cell? ⟨(ad109.add ((x10_3).toNat * 6)).block,(ad109.add ((x10_3).toNat * 6)).off + 3,none⟩ = some (.int .i64 ((rd_T73 l0 x10_3).f0.f3)) ∧ w'.cell? ⟨(ad109.add ((x10_3).toNat * 6)).block,(ad109.add ((x10_3).toNat * 6)).off + 4,none⟩ = some (.int .i64 ((rd_T73 l0 x10_3).f1)) ∧ w'.cell? ⟨(ad109.add ((x10_3).toNat * 6)).block,(ad109.add ((x10_3).toNat * 6)).off + 5,none⟩ = some (.int .i64 ((rd_T73 l0 x10_3).f2)) ∧ w'.cell? (ad113.add ((t112).toNat * 6)) = some (.string ((rd_T91 l1 t112).f0.f0)) ∧ w'.cell? ⟨(ad113.add ((t112).toNat * 6)).block,(ad113.add ((t112).toNat * 6)).off + 1,none⟩ = some (.int .i64 ((rd_T91 l1 t112).f0.f1)) ∧ w'.cell? ⟨(ad113.add ((t112).toNat * 6)).block,(ad113.add ((t112).toNat * 6)).off + 2,none⟩ = some (.int .i64 ((rd_T91 l1 t112).f0.f2)) ∧ w'.cell? ⟨(ad113.add ((t112).toNat * 6)).block,(ad113.add ((t112).toNat * 6)).off + 3,none⟩ = some (.int .i64 ((rd_T91 l1 t112).f0.f3)) ∧ w'.cell? ⟨(ad113.add ((t112).toNat * 6)).block,(ad113.add ((t112).toNat * 6)).off + 4,none⟩ = some (.slice (some ad114) ((rd_T91 l1 t112).f1).length c113_4) ∧ w'.cell? ⟨(ad113.add ((t112).toNat * 6)).block,(ad113.add ((t112).toNat * 6)).off + 5,none⟩ = some (.int .i64 ((rd_T91 l1 t112).f2)) ∧ w'.cell? (ad114.add (x8_1).toNat) = some (.int .i64 (rd ((rd_T91 l1 t112).f1) x8_1))) (ds:=[]) #[Z,Z,Z,Z,Z,Z,Z,Z,Z,Z,Z,Z,Z,Z,Z,Z,Z,Z,Z,Z,Z,Z,Z,Z,Z,Z,Z,Z,Z,Z] (by kernel_rfl) rfl rfl ⟨((HB.out.cell (World.block_lt_of_cell? w _ hw109_0)).trans hw109_0),((HB.out.cell (World.block_lt_of_cell? w _ hw109_1)).trans hw109_1),((HB.out.cell (World.block_lt_of_cell? w _ hw109_2)).trans hw109_2),((HB.out.cell (World.block_lt_of_cell? w _ hw109_3)).trans hw109_3),((HB.out.cell (World.block_lt_of_cell? w _ hw109_4)).trans hw109_4),((HB.out.cell (World.block_lt_of_cell? w _ hw109_5)).trans hw109_5),((HB.out.cell (World.block_lt_of_cell? w _ hw110_0)).trans hw110_0),((HB.out.cell (World.block_lt_of_cell? w _ hw110_1)).trans hw110_1),((HB.out.cell (World.block_lt_of_cell? w _ hw110_2)).trans hw110_2),((HB.out.cell (World.block_lt_of_cell? w _ hw110_3)).trans hw110_3),((HB.out.cell (World.block_lt_of_cell? w _ hw110_4)).trans hw110_4),((HB.out.cell (World.block_lt_of_cell? w _ hw110_5)).trans hw110_5),((HB.out.cell (World.block_lt_of_cell? w _ hw111_0)).trans hw111_0),((HB.out.cell (World.block_lt_of_cell? w _ hw111_1)).trans hw111_1),((HB.out.cell (World.block_lt_of_cell? w _ hw111_2)).trans hw111_2),((HB.out.cell (World.block_lt_of_cell? w _ hw111_3)).trans hw111_3),((HB.out.cell (World.block_lt_of_cell? w _ hw111_4)).trans hw111_4),((HB.out.cell (World.block_lt_of_cell? w _ hw111_5)).trans hw111_5),((HB.out.cell (World.block_lt_of_cell? w _ hw113_0)).trans hw113_0),((HB.out.cell (World.block_lt_of_cell? w _ hw113_1)).trans hw113_1),((HB.out.cell (World.block_lt_of_cell? w _ hw113_2)).trans hw113_2),((HB.out.cell (World.block_lt_of_cell? w _ hw113_3)).trans hw113_3),((HB.out.cell (World.block_lt_of_cell? w _ hw113_4)).trans hw113_4),((HB.out.cell (World.block_lt_of_cell? w _ hw113_5)).trans hw113_5),((HB.out.cell (World.block_lt_of_cell? w _ hw114_0)).trans hw114_0)⟩ (fun hHeld=>?_);refine with_tabW contangoref23_Losses.tab12 contangoref23_Losses.bits12 (fun HT_ HW_=>?_)
                generalize wr.drew = w22 at HO_7 HO_9 HB HR113_4 hx109_0 hx109_1 hx109_2 hx109_3 hx109_4 hx109_5 hx110_0 hx110_1 hx110_2 hx110_3 hx110_4 hx110_5 hx111_0 hx111_1 hx111_2 hx111_3 hx111_4 hx111_5 hx113_0 hx113_1 hx113_2 hx113_3 hx113_4 hx113_5 hx114_0 hHeld ⊢
                refine pure_ (i:=0) (N:=some 41) (v:=?_) (a':=?_) #[Y,Z,Z,Z,Z,Z,Z,Z,Z,Z,Z,Z,Z,Z,Z,Z,Z,Z,Z,Z,Z,Z,Z,Z,Z,Z,Z,Z,Z,Z] rfl rfl (any_of HT_.out (by kernel_rfl)) (fun _ _ _ h=>h) (Or.inl ⟨by rfl,?_⟩) ?_ ?_
                rotate_left
                ·intro w'
                 go_simp
                 with_reducible rfl
                rotate_left
                ·simp only [Act.put,List.setIfInBounds_toArray,List.set_cons_zero,List.set_cons_succ,i64_w,i32_w]
                 rfl
                refine pure_ (i:=1) (N:=some 42) (v:=?_) (a':=?_) #[Y,Y,Z,Z,Z,Z,Z,Z,Z,Z,Z,Z,Z,Z,Z,Z,Z,Z,Z,Z,Z,Z,Z,Z,Z,Z,Z,Z,Z,Z] rfl rfl (any_of HT_.out (by kernel_rfl)) (fun _ _ _ h=>h) (Or.inl ⟨by rfl,?_⟩) ?_ ?_
                rotate_left
                ·intro w'
                 go_simp
                 with_reducible rfl
                rotate_left
                ·simp only [Act.put,List.setIfInBounds_toArray,List.set_cons_zero,List.set_cons_succ,i64_w,i32_w]
                 rfl
                refine pure_ (i:=2) (N:=some 43) (v:=?_) (a':=?_) #[Y,Y,Y,Z,Z,Z,Z,Z,Z,Z,Z,Z,Z,Z,Z,Z,Z,Z,Z,Z,Z,Z,Z,Z,Z,Z,Z,Z,Z,Z] rfl rfl (any_of HT_.out (by kernel_rfl)) (fun _ _ _ h=>h) (Or.inl ⟨by rfl,?_⟩) ?_ ?_
                rotate_left
                ·intro w'
                 go_simp
                 with_reducible rfl
                rotate_left
                ·simp only [Act.put,List.setIfInBounds_toArray,List.set_cons_zero,List.set_cons_succ,i64_w,i32_w]
                 rfl
                refine pure_ (i:=3) (N:=some 44) (v:=?_) (a':=?_) #[Y,Y,Y,Y,Z,Z,Z,Z,Z,Z,Z,Z,Z,Z,Z,Z,Z,Z,Z,Z,Z,Z,Z,Z,Z,Z,Z,Z,Z,Z] rfl rfl (any_of HT_.out (by kernel_rfl)) (fun _ _ _ h=>h) (Or.inl ⟨by rfl,?_⟩) ?_ ?_
                rotate_left
                ·intro w'
                 go_simp
                 with_reducible rfl
                rotate_left
                ·simp only [Act.put,List.setIfInBounds_toArray,List.set_cons_zero,List.set_cons_succ,i64_w,i32_w]
                 rfl
                refine pure_ (i:=4) (N:=some 45) (v:=?_) (a':=?_) #[Y,Y,Y,Y,Y,Z,Z,Z,Z,Z,Z,Z,Z,Z,Z,Z,Z,Z,Z,Z,Z,Z,Z,Z,Z,Z,Z,Z,Z,Z] rfl rfl (any_of HT_.out (by kernel_rfl)) (fun _ _ _ h=>h) (Or.inl ⟨by rfl,?_⟩) ?_ ?_
                rotate_left
                ·intro w'
                 go_simp
                 with_reducible rfl
                rotate_left
                ·simp only [Act.put,List.setIfInBounds_toArray,List.set_cons_zero,List.set_cons_succ,i64_w,i32_w]
                 rfl
                refine pure_ (i:=6) (N:=some 47) (v:=?_) (a':=?_) #[Y,Y,Y,Y,Y,Z,Y,Z,Z,Z,Z,Z,Z,Z,Z,Z,Z,Z,Z,Z,Z,Z,Z,Z,Z,Z,Z,Z,Z,Z] rfl rfl (any_of HT_.out (by kernel_rfl)) (fun _ _ _ h=>h) (Or.inl ⟨by rfl,?_⟩) ?_ ?_
                rotate_left
                ·intro w'
                 go_simp
                 with_reducible rfl
                rotate_left
                ·simp only [Act.put,List.setIfInBounds_toArray,List.set_cons_zero,List.set_cons_succ,i64_w,i32_w]
                 rfl
                refine pure_ (i:=7) (N:=some 48) (v:=?_) (a':=?_) #[Y,Y,Y,Y,Y,Z,Y,Y,Z,Z,Z,Z,Z,Z,Z,Z,Z,Z,Z,Z,Z,Z,Z,Z,Z,Z,Z,Z,Z,Z] rfl rfl (any_of HT_.out (by kernel_rfl)) (fun _ _ _ h=>h) (Or.inl ⟨by rfl,?_⟩) ?_ ?_
                rotate_left
                ·intro w'
                 go_simp
                 with_reducible rfl
                rotate_left
                ·simp only [Act.put,List.setIfInBounds_toArray,List.set_cons_zero,List.set_cons_succ,i64_w,i32_w]
                 rfl
                refine pure_ (i:=8) (N:=some 49) (v:=?_) (a':=?_) #[Y,Y,Y,Y,Y,Z,Y,Y,Y,Z,Z,Z,Z,Z,Z,Z,Z,Z,Z,Z,Z,Z,Z,Z,Z,Z,Z,Z,Z,Z] rfl rfl (any_of HT_.out (by kernel_rfl)) (fun _ _ _ h=>h) (Or.inl ⟨by rfl,?_⟩) ?_ ?_
                rotate_left
                ·intro w'
                 go_simp
                 with_reducible rfl
                rotate_left
                ·simp only [Act.put,List.setIfInBounds_toArray,List.set_cons_zero,List.set_cons_succ,i64_w,i32_w]
                 rfl
                refine pure_ (i:=9) (N:=some 50) (v:=?_) (a':=?_) #[Y,Y,Y,Y,Y,Z,Y,Y,Y,Y,Z,Z,Z,Z,Z,Z,Z,Z,Z,Z,Z,Z,Z,Z,Z,Z,Z,Z,Z,Z] rfl rfl (any_of HT_.out (by kernel_rfl)) (fun _ _ _ h=>h) (Or.inl ⟨by rfl,?_⟩) ?_ ?_
                rotate_left
                ·intro w'
                 go_simp
                 with_reducible rfl
                rotate_left
                ·simp only [Act.put,List.setIfInBounds_toArray,List.set_cons_zero,List.set_cons_succ,i64_w,i32_w]
                 rfl
                refine pure_ (i:=12) (N:=some 53) (v:=?_) (a':=?_) #[Y,Y,Y,Y,Y,Z,Y,Y,Y,Y,Z,Z,Y,Z,Z,Z,Z,Z,Z,Z,Z,Z,Z,Z,Z,Z,Z,Z,Z,Z] rfl rfl (any_of HT_.out (by kernel_rfl)) (fun _ _ _ h=>h) (Or.inl ⟨by rfl,?_⟩) ?_ ?_
                rotate_left
                ·intro w'
                 go_simp
                 with_reducible rfl
                rotate_left
                ·simp only [Act.put,List.setIfInBounds_toArray,List.set_cons_zero,List.set_cons_succ,i64_w,i32_w]
                 rfl
                refine pure_ (i:=13) (N:=some 54) (v:=?_) (a':=?_) #[Y,Y,Y,Y,Y,Z,Y,Y,Y,Y,Z,Z,Y,Y,Z,Z,Z,Z,Z,Z,Z,Z,Z,Z,Z,Z,Z,Z,Z,Z] rfl rfl (any_of HT_.out (by kernel_rfl)) (fun _ _ _ h=>h) (Or.inl ⟨by rfl,?_⟩) ?_ ?_
                rotate_left
                ·intro w'
                 go_simp
                 with_reducible rfl
                rotate_left
                ·simp only [Act.put,List.setIfInBounds_toArray,List.set_cons_zero,List.set_cons_succ,i64_w,i32_w]
                 rfl
                refine pure_ (i:=14) (N:=some 55) (v:=?_) (a':=?_) #[Y,Y,Y,Y,Y,Z,Y,Y,Y,Y,Z,Z,Y,Y,Y,Z,Z,Z,Z,Z,Z,Z,Z,Z,Z,Z,Z,Z,Z,Z] rfl rfl (any_of HT_.out (by kernel_rfl)) (fun _ _ _ h=>h) (Or.inl ⟨by rfl,?_⟩) ?_ ?_
                rotate_left
                ·intro w'
                 go_simp
                 with_reducible rfl
                rotate_left
                ·simp only [Act.put,List.setIfInBounds_toArray,List.set_cons_zero,List.set_cons_succ,i64_w,i32_w]
                 rfl
                refine pure_ (i:=15) (N:=some 56) (v:=?_) (a':=?_) #[Y,Y,Y,Y,Y,Z,Y,Y,Y,Y,Z,Z,Y,Y,Y,Y,Z,Z,Z,Z,Z,Z,Z,Z,Z,Z,Z,Z,Z,Z] rfl rfl (any_of HT_.out (by kernel_rfl)) (fun _ _ _ h=>h) (Or.inl ⟨by rfl,?_⟩) ?_ ?_
                rotate_left
                ·intro w'
                 go_simp
                 with_reducible rfl
                rotate_left
                ·simp only [Act.put,List.setIfInBounds_toArray,List.set_cons_zero,List.set_cons_succ,i64_w,i32_w]
                 rfl
                refine pure_ (i:=16) (N:=some 57) (v:=?_) (a':=?_) #[Y,Y,Y,Y,Y,Z,Y,Y,Y,Y,Z,Z,Y,Y,Y,Y,Y,Z,Z,Z,Z,Z,Z,Z,Z,Z,Z,Z,Z,Z] rfl rfl (any_of HT_.out (by kernel_rfl)) (fun _ _ _ h=>h) (Or.inl ⟨by rfl,?_⟩) ?_ ?_
                rotate_left
                ·intro w'
                 go_simp
                 with_reducible rfl
                rotate_left
                ·simp only [Act.put,List.setIfInBounds_toArray,List.set_cons_zero,List.set_cons_succ,i64_w,i32_w]
                 rfl
                refine pure_ (i:=17) (N:=some 58) (v:=?_) (a':=?_) #[Y,Y,Y,Y,Y,Z,Y,Y,Y,Y,Z,Z,Y,Y,Y,Y,Y,Y,Z,Z,Z,Z,Z,Z,Z,Z,Z,Z,Z,Z] rfl rfl (any_of HT_.out (by kernel_rfl)) (fun _ _ _ h=>h) (Or.inl ⟨by rfl,?_⟩) ?_ ?_
                rotate_left
                ·intro w'
                 go_simp
                 with_reducible rfl
                rotate_left
                ·simp only [Act.put,List.setIfInBounds_toArray,List.set_cons_zero,List.set_cons_succ,i64_w,i32_w]
                 rfl
                refine pure_ (i:=23) (N:=some 64) (v:=?_) (a':=?_) #[Y,Y,Y,Y,Y,Z,Y,Y,Y,Y,Z,Z,Y,Y,Y,Y,Y,Y,Z,Z,Z,Z,Z,Y,Z,Z,Z,Z,Z,Z] rfl rfl (any_of HT_.out (by kernel_rfl)) (fun _ _ _ h=>h) (Or.inl ⟨by rfl,?_⟩) ?_ ?_
                rotate_left
                ·intro w'
                 go_simp
                 with_reducible rfl
                rotate_left
                ·simp only [Act.put,List.setIfInBounds_toArray,List.set_cons_zero,List.set_cons_succ,i64_w,i32_w]
                 rfl
                refine take_ (i:=5) (N:=some 46) (v:=?_) (a':=?_) #[Y,Y,Y,Y,Y,Y,Y,Y,Y,Y,Z,Z,Y,Y,Y,Y,Y,Y,Z,Z,Z,Z,Z,Y,Z,Z,Z,Z,Z,Z] rfl rfl (take_ofW HT_.out HW_.out (by kernel_rfl)) (fun _ _ _ h=>h) (Or.inl ⟨by rfl,?_⟩) hHeld ?_ ?_
                rotate_left
                ·rintro w' ⟨s0,s1,s2,s3,s4,s5,s6,s7,s8,s9,s10,s11,s12,s13,s14,s15,s16,s17,s18,s19,s20,s21,s22,s23,s24⟩
                 go_simp
                 with_reducible rfl
                rotate_left
                ·simp only [Act.put,List.setIfInBounds_toArray,List.set_cons_zero,List.set_cons_succ,i64_w,i32_w]
                 rfl
                refine take_ (i:=10) (N:=some 51) (v:=?_) (a':=?_) #[Y,Y,Y,Y,Y,Y,Y,Y,Y,Y,Y,Z,Y,Y,Y,Y,Y,Y,Z,Z,Z,Z,Z,Y,Z,Z,Z,Z,Z,Z] rfl rfl (take_ofW HT_.out HW_.out (by kernel_rfl)) (fun _ _ _ h=>h) (Or.inl ⟨by rfl,?_⟩) hHeld ?_ ?_
                rotate_left
                ·rintro w' ⟨s0,s1,s2,s3,s4,s5,s6,s7,s8,s9,s10,s11,s12,s13,s14,s15,s16,s17,s18,s19,s20,s21,s22,s23,s24⟩
                 go_simp
                 with_reducible rfl
                rotate_left
                ·simp only [Act.put,List.setIfInBounds_toArray,List.set_cons_zero,List.set_cons_succ,i64_w,i32_w]
                 rfl
                refine pure_ (i:=11) (N:=some 52) (v:=?_) (a':=?_) #[Y,Y,Y,Y,Y,Y,Y,Y,Y,Y,Y,Y,Y,Y,Y,Y,Y,Y,Z,Z,Z,Z,Z,Y,Z,Z,Z,Z,Z,Z] rfl rfl (any_of HT_.out (by kernel_rfl)) (fun _ _ _ h=>h) (Or.inl ⟨by rfl,?_⟩) ?_ ?_
                rotate_left
                ·intro w'
                 go_simp
                 with_reducible rfl
                rotate_left
                ·simp only [Act.put,List.setIfInBounds_toArray,List.set_cons_zero,List.set_cons_succ,i64_w,i32_w]
                 rfl
                refine take_ (i:=18) (N:=some 59) (v:=?_) (a':=?_) #[Y,Y,Y,Y,Y,Y,Y,Y,Y,Y,Y,Y,Y,Y,Y,Y,Y,Y,Y,Z,Z,Z,Z,Y,Z,Z,Z,Z,Z,Z] rfl rfl (take_ofW HT_.out HW_.out (by kernel_rfl)) (fun _ _ _ h=>h) (Or.inl ⟨by rfl,?_⟩) hHeld ?_ ?_
                rotate_left
                ·rintro w' ⟨s0,s1,s2,s3,s4,s5,s6,s7,s8,s9,s10,s11,s12,s13,s14,s15,s16,s17,s18,s19,s20,s21,s22,s23,s24⟩
                 go_simp
                 with_reducible rfl
                rotate_left
                ·simp only [Act.put,List.setIfInBounds_toArray,List.set_cons_zero,List.set_cons_succ,i64_w,i32_w]
                 rfl
                refine one_ (i:=19) (N:=some 60) #[Y,Y,Y,Y,Y,Y,Y,Y,Y,Y,Y,Y,Y,Y,Y,Y,Y,Y,Y,Y,Z,Z,Z,Y,Z,Z,Z,Z,Z,Z] rfl rfl (one_of HT_.out (by kernel_rfl)) (by decide) (fun K hK=>?_)
                refine goes_ Try.func60 (by kernel_rfl) rfl #[.slice _ l1.length c1,.agg #[.string ((rd_T73 l0 x10_3).f0.f0),.int .i64 ((rd_T73 l0 x10_3).f0.f1),.int .i64 ((rd_T73 l0 x10_3).f0.f2),.int .i64 ((rd_T73 l0 x10_3).f0.f3)]] (by rfl) rfl rfl (by (try simp only [List.map_toArray,List.map_cons,List.map_nil]);first|done|rfl|(simp only [List.length_drop,List.length_take];rfl)) ?_
                with_reducible refine (contangoref23_find.calls k3 _ _ l1 ((rd_T73 l0 x10_3).f0.f0) ((rd_T73 l0 x10_3).f0.f1) ((rd_T73 l0 x10_3).f0.f2) ((rd_T73 l0 x10_3).f0.f3) t112 _ ?side1 ?side2 A16.out).mono ?_
                (case side1=>repeat (first|exact (Kd.C_below HR1.out HB.out)|(with_reducible refine Kd.C_alloc ?_ _)|(with_reducible refine Kd.C_drewN ?_ _)|(with_reducible refine Kd.C_drew ?_)))
                (case side2=>exact HC1.out)
                rintro e w23 ⟨rfl,hb⟩
                refine ⟨_,rfl,?_⟩
                have n0_:=Aside0.mk (Kd.R_below (by (with_reducible repeat (first|apply Kd.R_alloc|apply Kd.R_drewN|apply Kd.R_drew));exact HO_7.out) hb)
                have n1_:=Aside0.mk (Kd.R_below (by (with_reducible repeat (first|apply Kd.R_alloc|apply Kd.R_drewN|apply Kd.R_drew));exact HO_9.out) hb)
                have n2_:=Aside0.mk (below_step (by repeat (first|(with_reducible first|exact HB.out|apply below_alloc|apply pw_below_drewN|apply below_drew1)|exact HB.out)) hb)
                clear HO_7
                clear HO_9
                clear HB
                have HO_7:=n0_
                have HO_9:=n1_
                have HB:=n2_
                clear n0_ n1_ n2_
                (try clear hb)
                (try clear hb2)
                (try clear hk)
                (try clear hi)
                refine hK.out _ _ ⟨((HB.out.cell (World.block_lt_of_cell? w _ hw109_0)).trans hw109_0),((HB.out.cell (World.block_lt_of_cell? w _ hw109_1)).trans hw109_1),((HB.out.cell (World.block_lt_of_cell? w _ hw109_2)).trans hw109_2),((HB.out.cell (World.block_lt_of_cell? w _ hw109_3)).trans hw109_3),((HB.out.cell (World.block_lt_of_cell? w _ hw109_4)).trans hw109_4),((HB.out.cell (World.block_lt_of_cell? w _ hw109_5)).trans hw109_5),((HB.out.cell (World.block_lt_of_cell? w _ hw110_0)).trans hw110_0),((HB.out.cell (World.block_lt_of_cell? w _ hw110_1)).trans hw110_1),((HB.out.cell (World.block_lt_of_cell? w _ hw110_2)).trans hw110_2),((HB.out.cell (World.block_lt_of_cell? w _ hw110_3)).trans hw110_3),((HB.out.cell (World.block_lt_of_cell? w _ hw110_4)).trans hw110_4),((HB.out.cell (World.block_lt_of_cell? w _ hw110_5)).trans hw110_5),((HB.out.cell (World.block_lt_of_cell? w _ hw111_0)).trans hw111_0),((HB.out.cell (World.block_lt_of_cell? w _ hw111_1)).trans hw111_1),((HB.out.cell (World.block_lt_of_cell? w _ hw111_2)).trans hw111_2),((HB.out.cell (World.block_lt_of_cell? w _ hw111_3)).trans hw111_3),((HB.out.cell (World.block_lt_of_cell? w _ hw111_4)).trans hw111_4),((HB.out.cell (World.block_lt_of_cell? w _ hw111_5)).trans hw111_5),((HB.out.cell (World.block_lt_of_cell? w _ hw113_0)).trans hw113_0),((HB.out.cell (World.block_lt_of_cell? w _ hw113_1)).trans hw113_1),((HB.out.cell (World.block_lt_of_cell? w _ hw113_2)).trans hw113_2),((HB.out.cell (World.block_lt_of_cell? w _ hw113_3)).trans hw113_3),((HB.out.cell (World.block_lt_of_cell? w _ hw113_4)).trans hw113_4),((HB.out.cell (World.block_lt_of_cell? w _ hw113_5)).trans hw113_5),((HB.out.cell (World.block_lt_of_cell? w _ hw114_0)).trans hw114_0)⟩ (fun hHeld=>?_)
                clear hK K
                refine norm_ (a':=?_) ?_ ?_
                rotate_left
                ·show Act.put _ (some 60) _ = _
                 simp only [Act.put,List.setIfInBounds_toArray,List.set_cons_zero,List.set_cons_succ,i64_w,i32_w]
                 rfl
                refine pure_ (i:=20) (N:=some 61) (v:=?_) (a':=?_) #[Y,Y,Y,Y,Y,Y,Y,Y,Y,Y,Y,Y,Y,Y,Y,Y,Y,Y,Y,Y,Y,Z,Z,Y,Z,Z,Z,Z,Z,Z] rfl rfl (any_of HT_.out (by kernel_rfl)) (fun _ _ _ h=>h) (Or.inl ⟨by rfl,?_⟩) ?_ ?_
                rotate_left
                ·intro w'
                 go_simp
                 with_reducible rfl
                rotate_left
                ·simp only [Act.put,List.setIfInBounds_toArray,List.set_cons_zero,List.set_cons_succ,i64_w,i32_w]
                 rfl
                refine pure_ (i:=21) (N:=some 62) (v:=?_) (a':=?_) #[Y,Y,Y,Y,Y,Y,Y,Y,Y,Y,Y,Y,Y,Y,Y,Y,Y,Y,Y,Y,Y,Y,Z,Y,Z,Z,Z,Z,Z,Z] rfl rfl (any_of HT_.out (by kernel_rfl)) (fun _ _ _ h=>h) (Or.inl ⟨by rfl,?_⟩) ?_ ?_
                rotate_left
                ·intro w'
                 go_simp
                 with_reducible rfl
                rotate_left
                ·simp only [Act.put,List.setIfInBounds_toArray,List.set_cons_zero,List.set_cons_succ,i64_w,i32_w]
                 rfl
                refine take_ (i:=22) (N:=some 63) (v:=?_) (a':=?_) #[Y,Y,Y,Y,Y,Y,Y,Y,Y,Y,Y,Y,Y,Y,Y,Y,Y,Y,Y,Y,Y,Y,Y,Y,Z,Z,Z,Z,Z,Z] rfl rfl (take_ofW HT_.out HW_.out (by kernel_rfl)) (fun _ _ _ h=>h) (Or.inl ⟨by rfl,?_⟩) hHeld ?_ ?_
                rotate_left
                ·rintro w' ⟨s0,s1,s2,s3,s4,s5,s6,s7,s8,s9,s10,s11,s12,s13,s14,s15,s16,s17,s18,s19,s20,s21,s22,s23,s24⟩
                 go_simp
                 with_reducible rfl
                rotate_left
                ·simp only [Act.put,List.setIfInBounds_toArray,List.set_cons_zero,List.set_cons_succ,i64_w,i32_w]
                 rfl
                refine pure_ (i:=24) (N:=some 65) (v:=?_) (a':=?_) #[Y,Y,Y,Y,Y,Y,Y,Y,Y,Y,Y,Y,Y,Y,Y,Y,Y,Y,Y,Y,Y,Y,Y,Y,Y,Z,Z,Z,Z,Z] rfl rfl (any_of HT_.out (by kernel_rfl)) (fun _ _ _ h=>h) (Or.inl ⟨by rfl,?_⟩) ?_ ?_
                rotate_left
                ·intro w'
                 go_simp
                 with_reducible rfl
                rotate_left
                ·simp only [Act.put,List.setIfInBounds_toArray,List.set_cons_zero,List.set_cons_succ,i64_w,i32_w]
                 rfl
                refine take_ (i:=25) (N:=some 66) (v:=?_) (a':=?_) #[Y,Y,Y,Y,Y,Y,Y,Y,Y,Y,Y,Y,Y,Y,Y,Y,Y,Y,Y,Y,Y,Y,Y,Y,Y,Y,Z,Z,Z,Z] rfl rfl (take_ofW HT_.out HW_.out (by kernel_rfl)) (fun _ _ _ h=>h) (Or.inl ⟨by rfl,?_⟩) hHeld ?_ ?_
                rotate_left
                ·rintro w' ⟨s0,s1,s2,s3,s4,s5,s6,s7,s8,s9,s10,s11,s12,s13,s14,s15,s16,s17,s18,s19,s20,s21,s22,s23,s24⟩
                 go_simp
                 with_reducible rfl
                rotate_left
                ·simp only [Act.put,List.setIfInBounds_toArray,List.set_cons_zero,List.set_cons_succ,i64_w,i32_w]
                 rfl
                refine pure_ (i:=26) (N:=some 67) (v:=?_) (a':=?_) #[Y,Y,Y,Y,Y,Y,Y,Y,Y,Y,Y,Y,Y,Y,Y,Y,Y,Y,Y,Y,Y,Y,Y,Y,Y,Y,Y,Z,Z,Z] rfl rfl (any_of HT_.out (by kernel_rfl)) (fun _ _ _ h=>h) (Or.inl ⟨by rfl,?_⟩) ?_ ?_
                rotate_left
                ·intro w'
                 go_simp
                 with_reducible rfl
                rotate_left
                ·simp only [Act.put,List.setIfInBounds_toArray,List.set_cons_zero,List.set_cons_succ,i64_w,i32_w]
                 rfl
                refine one_ (i:=27) (N:=some 68) #[Y,Y,Y,Y,Y,Y,Y,Y,Y,Y,Y,Y,Y,Y,Y,Y,Y,Y,Y,Y,Y,Y,Y,Y,Y,Y,Y,Y,Z,Z] rfl rfl (one_of HT_.out (by kernel_rfl)) (by decide) (fun K hK=>?_)
                refine value_ (w1:=?_) (v:=?_) (by rfl) rfl ?_ ?_
                rotate_left 2
                ·go_simp
                 constructor
                 ·rfl
                 ·rfl
                refine hK.out _ _ ⟨(World.cell?_alloc_lt _ _ _ (World.block_lt_of_cell? _ _ (((HB.out.cell (World.block_lt_of_cell? w _ hw109_0)).trans hw109_0)))).trans (((HB.out.cell (World.block_lt_of_cell? w _ hw109_0)).trans hw109_0)),(World.cell?_alloc_lt _ _ _ (World.block_lt_of_cell? _ _ (((HB.out.cell (World.block_lt_of_cell? w _ hw109_1)).trans hw109_1)))).trans (((HB.out.cell (World.block_lt_of_cell? w _ hw109_1)).trans hw109_1)),(World.cell?_alloc_lt _ _ _ (World.block_lt_of_cell? _ _ (((HB.out.cell (World.block_lt_of_cell? w _ hw109_2)).trans hw109_2)))).trans (((HB.out.cell (World.block_lt_of_cell? w _ hw109_2)).trans hw109_2)),(World.cell?_alloc_lt _ _ _ (World.block_lt_of_cell? _ _ (((HB.out.cell (World.block_lt_of_cell? w _ hw109_3)).trans hw109_3)))).trans (((HB.out.cell (World.block_lt_of_cell? w _ hw109_3)).trans hw109_3)),(World.cell?_alloc_lt _ _ _ (World.block_lt_of_cell? _ _ (((HB.out.cell (World.block_lt_of_cell? w _ hw109_4)).trans hw109_4)))).trans (((HB.out.cell (World.block_lt_of_cell? w _ hw109_4)).trans hw109_4)),(World.cell?_alloc_lt _ _ _ (World.block_lt_of_cell? _ _ (((HB.out.cell (World.block_lt_of_cell? w _ hw109_5)).trans hw109_5)))).trans (((HB.out.cell (World.block_lt_of_cell? w _ hw109_5)).trans hw109_5)),(World.cell?_alloc_lt _ _ _ (World.block_lt_of_cell? _ _ (((HB.out.cell (World.block_lt_of_cell? w _ hw110_0)).trans hw110_0)))).trans (((HB.out.cell (World.block_lt_of_cell? w _ hw110_0)).trans hw110_0)),(World.cell?_alloc_lt _ _ _ (World.block_lt_of_cell? _ _ (((HB.out.cell (World.block_lt_of_cell? w _ hw110_1)).trans hw110_1)))).trans (((HB.out.cell (World.block_lt_of_cell? w _ hw110_1)).trans hw110_1)),(World.cell?_alloc_lt _ _ _ (World.block_lt_of_cell? _ _ (((HB.out.cell (World.block_lt_of_cell? w _ hw110_2)).trans hw110_2)))).trans (((HB.out.cell (World.block_lt_of_cell? w _ hw110_2)).trans hw110_2)),(World.cell?_alloc_lt _ _ _ (World.block_lt_of_cell? _ _ (((HB.out.cell (World.block_lt_of_cell? w _ hw110_3)).trans hw110_3)))).trans (((HB.out.cell (World.block_lt_of_cell? w _ hw110_3)).trans hw110_3)),(World.cell?_alloc_lt _ _ _ (World.block_lt_of_cell? _ _ (((HB.out.cell (World.block_lt_of_cell? w _ hw110_4)).trans hw110_4)))).trans (((HB.out.cell (World.block_lt_of_cell? w _ hw110_4)).trans hw110_4)),(World.cell?_alloc_lt _ _ _ (World.block_lt_of_cell? _ _ (((HB.out.cell (World.block_lt_of_cell? w _ hw110_5)).trans hw110_5)))).trans (((HB.out.cell (World.block_lt_of_cell? w _ hw110_5)).trans hw110_5)),(World.cell?_alloc_lt _ _ _ (World.block_lt_of_cell? _ _ (((HB.out.cell (World.block_lt_of_cell? w _ hw111_0)).trans hw111_0)))).trans (((HB.out.cell (World.block_lt_of_cell? w _ hw111_0)).trans hw111_0)),(World.cell?_alloc_lt _ _ _ (World.block_lt_of_cell? _ _ (((HB.out.cell (World.block_lt_of_cell? w _ hw111_1)).trans hw111_1)))).trans (((HB.out.cell (World.block_lt_of_cell? w _ hw111_1)).trans hw111_1)),(World.cell?_alloc_lt _ _ _ (World.block_lt_of_cell? _ _ (((HB.out.cell (World.block_lt_of_cell? w _ hw111_2)).trans hw111_2)))).trans (((HB.out.cell (World.block_lt_of_cell? w _ hw111_2)).trans hw111_2)),(World.cell?_alloc_lt _ _ _ (World.block_lt_of_cell? _ _ (((HB.out.cell (World.block_lt_of_cell? w _ hw111_3)).trans hw111_3)))).trans (((HB.out.cell (World.block_lt_of_cell? w _ hw111_3)).trans hw111_3)),(World.cell?_alloc_lt _ _ _ (World.block_lt_of_cell? _ _ (((HB.out.cell (World.block_lt_of_cell? w _ hw111_4)).trans hw111_4)))).trans (((HB.out.cell (World.block_lt_of_cell? w _ hw111_4)).trans hw111_4)),(World.cell?_alloc_lt _ _ _ (World.block_lt_of_cell? _ _ (((HB.out.cell (World.block_lt_of_cell? w _ hw111_5)).trans hw111_5)))).trans (((HB.out.cell (World.block_lt_of_cell? w _ hw111_5)).trans hw111_5)),(World.cell?_alloc_lt _ _ _ (World.block_lt_of_cell? _ _ (((HB.out.cell (World.block_lt_of_cell? w _ hw113_0)).trans hw113_0)))).trans (((HB.out.cell (World.block_lt_of_cell? w _ hw113_0)).trans hw113_0)),(World.cell?_alloc_lt _ _ _ (World.block_lt_of_cell? _ _ (((HB.out.cell (World.block_lt_of_cell? w _ hw113_1)).trans hw113_1)))).trans (((HB.out.cell (World.block_lt_of_cell? w _ hw113_1)).trans hw113_1)),(World.cell?_alloc_lt _ _ _ (World.block_lt_of_cell? _ _ (((HB.out.cell (World.block_lt_of_cell? w _ hw113_2)).trans hw113_2)))).trans (((HB.out.cell (World.block_lt_of_cell? w _ hw113_2)).trans hw113_2)),(World.cell?_alloc_lt _ _ _ (World.block_lt_of_cell? _ _ (((HB.out.cell (World.block_lt_of_cell? w _ hw113_3)).trans hw113_3)))).trans (((HB.out.cell (World.block_lt_of_cell? w _ hw113_3)).trans hw113_3)),(World.cell?_alloc_lt _ _ _ (World.block_lt_of_cell? _ _ (((HB.out.cell (World.block_lt_of_cell? w _ hw113_4)).trans hw113_4)))).trans (((HB.out.cell (World.block_lt_of_cell? w _ hw113_4)).trans hw113_4)),(World.cell?_alloc_lt _ _ _ (World.block_lt_of_cell? _ _ (((HB.out.cell (World.block_lt_of_cell? w _ hw113_5)).trans hw113_5)))).trans (((HB.out.cell (World.block_lt_of_cell? w _ hw113_5)).trans hw113_5)),(World.cell?_alloc_lt _ _ _ (World.block_lt_of_cell? _ _ (((HB.out.cell (World.block_lt_of_cell? w _ hw114_0)).trans hw114_0)))).trans (((HB.out.cell (World.block_lt_of_cell? w _ hw114_0)).trans hw114_0))⟩ (fun hHeld=>?_)
                clear hK K
                refine norm_ (a':=?_) ?_ ?_
                rotate_left
                ·show Act.put _ (some 68) _ = _
                 simp only [Act.put,List.setIfInBounds_toArray,List.set_cons_zero,List.set_cons_succ,i64_w,i32_w]
                 rfl
                refine one_ (i:=28) (N:=some 69) #[Y,Y,Y,Y,Y,Y,Y,Y,Y,Y,Y,Y,Y,Y,Y,Y,Y,Y,Y,Y,Y,Y,Y,Y,Y,Y,Y,Y,Y,Z] rfl rfl (one_of HT_.out (by kernel_rfl)) (by decide) (fun K hK=>?_)
                refine Kd.R_append_step (Kd.int .i64) (w0:=w) w.heap.size (by rfl) (.tmp 41) (.tmp 68) 23 3 (.int .i64 0) 8 rfl Try.underlying23 info3 rfl (by decide) (by omega) u9 x9_3 (wrap64 ((wrap64 (((rd_T73 l0 x10_3).f1) - ((rd_T73 l0 x10_3).f2))) * (rd ((rd_T91 l1 t112).f1) x8_1))) [.int .i64 (wrap64 ((wrap64 (((rd_T73 l0 x10_3).f1) - ((rd_T73 l0 x10_3).f2))) * (rd ((rd_T91 l1 t112).f1) x8_1)))] (fun k_=>some k_ ≠ (u7:Value).ownBlock) (fun _=>False) rfl rfl ?aP (fun _ hk=>hk.elim) ?aF ?aO ?aB ?aS ?aL ?_
                (case aP=>exact rfl)
                (case aB=>exact (by repeat (first|(with_reducible first|exact HB.out|apply below_alloc|apply pw_below_drewN|apply below_drew1)|exact HB.out)))
                (case aF=>exact (fun k_ hk=>Kd.fresh' (Kd.R_lt (by (with_reducible repeat (first|apply Kd.R_alloc|apply Kd.R_drewN|apply Kd.R_drew));exact HO_7.out)) k_ hk))
                (case aO=>exact (by (with_reducible repeat (first|apply Kd.R_alloc|apply Kd.R_drewN|apply Kd.R_drew));exact HO_9.out))
                (case aS=>exact (below_size (by repeat (first|(with_reducible first|exact HB.out|apply below_alloc|apply pw_below_drewN|apply below_drew1)|exact HB.out))))
                (case aL=>have:=LMc21.out;omega)
                intro v116 w24 ho hb hg hat
                rw [← Ny115.out] at ho
                have n0_:=Aside0.mk (Kd.R_after (ok:=(fun _=>True)) (by (with_reducible repeat (first|apply Kd.R_alloc|apply Kd.R_drewN|apply Kd.R_drew));exact Kd.R_mono HO_7.out (fun _ hk=>⟨trivial,hk⟩)) hg hat)
                have n1_:=Aside0.mk (hb)
                have n2_:=Aside0.mk (ho)
                clear HO_7
                clear HB
                clear HO_9
                have HO_7:=n0_
                have HB:=n1_
                have HO117:=n2_
                clear n0_ n1_ n2_
                clear ho hb hg hat
                refine hK.out _ _ ⟨((HB.out.cell (World.block_lt_of_cell? w _ hw109_0)).trans hw109_0),((HB.out.cell (World.block_lt_of_cell? w _ hw109_1)).trans hw109_1),((HB.out.cell (World.block_lt_of_cell? w _ hw109_2)).trans hw109_2),((HB.out.cell (World.block_lt_of_cell? w _ hw109_3)).trans hw109_3),((HB.out.cell (World.block_lt_of_cell? w _ hw109_4)).trans hw109_4),((HB.out.cell (World.block_lt_of_cell? w _ hw109_5)).trans hw109_5),((HB.out.cell (World.block_lt_of_cell? w _ hw110_0)).trans hw110_0),((HB.out.cell (World.block_lt_of_cell? w _ hw110_1)).trans hw110_1),((HB.out.cell (World.block_lt_of_cell? w _ hw110_2)).trans hw110_2),((HB.out.cell (World.block_lt_of_cell? w _ hw110_3)).trans hw110_3),((HB.out.cell (World.block_lt_of_cell? w _ hw110_4)).trans hw110_4),((HB.out.cell (World.block_lt_of_cell? w _ hw110_5)).trans hw110_5),((HB.out.cell (World.block_lt_of_cell? w _ hw111_0)).trans hw111_0),((HB.out.cell (World.block_lt_of_cell? w _ hw111_1)).trans hw111_1),((HB.out.cell (World.block_lt_of_cell? w _ hw111_2)).trans hw111_2),((HB.out.cell (World.block_lt_of_cell? w _ hw111_3)).trans hw111_3),((HB.out.cell (World.block_lt_of_cell? w _ hw111_4)).trans hw111_4),((HB.out.cell (World.block_lt_of_cell? w _ hw111_5)).trans hw111_5),((HB.out.cell (World.block_lt_of_cell? w _ hw113_0)).trans hw113_0),((HB.out.cell (World.block_lt_of_cell? w _ hw113_1)).trans hw113_1),((HB.out.cell (World.block_lt_of_cell? w _ hw113_2)).trans hw113_2),((HB.out.cell (World.block_lt_of_cell? w _ hw113_3)).trans hw113_3),((HB.out.cell (World.block_lt_of_cell? w _ hw113_4)).trans hw113_4),((HB.out.cell (World.block_lt_of_cell? w _ hw113_5)).trans hw113_5),((HB.out.cell (World.block_lt_of_cell? w _ hw114_0)).trans hw114_0)⟩ (fun hHeld=>?_)
                clear hK K
                refine norm_ (a':=?_) ?_ ?_
                rotate_left
                ·show Act.put _ (some 69) _ = _
                 simp only [Act.put,List.setIfInBounds_toArray,List.set_cons_zero,List.set_cons_succ,i64_w,i32_w]
                 rfl
                refine pure_ (i:=29) (N:=some 9) (v:=?_) (a':=?_) #[Y,Y,Y,Y,Y,Y,Y,Y,Y,Y,Y,Y,Y,Y,Y,Y,Y,Y,Y,Y,Y,Y,Y,Y,Y,Y,Y,Y,Y,Y] rfl rfl (any_of HT_.out (by kernel_rfl)) (fun _ _ _ h=>h) (Or.inl ⟨by rfl,?_⟩) ?_ ?_
                rotate_left
                ·intro w'
                 go_simp
                 with_reducible rfl
                rotate_left
                ·simp only [Act.put,List.setIfInBounds_toArray,List.set_cons_zero,List.set_cons_succ,i64_w,i32_w]
                 rfl
                refine done_ (done_of HT_.out (by kernel_rfl)) ?_
                try go_wp2
                go_roundg k3
                case measure=>have:=HK1.out;have:=HJ7.out;have:=HK3.out;omega
                case rel=>exact ⟨(y115),(wrap64 (x10_3 + 1)),(by first|rfl|(simp;done)|(simp [*];done)),H',⟨by have:=HK1.out;have:=HJ7.out;have:=HK3.out;omega⟩,⟨by (with_reducible repeat (first|apply Kd.R_alloc|apply Kd.R_drewN|apply Kd.R_drew));exact Kd.R_mono HO_7.out (fun _ hk=>hk.2)⟩,⟨by (with_reducible repeat (first|apply Kd.R_alloc|apply Kd.R_drewN|apply Kd.R_drew));exact HO117.out⟩,⟨by repeat (first|(with_reducible first|exact HB.out|apply below_alloc|apply pw_below_drewN|apply below_drew1)|exact HB.out)⟩⟩
               ·rw [if_neg c21] at H
                exact absurd H (by simp)
              ·rw [if_neg c20] at H
               exact absurd H (by simp)
             ·rw [if_neg c19] at H
              exact absurd H (by simp)
            ·rw [if_neg c18] at H
             exact absurd H (by simp)
           ·rw [if_neg c17] at H
            exact absurd H (by simp)
          ·rw [if_neg c15] at H
           exact absurd H (by simp)
         ·rw [if_neg c14] at H
          have c14b0:decide (x10_3 < (l0.length:Int)) = false:=decide_eq_false c14
          clear c14
          replace H:=Option.bind_eq_some_iff.mp H
          obtain ⟨⟨t118,t119⟩,A250,H⟩:=H
          replace H:(if t119 = 0 then (if x7_1.length < 17592186044416 then (contangoref23_Losses.l0 k3 l0 l1 (x7_1 ++ [t118]) (wrap64 (x8_1 + 1))) else (none)) else (some (([]:List Int),t119))) = some (r1,r2):=H
          have A25:=Aside0.mk A250
          clear A250
          by_cases c26:t119 = 0
          ·rw [if_pos c26] at H
           have c26b0:(t119 == 0) = true:=beq_iff_eq.mpr c26
           have c26b1:(t119 != 0) = false:=bne_eq_false_iff_eq.mpr c26
           clear c26
           by_cases c27:x7_1.length < 17592186044416
           ·rw [if_pos c27] at H
            have LMc27:=Aside0.mk c27
            clear c27
            obtain ⟨y120,hy120⟩:∃ y_:List Int,y_ = (x7_1 ++ [t118]):=⟨_,rfl⟩
            replace H:(contangoref23_Losses.l0 k3 l0 l1 y120 (wrap64 (x8_1 + 1))) = some (r1,r2):=by first|(rw [hy120];with_reducible exact H)|(have H2_:=(Option.bind_some _ _).symm.trans H;rw [hy120];with_reducible exact H2_)|(have H2_:=(Option.bind_some _ _).symm.trans H;with_reducible exact H2_)|with_reducible exact H|(rw [hy120];exact H)|exact H
            have Ny120:=Aside0.mk hy120
            clear hy120
            have H':=Aside0.mk H
            clear H
            obtain ⟨Ao28,co28,eo28⟩:=Kd.R_slice HO_9.out
            subst eo28
            go_wp2_with (first|((with_reducible refine gate_callee (f:=61) rfl ?_);refine goesL_ (some 72) rfl rfl Try.func61 (by kernel_rfl) rfl #[.slice Ao28 x9_3.length co28] rfl (by (try simp only [List.map_toArray,List.map_cons,List.map_nil]);first|done|rfl|(simp only [List.length_drop,List.length_take];rfl)) ?_;(with_reducible refine (contangoref01_Sum.calls k3 _ _ x9_3 t118 t119 _ ?side1 ?side2 A25.out).mono ?_);(case side1=>repeat (first|exact (Kd.R_reads' HO_9.out).2.2|(with_reducible refine Kd.C_alloc ?_ _)|(with_reducible refine Kd.C_drewN ?_ _)|(with_reducible refine Kd.C_drew ?_)));(case side2=>exact (Kd.R_reads' HO_9.out).2.1);rintro e w' ⟨rfl,⟨nd,rfl⟩⟩;refine ⟨_,rfl,?_⟩)|((with_reducible refine gate_builtin (b:=.append) (xs:=#[.tmp 78,.tmp 80]) rfl ?_);(try (refine gate_guard (by rfl) ?_;dsimp only));at_builtin;refine Kd.R_append (Kd.int .i64) (w0:=w) w.heap.size rfl (.tmp 78) (.tmp 80) 23 3 (.int .i64 0) 8 rfl Try.underlying23 info3 rfl (by decide) (by omega) u7 x7_1 t118 [.int .i64 t118] (fun k_=>some k_ ≠ (.slice Ao28 x9_3.length co28:Value).ownBlock) (fun _=>False) rfl rfl ?aP (fun _ hk=>hk.elim) ?aF ?aO ?aB ?aS ?aL ?_;(case aP=>exact rfl);(case aB=>exact (by repeat (first|(with_reducible first|exact HB.out|apply below_alloc|apply pw_below_drewN|apply below_drew1)|exact HB.out)));(case aF=>exact (fun k_ hk=>Kd.fresh' (Kd.R_lt (by (with_reducible repeat (first|apply Kd.R_alloc|apply Kd.R_drewN|apply Kd.R_drew));exact HO_9.out)) k_ hk));(case aO=>exact (by (with_reducible repeat (first|apply Kd.R_alloc|apply Kd.R_drewN|apply Kd.R_drew));exact HO_7.out));(case aS=>exact (below_size (by repeat (first|(with_reducible first|exact HB.out|apply below_alloc|apply pw_below_drewN|apply below_drew1)|exact HB.out))));(case aL=>have:=LMc27.out;omega);intro v121 w29 ho hb hg hat;rw [← Ny120.out] at ho;have n0_:=Aside0.mk (Kd.R_after (ok:=(fun _=>True)) (by (with_reducible repeat (first|apply Kd.R_alloc|apply Kd.R_drewN|apply Kd.R_drew));exact Kd.R_mono HO_9.out (fun _ hk=>⟨trivial,hk⟩)) hg hat);have n1_:=Aside0.mk (hb);have n2_:=Aside0.mk (ho);clear HO_9;clear HB;clear HO_7;have HO_9:=n0_;have HB:=n1_;have HO122:=n2_;clear n0_ n1_ n2_;clear ho hb hg hat))
            go_roundg k3
            case measure=>have:=HK1.out;have:=HJ7.out;have:=HK3.out;omega
            case rel=>exact ⟨(y120),(wrap64 (x8_1 + 1)),(by first|rfl|(simp;done)|(simp [*];done)),H',⟨by have:=HK1.out;have:=HJ7.out;have:=HK3.out;omega⟩,⟨by (with_reducible repeat (first|apply Kd.R_alloc|apply Kd.R_drewN|apply Kd.R_drew));exact Kd.R_mono HO122.out (fun _ hk=>trivial)⟩,⟨by repeat (first|(with_reducible first|exact HB.out|apply below_alloc|apply pw_below_drewN|apply below_drew1)|exact HB.out)⟩⟩
           ·rw [if_neg c27] at H
            exact absurd H (by simp)
          ·rw [if_neg c26] at H
           have c26b0:(t119 == 0) = false:=beq_eq_false_iff_ne.mpr c26
           have c26b1:(t119 != 0) = true:=bne_iff_ne.mpr c26
           simp only [Option.some.injEq,Prod.mk.injEq] at H
           obtain ⟨rfl,rfl⟩:=H
           obtain ⟨Ao30,co30,eo30⟩:=Kd.R_slice HO_9.out
           subst eo30
           go_wp2_with (first|((with_reducible refine gate_callee (f:=61) rfl ?_);refine goesL_ (some 72) rfl rfl Try.func61 (by kernel_rfl) rfl #[.slice Ao30 x9_3.length co30] rfl (by (try simp only [List.map_toArray,List.map_cons,List.map_nil]);first|done|rfl|(simp only [List.length_drop,List.length_take];rfl)) ?_;(with_reducible refine (contangoref01_Sum.calls k3 _ _ x9_3 t118 t119 _ ?side1 ?side2 A25.out).mono ?_);(case side1=>repeat (first|exact (Kd.R_reads' HO_9.out).2.2|(with_reducible refine Kd.C_alloc ?_ _)|(with_reducible refine Kd.C_drewN ?_ _)|(with_reducible refine Kd.C_drew ?_)));(case side2=>exact (Kd.R_reads' HO_9.out).2.1);rintro e w' ⟨rfl,⟨nd,rfl⟩⟩;refine ⟨_,rfl,?_⟩))
           go_ret2
           exact ⟨_,by first|rfl|(simp [errW_none,errW_some] <;> rfl)|(simp [*,errW_none,errW_some] <;> rfl),by first|exact Kd.R_nil _ _ _ _ _|exact Kd.N_nil _ _ _ _ _|exact Kd.V_nil _ _ _ _ _|exact Kd.Q_nil _ _ _ _ _|exact Kd.S_nil _ _ _ _ _,by repeat (first|(with_reducible first|exact HB.out|apply below_alloc|apply pw_below_drewN|apply below_drew1)|exact HB.out)⟩
      ·replace c11:=Bool.eq_false_iff.mpr c11
       subst c11
       have H1:(some (x7_1,0)) = some (r1,r2):=by rw [if_neg (show ¬ (false = true) by decide)] at H;exact H
       clear H
       have H:=H1
       clear H1
       simp only [Option.some.injEq,Prod.mk.injEq] at H
       obtain ⟨rfl,rfl⟩:=H
       go_wp2
       go_ret2
       exact ⟨_,by first|rfl|(simp [errW_none,errW_some] <;> rfl)|(simp [*,errW_none,errW_some] <;> rfl),by (with_reducible repeat (first|apply Kd.R_alloc|apply Kd.R_drewN|apply Kd.R_drew));exact HO_7.out,by repeat (first|(with_reducible first|exact HB.out|apply below_alloc|apply pw_below_drewN|apply below_drew1)|exact HB.out)⟩
 ·rw [if_neg c4] at H
  have c4b0:(t101 == 0) = false:=beq_eq_false_iff_ne.mpr c4
  have c4b1:(t101 != 0) = true:=bne_iff_ne.mpr c4
  simp only [Option.some.injEq,Prod.mk.injEq] at H
  obtain ⟨rfl,rfl⟩:=H
  go_enter Try.func28,Try.ntmps28
  go_wp2_with (first|((with_reducible refine gate_callee (f:=59) rfl ?_);refine goesL_ (some 15) rfl rfl Try.func59 (by kernel_rfl) rfl #[.slice A0 l0.length c0,.slice A1 l1.length c1] rfl (by (try simp only [List.map_toArray,List.map_cons,List.map_nil]);first|done|rfl|(simp only [List.length_drop,List.length_take];rfl)) ?_;(with_reducible refine (contangoref23_checks.calls k _ _ l0 _ _ l1 t101 _ ?side1 ?side2 ?side3 ?side4 A3.out).mono ?_);(case side1=>repeat (first|exact HR0.out|(with_reducible refine Kd.C_alloc ?_ _)|(with_reducible refine Kd.C_drewN ?_ _)|(with_reducible refine Kd.C_drew ?_)));(case side2=>exact HC0.out);(case side3=>repeat (first|exact HR1.out|(with_reducible refine Kd.C_alloc ?_ _)|(with_reducible refine Kd.C_drewN ?_ _)|(with_reducible refine Kd.C_drew ?_)));(case side4=>exact HC1.out);rintro e w31 ⟨rfl,hb⟩;refine ⟨_,rfl,?_⟩;have n0_:=Aside0.mk (below_step (by repeat (first|(with_reducible first|exact HB.out|apply below_alloc|apply pw_below_drewN|apply below_drew1)|exact HB.out)) hb);clear HB;have HB:=n0_;clear n0_;(try clear hb);(try clear hb2);(try clear hk);(try clear hi)))
  go_ret2
  exact ⟨_,by first|rfl|(simp [errW_none,errW_some] <;> rfl)|(simp [*,errW_none,errW_some] <;> rfl),by first|exact Kd.R_nil _ _ _ _ _|exact Kd.N_nil _ _ _ _ _|exact Kd.V_nil _ _ _ _ _|exact Kd.Q_nil _ _ _ _ _|exact Kd.S_nil _ _ _ _ _,by repeat (first|(with_reducible first|exact HB.out|apply below_alloc|apply pw_below_drewN|apply below_drew1)|exact HB.out)⟩
end Go.Proofs.Ytbgeceiddcokmaa.X
end
section
namespace Go.Proofs.Ytbgeceiddcokmaa.X
open Go.RowKit Go.Proofs.YtbgeceiddcokmaaW.PrintWords Go.Proofs.YtbgeceiddcokmaaW.PrintLast Go.Proofs.YtbgeceiddcokmaaW.PrintMore
attribute [local go_sem] max2_int min2_int max_two min_two max_three min_three max_four min_four
set_option linter.unusedVariables false
set_option linter.unusedSimpArgs false
theorem eqA73 (d:Nat) (w:World) (x0 y0:ByteArray) (x1 y1:Int) (x2 y2:Int) (x3 y3:Int) (x4 y4:Int) (x5 y5:Int) :
  (Op.equalIn (d + 3) 73 (.agg #[.string x0,.int .i64 x1,.int .i64 x2,.int .i64 x3,.int .i64 x4,.int .i64 x5]) (.agg #[.string y0,.int .i64 y1,.int .i64 y2,.int .i64 y3,.int .i64 y4,.int .i64 y5])).run Try.prog w = .ok ((x0.toList == y0.toList && (x1 == y1 && (x2 == y2 && (x3 == y3)))) && (x4 == y4 && (x5 == y5))) w:=by
 refine eqA_of Try.underlying73 (by kernel_rfl) ?_
 refine eqf_cons (by rfl) (by go_simp) (by go_simp) (eqA39 (d + 0) w _ _ _ _ _ _ _ _) ?_
 refine eqf_cons (by rfl) (by go_simp;rfl) (by go_simp;rfl) (by go_simp) ?_
 exact eqf_last (by rfl) (by go_simp;rfl) (by go_simp;rfl) (by go_simp)
end Go.Proofs.Ytbgeceiddcokmaa.X
end
section
namespace Go.Proofs.Ytbgeceiddcokmaa.X
open Go.RowKit Go.Proofs.YtbgeceiddcokmaaW.PrintWords Go.Proofs.YtbgeceiddcokmaaW.PrintLast Go.Proofs.YtbgeceiddcokmaaW.PrintMore
attribute [local go_sem] max2_int min2_int max_two min_two max_three min_three max_four min_four
set_option linter.unusedVariables false
set_option linter.unusedSimpArgs false
attribute [local go_sem high] eqA73
def contangoref23_Positions.l0:Nat → List (S73) → List (S73) → Int → Option (Bool)
 | 0,_,_,_=>none
 | k + 1,x0,x1,x5=>if x5 < (x0.length:Int) then (if 0 ≤ x5 then (if x5 < (x1.length:Int) then (if ((!((((rd_T73 x0 x5).f0.f0).toList) == (((rd_T73 x1 x5).f0.f0).toList)) || (!(((rd_T73 x0 x5).f0.f1) == ((rd_T73 x1 x5).f0.f1)) || (!(((rd_T73 x0 x5).f0.f2) == ((rd_T73 x1 x5).f0.f2)) || (!(((rd_T73 x0 x5).f0.f3) == ((rd_T73 x1 x5).f0.f3)))))) || (!(((rd_T73 x0 x5).f1) == ((rd_T73 x1 x5).f1)) || (!(((rd_T73 x0 x5).f2) == ((rd_T73 x1 x5).f2))))) = true then (some false) else (contangoref23_Positions.l0 k x0 x1 (wrap64 (x5 + 1)))) else (none)) else (none)) else (some true)
def contangoref23_Positions.f (k:Nat) (l0:List (S73)) (l1:List (S73)):Option (Bool):=if (l0.length:Int) = (l1.length:Int) then (contangoref23_Positions.l0 k l0 l1 0) else (some false)
theorem contangoref23_Positions.mono_l:∀ k,(∀ y0 y1 y2,LeO (contangoref23_Positions.l0 k y0 y1 y2) (contangoref23_Positions.l0 (k + 1) y0 y1 y2))
 | 0=>fun _ _ _ r h=>by simp [contangoref23_Positions.l0] at h
 | k + 1=>by
  have ih0:=contangoref23_Positions.mono_l k
  ·intro y0 y1 y2
   unfold contangoref23_Positions.l0
   repeat' first
   | (with_reducible exact ih0 _ _ _)
   | (with_reducible exact LeO.refl _)
   | (with_reducible exact LeO.none _)
   | (with_reducible refine LeO.ite ?_ ?_)
   | (with_reducible refine LeO.bind ?_ (fun _=>?_))
   | exact ih0 _ _ _
   | exact LeO.none _
   | refine LeO.ite ?_ ?_
   | refine LeO.bind ?_ (fun _=>?_)
theorem contangoref23_Positions.mono:∀ a0 a1 k,LeO (contangoref23_Positions.f k a0 a1) (contangoref23_Positions.f (k + 1) a0 a1):=by
 intro a0 a1 k
 have ih0:=contangoref23_Positions.mono_l k
 unfold contangoref23_Positions.f
 repeat' first
   | (with_reducible exact ih0 _ _ _)
   | (with_reducible exact LeO.refl _)
   | (with_reducible exact LeO.none _)
   | (with_reducible refine LeO.ite ?_ ?_)
   | (with_reducible refine LeO.bind ?_ (fun _=>?_))
   | exact ih0 _ _ _
   | exact LeO.none _
   | refine LeO.ite ?_ ?_
   | refine LeO.bind ?_ (fun _=>?_)
set_option maxHeartbeats 8000000 in
set_option maxRecDepth 100000 in
theorem contangoref23_Positions.calls (k:Nat) (A0:Option Addr) (c0:Nat) (l0:List (S73)) (A1:Option Addr) (c1:Nat) (l1:List (S73)) (r:Bool) (w:World) (hr0:Kd.C k73 w A0 l0.length l0) (hc0:l0.length ≤ c0) (hr1:Kd.C k73 w A1 l1.length l1) (hc1:l1.length ≤ c1) (h:contangoref23_Positions.f k l0 l1 = some r) :
  Calls Try.prog 35 #[.slice A0 l0.length c0,.slice A1 l1.length c1] w fun e w'=>e = .returned (.bool r) ∧ Drawn0 w w':=by
 have hu73:=Try.underlying73
 have HR0:=Aside0.mk hr0
 have HC0:=Aside0.mk hc0
 clear hr0 hc0
 have HR1:=Aside0.mk hr1
 have HC1:=Aside0.mk hc1
 clear hr1 hc1
 have H:(if (l0.length:Int) = (l1.length:Int) then (contangoref23_Positions.l0 k l0 l1 0) else (some false)) = some r:=h
 clear h
 by_cases c3:(l0.length:Int) = (l1.length:Int)
 ·rw [if_pos c3] at H
  have c3b0:((l0.length:Int) == (l1.length:Int)) = true:=beq_iff_eq.mpr c3
  have c3b1:((l0.length:Int) != (l1.length:Int)) = false:=bne_eq_false_iff_eq.mpr c3
  have c3b2:(l0.length == l1.length) = true:=by first|simpa using c3|(simp at c3 ⊢;omega)
  clear c3
  have H':=Aside0.mk H
  clear H
  go_enter Try.func35,Try.ntmps35
  go_wp2
  repeat (go_quiet (fail);try go_wp2)
  go_loopg [5] k (fun kq v5 w'=>∃ (x5_1:Int),v5 = .int .i64 x5_1 ∧ Aside0 (contangoref23_Positions.l0 kq l0 l1 x5_1 = some r) ∧ Aside0 (kq ≤ k) ∧ Drawn0 w w')
  case atStart=>exact ⟨(0),(by first|rfl|(simp;done)|(simp [*];done)),H',⟨Nat.le_refl _⟩,by repeat (first|exact Drawn0.refl _|apply Drawn0.step)⟩
  case round =>
   clear H'
   try clear c1
   try clear p2
   try clear c3
   try clear c3b0
   try clear c3b1
   try clear c3b2
   obtain ⟨x5_1,rfl,HA,HK1,⟨m1,rfl⟩⟩:=hrel
   cases gk with
   | zero=>exact absurd HA.out (by simp [contangoref23_Positions.l0])
   | succ k1 =>
    have H:=HA.out
    clear HA
    simp only [contangoref23_Positions.l0] at H
    by_cases c4:x5_1 < (l0.length:Int)
    ·rw [if_pos c4] at H
     have c4b0:decide (x5_1 < (l0.length:Int)) = true:=decide_eq_true c4
     clear c4
     by_cases c5:0 ≤ x5_1
     ·rw [if_pos c5] at H
      have c5b0:decide (0 ≤ x5_1) = true:=decide_eq_true c5
      clear c5
      by_cases c6:x5_1 < (l1.length:Int)
      ·rw [if_pos c6] at H
       have c6b0:decide (x5_1 < (l1.length:Int)) = true:=decide_eq_true c6
       clear c6
       by_cases c7:((!((((rd_T73 l0 x5_1).f0.f0).toList) == (((rd_T73 l1 x5_1).f0.f0).toList)) || (!(((rd_T73 l0 x5_1).f0.f1) == ((rd_T73 l1 x5_1).f0.f1)) || (!(((rd_T73 l0 x5_1).f0.f2) == ((rd_T73 l1 x5_1).f0.f2)) || (!(((rd_T73 l0 x5_1).f0.f3) == ((rd_T73 l1 x5_1).f0.f3)))))) || (!(((rd_T73 l0 x5_1).f1) == ((rd_T73 l1 x5_1).f1)) || (!(((rd_T73 l0 x5_1).f2) == ((rd_T73 l1 x5_1).f2))))) = true
       ·rw [if_pos c7] at H
        have c7b0:((!((((rd_T73 l0 x5_1).f0.f0).toList) == (((rd_T73 l1 x5_1).f0.f0).toList)) || (!(((rd_T73 l0 x5_1).f0.f1) == ((rd_T73 l1 x5_1).f0.f1)) || (!(((rd_T73 l0 x5_1).f0.f2) == ((rd_T73 l1 x5_1).f0.f2)) || (!(((rd_T73 l0 x5_1).f0.f3) == ((rd_T73 l1 x5_1).f0.f3)))))) || (!(((rd_T73 l0 x5_1).f1) == ((rd_T73 l1 x5_1).f1)) || (!(((rd_T73 l0 x5_1).f2) == ((rd_T73 l1 x5_1).f2))))) = true:=c7
        clear c7
        obtain rfl:=Option.some.inj H
        have p101:0 ≤ (x5_1:Int):=of_decide_eq_true (by first|(with_reducible assumption)|assumption)
        have q101:x5_1 < (l0.length:Int):=of_decide_eq_true (by first|(with_reducible assumption)|assumption)
        obtain ⟨ad101,e101,hx101_0,hx101_1,hx101_2,hx101_3,hx101_4,hx101_5⟩:=at_T73 HR0.out x5_1 p101 q101
        cases e101
        replace p101:=eq_true p101
        replace q101:=eq_true q101
        have p102:0 ≤ (x5_1:Int):=of_decide_eq_true (by first|(with_reducible assumption)|assumption)
        have q102:x5_1 < (l1.length:Int):=of_decide_eq_true (by first|(with_reducible assumption)|assumption)
        obtain ⟨ad102,e102,hx102_0,hx102_1,hx102_2,hx102_3,hx102_4,hx102_5⟩:=at_T73 HR1.out x5_1 p102 q102
        cases e102
        replace p102:=eq_true p102
        replace q102:=eq_true q102
        go_wp2
        repeat (go_quiet (fail);try go_wp2)
        go_ret
        exact ⟨by first|rfl|(simp;done)|(simp [*];done),by repeat (first|exact Drawn0.refl _|apply Drawn0.step)⟩
       ·rw [if_neg c7] at H
        have c7b0:((!((((rd_T73 l0 x5_1).f0.f0).toList) == (((rd_T73 l1 x5_1).f0.f0).toList)) || (!(((rd_T73 l0 x5_1).f0.f1) == ((rd_T73 l1 x5_1).f0.f1)) || (!(((rd_T73 l0 x5_1).f0.f2) == ((rd_T73 l1 x5_1).f0.f2)) || (!(((rd_T73 l0 x5_1).f0.f3) == ((rd_T73 l1 x5_1).f0.f3)))))) || (!(((rd_T73 l0 x5_1).f1) == ((rd_T73 l1 x5_1).f1)) || (!(((rd_T73 l0 x5_1).f2) == ((rd_T73 l1 x5_1).f2))))) = false:=by simpa using c7
        clear c7
        have H':=Aside0.mk H
        clear H
        have p101:0 ≤ (x5_1:Int):=of_decide_eq_true (by first|(with_reducible assumption)|assumption)
        have q101:x5_1 < (l0.length:Int):=of_decide_eq_true (by first|(with_reducible assumption)|assumption)
        obtain ⟨ad101,e101,hx101_0,hx101_1,hx101_2,hx101_3,hx101_4,hx101_5⟩:=at_T73 HR0.out x5_1 p101 q101
        cases e101
        replace p101:=eq_true p101
        replace q101:=eq_true q101
        have p102:0 ≤ (x5_1:Int):=of_decide_eq_true (by first|(with_reducible assumption)|assumption)
        have q102:x5_1 < (l1.length:Int):=of_decide_eq_true (by first|(with_reducible assumption)|assumption)
        obtain ⟨ad102,e102,hx102_0,hx102_1,hx102_2,hx102_3,hx102_4,hx102_5⟩:=at_T73 HR1.out x5_1 p102 q102
        cases e102
        replace p102:=eq_true p102
        replace q102:=eq_true q102
        go_wp2
        repeat (go_quiet (fail);try go_wp2)
        go_roundg k1
        case measure=>have:=HK1.out;omega
        case rel=>exact ⟨(wrap64 (x5_1 + 1)),(by first|rfl|(simp;done)|(simp [*];done)),H',⟨by have:=HK1.out;omega⟩,by repeat (first|exact Drawn0.refl _|apply Drawn0.step)⟩
      ·rw [if_neg c6] at H
       exact absurd H (by simp)
     ·rw [if_neg c5] at H
      exact absurd H (by simp)
    ·rw [if_neg c4] at H
     have c4b0:decide (x5_1 < (l0.length:Int)) = false:=decide_eq_false c4
     clear c4
     obtain rfl:=Option.some.inj H
     go_wp2
     repeat (go_quiet (fail);try go_wp2)
     go_ret
     exact ⟨by first|rfl|(simp;done)|(simp [*];done),by repeat (first|exact Drawn0.refl _|apply Drawn0.step)⟩
 ·rw [if_neg c3] at H
  have c3b0:((l0.length:Int) == (l1.length:Int)) = false:=beq_eq_false_iff_ne.mpr c3
  have c3b1:((l0.length:Int) != (l1.length:Int)) = true:=bne_iff_ne.mpr c3
  have c3b2:(l0.length == l1.length) = false:=by first|simpa using c3|(simp at c3 ⊢;omega)
  obtain rfl:=Option.some.inj H
  go_enter Try.func35,Try.ntmps35
  go_wp2
  repeat (go_quiet (fail);try go_wp2)
  go_ret
  exact ⟨by first|rfl|(simp;done)|(simp [*];done),by repeat (first|exact Drawn0.refl _|apply Drawn0.step)⟩
end Go.Proofs.Ytbgeceiddcokmaa.X
end
section
namespace Go.Proofs.Ytbgeceiddcokmaa.X
open Go.RowKit Go.Proofs.YtbgeceiddcokmaaW.PrintWords Go.Proofs.YtbgeceiddcokmaaW.PrintLast Go.Proofs.YtbgeceiddcokmaaW.PrintMore
attribute [local go_sem] max2_int min2_int max_two min_two max_three min_three max_four min_four
set_option linter.unusedVariables false
set_option linter.unusedSimpArgs false
def contangoref23_Risk.l0:Nat → List Int → Int → Int → Int → Option (Int × Int × Int)
 | 0,_,_,_,_=>none
 | k + 1,x7,x9,x10,x11=>if x11 < (x7.length:Int) then (if 0 ≤ x11 then (if (rd x7 x11) > x9 then (contangoref23_Risk.l0 k x7 (rd x7 x11) x11 (wrap64 (x11 + 1))) else (contangoref23_Risk.l0 k x7 x9 x10 (wrap64 (x11 + 1)))) else (none)) else (some (x9,x10,0))
def contangoref23_Risk.f (k:Nat) (l0:List (S73)) (l1:List (S91)):Option (Int × Int × Int):=(contangoref23_Losses.f k l0 l1).bind fun bt101=>(if bt101.2 = 0 then (contangoref23_Risk.l0 k bt101.1 0 0 0) else (some (0,0,bt101.2)))
theorem contangoref23_Risk.mono_l:∀ k,(∀ y0 y1 y2 y3,LeO (contangoref23_Risk.l0 k y0 y1 y2 y3) (contangoref23_Risk.l0 (k + 1) y0 y1 y2 y3))
 | 0=>fun _ _ _ _ r h=>by simp [contangoref23_Risk.l0] at h
 | k + 1=>by
  have ih0:=contangoref23_Risk.mono_l k
  ·intro y0 y1 y2 y3
   unfold contangoref23_Risk.l0
   repeat' first
   | (with_reducible exact ih0 _ _ _ _)
   | (with_reducible exact contangoref23_Losses.mono _ _ _)
   | (with_reducible exact LeO.refl _)
   | (with_reducible exact LeO.none _)
   | (with_reducible refine LeO.ite ?_ ?_)
   | (with_reducible refine LeO.bind ?_ (fun _=>?_))
   | exact ih0 _ _ _ _
   | exact contangoref23_Losses.mono _ _ _
   | exact LeO.none _
   | refine LeO.ite ?_ ?_
   | refine LeO.bind ?_ (fun _=>?_)
theorem contangoref23_Risk.mono:∀ a0 a1 k,LeO (contangoref23_Risk.f k a0 a1) (contangoref23_Risk.f (k + 1) a0 a1):=by
 intro a0 a1 k
 have ih0:=contangoref23_Risk.mono_l k
 unfold contangoref23_Risk.f
 repeat' first
   | (with_reducible exact ih0 _ _ _ _)
   | (with_reducible exact contangoref23_Losses.mono _ _ _)
   | (with_reducible exact LeO.refl _)
   | (with_reducible exact LeO.none _)
   | (with_reducible refine LeO.ite ?_ ?_)
   | (with_reducible refine LeO.bind ?_ (fun _=>?_))
   | exact ih0 _ _ _ _
   | exact contangoref23_Losses.mono _ _ _
   | exact LeO.none _
   | refine LeO.ite ?_ ?_
   | refine LeO.bind ?_ (fun _=>?_)
set_option maxHeartbeats 8000000 in
set_option maxRecDepth 100000 in
theorem contangoref23_Risk.calls (k:Nat) (A0:Option Addr) (c0:Nat) (l0:List (S73)) (A1:Option Addr) (c1:Nat) (l1:List (S91)) (r1:Int) (r2:Int) (r3:Int) (w:World) (hr0:Kd.C k73 w A0 l0.length l0) (hc0:l0.length ≤ c0) (hr1:Kd.C k91 w A1 l1.length l1) (hc1:l1.length ≤ c1) (h:contangoref23_Risk.f k l0 l1 = some (r1,r2,r3)) :
  Calls Try.prog 30 #[.slice A0 l0.length c0,.slice A1 l1.length c1] w fun e w'=>e = .returned (.tuple #[.int .i64 r1,.int .i64 r2,.int .i64 r3]) ∧ Below w.heap.size w w':=by
 have HR0:=Aside0.mk hr0
 have HC0:=Aside0.mk hc0
 clear hr0 hc0
 have HR1:=Aside0.mk hr1
 have HC1:=Aside0.mk hc1
 clear hr1 hc1
 have HB:=Aside0.mk (Below.refl w.heap.size w)
 have H:((contangoref23_Losses.f k l0 l1).bind fun bt101=>(if bt101.2 = 0 then (contangoref23_Risk.l0 k bt101.1 0 0 0) else (some (0,0,bt101.2)))) = some (r1,r2,r3):=h
 clear h
 replace H:=Option.bind_eq_some_iff.mp H
 obtain ⟨⟨t101,t102⟩,A30,H⟩:=H
 replace H:(if t102 = 0 then (contangoref23_Risk.l0 k t101 0 0 0) else (some (0,0,t102))) = some (r1,r2,r3):=H
 have A3:=Aside0.mk A30
 clear A30
 by_cases c4:t102 = 0
 ·rw [if_pos c4] at H
  have c4b0:(t102 == 0) = true:=beq_iff_eq.mpr c4
  have c4b1:(t102 != 0) = false:=bne_eq_false_iff_eq.mpr c4
  clear c4
  have H':=Aside0.mk H
  clear H
  go_enter Try.func30,Try.ntmps30
  go_wp2_with (first|((with_reducible refine gate_callee (f:=28) rfl ?_);refine goesL_ (some 15) rfl rfl Try.func28 (by kernel_rfl) rfl #[.slice A0 l0.length c0,.slice A1 l1.length c1] rfl (by (try simp only [List.map_toArray,List.map_cons,List.map_nil]);first|done|rfl|(simp only [List.length_drop,List.length_take];rfl)) ?_;(with_reducible refine (contangoref23_Losses.calls k _ _ l0 _ _ l1 t101 t102 _ ?side1 ?side2 ?side3 ?side4 A3.out).mono ?_);(case side1=>repeat (first|exact HR0.out|(with_reducible refine Kd.C_alloc ?_ _)|(with_reducible refine Kd.C_drewN ?_ _)|(with_reducible refine Kd.C_drew ?_)));(case side2=>exact HC0.out);(case side3=>repeat (first|exact HR1.out|(with_reducible refine Kd.C_alloc ?_ _)|(with_reducible refine Kd.C_drewN ?_ _)|(with_reducible refine Kd.C_drew ?_)));(case side4=>exact HC1.out);rintro e w5 ⟨v103,rfl,ho0,hb⟩;refine ⟨_,rfl,?_⟩;have n0_:=Aside0.mk (Kd.R_lower ho0 (below_size (by repeat (first|(with_reducible first|exact HB.out|apply below_alloc|apply pw_below_drewN|apply below_drew1)|exact HB.out))));have n1_:=Aside0.mk (below_step (by repeat (first|(with_reducible first|exact HB.out|apply below_alloc|apply pw_below_drewN|apply below_drew1)|exact HB.out)) hb);clear HB;have HO104:=n0_;have HB:=n1_;clear n0_ n1_;(try clear hb);(try clear hb2);(try clear hk);(try clear hi);(try clear ho0)))
  go_loopg [9,10,11] k (fun kq v9 v10 v11 w'=>∃ (x9_1:Int) (x10_1:Int) (x11_1:Int),v9 = .int .i64 x9_1 ∧ v10 = .int .i64 x10_1 ∧ v11 = .int .i64 x11_1 ∧ Aside0 (contangoref23_Risk.l0 kq t101 x9_1 x10_1 x11_1 = some (r1,r2,r3)) ∧ Aside0 (kq ≤ k) ∧ Aside0 (Kd.R (Kd.int .i64) 3 w' w.heap.size (fun _=>True) v103 t101) ∧ Aside0 (Below w.heap.size w w'))
  case atStart=>exact ⟨(0),(0),(0),(by first|rfl|(simp;done)|(simp [*];done)),(by first|rfl|(simp;done)|(simp [*];done)),(by first|rfl|(simp;done)|(simp [*];done)),H',⟨Nat.le_refl _⟩,⟨by (with_reducible repeat (first|apply Kd.R_alloc|apply Kd.R_drewN|apply Kd.R_drew));exact HO104.out⟩,⟨by repeat (first|(with_reducible first|exact HB.out|apply below_alloc|apply pw_below_drewN|apply below_drew1)|exact HB.out)⟩⟩
  case round =>
   clear H'
   try clear c1
   try clear c2
   try clear p2
   try clear c3
   try clear c4
   try clear c4b0
   try clear c4b1
   obtain ⟨x9_1,x10_1,x11_1,rfl,rfl,rfl,HA,HK1,HO_7,HB⟩:=hrel
   cases gk with
   | zero=>exact absurd HA.out (by simp [contangoref23_Risk.l0])
   | succ k1 =>
    have H:=HA.out
    clear HA
    simp only [contangoref23_Risk.l0] at H
    by_cases c6:x11_1 < (t101.length:Int)
    ·rw [if_pos c6] at H
     have c6b0:decide (x11_1 < (t101.length:Int)) = true:=decide_eq_true c6
     clear c6
     by_cases c7:0 ≤ x11_1
     ·rw [if_pos c7] at H
      have c7b0:decide (0 ≤ x11_1) = true:=decide_eq_true c7
      clear c7
      by_cases c8:(rd t101 x11_1) > x9_1
      ·rw [if_pos c8] at H
       have c8b0:decide (x9_1 < (rd t101 x11_1)) = true:=decide_eq_true c8
       clear c8
       have H':=Aside0.mk H
       clear H
       obtain ⟨Ao9,co9,eo9⟩:=Kd.R_slice HO_7.out
       subst eo9
       have p105:0 ≤ (x11_1:Int):=of_decide_eq_true (by first|(with_reducible assumption)|assumption)
       have q105:x11_1 < (t101.length:Int):=of_decide_eq_true (by first|(with_reducible assumption)|assumption)
       obtain ⟨ad105,e105,hx105_0⟩:=Kd.at_int (Kd.R_reads' HO_7.out).2.2 x11_1 p105 q105
       cases e105
       replace p105:=eq_true p105
       replace q105:=eq_true q105
       have p106:0 ≤ (x11_1:Int):=of_decide_eq_true (by first|(with_reducible assumption)|assumption)
       have q106:x11_1 < (t101.length:Int):=of_decide_eq_true (by first|(with_reducible assumption)|assumption)
       obtain ⟨ad106,e106,hx106_0⟩:=Kd.at_int (Kd.R_reads' HO_7.out).2.2 x11_1 p106 q106
       obtain rfl:ad105 = ad106:=(by injection e106)
       replace p106:=eq_true p106
       replace q106:=eq_true q106
       go_wp2
       go_roundg k1
       case measure=>have:=HK1.out;omega
       case rel=>exact ⟨(rd t101 x11_1),(x11_1),(wrap64 (x11_1 + 1)),(by first|rfl|(simp;done)|(simp [*];done)),(by first|rfl|(simp;done)|(simp [*];done)),(by first|rfl|(simp;done)|(simp [*];done)),H',⟨by have:=HK1.out;omega⟩,⟨by (with_reducible repeat (first|apply Kd.R_alloc|apply Kd.R_drewN|apply Kd.R_drew));exact HO_7.out⟩,⟨by repeat (first|(with_reducible first|exact HB.out|apply below_alloc|apply pw_below_drewN|apply below_drew1)|exact HB.out)⟩⟩
      ·rw [if_neg c8] at H
       have c8b0:decide (x9_1 < (rd t101 x11_1)) = false:=decide_eq_false c8
       clear c8
       have H':=Aside0.mk H
       clear H
       obtain ⟨Ao10,co10,eo10⟩:=Kd.R_slice HO_7.out
       subst eo10
       have p105:0 ≤ (x11_1:Int):=of_decide_eq_true (by first|(with_reducible assumption)|assumption)
       have q105:x11_1 < (t101.length:Int):=of_decide_eq_true (by first|(with_reducible assumption)|assumption)
       obtain ⟨ad105,e105,hx105_0⟩:=Kd.at_int (Kd.R_reads' HO_7.out).2.2 x11_1 p105 q105
       cases e105
       replace p105:=eq_true p105
       replace q105:=eq_true q105
       go_wp2
       go_roundg k1
       case measure=>have:=HK1.out;omega
       case rel=>exact ⟨(x9_1),(x10_1),(wrap64 (x11_1 + 1)),(by first|rfl|(simp;done)|(simp [*];done)),(by first|rfl|(simp;done)|(simp [*];done)),(by first|rfl|(simp;done)|(simp [*];done)),H',⟨by have:=HK1.out;omega⟩,⟨by (with_reducible repeat (first|apply Kd.R_alloc|apply Kd.R_drewN|apply Kd.R_drew));exact HO_7.out⟩,⟨by repeat (first|(with_reducible first|exact HB.out|apply below_alloc|apply pw_below_drewN|apply below_drew1)|exact HB.out)⟩⟩
     ·rw [if_neg c7] at H
      exact absurd H (by simp)
    ·rw [if_neg c6] at H
     have c6b0:decide (x11_1 < (t101.length:Int)) = false:=decide_eq_false c6
     clear c6
     simp only [Option.some.injEq,Prod.mk.injEq] at H
     obtain ⟨rfl,rfl,rfl⟩:=H
     obtain ⟨Ao11,co11,eo11⟩:=Kd.R_slice HO_7.out
     subst eo11
     go_wp2
     go_ret3
     exact ⟨by first|rfl|(simp [errW_none,errW_some] <;> rfl)|(simp [*,errW_none,errW_some] <;> rfl),by repeat (first|(with_reducible first|exact HB.out|apply below_alloc|apply pw_below_drewN|apply below_drew1)|exact HB.out)⟩
 ·rw [if_neg c4] at H
  have c4b0:(t102 == 0) = false:=beq_eq_false_iff_ne.mpr c4
  have c4b1:(t102 != 0) = true:=bne_iff_ne.mpr c4
  simp only [Option.some.injEq,Prod.mk.injEq] at H
  obtain ⟨rfl,rfl,rfl⟩:=H
  go_enter Try.func30,Try.ntmps30
  go_wp2_with (first|((with_reducible refine gate_callee (f:=28) rfl ?_);refine goesL_ (some 15) rfl rfl Try.func28 (by kernel_rfl) rfl #[.slice A0 l0.length c0,.slice A1 l1.length c1] rfl (by (try simp only [List.map_toArray,List.map_cons,List.map_nil]);first|done|rfl|(simp only [List.length_drop,List.length_take];rfl)) ?_;(with_reducible refine (contangoref23_Losses.calls k _ _ l0 _ _ l1 t101 t102 _ ?side1 ?side2 ?side3 ?side4 A3.out).mono ?_);(case side1=>repeat (first|exact HR0.out|(with_reducible refine Kd.C_alloc ?_ _)|(with_reducible refine Kd.C_drewN ?_ _)|(with_reducible refine Kd.C_drew ?_)));(case side2=>exact HC0.out);(case side3=>repeat (first|exact HR1.out|(with_reducible refine Kd.C_alloc ?_ _)|(with_reducible refine Kd.C_drewN ?_ _)|(with_reducible refine Kd.C_drew ?_)));(case side4=>exact HC1.out);rintro e w12 ⟨v103,rfl,ho0,hb⟩;refine ⟨_,rfl,?_⟩;have n0_:=Aside0.mk (Kd.R_lower ho0 (below_size (by repeat (first|(with_reducible first|exact HB.out|apply below_alloc|apply pw_below_drewN|apply below_drew1)|exact HB.out))));have n1_:=Aside0.mk (below_step (by repeat (first|(with_reducible first|exact HB.out|apply below_alloc|apply pw_below_drewN|apply below_drew1)|exact HB.out)) hb);clear HB;have HO104:=n0_;have HB:=n1_;clear n0_ n1_;(try clear hb);(try clear hb2);(try clear hk);(try clear hi);(try clear ho0)))
  go_ret3
  exact ⟨by first|rfl|(simp [errW_none,errW_some] <;> rfl)|(simp [*,errW_none,errW_some] <;> rfl),by repeat (first|(with_reducible first|exact HB.out|apply below_alloc|apply pw_below_drewN|apply below_drew1)|exact HB.out)⟩
end Go.Proofs.Ytbgeceiddcokmaa.X
end
section
namespace Go.Proofs.Ytbgeceiddcokmaa.X
open Go.RowKit Go.Proofs.YtbgeceiddcokmaaW.PrintWords Go.Proofs.YtbgeceiddcokmaaW.PrintLast Go.Proofs.YtbgeceiddcokmaaW.PrintMore
attribute [local go_sem] max2_int min2_int max_two min_two max_three min_three max_four min_four
set_option linter.unusedVariables false
set_option linter.unusedSimpArgs false
mutual
def contangolaw23_ScanLosses.j0:Nat → List (S73) → List (S91) → List (S73) → List (S91) → List Int → Bool → Option (Bool)
 | 0,_,_,_,_,_,_=>none
 | k + 1,x0,x1,x5,x6,x7,x84=>if x84 = true then (none) else (contangolaw23_ScanLosses.l0 k x0 x1 x5 x6 x7 (x7.length:Int) 0)
def contangolaw23_ScanLosses.l0:Nat → List (S73) → List (S91) → List (S73) → List (S91) → List Int → Int → Int → Option (Bool)
 | 0,_,_,_,_,_,_,_=>none
 | k + 1,x0,x1,x5,x6,x7,x86,x87=>if x87 < x86 then (if 0 ≤ x87 then (if x87 < (x7.length:Int) then (contangolaw23_ScanLosses.l0 k x0 x1 x5 x6 (x7.set (x87:Int).toNat 1099511627776) x86 (wrap64 (x87 + 1))) else (none)) else (none)) else ((contangolaw23_kept.f k x6 x1).bind fun t130=>(if t130 = true then ((contangoref23_Positions.f k x5 x0).bind fun t131=>(if t131 = true then ((contangolaw23_goes.f k).bind fun t132=>(some t132)) else (none))) else (none)))
end
def contangolaw23_ScanLosses.f (k:Nat) (l0:List (S73)) (l1:List (S91)):Option (Bool):=(contangolaw23_few.f k l0 l1).bind fun t101=>(if t101 = true then ((some (([]:List (S73)):List (S73))).bind fun y103=>(if y103.length + l0.length < 2513169434916 then ((some (y103 ++ l0:List (S73))).bind fun y106=>((contangolaw23_own.f k l1).bind fun t109=>((scan_Losses.f k y106 t109).bind fun bt112=>((contangoref23_Losses.f k l0 l1).bind fun bt116=>((scan_Risk.f k y106 t109).bind fun bt120=>((contangoref23_Risk.f k l0 l1).bind fun bt123=>((scan_Check.f k t109).bind fun t126=>((contangoref23_Check.f k l1).bind fun t127=>(if t126 = t127 then ((contangoref23_Same.f k bt112.1 bt116.1).bind fun t128=>(if t128 = true then (if bt112.2 = bt116.2 then (if bt120.1 = bt123.1 then (if bt120.2.1 = bt123.2.1 then (contangolaw23_ScanLosses.j0 k l0 l1 y106 t109 bt112.1 (bt120.2.2 != bt123.2.2)) else (contangolaw23_ScanLosses.j0 k l0 l1 y106 t109 bt112.1 true)) else (contangolaw23_ScanLosses.j0 k l0 l1 y106 t109 bt112.1 true)) else (contangolaw23_ScanLosses.j0 k l0 l1 y106 t109 bt112.1 true)) else (contangolaw23_ScanLosses.j0 k l0 l1 y106 t109 bt112.1 true))) else (contangolaw23_ScanLosses.j0 k l0 l1 y106 t109 bt112.1 true)))))))))) else (none))) else ((contangolaw23_goes.f k).bind fun t102=>(some t102)))
theorem contangolaw23_ScanLosses.mono_l:∀ k,(∀ y0 y1 y2 y3 y4 y5,LeO (contangolaw23_ScanLosses.j0 k y0 y1 y2 y3 y4 y5) (contangolaw23_ScanLosses.j0 (k + 1) y0 y1 y2 y3 y4 y5)) ∧ (∀ y0 y1 y2 y3 y4 y5 y6,LeO (contangolaw23_ScanLosses.l0 k y0 y1 y2 y3 y4 y5 y6) (contangolaw23_ScanLosses.l0 (k + 1) y0 y1 y2 y3 y4 y5 y6))
 | 0=>⟨fun _ _ _ _ _ _ r h=>by simp [contangolaw23_ScanLosses.j0] at h,fun _ _ _ _ _ _ _ r h=>by simp [contangolaw23_ScanLosses.l0] at h⟩
 | k + 1=>by
  obtain ⟨ih0,ih1⟩:=contangolaw23_ScanLosses.mono_l k
  refine ⟨?_,?_⟩
  ·intro y0 y1 y2 y3 y4 y5
   unfold contangolaw23_ScanLosses.j0
   repeat' first
   | (with_reducible exact ih0 _ _ _ _ _ _)
   | (with_reducible exact ih1 _ _ _ _ _ _ _)
   | (with_reducible exact contangolaw23_few.mono _ _ _)
   | (with_reducible exact contangolaw23_goes.mono _)
   | (with_reducible exact contangolaw23_kept.mono _ _ _)
   | (with_reducible exact contangolaw23_own.mono _ _)
   | (with_reducible exact contangoref23_Check.mono _ _)
   | (with_reducible exact contangoref23_Losses.mono _ _ _)
   | (with_reducible exact contangoref23_Positions.mono _ _ _)
   | (with_reducible exact contangoref23_Risk.mono _ _ _)
   | (with_reducible exact contangoref23_Same.mono _ _ _)
   | (with_reducible exact scan_Check.mono _ _)
   | (with_reducible exact scan_Losses.mono _ _ _)
   | (with_reducible exact scan_Risk.mono _ _ _)
   | (with_reducible exact LeO.refl _)
   | (with_reducible exact LeO.none _)
   | (with_reducible refine LeO.ite ?_ ?_)
   | (with_reducible refine LeO.bind ?_ (fun _=>?_))
   | exact ih0 _ _ _ _ _ _
   | exact ih1 _ _ _ _ _ _ _
   | exact contangolaw23_few.mono _ _ _
   | exact contangolaw23_goes.mono _
   | exact contangolaw23_kept.mono _ _ _
   | exact contangolaw23_own.mono _ _
   | exact contangoref23_Check.mono _ _
   | exact contangoref23_Losses.mono _ _ _
   | exact contangoref23_Positions.mono _ _ _
   | exact contangoref23_Risk.mono _ _ _
   | exact contangoref23_Same.mono _ _ _
   | exact scan_Check.mono _ _
   | exact scan_Losses.mono _ _ _
   | exact scan_Risk.mono _ _ _
   | exact LeO.none _
   | refine LeO.ite ?_ ?_
   | refine LeO.bind ?_ (fun _=>?_)
  ·intro y0 y1 y2 y3 y4 y5 y6
   unfold contangolaw23_ScanLosses.l0
   repeat' first
   | (with_reducible exact ih0 _ _ _ _ _ _)
   | (with_reducible exact ih1 _ _ _ _ _ _ _)
   | (with_reducible exact contangolaw23_few.mono _ _ _)
   | (with_reducible exact contangolaw23_goes.mono _)
   | (with_reducible exact contangolaw23_kept.mono _ _ _)
   | (with_reducible exact contangolaw23_own.mono _ _)
   | (with_reducible exact contangoref23_Check.mono _ _)
   | (with_reducible exact contangoref23_Losses.mono _ _ _)
   | (with_reducible exact contangoref23_Positions.mono _ _ _)
   | (with_reducible exact contangoref23_Risk.mono _ _ _)
   | (with_reducible exact contangoref23_Same.mono _ _ _)
   | (with_reducible exact scan_Check.mono _ _)
   | (with_reducible exact scan_Losses.mono _ _ _)
   | (with_reducible exact scan_Risk.mono _ _ _)
   | (with_reducible exact LeO.refl _)
   | (with_reducible exact LeO.none _)
   | (with_reducible refine LeO.ite ?_ ?_)
   | (with_reducible refine LeO.bind ?_ (fun _=>?_))
   | exact ih0 _ _ _ _ _ _
   | exact ih1 _ _ _ _ _ _ _
   | exact contangolaw23_few.mono _ _ _
   | exact contangolaw23_goes.mono _
   | exact contangolaw23_kept.mono _ _ _
   | exact contangolaw23_own.mono _ _
   | exact contangoref23_Check.mono _ _
   | exact contangoref23_Losses.mono _ _ _
   | exact contangoref23_Positions.mono _ _ _
   | exact contangoref23_Risk.mono _ _ _
   | exact contangoref23_Same.mono _ _ _
   | exact scan_Check.mono _ _
   | exact scan_Losses.mono _ _ _
   | exact scan_Risk.mono _ _ _
   | exact LeO.none _
   | refine LeO.ite ?_ ?_
   | refine LeO.bind ?_ (fun _=>?_)
theorem contangolaw23_ScanLosses.mono:∀ a0 a1 k,LeO (contangolaw23_ScanLosses.f k a0 a1) (contangolaw23_ScanLosses.f (k + 1) a0 a1):=by
 intro a0 a1 k
 obtain ⟨ih0,ih1⟩:=contangolaw23_ScanLosses.mono_l k
 unfold contangolaw23_ScanLosses.f
 repeat' first
   | (with_reducible exact ih0 _ _ _ _ _ _)
   | (with_reducible exact ih1 _ _ _ _ _ _ _)
   | (with_reducible exact contangolaw23_few.mono _ _ _)
   | (with_reducible exact contangolaw23_goes.mono _)
   | (with_reducible exact contangolaw23_kept.mono _ _ _)
   | (with_reducible exact contangolaw23_own.mono _ _)
   | (with_reducible exact contangoref23_Check.mono _ _)
   | (with_reducible exact contangoref23_Losses.mono _ _ _)
   | (with_reducible exact contangoref23_Positions.mono _ _ _)
   | (with_reducible exact contangoref23_Risk.mono _ _ _)
   | (with_reducible exact contangoref23_Same.mono _ _ _)
   | (with_reducible exact scan_Check.mono _ _)
   | (with_reducible exact scan_Losses.mono _ _ _)
   | (with_reducible exact scan_Risk.mono _ _ _)
   | (with_reducible exact LeO.refl _)
   | (with_reducible exact LeO.none _)
   | (with_reducible refine LeO.ite ?_ ?_)
   | (with_reducible refine LeO.bind ?_ (fun _=>?_))
   | exact ih0 _ _ _ _ _ _
   | exact ih1 _ _ _ _ _ _ _
   | exact contangolaw23_few.mono _ _ _
   | exact contangolaw23_goes.mono _
   | exact contangolaw23_kept.mono _ _ _
   | exact contangolaw23_own.mono _ _
   | exact contangoref23_Check.mono _ _
   | exact contangoref23_Losses.mono _ _ _
   | exact contangoref23_Positions.mono _ _ _
   | exact contangoref23_Risk.mono _ _ _
   | exact contangoref23_Same.mono _ _ _
   | exact scan_Check.mono _ _
   | exact scan_Losses.mono _ _ _
   | exact scan_Risk.mono _ _ _
   | exact LeO.none _
   | refine LeO.ite ?_ ?_
   | refine LeO.bind ?_ (fun _=>?_)
set_option maxHeartbeats 8000000 in
set_option maxRecDepth 100000 in
theorem contangolaw23_ScanLosses.calls (k:Nat) (A0:Option Addr) (c0:Nat) (l0:List (S73)) (A1:Option Addr) (c1:Nat) (l1:List (S91)) (r:Bool) (w:World) (hr0:Kd.C k73 w A0 l0.length l0) (hc0:l0.length ≤ c0) (hr1:Kd.C k91 w A1 l1.length l1) (hc1:l1.length ≤ c1) (h:contangolaw23_ScanLosses.f k l0 l1 = some r) :
  Calls Try.prog 7 #[.slice A0 l0.length c0,.slice A1 l1.length c1] w fun e w'=>e = .returned (.bool r) ∧ Below w.heap.size w w':=by
 have HR0:=Aside0.mk hr0
 have HC0:=Aside0.mk hc0
 clear hr0 hc0
 have HR1:=Aside0.mk hr1
 have HC1:=Aside0.mk hc1
 clear hr1 hc1
 have HB:=Aside0.mk (Below.refl w.heap.size w)
 have H:((contangolaw23_few.f k l0 l1).bind fun t101=>(if t101 = true then ((some (([]:List (S73)):List (S73))).bind fun y103=>(if y103.length + l0.length < 2513169434916 then ((some (y103 ++ l0:List (S73))).bind fun y106=>((contangolaw23_own.f k l1).bind fun t109=>((scan_Losses.f k y106 t109).bind fun bt112=>((contangoref23_Losses.f k l0 l1).bind fun bt116=>((scan_Risk.f k y106 t109).bind fun bt120=>((contangoref23_Risk.f k l0 l1).bind fun bt123=>((scan_Check.f k t109).bind fun t126=>((contangoref23_Check.f k l1).bind fun t127=>(if t126 = t127 then ((contangoref23_Same.f k bt112.1 bt116.1).bind fun t128=>(if t128 = true then (if bt112.2 = bt116.2 then (if bt120.1 = bt123.1 then (if bt120.2.1 = bt123.2.1 then (contangolaw23_ScanLosses.j0 k l0 l1 y106 t109 bt112.1 (bt120.2.2 != bt123.2.2)) else (contangolaw23_ScanLosses.j0 k l0 l1 y106 t109 bt112.1 true)) else (contangolaw23_ScanLosses.j0 k l0 l1 y106 t109 bt112.1 true)) else (contangolaw23_ScanLosses.j0 k l0 l1 y106 t109 bt112.1 true)) else (contangolaw23_ScanLosses.j0 k l0 l1 y106 t109 bt112.1 true))) else (contangolaw23_ScanLosses.j0 k l0 l1 y106 t109 bt112.1 true)))))))))) else (none))) else ((contangolaw23_goes.f k).bind fun t102=>(some t102)))) = some r:=h
 clear h
 replace H:=Option.bind_eq_some_iff.mp H
 obtain ⟨t101,A30,H⟩:=H
 replace H:(if t101 = true then ((some (([]:List (S73)):List (S73))).bind fun y103=>(if y103.length + l0.length < 2513169434916 then ((some (y103 ++ l0:List (S73))).bind fun y106=>((contangolaw23_own.f k l1).bind fun t109=>((scan_Losses.f k y106 t109).bind fun bt112=>((contangoref23_Losses.f k l0 l1).bind fun bt116=>((scan_Risk.f k y106 t109).bind fun bt120=>((contangoref23_Risk.f k l0 l1).bind fun bt123=>((scan_Check.f k t109).bind fun t126=>((contangoref23_Check.f k l1).bind fun t127=>(if t126 = t127 then ((contangoref23_Same.f k bt112.1 bt116.1).bind fun t128=>(if t128 = true then (if bt112.2 = bt116.2 then (if bt120.1 = bt123.1 then (if bt120.2.1 = bt123.2.1 then (contangolaw23_ScanLosses.j0 k l0 l1 y106 t109 bt112.1 (bt120.2.2 != bt123.2.2)) else (contangolaw23_ScanLosses.j0 k l0 l1 y106 t109 bt112.1 true)) else (contangolaw23_ScanLosses.j0 k l0 l1 y106 t109 bt112.1 true)) else (contangolaw23_ScanLosses.j0 k l0 l1 y106 t109 bt112.1 true)) else (contangolaw23_ScanLosses.j0 k l0 l1 y106 t109 bt112.1 true))) else (contangolaw23_ScanLosses.j0 k l0 l1 y106 t109 bt112.1 true)))))))))) else (none))) else ((contangolaw23_goes.f k).bind fun t102=>(some t102))) = some r:=H
 have A3:=Aside0.mk A30
 clear A30
 by_cases c4:t101 = true
 ·subst c4
  have H1:((some (([]:List (S73)):List (S73))).bind fun y103=>(if y103.length + l0.length < 2513169434916 then ((some (y103 ++ l0:List (S73))).bind fun y106=>((contangolaw23_own.f k l1).bind fun t109=>((scan_Losses.f k y106 t109).bind fun bt112=>((contangoref23_Losses.f k l0 l1).bind fun bt116=>((scan_Risk.f k y106 t109).bind fun bt120=>((contangoref23_Risk.f k l0 l1).bind fun bt123=>((scan_Check.f k t109).bind fun t126=>((contangoref23_Check.f k l1).bind fun t127=>(if t126 = t127 then ((contangoref23_Same.f k bt112.1 bt116.1).bind fun t128=>(if t128 = true then (if bt112.2 = bt116.2 then (if bt120.1 = bt123.1 then (if bt120.2.1 = bt123.2.1 then (contangolaw23_ScanLosses.j0 k l0 l1 y106 t109 bt112.1 (bt120.2.2 != bt123.2.2)) else (contangolaw23_ScanLosses.j0 k l0 l1 y106 t109 bt112.1 true)) else (contangolaw23_ScanLosses.j0 k l0 l1 y106 t109 bt112.1 true)) else (contangolaw23_ScanLosses.j0 k l0 l1 y106 t109 bt112.1 true)) else (contangolaw23_ScanLosses.j0 k l0 l1 y106 t109 bt112.1 true))) else (contangolaw23_ScanLosses.j0 k l0 l1 y106 t109 bt112.1 true)))))))))) else (none))) = some r:=by rw [if_pos rfl] at H;exact H
  clear H
  have H:=H1
  clear H1
  obtain ⟨y103,hy103⟩:∃ y_:List (S73),y_ = (([]:List (S73))):=⟨_,rfl⟩
  replace H:(if y103.length + l0.length < 2513169434916 then ((some (y103 ++ l0:List (S73))).bind fun y106=>((contangolaw23_own.f k l1).bind fun t109=>((scan_Losses.f k y106 t109).bind fun bt112=>((contangoref23_Losses.f k l0 l1).bind fun bt116=>((scan_Risk.f k y106 t109).bind fun bt120=>((contangoref23_Risk.f k l0 l1).bind fun bt123=>((scan_Check.f k t109).bind fun t126=>((contangoref23_Check.f k l1).bind fun t127=>(if t126 = t127 then ((contangoref23_Same.f k bt112.1 bt116.1).bind fun t128=>(if t128 = true then (if bt112.2 = bt116.2 then (if bt120.1 = bt123.1 then (if bt120.2.1 = bt123.2.1 then (contangolaw23_ScanLosses.j0 k l0 l1 y106 t109 bt112.1 (bt120.2.2 != bt123.2.2)) else (contangolaw23_ScanLosses.j0 k l0 l1 y106 t109 bt112.1 true)) else (contangolaw23_ScanLosses.j0 k l0 l1 y106 t109 bt112.1 true)) else (contangolaw23_ScanLosses.j0 k l0 l1 y106 t109 bt112.1 true)) else (contangolaw23_ScanLosses.j0 k l0 l1 y106 t109 bt112.1 true))) else (contangolaw23_ScanLosses.j0 k l0 l1 y106 t109 bt112.1 true)))))))))) else (none)) = some r:=by first|(rw [hy103];with_reducible exact H)|(have H2_:=(Option.bind_some _ _).symm.trans H;rw [hy103];with_reducible exact H2_)|(have H2_:=(Option.bind_some _ _).symm.trans H;with_reducible exact H2_)|with_reducible exact H|(rw [hy103];exact H)|exact H
  have Ny103:=Aside0.mk hy103
  clear hy103
  by_cases c5:y103.length + l0.length < 2513169434916
  ·rw [if_pos c5] at H
   have LMc5:=Aside0.mk c5
   clear c5
   obtain ⟨y106,hy106⟩:∃ y_:List (S73),y_ = (y103 ++ l0):=⟨_,rfl⟩
   replace H:((contangolaw23_own.f k l1).bind fun t109=>((scan_Losses.f k y106 t109).bind fun bt112=>((contangoref23_Losses.f k l0 l1).bind fun bt116=>((scan_Risk.f k y106 t109).bind fun bt120=>((contangoref23_Risk.f k l0 l1).bind fun bt123=>((scan_Check.f k t109).bind fun t126=>((contangoref23_Check.f k l1).bind fun t127=>(if t126 = t127 then ((contangoref23_Same.f k bt112.1 bt116.1).bind fun t128=>(if t128 = true then (if bt112.2 = bt116.2 then (if bt120.1 = bt123.1 then (if bt120.2.1 = bt123.2.1 then (contangolaw23_ScanLosses.j0 k l0 l1 y106 t109 bt112.1 (bt120.2.2 != bt123.2.2)) else (contangolaw23_ScanLosses.j0 k l0 l1 y106 t109 bt112.1 true)) else (contangolaw23_ScanLosses.j0 k l0 l1 y106 t109 bt112.1 true)) else (contangolaw23_ScanLosses.j0 k l0 l1 y106 t109 bt112.1 true)) else (contangolaw23_ScanLosses.j0 k l0 l1 y106 t109 bt112.1 true))) else (contangolaw23_ScanLosses.j0 k l0 l1 y106 t109 bt112.1 true))))))))) = some r:=by first|(rw [hy106];with_reducible exact H)|(have H2_:=(Option.bind_some _ _).symm.trans H;rw [hy106];with_reducible exact H2_)|(have H2_:=(Option.bind_some _ _).symm.trans H;with_reducible exact H2_)|with_reducible exact H|(rw [hy106];exact H)|exact H
   have Ny106:=Aside0.mk hy106
   clear hy106
   replace H:=Option.bind_eq_some_iff.mp H
   obtain ⟨t109,A60,H⟩:=H
   replace H:((scan_Losses.f k y106 t109).bind fun bt112=>((contangoref23_Losses.f k l0 l1).bind fun bt116=>((scan_Risk.f k y106 t109).bind fun bt120=>((contangoref23_Risk.f k l0 l1).bind fun bt123=>((scan_Check.f k t109).bind fun t126=>((contangoref23_Check.f k l1).bind fun t127=>(if t126 = t127 then ((contangoref23_Same.f k bt112.1 bt116.1).bind fun t128=>(if t128 = true then (if bt112.2 = bt116.2 then (if bt120.1 = bt123.1 then (if bt120.2.1 = bt123.2.1 then (contangolaw23_ScanLosses.j0 k l0 l1 y106 t109 bt112.1 (bt120.2.2 != bt123.2.2)) else (contangolaw23_ScanLosses.j0 k l0 l1 y106 t109 bt112.1 true)) else (contangolaw23_ScanLosses.j0 k l0 l1 y106 t109 bt112.1 true)) else (contangolaw23_ScanLosses.j0 k l0 l1 y106 t109 bt112.1 true)) else (contangolaw23_ScanLosses.j0 k l0 l1 y106 t109 bt112.1 true))) else (contangolaw23_ScanLosses.j0 k l0 l1 y106 t109 bt112.1 true)))))))) = some r:=H
   have A6:=Aside0.mk A60
   clear A60
   replace H:=Option.bind_eq_some_iff.mp H
   obtain ⟨⟨t112,t113⟩,A70,H⟩:=H
   replace H:((contangoref23_Losses.f k l0 l1).bind fun bt116=>((scan_Risk.f k y106 t109).bind fun bt120=>((contangoref23_Risk.f k l0 l1).bind fun bt123=>((scan_Check.f k t109).bind fun t126=>((contangoref23_Check.f k l1).bind fun t127=>(if t126 = t127 then ((contangoref23_Same.f k t112 bt116.1).bind fun t128=>(if t128 = true then (if t113 = bt116.2 then (if bt120.1 = bt123.1 then (if bt120.2.1 = bt123.2.1 then (contangolaw23_ScanLosses.j0 k l0 l1 y106 t109 t112 (bt120.2.2 != bt123.2.2)) else (contangolaw23_ScanLosses.j0 k l0 l1 y106 t109 t112 true)) else (contangolaw23_ScanLosses.j0 k l0 l1 y106 t109 t112 true)) else (contangolaw23_ScanLosses.j0 k l0 l1 y106 t109 t112 true)) else (contangolaw23_ScanLosses.j0 k l0 l1 y106 t109 t112 true))) else (contangolaw23_ScanLosses.j0 k l0 l1 y106 t109 t112 true))))))) = some r:=H
   have A7:=Aside0.mk A70
   clear A70
   replace H:=Option.bind_eq_some_iff.mp H
   obtain ⟨⟨t116,t117⟩,A80,H⟩:=H
   replace H:((scan_Risk.f k y106 t109).bind fun bt120=>((contangoref23_Risk.f k l0 l1).bind fun bt123=>((scan_Check.f k t109).bind fun t126=>((contangoref23_Check.f k l1).bind fun t127=>(if t126 = t127 then ((contangoref23_Same.f k t112 t116).bind fun t128=>(if t128 = true then (if t113 = t117 then (if bt120.1 = bt123.1 then (if bt120.2.1 = bt123.2.1 then (contangolaw23_ScanLosses.j0 k l0 l1 y106 t109 t112 (bt120.2.2 != bt123.2.2)) else (contangolaw23_ScanLosses.j0 k l0 l1 y106 t109 t112 true)) else (contangolaw23_ScanLosses.j0 k l0 l1 y106 t109 t112 true)) else (contangolaw23_ScanLosses.j0 k l0 l1 y106 t109 t112 true)) else (contangolaw23_ScanLosses.j0 k l0 l1 y106 t109 t112 true))) else (contangolaw23_ScanLosses.j0 k l0 l1 y106 t109 t112 true)))))) = some r:=H
   have A8:=Aside0.mk A80
   clear A80
   replace H:=Option.bind_eq_some_iff.mp H
   obtain ⟨⟨t120,t121,t122⟩,A90,H⟩:=H
   replace H:((contangoref23_Risk.f k l0 l1).bind fun bt123=>((scan_Check.f k t109).bind fun t126=>((contangoref23_Check.f k l1).bind fun t127=>(if t126 = t127 then ((contangoref23_Same.f k t112 t116).bind fun t128=>(if t128 = true then (if t113 = t117 then (if t120 = bt123.1 then (if t121 = bt123.2.1 then (contangolaw23_ScanLosses.j0 k l0 l1 y106 t109 t112 (t122 != bt123.2.2)) else (contangolaw23_ScanLosses.j0 k l0 l1 y106 t109 t112 true)) else (contangolaw23_ScanLosses.j0 k l0 l1 y106 t109 t112 true)) else (contangolaw23_ScanLosses.j0 k l0 l1 y106 t109 t112 true)) else (contangolaw23_ScanLosses.j0 k l0 l1 y106 t109 t112 true))) else (contangolaw23_ScanLosses.j0 k l0 l1 y106 t109 t112 true))))) = some r:=H
   have A9:=Aside0.mk A90
   clear A90
   replace H:=Option.bind_eq_some_iff.mp H
   obtain ⟨⟨t123,t124,t125⟩,A100,H⟩:=H
   replace H:((scan_Check.f k t109).bind fun t126=>((contangoref23_Check.f k l1).bind fun t127=>(if t126 = t127 then ((contangoref23_Same.f k t112 t116).bind fun t128=>(if t128 = true then (if t113 = t117 then (if t120 = t123 then (if t121 = t124 then (contangolaw23_ScanLosses.j0 k l0 l1 y106 t109 t112 (t122 != t125)) else (contangolaw23_ScanLosses.j0 k l0 l1 y106 t109 t112 true)) else (contangolaw23_ScanLosses.j0 k l0 l1 y106 t109 t112 true)) else (contangolaw23_ScanLosses.j0 k l0 l1 y106 t109 t112 true)) else (contangolaw23_ScanLosses.j0 k l0 l1 y106 t109 t112 true))) else (contangolaw23_ScanLosses.j0 k l0 l1 y106 t109 t112 true)))) = some r:=H
   have A10:=Aside0.mk A100
   clear A100
   have HC11:=Aside0.mk H
   clear H
   go_enter Try.func7,Try.ntmps7
   go_upto_region 8 with (first|((with_reducible refine gate_callee (f:=24) rfl ?_);refine goesL_ (some 20) rfl rfl Try.func24 (by kernel_rfl) rfl #[.slice A0 l0.length c0,.slice A1 l1.length c1] rfl (by (try simp only [List.map_toArray,List.map_cons,List.map_nil]);first|done|rfl|(simp only [List.length_drop,List.length_take];rfl)) ?_;(with_reducible refine (contangolaw23_few.calls k _ _ l0 _ _ l1 true _ ?side1 ?side2 ?side3 ?side4 A3.out).mono ?_);(case side1=>repeat (first|exact HR0.out|(with_reducible refine Kd.C_alloc ?_ _)|(with_reducible refine Kd.C_drewN ?_ _)|(with_reducible refine Kd.C_drew ?_)));(case side2=>exact HC0.out);(case side3=>repeat (first|exact HR1.out|(with_reducible refine Kd.C_alloc ?_ _)|(with_reducible refine Kd.C_drewN ?_ _)|(with_reducible refine Kd.C_drew ?_)));(case side4=>exact HC1.out);rintro e w12 ⟨rfl,hb⟩;refine ⟨_,rfl,?_⟩;have n0_:=Aside0.mk (below_step (by repeat (first|(with_reducible first|exact HB.out|apply below_alloc|apply pw_below_drewN|apply below_drew1)|exact HB.out)) hb);clear HB;have HB:=n0_;clear n0_;(try clear hb);(try clear hb2);(try clear hk);(try clear hi))|((with_reducible refine gate_dst (N:=23) rfl ?_);refine Kd.R_lit k73 _ 73 ?hg (N:=23) ?hd (xs:=([]:List (S73))) (inner:=[]) (ok:=fun _=>True) (okp:=fun _=>True) ?hr ?hp (fun _ hk=>hk) trivial (Below.refl _ _) (Nat.le_refl _) (by simp) ?_;(case hd=>rfl);(case hg=>rfl);(case hr=>first|(go_simp;done)|(go_simp;rfl));(case hp=>exact (Reps.none _ _));intro v104 w13 ho14 hb hg_ hnew_;clear hg_ hnew_;(first|rw [← Ny103.out] at ho14|(simp only [Int.reduceToNat] at ho14;rw [← Ny103.out] at ho14));have n0_:=Aside0.mk (Kd.R_lower ho14 (below_size (by repeat (first|(with_reducible first|exact HB.out|apply below_alloc|apply pw_below_drewN|apply below_drew1)|exact HB.out))));have n1_:=Aside0.mk (below_step (by repeat (first|(with_reducible first|exact HB.out|apply below_alloc|apply pw_below_drewN|apply below_drew1)|exact HB.out)) hb);clear HB;have HO105:=n0_;have HB:=n1_;clear n0_ n1_;clear hb ho14)|((with_reducible refine gate_builtin (b:=.append) (xs:=#[.tmp 23,.tmp 24]) rfl ?_);at_builtin;refine Kd.R_append_rows k73 (w0:=w) w.heap.size rfl (.tmp 23) (.tmp 24) 55 73 (.agg #[(.string ⟨#[]⟩),(.int .i64 0),(.int .i64 0),(.int .i64 0),(.int .i64 0),(.int .i64 0)]) 56 rfl Try.underlying55 info73 rfl (by decide) (by omega) v104 y103 l0 _ _ _ (fun _=>True) (fun _=>False) rfl rfl ?aO ?aR (fun _ _ h=>h) (fun _ h=>h.elim) ?aF ?aB ?aS ?aL ?_;(case aR=>repeat (first|exact (Kd.C_below HR0.out HB.out)|(with_reducible refine Kd.C_alloc ?_ _)|(with_reducible refine Kd.C_drewN ?_ _)|(with_reducible refine Kd.C_drew ?_)));(case aB=>exact (by repeat (first|(with_reducible first|exact HB.out|apply below_alloc|apply pw_below_drewN|apply below_drew1)|exact HB.out)));(case aF=>exact (fun _ _=>trivial));(case aO=>exact (by (with_reducible repeat (first|apply Kd.R_alloc|apply Kd.R_drewN|apply Kd.R_drew));exact HO105.out));(case aS=>exact (below_size (by repeat (first|(with_reducible first|exact HB.out|apply below_alloc|apply pw_below_drewN|apply below_drew1)|exact HB.out))));(case aL=>have:=LMc5.out;omega);intro v107 w15 ho hb hg hat;rw [← Ny106.out] at ho;have n0_:=Aside0.mk (hb);have n1_:=Aside0.mk (ho);clear HB;clear HO105;have HB:=n0_;have HO108:=n1_;clear n0_ n1_;clear ho hb hg hat)|((with_reducible refine gate_callee (f:=26) rfl ?_);refine goesL_ (some 27) rfl rfl Try.func26 (by kernel_rfl) rfl #[.slice A1 l1.length c1] rfl (by (try simp only [List.map_toArray,List.map_cons,List.map_nil]);first|done|rfl|(simp only [List.length_drop,List.length_take];rfl)) ?_;(with_reducible refine (contangolaw23_own.calls k (fun k_=>k_ < w.heap.size) _ _ l1 t109 _ ?side1 A6.out).mono ?_);(case side1=>exact Kd.V_mk HC1.out (Kd.F_below (Kd.C_F k91_heap HR1.out) (by repeat (first|(with_reducible first|exact HB.out|apply below_alloc|apply pw_below_drewN|apply below_drew1)|exact HB.out))));rintro e w16 ⟨v110,rfl,ho0,hb⟩;refine ⟨_,rfl,?_⟩;have n0_:=Aside0.mk (Kd.R_below (by (with_reducible repeat (first|apply Kd.R_alloc|apply Kd.R_drewN|apply Kd.R_drew));exact HO108.out) hb);have n1_:=Aside0.mk (Kd.N_lower (Kd.N_mono (ok':=fun k_=>some k_ ≠ (v107:Value).ownBlock) ho0 (fun k_ hk_=>Or.elim hk_ (fun hs_=>fun e_=>Nat.not_le.2 hs_ (Kd.R_base HO108.out k_ e_.symm)) (fun hn_=>(Kd.fresh' (Kd.R_lt (by (with_reducible repeat (first|apply Kd.R_alloc|apply Kd.R_drewN|apply Kd.R_drew));exact HO108.out)) k_ hn_)))) (below_size (by repeat (first|(with_reducible first|exact HB.out|apply below_alloc|apply pw_below_drewN|apply below_drew1)|exact HB.out))));have n2_:=Aside0.mk (below_step (by repeat (first|(with_reducible first|exact HB.out|apply below_alloc|apply pw_below_drewN|apply below_drew1)|exact HB.out)) hb);clear HO108;clear HB;have HO108:=n0_;have HO111:=n1_;have HB:=n2_;clear n0_ n1_ n2_;(try clear hb);(try clear hb2);(try clear hk);(try clear hi);(try clear ho0);obtain ⟨Ao17,co17,eo17⟩:=Kd.R_slice HO108.out;subst eo17;obtain ⟨Ao18,co18,eo18⟩:=Kd.N_slice HO111.out;subst eo18)|((with_reducible refine gate_callee (f:=27) rfl ?_);refine goesL_ (some 31) rfl rfl Try.func27 (by kernel_rfl) rfl #[.slice Ao17 y106.length co17,.slice Ao18 t109.length co18] rfl (by (try simp only [List.map_toArray,List.map_cons,List.map_nil]);first|done|rfl|(simp only [List.length_drop,List.length_take];rfl)) ?_;(with_reducible refine (scan_Losses.calls k _ _ y106 _ _ t109 t112 t113 _ ?side1 ?side2 ?side3 ?side4 A7.out).mono ?_);(case side1=>repeat (first|exact (Kd.R_reads' HO108.out).2.2|(with_reducible refine Kd.C_alloc ?_ _)|(with_reducible refine Kd.C_drewN ?_ _)|(with_reducible refine Kd.C_drew ?_)));(case side2=>exact (Kd.R_reads' HO108.out).2.1);(case side3=>repeat (first|exact (Kd.N_reads' HO111.out).2.2|(with_reducible refine Kd.C_alloc ?_ _)|(with_reducible refine Kd.C_drewN ?_ _)|(with_reducible refine Kd.C_drew ?_)));(case side4=>exact (Kd.N_reads' HO111.out).2.1);rintro e w19 ⟨v114,rfl,ho0,hb⟩;refine ⟨_,rfl,?_⟩;have n0_:=Aside0.mk (Kd.R_below (by (with_reducible repeat (first|apply Kd.R_alloc|apply Kd.R_drewN|apply Kd.R_drew));exact HO108.out) hb);have n1_:=Aside0.mk (Kd.N_elder' (by (with_reducible repeat (first|apply Kd.N_alloc|apply Kd.N_drewN|apply Kd.N_drew));exact HO111.out) (Kd.R_base ho0) hb);have n2_:=Aside0.mk (Kd.R_lower ho0 (below_size (by repeat (first|(with_reducible first|exact HB.out|apply below_alloc|apply pw_below_drewN|apply below_drew1)|exact HB.out))));have n3_:=Aside0.mk (below_step (by repeat (first|(with_reducible first|exact HB.out|apply below_alloc|apply pw_below_drewN|apply below_drew1)|exact HB.out)) hb);clear HO108;clear HO111;clear HB;have HO108:=n0_;have HO111:=n1_;have HO115:=n2_;have HB:=n3_;clear n0_ n1_ n2_ n3_;(try clear hb);(try clear hb2);(try clear hk);(try clear hi);(try clear ho0))|((with_reducible refine gate_callee (f:=28) rfl ?_);refine goesL_ (some 37) rfl rfl Try.func28 (by kernel_rfl) rfl #[.slice A0 l0.length c0,.slice A1 l1.length c1] rfl (by (try simp only [List.map_toArray,List.map_cons,List.map_nil]);first|done|rfl|(simp only [List.length_drop,List.length_take];rfl)) ?_;(with_reducible refine (contangoref23_Losses.calls k _ _ l0 _ _ l1 t116 t117 _ ?side1 ?side2 ?side3 ?side4 A8.out).mono ?_);(case side1=>repeat (first|exact (Kd.C_below HR0.out HB.out)|(with_reducible refine Kd.C_alloc ?_ _)|(with_reducible refine Kd.C_drewN ?_ _)|(with_reducible refine Kd.C_drew ?_)));(case side2=>exact HC0.out);(case side3=>repeat (first|exact (Kd.C_below HR1.out HB.out)|(with_reducible refine Kd.C_alloc ?_ _)|(with_reducible refine Kd.C_drewN ?_ _)|(with_reducible refine Kd.C_drew ?_)));(case side4=>exact HC1.out);rintro e w20 ⟨v118,rfl,ho0,hb⟩;refine ⟨_,rfl,?_⟩;have n0_:=Aside0.mk (Kd.R_below (by (with_reducible repeat (first|apply Kd.R_alloc|apply Kd.R_drewN|apply Kd.R_drew));exact HO108.out) hb);have n1_:=Aside0.mk (Kd.N_elder' (by (with_reducible repeat (first|apply Kd.N_alloc|apply Kd.N_drewN|apply Kd.N_drew));exact HO111.out) (Kd.R_base ho0) hb);have n2_:=Aside0.mk (Kd.R_elder' (by (with_reducible repeat (first|apply Kd.R_alloc|apply Kd.R_drewN|apply Kd.R_drew));exact HO115.out) (Kd.R_base ho0) hb);have n3_:=Aside0.mk (Kd.R_lower (Kd.R_new' ho0 (Kd.R_lt (by (with_reducible repeat (first|apply Kd.R_alloc|apply Kd.R_drewN|apply Kd.R_drew));exact HO115.out))) (below_size (by repeat (first|(with_reducible first|exact HB.out|apply below_alloc|apply pw_below_drewN|apply below_drew1)|exact HB.out))));have n4_:=Aside0.mk (below_step (by repeat (first|(with_reducible first|exact HB.out|apply below_alloc|apply pw_below_drewN|apply below_drew1)|exact HB.out)) hb);clear HO108;clear HO111;clear HO115;clear HB;have HO108:=n0_;have HO111:=n1_;have HO115:=n2_;have HO119:=n3_;have HB:=n4_;clear n0_ n1_ n2_ n3_ n4_;(try clear hb);(try clear hb2);(try clear hk);(try clear hi);(try clear ho0))|((with_reducible refine gate_callee (f:=29) rfl ?_);refine goesL_ (some 43) rfl rfl Try.func29 (by kernel_rfl) rfl #[.slice Ao17 y106.length co17,.slice Ao18 t109.length co18] rfl (by (try simp only [List.map_toArray,List.map_cons,List.map_nil]);first|done|rfl|(simp only [List.length_drop,List.length_take];rfl)) ?_;(with_reducible refine (scan_Risk.calls k _ _ y106 _ _ t109 t120 t121 t122 _ ?side1 ?side2 ?side3 ?side4 A9.out).mono ?_);(case side1=>repeat (first|exact (Kd.R_reads' HO108.out).2.2|(with_reducible refine Kd.C_alloc ?_ _)|(with_reducible refine Kd.C_drewN ?_ _)|(with_reducible refine Kd.C_drew ?_)));(case side2=>exact (Kd.R_reads' HO108.out).2.1);(case side3=>repeat (first|exact (Kd.N_reads' HO111.out).2.2|(with_reducible refine Kd.C_alloc ?_ _)|(with_reducible refine Kd.C_drewN ?_ _)|(with_reducible refine Kd.C_drew ?_)));(case side4=>exact (Kd.N_reads' HO111.out).2.1);rintro e w21 ⟨rfl,hb⟩;refine ⟨_,rfl,?_⟩;have n0_:=Aside0.mk (Kd.R_below (by (with_reducible repeat (first|apply Kd.R_alloc|apply Kd.R_drewN|apply Kd.R_drew));exact HO108.out) hb);have n1_:=Aside0.mk (Kd.N_below (by (with_reducible repeat (first|apply Kd.N_alloc|apply Kd.N_drewN|apply Kd.N_drew));exact HO111.out) hb);have n2_:=Aside0.mk (Kd.R_below (by (with_reducible repeat (first|apply Kd.R_alloc|apply Kd.R_drewN|apply Kd.R_drew));exact HO115.out) hb);have n3_:=Aside0.mk (Kd.R_below (by (with_reducible repeat (first|apply Kd.R_alloc|apply Kd.R_drewN|apply Kd.R_drew));exact HO119.out) hb);have n4_:=Aside0.mk (below_step (by repeat (first|(with_reducible first|exact HB.out|apply below_alloc|apply pw_below_drewN|apply below_drew1)|exact HB.out)) hb);clear HO108;clear HO111;clear HO115;clear HO119;clear HB;have HO108:=n0_;have HO111:=n1_;have HO115:=n2_;have HO119:=n3_;have HB:=n4_;clear n0_ n1_ n2_ n3_ n4_;(try clear hb);(try clear hb2);(try clear hk);(try clear hi))|((with_reducible refine gate_callee (f:=30) rfl ?_);refine goesL_ (some 50) rfl rfl Try.func30 (by kernel_rfl) rfl #[.slice A0 l0.length c0,.slice A1 l1.length c1] rfl (by (try simp only [List.map_toArray,List.map_cons,List.map_nil]);first|done|rfl|(simp only [List.length_drop,List.length_take];rfl)) ?_;(with_reducible refine (contangoref23_Risk.calls k _ _ l0 _ _ l1 t123 t124 t125 _ ?side1 ?side2 ?side3 ?side4 A10.out).mono ?_);(case side1=>repeat (first|exact (Kd.C_below HR0.out HB.out)|(with_reducible refine Kd.C_alloc ?_ _)|(with_reducible refine Kd.C_drewN ?_ _)|(with_reducible refine Kd.C_drew ?_)));(case side2=>exact HC0.out);(case side3=>repeat (first|exact (Kd.C_below HR1.out HB.out)|(with_reducible refine Kd.C_alloc ?_ _)|(with_reducible refine Kd.C_drewN ?_ _)|(with_reducible refine Kd.C_drew ?_)));(case side4=>exact HC1.out);rintro e w22 ⟨rfl,hb⟩;refine ⟨_,rfl,?_⟩;have n0_:=Aside0.mk (Kd.R_below (by (with_reducible repeat (first|apply Kd.R_alloc|apply Kd.R_drewN|apply Kd.R_drew));exact HO108.out) hb);have n1_:=Aside0.mk (Kd.N_below (by (with_reducible repeat (first|apply Kd.N_alloc|apply Kd.N_drewN|apply Kd.N_drew));exact HO111.out) hb);have n2_:=Aside0.mk (Kd.R_below (by (with_reducible repeat (first|apply Kd.R_alloc|apply Kd.R_drewN|apply Kd.R_drew));exact HO115.out) hb);have n3_:=Aside0.mk (Kd.R_below (by (with_reducible repeat (first|apply Kd.R_alloc|apply Kd.R_drewN|apply Kd.R_drew));exact HO119.out) hb);have n4_:=Aside0.mk (below_step (by repeat (first|(with_reducible first|exact HB.out|apply below_alloc|apply pw_below_drewN|apply below_drew1)|exact HB.out)) hb);clear HO108;clear HO111;clear HO115;clear HO119;clear HB;have HO108:=n0_;have HO111:=n1_;have HO115:=n2_;have HO119:=n3_;have HB:=n4_;clear n0_ n1_ n2_ n3_ n4_;(try clear hb);(try clear hb2);(try clear hk);(try clear hi)))
   (try simp only [Act.put,List.setIfInBounds_toArray,List.set_cons_zero,List.set_cons_succ])
   go_cut [84] (fun v84 wc=>∃ (kq:Nat) (x84_10:Bool),v84 = .bool x84_10 ∧ Aside0 (contangolaw23_ScanLosses.j0 kq l0 l1 y106 t109 t112 x84_10 = some r) ∧ Aside0 (kq ≤ k) ∧ Aside0 (Kd.R k73 73 wc w.heap.size (fun _=>True) (.slice Ao17 y106.length co17) y106) ∧ Aside0 (Kd.N k91 91 wc w.heap.size (fun k_=>some k_ ≠ ((.slice Ao17 y106.length co17):Value).ownBlock ∧ some k_ ≠ (v114:Value).ownBlock) (.slice Ao18 t109.length co18) t109) ∧ Aside0 (Kd.R (Kd.int .i64) 3 wc w.heap.size (fun _=>True) v114 t112) ∧ Aside0 (Below w.heap.size w wc))
   case first =>
    have H:=HC11.out
    clear HC11
    replace H:=Option.bind_eq_some_iff.mp H
    obtain ⟨t126,A230,H⟩:=H
    replace H:((contangoref23_Check.f k l1).bind fun t127=>(if t126 = t127 then ((contangoref23_Same.f k t112 t116).bind fun t128=>(if t128 = true then (if t113 = t117 then (if t120 = t123 then (if t121 = t124 then (contangolaw23_ScanLosses.j0 k l0 l1 y106 t109 t112 (t122 != t125)) else (contangolaw23_ScanLosses.j0 k l0 l1 y106 t109 t112 true)) else (contangolaw23_ScanLosses.j0 k l0 l1 y106 t109 t112 true)) else (contangolaw23_ScanLosses.j0 k l0 l1 y106 t109 t112 true)) else (contangolaw23_ScanLosses.j0 k l0 l1 y106 t109 t112 true))) else (contangolaw23_ScanLosses.j0 k l0 l1 y106 t109 t112 true))) = some r:=H
    have A23:=Aside0.mk A230
    clear A230
    replace H:=Option.bind_eq_some_iff.mp H
    obtain ⟨t127,A240,H⟩:=H
    replace H:(if t126 = t127 then ((contangoref23_Same.f k t112 t116).bind fun t128=>(if t128 = true then (if t113 = t117 then (if t120 = t123 then (if t121 = t124 then (contangolaw23_ScanLosses.j0 k l0 l1 y106 t109 t112 (t122 != t125)) else (contangolaw23_ScanLosses.j0 k l0 l1 y106 t109 t112 true)) else (contangolaw23_ScanLosses.j0 k l0 l1 y106 t109 t112 true)) else (contangolaw23_ScanLosses.j0 k l0 l1 y106 t109 t112 true)) else (contangolaw23_ScanLosses.j0 k l0 l1 y106 t109 t112 true))) else (contangolaw23_ScanLosses.j0 k l0 l1 y106 t109 t112 true)) = some r:=H
    have A24:=Aside0.mk A240
    clear A240
    by_cases c25:t126 = t127
    ·rw [if_pos c25] at H
     have c25b0:(t126 == t127) = true:=beq_iff_eq.mpr c25
     have c25b1:(t126 != t127) = false:=bne_eq_false_iff_eq.mpr c25
     clear c25
     (first|rw [c25b0]|(simp only [i64_w,i32_w];rw [c25b0])|skip)
     replace H:=Option.bind_eq_some_iff.mp H
     obtain ⟨t128,A260,H⟩:=H
     replace H:(if t128 = true then (if t113 = t117 then (if t120 = t123 then (if t121 = t124 then (contangolaw23_ScanLosses.j0 k l0 l1 y106 t109 t112 (t122 != t125)) else (contangolaw23_ScanLosses.j0 k l0 l1 y106 t109 t112 true)) else (contangolaw23_ScanLosses.j0 k l0 l1 y106 t109 t112 true)) else (contangolaw23_ScanLosses.j0 k l0 l1 y106 t109 t112 true)) else (contangolaw23_ScanLosses.j0 k l0 l1 y106 t109 t112 true)) = some r:=H
     have A26:=Aside0.mk A260
     clear A260
     by_cases c27:t128 = true
     ·subst c27
      have H1:(if t113 = t117 then (if t120 = t123 then (if t121 = t124 then (contangolaw23_ScanLosses.j0 k l0 l1 y106 t109 t112 (t122 != t125)) else (contangolaw23_ScanLosses.j0 k l0 l1 y106 t109 t112 true)) else (contangolaw23_ScanLosses.j0 k l0 l1 y106 t109 t112 true)) else (contangolaw23_ScanLosses.j0 k l0 l1 y106 t109 t112 true)) = some r:=by rw [if_pos rfl] at H;exact H
      clear H
      have H:=H1
      clear H1
      by_cases c28:t113 = t117
      ·rw [if_pos c28] at H
       have c28b0:(t113 == t117) = true:=beq_iff_eq.mpr c28
       have c28b1:(t113 != t117) = false:=bne_eq_false_iff_eq.mpr c28
       clear c28
       by_cases c29:t120 = t123
       ·rw [if_pos c29] at H
        have c29b0:(t120 == t123) = true:=beq_iff_eq.mpr c29
        have c29b1:(t120 != t123) = false:=bne_eq_false_iff_eq.mpr c29
        clear c29
        by_cases c30:t121 = t124
        ·rw [if_pos c30] at H
         have c30b0:(t121 == t124) = true:=beq_iff_eq.mpr c30
         have c30b1:(t121 != t124) = false:=bne_eq_false_iff_eq.mpr c30
         clear c30
         have H':=Aside0.mk H
         clear H
         go_wp2_with (first|((with_reducible refine gate_callee (f:=31) rfl ?_);refine goesL_ (some 55) rfl rfl Try.func31 (by kernel_rfl) rfl #[.slice Ao18 t109.length co18] rfl (by (try simp only [List.map_toArray,List.map_cons,List.map_nil]);first|done|rfl|(simp only [List.length_drop,List.length_take];rfl)) ?_;(with_reducible refine (scan_Check.calls k _ _ t109 t126 _ ?side1 ?side2 A23.out).mono ?_);(case side1=>repeat (first|exact (Kd.N_reads' HO111.out).2.2|(with_reducible refine Kd.C_alloc ?_ _)|(with_reducible refine Kd.C_drewN ?_ _)|(with_reducible refine Kd.C_drew ?_)));(case side2=>exact (Kd.N_reads' HO111.out).2.1);rintro e w31 ⟨rfl,hb⟩;refine ⟨_,rfl,?_⟩;have n0_:=Aside0.mk (Kd.R_below (by (with_reducible repeat (first|apply Kd.R_alloc|apply Kd.R_drewN|apply Kd.R_drew));exact HO108.out) hb);have n1_:=Aside0.mk (Kd.N_below (by (with_reducible repeat (first|apply Kd.N_alloc|apply Kd.N_drewN|apply Kd.N_drew));exact HO111.out) hb);have n2_:=Aside0.mk (Kd.R_below (by (with_reducible repeat (first|apply Kd.R_alloc|apply Kd.R_drewN|apply Kd.R_drew));exact HO115.out) hb);have n3_:=Aside0.mk (Kd.R_below (by (with_reducible repeat (first|apply Kd.R_alloc|apply Kd.R_drewN|apply Kd.R_drew));exact HO119.out) hb);have n4_:=Aside0.mk (below_step (by repeat (first|(with_reducible first|exact HB.out|apply below_alloc|apply pw_below_drewN|apply below_drew1)|exact HB.out)) hb);clear HO108;clear HO111;clear HO115;clear HO119;clear HB;have HO108:=n0_;have HO111:=n1_;have HO115:=n2_;have HO119:=n3_;have HB:=n4_;clear n0_ n1_ n2_ n3_ n4_;(try clear hb);(try clear hb2);(try clear hk);(try clear hi))|((with_reducible refine gate_callee (f:=32) rfl ?_);refine goesL_ (some 57) rfl rfl Try.func32 (by kernel_rfl) rfl #[.slice A1 l1.length c1] rfl (by (try simp only [List.map_toArray,List.map_cons,List.map_nil]);first|done|rfl|(simp only [List.length_drop,List.length_take];rfl)) ?_;(with_reducible refine (contangoref23_Check.calls k _ _ l1 t127 _ ?side1 ?side2 A24.out).mono ?_);(case side1=>repeat (first|exact (Kd.C_below HR1.out HB.out)|(with_reducible refine Kd.C_alloc ?_ _)|(with_reducible refine Kd.C_drewN ?_ _)|(with_reducible refine Kd.C_drew ?_)));(case side2=>exact HC1.out);rintro e w32 ⟨rfl,hb⟩;refine ⟨_,rfl,?_⟩;have n0_:=Aside0.mk (Kd.R_below (by (with_reducible repeat (first|apply Kd.R_alloc|apply Kd.R_drewN|apply Kd.R_drew));exact HO108.out) hb);have n1_:=Aside0.mk (Kd.N_below (by (with_reducible repeat (first|apply Kd.N_alloc|apply Kd.N_drewN|apply Kd.N_drew));exact HO111.out) hb);have n2_:=Aside0.mk (Kd.R_below (by (with_reducible repeat (first|apply Kd.R_alloc|apply Kd.R_drewN|apply Kd.R_drew));exact HO115.out) hb);have n3_:=Aside0.mk (Kd.R_below (by (with_reducible repeat (first|apply Kd.R_alloc|apply Kd.R_drewN|apply Kd.R_drew));exact HO119.out) hb);have n4_:=Aside0.mk (below_step (by repeat (first|(with_reducible first|exact HB.out|apply below_alloc|apply pw_below_drewN|apply below_drew1)|exact HB.out)) hb);clear HO108;clear HO111;clear HO115;clear HO119;clear HB;have HO108:=n0_;have HO111:=n1_;have HO115:=n2_;have HO119:=n3_;have HB:=n4_;clear n0_ n1_ n2_ n3_ n4_;(try clear hb);(try clear hb2);(try clear hk);(try clear hi);obtain ⟨Ao33,co33,eo33⟩:=Kd.R_slice HO115.out;subst eo33;obtain ⟨Ao34,co34,eo34⟩:=Kd.R_slice HO119.out;subst eo34)|(go_at_call 33;(with_reducible refine (contangoref23_Same.calls k _ _ t112 _ _ t116 true _ ?side1 ?side2 ?side3 ?side4 A26.out).mono ?_);(case side1=>repeat (first|exact (Kd.R_reads' HO115.out).2.2|(with_reducible refine Kd.C_alloc ?_ _)|(with_reducible refine Kd.C_drewN ?_ _)|(with_reducible refine Kd.C_drew ?_)));(case side2=>exact (Kd.R_reads' HO115.out).2.1);(case side3=>repeat (first|exact (Kd.R_reads' HO119.out).2.2|(with_reducible refine Kd.C_alloc ?_ _)|(with_reducible refine Kd.C_drewN ?_ _)|(with_reducible refine Kd.C_drew ?_)));(case side4=>exact (Kd.R_reads' HO119.out).2.1);rintro e w' ⟨rfl,⟨nd,rfl⟩⟩))
         go_meet
         case rel=>exact ⟨_,((t122 != t125)),(by first|rfl|(simp;done)|(simp [*];done)),H',⟨by first|omega|exact Nat.le_refl _⟩,⟨by (with_reducible repeat (first|apply Kd.R_alloc|apply Kd.R_drewN|apply Kd.R_drew));exact HO108.out⟩,⟨by (with_reducible repeat (first|apply Kd.N_alloc|apply Kd.N_drewN|apply Kd.N_drew));exact Kd.N_mono HO111.out (fun _ hk=>⟨hk.1.1,hk.1.2⟩)⟩,⟨by (with_reducible repeat (first|apply Kd.R_alloc|apply Kd.R_drewN|apply Kd.R_drew));exact Kd.R_mono HO115.out (fun _ hk=>trivial)⟩,⟨by repeat (first|(with_reducible first|exact HB.out|apply below_alloc|apply pw_below_drewN|apply below_drew1)|exact HB.out)⟩⟩
        ·rw [if_neg c30] at H
         have c30b0:(t121 == t124) = false:=beq_eq_false_iff_ne.mpr c30
         have c30b1:(t121 != t124) = true:=bne_iff_ne.mpr c30
         have H':=Aside0.mk H
         clear H
         go_wp2_with (first|((with_reducible refine gate_callee (f:=31) rfl ?_);refine goesL_ (some 55) rfl rfl Try.func31 (by kernel_rfl) rfl #[.slice Ao18 t109.length co18] rfl (by (try simp only [List.map_toArray,List.map_cons,List.map_nil]);first|done|rfl|(simp only [List.length_drop,List.length_take];rfl)) ?_;(with_reducible refine (scan_Check.calls k _ _ t109 t126 _ ?side1 ?side2 A23.out).mono ?_);(case side1=>repeat (first|exact (Kd.N_reads' HO111.out).2.2|(with_reducible refine Kd.C_alloc ?_ _)|(with_reducible refine Kd.C_drewN ?_ _)|(with_reducible refine Kd.C_drew ?_)));(case side2=>exact (Kd.N_reads' HO111.out).2.1);rintro e w35 ⟨rfl,hb⟩;refine ⟨_,rfl,?_⟩;have n0_:=Aside0.mk (Kd.R_below (by (with_reducible repeat (first|apply Kd.R_alloc|apply Kd.R_drewN|apply Kd.R_drew));exact HO108.out) hb);have n1_:=Aside0.mk (Kd.N_below (by (with_reducible repeat (first|apply Kd.N_alloc|apply Kd.N_drewN|apply Kd.N_drew));exact HO111.out) hb);have n2_:=Aside0.mk (Kd.R_below (by (with_reducible repeat (first|apply Kd.R_alloc|apply Kd.R_drewN|apply Kd.R_drew));exact HO115.out) hb);have n3_:=Aside0.mk (Kd.R_below (by (with_reducible repeat (first|apply Kd.R_alloc|apply Kd.R_drewN|apply Kd.R_drew));exact HO119.out) hb);have n4_:=Aside0.mk (below_step (by repeat (first|(with_reducible first|exact HB.out|apply below_alloc|apply pw_below_drewN|apply below_drew1)|exact HB.out)) hb);clear HO108;clear HO111;clear HO115;clear HO119;clear HB;have HO108:=n0_;have HO111:=n1_;have HO115:=n2_;have HO119:=n3_;have HB:=n4_;clear n0_ n1_ n2_ n3_ n4_;(try clear hb);(try clear hb2);(try clear hk);(try clear hi))|((with_reducible refine gate_callee (f:=32) rfl ?_);refine goesL_ (some 57) rfl rfl Try.func32 (by kernel_rfl) rfl #[.slice A1 l1.length c1] rfl (by (try simp only [List.map_toArray,List.map_cons,List.map_nil]);first|done|rfl|(simp only [List.length_drop,List.length_take];rfl)) ?_;(with_reducible refine (contangoref23_Check.calls k _ _ l1 t127 _ ?side1 ?side2 A24.out).mono ?_);(case side1=>repeat (first|exact (Kd.C_below HR1.out HB.out)|(with_reducible refine Kd.C_alloc ?_ _)|(with_reducible refine Kd.C_drewN ?_ _)|(with_reducible refine Kd.C_drew ?_)));(case side2=>exact HC1.out);rintro e w36 ⟨rfl,hb⟩;refine ⟨_,rfl,?_⟩;have n0_:=Aside0.mk (Kd.R_below (by (with_reducible repeat (first|apply Kd.R_alloc|apply Kd.R_drewN|apply Kd.R_drew));exact HO108.out) hb);have n1_:=Aside0.mk (Kd.N_below (by (with_reducible repeat (first|apply Kd.N_alloc|apply Kd.N_drewN|apply Kd.N_drew));exact HO111.out) hb);have n2_:=Aside0.mk (Kd.R_below (by (with_reducible repeat (first|apply Kd.R_alloc|apply Kd.R_drewN|apply Kd.R_drew));exact HO115.out) hb);have n3_:=Aside0.mk (Kd.R_below (by (with_reducible repeat (first|apply Kd.R_alloc|apply Kd.R_drewN|apply Kd.R_drew));exact HO119.out) hb);have n4_:=Aside0.mk (below_step (by repeat (first|(with_reducible first|exact HB.out|apply below_alloc|apply pw_below_drewN|apply below_drew1)|exact HB.out)) hb);clear HO108;clear HO111;clear HO115;clear HO119;clear HB;have HO108:=n0_;have HO111:=n1_;have HO115:=n2_;have HO119:=n3_;have HB:=n4_;clear n0_ n1_ n2_ n3_ n4_;(try clear hb);(try clear hb2);(try clear hk);(try clear hi);obtain ⟨Ao37,co37,eo37⟩:=Kd.R_slice HO115.out;subst eo37;obtain ⟨Ao38,co38,eo38⟩:=Kd.R_slice HO119.out;subst eo38)|(go_at_call 33;(with_reducible refine (contangoref23_Same.calls k _ _ t112 _ _ t116 true _ ?side1 ?side2 ?side3 ?side4 A26.out).mono ?_);(case side1=>repeat (first|exact (Kd.R_reads' HO115.out).2.2|(with_reducible refine Kd.C_alloc ?_ _)|(with_reducible refine Kd.C_drewN ?_ _)|(with_reducible refine Kd.C_drew ?_)));(case side2=>exact (Kd.R_reads' HO115.out).2.1);(case side3=>repeat (first|exact (Kd.R_reads' HO119.out).2.2|(with_reducible refine Kd.C_alloc ?_ _)|(with_reducible refine Kd.C_drewN ?_ _)|(with_reducible refine Kd.C_drew ?_)));(case side4=>exact (Kd.R_reads' HO119.out).2.1);rintro e w' ⟨rfl,⟨nd,rfl⟩⟩))
         go_meet
         case rel=>exact ⟨_,(true),(by first|rfl|(simp;done)|(simp [*];done)),H',⟨by first|omega|exact Nat.le_refl _⟩,⟨by (with_reducible repeat (first|apply Kd.R_alloc|apply Kd.R_drewN|apply Kd.R_drew));exact HO108.out⟩,⟨by (with_reducible repeat (first|apply Kd.N_alloc|apply Kd.N_drewN|apply Kd.N_drew));exact Kd.N_mono HO111.out (fun _ hk=>⟨hk.1.1,hk.1.2⟩)⟩,⟨by (with_reducible repeat (first|apply Kd.R_alloc|apply Kd.R_drewN|apply Kd.R_drew));exact Kd.R_mono HO115.out (fun _ hk=>trivial)⟩,⟨by repeat (first|(with_reducible first|exact HB.out|apply below_alloc|apply pw_below_drewN|apply below_drew1)|exact HB.out)⟩⟩
       ·rw [if_neg c29] at H
        have c29b0:(t120 == t123) = false:=beq_eq_false_iff_ne.mpr c29
        have c29b1:(t120 != t123) = true:=bne_iff_ne.mpr c29
        have H':=Aside0.mk H
        clear H
        go_wp2_with (first|((with_reducible refine gate_callee (f:=31) rfl ?_);refine goesL_ (some 55) rfl rfl Try.func31 (by kernel_rfl) rfl #[.slice Ao18 t109.length co18] rfl (by (try simp only [List.map_toArray,List.map_cons,List.map_nil]);first|done|rfl|(simp only [List.length_drop,List.length_take];rfl)) ?_;(with_reducible refine (scan_Check.calls k _ _ t109 t126 _ ?side1 ?side2 A23.out).mono ?_);(case side1=>repeat (first|exact (Kd.N_reads' HO111.out).2.2|(with_reducible refine Kd.C_alloc ?_ _)|(with_reducible refine Kd.C_drewN ?_ _)|(with_reducible refine Kd.C_drew ?_)));(case side2=>exact (Kd.N_reads' HO111.out).2.1);rintro e w39 ⟨rfl,hb⟩;refine ⟨_,rfl,?_⟩;have n0_:=Aside0.mk (Kd.R_below (by (with_reducible repeat (first|apply Kd.R_alloc|apply Kd.R_drewN|apply Kd.R_drew));exact HO108.out) hb);have n1_:=Aside0.mk (Kd.N_below (by (with_reducible repeat (first|apply Kd.N_alloc|apply Kd.N_drewN|apply Kd.N_drew));exact HO111.out) hb);have n2_:=Aside0.mk (Kd.R_below (by (with_reducible repeat (first|apply Kd.R_alloc|apply Kd.R_drewN|apply Kd.R_drew));exact HO115.out) hb);have n3_:=Aside0.mk (Kd.R_below (by (with_reducible repeat (first|apply Kd.R_alloc|apply Kd.R_drewN|apply Kd.R_drew));exact HO119.out) hb);have n4_:=Aside0.mk (below_step (by repeat (first|(with_reducible first|exact HB.out|apply below_alloc|apply pw_below_drewN|apply below_drew1)|exact HB.out)) hb);clear HO108;clear HO111;clear HO115;clear HO119;clear HB;have HO108:=n0_;have HO111:=n1_;have HO115:=n2_;have HO119:=n3_;have HB:=n4_;clear n0_ n1_ n2_ n3_ n4_;(try clear hb);(try clear hb2);(try clear hk);(try clear hi))|((with_reducible refine gate_callee (f:=32) rfl ?_);refine goesL_ (some 57) rfl rfl Try.func32 (by kernel_rfl) rfl #[.slice A1 l1.length c1] rfl (by (try simp only [List.map_toArray,List.map_cons,List.map_nil]);first|done|rfl|(simp only [List.length_drop,List.length_take];rfl)) ?_;(with_reducible refine (contangoref23_Check.calls k _ _ l1 t127 _ ?side1 ?side2 A24.out).mono ?_);(case side1=>repeat (first|exact (Kd.C_below HR1.out HB.out)|(with_reducible refine Kd.C_alloc ?_ _)|(with_reducible refine Kd.C_drewN ?_ _)|(with_reducible refine Kd.C_drew ?_)));(case side2=>exact HC1.out);rintro e w40 ⟨rfl,hb⟩;refine ⟨_,rfl,?_⟩;have n0_:=Aside0.mk (Kd.R_below (by (with_reducible repeat (first|apply Kd.R_alloc|apply Kd.R_drewN|apply Kd.R_drew));exact HO108.out) hb);have n1_:=Aside0.mk (Kd.N_below (by (with_reducible repeat (first|apply Kd.N_alloc|apply Kd.N_drewN|apply Kd.N_drew));exact HO111.out) hb);have n2_:=Aside0.mk (Kd.R_below (by (with_reducible repeat (first|apply Kd.R_alloc|apply Kd.R_drewN|apply Kd.R_drew));exact HO115.out) hb);have n3_:=Aside0.mk (Kd.R_below (by (with_reducible repeat (first|apply Kd.R_alloc|apply Kd.R_drewN|apply Kd.R_drew));exact HO119.out) hb);have n4_:=Aside0.mk (below_step (by repeat (first|(with_reducible first|exact HB.out|apply below_alloc|apply pw_below_drewN|apply below_drew1)|exact HB.out)) hb);clear HO108;clear HO111;clear HO115;clear HO119;clear HB;have HO108:=n0_;have HO111:=n1_;have HO115:=n2_;have HO119:=n3_;have HB:=n4_;clear n0_ n1_ n2_ n3_ n4_;(try clear hb);(try clear hb2);(try clear hk);(try clear hi);obtain ⟨Ao41,co41,eo41⟩:=Kd.R_slice HO115.out;subst eo41;obtain ⟨Ao42,co42,eo42⟩:=Kd.R_slice HO119.out;subst eo42)|(go_at_call 33;(with_reducible refine (contangoref23_Same.calls k _ _ t112 _ _ t116 true _ ?side1 ?side2 ?side3 ?side4 A26.out).mono ?_);(case side1=>repeat (first|exact (Kd.R_reads' HO115.out).2.2|(with_reducible refine Kd.C_alloc ?_ _)|(with_reducible refine Kd.C_drewN ?_ _)|(with_reducible refine Kd.C_drew ?_)));(case side2=>exact (Kd.R_reads' HO115.out).2.1);(case side3=>repeat (first|exact (Kd.R_reads' HO119.out).2.2|(with_reducible refine Kd.C_alloc ?_ _)|(with_reducible refine Kd.C_drewN ?_ _)|(with_reducible refine Kd.C_drew ?_)));(case side4=>exact (Kd.R_reads' HO119.out).2.1);rintro e w' ⟨rfl,⟨nd,rfl⟩⟩))
        go_meet
        case rel=>exact ⟨_,(true),(by first|rfl|(simp;done)|(simp [*];done)),H',⟨by first|omega|exact Nat.le_refl _⟩,⟨by (with_reducible repeat (first|apply Kd.R_alloc|apply Kd.R_drewN|apply Kd.R_drew));exact HO108.out⟩,⟨by (with_reducible repeat (first|apply Kd.N_alloc|apply Kd.N_drewN|apply Kd.N_drew));exact Kd.N_mono HO111.out (fun _ hk=>⟨hk.1.1,hk.1.2⟩)⟩,⟨by (with_reducible repeat (first|apply Kd.R_alloc|apply Kd.R_drewN|apply Kd.R_drew));exact Kd.R_mono HO115.out (fun _ hk=>trivial)⟩,⟨by repeat (first|(with_reducible first|exact HB.out|apply below_alloc|apply pw_below_drewN|apply below_drew1)|exact HB.out)⟩⟩
      ·rw [if_neg c28] at H
       have c28b0:(t113 == t117) = false:=beq_eq_false_iff_ne.mpr c28
       have c28b1:(t113 != t117) = true:=bne_iff_ne.mpr c28
       have H':=Aside0.mk H
       clear H
       go_wp2_with (first|((with_reducible refine gate_callee (f:=31) rfl ?_);refine goesL_ (some 55) rfl rfl Try.func31 (by kernel_rfl) rfl #[.slice Ao18 t109.length co18] rfl (by (try simp only [List.map_toArray,List.map_cons,List.map_nil]);first|done|rfl|(simp only [List.length_drop,List.length_take];rfl)) ?_;(with_reducible refine (scan_Check.calls k _ _ t109 t126 _ ?side1 ?side2 A23.out).mono ?_);(case side1=>repeat (first|exact (Kd.N_reads' HO111.out).2.2|(with_reducible refine Kd.C_alloc ?_ _)|(with_reducible refine Kd.C_drewN ?_ _)|(with_reducible refine Kd.C_drew ?_)));(case side2=>exact (Kd.N_reads' HO111.out).2.1);rintro e w43 ⟨rfl,hb⟩;refine ⟨_,rfl,?_⟩;have n0_:=Aside0.mk (Kd.R_below (by (with_reducible repeat (first|apply Kd.R_alloc|apply Kd.R_drewN|apply Kd.R_drew));exact HO108.out) hb);have n1_:=Aside0.mk (Kd.N_below (by (with_reducible repeat (first|apply Kd.N_alloc|apply Kd.N_drewN|apply Kd.N_drew));exact HO111.out) hb);have n2_:=Aside0.mk (Kd.R_below (by (with_reducible repeat (first|apply Kd.R_alloc|apply Kd.R_drewN|apply Kd.R_drew));exact HO115.out) hb);have n3_:=Aside0.mk (Kd.R_below (by (with_reducible repeat (first|apply Kd.R_alloc|apply Kd.R_drewN|apply Kd.R_drew));exact HO119.out) hb);have n4_:=Aside0.mk (below_step (by repeat (first|(with_reducible first|exact HB.out|apply below_alloc|apply pw_below_drewN|apply below_drew1)|exact HB.out)) hb);clear HO108;clear HO111;clear HO115;clear HO119;clear HB;have HO108:=n0_;have HO111:=n1_;have HO115:=n2_;have HO119:=n3_;have HB:=n4_;clear n0_ n1_ n2_ n3_ n4_;(try clear hb);(try clear hb2);(try clear hk);(try clear hi))|((with_reducible refine gate_callee (f:=32) rfl ?_);refine goesL_ (some 57) rfl rfl Try.func32 (by kernel_rfl) rfl #[.slice A1 l1.length c1] rfl (by (try simp only [List.map_toArray,List.map_cons,List.map_nil]);first|done|rfl|(simp only [List.length_drop,List.length_take];rfl)) ?_;(with_reducible refine (contangoref23_Check.calls k _ _ l1 t127 _ ?side1 ?side2 A24.out).mono ?_);(case side1=>repeat (first|exact (Kd.C_below HR1.out HB.out)|(with_reducible refine Kd.C_alloc ?_ _)|(with_reducible refine Kd.C_drewN ?_ _)|(with_reducible refine Kd.C_drew ?_)));(case side2=>exact HC1.out);rintro e w44 ⟨rfl,hb⟩;refine ⟨_,rfl,?_⟩;have n0_:=Aside0.mk (Kd.R_below (by (with_reducible repeat (first|apply Kd.R_alloc|apply Kd.R_drewN|apply Kd.R_drew));exact HO108.out) hb);have n1_:=Aside0.mk (Kd.N_below (by (with_reducible repeat (first|apply Kd.N_alloc|apply Kd.N_drewN|apply Kd.N_drew));exact HO111.out) hb);have n2_:=Aside0.mk (Kd.R_below (by (with_reducible repeat (first|apply Kd.R_alloc|apply Kd.R_drewN|apply Kd.R_drew));exact HO115.out) hb);have n3_:=Aside0.mk (Kd.R_below (by (with_reducible repeat (first|apply Kd.R_alloc|apply Kd.R_drewN|apply Kd.R_drew));exact HO119.out) hb);have n4_:=Aside0.mk (below_step (by repeat (first|(with_reducible first|exact HB.out|apply below_alloc|apply pw_below_drewN|apply below_drew1)|exact HB.out)) hb);clear HO108;clear HO111;clear HO115;clear HO119;clear HB;have HO108:=n0_;have HO111:=n1_;have HO115:=n2_;have HO119:=n3_;have HB:=n4_;clear n0_ n1_ n2_ n3_ n4_;(try clear hb);(try clear hb2);(try clear hk);(try clear hi);obtain ⟨Ao45,co45,eo45⟩:=Kd.R_slice HO115.out;subst eo45;obtain ⟨Ao46,co46,eo46⟩:=Kd.R_slice HO119.out;subst eo46)|(go_at_call 33;(with_reducible refine (contangoref23_Same.calls k _ _ t112 _ _ t116 true _ ?side1 ?side2 ?side3 ?side4 A26.out).mono ?_);(case side1=>repeat (first|exact (Kd.R_reads' HO115.out).2.2|(with_reducible refine Kd.C_alloc ?_ _)|(with_reducible refine Kd.C_drewN ?_ _)|(with_reducible refine Kd.C_drew ?_)));(case side2=>exact (Kd.R_reads' HO115.out).2.1);(case side3=>repeat (first|exact (Kd.R_reads' HO119.out).2.2|(with_reducible refine Kd.C_alloc ?_ _)|(with_reducible refine Kd.C_drewN ?_ _)|(with_reducible refine Kd.C_drew ?_)));(case side4=>exact (Kd.R_reads' HO119.out).2.1);rintro e w' ⟨rfl,⟨nd,rfl⟩⟩))
       go_meet
       case rel=>exact ⟨_,(true),(by first|rfl|(simp;done)|(simp [*];done)),H',⟨by first|omega|exact Nat.le_refl _⟩,⟨by (with_reducible repeat (first|apply Kd.R_alloc|apply Kd.R_drewN|apply Kd.R_drew));exact HO108.out⟩,⟨by (with_reducible repeat (first|apply Kd.N_alloc|apply Kd.N_drewN|apply Kd.N_drew));exact Kd.N_mono HO111.out (fun _ hk=>⟨hk.1.1,hk.1.2⟩)⟩,⟨by (with_reducible repeat (first|apply Kd.R_alloc|apply Kd.R_drewN|apply Kd.R_drew));exact Kd.R_mono HO115.out (fun _ hk=>trivial)⟩,⟨by repeat (first|(with_reducible first|exact HB.out|apply below_alloc|apply pw_below_drewN|apply below_drew1)|exact HB.out)⟩⟩
     ·replace c27:=Bool.eq_false_iff.mpr c27
      subst c27
      have H1:(contangolaw23_ScanLosses.j0 k l0 l1 y106 t109 t112 true) = some r:=by rw [if_neg (show ¬ (false = true) by decide)] at H;exact H
      clear H
      have H:=H1
      clear H1
      have H':=Aside0.mk H
      clear H
      go_wp2_with (first|((with_reducible refine gate_callee (f:=31) rfl ?_);refine goesL_ (some 55) rfl rfl Try.func31 (by kernel_rfl) rfl #[.slice Ao18 t109.length co18] rfl (by (try simp only [List.map_toArray,List.map_cons,List.map_nil]);first|done|rfl|(simp only [List.length_drop,List.length_take];rfl)) ?_;(with_reducible refine (scan_Check.calls k _ _ t109 t126 _ ?side1 ?side2 A23.out).mono ?_);(case side1=>repeat (first|exact (Kd.N_reads' HO111.out).2.2|(with_reducible refine Kd.C_alloc ?_ _)|(with_reducible refine Kd.C_drewN ?_ _)|(with_reducible refine Kd.C_drew ?_)));(case side2=>exact (Kd.N_reads' HO111.out).2.1);rintro e w47 ⟨rfl,hb⟩;refine ⟨_,rfl,?_⟩;have n0_:=Aside0.mk (Kd.R_below (by (with_reducible repeat (first|apply Kd.R_alloc|apply Kd.R_drewN|apply Kd.R_drew));exact HO108.out) hb);have n1_:=Aside0.mk (Kd.N_below (by (with_reducible repeat (first|apply Kd.N_alloc|apply Kd.N_drewN|apply Kd.N_drew));exact HO111.out) hb);have n2_:=Aside0.mk (Kd.R_below (by (with_reducible repeat (first|apply Kd.R_alloc|apply Kd.R_drewN|apply Kd.R_drew));exact HO115.out) hb);have n3_:=Aside0.mk (Kd.R_below (by (with_reducible repeat (first|apply Kd.R_alloc|apply Kd.R_drewN|apply Kd.R_drew));exact HO119.out) hb);have n4_:=Aside0.mk (below_step (by repeat (first|(with_reducible first|exact HB.out|apply below_alloc|apply pw_below_drewN|apply below_drew1)|exact HB.out)) hb);clear HO108;clear HO111;clear HO115;clear HO119;clear HB;have HO108:=n0_;have HO111:=n1_;have HO115:=n2_;have HO119:=n3_;have HB:=n4_;clear n0_ n1_ n2_ n3_ n4_;(try clear hb);(try clear hb2);(try clear hk);(try clear hi))|((with_reducible refine gate_callee (f:=32) rfl ?_);refine goesL_ (some 57) rfl rfl Try.func32 (by kernel_rfl) rfl #[.slice A1 l1.length c1] rfl (by (try simp only [List.map_toArray,List.map_cons,List.map_nil]);first|done|rfl|(simp only [List.length_drop,List.length_take];rfl)) ?_;(with_reducible refine (contangoref23_Check.calls k _ _ l1 t127 _ ?side1 ?side2 A24.out).mono ?_);(case side1=>repeat (first|exact (Kd.C_below HR1.out HB.out)|(with_reducible refine Kd.C_alloc ?_ _)|(with_reducible refine Kd.C_drewN ?_ _)|(with_reducible refine Kd.C_drew ?_)));(case side2=>exact HC1.out);rintro e w48 ⟨rfl,hb⟩;refine ⟨_,rfl,?_⟩;have n0_:=Aside0.mk (Kd.R_below (by (with_reducible repeat (first|apply Kd.R_alloc|apply Kd.R_drewN|apply Kd.R_drew));exact HO108.out) hb);have n1_:=Aside0.mk (Kd.N_below (by (with_reducible repeat (first|apply Kd.N_alloc|apply Kd.N_drewN|apply Kd.N_drew));exact HO111.out) hb);have n2_:=Aside0.mk (Kd.R_below (by (with_reducible repeat (first|apply Kd.R_alloc|apply Kd.R_drewN|apply Kd.R_drew));exact HO115.out) hb);have n3_:=Aside0.mk (Kd.R_below (by (with_reducible repeat (first|apply Kd.R_alloc|apply Kd.R_drewN|apply Kd.R_drew));exact HO119.out) hb);have n4_:=Aside0.mk (below_step (by repeat (first|(with_reducible first|exact HB.out|apply below_alloc|apply pw_below_drewN|apply below_drew1)|exact HB.out)) hb);clear HO108;clear HO111;clear HO115;clear HO119;clear HB;have HO108:=n0_;have HO111:=n1_;have HO115:=n2_;have HO119:=n3_;have HB:=n4_;clear n0_ n1_ n2_ n3_ n4_;(try clear hb);(try clear hb2);(try clear hk);(try clear hi);obtain ⟨Ao49,co49,eo49⟩:=Kd.R_slice HO115.out;subst eo49;obtain ⟨Ao50,co50,eo50⟩:=Kd.R_slice HO119.out;subst eo50)|(go_at_call 33;(with_reducible refine (contangoref23_Same.calls k _ _ t112 _ _ t116 false _ ?side1 ?side2 ?side3 ?side4 A26.out).mono ?_);(case side1=>repeat (first|exact (Kd.R_reads' HO115.out).2.2|(with_reducible refine Kd.C_alloc ?_ _)|(with_reducible refine Kd.C_drewN ?_ _)|(with_reducible refine Kd.C_drew ?_)));(case side2=>exact (Kd.R_reads' HO115.out).2.1);(case side3=>repeat (first|exact (Kd.R_reads' HO119.out).2.2|(with_reducible refine Kd.C_alloc ?_ _)|(with_reducible refine Kd.C_drewN ?_ _)|(with_reducible refine Kd.C_drew ?_)));(case side4=>exact (Kd.R_reads' HO119.out).2.1);rintro e w' ⟨rfl,⟨nd,rfl⟩⟩))
      go_meet
      case rel=>exact ⟨_,(true),(by first|rfl|(simp;done)|(simp [*];done)),H',⟨by first|omega|exact Nat.le_refl _⟩,⟨by (with_reducible repeat (first|apply Kd.R_alloc|apply Kd.R_drewN|apply Kd.R_drew));exact HO108.out⟩,⟨by (with_reducible repeat (first|apply Kd.N_alloc|apply Kd.N_drewN|apply Kd.N_drew));exact Kd.N_mono HO111.out (fun _ hk=>⟨hk.1.1,hk.1.2⟩)⟩,⟨by (with_reducible repeat (first|apply Kd.R_alloc|apply Kd.R_drewN|apply Kd.R_drew));exact Kd.R_mono HO115.out (fun _ hk=>trivial)⟩,⟨by repeat (first|(with_reducible first|exact HB.out|apply below_alloc|apply pw_below_drewN|apply below_drew1)|exact HB.out)⟩⟩
    ·rw [if_neg c25] at H
     have c25b0:(t126 == t127) = false:=beq_eq_false_iff_ne.mpr c25
     have c25b1:(t126 != t127) = true:=bne_iff_ne.mpr c25
     (first|rw [c25b0]|(simp only [i64_w,i32_w];rw [c25b0])|skip)
     have H':=Aside0.mk H
     clear H
     go_wp2_with (first|((with_reducible refine gate_callee (f:=31) rfl ?_);refine goesL_ (some 55) rfl rfl Try.func31 (by kernel_rfl) rfl #[.slice Ao18 t109.length co18] rfl (by (try simp only [List.map_toArray,List.map_cons,List.map_nil]);first|done|rfl|(simp only [List.length_drop,List.length_take];rfl)) ?_;(with_reducible refine (scan_Check.calls k _ _ t109 t126 _ ?side1 ?side2 A23.out).mono ?_);(case side1=>repeat (first|exact (Kd.N_reads' HO111.out).2.2|(with_reducible refine Kd.C_alloc ?_ _)|(with_reducible refine Kd.C_drewN ?_ _)|(with_reducible refine Kd.C_drew ?_)));(case side2=>exact (Kd.N_reads' HO111.out).2.1);rintro e w51 ⟨rfl,hb⟩;refine ⟨_,rfl,?_⟩;have n0_:=Aside0.mk (Kd.R_below (by (with_reducible repeat (first|apply Kd.R_alloc|apply Kd.R_drewN|apply Kd.R_drew));exact HO108.out) hb);have n1_:=Aside0.mk (Kd.N_below (by (with_reducible repeat (first|apply Kd.N_alloc|apply Kd.N_drewN|apply Kd.N_drew));exact HO111.out) hb);have n2_:=Aside0.mk (Kd.R_below (by (with_reducible repeat (first|apply Kd.R_alloc|apply Kd.R_drewN|apply Kd.R_drew));exact HO115.out) hb);have n3_:=Aside0.mk (Kd.R_below (by (with_reducible repeat (first|apply Kd.R_alloc|apply Kd.R_drewN|apply Kd.R_drew));exact HO119.out) hb);have n4_:=Aside0.mk (below_step (by repeat (first|(with_reducible first|exact HB.out|apply below_alloc|apply pw_below_drewN|apply below_drew1)|exact HB.out)) hb);clear HO108;clear HO111;clear HO115;clear HO119;clear HB;have HO108:=n0_;have HO111:=n1_;have HO115:=n2_;have HO119:=n3_;have HB:=n4_;clear n0_ n1_ n2_ n3_ n4_;(try clear hb);(try clear hb2);(try clear hk);(try clear hi))|((with_reducible refine gate_callee (f:=32) rfl ?_);refine goesL_ (some 57) rfl rfl Try.func32 (by kernel_rfl) rfl #[.slice A1 l1.length c1] rfl (by (try simp only [List.map_toArray,List.map_cons,List.map_nil]);first|done|rfl|(simp only [List.length_drop,List.length_take];rfl)) ?_;(with_reducible refine (contangoref23_Check.calls k _ _ l1 t127 _ ?side1 ?side2 A24.out).mono ?_);(case side1=>repeat (first|exact (Kd.C_below HR1.out HB.out)|(with_reducible refine Kd.C_alloc ?_ _)|(with_reducible refine Kd.C_drewN ?_ _)|(with_reducible refine Kd.C_drew ?_)));(case side2=>exact HC1.out);rintro e w52 ⟨rfl,hb⟩;refine ⟨_,rfl,?_⟩;have n0_:=Aside0.mk (Kd.R_below (by (with_reducible repeat (first|apply Kd.R_alloc|apply Kd.R_drewN|apply Kd.R_drew));exact HO108.out) hb);have n1_:=Aside0.mk (Kd.N_below (by (with_reducible repeat (first|apply Kd.N_alloc|apply Kd.N_drewN|apply Kd.N_drew));exact HO111.out) hb);have n2_:=Aside0.mk (Kd.R_below (by (with_reducible repeat (first|apply Kd.R_alloc|apply Kd.R_drewN|apply Kd.R_drew));exact HO115.out) hb);have n3_:=Aside0.mk (Kd.R_below (by (with_reducible repeat (first|apply Kd.R_alloc|apply Kd.R_drewN|apply Kd.R_drew));exact HO119.out) hb);have n4_:=Aside0.mk (below_step (by repeat (first|(with_reducible first|exact HB.out|apply below_alloc|apply pw_below_drewN|apply below_drew1)|exact HB.out)) hb);clear HO108;clear HO111;clear HO115;clear HO119;clear HB;have HO108:=n0_;have HO111:=n1_;have HO115:=n2_;have HO119:=n3_;have HB:=n4_;clear n0_ n1_ n2_ n3_ n4_;(try clear hb);(try clear hb2);(try clear hk);(try clear hi)))
     go_meet
     case rel=>exact ⟨_,(true),(by first|rfl|(simp;done)|(simp [*];done)),H',⟨by first|omega|exact Nat.le_refl _⟩,⟨by (with_reducible repeat (first|apply Kd.R_alloc|apply Kd.R_drewN|apply Kd.R_drew));exact HO108.out⟩,⟨by (with_reducible repeat (first|apply Kd.N_alloc|apply Kd.N_drewN|apply Kd.N_drew));exact Kd.N_mono HO111.out (fun _ hk=>⟨hk.1.1,hk.1.2⟩)⟩,⟨by (with_reducible repeat (first|apply Kd.R_alloc|apply Kd.R_drewN|apply Kd.R_drew));exact Kd.R_mono HO115.out (fun _ hk=>trivial)⟩,⟨by repeat (first|(with_reducible first|exact HB.out|apply below_alloc|apply pw_below_drewN|apply below_drew1)|exact HB.out)⟩⟩
   case rest =>
    clear HC11
    try clear c1
    try clear c2
    try clear p2
    try clear c3
    try clear c4
    try clear c5
    try clear c7
    try clear c24
    try clear c25
    try clear c25b0
    try clear c25b1
    try clear c26
    try clear c27
    try clear c28
    try clear c28b0
    try clear c28b1
    try clear c29
    try clear c29b0
    try clear c29b1
    try clear c30
    try clear c30b0
    try clear c30b1
    try clear c31
    try clear c32
    obtain ⟨kq,x84_10,rfl,HA,HJ10,HO_5,HO_6,HO_7,HB⟩:=hcut
    cases kq with
    | zero=>exact absurd HA.out (by simp [contangolaw23_ScanLosses.j0])
    | succ kj10 =>
     have H:=HA.out
     clear HA
     simp only [contangolaw23_ScanLosses.j0] at H
     by_cases c53:x84_10 = true
     ·subst c53
      have H1:(none) = some r:=by rw [if_pos rfl] at H;exact H
      clear H
      have H:=H1
      clear H1
      exact absurd H (by simp)
     ·replace c53:=Bool.eq_false_iff.mpr c53
      subst c53
      have H1:(contangolaw23_ScanLosses.l0 kj10 l0 l1 y106 t109 t112 (t112.length:Int) 0) = some r:=by rw [if_neg (show ¬ (false = true) by decide)] at H;exact H
      clear H
      have H:=H1
      clear H1
      have H':=Aside0.mk H
      clear H
      obtain ⟨Ao54,co54,eo54⟩:=Kd.R_slice HO_7.out
      subst eo54
      go_wp2
      go_loopg [87] kj10 (fun kq v87 w'=>∃ (x7_2:List Int) (x87_2:Int),v87 = .int .i64 x87_2 ∧ Aside0 (contangolaw23_ScanLosses.l0 kq l0 l1 y106 t109 x7_2 (t112.length:Int) x87_2 = some r) ∧ Aside0 (kq ≤ kj10) ∧ Aside0 (Kd.R k73 73 w' w.heap.size (fun _=>True) (.slice Ao17 y106.length co17) y106) ∧ Aside0 (Kd.N k91 91 w' w.heap.size (fun k_=>some k_ ≠ ((.slice Ao17 y106.length co17):Value).ownBlock ∧ some k_ ≠ ((.slice Ao54 t112.length co54):Value).ownBlock) (.slice Ao18 t109.length co18) t109) ∧ Aside0 (Kd.R (Kd.int .i64) 3 w' w.heap.size (fun _=>True) (.slice Ao54 t112.length co54) x7_2) ∧ Aside0 (Below w.heap.size w w'))
      case atStart=>exact ⟨(t112),(0),(by first|rfl|(simp;done)|(simp [*];done)),H',⟨Nat.le_refl _⟩,⟨by (with_reducible repeat (first|apply Kd.R_alloc|apply Kd.R_drewN|apply Kd.R_drew));exact HO_5.out⟩,⟨by (with_reducible repeat (first|apply Kd.N_alloc|apply Kd.N_drewN|apply Kd.N_drew));exact HO_6.out⟩,⟨by (with_reducible repeat (first|apply Kd.R_alloc|apply Kd.R_drewN|apply Kd.R_drew));exact HO_7.out⟩,⟨by repeat (first|(with_reducible first|exact HB.out|apply below_alloc|apply pw_below_drewN|apply below_drew1)|exact HB.out)⟩⟩
      case round =>
       clear H'
       try clear c1
       try clear c2
       try clear p2
       try clear c3
       try clear c4
       try clear c5
       try clear c7
       try clear c24
       try clear c25
       try clear c25b0
       try clear c25b1
       try clear c26
       try clear c27
       try clear c28
       try clear c28b0
       try clear c28b1
       try clear c29
       try clear c29b0
       try clear c29b1
       try clear c30
       try clear c30b0
       try clear c30b1
       try clear c31
       try clear c32
       try clear c53
       try clear p2
       obtain ⟨x7_2,x87_2,rfl,HA,HK2,HO_5,HO_6,HO_7,HB⟩:=hrel
       have hl7_2:=(Kd.R_reads' HO_7.out).1
       rw [hl7_2] at HO_7
       (try simp only [hl7_2])
       (try simp only [hl7_2] at HO_5)
       (try simp only [hl7_2] at HO_6)
       cases gk with
       | zero=>exact absurd HA.out (by simp [contangolaw23_ScanLosses.l0])
       | succ k2 =>
        have H:=HA.out
        clear HA
        simp only [contangolaw23_ScanLosses.l0] at H
        by_cases c55:x87_2 < (t112.length:Int)
        ·rw [if_pos c55] at H
         have c55b0:decide (x87_2 < (t112.length:Int)) = true:=decide_eq_true c55
         clear c55
         by_cases c56:0 ≤ x87_2
         ·rw [if_pos c56] at H
          have c56b0:decide (0 ≤ x87_2) = true:=decide_eq_true c56
          clear c56
          by_cases c57:x87_2 < (x7_2.length:Int)
          ·rw [if_pos c57] at H
           have c57b0:decide (x87_2 < (x7_2.length:Int)) = true:=decide_eq_true c57
           clear c57
           obtain ⟨y129,hy129⟩:∃ y_:List Int,y_ = (x7_2.set (x87_2:Int).toNat 1099511627776):=⟨_,rfl⟩
           replace H:(contangolaw23_ScanLosses.l0 k2 l0 l1 y106 t109 y129 (t112.length:Int) (wrap64 (x87_2 + 1))) = some r:=by first|(rw [hy129];with_reducible exact H)|(have H2_:=(Option.bind_some _ _).symm.trans H;rw [hy129];with_reducible exact H2_)|(have H2_:=(Option.bind_some _ _).symm.trans H;with_reducible exact H2_)|with_reducible exact H|(rw [hy129];exact H)|exact H
           have Ny129:=Aside0.mk hy129
           clear hy129
           have H':=Aside0.mk H
           clear H
           have p58:0 ≤ (x87_2:Int):=of_decide_eq_true (by first|(with_reducible assumption)|assumption)
           have q58:(x87_2:Int) < ((x7_2.length:Int):Int):=of_decide_eq_true (by first|(with_reducible assumption)|assumption)
           obtain ⟨go58,co58,eo58,gb58,gl58,cl58,HG58⟩:=Kd.R_form HO_7.out (by omega)
           (first|cases eo58|(injection eo58 with ea_ en_ ec_;(first|subst ea_|(injection ea_ with ea_;subst ea_));subst ec_;clear en_))
           have GB58:=Aside0.mk gb58
           have GG58:=Aside0.mk HG58
           clear gb58 gl58 HG58
           obtain ⟨hx58_0,hf58_0⟩:=Kd.R_celln 0 HO_7.out (x87_2:Int) p58 q58
           replace p58:=eq_true p58
           replace q58:=eq_true q58
           have HP59:=Kd.R_putg HO_7.out (x87_2:Int) 1099511627776
           go_wp2_with (first|((with_reducible refine gate_store (t:=3) (p:=92) rfl ?_);refine store_event (t:=3) (p:=92) (v:=?vo_w60) (w1:=(wr.setCell ⟨go58,(x87_2:Int).toNat,none⟩ (.int .i64 1099511627776))) ?hg ?ho ?hn ?hr ?_;(case ho=>rfl);(case hg=>rfl);(case hn=>rfl);(case hr=>first|(go_simp;done)|(go_simp;rfl));intro w60 hw;have hg:wr.grownBy w60 (some go58):=(by rw [hw];exact HP59.2);have hp_:Kd.R (Kd.int .i64) 3 w60 w.heap.size (fun _=>True) (.slice (some ⟨go58,0,none⟩) x7_2.length co54) y129:=(by rw [hw,Ny129.out];exact HP59.1);clear HP59;have n0_:=Aside0.mk (Kd.R_over' (v:=(.slice (some ⟨go58,0,none⟩) x7_2.length co54)) (by (with_reducible repeat (first|apply Kd.R_alloc|apply Kd.R_drewN|apply Kd.R_drew));exact HO_5.out) (Kd.R_typed HO_7.out) (by decide) hg);have n1_:=Aside0.mk (Kd.N_afterv (v:=(.slice (some ⟨go58,0,none⟩) x7_2.length co54)) (v1:=(.slice (some ⟨go58,0,none⟩) x7_2.length co54)) (ok:=(fun k_=>some k_ ≠ (.slice Ao17 y106.length co17:Value).ownBlock)) (by (with_reducible repeat (first|apply Kd.N_alloc|apply Kd.N_drewN|apply Kd.N_drew));exact HO_6.out) hg (.inl rfl));have n2_:=Aside0.mk (hp_);have n3_:=Aside0.mk ((by rw [hw];exact below_set (HB.out) GB58.out:Below w.heap.size w w60));clear HO_5;clear HO_6;clear HO_7;clear HB;have HO_5:=n0_;have HO_6:=n1_;have HO_7:=n2_;have HB:=n3_;clear n0_ n1_ n2_ n3_;clear hg hw hp_))
           (try simp only [← hl7_2])
           go_roundg k2
           case measure=>have:=HJ10.out;have:=HK2.out;omega
           case rel=>exact ⟨(y129),(wrap64 (x87_2 + 1)),(by first|rfl|(simp;done)|(simp [*];done)),H',⟨by have:=HJ10.out;have:=HK2.out;omega⟩,⟨by (try simp only [hl7_2]);(with_reducible repeat (first|apply Kd.R_alloc|apply Kd.R_drewN|apply Kd.R_drew));exact HO_5.out⟩,⟨by (try simp only [hl7_2]);(with_reducible repeat (first|apply Kd.N_alloc|apply Kd.N_drewN|apply Kd.N_drew));exact HO_6.out⟩,⟨by (try simp only [hl7_2]);(with_reducible repeat (first|apply Kd.R_alloc|apply Kd.R_drewN|apply Kd.R_drew));exact HO_7.out⟩,⟨by repeat (first|(with_reducible first|exact HB.out|apply below_alloc|apply pw_below_drewN|apply below_drew1)|exact HB.out)⟩⟩
          ·rw [if_neg c57] at H
           exact absurd H (by simp)
         ·rw [if_neg c56] at H
          exact absurd H (by simp)
        ·rw [if_neg c55] at H
         have c55b0:decide (x87_2 < (t112.length:Int)) = false:=decide_eq_false c55
         try simp only [hl7_2] at c55b0
         clear c55
         replace H:=Option.bind_eq_some_iff.mp H
         obtain ⟨t130,A610,H⟩:=H
         replace H:(if t130 = true then ((contangoref23_Positions.f k2 y106 l0).bind fun t131=>(if t131 = true then ((contangolaw23_goes.f k2).bind fun t132=>(some t132)) else (none))) else (none)) = some r:=H
         have A61:=Aside0.mk A610
         clear A610
         by_cases c62:t130 = true
         ·subst c62
          have H1:((contangoref23_Positions.f k2 y106 l0).bind fun t131=>(if t131 = true then ((contangolaw23_goes.f k2).bind fun t132=>(some t132)) else (none))) = some r:=by rw [if_pos rfl] at H;exact H
          clear H
          have H:=H1
          clear H1
          replace H:=Option.bind_eq_some_iff.mp H
          obtain ⟨t131,A630,H⟩:=H
          replace H:(if t131 = true then ((contangolaw23_goes.f k2).bind fun t132=>(some t132)) else (none)) = some r:=H
          have A63:=Aside0.mk A630
          clear A630
          by_cases c64:t131 = true
          ·subst c64
           have H1:((contangolaw23_goes.f k2).bind fun t132=>(some t132)) = some r:=by rw [if_pos rfl] at H;exact H
           clear H
           have H:=H1
           clear H1
           replace H:=Option.bind_eq_some_iff.mp H
           obtain ⟨t132,A650,H⟩:=H
           replace H:(some t132) = some r:=H
           have A65:=Aside0.mk A650
           clear A650
           obtain rfl:=Option.some.inj H
           go_wp2_with (first|((with_reducible refine gate_callee (f:=34) rfl ?_);refine goesL_ (some 96) rfl rfl Try.func34 (by kernel_rfl) rfl #[.slice Ao18 t109.length co18,.slice A1 l1.length c1] rfl (by (try simp only [List.map_toArray,List.map_cons,List.map_nil]);first|done|rfl|(simp only [List.length_drop,List.length_take];rfl)) ?_;(with_reducible refine (contangolaw23_kept.calls k2 _ _ t109 _ _ l1 true _ ?side1 ?side2 ?side3 ?side4 A61.out).mono ?_);(case side1=>repeat (first|exact (Kd.N_reads' HO_6.out).2.2|(with_reducible refine Kd.C_alloc ?_ _)|(with_reducible refine Kd.C_drewN ?_ _)|(with_reducible refine Kd.C_drew ?_)));(case side2=>exact (Kd.N_reads' HO_6.out).2.1);(case side3=>repeat (first|exact (Kd.C_below HR1.out HB.out)|(with_reducible refine Kd.C_alloc ?_ _)|(with_reducible refine Kd.C_drewN ?_ _)|(with_reducible refine Kd.C_drew ?_)));(case side4=>exact HC1.out);rintro e w66 ⟨rfl,hb⟩;refine ⟨_,rfl,?_⟩;have n0_:=Aside0.mk (Kd.R_below (by (with_reducible repeat (first|apply Kd.R_alloc|apply Kd.R_drewN|apply Kd.R_drew));exact HO_5.out) hb);have n1_:=Aside0.mk (Kd.N_below (by (with_reducible repeat (first|apply Kd.N_alloc|apply Kd.N_drewN|apply Kd.N_drew));exact HO_6.out) hb);have n2_:=Aside0.mk (Kd.R_below (by (with_reducible repeat (first|apply Kd.R_alloc|apply Kd.R_drewN|apply Kd.R_drew));exact HO_7.out) hb);have n3_:=Aside0.mk (below_step (by repeat (first|(with_reducible first|exact HB.out|apply below_alloc|apply pw_below_drewN|apply below_drew1)|exact HB.out)) hb);clear HO_5;clear HO_6;clear HO_7;clear HB;have HO_5:=n0_;have HO_6:=n1_;have HO_7:=n2_;have HB:=n3_;clear n0_ n1_ n2_ n3_;(try clear hb);(try clear hb2);(try clear hk);(try clear hi))|(go_at_call 35;(with_reducible refine (contangoref23_Positions.calls k2 _ _ y106 _ _ l0 true _ ?side1 ?side2 ?side3 ?side4 A63.out).mono ?_);(case side1=>repeat (first|exact (Kd.R_reads' HO_5.out).2.2|(with_reducible refine Kd.C_alloc ?_ _)|(with_reducible refine Kd.C_drewN ?_ _)|(with_reducible refine Kd.C_drew ?_)));(case side2=>exact (Kd.R_reads' HO_5.out).2.1);(case side3=>repeat (first|exact (Kd.C_below HR0.out HB.out)|(with_reducible refine Kd.C_alloc ?_ _)|(with_reducible refine Kd.C_drewN ?_ _)|(with_reducible refine Kd.C_drew ?_)));(case side4=>exact HC0.out);rintro e w' ⟨rfl,⟨nd,rfl⟩⟩)|(go_at_call 25;(with_reducible refine (contangolaw23_goes.calls k2  t132 _ A65.out).mono ?_);rintro e w67 ⟨rfl,hb⟩;have n0_:=Aside0.mk (Kd.R_below (by (with_reducible repeat (first|apply Kd.R_alloc|apply Kd.R_drewN|apply Kd.R_drew));exact HO_5.out) hb);have n1_:=Aside0.mk (Kd.N_below (by (with_reducible repeat (first|apply Kd.N_alloc|apply Kd.N_drewN|apply Kd.N_drew));exact HO_6.out) hb);have n2_:=Aside0.mk (Kd.R_below (by (with_reducible repeat (first|apply Kd.R_alloc|apply Kd.R_drewN|apply Kd.R_drew));exact HO_7.out) hb);have n3_:=Aside0.mk (below_step (by repeat (first|(with_reducible first|exact HB.out|apply below_alloc|apply pw_below_drewN|apply below_drew1)|exact HB.out)) hb);clear HO_5;clear HO_6;clear HO_7;clear HB;have HO_5:=n0_;have HO_6:=n1_;have HO_7:=n2_;have HB:=n3_;clear n0_ n1_ n2_ n3_;(try clear hb);(try clear hb2);(try clear hk);(try clear hi)))
           go_ret
           exact ⟨by first|rfl|(simp [errW_none,errW_some] <;> rfl)|(simp [*,errW_none,errW_some] <;> rfl),by repeat (first|(with_reducible first|exact HB.out|apply below_alloc|apply pw_below_drewN|apply below_drew1)|exact HB.out)⟩
          ·replace c64:=Bool.eq_false_iff.mpr c64
           subst c64
           have H1:(none) = some r:=by rw [if_neg (show ¬ (false = true) by decide)] at H;exact H
           clear H
           have H:=H1
           clear H1
           exact absurd H (by simp)
         ·replace c62:=Bool.eq_false_iff.mpr c62
          subst c62
          have H1:(none) = some r:=by rw [if_neg (show ¬ (false = true) by decide)] at H;exact H
          clear H
          have H:=H1
          clear H1
          exact absurd H (by simp)
  ·rw [if_neg c5] at H
   exact absurd H (by simp)
 ·replace c4:=Bool.eq_false_iff.mpr c4
  subst c4
  have H1:((contangolaw23_goes.f k).bind fun t102=>(some t102)) = some r:=by rw [if_neg (show ¬ (false = true) by decide)] at H;exact H
  clear H
  have H:=H1
  clear H1
  replace H:=Option.bind_eq_some_iff.mp H
  obtain ⟨t102,A680,H⟩:=H
  replace H:(some t102) = some r:=H
  have A68:=Aside0.mk A680
  clear A680
  obtain rfl:=Option.some.inj H
  go_enter Try.func7,Try.ntmps7
  go_wp2_with (first|((with_reducible refine gate_callee (f:=24) rfl ?_);refine goesL_ (some 20) rfl rfl Try.func24 (by kernel_rfl) rfl #[.slice A0 l0.length c0,.slice A1 l1.length c1] rfl (by (try simp only [List.map_toArray,List.map_cons,List.map_nil]);first|done|rfl|(simp only [List.length_drop,List.length_take];rfl)) ?_;(with_reducible refine (contangolaw23_few.calls k _ _ l0 _ _ l1 false _ ?side1 ?side2 ?side3 ?side4 A3.out).mono ?_);(case side1=>repeat (first|exact HR0.out|(with_reducible refine Kd.C_alloc ?_ _)|(with_reducible refine Kd.C_drewN ?_ _)|(with_reducible refine Kd.C_drew ?_)));(case side2=>exact HC0.out);(case side3=>repeat (first|exact HR1.out|(with_reducible refine Kd.C_alloc ?_ _)|(with_reducible refine Kd.C_drewN ?_ _)|(with_reducible refine Kd.C_drew ?_)));(case side4=>exact HC1.out);rintro e w69 ⟨rfl,hb⟩;refine ⟨_,rfl,?_⟩;have n0_:=Aside0.mk (below_step (by repeat (first|(with_reducible first|exact HB.out|apply below_alloc|apply pw_below_drewN|apply below_drew1)|exact HB.out)) hb);clear HB;have HB:=n0_;clear n0_;(try clear hb);(try clear hb2);(try clear hk);(try clear hi))|((with_reducible refine gate_callee (f:=25) rfl ?_);refine goesL_ (some 22) rfl rfl Try.func25 (by kernel_rfl) rfl #[] rfl (by (try simp only [List.map_toArray,List.map_cons,List.map_nil]);first|done|rfl|(simp only [List.length_drop,List.length_take];rfl)) ?_;(with_reducible refine (contangolaw23_goes.calls k  t102 _ A68.out).mono ?_);rintro e w70 ⟨rfl,hb⟩;refine ⟨_,rfl,?_⟩;have n0_:=Aside0.mk (below_step (by repeat (first|(with_reducible first|exact HB.out|apply below_alloc|apply pw_below_drewN|apply below_drew1)|exact HB.out)) hb);clear HB;have HB:=n0_;clear n0_;(try clear hb);(try clear hb2);(try clear hk);(try clear hi)))
  go_ret
  exact ⟨by first|rfl|(simp [errW_none,errW_some] <;> rfl)|(simp [*,errW_none,errW_some] <;> rfl),by repeat (first|(with_reducible first|exact HB.out|apply below_alloc|apply pw_below_drewN|apply below_drew1)|exact HB.out)⟩
end Go.Proofs.Ytbgeceiddcokmaa.X
end
section
namespace Go.Proofs.Ytbgeceiddcokmaa.Opn
open Go.ChangeShapes Go.WideShapes Go.Proofs.YtbgeceiddcokmaaW.PrintWords
set_option linter.unusedVariables false
set_option linter.unusedSimpArgs false
structure Opens (P:Program) (t:TypeId) {α:Type} (d:Kd α) (Ok:α → Prop):Prop where
  sz:d.sz = P.cellsOf t
  opens:∀ {H:Type} {enc:TypeId × Value → H} {w:World} {base:Nat} {spare:Nat → Bool} {held:Bool} {fuel:Nat} {cs:List Value} {x:DataW H × List MemPlace},
    DataW.trod enc P w base spare held fuel t cs = some x → (∀ n ∈ x.1.weights P t,n ≤ reachBytes) → ∃ v,d.K w v cs ∧ Ok v
theorem opens_int {P:Program} {t:TypeId} {k:IntKind} (ht:P.underlying t = some (.int k)) (hc:P.cellsOf t = 1):Opens P t (Kd.int k) (fun n=>(Lit.int k n).wf = true):=by
  refine ⟨hc.symm,fun h _=>?_⟩
  obtain ⟨n,rfl,_,hw⟩:=DataW.trod_int ht h
  exact ⟨n,rfl,hw⟩
theorem opens_string {P:Program} {t:TypeId} (ht:P.underlying t = some .string) (hc:P.cellsOf t = 1):Opens P t Kd.string (fun s=>s.size ≤ 140737488351232):=by
  refine ⟨hc.symm,fun h hw=>?_⟩
  obtain ⟨s,rfl,rfl,hs⟩:=DataW.trod_string ht h
  refine ⟨s,rfl,?_⟩
  have:=hw s.data.toList.length (by simp [DataW.weights])
  rw [Array.length_toList] at this
  exact this
theorem weights_all {H:Type} {P:Program} {e:TypeId}:∀ {ds:List (DataW H)} {j:Nat} {d:DataW H},ds[j]? = some d → ∀ n ∈ d.weights P e,n ∈ DataW.weightsAll P e ds
  | d0 :: ds,0,d,hd,n,hn=>by
    simp only [List.getElem?_cons_zero,Option.some.injEq] at hd
    subst hd
    simp only [DataW.weightsAll,List.mem_append]
    exact Or.inl hn
  | d0 :: ds,j + 1,d,hd,n,hn=>by
    simp only [List.getElem?_cons_succ] at hd
    simp only [DataW.weightsAll,List.mem_append]
    exact Or.inr (weights_all hd n hn)
  | [],_,_,hd,_,_=>by simp at hd
theorem list_of {α:Type} {n:Nat} {p:Nat → α → Prop} (h:∀ i,i < n → ∃ x,p i x):∃ l:List α,l.length = n ∧ ∀ i x,l[i]? = some x → p i x:=by
  induction n with
  | zero=>exact ⟨[],rfl,fun i x hx=>by simp at hx⟩
  | succ n ih =>
    obtain ⟨l,hl,hp⟩:=ih (fun i hi=>h i (by omega))
    obtain ⟨x,hx⟩:=h n (by omega)
    refine ⟨l ++ [x],by simp [hl],fun i y hy=>?_⟩
    by_cases hi:i < l.length
    · rw [List.getElem?_append_left hi] at hy
      exact hp i y hy
    · rw [List.getElem?_append_right (by omega)] at hy
      have:i - l.length = 0:=by
        cases hk:i - l.length with
        | zero=>rfl
        | succ m=>rw [hk] at hy;simp at hy
      rw [this] at hy
      simp at hy
      subst hy
      have:i = n:=by omega
      subst this
      exact hx
theorem opens_slice {P:Program} {t e:TypeId} {α:Type} {d:Kd α} {Ok:α → Prop} (h:Opens P e d Ok) (ht:P.underlying t = some (.slice e)) (hc:P.cellsOf t = 1) {B:Nat} (hB:P.bytesOf e = B) :
    Opens P t (Kd.slice e d) (fun l=>l.length ≤ maxLen ∧ l.length * B ≤ 140737488351232 ∧ ∀ x ∈ l,Ok x):=by
  subst hB
  refine ⟨hc.symm,fun {H enc w base spare held fuel cs x} hx hw=>?_⟩
  rcases DataW.trod_slice ht hx with ⟨rfl,rfl⟩|⟨a,len,cap,elems,rest,n,_,rfl,rfl,hb,hl,hm,hlen,hel,hsp,hns⟩
  · exact ⟨[],⟨none,0,rfl,Nat.le_refl _,Kd.C_nil _ _⟩,by simp⟩
  simp only [DataW.weights,ht] at hw
  have hw1:(elems.length + rest.length) * P.bytesOf e ≤ reachBytes:=by
    have:=hw ((elems.length + rest.length) * P.bytesOf e) (by simp)
    exact this
  have hone:∀ i,i < len → ∃ v:α,∃ c,w.cells? base (a.add (i * P.cellsOf e)) (P.cellsOf e) = some c ∧ d.K w v c ∧ Ok v:=by
    intro i hi
    have h1:=hel i hi
    rw [List.getElem?_eq_getElem (by omega)] at h1
    obtain ⟨c,hc1,hc2⟩:=Option.bind_eq_some_iff.1 h1
    obtain ⟨v,hv,hok⟩:=h.opens hc2 (fun n hn=>hw n (by
      simp only [List.mem_cons,List.mem_append]
      right;left
      refine weights_all (j:=i) ?_ n hn
      rw [List.getElem?_map,List.getElem?_eq_getElem (by omega)]
      rfl))
    exact ⟨v,c,hc1,hv,hok⟩
  obtain ⟨l,hl1,hl2⟩:=list_of hone
  subst hl1
  refine ⟨l,⟨some a,cap,rfl,hl,rfl,?_,fun _=>⟨a,rfl,fun j p hj=>?_⟩⟩,?_,?_,?_⟩
  · unfold maxLen at hm;omega
  · obtain ⟨c,hc1,hc2,_⟩:=hl2 j p hj
    obtain ⟨_,hlen2,hcell⟩:=World.cells?_some hc1
    refine ⟨c,by rw [h.sz];exact hlen2,hc2,fun i u hu=>?_⟩
    have hi:i < P.cellsOf e:=by
      have:=(List.getElem?_eq_some_iff.1 hu).1
      omega
    have:=hcell i hi
    rw [hu,← Deep.add_add,h.sz] at *
    exact this
  · exact Nat.le_trans hl hm
  · have h2:l.length * P.bytesOf e ≤ (elems.length + rest.length) * P.bytesOf e:=Nat.mul_le_mul_right _ (by omega)
    exact Nat.le_trans h2 hw1
  · intro x hx
    obtain ⟨j,hj⟩:=List.getElem?_of_mem hx
    obtain ⟨c,_,_,ho⟩:=hl2 j x hj
    exact ho
structure OpensF (P:Program) (fs:List Field) (off:Nat) {α:Type} (d:Kd α) (Ok:α → Prop):Prop where
  opens:∀ {H:Type} {enc:TypeId × Value → H} {w:World} {base:Nat} {spare:Nat → Bool} {held:Bool} {n:Nat} {cs:List Value} {xs:List (DataW H × List MemPlace)},
    xs.length = fs.length → (∀ (i:Nat) (f:Field),fs[i]? = some f → DataW.trod enc P w base spare held n f.type ((cs.drop f.offset).take (P.cellsOf f.type)) = xs[i]?) →
    (∀ m ∈ DataW.weightsEach P (fs.map (·.type)) (xs.map (·.1)),m ≤ reachBytes) → ∃ v,d.K w v ((cs.drop off).take d.sz) ∧ Ok v
theorem opensF_one {P:Program} {f:Field} {off:Nat} {α:Type} {d:Kd α} {Ok:α → Prop} (h:Opens P f.type d Ok) (ho:f.offset = off):OpensF P [f] off d Ok:=by
  refine ⟨fun {H enc w base spare held n cs xs} hl hx hw=>?_⟩
  match xs,hl with
  | [x],_ =>
    have h1:=hx 0 f rfl
    obtain ⟨v,hv,hok⟩:=h.opens h1 (fun n hn=>hw n (by simpa [DataW.weightsEach] using hn))
    refine ⟨v,?_,hok⟩
    rw [h.sz,← ho]
    exact hv
theorem opensF_cons {P:Program} {f:Field} {fs:List Field} {off:Nat} {α β:Type} {d:Kd α} {d':Kd β} {Ok:α → Prop} {Ok':β → Prop} (h:Opens P f.type d Ok) (ho:f.offset = off) (h':OpensF P fs (off + d.sz) d' Ok') :
    OpensF P (f :: fs) off (Kd.pair d d') (fun p=>Ok p.1 ∧ Ok' p.2):=by
  refine ⟨fun {H enc w base spare held n cs xs} hl hx hw=>?_⟩
  match xs,hl with
  | x :: xs,hl =>
    have h1:=hx 0 f rfl
    obtain ⟨v,hv,hok⟩:=h.opens h1 (fun n hn=>hw n (by
      simp only [List.map_cons,DataW.weightsEach,List.mem_append];exact Or.inl hn))
    obtain ⟨v',hv',hok'⟩:=h'.opens (cs:=cs) (xs:=xs) (by simpa using hl) (fun i g hg=>by
      have:=hx (i + 1) g (by simpa using hg)
      simpa using this) (fun m hm=>hw m (by simp only [List.map_cons,DataW.weightsEach,List.mem_append];exact Or.inr hm))
    refine ⟨(v,v'),⟨(cs.drop off).take d.sz,(cs.drop (off + d.sz)).take d'.sz,?_,?_,hv'⟩,hok,hok'⟩
    · show (cs.drop off).take (d.sz + d'.sz) = _
      rw [List.take_add,List.drop_drop]
    · rw [h.sz,← ho];exact hv
theorem opens_struct {P:Program} {t:TypeId} {fs:Array Field} {α β:Type} {d:Kd α} {Ok:α → Prop} (h:OpensF P fs.toList 0 d Ok) (ht:P.underlying t = some (.struct fs)) (hc:d.sz = P.cellsOf t) (f:β → α) (mk:α → β) (hf:∀ a,f (mk a) = a) :
    Opens P t (Kd.iso d f) (fun b=>Ok (f b)):=by
  refine ⟨hc,fun {H enc w base spare held fuel cs x} hx hw=>?_⟩
  obtain ⟨xs,n,_,rfl,hlen,hsz,hall⟩:=DataW.trod_struct ht hx
  simp only [DataW.weights,ht] at hw
  obtain ⟨v,hv,hok⟩:=h.opens (cs:=cs) (xs:=xs) (by simpa using hsz) (fun i f hf=>hall i f (by simpa using hf)) hw
  refine ⟨mk v,?_,by rw [hf];exact hok⟩
  show d.K w (f (mk v)) cs
  rw [hf]
  rw [List.drop_zero,hc,← hlen,List.take_length] at hv
  exact hv
theorem opens_imp {P:Program} {t:TypeId} {α:Type} {d:Kd α} {Ok Ok':α → Prop} (h:Opens P t d Ok) (hi:∀ v,Ok v → Ok' v):Opens P t d Ok' :=
  ⟨h.sz,fun hx hw=>let ⟨v,hv,ho⟩:=h.opens hx hw;⟨v,hv,hi v ho⟩⟩
end Go.Proofs.Ytbgeceiddcokmaa.Opn
end
section
namespace Go.Proofs.Ytbgeceiddcokmaa.X
open Go.RowKit Go.Proofs.YtbgeceiddcokmaaW.PrintWords Go.Proofs.YtbgeceiddcokmaaW.PrintLast Go.Proofs.YtbgeceiddcokmaaW.PrintMore
attribute [local go_sem] max2_int min2_int max_two min_two max_three min_three max_four min_four
set_option linter.unusedVariables false
set_option linter.unusedSimpArgs false
def ok39 (v:S39):Prop:=v.f0.size ≤ 140737488351232 ∧ ((Lit.int .i64 v.f1).wf = true ∧ ((Lit.int .i64 v.f2).wf = true ∧ ((Lit.int .i64 v.f3).wf = true)))
theorem opens39:Opn.Opens Try.prog 39 k39 ok39:=by
 have hu:=Try.underlying39
 refine Opn.opens_imp (Opn.opens_struct (Ok:=fun (p:ByteArray × (Int × (Int × (Int))))=>p.1.size ≤ 140737488351232 ∧ ((Lit.int .i64 p.2.1).wf = true ∧ ((Lit.int .i64 p.2.2.1).wf = true ∧ ((Lit.int .i64 p.2.2.2).wf = true)))) ?hF hu (by kernel_rfl) (fun x:S39=>(x.f0,x.f1,x.f2,x.f3)) (fun a=>⟨a.1,a.2.1,a.2.2.1,a.2.2.2⟩) (fun _=>rfl)) ?hI
 case hF =>
  refine Opn.opensF_cons (Ok:=fun (p:ByteArray)=>p.size ≤ 140737488351232) (Ok':=fun (p:Int × (Int × (Int)))=>(Lit.int .i64 p.1).wf = true ∧ ((Lit.int .i64 p.2.1).wf = true ∧ ((Lit.int .i64 p.2.2).wf = true))) (h:=?_) (ho:=?_) (h':=?_)
  ·exact Opn.opens_string Try.underlying9 (by kernel_rfl)
  ·rfl
  ·skip
   refine Opn.opensF_cons (Ok:=fun (p:Int)=>(Lit.int .i64 p).wf = true) (Ok':=fun (p:Int × (Int))=>(Lit.int .i64 p.1).wf = true ∧ ((Lit.int .i64 p.2).wf = true)) (h:=?_) (ho:=?_) (h':=?_)
   ·exact Opn.opens_int Try.underlying3 (by kernel_rfl)
   ·rfl
   ·skip
    refine Opn.opensF_cons (Ok:=fun (p:Int)=>(Lit.int .i64 p).wf = true) (Ok':=fun (p:Int)=>(Lit.int .i64 p).wf = true) (h:=?_) (ho:=?_) (h':=?_)
    ·exact Opn.opens_int Try.underlying3 (by kernel_rfl)
    ·rfl
    ·skip
     refine Opn.opensF_one (Ok:=fun (p:Int)=>(Lit.int .i64 p).wf = true) (h:=?_) (ho:=?_)
     ·exact Opn.opens_int Try.underlying3 (by kernel_rfl)
     ·rfl
 case hI=>exact fun v h=>h
def ok91 (v:S91):Prop:=ok39 v.f0 ∧ ((v.f1.length ≤ maxLen ∧ v.f1.length * 8 ≤ 140737488351232 ∧ ∀ x ∈ v.f1,(Lit.int .i64 x).wf = true) ∧ ((Lit.int .i64 v.f2).wf = true))
theorem opens91:Opn.Opens Try.prog 91 k91 ok91:=by
 have hu:=Try.underlying91
 refine Opn.opens_imp (Opn.opens_struct (Ok:=fun (p:S39 × (List Int × (Int)))=>ok39 p.1 ∧ ((p.2.1.length ≤ maxLen ∧ p.2.1.length * 8 ≤ 140737488351232 ∧ ∀ x ∈ p.2.1,(Lit.int .i64 x).wf = true) ∧ ((Lit.int .i64 p.2.2).wf = true))) ?hF hu (by kernel_rfl) (fun x:S91=>(x.f0,x.f1,x.f2)) (fun a=>⟨a.1,a.2.1,a.2.2⟩) (fun _=>rfl)) ?hI
 case hF =>
  refine Opn.opensF_cons (Ok:=fun (p:S39)=>ok39 p) (Ok':=fun (p:List Int × (Int))=>(p.1.length ≤ maxLen ∧ p.1.length * 8 ≤ 140737488351232 ∧ ∀ x ∈ p.1,(Lit.int .i64 x).wf = true) ∧ ((Lit.int .i64 p.2).wf = true)) (h:=?_) (ho:=?_) (h':=?_)
  ·exact opens39
  ·rfl
  ·skip
   refine Opn.opensF_cons (Ok:=fun (p:List Int)=>(p.length ≤ maxLen ∧ p.length * 8 ≤ 140737488351232 ∧ ∀ x ∈ p,(Lit.int .i64 x).wf = true)) (Ok':=fun (p:Int)=>(Lit.int .i64 p).wf = true) (h:=?_) (ho:=?_) (h':=?_)
   ·exact Opn.opens_slice (Opn.opens_int Try.underlying3 (by kernel_rfl)) Try.underlying23 (by kernel_rfl) (B:=8) (by kernel_rfl)
   ·rfl
   ·skip
    refine Opn.opensF_one (Ok:=fun (p:Int)=>(Lit.int .i64 p).wf = true) (h:=?_) (ho:=?_)
    ·exact Opn.opens_int Try.underlying3 (by kernel_rfl)
    ·rfl
 case hI=>exact fun v h=>h
def ok73 (v:S73):Prop:=ok39 v.f0 ∧ ((Lit.int .i64 v.f1).wf = true ∧ ((Lit.int .i64 v.f2).wf = true))
theorem opens73:Opn.Opens Try.prog 73 k73 ok73:=by
 have hu:=Try.underlying73
 refine Opn.opens_imp (Opn.opens_struct (Ok:=fun (p:S39 × (Int × (Int)))=>ok39 p.1 ∧ ((Lit.int .i64 p.2.1).wf = true ∧ ((Lit.int .i64 p.2.2).wf = true))) ?hF hu (by kernel_rfl) (fun x:S73=>(x.f0,x.f1,x.f2)) (fun a=>⟨a.1,a.2.1,a.2.2⟩) (fun _=>rfl)) ?hI
 case hF =>
  refine Opn.opensF_cons (Ok:=fun (p:S39)=>ok39 p) (Ok':=fun (p:Int × (Int))=>(Lit.int .i64 p.1).wf = true ∧ ((Lit.int .i64 p.2).wf = true)) (h:=?_) (ho:=?_) (h':=?_)
  ·exact opens39
  ·rfl
  ·skip
   refine Opn.opensF_cons (Ok:=fun (p:Int)=>(Lit.int .i64 p).wf = true) (Ok':=fun (p:Int)=>(Lit.int .i64 p).wf = true) (h:=?_) (ho:=?_) (h':=?_)
   ·exact Opn.opens_int Try.underlying3 (by kernel_rfl)
   ·rfl
   ·skip
    refine Opn.opensF_one (Ok:=fun (p:Int)=>(Lit.int .i64 p).wf = true) (h:=?_) (ho:=?_)
    ·exact Opn.opens_int Try.underlying3 (by kernel_rfl)
    ·rfl
 case hI=>exact fun v h=>h
end Go.Proofs.Ytbgeceiddcokmaa.X
end
section
namespace Go.Proofs.Ytbgeceiddcokmaa.P
open Go.RowKit Go.Proofs.YtbgeceiddcokmaaW.PrintWords Go.Proofs.YtbgeceiddcokmaaW.PrintMore Go.Proofs.Ytbgeceiddcokmaa.X
theorem Ev_succ {α:Type} {g:Nat → Option α} {r:α} (h:Ev (fun k=>g (k + 1)) r):Ev g r:=Ev.step (fun _=>rfl) h
theorem Ev_bind {α β:Type} {g:Nat → Option α} {f:Nat → α → Option β} {a:α} {r:β} (h:Ev g a) (k:Ev (fun n=>f n a) r):Ev (fun n=>(g n).bind (f n)) r:=Ev.bind h k
theorem Ev_id {α:Type} {g:Nat → Option α} {r:α} (h:Ev g r):Ev (fun n=>(g n).bind fun x=>some x) r:=Ev.bind h (Ev.now _)
theorem w_id {x:Int} (h1:-9223372036854775808 ≤ x) (h2:x ≤ 9223372036854775807):wrap64 x = x:=by unfold wrap64;omega
theorem w_succ {i n:Nat} (h:i < n) (hn:n ≤ 9223372036854775807):wrap64 ((i:Int) + 1) = ((i + 1:Nat):Int):=by rw [w_id (by omega) (by omega)];omega
theorem w_pred {i:Nat} (h:0 < i) (hn:i ≤ 9223372036854775807):wrap64 ((i:Int) - 1) = ((i - 1:Nat):Int):=by rw [w_id (by omega) (by omega)];omega
theorem rd_nat (xs:List Int) (i:Nat) (h:i < xs.length):rd xs (i:Int) = xs[i]:=by simp [rd,h]
theorem drop_cons {α:Type} (l:List α) (i:Nat) (h:i < l.length):l.drop i = l[i] :: l.drop (i + 1):=(List.getElem_cons_drop h).symm
theorem i64_and32 (n:Int):Go.bits .and .i64 n 4294967295 = n % 4294967296:=by
 have h127:(BitVec.ofInt 64 4294967295).toNat = 2 ^ 32 - 1:=by decide
 have key:(BitVec.ofInt 64 n &&& BitVec.ofInt 64 4294967295).toNat = (n % ((2 ^ 64:Nat):Int)).toNat % 2 ^ 32:=by
  rw [BitVec.toNat_and,BitVec.toNat_ofInt,h127,Nat.and_two_pow_sub_one_eq_mod]
 show IntKind.i64.wrap ((BitVec.ofInt 64 n &&& BitVec.ofInt 64 4294967295).toNat:Nat) = n % 4294967296
 rw [key,IntKind.wrap_i64]
 omega
end Go.Proofs.Ytbgeceiddcokmaa.P
end
section
namespace Go.Proofs.Ytbgeceiddcokmaa.P
set_option linter.unusedVariables false
set_option linter.unusedSimpArgs false
open Go.RowKit Go.Proofs.YtbgeceiddcokmaaW.PrintWords Go.Proofs.YtbgeceiddcokmaaW.PrintMore Go.Proofs.Ytbgeceiddcokmaa.X
abbrev Ser:=S39
abbrev Pos:=S73
def cmpI (a b:Int):Int:=if a < b then -1 else if a > b then 1 else 0
def cmpB (a b:ByteArray):Int:=if (Op.bytesLess a.toList b.toList) = true then -1 else if (Op.bytesLess b.toList a.toList) = true then 1 else 0
def cmpS (a b:Ser):Int :=
 if a.f0.toList = b.f0.toList then (if a.f2 = b.f2 then (if a.f1 = b.f1 then cmpI a.f3 b.f3 else cmpI a.f1 b.f1) else cmpI a.f2 b.f2) else cmpB a.f0 b.f0
theorem cmpI_f (a b:Int):cmp_Compare_int.f a b = some (cmpI a b):=by
 unfold cmp_Compare_int.f cmp_isNaN_int.f cmpI
 simp only [bne_self_eq_false,Option.bind_some,Bool.false_eq_true,if_false]
 split
 ·rfl
 ·split <;> rfl
theorem cmpB_f (a b:ByteArray):cmp_Compare_string.f a b = some (cmpB a b):=by
 unfold cmp_Compare_string.f cmp_isNaN_string.f cmpB
 simp only [bne_self_eq_false,Option.bind_some,Bool.false_eq_true,if_false]
 split
 ·rfl
 ·split <;> rfl
theorem cmpS_f (a b:Ser):series_Compare.f a.f0 a.f1 a.f2 a.f3 b.f0 b.f1 b.f2 b.f3 = some (cmpS a b):=by
 unfold series_Compare.f cmpS
 simp only [cmpI_f,cmpB_f,Option.bind_some]
 by_cases h0:a.f0.toList = b.f0.toList
 ·by_cases h2:a.f2 = b.f2
  ·by_cases h1:a.f1 = b.f1
   ·by_cases h3:a.f3 = b.f3
    ·simp [h0,h1,h2,h3,cmpI]
    ·simp [h0,h1,h2,h3]
   ·simp [h0,h1,h2]
  ·simp [h0,h2]
 ·simp [h0]
def eqS (a b:Ser):Bool:=a.f0.toList == b.f0.toList && (a.f1 == b.f1 && (a.f2 == b.f2 && a.f3 == b.f3))
def lots (n:Int):Bool:=decide (0 ≤ n) && decide (n ≤ 1048576)
theorem lots_f (n:Int):position_lots.f n = some (lots n):=by
 unfold position_lots.f lots
 by_cases h:n ≥ 0
 ·rw [if_pos h,decide_eq_true (show 0 ≤ n from h),Bool.true_and]
 ·rw [if_neg h,decide_eq_false (show ¬ 0 ≤ n from h),Bool.false_and]
def posBad (p:Pos):Bool:=!(lots p.f1) || !(lots p.f2) || (decide (p.f1 = 0) && decide (p.f2 = 0))
def behind (prev:Option Ser) (s:Ser):Bool:=match prev with|some q=>decide (cmpS q s ≥ 0)|none=>false
def posGo:Option Ser → List Pos → Int
 | _,[]=>0
 | prev,p :: r=>if behind prev p.f0 = true then 19 else if posBad p = true then 18 else posGo (some p.f0) r
def posCheck (l:List Pos):Int:=if l.length > 128 then 8 else posGo none l
def prevOf (l:List Pos) (i:Nat):Option Ser:=if i = 0 then none else (l[i - 1]?).map (·.f0)
theorem rdPos (l:List Pos) (i:Nat) (h:i < l.length):rd_T73 l (i:Int) = l[i]:=by simp [rd_T73,h]
theorem posJ (l:List Pos) (i:Nat) (b:Bool) (p:Pos) (r:Int)
  (h:b = false → posBad p = false → Ev (fun k=>position_Check.l0 k l l l.length (wrap64 ((i:Int) + 1))) r) :
  Ev (fun k=>position_Check.j1 k l l l.length i b p.f0.f0 p.f0.f1 p.f0.f2 p.f0.f3 p.f1 p.f2) (if b = true then 19 else if posBad p = true then 18 else r):=by
 refine Ev_succ ?_
 simp only [position_Check.j1,lots_f,Option.bind_some]
 cases b with
 | true=>exact Ev.now _
 | false =>
  simp only [Bool.false_eq_true,if_false]
  cases h1:lots p.f1 with
  | false=>simp only [posBad,h1,Bool.not_false,Bool.true_or,if_true,Bool.false_eq_true,if_false];exact Ev.now _
  | true =>
   cases h2:lots p.f2 with
   | false=>simp only [posBad,h1,h2,Bool.not_false,Bool.not_true,Bool.true_or,Bool.or_true,if_true,Bool.false_eq_true,if_false];exact Ev.now _
   | true =>
    simp only [if_true]
    by_cases z1:p.f1 = 0
    ·by_cases z2:p.f2 = 0
     ·have hb:posBad p = true:=by simp [posBad,z1,z2]
      simp only [hb,if_true,if_pos z1,if_pos z2]
      exact Ev.now _
     ·have hb:posBad p = false:=by simp only [posBad,h1,h2];simp [z2]
      simp only [hb,Bool.false_eq_true,if_false,if_neg z2,ite_self]
      exact h rfl hb
    ·have hb:posBad p = false:=by simp only [posBad,h1,h2];simp [z1]
     simp only [hb,Bool.false_eq_true,if_false,if_neg z1]
     exact h rfl hb
theorem posLoop (l:List Pos) (hl:l.length ≤ 4611686018427387904):∀ (d i:Nat),i + d = l.length → Ev (fun k=>position_Check.l0 k l l l.length i) (posGo (prevOf l i) (l.drop i))
 | 0,i,hd=>by
  refine Ev_succ ?_
  simp only [position_Check.l0,if_neg (show ¬ ((i:Int) < (l.length:Int)) by omega)]
  rw [List.drop_of_length_le (by omega)]
  exact Ev.now _
 | d + 1,i,hd=>by
  have hi:i < l.length:=by omega
  have ih:=posLoop l hl d (i + 1) (by omega)
  rw [← w_succ hi (by omega)] at ih
  have hprev:prevOf l (i + 1) = some l[i].f0:=by simp [prevOf,hi]
  rw [hprev] at ih
  rw [drop_cons l i hi]
  refine Ev_succ ?_
  simp only [position_Check.l0,if_pos (show (i:Int) < (l.length:Int) by omega),if_pos (show 0 ≤ (i:Int) by omega),rdPos l i hi]
  by_cases h0:i = 0
  ·subst h0
   simp only [if_neg (show ¬ (((0:Nat):Int) > 0) by omega)]
   exact posJ l 0 false l[0] _ (fun _ _=>ih)
  ·have hp:=w_pred (show 0 < i by omega) (by omega)
   simp only [if_pos (show ((i:Int) > 0) by omega),hp,if_pos (show 0 ≤ ((i - 1:Nat):Int) by omega),if_pos (show ((i - 1:Nat):Int) < (l.length:Int) by omega),rdPos l (i - 1) (by omega),cmpS_f,Option.bind_some]
   have hb:behind (prevOf l i) l[i].f0 = decide (cmpS l[i - 1].f0 l[i].f0 ≥ 0):=by
    simp [behind,prevOf,h0,show i - 1 < l.length by omega]
   simp only [posGo,hb]
   exact posJ l i _ l[i] _ (fun _ _=>ih)
theorem posCheck_f (l:List Pos) (hl:l.length ≤ 4611686018427387904):Ev (fun k=>position_Check.f k l) (posCheck l):=by
 unfold position_Check.f posCheck
 by_cases h:l.length > 128
 ·simp only [if_pos (show (l.length:Int) > 128 by omega),if_pos h]
  exact Ev.now _
 ·simp only [if_neg (show ¬ ((l.length:Int) > 128) by omega),if_neg h]
  exact posLoop l hl l.length 0 (by omega)
end Go.Proofs.Ytbgeceiddcokmaa.P
end
section
namespace Go.Proofs.Ytbgeceiddcokmaa.P
set_option linter.unusedVariables false
set_option linter.unusedSimpArgs false
open Go.RowKit Go.Proofs.YtbgeceiddcokmaaW.PrintWords Go.Proofs.YtbgeceiddcokmaaW.PrintMore Go.Proofs.Ytbgeceiddcokmaa.X
def fits (n:Int):Bool:=decide (-1152921504606846976 ≤ n) && decide (n ≤ 1152921504606846976)
theorem fits_iff (n:Int):fits n = true ↔ -1152921504606846976 ≤ n ∧ n ≤ 1152921504606846976:=by simp [fits]
theorem fits_f (n:Int):cents_Fits.f n = some (fits n):=by
 unfold cents_Fits.f fits
 by_cases h:n ≥ -1152921504606846976
 ·rw [if_pos h,decide_eq_true (show -1152921504606846976 ≤ n from h),Bool.true_and]
 ·rw [if_neg h,decide_eq_false (show ¬ -1152921504606846976 ≤ n from h),Bool.false_and]
def fitting (n:Int):Int × Int:=if fits n = true then (n,0) else (0,3)
theorem fitting_f (n:Int):cents_fitting.f n = some (fitting n):=by
 unfold cents_fitting.f fitting
 simp only [fits_f,Option.bind_some]
 split <;> rfl
def sumE (l:List Int):Int × Int:=if l.all fits = true then fitting l.sum else (0,2)
theorem sumLoop (l:List Int) (hl:l.length ≤ 1073741824):∀ (d i:Nat) (hi lo:Int),i + d = l.length → -(268435457 * (i:Int)) ≤ hi → hi ≤ 268435457 * (i:Int) → 0 ≤ lo → lo ≤ 4294967295 * (i:Int) →
  Ev (fun k=>cents_Sum.l0 k l hi lo l.length i) (if (l.drop i).all fits = true then fitting (hi * 4294967296 + lo + (l.drop i).sum) else (0,2))
 | 0,i,hi,lo,hd,h1,h2,h3,h4=>by
  refine Ev_succ ?_
  rw [List.drop_of_length_le (by omega)]
  have e1:wrap64 (hi + lo / 4294967296) = hi + lo / 4294967296:=w_id (by omega) (by omega)
  simp only [cents_Sum.l0,if_neg (show ¬ ((i:Int) < (l.length:Int)) by omega),e1,i64_and32,List.all_nil,if_true,List.sum_nil,Int.add_zero]
  by_cases c1:hi + lo / 4294967296 < -268435456
  ·simp only [if_pos c1]
   have:fitting (hi * 4294967296 + lo) = (0,3):=by
    unfold fitting
    rw [if_neg]
    rw [fits_iff]
    omega
   rw [this]
   exact Ev.now _
  ·by_cases c2:hi + lo / 4294967296 > 268435456
   ·simp only [if_neg c1,if_pos c2]
    have:fitting (hi * 4294967296 + lo) = (0,3):=by
     unfold fitting
     rw [if_neg]
     rw [fits_iff]
     omega
    rw [this]
    exact Ev.now _
   ·have e2:wrap64 ((hi + lo / 4294967296) * 4294967296) = (hi + lo / 4294967296) * 4294967296:=w_id (by omega) (by omega)
    have e3:wrap64 ((hi + lo / 4294967296) * 4294967296 + lo % 4294967296) = hi * 4294967296 + lo:=by rw [w_id (by omega) (by omega)];omega
    simp only [if_neg c1,if_neg c2,e2,e3,fitting_f,Option.bind_some]
    exact Ev.now _
 | d + 1,i,hi,lo,hd,h1,h2,h3,h4=>by
  have hlt:i < l.length:=by omega
  rw [drop_cons l i hlt]
  refine Ev_succ ?_
  simp only [cents_Sum.l0,if_pos (show (i:Int) < (l.length:Int) by omega),if_pos (show 0 ≤ (i:Int) by omega),rd_nat l i hlt,fits_f,Option.bind_some,i64_and32,List.all_cons,List.sum_cons]
  by_cases hf:fits l[i] = true
  case neg =>
   have hf':fits l[i] = false:=by simpa using hf
   simp only [hf',Bool.false_eq_true,if_false,Bool.false_and];exact Ev.now _
  case pos =>
   have hb:=(fits_iff _).1 hf
   have e1:wrap64 (hi + l[i] / 4294967296) = hi + l[i] / 4294967296:=w_id (by omega) (by omega)
   have e2:wrap64 (lo + l[i] % 4294967296) = lo + l[i] % 4294967296:=w_id (by omega) (by omega)
   have ih:=sumLoop l hl d (i + 1) (hi + l[i] / 4294967296) (lo + l[i] % 4294967296) (by omega) (by omega) (by omega) (by omega) (by omega)
   rw [← w_succ hlt (by omega)] at ih
   simp only [hf,if_true,Bool.true_and,e1,e2]
   have e4:(hi + l[i] / 4294967296) * 4294967296 + (lo + l[i] % 4294967296) + (l.drop (i + 1)).sum = hi * 4294967296 + lo + (l[i] + (l.drop (i + 1)).sum):=by omega
   rw [e4] at ih
   exact ih
theorem sum_f (l:List Int) (hl:l.length ≤ 1073741824):Ev (fun k=>cents_Sum.f k l) (sumE l):=by
 have:=sumLoop l hl l.length 0 0 0 (by omega) (by omega) (by omega) (by omega) (by omega)
 simpa [cents_Sum.f,sumE] using this
end Go.Proofs.Ytbgeceiddcokmaa.P
end
section
namespace Go.Proofs.Ytbgeceiddcokmaa.P
set_option linter.unusedVariables false
set_option linter.unusedSimpArgs false
open Go.RowKit Go.Proofs.YtbgeceiddcokmaaW.PrintWords Go.Proofs.YtbgeceiddcokmaaW.PrintMore Go.Proofs.Ytbgeceiddcokmaa.X
abbrev Arr:=S91
theorem rdArr (l:List Arr) (i:Nat) (h:i < l.length):rd_T91 l (i:Int) = l[i]:=by simp [rd_T91,h]
def lossBad (x:Int):Bool:=decide (x < -68719476736) || decide (x > 68719476736)
def deltaBad (x:Int):Bool:=decide (x < -1000) || decide (x > 1000)
def lenBad (n m:Nat):Bool:=decide (m < 1) || decide (m > 32) || !(decide (m = n))
def arrErr (n:Nat) (a:Arr):Int:=if lenBad n a.f1.length = true then 27 else if a.f1.any lossBad = true then 3 else if deltaBad a.f2 = true then 2 else 0
def scanGo (n:Nat):Option Ser → List Arr → Int
 | _,[]=>0
 | prev,a :: r=>if behind prev a.f0 = true then 19 else if arrErr n a ≠ 0 then arrErr n a else scanGo n (some a.f0) r
def scanN (l:List Arr):Nat:=match l with|[]=>0|a :: _=>a.f1.length
def scanCheck (l:List Arr):Int:=if l.length > 128 then 8 else scanGo (scanN l) none l
def prevOfA (l:List Arr) (i:Nat):Option Ser:=if i = 0 then none else (l[i - 1]?).map (·.f0)
theorem scanL1 (l:List Arr) (i:Nat) (ls ls':List Int) (b0:ByteArray) (b1 b2 b3 dl:Int) (r:Int) (hl:ls.length ≤ 4611686018427387904)
  (h:ls.any lossBad = false → deltaBad dl = false → Ev (fun k=>scan_Check.l0 k l l l.length (wrap64 ((i:Int) + 1))) r):∀ (d j:Nat),j + d = ls.length → (ls.take j).any lossBad = false →
  Ev (fun k=>scan_Check.l1 k l l l.length i ls ls.length j b0 b1 b2 b3 ls' dl) (if (ls.drop j).any lossBad = true then 3 else if deltaBad dl = true then 2 else r)
 | 0,j,hd,ht=>by
  refine Ev_succ ?_
  rw [List.drop_of_length_le (by omega)]
  simp only [scan_Check.l1,if_neg (show ¬ ((j:Int) < (ls.length:Int)) by omega),List.any_nil,Bool.false_eq_true,if_false]
  have hall:ls.any lossBad = false:=by rw [List.take_of_length_le (by omega)] at ht;exact ht
  by_cases c1:dl < -1000
  ·simp only [if_pos c1,deltaBad,decide_eq_true c1,Bool.true_or,if_true];exact Ev.now _
  ·by_cases c2:dl > 1000
   ·simp only [if_neg c1,if_pos c2,deltaBad,decide_eq_true c2,Bool.or_true,if_true];exact Ev.now _
   ·have hb:deltaBad dl = false:=by simp only [deltaBad,decide_eq_false c1,decide_eq_false c2];rfl
    simp only [if_neg c1,if_neg c2,hb,Bool.false_eq_true,if_false]
    exact h hall hb
 | d + 1,j,hd,ht=>by
  have hj:j < ls.length:=by omega
  rw [drop_cons ls j hj]
  refine Ev_succ ?_
  simp only [scan_Check.l1,if_pos (show (j:Int) < (ls.length:Int) by omega),if_pos (show 0 ≤ (j:Int) by omega),rd_nat ls j hj,List.any_cons]
  by_cases c1:ls[j] < -68719476736
  ·simp only [if_pos c1,lossBad,decide_eq_true c1,Bool.true_or,if_true];exact Ev.now _
  ·by_cases c2:ls[j] > 68719476736
   ·simp only [if_neg c1,if_pos c2,lossBad,decide_eq_true c2,Bool.true_or,Bool.or_true,if_true];exact Ev.now _
   ·have hb:lossBad ls[j] = false:=by simp only [lossBad,decide_eq_false c1,decide_eq_false c2];rfl
    have ih:=scanL1 l i ls ls' b0 b1 b2 b3 dl r hl h d (j + 1) (by omega) (by rw [List.take_succ_eq_append_getElem hj,List.any_append,ht];simp [hb])
    rw [← w_succ hj (by omega)] at ih
    simp only [if_neg c1,if_neg c2,hb,Bool.false_or]
    exact ih
theorem scanJ (l:List Arr) (hl:0 < l.length) (hl2:l.length ≤ 4611686018427387904) (i:Nat) (b:Bool) (a:Arr) (ha:a.f1.length ≤ 4611686018427387904) (r:Int)
  (h:b = false → arrErr (scanN l) a = 0 → Ev (fun k=>scan_Check.l0 k l l l.length (wrap64 ((i:Int) + 1))) r) :
  Ev (fun k=>scan_Check.j1 k l l l.length i b a.f0.f0 a.f0.f1 a.f0.f2 a.f0.f3 a.f1 a.f2) (if b = true then 19 else if arrErr (scanN l) a ≠ 0 then arrErr (scanN l) a else r):=by
 have hn:(((rd_T91 l 0).f1).length:Int) = (scanN l:Int):=by
  cases l with
  | nil=>simp at hl
  | cons x t=>rfl
 have hj2:∀ c:Bool,c = lenBad (scanN l) a.f1.length → b = false → Ev (fun k=>scan_Check.j2 k l l l.length i c a.f0.f0 a.f0.f1 a.f0.f2 a.f0.f3 a.f1 a.f2) (if arrErr (scanN l) a ≠ 0 then arrErr (scanN l) a else r):=by
  intro c hc hb
  refine Ev_succ ?_
  simp only [scan_Check.j2]
  cases hcc:lenBad (scanN l) a.f1.length with
  | true =>
   have:arrErr (scanN l) a = 27:=by simp [arrErr,hcc]
   simp only [hc,hcc,if_true,this]
   exact Ev.now _
  | false =>
   simp only [hc,hcc,Bool.false_eq_true,if_false]
   have key:=scanL1 l i a.f1 a.f1 a.f0.f0 a.f0.f1 a.f0.f2 a.f0.f3 a.f2 r ha (fun h1 h2=>h hb (by simp [arrErr,hcc,h1,h2])) a.f1.length 0 (by omega) (by simp)
   rw [List.drop_zero] at key
   have e:(if a.f1.any lossBad = true then (3:Int) else if deltaBad a.f2 = true then 2 else r) = (if arrErr (scanN l) a ≠ 0 then arrErr (scanN l) a else r):=by
    unfold arrErr
    simp only [hcc,Bool.false_eq_true,if_false]
    by_cases h1:a.f1.any lossBad = true
    ·simp [h1]
    ·by_cases h2:deltaBad a.f2 = true
     ·simp [h1,h2]
     ·simp [h1,h2]
   rw [e] at key
   exact key
 refine Ev_succ ?_
 simp only [scan_Check.j1]
 cases hb:b with
 | true=>exact Ev.now _
 | false =>
  simp only [Bool.false_eq_true,if_false,hn]
  by_cases c1:(a.f1.length:Int) < 1
  ·simp only [if_pos c1]
   exact hj2 true (by have e1:decide (a.f1.length < 1) = true:=decide_eq_true (by omega);simp only [lenBad,e1,Bool.true_or]) hb
  ·by_cases c2:(a.f1.length:Int) > 32
   ·simp only [if_neg c1,if_pos c2]
    exact hj2 true (by have e1:decide (a.f1.length > 32) = true:=decide_eq_true (by omega);simp only [lenBad,e1,Bool.true_or,Bool.or_true]) hb
   ·simp only [if_neg c1,if_neg c2,if_pos (show 0 < (l.length:Int) by omega)]
    refine hj2 _ ?_ hb
    have e1:decide (a.f1.length < 1) = false:=decide_eq_false (by omega)
    have e2:decide (a.f1.length > 32) = false:=decide_eq_false (by omega)
    simp only [lenBad,e1,e2,Bool.false_or]
    by_cases e:a.f1.length = scanN l
    ·simp [e]
    ·have e':¬ ((a.f1.length:Int) = (scanN l:Int)):=by omega
     rw [decide_eq_false e,bne_iff_ne.2 e']
     rfl
theorem scanLoop (l:List Arr) (hl2:l.length ≤ 4611686018427387904) (ha:∀ a ∈ l,a.f1.length ≤ 4611686018427387904):∀ (d i:Nat),i + d = l.length → Ev (fun k=>scan_Check.l0 k l l l.length i) (scanGo (scanN l) (prevOfA l i) (l.drop i))
 | 0,i,hd=>by
  refine Ev_succ ?_
  simp only [scan_Check.l0,if_neg (show ¬ ((i:Int) < (l.length:Int)) by omega)]
  rw [List.drop_of_length_le (by omega)]
  exact Ev.now _
 | d + 1,i,hd=>by
  have hi:i < l.length:=by omega
  have ih:=scanLoop l hl2 ha d (i + 1) (by omega)
  rw [← w_succ hi (by omega)] at ih
  have hprev:prevOfA l (i + 1) = some l[i].f0:=by simp [prevOfA,hi]
  rw [hprev] at ih
  rw [drop_cons l i hi]
  refine Ev_succ ?_
  simp only [scan_Check.l0,if_pos (show (i:Int) < (l.length:Int) by omega),if_pos (show 0 ≤ (i:Int) by omega),rdArr l i hi]
  by_cases h0:i = 0
  ·subst h0
   simp only [if_neg (show ¬ (((0:Nat):Int) > 0) by omega)]
   exact scanJ l hi hl2 0 false l[0] (ha _ (List.getElem_mem hi)) _ (fun _ _=>ih)
  ·have hp:=w_pred (show 0 < i by omega) (by omega)
   simp only [if_pos (show ((i:Int) > 0) by omega),hp,if_pos (show 0 ≤ ((i - 1:Nat):Int) by omega),if_pos (show ((i - 1:Nat):Int) < (l.length:Int) by omega),rdArr l (i - 1) (by omega),cmpS_f,Option.bind_some]
   have hb:behind (prevOfA l i) l[i].f0 = decide (cmpS l[i - 1].f0 l[i].f0 ≥ 0):=by
    simp [behind,prevOfA,h0,show i - 1 < l.length by omega]
   simp only [scanGo,hb]
   exact scanJ l (by omega) hl2 i _ l[i] (ha _ (List.getElem_mem hi)) _ (fun _ _=>ih)
theorem scanCheck_f (l:List Arr) (hl:l.length ≤ 4611686018427387904) (ha:∀ a ∈ l,a.f1.length ≤ 4611686018427387904):Ev (fun k=>scan_Check.f k l) (scanCheck l):=by
 unfold scan_Check.f scanCheck
 by_cases h:l.length > 128
 ·simp only [if_pos (show (l.length:Int) > 128 by omega),if_pos h]
  exact Ev.now _
 ·simp only [if_neg (show ¬ ((l.length:Int) > 128) by omega),if_neg h]
  exact scanLoop l hl ha l.length 0 (by omega)
def both (l:List Pos) (arrays:List Arr):Int:=if scanCheck arrays = 0 then posCheck l else scanCheck arrays
theorem both_f (l:List Pos) (r:List Arr) (hl:l.length ≤ 4611686018427387904) (hr:r.length ≤ 4611686018427387904) (ha:∀ a ∈ r,a.f1.length ≤ 4611686018427387904):Ev (fun k=>scan_both.f k l r) (both l r):=by
 unfold scan_both.f both
 refine Ev_bind (scanCheck_f r hr ha) ?_
 by_cases h:scanCheck r = 0
 ·simp only [if_pos h];exact Ev_id (posCheck_f l hl)
 ·simp only [if_neg h];exact Ev.now _
def findA (r:List Arr) (s:Ser):Option Arr:=r.find? (fun a=>eqS a.f0 s)
def ownA (r:List Arr):List Pos → Option (List Arr)
 | []=>some []
 | p :: t=>(findA r p.f0).bind fun a=>(ownA r t).map fun o=>a :: o
def foundE (acc:List Arr):Option (List Arr) → List Arr × Int
 | some o=>(acc ++ o,0)
 | none=>([],11)
theorem foundL1 (r:List Arr) (hr:r.length ≤ 4611686018427387904) (acc:List Arr) (hacc:acc.length < 1954687338268) (l:List Pos) (i:Nat) (p:Pos) (res:List Arr × Int) (hn:findA r p.f0 = none → res = ([],11))
  (h:∀ a,findA r p.f0 = some a → Ev (fun k=>scan_found.l0 k r (acc ++ [a]) l l.length (wrap64 ((i:Int) + 1))) res):∀ (d j:Nat),j + d = r.length → findA r p.f0 = findA (r.drop j) p.f0 →
  Ev (fun k=>scan_found.l1 k r acc l l.length i r r.length j p.f0.f0 p.f0.f1 p.f0.f2 p.f0.f3 p.f1 p.f2) res
 | 0,j,hd,hf=>by
  refine Ev_succ ?_
  simp only [scan_found.l1,if_neg (show ¬ ((j:Int) < (r.length:Int)) by omega)]
  rw [List.drop_of_length_le (by omega)] at hf
  rw [hn (by rw [hf];rfl)]
  exact Ev.now _
 | d + 1,j,hd,hf=>by
  have hj:j < r.length:=by omega
  refine Ev_succ ?_
  simp only [scan_found.l1,if_pos (show (j:Int) < (r.length:Int) by omega),if_pos (show 0 ≤ (j:Int) by omega),rdArr r j hj]
  rw [drop_cons r j hj] at hf
  cases he:eqS r[j].f0 p.f0 with
  | true =>
   have he2:(r[j].f0.f0.toList == p.f0.f0.toList && (r[j].f0.f1 == p.f0.f1 && (r[j].f0.f2 == p.f0.f2 && (r[j].f0.f3 == p.f0.f3)))) = true:=he
   simp only [he2,if_true,if_pos hacc]
   have hs:findA r p.f0 = some r[j]:=by rw [hf];simp only [findA,List.find?_cons,he]
   exact h _ hs
  | false =>
   have he2:(r[j].f0.f0.toList == p.f0.f0.toList && (r[j].f0.f1 == p.f0.f1 && (r[j].f0.f2 == p.f0.f2 && (r[j].f0.f3 == p.f0.f3)))) = false:=he
   simp only [he2,Bool.false_eq_true,if_false]
   have ih:=foundL1 r hr acc hacc l i p res hn h d (j + 1) (by omega) (by rw [hf];simp only [findA,List.find?_cons,he])
   rw [← w_succ hj (by omega)] at ih
   exact ih
theorem foundLoop (r:List Arr) (hr:r.length ≤ 4611686018427387904) (l:List Pos) (hl:l.length ≤ 1000000000):∀ (d i:Nat) (acc:List Arr),i + d = l.length → acc.length = i → Ev (fun k=>scan_found.l0 k r acc l l.length i) (foundE acc (ownA r (l.drop i)))
 | 0,i,acc,hd,hacc=>by
  refine Ev_succ ?_
  simp only [scan_found.l0,if_neg (show ¬ ((i:Int) < (l.length:Int)) by omega)]
  rw [List.drop_of_length_le (by omega)]
  simp only [ownA,foundE,List.append_nil]
  exact Ev.now _
 | d + 1,i,acc,hd,hacc=>by
  have hi:i < l.length:=by omega
  refine Ev_succ ?_
  simp only [scan_found.l0,if_pos (show (i:Int) < (l.length:Int) by omega),if_pos (show 0 ≤ (i:Int) by omega),rdPos l i hi]
  rw [drop_cons l i hi]
  refine foundL1 r hr acc (by omega) l i l[i] _ ?_ ?_ r.length 0 (by omega) (by simp)
  ·intro hn
   simp only [ownA,hn,Option.bind_none,foundE]
  ·intro a ha
   have ih:=foundLoop r hr l hl d (i + 1) (acc ++ [a]) (by omega) (by simp [hacc])
   rw [← w_succ hi (by omega)] at ih
   simp only [ownA,ha,Option.bind_some]
   cases ho:ownA r (l.drop (i + 1)) with
   | none=>rw [ho] at ih;exact ih
   | some o=>rw [ho] at ih;simpa [foundE] using ih
def found (l:List Pos) (r:List Arr):List Arr × Int:=if both l r = 0 then foundE [] (ownA r l) else ([],both l r)
theorem found_f (l:List Pos) (r:List Arr) (hl:l.length ≤ 4611686018427387904) (hr:r.length ≤ 4611686018427387904) (ha:∀ a ∈ r,a.f1.length ≤ 4611686018427387904):Ev (fun k=>scan_found.f k l r) (found l r):=by
 unfold scan_found.f found
 refine Ev_bind (both_f l r hl hr ha) ?_
 by_cases h:both l r = 0
 ·have h128:l.length ≤ 128:=by
   unfold both at h
   by_cases h1:scanCheck r = 0
   ·rw [if_pos h1] at h
    unfold posCheck at h
    by_cases h2:l.length > 128
    ·rw [if_pos h2] at h;omega
    ·omega
   ·rw [if_neg h1] at h;exact absurd h h1
  simp only [if_pos h]
  exact foundLoop r hr l (by omega) l.length 0 [] (by omega) rfl
 ·simp only [if_neg h];exact Ev.now _
end Go.Proofs.Ytbgeceiddcokmaa.P
end
