/- For MarkHolds: contracts, and facts on lists and numbers, that it uses (part 4). -/
import Derived.ChangeArms
import Derived.Deep.Slices
import Derived.Laws.Bits64b
import Derived.Laws.BitsLemmas
import Derived.Laws.Strings
import Derived.Lib.Mul64
import Derived.SizedLaws
import Derived.Test.YtocndpddghefhaaMarkHoldsc3
import Derived.WideShapes
section
namespace Go.Proofs.Ytocndpddghefhaa.X
open Go.RowKit Go.Proofs.YtocndpddghefhaaW.PrintWords Go.Proofs.YtocndpddghefhaaW.PrintLast Go.Proofs.YtocndpddghefhaaW.PrintMore
attribute [local go_sem] max2_int min2_int max_two min_two max_three min_three max_four min_four
set_option linter.unusedVariables false
set_option linter.unusedSimpArgs false
mutual
def contangolaw18_MarkHolds.j0 : Nat → Int → Int → Bool → ByteArray → Int → Int → Int → Int → Int → Bool → List (S49) → Int → Int → Int → Int → Int → Int → Int → Option (Bool)
  | 0, _, _, _, _, _, _, _, _, _, _, _, _, _, _, _, _, _, _ => none
  | k + 1, x5, x6, x40, x102000, x102001, x102002, x102003, x102004, x102005, x102006, x103000, x103001, x103002, x103003, x103004, x103005, x103006, x103007 => if x40 = true then (none) else (if x6 = 1 then (contangolaw18_MarkHolds.l0 k x5 x6 x102005 x102004 0 x103000 x103001 x103002 x103003 x103004 x103005 x103006 x103007) else (if x6 > 2 then ((contangolaw18_goes.f k).bind fun t114 => (some t114)) else (if x103004 ≤ x5 then (if x5 ≤ x103005 then ((contangolaw18_goes.f k).bind fun t115 => (some t115)) else (none)) else (none))))
def contangolaw18_MarkHolds.l0 : Nat → Int → Int → Int → Int → Int → List (S49) → Int → Int → Int → Int → Int → Int → Int → Option (Bool)
  | 0, _, _, _, _, _, _, _, _, _, _, _, _, _ => none
  | k + 1, x5, x6, x8, x9, x10, x103000, x103001, x103002, x103003, x103004, x103005, x103006, x103007 => if x10 < (x103000.length : Int) then (if 0 ≤ x10 then (if ((rd_T49 x103000 x10).f0) ≥ x103001 then (if ((rd_T49 x103000 x10).f0) ≤ x103002 then (contangolaw18_MarkHolds.l0 k x5 x6 (mn x8 ((rd_T49 x103000 x10).f2)) (mx x9 ((rd_T49 x103000 x10).f2)) (wrap64 (x10 + 1)) x103000 x103001 x103002 x103003 x103004 x103005 x103006 x103007) else (contangolaw18_MarkHolds.l0 k x5 x6 x8 x9 (wrap64 (x10 + 1)) x103000 x103001 x103002 x103003 x103004 x103005 x103006 x103007)) else (contangolaw18_MarkHolds.l0 k x5 x6 x8 x9 (wrap64 (x10 + 1)) x103000 x103001 x103002 x103003 x103004 x103005 x103006 x103007)) else (none)) else (if x6 > 2 then ((contangolaw18_goes.f k).bind fun t112 => (some t112)) else (if x8 ≤ x5 then (if x5 ≤ x9 then ((contangolaw18_goes.f k).bind fun t113 => (some t113)) else (none)) else (none)))
end
def contangolaw18_MarkHolds.f (k : Nat) (a0_0 : ByteArray) (a0_1 : Int) (a0_2 : Int) (a0_3 : Int) (a0_4 : Int) (a0_5 : Int) (a0_6 : Bool) (l1_0 : List (S49)) (a1_1 : Int) (a1_2 : Int) (a1_3 : Int) (a1_4 : Int) (a1_5 : Int) (a1_6 : Int) (a1_7 : Int) : Option (Bool) := (mark_Price.f k a0_0 a0_1 a0_2 a0_3 a0_4 a0_5 a0_6 l1_0 a1_1 a1_2 a1_3 a1_4 a1_5 a1_6 a1_7).bind fun bt103 => (if bt103.2.2 = 0 then ((product_Price.f k a0_0 a0_1 a0_2 a0_3 a0_4 a0_5 a0_6 bt103.1).bind fun t107 => (if t107 = 0 then (if bt103.2.1 < 1 then (contangolaw18_MarkHolds.j0 k bt103.1 bt103.2.1 true a0_0 a0_1 a0_2 a0_3 a0_4 a0_5 a0_6 l1_0 a1_1 a1_2 a1_3 a1_4 a1_5 a1_6 a1_7) else (contangolaw18_MarkHolds.j0 k bt103.1 bt103.2.1 (decide (bt103.2.1 > 4)) a0_0 a0_1 a0_2 a0_3 a0_4 a0_5 a0_6 l1_0 a1_1 a1_2 a1_3 a1_4 a1_5 a1_6 a1_7)) else (contangolaw18_MarkHolds.j0 k bt103.1 bt103.2.1 true a0_0 a0_1 a0_2 a0_3 a0_4 a0_5 a0_6 l1_0 a1_1 a1_2 a1_3 a1_4 a1_5 a1_6 a1_7))) else (if bt103.1 = 0 then (if bt103.2.1 = 0 then ((contangolaw18_goes.f k).bind fun t106 => (some t106)) else (none)) else (none)))
set_option maxHeartbeats 8000000 in
set_option maxRecDepth 100000 in
theorem contangolaw18_MarkHolds.calls (k : Nat) (a0_0 : ByteArray) (a0_1 : Int) (a0_2 : Int) (a0_3 : Int) (a0_4 : Int) (a0_5 : Int) (a0_6 : Bool) (A1_0 : Option Addr) (c1_0 : Nat) (l1_0 : List (S49)) (a1_1 : Int) (a1_2 : Int) (a1_3 : Int) (a1_4 : Int) (a1_5 : Int) (a1_6 : Int) (a1_7 : Int) (r : Bool) (w : World) (hr1_0 : Kd.C k49 w A1_0 l1_0.length l1_0) (hc1_0 : l1_0.length ≤ c1_0) (h : contangolaw18_MarkHolds.f k a0_0 a0_1 a0_2 a0_3 a0_4 a0_5 a0_6 l1_0 a1_1 a1_2 a1_3 a1_4 a1_5 a1_6 a1_7 = some r) :
    Calls Try.prog 7 #[.agg #[.string a0_0, .int .i64 a0_1, .int .i64 a0_2, .int .i64 a0_3, .int .i64 a0_4, .int .i64 a0_5, .bool a0_6], .agg #[.slice A1_0 l1_0.length c1_0, .int .i64 a1_1, .int .i64 a1_2, .int .i64 a1_3, .int .i64 a1_4, .int .i64 a1_5, .int .i64 a1_6, .int .i64 a1_7]] w fun e w' => e = .returned (.bool r) ∧ Below w.heap.size w w' := by
  have hu34 := Try.underlying34
  have hu36 := Try.underlying36
  have HR1_0 := Aside0.mk hr1_0
  have HC1_0 := Aside0.mk hc1_0
  clear hr1_0 hc1_0
  have HB := Aside0.mk (Below.refl w.heap.size w)
  have H : ((mark_Price.f k a0_0 a0_1 a0_2 a0_3 a0_4 a0_5 a0_6 l1_0 a1_1 a1_2 a1_3 a1_4 a1_5 a1_6 a1_7).bind fun bt103 => (if bt103.2.2 = 0 then ((product_Price.f k a0_0 a0_1 a0_2 a0_3 a0_4 a0_5 a0_6 bt103.1).bind fun t107 => (if t107 = 0 then (if bt103.2.1 < 1 then (contangolaw18_MarkHolds.j0 k bt103.1 bt103.2.1 true a0_0 a0_1 a0_2 a0_3 a0_4 a0_5 a0_6 l1_0 a1_1 a1_2 a1_3 a1_4 a1_5 a1_6 a1_7) else (contangolaw18_MarkHolds.j0 k bt103.1 bt103.2.1 (decide (bt103.2.1 > 4)) a0_0 a0_1 a0_2 a0_3 a0_4 a0_5 a0_6 l1_0 a1_1 a1_2 a1_3 a1_4 a1_5 a1_6 a1_7)) else (contangolaw18_MarkHolds.j0 k bt103.1 bt103.2.1 true a0_0 a0_1 a0_2 a0_3 a0_4 a0_5 a0_6 l1_0 a1_1 a1_2 a1_3 a1_4 a1_5 a1_6 a1_7))) else (if bt103.1 = 0 then (if bt103.2.1 = 0 then ((contangolaw18_goes.f k).bind fun t106 => (some t106)) else (none)) else (none)))) = some r := h
  clear h
  replace H := Option.bind_eq_some_iff.mp H
  obtain ⟨⟨t103, t104, t105⟩, A30, H⟩ := H
  replace H : (if t105 = 0 then ((product_Price.f k a0_0 a0_1 a0_2 a0_3 a0_4 a0_5 a0_6 t103).bind fun t107 => (if t107 = 0 then (if t104 < 1 then (contangolaw18_MarkHolds.j0 k t103 t104 true a0_0 a0_1 a0_2 a0_3 a0_4 a0_5 a0_6 l1_0 a1_1 a1_2 a1_3 a1_4 a1_5 a1_6 a1_7) else (contangolaw18_MarkHolds.j0 k t103 t104 (decide (t104 > 4)) a0_0 a0_1 a0_2 a0_3 a0_4 a0_5 a0_6 l1_0 a1_1 a1_2 a1_3 a1_4 a1_5 a1_6 a1_7)) else (contangolaw18_MarkHolds.j0 k t103 t104 true a0_0 a0_1 a0_2 a0_3 a0_4 a0_5 a0_6 l1_0 a1_1 a1_2 a1_3 a1_4 a1_5 a1_6 a1_7))) else (if t103 = 0 then (if t104 = 0 then ((contangolaw18_goes.f k).bind fun t106 => (some t106)) else (none)) else (none))) = some r := H
  have A3 := Aside0.mk A30
  clear A30
  by_cases c4 : t105 = 0
  · rw [if_pos c4] at H
    have c4b0 : (t105 == 0) = true := beq_iff_eq.mpr c4
    have c4b1 : (t105 != 0) = false := bne_eq_false_iff_eq.mpr c4
    clear c4
    have HC5 := Aside0.mk H
    clear H
    go_enter Try.func7, Try.ntmps7
    go_upto_region 4 with (first | ((with_reducible refine gate_dst (N := 2) rfl ?_); refine box_event ?hg (N := 2) ?hd (cs := #[.string a0_0, .int .i64 a0_1, .int .i64 a0_2, .int .i64 a0_3, .int .i64 a0_4, .int .i64 a0_5, .bool a0_6]) (t := 34) ?hr ?_; (case hd => rfl); (case hg => rfl); (case hr => first | (go_simp; done) | (go_simp; rfl)); intro gb101 hg w6 hbox hb; have n0_ := Aside0.mk (below_step (by repeat (first | (with_reducible first | exact HB.out | apply below_alloc | apply pw_below_drewN | apply below_drew1) | exact HB.out)) hb); have n1_ := Aside0.mk (hbox); have n2_ := Aside0.mk ((by rw [hg]; exact (below_size (by repeat (first | (with_reducible first | exact HB.out | apply below_alloc | apply pw_below_drewN | apply below_drew1) | exact HB.out))) : w.heap.size ≤ gb101)); have n3_ := Aside0.mk ((by rw [hg]; exact (below_size (by repeat (first | (with_reducible first | exact HB.out | apply below_alloc | apply pw_below_drewN | apply below_drew1) | exact HB.out))) : w.heap.size ≤ gb101)); clear HB; have HB := n0_; have BK101 := n1_; have GW101 := n2_; have GE101 := n3_; clear n0_ n1_ n2_ n3_; clear hb hbox hg) | ((with_reducible refine gate_dst (N := 3) rfl ?_); refine box_event ?hg (N := 3) ?hd (cs := #[.slice A1_0 l1_0.length c1_0, .int .i64 a1_1, .int .i64 a1_2, .int .i64 a1_3, .int .i64 a1_4, .int .i64 a1_5, .int .i64 a1_6, .int .i64 a1_7]) (t := 36) ?hr ?_; (case hd => rfl); (case hg => rfl); (case hr => first | (go_simp; done) | (go_simp; rfl)); intro gb102 hg w7 hbox hb; have n0_ := Aside0.mk (blk_below (g := gb101) (o := .cells #[.string a0_0, .int .i64 a0_1, .int .i64 a0_2, .int .i64 a0_3, .int .i64 a0_4, .int .i64 a0_5, .bool a0_6] 34 (0, 0)) (by (with_reducible repeat (first | refine blk_drewN ?_ _ | refine blk_drew ?_ | refine blk_alloc ?_ _)); exact BK101.out) hb); have n1_ := Aside0.mk (below_step (by repeat (first | (with_reducible first | exact HB.out | apply below_alloc | apply pw_below_drewN | apply below_drew1 | refine below_set ?_ GE101.out) | exact HB.out)) hb); have n2_ := Aside0.mk (hbox); have n3_ := Aside0.mk ((by rw [hg]; exact (below_size (by repeat (first | (with_reducible first | exact HB.out | apply below_alloc | apply pw_below_drewN | apply below_drew1 | refine below_set ?_ GE101.out) | exact HB.out))) : w.heap.size ≤ gb102)); have n4_ := Aside0.mk ((by rw [hg]; exact (below_size (by repeat (first | (with_reducible first | exact HB.out | apply below_alloc | apply pw_below_drewN | apply below_drew1 | refine below_set ?_ GE101.out) | exact HB.out))) : w.heap.size ≤ gb102)); have n5_ := Aside0.mk ((by rw [hg]; exact Nat.ne_of_lt (blk_lt (g := gb101) (o := .cells #[.string a0_0, .int .i64 a0_1, .int .i64 a0_2, .int .i64 a0_3, .int .i64 a0_4, .int .i64 a0_5, .bool a0_6] 34 (0, 0)) (by (with_reducible repeat (first | refine blk_drewN ?_ _ | refine blk_drew ?_ | refine blk_alloc ?_ _)); exact BK101.out)) : gb101 ≠ gb102)); have n6_ := Aside0.mk ((by rw [hg]; exact Nat.ne_of_gt (blk_lt (g := gb101) (o := .cells #[.string a0_0, .int .i64 a0_1, .int .i64 a0_2, .int .i64 a0_3, .int .i64 a0_4, .int .i64 a0_5, .bool a0_6] 34 (0, 0)) (by (with_reducible repeat (first | refine blk_drewN ?_ _ | refine blk_drew ?_ | refine blk_alloc ?_ _)); exact BK101.out)) : gb102 ≠ gb101)); clear BK101; clear HB; have BK101 := n0_; have HB := n1_; have BK102 := n2_; have GW102 := n3_; have GE102 := n4_; have NB101_102 := n5_; have NB102_101 := n6_; clear n0_ n1_ n2_ n3_ n4_ n5_ n6_; clear hb hbox hg; have hnb8 := NB101_102.out; have hnc8 := NB102_101.out; have hcz9_0 : w7.cell? ⟨gb101, 0, none⟩ = some (.string a0_0) := (blk_cell BK101.out 0).trans rfl; have hcz9_1 : w7.cell? ⟨gb101, 1, none⟩ = some (.int .i64 a0_1) := (blk_cell BK101.out 1).trans rfl; have hcz9_2 : w7.cell? ⟨gb101, 2, none⟩ = some (.int .i64 a0_2) := (blk_cell BK101.out 2).trans rfl; have hcz9_3 : w7.cell? ⟨gb101, 3, none⟩ = some (.int .i64 a0_3) := (blk_cell BK101.out 3).trans rfl; have hcz9_4 : w7.cell? ⟨gb101, 4, none⟩ = some (.int .i64 a0_4) := (blk_cell BK101.out 4).trans rfl; have hcz9_5 : w7.cell? ⟨gb101, 5, none⟩ = some (.int .i64 a0_5) := (blk_cell BK101.out 5).trans rfl; have hcz9_6 : w7.cell? ⟨gb101, 6, none⟩ = some (.bool a0_6) := (blk_cell BK101.out 6).trans rfl; have hfz9_0 := blk_frozen BK101.out 0; have hfz9_1 := blk_frozen BK101.out 1; have hfz9_2 := blk_frozen BK101.out 2; have hfz9_3 := blk_frozen BK101.out 3; have hfz9_4 := blk_frozen BK101.out 4; have hfz9_5 := blk_frozen BK101.out 5; have hfz9_6 := blk_frozen BK101.out 6; have hcz10_0 : w7.cell? ⟨gb102, 0, none⟩ = some (.slice A1_0 l1_0.length c1_0) := (blk_cell BK102.out 0).trans rfl; have hcz10_1 : w7.cell? ⟨gb102, 1, none⟩ = some (.int .i64 a1_1) := (blk_cell BK102.out 1).trans rfl; have hcz10_2 : w7.cell? ⟨gb102, 2, none⟩ = some (.int .i64 a1_2) := (blk_cell BK102.out 2).trans rfl; have hcz10_3 : w7.cell? ⟨gb102, 3, none⟩ = some (.int .i64 a1_3) := (blk_cell BK102.out 3).trans rfl; have hcz10_4 : w7.cell? ⟨gb102, 4, none⟩ = some (.int .i64 a1_4) := (blk_cell BK102.out 4).trans rfl; have hcz10_5 : w7.cell? ⟨gb102, 5, none⟩ = some (.int .i64 a1_5) := (blk_cell BK102.out 5).trans rfl; have hcz10_6 : w7.cell? ⟨gb102, 6, none⟩ = some (.int .i64 a1_6) := (blk_cell BK102.out 6).trans rfl; have hcz10_7 : w7.cell? ⟨gb102, 7, none⟩ = some (.int .i64 a1_7) := (blk_cell BK102.out 7).trans rfl; have hfz10_0 := blk_frozen BK102.out 0; have hfz10_1 := blk_frozen BK102.out 1; have hfz10_2 := blk_frozen BK102.out 2; have hfz10_3 := blk_frozen BK102.out 3; have hfz10_4 := blk_frozen BK102.out 4; have hfz10_5 := blk_frozen BK102.out 5; have hfz10_6 := blk_frozen BK102.out 6; have hfz10_7 := blk_frozen BK102.out 7) | (go_at_call 16; (with_reducible refine (mark_Price.calls k a0_0 a0_1 a0_2 a0_3 a0_4 a0_5 a0_6 _ _ l1_0 a1_1 a1_2 a1_3 a1_4 a1_5 a1_6 a1_7 t103 t104 t105 _ ?side1 ?side2 A3.out).mono ?_); (case side1 => repeat (first | exact (Kd.C_below HR1_0.out HB.out) | (with_reducible refine Kd.C_alloc ?_ _) | (with_reducible refine Kd.C_drewN ?_ _) | (with_reducible refine Kd.C_drew ?_))); (case side2 => exact HC1_0.out); rintro e w11 ⟨rfl, hb⟩; have n0_ := Aside0.mk (blk_below (g := gb101) (o := .cells #[.string a0_0, .int .i64 a0_1, .int .i64 a0_2, .int .i64 a0_3, .int .i64 a0_4, .int .i64 a0_5, .bool a0_6] 34 (0, 0)) (by (with_reducible repeat (first | refine blk_drewN ?_ _ | refine blk_drew ?_ | refine blk_alloc ?_ _)); exact BK101.out) hb); have n1_ := Aside0.mk (blk_below (g := gb102) (o := .cells #[.slice A1_0 l1_0.length c1_0, .int .i64 a1_1, .int .i64 a1_2, .int .i64 a1_3, .int .i64 a1_4, .int .i64 a1_5, .int .i64 a1_6, .int .i64 a1_7] 36 (0, 0)) (by (with_reducible repeat (first | refine blk_drewN ?_ _ | refine blk_drew ?_ | refine blk_alloc ?_ _)); exact BK102.out) hb); have n2_ := Aside0.mk (below_step (by repeat (first | (with_reducible first | exact HB.out | apply below_alloc | apply pw_below_drewN | apply below_drew1 | refine below_set ?_ GE101.out | refine below_set ?_ GE102.out) | exact HB.out)) hb); clear BK101; clear BK102; clear HB; have BK101 := n0_; have BK102 := n1_; have HB := n2_; clear n0_ n1_ n2_; (try clear hb); (try clear hb2); (try clear hk); (try clear hi)))
    repeat (go_quiet (first | ((with_reducible refine gate_dst (N := 2) rfl ?_); refine box_event ?hg (N := 2) ?hd (cs := #[.string a0_0, .int .i64 a0_1, .int .i64 a0_2, .int .i64 a0_3, .int .i64 a0_4, .int .i64 a0_5, .bool a0_6]) (t := 34) ?hr ?_; (case hd => rfl); (case hg => rfl); (case hr => first | (go_simp; done) | (go_simp; rfl)); intro gb101 hg w6 hbox hb; have n0_ := Aside0.mk (below_step (by repeat (first | (with_reducible first | exact HB.out | apply below_alloc | apply pw_below_drewN | apply below_drew1) | exact HB.out)) hb); have n1_ := Aside0.mk (hbox); have n2_ := Aside0.mk ((by rw [hg]; exact (below_size (by repeat (first | (with_reducible first | exact HB.out | apply below_alloc | apply pw_below_drewN | apply below_drew1) | exact HB.out))) : w.heap.size ≤ gb101)); have n3_ := Aside0.mk ((by rw [hg]; exact (below_size (by repeat (first | (with_reducible first | exact HB.out | apply below_alloc | apply pw_below_drewN | apply below_drew1) | exact HB.out))) : w.heap.size ≤ gb101)); clear HB; have HB := n0_; have BK101 := n1_; have GW101 := n2_; have GE101 := n3_; clear n0_ n1_ n2_ n3_; clear hb hbox hg) | ((with_reducible refine gate_dst (N := 3) rfl ?_); refine box_event ?hg (N := 3) ?hd (cs := #[.slice A1_0 l1_0.length c1_0, .int .i64 a1_1, .int .i64 a1_2, .int .i64 a1_3, .int .i64 a1_4, .int .i64 a1_5, .int .i64 a1_6, .int .i64 a1_7]) (t := 36) ?hr ?_; (case hd => rfl); (case hg => rfl); (case hr => first | (go_simp; done) | (go_simp; rfl)); intro gb102 hg w7 hbox hb; have n0_ := Aside0.mk (blk_below (g := gb101) (o := .cells #[.string a0_0, .int .i64 a0_1, .int .i64 a0_2, .int .i64 a0_3, .int .i64 a0_4, .int .i64 a0_5, .bool a0_6] 34 (0, 0)) (by (with_reducible repeat (first | refine blk_drewN ?_ _ | refine blk_drew ?_ | refine blk_alloc ?_ _)); exact BK101.out) hb); have n1_ := Aside0.mk (below_step (by repeat (first | (with_reducible first | exact HB.out | apply below_alloc | apply pw_below_drewN | apply below_drew1 | refine below_set ?_ GE101.out) | exact HB.out)) hb); have n2_ := Aside0.mk (hbox); have n3_ := Aside0.mk ((by rw [hg]; exact (below_size (by repeat (first | (with_reducible first | exact HB.out | apply below_alloc | apply pw_below_drewN | apply below_drew1 | refine below_set ?_ GE101.out) | exact HB.out))) : w.heap.size ≤ gb102)); have n4_ := Aside0.mk ((by rw [hg]; exact (below_size (by repeat (first | (with_reducible first | exact HB.out | apply below_alloc | apply pw_below_drewN | apply below_drew1 | refine below_set ?_ GE101.out) | exact HB.out))) : w.heap.size ≤ gb102)); have n5_ := Aside0.mk ((by rw [hg]; exact Nat.ne_of_lt (blk_lt (g := gb101) (o := .cells #[.string a0_0, .int .i64 a0_1, .int .i64 a0_2, .int .i64 a0_3, .int .i64 a0_4, .int .i64 a0_5, .bool a0_6] 34 (0, 0)) (by (with_reducible repeat (first | refine blk_drewN ?_ _ | refine blk_drew ?_ | refine blk_alloc ?_ _)); exact BK101.out)) : gb101 ≠ gb102)); have n6_ := Aside0.mk ((by rw [hg]; exact Nat.ne_of_gt (blk_lt (g := gb101) (o := .cells #[.string a0_0, .int .i64 a0_1, .int .i64 a0_2, .int .i64 a0_3, .int .i64 a0_4, .int .i64 a0_5, .bool a0_6] 34 (0, 0)) (by (with_reducible repeat (first | refine blk_drewN ?_ _ | refine blk_drew ?_ | refine blk_alloc ?_ _)); exact BK101.out)) : gb102 ≠ gb101)); clear BK101; clear HB; have BK101 := n0_; have HB := n1_; have BK102 := n2_; have GW102 := n3_; have GE102 := n4_; have NB101_102 := n5_; have NB102_101 := n6_; clear n0_ n1_ n2_ n3_ n4_ n5_ n6_; clear hb hbox hg; have hnb8 := NB101_102.out; have hnc8 := NB102_101.out; have hcz9_0 : w7.cell? ⟨gb101, 0, none⟩ = some (.string a0_0) := (blk_cell BK101.out 0).trans rfl; have hcz9_1 : w7.cell? ⟨gb101, 1, none⟩ = some (.int .i64 a0_1) := (blk_cell BK101.out 1).trans rfl; have hcz9_2 : w7.cell? ⟨gb101, 2, none⟩ = some (.int .i64 a0_2) := (blk_cell BK101.out 2).trans rfl; have hcz9_3 : w7.cell? ⟨gb101, 3, none⟩ = some (.int .i64 a0_3) := (blk_cell BK101.out 3).trans rfl; have hcz9_4 : w7.cell? ⟨gb101, 4, none⟩ = some (.int .i64 a0_4) := (blk_cell BK101.out 4).trans rfl; have hcz9_5 : w7.cell? ⟨gb101, 5, none⟩ = some (.int .i64 a0_5) := (blk_cell BK101.out 5).trans rfl; have hcz9_6 : w7.cell? ⟨gb101, 6, none⟩ = some (.bool a0_6) := (blk_cell BK101.out 6).trans rfl; have hfz9_0 := blk_frozen BK101.out 0; have hfz9_1 := blk_frozen BK101.out 1; have hfz9_2 := blk_frozen BK101.out 2; have hfz9_3 := blk_frozen BK101.out 3; have hfz9_4 := blk_frozen BK101.out 4; have hfz9_5 := blk_frozen BK101.out 5; have hfz9_6 := blk_frozen BK101.out 6; have hcz10_0 : w7.cell? ⟨gb102, 0, none⟩ = some (.slice A1_0 l1_0.length c1_0) := (blk_cell BK102.out 0).trans rfl; have hcz10_1 : w7.cell? ⟨gb102, 1, none⟩ = some (.int .i64 a1_1) := (blk_cell BK102.out 1).trans rfl; have hcz10_2 : w7.cell? ⟨gb102, 2, none⟩ = some (.int .i64 a1_2) := (blk_cell BK102.out 2).trans rfl; have hcz10_3 : w7.cell? ⟨gb102, 3, none⟩ = some (.int .i64 a1_3) := (blk_cell BK102.out 3).trans rfl; have hcz10_4 : w7.cell? ⟨gb102, 4, none⟩ = some (.int .i64 a1_4) := (blk_cell BK102.out 4).trans rfl; have hcz10_5 : w7.cell? ⟨gb102, 5, none⟩ = some (.int .i64 a1_5) := (blk_cell BK102.out 5).trans rfl; have hcz10_6 : w7.cell? ⟨gb102, 6, none⟩ = some (.int .i64 a1_6) := (blk_cell BK102.out 6).trans rfl; have hcz10_7 : w7.cell? ⟨gb102, 7, none⟩ = some (.int .i64 a1_7) := (blk_cell BK102.out 7).trans rfl; have hfz10_0 := blk_frozen BK102.out 0; have hfz10_1 := blk_frozen BK102.out 1; have hfz10_2 := blk_frozen BK102.out 2; have hfz10_3 := blk_frozen BK102.out 3; have hfz10_4 := blk_frozen BK102.out 4; have hfz10_5 := blk_frozen BK102.out 5; have hfz10_6 := blk_frozen BK102.out 6; have hfz10_7 := blk_frozen BK102.out 7) | (go_at_call 16; (with_reducible refine (mark_Price.calls k a0_0 a0_1 a0_2 a0_3 a0_4 a0_5 a0_6 _ _ l1_0 a1_1 a1_2 a1_3 a1_4 a1_5 a1_6 a1_7 t103 t104 t105 _ ?side1 ?side2 A3.out).mono ?_); (case side1 => repeat (first | exact (Kd.C_below HR1_0.out HB.out) | (with_reducible refine Kd.C_alloc ?_ _) | (with_reducible refine Kd.C_drewN ?_ _) | (with_reducible refine Kd.C_drew ?_))); (case side2 => exact HC1_0.out); rintro e w11 ⟨rfl, hb⟩; have n0_ := Aside0.mk (blk_below (g := gb101) (o := .cells #[.string a0_0, .int .i64 a0_1, .int .i64 a0_2, .int .i64 a0_3, .int .i64 a0_4, .int .i64 a0_5, .bool a0_6] 34 (0, 0)) (by (with_reducible repeat (first | refine blk_drewN ?_ _ | refine blk_drew ?_ | refine blk_alloc ?_ _)); exact BK101.out) hb); have n1_ := Aside0.mk (blk_below (g := gb102) (o := .cells #[.slice A1_0 l1_0.length c1_0, .int .i64 a1_1, .int .i64 a1_2, .int .i64 a1_3, .int .i64 a1_4, .int .i64 a1_5, .int .i64 a1_6, .int .i64 a1_7] 36 (0, 0)) (by (with_reducible repeat (first | refine blk_drewN ?_ _ | refine blk_drew ?_ | refine blk_alloc ?_ _)); exact BK102.out) hb); have n2_ := Aside0.mk (below_step (by repeat (first | (with_reducible first | exact HB.out | apply below_alloc | apply pw_below_drewN | apply below_drew1 | refine below_set ?_ GE101.out | refine below_set ?_ GE102.out) | exact HB.out)) hb); clear BK101; clear BK102; clear HB; have BK101 := n0_; have BK102 := n1_; have HB := n2_; clear n0_ n1_ n2_; (try clear hb); (try clear hb2); (try clear hk); (try clear hi))); go_upto_region 4 with (first | ((with_reducible refine gate_dst (N := 2) rfl ?_); refine box_event ?hg (N := 2) ?hd (cs := #[.string a0_0, .int .i64 a0_1, .int .i64 a0_2, .int .i64 a0_3, .int .i64 a0_4, .int .i64 a0_5, .bool a0_6]) (t := 34) ?hr ?_; (case hd => rfl); (case hg => rfl); (case hr => first | (go_simp; done) | (go_simp; rfl)); intro gb101 hg w6 hbox hb; have n0_ := Aside0.mk (below_step (by repeat (first | (with_reducible first | exact HB.out | apply below_alloc | apply pw_below_drewN | apply below_drew1) | exact HB.out)) hb); have n1_ := Aside0.mk (hbox); have n2_ := Aside0.mk ((by rw [hg]; exact (below_size (by repeat (first | (with_reducible first | exact HB.out | apply below_alloc | apply pw_below_drewN | apply below_drew1) | exact HB.out))) : w.heap.size ≤ gb101)); have n3_ := Aside0.mk ((by rw [hg]; exact (below_size (by repeat (first | (with_reducible first | exact HB.out | apply below_alloc | apply pw_below_drewN | apply below_drew1) | exact HB.out))) : w.heap.size ≤ gb101)); clear HB; have HB := n0_; have BK101 := n1_; have GW101 := n2_; have GE101 := n3_; clear n0_ n1_ n2_ n3_; clear hb hbox hg) | ((with_reducible refine gate_dst (N := 3) rfl ?_); refine box_event ?hg (N := 3) ?hd (cs := #[.slice A1_0 l1_0.length c1_0, .int .i64 a1_1, .int .i64 a1_2, .int .i64 a1_3, .int .i64 a1_4, .int .i64 a1_5, .int .i64 a1_6, .int .i64 a1_7]) (t := 36) ?hr ?_; (case hd => rfl); (case hg => rfl); (case hr => first | (go_simp; done) | (go_simp; rfl)); intro gb102 hg w7 hbox hb; have n0_ := Aside0.mk (blk_below (g := gb101) (o := .cells #[.string a0_0, .int .i64 a0_1, .int .i64 a0_2, .int .i64 a0_3, .int .i64 a0_4, .int .i64 a0_5, .bool a0_6] 34 (0, 0)) (by (with_reducible repeat (first | refine blk_drewN ?_ _ | refine blk_drew ?_ | refine blk_alloc ?_ _)); exact BK101.out) hb); have n1_ := Aside0.mk (below_step (by repeat (first | (with_reducible first | exact HB.out | apply below_alloc | apply pw_below_drewN | apply below_drew1 | refine below_set ?_ GE101.out) | exact HB.out)) hb); have n2_ := Aside0.mk (hbox); have n3_ := Aside0.mk ((by rw [hg]; exact (below_size (by repeat (first | (with_reducible first | exact HB.out | apply below_alloc | apply pw_below_drewN | apply below_drew1 | refine below_set ?_ GE101.out) | exact HB.out))) : w.heap.size ≤ gb102)); have n4_ := Aside0.mk ((by rw [hg]; exact (below_size (by repeat (first | (with_reducible first | exact HB.out | apply below_alloc | apply pw_below_drewN | apply below_drew1 | refine below_set ?_ GE101.out) | exact HB.out))) : w.heap.size ≤ gb102)); have n5_ := Aside0.mk ((by rw [hg]; exact Nat.ne_of_lt (blk_lt (g := gb101) (o := .cells #[.string a0_0, .int .i64 a0_1, .int .i64 a0_2, .int .i64 a0_3, .int .i64 a0_4, .int .i64 a0_5, .bool a0_6] 34 (0, 0)) (by (with_reducible repeat (first | refine blk_drewN ?_ _ | refine blk_drew ?_ | refine blk_alloc ?_ _)); exact BK101.out)) : gb101 ≠ gb102)); have n6_ := Aside0.mk ((by rw [hg]; exact Nat.ne_of_gt (blk_lt (g := gb101) (o := .cells #[.string a0_0, .int .i64 a0_1, .int .i64 a0_2, .int .i64 a0_3, .int .i64 a0_4, .int .i64 a0_5, .bool a0_6] 34 (0, 0)) (by (with_reducible repeat (first | refine blk_drewN ?_ _ | refine blk_drew ?_ | refine blk_alloc ?_ _)); exact BK101.out)) : gb102 ≠ gb101)); clear BK101; clear HB; have BK101 := n0_; have HB := n1_; have BK102 := n2_; have GW102 := n3_; have GE102 := n4_; have NB101_102 := n5_; have NB102_101 := n6_; clear n0_ n1_ n2_ n3_ n4_ n5_ n6_; clear hb hbox hg; have hnb8 := NB101_102.out; have hnc8 := NB102_101.out; have hcz9_0 : w7.cell? ⟨gb101, 0, none⟩ = some (.string a0_0) := (blk_cell BK101.out 0).trans rfl; have hcz9_1 : w7.cell? ⟨gb101, 1, none⟩ = some (.int .i64 a0_1) := (blk_cell BK101.out 1).trans rfl; have hcz9_2 : w7.cell? ⟨gb101, 2, none⟩ = some (.int .i64 a0_2) := (blk_cell BK101.out 2).trans rfl; have hcz9_3 : w7.cell? ⟨gb101, 3, none⟩ = some (.int .i64 a0_3) := (blk_cell BK101.out 3).trans rfl; have hcz9_4 : w7.cell? ⟨gb101, 4, none⟩ = some (.int .i64 a0_4) := (blk_cell BK101.out 4).trans rfl; have hcz9_5 : w7.cell? ⟨gb101, 5, none⟩ = some (.int .i64 a0_5) := (blk_cell BK101.out 5).trans rfl; have hcz9_6 : w7.cell? ⟨gb101, 6, none⟩ = some (.bool a0_6) := (blk_cell BK101.out 6).trans rfl; have hfz9_0 := blk_frozen BK101.out 0; have hfz9_1 := blk_frozen BK101.out 1; have hfz9_2 := blk_frozen BK101.out 2; have hfz9_3 := blk_frozen BK101.out 3; have hfz9_4 := blk_frozen BK101.out 4; have hfz9_5 := blk_frozen BK101.out 5; have hfz9_6 := blk_frozen BK101.out 6; have hcz10_0 : w7.cell? ⟨gb102, 0, none⟩ = some (.slice A1_0 l1_0.length c1_0) := (blk_cell BK102.out 0).trans rfl; have hcz10_1 : w7.cell? ⟨gb102, 1, none⟩ = some (.int .i64 a1_1) := (blk_cell BK102.out 1).trans rfl; have hcz10_2 : w7.cell? ⟨gb102, 2, none⟩ = some (.int .i64 a1_2) := (blk_cell BK102.out 2).trans rfl; have hcz10_3 : w7.cell? ⟨gb102, 3, none⟩ = some (.int .i64 a1_3) := (blk_cell BK102.out 3).trans rfl; have hcz10_4 : w7.cell? ⟨gb102, 4, none⟩ = some (.int .i64 a1_4) := (blk_cell BK102.out 4).trans rfl; have hcz10_5 : w7.cell? ⟨gb102, 5, none⟩ = some (.int .i64 a1_5) := (blk_cell BK102.out 5).trans rfl; have hcz10_6 : w7.cell? ⟨gb102, 6, none⟩ = some (.int .i64 a1_6) := (blk_cell BK102.out 6).trans rfl; have hcz10_7 : w7.cell? ⟨gb102, 7, none⟩ = some (.int .i64 a1_7) := (blk_cell BK102.out 7).trans rfl; have hfz10_0 := blk_frozen BK102.out 0; have hfz10_1 := blk_frozen BK102.out 1; have hfz10_2 := blk_frozen BK102.out 2; have hfz10_3 := blk_frozen BK102.out 3; have hfz10_4 := blk_frozen BK102.out 4; have hfz10_5 := blk_frozen BK102.out 5; have hfz10_6 := blk_frozen BK102.out 6; have hfz10_7 := blk_frozen BK102.out 7) | (go_at_call 16; (with_reducible refine (mark_Price.calls k a0_0 a0_1 a0_2 a0_3 a0_4 a0_5 a0_6 _ _ l1_0 a1_1 a1_2 a1_3 a1_4 a1_5 a1_6 a1_7 t103 t104 t105 _ ?side1 ?side2 A3.out).mono ?_); (case side1 => repeat (first | exact (Kd.C_below HR1_0.out HB.out) | (with_reducible refine Kd.C_alloc ?_ _) | (with_reducible refine Kd.C_drewN ?_ _) | (with_reducible refine Kd.C_drew ?_))); (case side2 => exact HC1_0.out); rintro e w11 ⟨rfl, hb⟩; have n0_ := Aside0.mk (blk_below (g := gb101) (o := .cells #[.string a0_0, .int .i64 a0_1, .int .i64 a0_2, .int .i64 a0_3, .int .i64 a0_4, .int .i64 a0_5, .bool a0_6] 34 (0, 0)) (by (with_reducible repeat (first | refine blk_drewN ?_ _ | refine blk_drew ?_ | refine blk_alloc ?_ _)); exact BK101.out) hb); have n1_ := Aside0.mk (blk_below (g := gb102) (o := .cells #[.slice A1_0 l1_0.length c1_0, .int .i64 a1_1, .int .i64 a1_2, .int .i64 a1_3, .int .i64 a1_4, .int .i64 a1_5, .int .i64 a1_6, .int .i64 a1_7] 36 (0, 0)) (by (with_reducible repeat (first | refine blk_drewN ?_ _ | refine blk_drew ?_ | refine blk_alloc ?_ _)); exact BK102.out) hb); have n2_ := Aside0.mk (below_step (by repeat (first | (with_reducible first | exact HB.out | apply below_alloc | apply pw_below_drewN | apply below_drew1 | refine below_set ?_ GE101.out | refine below_set ?_ GE102.out) | exact HB.out)) hb); clear BK101; clear BK102; clear HB; have BK101 := n0_; have BK102 := n1_; have HB := n2_; clear n0_ n1_ n2_; (try clear hb); (try clear hb2); (try clear hk); (try clear hi))))
    (try simp only [Act.put, List.setIfInBounds_toArray, List.set_cons_zero, List.set_cons_succ])
    go_cut [40] (fun v40 wc => ∃ (kq : Nat) (x40_4 : Bool), v40 = .bool x40_4 ∧ Aside0 (contangolaw18_MarkHolds.j0 kq t103 t104 x40_4 a0_0 a0_1 a0_2 a0_3 a0_4 a0_5 a0_6 l1_0 a1_1 a1_2 a1_3 a1_4 a1_5 a1_6 a1_7 = some r) ∧ Aside0 (kq ≤ k) ∧ Aside0 (wc.heap[gb101]? = some (.cells #[.string a0_0, .int .i64 a0_1, .int .i64 a0_2, .int .i64 a0_3, .int .i64 a0_4, .int .i64 a0_5, .bool a0_6] 34 (0, 0))) ∧ Aside0 (wc.heap[gb102]? = some (.cells #[(.slice A1_0 l1_0.length c1_0), .int .i64 a1_1, .int .i64 a1_2, .int .i64 a1_3, .int .i64 a1_4, .int .i64 a1_5, .int .i64 a1_6, .int .i64 a1_7] 36 (0, 0))) ∧ Aside0 (Below w.heap.size w wc))
    case first =>
      have H := HC5.out
      clear HC5
      replace H := Option.bind_eq_some_iff.mp H
      obtain ⟨t107, A120, H⟩ := H
      replace H : (if t107 = 0 then (if t104 < 1 then (contangolaw18_MarkHolds.j0 k t103 t104 true a0_0 a0_1 a0_2 a0_3 a0_4 a0_5 a0_6 l1_0 a1_1 a1_2 a1_3 a1_4 a1_5 a1_6 a1_7) else (contangolaw18_MarkHolds.j0 k t103 t104 (decide (t104 > 4)) a0_0 a0_1 a0_2 a0_3 a0_4 a0_5 a0_6 l1_0 a1_1 a1_2 a1_3 a1_4 a1_5 a1_6 a1_7)) else (contangolaw18_MarkHolds.j0 k t103 t104 true a0_0 a0_1 a0_2 a0_3 a0_4 a0_5 a0_6 l1_0 a1_1 a1_2 a1_3 a1_4 a1_5 a1_6 a1_7)) = some r := H
      have A12 := Aside0.mk A120
      clear A120
      by_cases c13 : t107 = 0
      · rw [if_pos c13] at H
        have c13b0 : (t107 == 0) = true := beq_iff_eq.mpr c13
        have c13b1 : (t107 != 0) = false := bne_eq_false_iff_eq.mpr c13
        clear c13
        (first | rw [c13b0] | (simp only [i64_w, i32_w]; rw [c13b0]) | skip)
        by_cases c14 : t104 < 1
        · rw [if_pos c14] at H
          have c14b0 : decide (t104 < 1) = true := decide_eq_true c14
          clear c14
          have H' := Aside0.mk H
          clear H
          have hnb15 := NB101_102.out
          have hnc15 := NB102_101.out
          have hcz16_0 : w11.cell? ⟨gb101, 0, none⟩ = some (.string a0_0) := (blk_cell BK101.out 0).trans rfl
          have hcz16_1 : w11.cell? ⟨gb101, 1, none⟩ = some (.int .i64 a0_1) := (blk_cell BK101.out 1).trans rfl
          have hcz16_2 : w11.cell? ⟨gb101, 2, none⟩ = some (.int .i64 a0_2) := (blk_cell BK101.out 2).trans rfl
          have hcz16_3 : w11.cell? ⟨gb101, 3, none⟩ = some (.int .i64 a0_3) := (blk_cell BK101.out 3).trans rfl
          have hcz16_4 : w11.cell? ⟨gb101, 4, none⟩ = some (.int .i64 a0_4) := (blk_cell BK101.out 4).trans rfl
          have hcz16_5 : w11.cell? ⟨gb101, 5, none⟩ = some (.int .i64 a0_5) := (blk_cell BK101.out 5).trans rfl
          have hcz16_6 : w11.cell? ⟨gb101, 6, none⟩ = some (.bool a0_6) := (blk_cell BK101.out 6).trans rfl
          have hfz16_0 := blk_frozen BK101.out 0
          have hfz16_1 := blk_frozen BK101.out 1
          have hfz16_2 := blk_frozen BK101.out 2
          have hfz16_3 := blk_frozen BK101.out 3
          have hfz16_4 := blk_frozen BK101.out 4
          have hfz16_5 := blk_frozen BK101.out 5
          have hfz16_6 := blk_frozen BK101.out 6
          go_wp2_with (first | (go_at_call 23; (with_reducible refine (product_Price.calls k a0_0 a0_1 a0_2 a0_3 a0_4 a0_5 a0_6 t103 t107 _ A12.out).mono ?_); rintro e w17 ⟨rfl, hb⟩; have n0_ := Aside0.mk (blk_below (g := gb101) (o := .cells #[.string a0_0, .int .i64 a0_1, .int .i64 a0_2, .int .i64 a0_3, .int .i64 a0_4, .int .i64 a0_5, .bool a0_6] 34 (0, 0)) (by (with_reducible repeat (first | refine blk_drewN ?_ _ | refine blk_drew ?_ | refine blk_alloc ?_ _)); exact BK101.out) hb); have n1_ := Aside0.mk (blk_below (g := gb102) (o := .cells #[.slice A1_0 l1_0.length c1_0, .int .i64 a1_1, .int .i64 a1_2, .int .i64 a1_3, .int .i64 a1_4, .int .i64 a1_5, .int .i64 a1_6, .int .i64 a1_7] 36 (0, 0)) (by (with_reducible repeat (first | refine blk_drewN ?_ _ | refine blk_drew ?_ | refine blk_alloc ?_ _)); exact BK102.out) hb); have n2_ := Aside0.mk (below_step (by repeat (first | (with_reducible first | exact HB.out | apply below_alloc | apply pw_below_drewN | apply below_drew1 | refine below_set ?_ GE101.out | refine below_set ?_ GE102.out) | exact HB.out)) hb); clear BK101; clear BK102; clear HB; have BK101 := n0_; have BK102 := n1_; have HB := n2_; clear n0_ n1_ n2_; (try clear hb); (try clear hb2); (try clear hk); (try clear hi)))
          repeat (go_quiet (first | (go_at_call 23; (with_reducible refine (product_Price.calls k a0_0 a0_1 a0_2 a0_3 a0_4 a0_5 a0_6 t103 t107 _ A12.out).mono ?_); rintro e w17 ⟨rfl, hb⟩; have n0_ := Aside0.mk (blk_below (g := gb101) (o := .cells #[.string a0_0, .int .i64 a0_1, .int .i64 a0_2, .int .i64 a0_3, .int .i64 a0_4, .int .i64 a0_5, .bool a0_6] 34 (0, 0)) (by (with_reducible repeat (first | refine blk_drewN ?_ _ | refine blk_drew ?_ | refine blk_alloc ?_ _)); exact BK101.out) hb); have n1_ := Aside0.mk (blk_below (g := gb102) (o := .cells #[.slice A1_0 l1_0.length c1_0, .int .i64 a1_1, .int .i64 a1_2, .int .i64 a1_3, .int .i64 a1_4, .int .i64 a1_5, .int .i64 a1_6, .int .i64 a1_7] 36 (0, 0)) (by (with_reducible repeat (first | refine blk_drewN ?_ _ | refine blk_drew ?_ | refine blk_alloc ?_ _)); exact BK102.out) hb); have n2_ := Aside0.mk (below_step (by repeat (first | (with_reducible first | exact HB.out | apply below_alloc | apply pw_below_drewN | apply below_drew1 | refine below_set ?_ GE101.out | refine below_set ?_ GE102.out) | exact HB.out)) hb); clear BK101; clear BK102; clear HB; have BK101 := n0_; have BK102 := n1_; have HB := n2_; clear n0_ n1_ n2_; (try clear hb); (try clear hb2); (try clear hk); (try clear hi))); try go_wp2_with (first | (go_at_call 23; (with_reducible refine (product_Price.calls k a0_0 a0_1 a0_2 a0_3 a0_4 a0_5 a0_6 t103 t107 _ A12.out).mono ?_); rintro e w17 ⟨rfl, hb⟩; have n0_ := Aside0.mk (blk_below (g := gb101) (o := .cells #[.string a0_0, .int .i64 a0_1, .int .i64 a0_2, .int .i64 a0_3, .int .i64 a0_4, .int .i64 a0_5, .bool a0_6] 34 (0, 0)) (by (with_reducible repeat (first | refine blk_drewN ?_ _ | refine blk_drew ?_ | refine blk_alloc ?_ _)); exact BK101.out) hb); have n1_ := Aside0.mk (blk_below (g := gb102) (o := .cells #[.slice A1_0 l1_0.length c1_0, .int .i64 a1_1, .int .i64 a1_2, .int .i64 a1_3, .int .i64 a1_4, .int .i64 a1_5, .int .i64 a1_6, .int .i64 a1_7] 36 (0, 0)) (by (with_reducible repeat (first | refine blk_drewN ?_ _ | refine blk_drew ?_ | refine blk_alloc ?_ _)); exact BK102.out) hb); have n2_ := Aside0.mk (below_step (by repeat (first | (with_reducible first | exact HB.out | apply below_alloc | apply pw_below_drewN | apply below_drew1 | refine below_set ?_ GE101.out | refine below_set ?_ GE102.out) | exact HB.out)) hb); clear BK101; clear BK102; clear HB; have BK101 := n0_; have BK102 := n1_; have HB := n2_; clear n0_ n1_ n2_; (try clear hb); (try clear hb2); (try clear hk); (try clear hi))))
          go_meet
          case rel => exact ⟨_, (true), (by first | rfl | (simp; done) | (simp [*]; done)), H', ⟨by first | omega | exact Nat.le_refl _⟩, ⟨by (with_reducible repeat (first | refine blk_drewN ?_ _ | refine blk_drew ?_ | refine blk_alloc ?_ _)); exact BK101.out⟩, ⟨by (with_reducible repeat (first | refine blk_drewN ?_ _ | refine blk_drew ?_ | refine blk_alloc ?_ _)); exact BK102.out⟩, ⟨by repeat (first | (with_reducible first | exact HB.out | apply below_alloc | apply pw_below_drewN | apply below_drew1 | refine below_set ?_ GE101.out | refine below_set ?_ GE102.out) | exact HB.out)⟩⟩
        · rw [if_neg c14] at H
          have c14b0 : decide (t104 < 1) = false := decide_eq_false c14
          clear c14
          have H' := Aside0.mk H
          clear H
          have hnb18 := NB101_102.out
          have hnc18 := NB102_101.out
          have hcz19_0 : w11.cell? ⟨gb101, 0, none⟩ = some (.string a0_0) := (blk_cell BK101.out 0).trans rfl
          have hcz19_1 : w11.cell? ⟨gb101, 1, none⟩ = some (.int .i64 a0_1) := (blk_cell BK101.out 1).trans rfl
          have hcz19_2 : w11.cell? ⟨gb101, 2, none⟩ = some (.int .i64 a0_2) := (blk_cell BK101.out 2).trans rfl
          have hcz19_3 : w11.cell? ⟨gb101, 3, none⟩ = some (.int .i64 a0_3) := (blk_cell BK101.out 3).trans rfl
          have hcz19_4 : w11.cell? ⟨gb101, 4, none⟩ = some (.int .i64 a0_4) := (blk_cell BK101.out 4).trans rfl
          have hcz19_5 : w11.cell? ⟨gb101, 5, none⟩ = some (.int .i64 a0_5) := (blk_cell BK101.out 5).trans rfl
          have hcz19_6 : w11.cell? ⟨gb101, 6, none⟩ = some (.bool a0_6) := (blk_cell BK101.out 6).trans rfl
          have hfz19_0 := blk_frozen BK101.out 0
          have hfz19_1 := blk_frozen BK101.out 1
          have hfz19_2 := blk_frozen BK101.out 2
          have hfz19_3 := blk_frozen BK101.out 3
          have hfz19_4 := blk_frozen BK101.out 4
          have hfz19_5 := blk_frozen BK101.out 5
          have hfz19_6 := blk_frozen BK101.out 6
          go_wp2_with (first | (go_at_call 23; (with_reducible refine (product_Price.calls k a0_0 a0_1 a0_2 a0_3 a0_4 a0_5 a0_6 t103 t107 _ A12.out).mono ?_); rintro e w20 ⟨rfl, hb⟩; have n0_ := Aside0.mk (blk_below (g := gb101) (o := .cells #[.string a0_0, .int .i64 a0_1, .int .i64 a0_2, .int .i64 a0_3, .int .i64 a0_4, .int .i64 a0_5, .bool a0_6] 34 (0, 0)) (by (with_reducible repeat (first | refine blk_drewN ?_ _ | refine blk_drew ?_ | refine blk_alloc ?_ _)); exact BK101.out) hb); have n1_ := Aside0.mk (blk_below (g := gb102) (o := .cells #[.slice A1_0 l1_0.length c1_0, .int .i64 a1_1, .int .i64 a1_2, .int .i64 a1_3, .int .i64 a1_4, .int .i64 a1_5, .int .i64 a1_6, .int .i64 a1_7] 36 (0, 0)) (by (with_reducible repeat (first | refine blk_drewN ?_ _ | refine blk_drew ?_ | refine blk_alloc ?_ _)); exact BK102.out) hb); have n2_ := Aside0.mk (below_step (by repeat (first | (with_reducible first | exact HB.out | apply below_alloc | apply pw_below_drewN | apply below_drew1 | refine below_set ?_ GE101.out | refine below_set ?_ GE102.out) | exact HB.out)) hb); clear BK101; clear BK102; clear HB; have BK101 := n0_; have BK102 := n1_; have HB := n2_; clear n0_ n1_ n2_; (try clear hb); (try clear hb2); (try clear hk); (try clear hi)))
          repeat (go_quiet (first | (go_at_call 23; (with_reducible refine (product_Price.calls k a0_0 a0_1 a0_2 a0_3 a0_4 a0_5 a0_6 t103 t107 _ A12.out).mono ?_); rintro e w20 ⟨rfl, hb⟩; have n0_ := Aside0.mk (blk_below (g := gb101) (o := .cells #[.string a0_0, .int .i64 a0_1, .int .i64 a0_2, .int .i64 a0_3, .int .i64 a0_4, .int .i64 a0_5, .bool a0_6] 34 (0, 0)) (by (with_reducible repeat (first | refine blk_drewN ?_ _ | refine blk_drew ?_ | refine blk_alloc ?_ _)); exact BK101.out) hb); have n1_ := Aside0.mk (blk_below (g := gb102) (o := .cells #[.slice A1_0 l1_0.length c1_0, .int .i64 a1_1, .int .i64 a1_2, .int .i64 a1_3, .int .i64 a1_4, .int .i64 a1_5, .int .i64 a1_6, .int .i64 a1_7] 36 (0, 0)) (by (with_reducible repeat (first | refine blk_drewN ?_ _ | refine blk_drew ?_ | refine blk_alloc ?_ _)); exact BK102.out) hb); have n2_ := Aside0.mk (below_step (by repeat (first | (with_reducible first | exact HB.out | apply below_alloc | apply pw_below_drewN | apply below_drew1 | refine below_set ?_ GE101.out | refine below_set ?_ GE102.out) | exact HB.out)) hb); clear BK101; clear BK102; clear HB; have BK101 := n0_; have BK102 := n1_; have HB := n2_; clear n0_ n1_ n2_; (try clear hb); (try clear hb2); (try clear hk); (try clear hi))); try go_wp2_with (first | (go_at_call 23; (with_reducible refine (product_Price.calls k a0_0 a0_1 a0_2 a0_3 a0_4 a0_5 a0_6 t103 t107 _ A12.out).mono ?_); rintro e w20 ⟨rfl, hb⟩; have n0_ := Aside0.mk (blk_below (g := gb101) (o := .cells #[.string a0_0, .int .i64 a0_1, .int .i64 a0_2, .int .i64 a0_3, .int .i64 a0_4, .int .i64 a0_5, .bool a0_6] 34 (0, 0)) (by (with_reducible repeat (first | refine blk_drewN ?_ _ | refine blk_drew ?_ | refine blk_alloc ?_ _)); exact BK101.out) hb); have n1_ := Aside0.mk (blk_below (g := gb102) (o := .cells #[.slice A1_0 l1_0.length c1_0, .int .i64 a1_1, .int .i64 a1_2, .int .i64 a1_3, .int .i64 a1_4, .int .i64 a1_5, .int .i64 a1_6, .int .i64 a1_7] 36 (0, 0)) (by (with_reducible repeat (first | refine blk_drewN ?_ _ | refine blk_drew ?_ | refine blk_alloc ?_ _)); exact BK102.out) hb); have n2_ := Aside0.mk (below_step (by repeat (first | (with_reducible first | exact HB.out | apply below_alloc | apply pw_below_drewN | apply below_drew1 | refine below_set ?_ GE101.out | refine below_set ?_ GE102.out) | exact HB.out)) hb); clear BK101; clear BK102; clear HB; have BK101 := n0_; have BK102 := n1_; have HB := n2_; clear n0_ n1_ n2_; (try clear hb); (try clear hb2); (try clear hk); (try clear hi))))
          go_meet
          case rel => exact ⟨_, (decide (t104 > 4)), (by first | rfl | (simp; done) | (simp [*]; done)), H', ⟨by first | omega | exact Nat.le_refl _⟩, ⟨by (with_reducible repeat (first | refine blk_drewN ?_ _ | refine blk_drew ?_ | refine blk_alloc ?_ _)); exact BK101.out⟩, ⟨by (with_reducible repeat (first | refine blk_drewN ?_ _ | refine blk_drew ?_ | refine blk_alloc ?_ _)); exact BK102.out⟩, ⟨by repeat (first | (with_reducible first | exact HB.out | apply below_alloc | apply pw_below_drewN | apply below_drew1 | refine below_set ?_ GE101.out | refine below_set ?_ GE102.out) | exact HB.out)⟩⟩
      · rw [if_neg c13] at H
        have c13b0 : (t107 == 0) = false := beq_eq_false_iff_ne.mpr c13
        have c13b1 : (t107 != 0) = true := bne_iff_ne.mpr c13
        (first | rw [c13b0] | (simp only [i64_w, i32_w]; rw [c13b0]) | skip)
        have H' := Aside0.mk H
        clear H
        have hnb21 := NB101_102.out
        have hnc21 := NB102_101.out
        have hcz22_0 : w11.cell? ⟨gb101, 0, none⟩ = some (.string a0_0) := (blk_cell BK101.out 0).trans rfl
        have hcz22_1 : w11.cell? ⟨gb101, 1, none⟩ = some (.int .i64 a0_1) := (blk_cell BK101.out 1).trans rfl
        have hcz22_2 : w11.cell? ⟨gb101, 2, none⟩ = some (.int .i64 a0_2) := (blk_cell BK101.out 2).trans rfl
        have hcz22_3 : w11.cell? ⟨gb101, 3, none⟩ = some (.int .i64 a0_3) := (blk_cell BK101.out 3).trans rfl
        have hcz22_4 : w11.cell? ⟨gb101, 4, none⟩ = some (.int .i64 a0_4) := (blk_cell BK101.out 4).trans rfl
        have hcz22_5 : w11.cell? ⟨gb101, 5, none⟩ = some (.int .i64 a0_5) := (blk_cell BK101.out 5).trans rfl
        have hcz22_6 : w11.cell? ⟨gb101, 6, none⟩ = some (.bool a0_6) := (blk_cell BK101.out 6).trans rfl
        have hfz22_0 := blk_frozen BK101.out 0
        have hfz22_1 := blk_frozen BK101.out 1
        have hfz22_2 := blk_frozen BK101.out 2
        have hfz22_3 := blk_frozen BK101.out 3
        have hfz22_4 := blk_frozen BK101.out 4
        have hfz22_5 := blk_frozen BK101.out 5
        have hfz22_6 := blk_frozen BK101.out 6
        go_wp2_with (first | (go_at_call 23; (with_reducible refine (product_Price.calls k a0_0 a0_1 a0_2 a0_3 a0_4 a0_5 a0_6 t103 t107 _ A12.out).mono ?_); rintro e w23 ⟨rfl, hb⟩; have n0_ := Aside0.mk (blk_below (g := gb101) (o := .cells #[.string a0_0, .int .i64 a0_1, .int .i64 a0_2, .int .i64 a0_3, .int .i64 a0_4, .int .i64 a0_5, .bool a0_6] 34 (0, 0)) (by (with_reducible repeat (first | refine blk_drewN ?_ _ | refine blk_drew ?_ | refine blk_alloc ?_ _)); exact BK101.out) hb); have n1_ := Aside0.mk (blk_below (g := gb102) (o := .cells #[.slice A1_0 l1_0.length c1_0, .int .i64 a1_1, .int .i64 a1_2, .int .i64 a1_3, .int .i64 a1_4, .int .i64 a1_5, .int .i64 a1_6, .int .i64 a1_7] 36 (0, 0)) (by (with_reducible repeat (first | refine blk_drewN ?_ _ | refine blk_drew ?_ | refine blk_alloc ?_ _)); exact BK102.out) hb); have n2_ := Aside0.mk (below_step (by repeat (first | (with_reducible first | exact HB.out | apply below_alloc | apply pw_below_drewN | apply below_drew1 | refine below_set ?_ GE101.out | refine below_set ?_ GE102.out) | exact HB.out)) hb); clear BK101; clear BK102; clear HB; have BK101 := n0_; have BK102 := n1_; have HB := n2_; clear n0_ n1_ n2_; (try clear hb); (try clear hb2); (try clear hk); (try clear hi)))
        repeat (go_quiet (first | (go_at_call 23; (with_reducible refine (product_Price.calls k a0_0 a0_1 a0_2 a0_3 a0_4 a0_5 a0_6 t103 t107 _ A12.out).mono ?_); rintro e w23 ⟨rfl, hb⟩; have n0_ := Aside0.mk (blk_below (g := gb101) (o := .cells #[.string a0_0, .int .i64 a0_1, .int .i64 a0_2, .int .i64 a0_3, .int .i64 a0_4, .int .i64 a0_5, .bool a0_6] 34 (0, 0)) (by (with_reducible repeat (first | refine blk_drewN ?_ _ | refine blk_drew ?_ | refine blk_alloc ?_ _)); exact BK101.out) hb); have n1_ := Aside0.mk (blk_below (g := gb102) (o := .cells #[.slice A1_0 l1_0.length c1_0, .int .i64 a1_1, .int .i64 a1_2, .int .i64 a1_3, .int .i64 a1_4, .int .i64 a1_5, .int .i64 a1_6, .int .i64 a1_7] 36 (0, 0)) (by (with_reducible repeat (first | refine blk_drewN ?_ _ | refine blk_drew ?_ | refine blk_alloc ?_ _)); exact BK102.out) hb); have n2_ := Aside0.mk (below_step (by repeat (first | (with_reducible first | exact HB.out | apply below_alloc | apply pw_below_drewN | apply below_drew1 | refine below_set ?_ GE101.out | refine below_set ?_ GE102.out) | exact HB.out)) hb); clear BK101; clear BK102; clear HB; have BK101 := n0_; have BK102 := n1_; have HB := n2_; clear n0_ n1_ n2_; (try clear hb); (try clear hb2); (try clear hk); (try clear hi))); try go_wp2_with (first | (go_at_call 23; (with_reducible refine (product_Price.calls k a0_0 a0_1 a0_2 a0_3 a0_4 a0_5 a0_6 t103 t107 _ A12.out).mono ?_); rintro e w23 ⟨rfl, hb⟩; have n0_ := Aside0.mk (blk_below (g := gb101) (o := .cells #[.string a0_0, .int .i64 a0_1, .int .i64 a0_2, .int .i64 a0_3, .int .i64 a0_4, .int .i64 a0_5, .bool a0_6] 34 (0, 0)) (by (with_reducible repeat (first | refine blk_drewN ?_ _ | refine blk_drew ?_ | refine blk_alloc ?_ _)); exact BK101.out) hb); have n1_ := Aside0.mk (blk_below (g := gb102) (o := .cells #[.slice A1_0 l1_0.length c1_0, .int .i64 a1_1, .int .i64 a1_2, .int .i64 a1_3, .int .i64 a1_4, .int .i64 a1_5, .int .i64 a1_6, .int .i64 a1_7] 36 (0, 0)) (by (with_reducible repeat (first | refine blk_drewN ?_ _ | refine blk_drew ?_ | refine blk_alloc ?_ _)); exact BK102.out) hb); have n2_ := Aside0.mk (below_step (by repeat (first | (with_reducible first | exact HB.out | apply below_alloc | apply pw_below_drewN | apply below_drew1 | refine below_set ?_ GE101.out | refine below_set ?_ GE102.out) | exact HB.out)) hb); clear BK101; clear BK102; clear HB; have BK101 := n0_; have BK102 := n1_; have HB := n2_; clear n0_ n1_ n2_; (try clear hb); (try clear hb2); (try clear hk); (try clear hi))))
        go_meet
        case rel => exact ⟨_, (true), (by first | rfl | (simp; done) | (simp [*]; done)), H', ⟨by first | omega | exact Nat.le_refl _⟩, ⟨by (with_reducible repeat (first | refine blk_drewN ?_ _ | refine blk_drew ?_ | refine blk_alloc ?_ _)); exact BK101.out⟩, ⟨by (with_reducible repeat (first | refine blk_drewN ?_ _ | refine blk_drew ?_ | refine blk_alloc ?_ _)); exact BK102.out⟩, ⟨by repeat (first | (with_reducible first | exact HB.out | apply below_alloc | apply pw_below_drewN | apply below_drew1 | refine below_set ?_ GE101.out | refine below_set ?_ GE102.out) | exact HB.out)⟩⟩
    case rest =>
      clear HC5
      try clear c1
      try clear c2
      try clear p2
      try clear c4
      try clear c4b0
      try clear c4b1
      try clear c7
      try clear c8
      try clear c13
      try clear c13b0
      try clear c13b1
      try clear c14
      try clear c14b0
      try clear c15
      try clear c18
      try clear c21
      try clear hcz10_0
      try clear hcz10_1
      try clear hcz10_2
      try clear hcz10_3
      try clear hcz10_4
      try clear hcz10_5
      try clear hcz10_6
      try clear hcz10_7
      try clear hcz16_0
      try clear hcz16_1
      try clear hcz16_2
      try clear hcz16_3
      try clear hcz16_4
      try clear hcz16_5
      try clear hcz16_6
      try clear hcz19_0
      try clear hcz19_1
      try clear hcz19_2
      try clear hcz19_3
      try clear hcz19_4
      try clear hcz19_5
      try clear hcz19_6
      try clear hcz22_0
      try clear hcz22_1
      try clear hcz22_2
      try clear hcz22_3
      try clear hcz22_4
      try clear hcz22_5
      try clear hcz22_6
      try clear hcz9_0
      try clear hcz9_1
      try clear hcz9_2
      try clear hcz9_3
      try clear hcz9_4
      try clear hcz9_5
      try clear hcz9_6
      try clear hfz10_0
      try clear hfz10_1
      try clear hfz10_2
      try clear hfz10_3
      try clear hfz10_4
      try clear hfz10_5
      try clear hfz10_6
      try clear hfz10_7
      try clear hfz16_0
      try clear hfz16_1
      try clear hfz16_2
      try clear hfz16_3
      try clear hfz16_4
      try clear hfz16_5
      try clear hfz16_6
      try clear hfz19_0
      try clear hfz19_1
      try clear hfz19_2
      try clear hfz19_3
      try clear hfz19_4
      try clear hfz19_5
      try clear hfz19_6
      try clear hfz22_0
      try clear hfz22_1
      try clear hfz22_2
      try clear hfz22_3
      try clear hfz22_4
      try clear hfz22_5
      try clear hfz22_6
      try clear hfz9_0
      try clear hfz9_1
      try clear hfz9_2
      try clear hfz9_3
      try clear hfz9_4
      try clear hfz9_5
      try clear hfz9_6
      obtain ⟨kq, x40_4, rfl, HA, HJ4, BK101, BK102, HB⟩ := hcut
      cases kq with
      | zero => exact absurd HA.out (by simp [contangolaw18_MarkHolds.j0])
      | succ kj4 =>
        have H := HA.out
        clear HA
        simp only [contangolaw18_MarkHolds.j0] at H
        by_cases c24 : x40_4 = true
        · subst c24
          have H1 : (none) = some r := by rw [if_pos rfl] at H; exact H
          clear H
          have H := H1
          clear H1
          exact absurd H (by simp)
        · replace c24 := Bool.eq_false_iff.mpr c24
          subst c24
          have H1 : (if t104 = 1 then (contangolaw18_MarkHolds.l0 kj4 t103 t104 a0_5 a0_4 0 l1_0 a1_1 a1_2 a1_3 a1_4 a1_5 a1_6 a1_7) else (if t104 > 2 then ((contangolaw18_goes.f kj4).bind fun t114 => (some t114)) else (if a1_4 ≤ t103 then (if t103 ≤ a1_5 then ((contangolaw18_goes.f kj4).bind fun t115 => (some t115)) else (none)) else (none)))) = some r := by rw [if_neg (show ¬ (false = true) by decide)] at H; exact H
          clear H
          have H := H1
          clear H1
          by_cases c25 : t104 = 1
          · rw [if_pos c25] at H
            have c25b0 : (t104 == 1) = true := beq_iff_eq.mpr c25
            have c25b1 : (t104 != 1) = false := bne_eq_false_iff_eq.mpr c25
            clear c25
            have H' := Aside0.mk H
            clear H
            have hnb26 := NB102_101.out
            have hnc26 := NB101_102.out
            have hcz27_0 : wc.cell? ⟨gb102, 0, none⟩ = some (.slice A1_0 l1_0.length c1_0) := (blk_cell BK102.out 0).trans rfl
            have hcz27_1 : wc.cell? ⟨gb102, 1, none⟩ = some (.int .i64 a1_1) := (blk_cell BK102.out 1).trans rfl
            have hcz27_2 : wc.cell? ⟨gb102, 2, none⟩ = some (.int .i64 a1_2) := (blk_cell BK102.out 2).trans rfl
            have hcz27_3 : wc.cell? ⟨gb102, 3, none⟩ = some (.int .i64 a1_3) := (blk_cell BK102.out 3).trans rfl
            have hcz27_4 : wc.cell? ⟨gb102, 4, none⟩ = some (.int .i64 a1_4) := (blk_cell BK102.out 4).trans rfl
            have hcz27_5 : wc.cell? ⟨gb102, 5, none⟩ = some (.int .i64 a1_5) := (blk_cell BK102.out 5).trans rfl
            have hcz27_6 : wc.cell? ⟨gb102, 6, none⟩ = some (.int .i64 a1_6) := (blk_cell BK102.out 6).trans rfl
            have hcz27_7 : wc.cell? ⟨gb102, 7, none⟩ = some (.int .i64 a1_7) := (blk_cell BK102.out 7).trans rfl
            have hfz27_0 := blk_frozen BK102.out 0
            have hfz27_1 := blk_frozen BK102.out 1
            have hfz27_2 := blk_frozen BK102.out 2
            have hfz27_3 := blk_frozen BK102.out 3
            have hfz27_4 := blk_frozen BK102.out 4
            have hfz27_5 := blk_frozen BK102.out 5
            have hfz27_6 := blk_frozen BK102.out 6
            have hfz27_7 := blk_frozen BK102.out 7
            have hcz28_0 : wc.cell? ⟨gb101, 0, none⟩ = some (.string a0_0) := (blk_cell BK101.out 0).trans rfl
            have hcz28_1 : wc.cell? ⟨gb101, 1, none⟩ = some (.int .i64 a0_1) := (blk_cell BK101.out 1).trans rfl
            have hcz28_2 : wc.cell? ⟨gb101, 2, none⟩ = some (.int .i64 a0_2) := (blk_cell BK101.out 2).trans rfl
            have hcz28_3 : wc.cell? ⟨gb101, 3, none⟩ = some (.int .i64 a0_3) := (blk_cell BK101.out 3).trans rfl
            have hcz28_4 : wc.cell? ⟨gb101, 4, none⟩ = some (.int .i64 a0_4) := (blk_cell BK101.out 4).trans rfl
            have hcz28_5 : wc.cell? ⟨gb101, 5, none⟩ = some (.int .i64 a0_5) := (blk_cell BK101.out 5).trans rfl
            have hcz28_6 : wc.cell? ⟨gb101, 6, none⟩ = some (.bool a0_6) := (blk_cell BK101.out 6).trans rfl
            have hfz28_0 := blk_frozen BK101.out 0
            have hfz28_1 := blk_frozen BK101.out 1
            have hfz28_2 := blk_frozen BK101.out 2
            have hfz28_3 := blk_frozen BK101.out 3
            have hfz28_4 := blk_frozen BK101.out 4
            have hfz28_5 := blk_frozen BK101.out 5
            have hfz28_6 := blk_frozen BK101.out 6
            go_wp2
            repeat (go_quiet (fail); try go_wp2)
            go_loopg [8, 9, 10] kj4 (fun kq v8 v9 v10 w' => ∃ (x8_2 : Int) (x9_2 : Int) (x10_2 : Int), v8 = .int .i64 x8_2 ∧ v9 = .int .i64 x9_2 ∧ v10 = .int .i64 x10_2 ∧ Aside0 (contangolaw18_MarkHolds.l0 kq t103 t104 x8_2 x9_2 x10_2 l1_0 a1_1 a1_2 a1_3 a1_4 a1_5 a1_6 a1_7 = some r) ∧ Aside0 (kq ≤ kj4) ∧ Aside0 (w'.heap[gb101]? = some (.cells #[.string a0_0, .int .i64 a0_1, .int .i64 a0_2, .int .i64 a0_3, .int .i64 a0_4, .int .i64 a0_5, .bool a0_6] 34 (0, 0))) ∧ Aside0 (w'.heap[gb102]? = some (.cells #[(.slice A1_0 l1_0.length c1_0), .int .i64 a1_1, .int .i64 a1_2, .int .i64 a1_3, .int .i64 a1_4, .int .i64 a1_5, .int .i64 a1_6, .int .i64 a1_7] 36 (0, 0))) ∧ Aside0 (Below w.heap.size w w'))
            case atStart => exact ⟨(a0_5), (a0_4), (0), (by first | rfl | (simp; done) | (simp [*]; done)), (by first | rfl | (simp; done) | (simp [*]; done)), (by first | rfl | (simp; done) | (simp [*]; done)), H', ⟨Nat.le_refl _⟩, ⟨by (with_reducible repeat (first | refine blk_drewN ?_ _ | refine blk_drew ?_ | refine blk_alloc ?_ _)); exact BK101.out⟩, ⟨by (with_reducible repeat (first | refine blk_drewN ?_ _ | refine blk_drew ?_ | refine blk_alloc ?_ _)); exact BK102.out⟩, ⟨by repeat (first | (with_reducible first | exact HB.out | apply below_alloc | apply pw_below_drewN | apply below_drew1 | refine below_set ?_ GE101.out | refine below_set ?_ GE102.out) | exact HB.out)⟩⟩
            case round =>
              clear H'
              try clear c1
              try clear c2
              try clear p2
              try clear c4
              try clear c4b0
              try clear c4b1
              try clear c7
              try clear c8
              try clear c13
              try clear c13b0
              try clear c13b1
              try clear c14
              try clear c14b0
              try clear c15
              try clear c18
              try clear c21
              try clear c24
              try clear c25
              try clear c25b0
              try clear c25b1
              try clear c26
              try clear hcz10_0
              try clear hcz10_1
              try clear hcz10_2
              try clear hcz10_3
              try clear hcz10_4
              try clear hcz10_5
              try clear hcz10_6
              try clear hcz10_7
              try clear hcz16_0
              try clear hcz16_1
              try clear hcz16_2
              try clear hcz16_3
              try clear hcz16_4
              try clear hcz16_5
              try clear hcz16_6
              try clear hcz19_0
              try clear hcz19_1
              try clear hcz19_2
              try clear hcz19_3
              try clear hcz19_4
              try clear hcz19_5
              try clear hcz19_6
              try clear hcz22_0
              try clear hcz22_1
              try clear hcz22_2
              try clear hcz22_3
              try clear hcz22_4
              try clear hcz22_5
              try clear hcz22_6
              try clear hcz27_0
              try clear hcz27_1
              try clear hcz27_2
              try clear hcz27_3
              try clear hcz27_4
              try clear hcz27_5
              try clear hcz27_6
              try clear hcz27_7
              try clear hcz28_0
              try clear hcz28_1
              try clear hcz28_2
              try clear hcz28_3
              try clear hcz28_4
              try clear hcz28_5
              try clear hcz28_6
              try clear hcz9_0
              try clear hcz9_1
              try clear hcz9_2
              try clear hcz9_3
              try clear hcz9_4
              try clear hcz9_5
              try clear hcz9_6
              try clear hfz10_0
              try clear hfz10_1
              try clear hfz10_2
              try clear hfz10_3
              try clear hfz10_4
              try clear hfz10_5
              try clear hfz10_6
              try clear hfz10_7
              try clear hfz16_0
              try clear hfz16_1
              try clear hfz16_2
              try clear hfz16_3
              try clear hfz16_4
              try clear hfz16_5
              try clear hfz16_6
              try clear hfz19_0
              try clear hfz19_1
              try clear hfz19_2
              try clear hfz19_3
              try clear hfz19_4
              try clear hfz19_5
              try clear hfz19_6
              try clear hfz22_0
              try clear hfz22_1
              try clear hfz22_2
              try clear hfz22_3
              try clear hfz22_4
              try clear hfz22_5
              try clear hfz22_6
              try clear hfz27_0
              try clear hfz27_1
              try clear hfz27_2
              try clear hfz27_3
              try clear hfz27_4
              try clear hfz27_5
              try clear hfz27_6
              try clear hfz27_7
              try clear hfz28_0
              try clear hfz28_1
              try clear hfz28_2
              try clear hfz28_3
              try clear hfz28_4
              try clear hfz28_5
              try clear hfz28_6
              try clear hfz9_0
              try clear hfz9_1
              try clear hfz9_2
              try clear hfz9_3
              try clear hfz9_4
              try clear hfz9_5
              try clear hfz9_6
              try clear p2
              obtain ⟨x8_2, x9_2, x10_2, rfl, rfl, rfl, HA, HK2, BK101, BK102, HB⟩ := hrel
              cases gk with
              | zero => exact absurd HA.out (by simp [contangolaw18_MarkHolds.l0])
              | succ k2 =>
                have H := HA.out
                clear HA
                simp only [contangolaw18_MarkHolds.l0] at H
                by_cases c29 : x10_2 < (l1_0.length : Int)
                · rw [if_pos c29] at H
                  have c29b0 : decide (x10_2 < (l1_0.length : Int)) = true := decide_eq_true c29
                  clear c29
                  by_cases c30 : 0 ≤ x10_2
                  · rw [if_pos c30] at H
                    have c30b0 : decide (0 ≤ x10_2) = true := decide_eq_true c30
                    clear c30
                    by_cases c31 : ((rd_T49 l1_0 x10_2).f0) ≥ a1_1
                    · rw [if_pos c31] at H
                      have c31b0 : decide (a1_1 ≤ ((rd_T49 l1_0 x10_2).f0)) = true := decide_eq_true c31
                      clear c31
                      by_cases c32 : ((rd_T49 l1_0 x10_2).f0) ≤ a1_2
                      · rw [if_pos c32] at H
                        have c32b0 : decide (((rd_T49 l1_0 x10_2).f0) ≤ a1_2) = true := decide_eq_true c32
                        clear c32
                        obtain ⟨ji33, hji33⟩ : ∃ j_ : Int, (mn x8_2 ((rd_T49 l1_0 x10_2).f2)) = j_ := ⟨_, rfl⟩
                        replace H : (contangolaw18_MarkHolds.l0 k2 t103 t104 ji33 (mx x9_2 ((rd_T49 l1_0 x10_2).f2)) (wrap64 (x10_2 + 1)) l1_0 a1_1 a1_2 a1_3 a1_4 a1_5 a1_6 a1_7) = some r := by first | (rw [hji33] at H; exact H) | (simp only [hji33] at H ⊢; exact H)
                        have hji33_ : (if ((rd_T49 l1_0 x10_2).f2) < x8_2 then ((rd_T49 l1_0 x10_2).f2) else x8_2) = ji33 := hji33
                        obtain ⟨ji34, hji34⟩ : ∃ j_ : Int, (mx x9_2 ((rd_T49 l1_0 x10_2).f2)) = j_ := ⟨_, rfl⟩
                        replace H : (contangolaw18_MarkHolds.l0 k2 t103 t104 ji33 ji34 (wrap64 (x10_2 + 1)) l1_0 a1_1 a1_2 a1_3 a1_4 a1_5 a1_6 a1_7) = some r := by first | (rw [hji34] at H; exact H) | (simp only [hji34] at H ⊢; exact H)
                        have hji34_ : (if x9_2 < ((rd_T49 l1_0 x10_2).f2) then ((rd_T49 l1_0 x10_2).f2) else x9_2) = ji34 := hji34
                        have H' := Aside0.mk H
                        clear H
                        have hnb35 := NB102_101.out
                        have hnc35 := NB101_102.out
                        have hcz36_0 : wr.cell? ⟨gb102, 0, none⟩ = some (.slice A1_0 l1_0.length c1_0) := (blk_cell BK102.out 0).trans rfl
                        have hcz36_1 : wr.cell? ⟨gb102, 1, none⟩ = some (.int .i64 a1_1) := (blk_cell BK102.out 1).trans rfl
                        have hcz36_2 : wr.cell? ⟨gb102, 2, none⟩ = some (.int .i64 a1_2) := (blk_cell BK102.out 2).trans rfl
                        have hcz36_3 : wr.cell? ⟨gb102, 3, none⟩ = some (.int .i64 a1_3) := (blk_cell BK102.out 3).trans rfl
                        have hcz36_4 : wr.cell? ⟨gb102, 4, none⟩ = some (.int .i64 a1_4) := (blk_cell BK102.out 4).trans rfl
                        have hcz36_5 : wr.cell? ⟨gb102, 5, none⟩ = some (.int .i64 a1_5) := (blk_cell BK102.out 5).trans rfl
                        have hcz36_6 : wr.cell? ⟨gb102, 6, none⟩ = some (.int .i64 a1_6) := (blk_cell BK102.out 6).trans rfl
                        have hcz36_7 : wr.cell? ⟨gb102, 7, none⟩ = some (.int .i64 a1_7) := (blk_cell BK102.out 7).trans rfl
                        have hfz36_0 := blk_frozen BK102.out 0
                        have hfz36_1 := blk_frozen BK102.out 1
                        have hfz36_2 := blk_frozen BK102.out 2
                        have hfz36_3 := blk_frozen BK102.out 3
                        have hfz36_4 := blk_frozen BK102.out 4
                        have hfz36_5 := blk_frozen BK102.out 5
                        have hfz36_6 := blk_frozen BK102.out 6
                        have hfz36_7 := blk_frozen BK102.out 7
                        have p108 : 0 ≤ (x10_2 : Int) := of_decide_eq_true (by first | (with_reducible assumption) | assumption)
                        have q108 : x10_2 < (l1_0.length : Int) := of_decide_eq_true (by first | (with_reducible assumption) | assumption)
                        obtain ⟨ad108, e108, hx108_0, hx108_1, hx108_2⟩ := at_T49 HR1_0.out x10_2 p108 q108
                        cases e108
                        replace hx108_0 := (HB.out.cell (World.block_lt_of_cell? w _ hx108_0)).trans hx108_0
                        replace hx108_1 := (HB.out.cell (World.block_lt_of_cell? w _ hx108_1)).trans hx108_1
                        replace hx108_2 := (HB.out.cell (World.block_lt_of_cell? w _ hx108_2)).trans hx108_2
                        replace p108 := eq_true p108
                        replace q108 := eq_true q108
                        have p109 : 0 ≤ (x10_2 : Int) := of_decide_eq_true (by first | (with_reducible assumption) | assumption)
                        have q109 : x10_2 < (l1_0.length : Int) := of_decide_eq_true (by first | (with_reducible assumption) | assumption)
                        obtain ⟨ad109, e109, hx109_0, hx109_1, hx109_2⟩ := at_T49 HR1_0.out x10_2 p109 q109
                        obtain rfl : ad108 = ad109 := (by injection e109)
                        replace hx109_0 := (HB.out.cell (World.block_lt_of_cell? w _ hx109_0)).trans hx109_0
                        replace hx109_1 := (HB.out.cell (World.block_lt_of_cell? w _ hx109_1)).trans hx109_1
                        replace hx109_2 := (HB.out.cell (World.block_lt_of_cell? w _ hx109_2)).trans hx109_2
                        replace p109 := eq_true p109
                        replace q109 := eq_true q109
                        have p110 : 0 ≤ (x10_2 : Int) := of_decide_eq_true (by first | (with_reducible assumption) | assumption)
                        have q110 : x10_2 < (l1_0.length : Int) := of_decide_eq_true (by first | (with_reducible assumption) | assumption)
                        obtain ⟨ad110, e110, hx110_0, hx110_1, hx110_2⟩ := at_T49 HR1_0.out x10_2 p110 q110
                        obtain rfl : ad108 = ad110 := (by injection e110)
                        replace hx110_0 := (HB.out.cell (World.block_lt_of_cell? w _ hx110_0)).trans hx110_0
                        replace hx110_1 := (HB.out.cell (World.block_lt_of_cell? w _ hx110_1)).trans hx110_1
                        replace hx110_2 := (HB.out.cell (World.block_lt_of_cell? w _ hx110_2)).trans hx110_2
                        replace p110 := eq_true p110
                        replace q110 := eq_true q110
                        have p111 : 0 ≤ (x10_2 : Int) := of_decide_eq_true (by first | (with_reducible assumption) | assumption)
                        have q111 : x10_2 < (l1_0.length : Int) := of_decide_eq_true (by first | (with_reducible assumption) | assumption)
                        obtain ⟨ad111, e111, hx111_0, hx111_1, hx111_2⟩ := at_T49 HR1_0.out x10_2 p111 q111
                        obtain rfl : ad108 = ad111 := (by injection e111)
                        replace hx111_0 := (HB.out.cell (World.block_lt_of_cell? w _ hx111_0)).trans hx111_0
                        replace hx111_1 := (HB.out.cell (World.block_lt_of_cell? w _ hx111_1)).trans hx111_1
                        replace hx111_2 := (HB.out.cell (World.block_lt_of_cell? w _ hx111_2)).trans hx111_2
                        replace p111 := eq_true p111
                        replace q111 := eq_true q111
                        go_wp2
                        repeat (go_quiet (fail); try go_wp2)
                        go_roundg k2
                        case measure => have := HJ4.out; have := HK2.out; omega
                        case rel => exact ⟨(ji33), (ji34), (wrap64 (x10_2 + 1)), (by first | rfl | (simp; done) | (simp only [← hji33] <;> (first | rfl | simp)) | (simp [*]; done)), (by first | rfl | (simp; done) | (simp only [← hji34] <;> (first | rfl | simp)) | (simp [*]; done)), (by first | rfl | (simp; done) | (simp [*]; done)), H', ⟨by have := HJ4.out; have := HK2.out; omega⟩, ⟨by (with_reducible repeat (first | refine blk_drewN ?_ _ | refine blk_drew ?_ | refine blk_alloc ?_ _)); exact BK101.out⟩, ⟨by (with_reducible repeat (first | refine blk_drewN ?_ _ | refine blk_drew ?_ | refine blk_alloc ?_ _)); exact BK102.out⟩, ⟨by repeat (first | (with_reducible first | exact HB.out | apply below_alloc | apply pw_below_drewN | apply below_drew1 | refine below_set ?_ GE101.out | refine below_set ?_ GE102.out) | exact HB.out)⟩⟩
                      · rw [if_neg c32] at H
                        have c32b0 : decide (((rd_T49 l1_0 x10_2).f0) ≤ a1_2) = false := decide_eq_false c32
                        clear c32
                        have H' := Aside0.mk H
                        clear H
                        have hnb37 := NB102_101.out
                        have hnc37 := NB101_102.out
                        have hcz38_0 : wr.cell? ⟨gb102, 0, none⟩ = some (.slice A1_0 l1_0.length c1_0) := (blk_cell BK102.out 0).trans rfl
                        have hcz38_1 : wr.cell? ⟨gb102, 1, none⟩ = some (.int .i64 a1_1) := (blk_cell BK102.out 1).trans rfl
                        have hcz38_2 : wr.cell? ⟨gb102, 2, none⟩ = some (.int .i64 a1_2) := (blk_cell BK102.out 2).trans rfl
                        have hcz38_3 : wr.cell? ⟨gb102, 3, none⟩ = some (.int .i64 a1_3) := (blk_cell BK102.out 3).trans rfl
                        have hcz38_4 : wr.cell? ⟨gb102, 4, none⟩ = some (.int .i64 a1_4) := (blk_cell BK102.out 4).trans rfl
                        have hcz38_5 : wr.cell? ⟨gb102, 5, none⟩ = some (.int .i64 a1_5) := (blk_cell BK102.out 5).trans rfl
                        have hcz38_6 : wr.cell? ⟨gb102, 6, none⟩ = some (.int .i64 a1_6) := (blk_cell BK102.out 6).trans rfl
                        have hcz38_7 : wr.cell? ⟨gb102, 7, none⟩ = some (.int .i64 a1_7) := (blk_cell BK102.out 7).trans rfl
                        have hfz38_0 := blk_frozen BK102.out 0
                        have hfz38_1 := blk_frozen BK102.out 1
                        have hfz38_2 := blk_frozen BK102.out 2
                        have hfz38_3 := blk_frozen BK102.out 3
                        have hfz38_4 := blk_frozen BK102.out 4
                        have hfz38_5 := blk_frozen BK102.out 5
                        have hfz38_6 := blk_frozen BK102.out 6
                        have hfz38_7 := blk_frozen BK102.out 7
                        have p108 : 0 ≤ (x10_2 : Int) := of_decide_eq_true (by first | (with_reducible assumption) | assumption)
                        have q108 : x10_2 < (l1_0.length : Int) := of_decide_eq_true (by first | (with_reducible assumption) | assumption)
                        obtain ⟨ad108, e108, hx108_0, hx108_1, hx108_2⟩ := at_T49 HR1_0.out x10_2 p108 q108
                        cases e108
                        replace hx108_0 := (HB.out.cell (World.block_lt_of_cell? w _ hx108_0)).trans hx108_0
                        replace hx108_1 := (HB.out.cell (World.block_lt_of_cell? w _ hx108_1)).trans hx108_1
                        replace hx108_2 := (HB.out.cell (World.block_lt_of_cell? w _ hx108_2)).trans hx108_2
                        replace p108 := eq_true p108
                        replace q108 := eq_true q108
                        have p109 : 0 ≤ (x10_2 : Int) := of_decide_eq_true (by first | (with_reducible assumption) | assumption)
                        have q109 : x10_2 < (l1_0.length : Int) := of_decide_eq_true (by first | (with_reducible assumption) | assumption)
                        obtain ⟨ad109, e109, hx109_0, hx109_1, hx109_2⟩ := at_T49 HR1_0.out x10_2 p109 q109
                        obtain rfl : ad108 = ad109 := (by injection e109)
                        replace hx109_0 := (HB.out.cell (World.block_lt_of_cell? w _ hx109_0)).trans hx109_0
                        replace hx109_1 := (HB.out.cell (World.block_lt_of_cell? w _ hx109_1)).trans hx109_1
                        replace hx109_2 := (HB.out.cell (World.block_lt_of_cell? w _ hx109_2)).trans hx109_2
                        replace p109 := eq_true p109
                        replace q109 := eq_true q109
                        go_wp2
                        repeat (go_quiet (fail); try go_wp2)
                        go_roundg k2
                        case measure => have := HJ4.out; have := HK2.out; omega
                        case rel => exact ⟨(x8_2), (x9_2), (wrap64 (x10_2 + 1)), (by first | rfl | (simp; done) | (simp [*]; done)), (by first | rfl | (simp; done) | (simp [*]; done)), (by first | rfl | (simp; done) | (simp [*]; done)), H', ⟨by have := HJ4.out; have := HK2.out; omega⟩, ⟨by (with_reducible repeat (first | refine blk_drewN ?_ _ | refine blk_drew ?_ | refine blk_alloc ?_ _)); exact BK101.out⟩, ⟨by (with_reducible repeat (first | refine blk_drewN ?_ _ | refine blk_drew ?_ | refine blk_alloc ?_ _)); exact BK102.out⟩, ⟨by repeat (first | (with_reducible first | exact HB.out | apply below_alloc | apply pw_below_drewN | apply below_drew1 | refine below_set ?_ GE101.out | refine below_set ?_ GE102.out) | exact HB.out)⟩⟩
                    · rw [if_neg c31] at H
                      have c31b0 : decide (a1_1 ≤ ((rd_T49 l1_0 x10_2).f0)) = false := decide_eq_false c31
                      clear c31
                      have H' := Aside0.mk H
                      clear H
                      have hnb39 := NB102_101.out
                      have hnc39 := NB101_102.out
                      have hcz40_0 : wr.cell? ⟨gb102, 0, none⟩ = some (.slice A1_0 l1_0.length c1_0) := (blk_cell BK102.out 0).trans rfl
                      have hcz40_1 : wr.cell? ⟨gb102, 1, none⟩ = some (.int .i64 a1_1) := (blk_cell BK102.out 1).trans rfl
                      have hcz40_2 : wr.cell? ⟨gb102, 2, none⟩ = some (.int .i64 a1_2) := (blk_cell BK102.out 2).trans rfl
                      have hcz40_3 : wr.cell? ⟨gb102, 3, none⟩ = some (.int .i64 a1_3) := (blk_cell BK102.out 3).trans rfl
                      have hcz40_4 : wr.cell? ⟨gb102, 4, none⟩ = some (.int .i64 a1_4) := (blk_cell BK102.out 4).trans rfl
                      have hcz40_5 : wr.cell? ⟨gb102, 5, none⟩ = some (.int .i64 a1_5) := (blk_cell BK102.out 5).trans rfl
                      have hcz40_6 : wr.cell? ⟨gb102, 6, none⟩ = some (.int .i64 a1_6) := (blk_cell BK102.out 6).trans rfl
                      have hcz40_7 : wr.cell? ⟨gb102, 7, none⟩ = some (.int .i64 a1_7) := (blk_cell BK102.out 7).trans rfl
                      have hfz40_0 := blk_frozen BK102.out 0
                      have hfz40_1 := blk_frozen BK102.out 1
                      have hfz40_2 := blk_frozen BK102.out 2
                      have hfz40_3 := blk_frozen BK102.out 3
                      have hfz40_4 := blk_frozen BK102.out 4
                      have hfz40_5 := blk_frozen BK102.out 5
                      have hfz40_6 := blk_frozen BK102.out 6
                      have hfz40_7 := blk_frozen BK102.out 7
                      have p108 : 0 ≤ (x10_2 : Int) := of_decide_eq_true (by first | (with_reducible assumption) | assumption)
                      have q108 : x10_2 < (l1_0.length : Int) := of_decide_eq_true (by first | (with_reducible assumption) | assumption)
                      obtain ⟨ad108, e108, hx108_0, hx108_1, hx108_2⟩ := at_T49 HR1_0.out x10_2 p108 q108
                      cases e108
                      replace hx108_0 := (HB.out.cell (World.block_lt_of_cell? w _ hx108_0)).trans hx108_0
                      replace hx108_1 := (HB.out.cell (World.block_lt_of_cell? w _ hx108_1)).trans hx108_1
                      replace hx108_2 := (HB.out.cell (World.block_lt_of_cell? w _ hx108_2)).trans hx108_2
                      replace p108 := eq_true p108
                      replace q108 := eq_true q108
                      go_wp2
                      repeat (go_quiet (fail); try go_wp2)
                      go_roundg k2
                      case measure => have := HJ4.out; have := HK2.out; omega
                      case rel => exact ⟨(x8_2), (x9_2), (wrap64 (x10_2 + 1)), (by first | rfl | (simp; done) | (simp [*]; done)), (by first | rfl | (simp; done) | (simp [*]; done)), (by first | rfl | (simp; done) | (simp [*]; done)), H', ⟨by have := HJ4.out; have := HK2.out; omega⟩, ⟨by (with_reducible repeat (first | refine blk_drewN ?_ _ | refine blk_drew ?_ | refine blk_alloc ?_ _)); exact BK101.out⟩, ⟨by (with_reducible repeat (first | refine blk_drewN ?_ _ | refine blk_drew ?_ | refine blk_alloc ?_ _)); exact BK102.out⟩, ⟨by repeat (first | (with_reducible first | exact HB.out | apply below_alloc | apply pw_below_drewN | apply below_drew1 | refine below_set ?_ GE101.out | refine below_set ?_ GE102.out) | exact HB.out)⟩⟩
                  · rw [if_neg c30] at H
                    exact absurd H (by simp)
                · rw [if_neg c29] at H
                  have c29b0 : decide (x10_2 < (l1_0.length : Int)) = false := decide_eq_false c29
                  clear c29
                  by_cases c41 : t104 > 2
                  · rw [if_pos c41] at H
                    have c41b0 : decide (2 < t104) = true := decide_eq_true c41
                    clear c41
                    replace H := Option.bind_eq_some_iff.mp H
                    obtain ⟨t112, A420, H⟩ := H
                    replace H : (some t112) = some r := H
                    have A42 := Aside0.mk A420
                    clear A420
                    obtain rfl := Option.some.inj H
                    have hnb43 := NB102_101.out
                    have hnc43 := NB101_102.out
                    have hcz44_0 : wr.cell? ⟨gb102, 0, none⟩ = some (.slice A1_0 l1_0.length c1_0) := (blk_cell BK102.out 0).trans rfl
                    have hcz44_1 : wr.cell? ⟨gb102, 1, none⟩ = some (.int .i64 a1_1) := (blk_cell BK102.out 1).trans rfl
                    have hcz44_2 : wr.cell? ⟨gb102, 2, none⟩ = some (.int .i64 a1_2) := (blk_cell BK102.out 2).trans rfl
                    have hcz44_3 : wr.cell? ⟨gb102, 3, none⟩ = some (.int .i64 a1_3) := (blk_cell BK102.out 3).trans rfl
                    have hcz44_4 : wr.cell? ⟨gb102, 4, none⟩ = some (.int .i64 a1_4) := (blk_cell BK102.out 4).trans rfl
                    have hcz44_5 : wr.cell? ⟨gb102, 5, none⟩ = some (.int .i64 a1_5) := (blk_cell BK102.out 5).trans rfl
                    have hcz44_6 : wr.cell? ⟨gb102, 6, none⟩ = some (.int .i64 a1_6) := (blk_cell BK102.out 6).trans rfl
                    have hcz44_7 : wr.cell? ⟨gb102, 7, none⟩ = some (.int .i64 a1_7) := (blk_cell BK102.out 7).trans rfl
                    have hfz44_0 := blk_frozen BK102.out 0
                    have hfz44_1 := blk_frozen BK102.out 1
                    have hfz44_2 := blk_frozen BK102.out 2
                    have hfz44_3 := blk_frozen BK102.out 3
                    have hfz44_4 := blk_frozen BK102.out 4
                    have hfz44_5 := blk_frozen BK102.out 5
                    have hfz44_6 := blk_frozen BK102.out 6
                    have hfz44_7 := blk_frozen BK102.out 7
                    go_wp2_with (first | (go_at_call 20; (with_reducible refine (contangolaw18_goes.calls k2  t112 _ A42.out).mono ?_); rintro e w45 ⟨rfl, hb⟩; have n0_ := Aside0.mk (blk_below (g := gb101) (o := .cells #[.string a0_0, .int .i64 a0_1, .int .i64 a0_2, .int .i64 a0_3, .int .i64 a0_4, .int .i64 a0_5, .bool a0_6] 34 (0, 0)) (by (with_reducible repeat (first | refine blk_drewN ?_ _ | refine blk_drew ?_ | refine blk_alloc ?_ _)); exact BK101.out) hb); have n1_ := Aside0.mk (blk_below (g := gb102) (o := .cells #[.slice A1_0 l1_0.length c1_0, .int .i64 a1_1, .int .i64 a1_2, .int .i64 a1_3, .int .i64 a1_4, .int .i64 a1_5, .int .i64 a1_6, .int .i64 a1_7] 36 (0, 0)) (by (with_reducible repeat (first | refine blk_drewN ?_ _ | refine blk_drew ?_ | refine blk_alloc ?_ _)); exact BK102.out) hb); have n2_ := Aside0.mk (below_step (by repeat (first | (with_reducible first | exact HB.out | apply below_alloc | apply pw_below_drewN | apply below_drew1 | refine below_set ?_ GE101.out | refine below_set ?_ GE102.out) | exact HB.out)) hb); clear BK101; clear BK102; clear HB; have BK101 := n0_; have BK102 := n1_; have HB := n2_; clear n0_ n1_ n2_; (try clear hb); (try clear hb2); (try clear hk); (try clear hi)))
                    repeat (go_quiet (first | (go_at_call 20; (with_reducible refine (contangolaw18_goes.calls k2  t112 _ A42.out).mono ?_); rintro e w45 ⟨rfl, hb⟩; have n0_ := Aside0.mk (blk_below (g := gb101) (o := .cells #[.string a0_0, .int .i64 a0_1, .int .i64 a0_2, .int .i64 a0_3, .int .i64 a0_4, .int .i64 a0_5, .bool a0_6] 34 (0, 0)) (by (with_reducible repeat (first | refine blk_drewN ?_ _ | refine blk_drew ?_ | refine blk_alloc ?_ _)); exact BK101.out) hb); have n1_ := Aside0.mk (blk_below (g := gb102) (o := .cells #[.slice A1_0 l1_0.length c1_0, .int .i64 a1_1, .int .i64 a1_2, .int .i64 a1_3, .int .i64 a1_4, .int .i64 a1_5, .int .i64 a1_6, .int .i64 a1_7] 36 (0, 0)) (by (with_reducible repeat (first | refine blk_drewN ?_ _ | refine blk_drew ?_ | refine blk_alloc ?_ _)); exact BK102.out) hb); have n2_ := Aside0.mk (below_step (by repeat (first | (with_reducible first | exact HB.out | apply below_alloc | apply pw_below_drewN | apply below_drew1 | refine below_set ?_ GE101.out | refine below_set ?_ GE102.out) | exact HB.out)) hb); clear BK101; clear BK102; clear HB; have BK101 := n0_; have BK102 := n1_; have HB := n2_; clear n0_ n1_ n2_; (try clear hb); (try clear hb2); (try clear hk); (try clear hi))); try go_wp2_with (first | (go_at_call 20; (with_reducible refine (contangolaw18_goes.calls k2  t112 _ A42.out).mono ?_); rintro e w45 ⟨rfl, hb⟩; have n0_ := Aside0.mk (blk_below (g := gb101) (o := .cells #[.string a0_0, .int .i64 a0_1, .int .i64 a0_2, .int .i64 a0_3, .int .i64 a0_4, .int .i64 a0_5, .bool a0_6] 34 (0, 0)) (by (with_reducible repeat (first | refine blk_drewN ?_ _ | refine blk_drew ?_ | refine blk_alloc ?_ _)); exact BK101.out) hb); have n1_ := Aside0.mk (blk_below (g := gb102) (o := .cells #[.slice A1_0 l1_0.length c1_0, .int .i64 a1_1, .int .i64 a1_2, .int .i64 a1_3, .int .i64 a1_4, .int .i64 a1_5, .int .i64 a1_6, .int .i64 a1_7] 36 (0, 0)) (by (with_reducible repeat (first | refine blk_drewN ?_ _ | refine blk_drew ?_ | refine blk_alloc ?_ _)); exact BK102.out) hb); have n2_ := Aside0.mk (below_step (by repeat (first | (with_reducible first | exact HB.out | apply below_alloc | apply pw_below_drewN | apply below_drew1 | refine below_set ?_ GE101.out | refine below_set ?_ GE102.out) | exact HB.out)) hb); clear BK101; clear BK102; clear HB; have BK101 := n0_; have BK102 := n1_; have HB := n2_; clear n0_ n1_ n2_; (try clear hb); (try clear hb2); (try clear hk); (try clear hi))))
                    go_ret
                    exact ⟨by first | rfl | (simp [errW_none, errW_some] <;> rfl) | (simp [*, errW_none, errW_some] <;> rfl), by repeat (first | (with_reducible first | exact HB.out | apply below_alloc | apply pw_below_drewN | apply below_drew1 | refine below_set ?_ GE101.out | refine below_set ?_ GE102.out) | exact HB.out)⟩
                  · rw [if_neg c41] at H
                    have c41b0 : decide (2 < t104) = false := decide_eq_false c41
                    clear c41
                    by_cases c46 : x8_2 ≤ t103
                    · rw [if_pos c46] at H
                      have c46b0 : decide (x8_2 ≤ t103) = true := decide_eq_true c46
                      clear c46
                      by_cases c47 : t103 ≤ x9_2
                      · rw [if_pos c47] at H
                        have c47b0 : decide (t103 ≤ x9_2) = true := decide_eq_true c47
                        clear c47
                        replace H := Option.bind_eq_some_iff.mp H
                        obtain ⟨t113, A480, H⟩ := H
                        replace H : (some t113) = some r := H
                        have A48 := Aside0.mk A480
                        clear A480
                        obtain rfl := Option.some.inj H
                        have hnb49 := NB102_101.out
                        have hnc49 := NB101_102.out
                        have hcz50_0 : wr.cell? ⟨gb102, 0, none⟩ = some (.slice A1_0 l1_0.length c1_0) := (blk_cell BK102.out 0).trans rfl
                        have hcz50_1 : wr.cell? ⟨gb102, 1, none⟩ = some (.int .i64 a1_1) := (blk_cell BK102.out 1).trans rfl
                        have hcz50_2 : wr.cell? ⟨gb102, 2, none⟩ = some (.int .i64 a1_2) := (blk_cell BK102.out 2).trans rfl
                        have hcz50_3 : wr.cell? ⟨gb102, 3, none⟩ = some (.int .i64 a1_3) := (blk_cell BK102.out 3).trans rfl
                        have hcz50_4 : wr.cell? ⟨gb102, 4, none⟩ = some (.int .i64 a1_4) := (blk_cell BK102.out 4).trans rfl
                        have hcz50_5 : wr.cell? ⟨gb102, 5, none⟩ = some (.int .i64 a1_5) := (blk_cell BK102.out 5).trans rfl
                        have hcz50_6 : wr.cell? ⟨gb102, 6, none⟩ = some (.int .i64 a1_6) := (blk_cell BK102.out 6).trans rfl
                        have hcz50_7 : wr.cell? ⟨gb102, 7, none⟩ = some (.int .i64 a1_7) := (blk_cell BK102.out 7).trans rfl
                        have hfz50_0 := blk_frozen BK102.out 0
                        have hfz50_1 := blk_frozen BK102.out 1
                        have hfz50_2 := blk_frozen BK102.out 2
                        have hfz50_3 := blk_frozen BK102.out 3
                        have hfz50_4 := blk_frozen BK102.out 4
                        have hfz50_5 := blk_frozen BK102.out 5
                        have hfz50_6 := blk_frozen BK102.out 6
                        have hfz50_7 := blk_frozen BK102.out 7
                        go_wp2_with (first | (go_at_call 20; (with_reducible refine (contangolaw18_goes.calls k2  t113 _ A48.out).mono ?_); rintro e w51 ⟨rfl, hb⟩; have n0_ := Aside0.mk (blk_below (g := gb101) (o := .cells #[.string a0_0, .int .i64 a0_1, .int .i64 a0_2, .int .i64 a0_3, .int .i64 a0_4, .int .i64 a0_5, .bool a0_6] 34 (0, 0)) (by (with_reducible repeat (first | refine blk_drewN ?_ _ | refine blk_drew ?_ | refine blk_alloc ?_ _)); exact BK101.out) hb); have n1_ := Aside0.mk (blk_below (g := gb102) (o := .cells #[.slice A1_0 l1_0.length c1_0, .int .i64 a1_1, .int .i64 a1_2, .int .i64 a1_3, .int .i64 a1_4, .int .i64 a1_5, .int .i64 a1_6, .int .i64 a1_7] 36 (0, 0)) (by (with_reducible repeat (first | refine blk_drewN ?_ _ | refine blk_drew ?_ | refine blk_alloc ?_ _)); exact BK102.out) hb); have n2_ := Aside0.mk (below_step (by repeat (first | (with_reducible first | exact HB.out | apply below_alloc | apply pw_below_drewN | apply below_drew1 | refine below_set ?_ GE101.out | refine below_set ?_ GE102.out) | exact HB.out)) hb); clear BK101; clear BK102; clear HB; have BK101 := n0_; have BK102 := n1_; have HB := n2_; clear n0_ n1_ n2_; (try clear hb); (try clear hb2); (try clear hk); (try clear hi)))
                        repeat (go_quiet (first | (go_at_call 20; (with_reducible refine (contangolaw18_goes.calls k2  t113 _ A48.out).mono ?_); rintro e w51 ⟨rfl, hb⟩; have n0_ := Aside0.mk (blk_below (g := gb101) (o := .cells #[.string a0_0, .int .i64 a0_1, .int .i64 a0_2, .int .i64 a0_3, .int .i64 a0_4, .int .i64 a0_5, .bool a0_6] 34 (0, 0)) (by (with_reducible repeat (first | refine blk_drewN ?_ _ | refine blk_drew ?_ | refine blk_alloc ?_ _)); exact BK101.out) hb); have n1_ := Aside0.mk (blk_below (g := gb102) (o := .cells #[.slice A1_0 l1_0.length c1_0, .int .i64 a1_1, .int .i64 a1_2, .int .i64 a1_3, .int .i64 a1_4, .int .i64 a1_5, .int .i64 a1_6, .int .i64 a1_7] 36 (0, 0)) (by (with_reducible repeat (first | refine blk_drewN ?_ _ | refine blk_drew ?_ | refine blk_alloc ?_ _)); exact BK102.out) hb); have n2_ := Aside0.mk (below_step (by repeat (first | (with_reducible first | exact HB.out | apply below_alloc | apply pw_below_drewN | apply below_drew1 | refine below_set ?_ GE101.out | refine below_set ?_ GE102.out) | exact HB.out)) hb); clear BK101; clear BK102; clear HB; have BK101 := n0_; have BK102 := n1_; have HB := n2_; clear n0_ n1_ n2_; (try clear hb); (try clear hb2); (try clear hk); (try clear hi))); try go_wp2_with (first | (go_at_call 20; (with_reducible refine (contangolaw18_goes.calls k2  t113 _ A48.out).mono ?_); rintro e w51 ⟨rfl, hb⟩; have n0_ := Aside0.mk (blk_below (g := gb101) (o := .cells #[.string a0_0, .int .i64 a0_1, .int .i64 a0_2, .int .i64 a0_3, .int .i64 a0_4, .int .i64 a0_5, .bool a0_6] 34 (0, 0)) (by (with_reducible repeat (first | refine blk_drewN ?_ _ | refine blk_drew ?_ | refine blk_alloc ?_ _)); exact BK101.out) hb); have n1_ := Aside0.mk (blk_below (g := gb102) (o := .cells #[.slice A1_0 l1_0.length c1_0, .int .i64 a1_1, .int .i64 a1_2, .int .i64 a1_3, .int .i64 a1_4, .int .i64 a1_5, .int .i64 a1_6, .int .i64 a1_7] 36 (0, 0)) (by (with_reducible repeat (first | refine blk_drewN ?_ _ | refine blk_drew ?_ | refine blk_alloc ?_ _)); exact BK102.out) hb); have n2_ := Aside0.mk (below_step (by repeat (first | (with_reducible first | exact HB.out | apply below_alloc | apply pw_below_drewN | apply below_drew1 | refine below_set ?_ GE101.out | refine below_set ?_ GE102.out) | exact HB.out)) hb); clear BK101; clear BK102; clear HB; have BK101 := n0_; have BK102 := n1_; have HB := n2_; clear n0_ n1_ n2_; (try clear hb); (try clear hb2); (try clear hk); (try clear hi))))
                        go_ret
                        exact ⟨by first | rfl | (simp [errW_none, errW_some] <;> rfl) | (simp [*, errW_none, errW_some] <;> rfl), by repeat (first | (with_reducible first | exact HB.out | apply below_alloc | apply pw_below_drewN | apply below_drew1 | refine below_set ?_ GE101.out | refine below_set ?_ GE102.out) | exact HB.out)⟩
                      · rw [if_neg c47] at H
                        exact absurd H (by simp)
                    · rw [if_neg c46] at H
                      exact absurd H (by simp)
          · rw [if_neg c25] at H
            have c25b0 : (t104 == 1) = false := beq_eq_false_iff_ne.mpr c25
            have c25b1 : (t104 != 1) = true := bne_iff_ne.mpr c25
            by_cases c52 : t104 > 2
            · rw [if_pos c52] at H
              have c52b0 : decide (2 < t104) = true := decide_eq_true c52
              clear c52
              replace H := Option.bind_eq_some_iff.mp H
              obtain ⟨t114, A530, H⟩ := H
              replace H : (some t114) = some r := H
              have A53 := Aside0.mk A530
              clear A530
              obtain rfl := Option.some.inj H
              have hnb54 := NB102_101.out
              have hnc54 := NB101_102.out
              have hcz55_0 : wc.cell? ⟨gb102, 0, none⟩ = some (.slice A1_0 l1_0.length c1_0) := (blk_cell BK102.out 0).trans rfl
              have hcz55_1 : wc.cell? ⟨gb102, 1, none⟩ = some (.int .i64 a1_1) := (blk_cell BK102.out 1).trans rfl
              have hcz55_2 : wc.cell? ⟨gb102, 2, none⟩ = some (.int .i64 a1_2) := (blk_cell BK102.out 2).trans rfl
              have hcz55_3 : wc.cell? ⟨gb102, 3, none⟩ = some (.int .i64 a1_3) := (blk_cell BK102.out 3).trans rfl
              have hcz55_4 : wc.cell? ⟨gb102, 4, none⟩ = some (.int .i64 a1_4) := (blk_cell BK102.out 4).trans rfl
              have hcz55_5 : wc.cell? ⟨gb102, 5, none⟩ = some (.int .i64 a1_5) := (blk_cell BK102.out 5).trans rfl
              have hcz55_6 : wc.cell? ⟨gb102, 6, none⟩ = some (.int .i64 a1_6) := (blk_cell BK102.out 6).trans rfl
              have hcz55_7 : wc.cell? ⟨gb102, 7, none⟩ = some (.int .i64 a1_7) := (blk_cell BK102.out 7).trans rfl
              have hfz55_0 := blk_frozen BK102.out 0
              have hfz55_1 := blk_frozen BK102.out 1
              have hfz55_2 := blk_frozen BK102.out 2
              have hfz55_3 := blk_frozen BK102.out 3
              have hfz55_4 := blk_frozen BK102.out 4
              have hfz55_5 := blk_frozen BK102.out 5
              have hfz55_6 := blk_frozen BK102.out 6
              have hfz55_7 := blk_frozen BK102.out 7
              go_wp2_with (first | (go_at_call 20; (with_reducible refine (contangolaw18_goes.calls kj4  t114 _ A53.out).mono ?_); rintro e w56 ⟨rfl, hb⟩; have n0_ := Aside0.mk (blk_below (g := gb101) (o := .cells #[.string a0_0, .int .i64 a0_1, .int .i64 a0_2, .int .i64 a0_3, .int .i64 a0_4, .int .i64 a0_5, .bool a0_6] 34 (0, 0)) (by (with_reducible repeat (first | refine blk_drewN ?_ _ | refine blk_drew ?_ | refine blk_alloc ?_ _)); exact BK101.out) hb); have n1_ := Aside0.mk (blk_below (g := gb102) (o := .cells #[.slice A1_0 l1_0.length c1_0, .int .i64 a1_1, .int .i64 a1_2, .int .i64 a1_3, .int .i64 a1_4, .int .i64 a1_5, .int .i64 a1_6, .int .i64 a1_7] 36 (0, 0)) (by (with_reducible repeat (first | refine blk_drewN ?_ _ | refine blk_drew ?_ | refine blk_alloc ?_ _)); exact BK102.out) hb); have n2_ := Aside0.mk (below_step (by repeat (first | (with_reducible first | exact HB.out | apply below_alloc | apply pw_below_drewN | apply below_drew1 | refine below_set ?_ GE101.out | refine below_set ?_ GE102.out) | exact HB.out)) hb); clear BK101; clear BK102; clear HB; have BK101 := n0_; have BK102 := n1_; have HB := n2_; clear n0_ n1_ n2_; (try clear hb); (try clear hb2); (try clear hk); (try clear hi)))
              repeat (go_quiet (first | (go_at_call 20; (with_reducible refine (contangolaw18_goes.calls kj4  t114 _ A53.out).mono ?_); rintro e w56 ⟨rfl, hb⟩; have n0_ := Aside0.mk (blk_below (g := gb101) (o := .cells #[.string a0_0, .int .i64 a0_1, .int .i64 a0_2, .int .i64 a0_3, .int .i64 a0_4, .int .i64 a0_5, .bool a0_6] 34 (0, 0)) (by (with_reducible repeat (first | refine blk_drewN ?_ _ | refine blk_drew ?_ | refine blk_alloc ?_ _)); exact BK101.out) hb); have n1_ := Aside0.mk (blk_below (g := gb102) (o := .cells #[.slice A1_0 l1_0.length c1_0, .int .i64 a1_1, .int .i64 a1_2, .int .i64 a1_3, .int .i64 a1_4, .int .i64 a1_5, .int .i64 a1_6, .int .i64 a1_7] 36 (0, 0)) (by (with_reducible repeat (first | refine blk_drewN ?_ _ | refine blk_drew ?_ | refine blk_alloc ?_ _)); exact BK102.out) hb); have n2_ := Aside0.mk (below_step (by repeat (first | (with_reducible first | exact HB.out | apply below_alloc | apply pw_below_drewN | apply below_drew1 | refine below_set ?_ GE101.out | refine below_set ?_ GE102.out) | exact HB.out)) hb); clear BK101; clear BK102; clear HB; have BK101 := n0_; have BK102 := n1_; have HB := n2_; clear n0_ n1_ n2_; (try clear hb); (try clear hb2); (try clear hk); (try clear hi))); try go_wp2_with (first | (go_at_call 20; (with_reducible refine (contangolaw18_goes.calls kj4  t114 _ A53.out).mono ?_); rintro e w56 ⟨rfl, hb⟩; have n0_ := Aside0.mk (blk_below (g := gb101) (o := .cells #[.string a0_0, .int .i64 a0_1, .int .i64 a0_2, .int .i64 a0_3, .int .i64 a0_4, .int .i64 a0_5, .bool a0_6] 34 (0, 0)) (by (with_reducible repeat (first | refine blk_drewN ?_ _ | refine blk_drew ?_ | refine blk_alloc ?_ _)); exact BK101.out) hb); have n1_ := Aside0.mk (blk_below (g := gb102) (o := .cells #[.slice A1_0 l1_0.length c1_0, .int .i64 a1_1, .int .i64 a1_2, .int .i64 a1_3, .int .i64 a1_4, .int .i64 a1_5, .int .i64 a1_6, .int .i64 a1_7] 36 (0, 0)) (by (with_reducible repeat (first | refine blk_drewN ?_ _ | refine blk_drew ?_ | refine blk_alloc ?_ _)); exact BK102.out) hb); have n2_ := Aside0.mk (below_step (by repeat (first | (with_reducible first | exact HB.out | apply below_alloc | apply pw_below_drewN | apply below_drew1 | refine below_set ?_ GE101.out | refine below_set ?_ GE102.out) | exact HB.out)) hb); clear BK101; clear BK102; clear HB; have BK101 := n0_; have BK102 := n1_; have HB := n2_; clear n0_ n1_ n2_; (try clear hb); (try clear hb2); (try clear hk); (try clear hi))))
              go_ret
              exact ⟨by first | rfl | (simp [errW_none, errW_some] <;> rfl) | (simp [*, errW_none, errW_some] <;> rfl), by repeat (first | (with_reducible first | exact HB.out | apply below_alloc | apply pw_below_drewN | apply below_drew1 | refine below_set ?_ GE101.out | refine below_set ?_ GE102.out) | exact HB.out)⟩
            · rw [if_neg c52] at H
              have c52b0 : decide (2 < t104) = false := decide_eq_false c52
              clear c52
              by_cases c57 : a1_4 ≤ t103
              · rw [if_pos c57] at H
                have c57b0 : decide (a1_4 ≤ t103) = true := decide_eq_true c57
                clear c57
                by_cases c58 : t103 ≤ a1_5
                · rw [if_pos c58] at H
                  have c58b0 : decide (t103 ≤ a1_5) = true := decide_eq_true c58
                  clear c58
                  replace H := Option.bind_eq_some_iff.mp H
                  obtain ⟨t115, A590, H⟩ := H
                  replace H : (some t115) = some r := H
                  have A59 := Aside0.mk A590
                  clear A590
                  obtain rfl := Option.some.inj H
                  have hnb60 := NB102_101.out
                  have hnc60 := NB101_102.out
                  have hcz61_0 : wc.cell? ⟨gb102, 0, none⟩ = some (.slice A1_0 l1_0.length c1_0) := (blk_cell BK102.out 0).trans rfl
                  have hcz61_1 : wc.cell? ⟨gb102, 1, none⟩ = some (.int .i64 a1_1) := (blk_cell BK102.out 1).trans rfl
                  have hcz61_2 : wc.cell? ⟨gb102, 2, none⟩ = some (.int .i64 a1_2) := (blk_cell BK102.out 2).trans rfl
                  have hcz61_3 : wc.cell? ⟨gb102, 3, none⟩ = some (.int .i64 a1_3) := (blk_cell BK102.out 3).trans rfl
                  have hcz61_4 : wc.cell? ⟨gb102, 4, none⟩ = some (.int .i64 a1_4) := (blk_cell BK102.out 4).trans rfl
                  have hcz61_5 : wc.cell? ⟨gb102, 5, none⟩ = some (.int .i64 a1_5) := (blk_cell BK102.out 5).trans rfl
                  have hcz61_6 : wc.cell? ⟨gb102, 6, none⟩ = some (.int .i64 a1_6) := (blk_cell BK102.out 6).trans rfl
                  have hcz61_7 : wc.cell? ⟨gb102, 7, none⟩ = some (.int .i64 a1_7) := (blk_cell BK102.out 7).trans rfl
                  have hfz61_0 := blk_frozen BK102.out 0
                  have hfz61_1 := blk_frozen BK102.out 1
                  have hfz61_2 := blk_frozen BK102.out 2
                  have hfz61_3 := blk_frozen BK102.out 3
                  have hfz61_4 := blk_frozen BK102.out 4
                  have hfz61_5 := blk_frozen BK102.out 5
                  have hfz61_6 := blk_frozen BK102.out 6
                  have hfz61_7 := blk_frozen BK102.out 7
                  go_wp2_with (first | (go_at_call 20; (with_reducible refine (contangolaw18_goes.calls kj4  t115 _ A59.out).mono ?_); rintro e w62 ⟨rfl, hb⟩; have n0_ := Aside0.mk (blk_below (g := gb101) (o := .cells #[.string a0_0, .int .i64 a0_1, .int .i64 a0_2, .int .i64 a0_3, .int .i64 a0_4, .int .i64 a0_5, .bool a0_6] 34 (0, 0)) (by (with_reducible repeat (first | refine blk_drewN ?_ _ | refine blk_drew ?_ | refine blk_alloc ?_ _)); exact BK101.out) hb); have n1_ := Aside0.mk (blk_below (g := gb102) (o := .cells #[.slice A1_0 l1_0.length c1_0, .int .i64 a1_1, .int .i64 a1_2, .int .i64 a1_3, .int .i64 a1_4, .int .i64 a1_5, .int .i64 a1_6, .int .i64 a1_7] 36 (0, 0)) (by (with_reducible repeat (first | refine blk_drewN ?_ _ | refine blk_drew ?_ | refine blk_alloc ?_ _)); exact BK102.out) hb); have n2_ := Aside0.mk (below_step (by repeat (first | (with_reducible first | exact HB.out | apply below_alloc | apply pw_below_drewN | apply below_drew1 | refine below_set ?_ GE101.out | refine below_set ?_ GE102.out) | exact HB.out)) hb); clear BK101; clear BK102; clear HB; have BK101 := n0_; have BK102 := n1_; have HB := n2_; clear n0_ n1_ n2_; (try clear hb); (try clear hb2); (try clear hk); (try clear hi)))
                  repeat (go_quiet (first | (go_at_call 20; (with_reducible refine (contangolaw18_goes.calls kj4  t115 _ A59.out).mono ?_); rintro e w62 ⟨rfl, hb⟩; have n0_ := Aside0.mk (blk_below (g := gb101) (o := .cells #[.string a0_0, .int .i64 a0_1, .int .i64 a0_2, .int .i64 a0_3, .int .i64 a0_4, .int .i64 a0_5, .bool a0_6] 34 (0, 0)) (by (with_reducible repeat (first | refine blk_drewN ?_ _ | refine blk_drew ?_ | refine blk_alloc ?_ _)); exact BK101.out) hb); have n1_ := Aside0.mk (blk_below (g := gb102) (o := .cells #[.slice A1_0 l1_0.length c1_0, .int .i64 a1_1, .int .i64 a1_2, .int .i64 a1_3, .int .i64 a1_4, .int .i64 a1_5, .int .i64 a1_6, .int .i64 a1_7] 36 (0, 0)) (by (with_reducible repeat (first | refine blk_drewN ?_ _ | refine blk_drew ?_ | refine blk_alloc ?_ _)); exact BK102.out) hb); have n2_ := Aside0.mk (below_step (by repeat (first | (with_reducible first | exact HB.out | apply below_alloc | apply pw_below_drewN | apply below_drew1 | refine below_set ?_ GE101.out | refine below_set ?_ GE102.out) | exact HB.out)) hb); clear BK101; clear BK102; clear HB; have BK101 := n0_; have BK102 := n1_; have HB := n2_; clear n0_ n1_ n2_; (try clear hb); (try clear hb2); (try clear hk); (try clear hi))); try go_wp2_with (first | (go_at_call 20; (with_reducible refine (contangolaw18_goes.calls kj4  t115 _ A59.out).mono ?_); rintro e w62 ⟨rfl, hb⟩; have n0_ := Aside0.mk (blk_below (g := gb101) (o := .cells #[.string a0_0, .int .i64 a0_1, .int .i64 a0_2, .int .i64 a0_3, .int .i64 a0_4, .int .i64 a0_5, .bool a0_6] 34 (0, 0)) (by (with_reducible repeat (first | refine blk_drewN ?_ _ | refine blk_drew ?_ | refine blk_alloc ?_ _)); exact BK101.out) hb); have n1_ := Aside0.mk (blk_below (g := gb102) (o := .cells #[.slice A1_0 l1_0.length c1_0, .int .i64 a1_1, .int .i64 a1_2, .int .i64 a1_3, .int .i64 a1_4, .int .i64 a1_5, .int .i64 a1_6, .int .i64 a1_7] 36 (0, 0)) (by (with_reducible repeat (first | refine blk_drewN ?_ _ | refine blk_drew ?_ | refine blk_alloc ?_ _)); exact BK102.out) hb); have n2_ := Aside0.mk (below_step (by repeat (first | (with_reducible first | exact HB.out | apply below_alloc | apply pw_below_drewN | apply below_drew1 | refine below_set ?_ GE101.out | refine below_set ?_ GE102.out) | exact HB.out)) hb); clear BK101; clear BK102; clear HB; have BK101 := n0_; have BK102 := n1_; have HB := n2_; clear n0_ n1_ n2_; (try clear hb); (try clear hb2); (try clear hk); (try clear hi))))
                  go_ret
                  exact ⟨by first | rfl | (simp [errW_none, errW_some] <;> rfl) | (simp [*, errW_none, errW_some] <;> rfl), by repeat (first | (with_reducible first | exact HB.out | apply below_alloc | apply pw_below_drewN | apply below_drew1 | refine below_set ?_ GE101.out | refine below_set ?_ GE102.out) | exact HB.out)⟩
                · rw [if_neg c58] at H
                  exact absurd H (by simp)
              · rw [if_neg c57] at H
                exact absurd H (by simp)
  · rw [if_neg c4] at H
    have c4b0 : (t105 == 0) = false := beq_eq_false_iff_ne.mpr c4
    have c4b1 : (t105 != 0) = true := bne_iff_ne.mpr c4
    by_cases c63 : t103 = 0
    · rw [if_pos c63] at H
      have c63b0 : (t103 == 0) = true := beq_iff_eq.mpr c63
      have c63b1 : (t103 != 0) = false := bne_eq_false_iff_eq.mpr c63
      clear c63
      by_cases c64 : t104 = 0
      · rw [if_pos c64] at H
        have c64b0 : (t104 == 0) = true := beq_iff_eq.mpr c64
        have c64b1 : (t104 != 0) = false := bne_eq_false_iff_eq.mpr c64
        clear c64
        replace H := Option.bind_eq_some_iff.mp H
        obtain ⟨t106, A650, H⟩ := H
        replace H : (some t106) = some r := H
        have A65 := Aside0.mk A650
        clear A650
        obtain rfl := Option.some.inj H
        go_enter Try.func7, Try.ntmps7
        go_wp2_with (first | ((with_reducible refine gate_dst (N := 2) rfl ?_); refine box_event ?hg (N := 2) ?hd (cs := #[.string a0_0, .int .i64 a0_1, .int .i64 a0_2, .int .i64 a0_3, .int .i64 a0_4, .int .i64 a0_5, .bool a0_6]) (t := 34) ?hr ?_; (case hd => rfl); (case hg => rfl); (case hr => first | (go_simp; done) | (go_simp; rfl)); intro gb101 hg w66 hbox hb; have n0_ := Aside0.mk (below_step (by repeat (first | (with_reducible first | exact HB.out | apply below_alloc | apply pw_below_drewN | apply below_drew1) | exact HB.out)) hb); have n1_ := Aside0.mk (hbox); have n2_ := Aside0.mk ((by rw [hg]; exact (below_size (by repeat (first | (with_reducible first | exact HB.out | apply below_alloc | apply pw_below_drewN | apply below_drew1) | exact HB.out))) : w.heap.size ≤ gb101)); have n3_ := Aside0.mk ((by rw [hg]; exact (below_size (by repeat (first | (with_reducible first | exact HB.out | apply below_alloc | apply pw_below_drewN | apply below_drew1) | exact HB.out))) : w.heap.size ≤ gb101)); clear HB; have HB := n0_; have BK101 := n1_; have GW101 := n2_; have GE101 := n3_; clear n0_ n1_ n2_ n3_; clear hb hbox hg) | ((with_reducible refine gate_dst (N := 3) rfl ?_); refine box_event ?hg (N := 3) ?hd (cs := #[.slice A1_0 l1_0.length c1_0, .int .i64 a1_1, .int .i64 a1_2, .int .i64 a1_3, .int .i64 a1_4, .int .i64 a1_5, .int .i64 a1_6, .int .i64 a1_7]) (t := 36) ?hr ?_; (case hd => rfl); (case hg => rfl); (case hr => first | (go_simp; done) | (go_simp; rfl)); intro gb102 hg w67 hbox hb; have n0_ := Aside0.mk (blk_below (g := gb101) (o := .cells #[.string a0_0, .int .i64 a0_1, .int .i64 a0_2, .int .i64 a0_3, .int .i64 a0_4, .int .i64 a0_5, .bool a0_6] 34 (0, 0)) (by (with_reducible repeat (first | refine blk_drewN ?_ _ | refine blk_drew ?_ | refine blk_alloc ?_ _)); exact BK101.out) hb); have n1_ := Aside0.mk (below_step (by repeat (first | (with_reducible first | exact HB.out | apply below_alloc | apply pw_below_drewN | apply below_drew1 | refine below_set ?_ GE101.out) | exact HB.out)) hb); have n2_ := Aside0.mk (hbox); have n3_ := Aside0.mk ((by rw [hg]; exact (below_size (by repeat (first | (with_reducible first | exact HB.out | apply below_alloc | apply pw_below_drewN | apply below_drew1 | refine below_set ?_ GE101.out) | exact HB.out))) : w.heap.size ≤ gb102)); have n4_ := Aside0.mk ((by rw [hg]; exact (below_size (by repeat (first | (with_reducible first | exact HB.out | apply below_alloc | apply pw_below_drewN | apply below_drew1 | refine below_set ?_ GE101.out) | exact HB.out))) : w.heap.size ≤ gb102)); have n5_ := Aside0.mk ((by rw [hg]; exact Nat.ne_of_lt (blk_lt (g := gb101) (o := .cells #[.string a0_0, .int .i64 a0_1, .int .i64 a0_2, .int .i64 a0_3, .int .i64 a0_4, .int .i64 a0_5, .bool a0_6] 34 (0, 0)) (by (with_reducible repeat (first | refine blk_drewN ?_ _ | refine blk_drew ?_ | refine blk_alloc ?_ _)); exact BK101.out)) : gb101 ≠ gb102)); have n6_ := Aside0.mk ((by rw [hg]; exact Nat.ne_of_gt (blk_lt (g := gb101) (o := .cells #[.string a0_0, .int .i64 a0_1, .int .i64 a0_2, .int .i64 a0_3, .int .i64 a0_4, .int .i64 a0_5, .bool a0_6] 34 (0, 0)) (by (with_reducible repeat (first | refine blk_drewN ?_ _ | refine blk_drew ?_ | refine blk_alloc ?_ _)); exact BK101.out)) : gb102 ≠ gb101)); clear BK101; clear HB; have BK101 := n0_; have HB := n1_; have BK102 := n2_; have GW102 := n3_; have GE102 := n4_; have NB101_102 := n5_; have NB102_101 := n6_; clear n0_ n1_ n2_ n3_ n4_ n5_ n6_; clear hb hbox hg; have hnb68 := NB101_102.out; have hnc68 := NB102_101.out; have hcz69_0 : w67.cell? ⟨gb101, 0, none⟩ = some (.string a0_0) := (blk_cell BK101.out 0).trans rfl; have hcz69_1 : w67.cell? ⟨gb101, 1, none⟩ = some (.int .i64 a0_1) := (blk_cell BK101.out 1).trans rfl; have hcz69_2 : w67.cell? ⟨gb101, 2, none⟩ = some (.int .i64 a0_2) := (blk_cell BK101.out 2).trans rfl; have hcz69_3 : w67.cell? ⟨gb101, 3, none⟩ = some (.int .i64 a0_3) := (blk_cell BK101.out 3).trans rfl; have hcz69_4 : w67.cell? ⟨gb101, 4, none⟩ = some (.int .i64 a0_4) := (blk_cell BK101.out 4).trans rfl; have hcz69_5 : w67.cell? ⟨gb101, 5, none⟩ = some (.int .i64 a0_5) := (blk_cell BK101.out 5).trans rfl; have hcz69_6 : w67.cell? ⟨gb101, 6, none⟩ = some (.bool a0_6) := (blk_cell BK101.out 6).trans rfl; have hfz69_0 := blk_frozen BK101.out 0; have hfz69_1 := blk_frozen BK101.out 1; have hfz69_2 := blk_frozen BK101.out 2; have hfz69_3 := blk_frozen BK101.out 3; have hfz69_4 := blk_frozen BK101.out 4; have hfz69_5 := blk_frozen BK101.out 5; have hfz69_6 := blk_frozen BK101.out 6; have hcz70_0 : w67.cell? ⟨gb102, 0, none⟩ = some (.slice A1_0 l1_0.length c1_0) := (blk_cell BK102.out 0).trans rfl; have hcz70_1 : w67.cell? ⟨gb102, 1, none⟩ = some (.int .i64 a1_1) := (blk_cell BK102.out 1).trans rfl; have hcz70_2 : w67.cell? ⟨gb102, 2, none⟩ = some (.int .i64 a1_2) := (blk_cell BK102.out 2).trans rfl; have hcz70_3 : w67.cell? ⟨gb102, 3, none⟩ = some (.int .i64 a1_3) := (blk_cell BK102.out 3).trans rfl; have hcz70_4 : w67.cell? ⟨gb102, 4, none⟩ = some (.int .i64 a1_4) := (blk_cell BK102.out 4).trans rfl; have hcz70_5 : w67.cell? ⟨gb102, 5, none⟩ = some (.int .i64 a1_5) := (blk_cell BK102.out 5).trans rfl; have hcz70_6 : w67.cell? ⟨gb102, 6, none⟩ = some (.int .i64 a1_6) := (blk_cell BK102.out 6).trans rfl; have hcz70_7 : w67.cell? ⟨gb102, 7, none⟩ = some (.int .i64 a1_7) := (blk_cell BK102.out 7).trans rfl; have hfz70_0 := blk_frozen BK102.out 0; have hfz70_1 := blk_frozen BK102.out 1; have hfz70_2 := blk_frozen BK102.out 2; have hfz70_3 := blk_frozen BK102.out 3; have hfz70_4 := blk_frozen BK102.out 4; have hfz70_5 := blk_frozen BK102.out 5; have hfz70_6 := blk_frozen BK102.out 6; have hfz70_7 := blk_frozen BK102.out 7) | (go_at_call 16; (with_reducible refine (mark_Price.calls k a0_0 a0_1 a0_2 a0_3 a0_4 a0_5 a0_6 _ _ l1_0 a1_1 a1_2 a1_3 a1_4 a1_5 a1_6 a1_7 t103 t104 t105 _ ?side1 ?side2 A3.out).mono ?_); (case side1 => repeat (first | exact (Kd.C_below HR1_0.out HB.out) | (with_reducible refine Kd.C_alloc ?_ _) | (with_reducible refine Kd.C_drewN ?_ _) | (with_reducible refine Kd.C_drew ?_))); (case side2 => exact HC1_0.out); rintro e w71 ⟨rfl, hb⟩; have n0_ := Aside0.mk (blk_below (g := gb101) (o := .cells #[.string a0_0, .int .i64 a0_1, .int .i64 a0_2, .int .i64 a0_3, .int .i64 a0_4, .int .i64 a0_5, .bool a0_6] 34 (0, 0)) (by (with_reducible repeat (first | refine blk_drewN ?_ _ | refine blk_drew ?_ | refine blk_alloc ?_ _)); exact BK101.out) hb); have n1_ := Aside0.mk (blk_below (g := gb102) (o := .cells #[.slice A1_0 l1_0.length c1_0, .int .i64 a1_1, .int .i64 a1_2, .int .i64 a1_3, .int .i64 a1_4, .int .i64 a1_5, .int .i64 a1_6, .int .i64 a1_7] 36 (0, 0)) (by (with_reducible repeat (first | refine blk_drewN ?_ _ | refine blk_drew ?_ | refine blk_alloc ?_ _)); exact BK102.out) hb); have n2_ := Aside0.mk (below_step (by repeat (first | (with_reducible first | exact HB.out | apply below_alloc | apply pw_below_drewN | apply below_drew1 | refine below_set ?_ GE101.out | refine below_set ?_ GE102.out) | exact HB.out)) hb); clear BK101; clear BK102; clear HB; have BK101 := n0_; have BK102 := n1_; have HB := n2_; clear n0_ n1_ n2_; (try clear hb); (try clear hb2); (try clear hk); (try clear hi)) | (go_at_call 20; (with_reducible refine (contangolaw18_goes.calls k  t106 _ A65.out).mono ?_); rintro e w72 ⟨rfl, hb⟩; have n0_ := Aside0.mk (blk_below (g := gb101) (o := .cells #[.string a0_0, .int .i64 a0_1, .int .i64 a0_2, .int .i64 a0_3, .int .i64 a0_4, .int .i64 a0_5, .bool a0_6] 34 (0, 0)) (by (with_reducible repeat (first | refine blk_drewN ?_ _ | refine blk_drew ?_ | refine blk_alloc ?_ _)); exact BK101.out) hb); have n1_ := Aside0.mk (blk_below (g := gb102) (o := .cells #[.slice A1_0 l1_0.length c1_0, .int .i64 a1_1, .int .i64 a1_2, .int .i64 a1_3, .int .i64 a1_4, .int .i64 a1_5, .int .i64 a1_6, .int .i64 a1_7] 36 (0, 0)) (by (with_reducible repeat (first | refine blk_drewN ?_ _ | refine blk_drew ?_ | refine blk_alloc ?_ _)); exact BK102.out) hb); have n2_ := Aside0.mk (below_step (by repeat (first | (with_reducible first | exact HB.out | apply below_alloc | apply pw_below_drewN | apply below_drew1 | refine below_set ?_ GE101.out | refine below_set ?_ GE102.out) | exact HB.out)) hb); clear BK101; clear BK102; clear HB; have BK101 := n0_; have BK102 := n1_; have HB := n2_; clear n0_ n1_ n2_; (try clear hb); (try clear hb2); (try clear hk); (try clear hi)))
        repeat (go_quiet (first | ((with_reducible refine gate_dst (N := 2) rfl ?_); refine box_event ?hg (N := 2) ?hd (cs := #[.string a0_0, .int .i64 a0_1, .int .i64 a0_2, .int .i64 a0_3, .int .i64 a0_4, .int .i64 a0_5, .bool a0_6]) (t := 34) ?hr ?_; (case hd => rfl); (case hg => rfl); (case hr => first | (go_simp; done) | (go_simp; rfl)); intro gb101 hg w66 hbox hb; have n0_ := Aside0.mk (below_step (by repeat (first | (with_reducible first | exact HB.out | apply below_alloc | apply pw_below_drewN | apply below_drew1) | exact HB.out)) hb); have n1_ := Aside0.mk (hbox); have n2_ := Aside0.mk ((by rw [hg]; exact (below_size (by repeat (first | (with_reducible first | exact HB.out | apply below_alloc | apply pw_below_drewN | apply below_drew1) | exact HB.out))) : w.heap.size ≤ gb101)); have n3_ := Aside0.mk ((by rw [hg]; exact (below_size (by repeat (first | (with_reducible first | exact HB.out | apply below_alloc | apply pw_below_drewN | apply below_drew1) | exact HB.out))) : w.heap.size ≤ gb101)); clear HB; have HB := n0_; have BK101 := n1_; have GW101 := n2_; have GE101 := n3_; clear n0_ n1_ n2_ n3_; clear hb hbox hg) | ((with_reducible refine gate_dst (N := 3) rfl ?_); refine box_event ?hg (N := 3) ?hd (cs := #[.slice A1_0 l1_0.length c1_0, .int .i64 a1_1, .int .i64 a1_2, .int .i64 a1_3, .int .i64 a1_4, .int .i64 a1_5, .int .i64 a1_6, .int .i64 a1_7]) (t := 36) ?hr ?_; (case hd => rfl); (case hg => rfl); (case hr => first | (go_simp; done) | (go_simp; rfl)); intro gb102 hg w67 hbox hb; have n0_ := Aside0.mk (blk_below (g := gb101) (o := .cells #[.string a0_0, .int .i64 a0_1, .int .i64 a0_2, .int .i64 a0_3, .int .i64 a0_4, .int .i64 a0_5, .bool a0_6] 34 (0, 0)) (by (with_reducible repeat (first | refine blk_drewN ?_ _ | refine blk_drew ?_ | refine blk_alloc ?_ _)); exact BK101.out) hb); have n1_ := Aside0.mk (below_step (by repeat (first | (with_reducible first | exact HB.out | apply below_alloc | apply pw_below_drewN | apply below_drew1 | refine below_set ?_ GE101.out) | exact HB.out)) hb); have n2_ := Aside0.mk (hbox); have n3_ := Aside0.mk ((by rw [hg]; exact (below_size (by repeat (first | (with_reducible first | exact HB.out | apply below_alloc | apply pw_below_drewN | apply below_drew1 | refine below_set ?_ GE101.out) | exact HB.out))) : w.heap.size ≤ gb102)); have n4_ := Aside0.mk ((by rw [hg]; exact (below_size (by repeat (first | (with_reducible first | exact HB.out | apply below_alloc | apply pw_below_drewN | apply below_drew1 | refine below_set ?_ GE101.out) | exact HB.out))) : w.heap.size ≤ gb102)); have n5_ := Aside0.mk ((by rw [hg]; exact Nat.ne_of_lt (blk_lt (g := gb101) (o := .cells #[.string a0_0, .int .i64 a0_1, .int .i64 a0_2, .int .i64 a0_3, .int .i64 a0_4, .int .i64 a0_5, .bool a0_6] 34 (0, 0)) (by (with_reducible repeat (first | refine blk_drewN ?_ _ | refine blk_drew ?_ | refine blk_alloc ?_ _)); exact BK101.out)) : gb101 ≠ gb102)); have n6_ := Aside0.mk ((by rw [hg]; exact Nat.ne_of_gt (blk_lt (g := gb101) (o := .cells #[.string a0_0, .int .i64 a0_1, .int .i64 a0_2, .int .i64 a0_3, .int .i64 a0_4, .int .i64 a0_5, .bool a0_6] 34 (0, 0)) (by (with_reducible repeat (first | refine blk_drewN ?_ _ | refine blk_drew ?_ | refine blk_alloc ?_ _)); exact BK101.out)) : gb102 ≠ gb101)); clear BK101; clear HB; have BK101 := n0_; have HB := n1_; have BK102 := n2_; have GW102 := n3_; have GE102 := n4_; have NB101_102 := n5_; have NB102_101 := n6_; clear n0_ n1_ n2_ n3_ n4_ n5_ n6_; clear hb hbox hg; have hnb68 := NB101_102.out; have hnc68 := NB102_101.out; have hcz69_0 : w67.cell? ⟨gb101, 0, none⟩ = some (.string a0_0) := (blk_cell BK101.out 0).trans rfl; have hcz69_1 : w67.cell? ⟨gb101, 1, none⟩ = some (.int .i64 a0_1) := (blk_cell BK101.out 1).trans rfl; have hcz69_2 : w67.cell? ⟨gb101, 2, none⟩ = some (.int .i64 a0_2) := (blk_cell BK101.out 2).trans rfl; have hcz69_3 : w67.cell? ⟨gb101, 3, none⟩ = some (.int .i64 a0_3) := (blk_cell BK101.out 3).trans rfl; have hcz69_4 : w67.cell? ⟨gb101, 4, none⟩ = some (.int .i64 a0_4) := (blk_cell BK101.out 4).trans rfl; have hcz69_5 : w67.cell? ⟨gb101, 5, none⟩ = some (.int .i64 a0_5) := (blk_cell BK101.out 5).trans rfl; have hcz69_6 : w67.cell? ⟨gb101, 6, none⟩ = some (.bool a0_6) := (blk_cell BK101.out 6).trans rfl; have hfz69_0 := blk_frozen BK101.out 0; have hfz69_1 := blk_frozen BK101.out 1; have hfz69_2 := blk_frozen BK101.out 2; have hfz69_3 := blk_frozen BK101.out 3; have hfz69_4 := blk_frozen BK101.out 4; have hfz69_5 := blk_frozen BK101.out 5; have hfz69_6 := blk_frozen BK101.out 6; have hcz70_0 : w67.cell? ⟨gb102, 0, none⟩ = some (.slice A1_0 l1_0.length c1_0) := (blk_cell BK102.out 0).trans rfl; have hcz70_1 : w67.cell? ⟨gb102, 1, none⟩ = some (.int .i64 a1_1) := (blk_cell BK102.out 1).trans rfl; have hcz70_2 : w67.cell? ⟨gb102, 2, none⟩ = some (.int .i64 a1_2) := (blk_cell BK102.out 2).trans rfl; have hcz70_3 : w67.cell? ⟨gb102, 3, none⟩ = some (.int .i64 a1_3) := (blk_cell BK102.out 3).trans rfl; have hcz70_4 : w67.cell? ⟨gb102, 4, none⟩ = some (.int .i64 a1_4) := (blk_cell BK102.out 4).trans rfl; have hcz70_5 : w67.cell? ⟨gb102, 5, none⟩ = some (.int .i64 a1_5) := (blk_cell BK102.out 5).trans rfl; have hcz70_6 : w67.cell? ⟨gb102, 6, none⟩ = some (.int .i64 a1_6) := (blk_cell BK102.out 6).trans rfl; have hcz70_7 : w67.cell? ⟨gb102, 7, none⟩ = some (.int .i64 a1_7) := (blk_cell BK102.out 7).trans rfl; have hfz70_0 := blk_frozen BK102.out 0; have hfz70_1 := blk_frozen BK102.out 1; have hfz70_2 := blk_frozen BK102.out 2; have hfz70_3 := blk_frozen BK102.out 3; have hfz70_4 := blk_frozen BK102.out 4; have hfz70_5 := blk_frozen BK102.out 5; have hfz70_6 := blk_frozen BK102.out 6; have hfz70_7 := blk_frozen BK102.out 7) | (go_at_call 16; (with_reducible refine (mark_Price.calls k a0_0 a0_1 a0_2 a0_3 a0_4 a0_5 a0_6 _ _ l1_0 a1_1 a1_2 a1_3 a1_4 a1_5 a1_6 a1_7 t103 t104 t105 _ ?side1 ?side2 A3.out).mono ?_); (case side1 => repeat (first | exact (Kd.C_below HR1_0.out HB.out) | (with_reducible refine Kd.C_alloc ?_ _) | (with_reducible refine Kd.C_drewN ?_ _) | (with_reducible refine Kd.C_drew ?_))); (case side2 => exact HC1_0.out); rintro e w71 ⟨rfl, hb⟩; have n0_ := Aside0.mk (blk_below (g := gb101) (o := .cells #[.string a0_0, .int .i64 a0_1, .int .i64 a0_2, .int .i64 a0_3, .int .i64 a0_4, .int .i64 a0_5, .bool a0_6] 34 (0, 0)) (by (with_reducible repeat (first | refine blk_drewN ?_ _ | refine blk_drew ?_ | refine blk_alloc ?_ _)); exact BK101.out) hb); have n1_ := Aside0.mk (blk_below (g := gb102) (o := .cells #[.slice A1_0 l1_0.length c1_0, .int .i64 a1_1, .int .i64 a1_2, .int .i64 a1_3, .int .i64 a1_4, .int .i64 a1_5, .int .i64 a1_6, .int .i64 a1_7] 36 (0, 0)) (by (with_reducible repeat (first | refine blk_drewN ?_ _ | refine blk_drew ?_ | refine blk_alloc ?_ _)); exact BK102.out) hb); have n2_ := Aside0.mk (below_step (by repeat (first | (with_reducible first | exact HB.out | apply below_alloc | apply pw_below_drewN | apply below_drew1 | refine below_set ?_ GE101.out | refine below_set ?_ GE102.out) | exact HB.out)) hb); clear BK101; clear BK102; clear HB; have BK101 := n0_; have BK102 := n1_; have HB := n2_; clear n0_ n1_ n2_; (try clear hb); (try clear hb2); (try clear hk); (try clear hi)) | (go_at_call 20; (with_reducible refine (contangolaw18_goes.calls k  t106 _ A65.out).mono ?_); rintro e w72 ⟨rfl, hb⟩; have n0_ := Aside0.mk (blk_below (g := gb101) (o := .cells #[.string a0_0, .int .i64 a0_1, .int .i64 a0_2, .int .i64 a0_3, .int .i64 a0_4, .int .i64 a0_5, .bool a0_6] 34 (0, 0)) (by (with_reducible repeat (first | refine blk_drewN ?_ _ | refine blk_drew ?_ | refine blk_alloc ?_ _)); exact BK101.out) hb); have n1_ := Aside0.mk (blk_below (g := gb102) (o := .cells #[.slice A1_0 l1_0.length c1_0, .int .i64 a1_1, .int .i64 a1_2, .int .i64 a1_3, .int .i64 a1_4, .int .i64 a1_5, .int .i64 a1_6, .int .i64 a1_7] 36 (0, 0)) (by (with_reducible repeat (first | refine blk_drewN ?_ _ | refine blk_drew ?_ | refine blk_alloc ?_ _)); exact BK102.out) hb); have n2_ := Aside0.mk (below_step (by repeat (first | (with_reducible first | exact HB.out | apply below_alloc | apply pw_below_drewN | apply below_drew1 | refine below_set ?_ GE101.out | refine below_set ?_ GE102.out) | exact HB.out)) hb); clear BK101; clear BK102; clear HB; have BK101 := n0_; have BK102 := n1_; have HB := n2_; clear n0_ n1_ n2_; (try clear hb); (try clear hb2); (try clear hk); (try clear hi))); try go_wp2_with (first | ((with_reducible refine gate_dst (N := 2) rfl ?_); refine box_event ?hg (N := 2) ?hd (cs := #[.string a0_0, .int .i64 a0_1, .int .i64 a0_2, .int .i64 a0_3, .int .i64 a0_4, .int .i64 a0_5, .bool a0_6]) (t := 34) ?hr ?_; (case hd => rfl); (case hg => rfl); (case hr => first | (go_simp; done) | (go_simp; rfl)); intro gb101 hg w66 hbox hb; have n0_ := Aside0.mk (below_step (by repeat (first | (with_reducible first | exact HB.out | apply below_alloc | apply pw_below_drewN | apply below_drew1) | exact HB.out)) hb); have n1_ := Aside0.mk (hbox); have n2_ := Aside0.mk ((by rw [hg]; exact (below_size (by repeat (first | (with_reducible first | exact HB.out | apply below_alloc | apply pw_below_drewN | apply below_drew1) | exact HB.out))) : w.heap.size ≤ gb101)); have n3_ := Aside0.mk ((by rw [hg]; exact (below_size (by repeat (first | (with_reducible first | exact HB.out | apply below_alloc | apply pw_below_drewN | apply below_drew1) | exact HB.out))) : w.heap.size ≤ gb101)); clear HB; have HB := n0_; have BK101 := n1_; have GW101 := n2_; have GE101 := n3_; clear n0_ n1_ n2_ n3_; clear hb hbox hg) | ((with_reducible refine gate_dst (N := 3) rfl ?_); refine box_event ?hg (N := 3) ?hd (cs := #[.slice A1_0 l1_0.length c1_0, .int .i64 a1_1, .int .i64 a1_2, .int .i64 a1_3, .int .i64 a1_4, .int .i64 a1_5, .int .i64 a1_6, .int .i64 a1_7]) (t := 36) ?hr ?_; (case hd => rfl); (case hg => rfl); (case hr => first | (go_simp; done) | (go_simp; rfl)); intro gb102 hg w67 hbox hb; have n0_ := Aside0.mk (blk_below (g := gb101) (o := .cells #[.string a0_0, .int .i64 a0_1, .int .i64 a0_2, .int .i64 a0_3, .int .i64 a0_4, .int .i64 a0_5, .bool a0_6] 34 (0, 0)) (by (with_reducible repeat (first | refine blk_drewN ?_ _ | refine blk_drew ?_ | refine blk_alloc ?_ _)); exact BK101.out) hb); have n1_ := Aside0.mk (below_step (by repeat (first | (with_reducible first | exact HB.out | apply below_alloc | apply pw_below_drewN | apply below_drew1 | refine below_set ?_ GE101.out) | exact HB.out)) hb); have n2_ := Aside0.mk (hbox); have n3_ := Aside0.mk ((by rw [hg]; exact (below_size (by repeat (first | (with_reducible first | exact HB.out | apply below_alloc | apply pw_below_drewN | apply below_drew1 | refine below_set ?_ GE101.out) | exact HB.out))) : w.heap.size ≤ gb102)); have n4_ := Aside0.mk ((by rw [hg]; exact (below_size (by repeat (first | (with_reducible first | exact HB.out | apply below_alloc | apply pw_below_drewN | apply below_drew1 | refine below_set ?_ GE101.out) | exact HB.out))) : w.heap.size ≤ gb102)); have n5_ := Aside0.mk ((by rw [hg]; exact Nat.ne_of_lt (blk_lt (g := gb101) (o := .cells #[.string a0_0, .int .i64 a0_1, .int .i64 a0_2, .int .i64 a0_3, .int .i64 a0_4, .int .i64 a0_5, .bool a0_6] 34 (0, 0)) (by (with_reducible repeat (first | refine blk_drewN ?_ _ | refine blk_drew ?_ | refine blk_alloc ?_ _)); exact BK101.out)) : gb101 ≠ gb102)); have n6_ := Aside0.mk ((by rw [hg]; exact Nat.ne_of_gt (blk_lt (g := gb101) (o := .cells #[.string a0_0, .int .i64 a0_1, .int .i64 a0_2, .int .i64 a0_3, .int .i64 a0_4, .int .i64 a0_5, .bool a0_6] 34 (0, 0)) (by (with_reducible repeat (first | refine blk_drewN ?_ _ | refine blk_drew ?_ | refine blk_alloc ?_ _)); exact BK101.out)) : gb102 ≠ gb101)); clear BK101; clear HB; have BK101 := n0_; have HB := n1_; have BK102 := n2_; have GW102 := n3_; have GE102 := n4_; have NB101_102 := n5_; have NB102_101 := n6_; clear n0_ n1_ n2_ n3_ n4_ n5_ n6_; clear hb hbox hg; have hnb68 := NB101_102.out; have hnc68 := NB102_101.out; have hcz69_0 : w67.cell? ⟨gb101, 0, none⟩ = some (.string a0_0) := (blk_cell BK101.out 0).trans rfl; have hcz69_1 : w67.cell? ⟨gb101, 1, none⟩ = some (.int .i64 a0_1) := (blk_cell BK101.out 1).trans rfl; have hcz69_2 : w67.cell? ⟨gb101, 2, none⟩ = some (.int .i64 a0_2) := (blk_cell BK101.out 2).trans rfl; have hcz69_3 : w67.cell? ⟨gb101, 3, none⟩ = some (.int .i64 a0_3) := (blk_cell BK101.out 3).trans rfl; have hcz69_4 : w67.cell? ⟨gb101, 4, none⟩ = some (.int .i64 a0_4) := (blk_cell BK101.out 4).trans rfl; have hcz69_5 : w67.cell? ⟨gb101, 5, none⟩ = some (.int .i64 a0_5) := (blk_cell BK101.out 5).trans rfl; have hcz69_6 : w67.cell? ⟨gb101, 6, none⟩ = some (.bool a0_6) := (blk_cell BK101.out 6).trans rfl; have hfz69_0 := blk_frozen BK101.out 0; have hfz69_1 := blk_frozen BK101.out 1; have hfz69_2 := blk_frozen BK101.out 2; have hfz69_3 := blk_frozen BK101.out 3; have hfz69_4 := blk_frozen BK101.out 4; have hfz69_5 := blk_frozen BK101.out 5; have hfz69_6 := blk_frozen BK101.out 6; have hcz70_0 : w67.cell? ⟨gb102, 0, none⟩ = some (.slice A1_0 l1_0.length c1_0) := (blk_cell BK102.out 0).trans rfl; have hcz70_1 : w67.cell? ⟨gb102, 1, none⟩ = some (.int .i64 a1_1) := (blk_cell BK102.out 1).trans rfl; have hcz70_2 : w67.cell? ⟨gb102, 2, none⟩ = some (.int .i64 a1_2) := (blk_cell BK102.out 2).trans rfl; have hcz70_3 : w67.cell? ⟨gb102, 3, none⟩ = some (.int .i64 a1_3) := (blk_cell BK102.out 3).trans rfl; have hcz70_4 : w67.cell? ⟨gb102, 4, none⟩ = some (.int .i64 a1_4) := (blk_cell BK102.out 4).trans rfl; have hcz70_5 : w67.cell? ⟨gb102, 5, none⟩ = some (.int .i64 a1_5) := (blk_cell BK102.out 5).trans rfl; have hcz70_6 : w67.cell? ⟨gb102, 6, none⟩ = some (.int .i64 a1_6) := (blk_cell BK102.out 6).trans rfl; have hcz70_7 : w67.cell? ⟨gb102, 7, none⟩ = some (.int .i64 a1_7) := (blk_cell BK102.out 7).trans rfl; have hfz70_0 := blk_frozen BK102.out 0; have hfz70_1 := blk_frozen BK102.out 1; have hfz70_2 := blk_frozen BK102.out 2; have hfz70_3 := blk_frozen BK102.out 3; have hfz70_4 := blk_frozen BK102.out 4; have hfz70_5 := blk_frozen BK102.out 5; have hfz70_6 := blk_frozen BK102.out 6; have hfz70_7 := blk_frozen BK102.out 7) | (go_at_call 16; (with_reducible refine (mark_Price.calls k a0_0 a0_1 a0_2 a0_3 a0_4 a0_5 a0_6 _ _ l1_0 a1_1 a1_2 a1_3 a1_4 a1_5 a1_6 a1_7 t103 t104 t105 _ ?side1 ?side2 A3.out).mono ?_); (case side1 => repeat (first | exact (Kd.C_below HR1_0.out HB.out) | (with_reducible refine Kd.C_alloc ?_ _) | (with_reducible refine Kd.C_drewN ?_ _) | (with_reducible refine Kd.C_drew ?_))); (case side2 => exact HC1_0.out); rintro e w71 ⟨rfl, hb⟩; have n0_ := Aside0.mk (blk_below (g := gb101) (o := .cells #[.string a0_0, .int .i64 a0_1, .int .i64 a0_2, .int .i64 a0_3, .int .i64 a0_4, .int .i64 a0_5, .bool a0_6] 34 (0, 0)) (by (with_reducible repeat (first | refine blk_drewN ?_ _ | refine blk_drew ?_ | refine blk_alloc ?_ _)); exact BK101.out) hb); have n1_ := Aside0.mk (blk_below (g := gb102) (o := .cells #[.slice A1_0 l1_0.length c1_0, .int .i64 a1_1, .int .i64 a1_2, .int .i64 a1_3, .int .i64 a1_4, .int .i64 a1_5, .int .i64 a1_6, .int .i64 a1_7] 36 (0, 0)) (by (with_reducible repeat (first | refine blk_drewN ?_ _ | refine blk_drew ?_ | refine blk_alloc ?_ _)); exact BK102.out) hb); have n2_ := Aside0.mk (below_step (by repeat (first | (with_reducible first | exact HB.out | apply below_alloc | apply pw_below_drewN | apply below_drew1 | refine below_set ?_ GE101.out | refine below_set ?_ GE102.out) | exact HB.out)) hb); clear BK101; clear BK102; clear HB; have BK101 := n0_; have BK102 := n1_; have HB := n2_; clear n0_ n1_ n2_; (try clear hb); (try clear hb2); (try clear hk); (try clear hi)) | (go_at_call 20; (with_reducible refine (contangolaw18_goes.calls k  t106 _ A65.out).mono ?_); rintro e w72 ⟨rfl, hb⟩; have n0_ := Aside0.mk (blk_below (g := gb101) (o := .cells #[.string a0_0, .int .i64 a0_1, .int .i64 a0_2, .int .i64 a0_3, .int .i64 a0_4, .int .i64 a0_5, .bool a0_6] 34 (0, 0)) (by (with_reducible repeat (first | refine blk_drewN ?_ _ | refine blk_drew ?_ | refine blk_alloc ?_ _)); exact BK101.out) hb); have n1_ := Aside0.mk (blk_below (g := gb102) (o := .cells #[.slice A1_0 l1_0.length c1_0, .int .i64 a1_1, .int .i64 a1_2, .int .i64 a1_3, .int .i64 a1_4, .int .i64 a1_5, .int .i64 a1_6, .int .i64 a1_7] 36 (0, 0)) (by (with_reducible repeat (first | refine blk_drewN ?_ _ | refine blk_drew ?_ | refine blk_alloc ?_ _)); exact BK102.out) hb); have n2_ := Aside0.mk (below_step (by repeat (first | (with_reducible first | exact HB.out | apply below_alloc | apply pw_below_drewN | apply below_drew1 | refine below_set ?_ GE101.out | refine below_set ?_ GE102.out) | exact HB.out)) hb); clear BK101; clear BK102; clear HB; have BK101 := n0_; have BK102 := n1_; have HB := n2_; clear n0_ n1_ n2_; (try clear hb); (try clear hb2); (try clear hk); (try clear hi))))
        go_ret
        exact ⟨by first | rfl | (simp [errW_none, errW_some] <;> rfl) | (simp [*, errW_none, errW_some] <;> rfl), by repeat (first | (with_reducible first | exact HB.out | apply below_alloc | apply pw_below_drewN | apply below_drew1 | refine below_set ?_ GE101.out | refine below_set ?_ GE102.out) | exact HB.out)⟩
      · rw [if_neg c64] at H
        exact absurd H (by simp)
    · rw [if_neg c63] at H
      exact absurd H (by simp)
end Go.Proofs.Ytocndpddghefhaa.X
end
section
namespace Go.Proofs.Ytocndpddghefhaa.Opn
open Go.ChangeShapes Go.WideShapes Go.Proofs.YtocndpddghefhaaW.PrintWords
set_option linter.unusedVariables false
set_option linter.unusedSimpArgs false
structure Opens (P : Program) (t : TypeId) {α : Type} (d : Kd α) (Ok : α → Prop) : Prop where
  sz : d.sz = P.cellsOf t
  opens : ∀ {H : Type} {enc : TypeId × Value → H} {w : World} {base : Nat} {spare : Nat → Bool} {held : Bool} {fuel : Nat} {cs : List Value} {x : DataW H × List MemPlace},
    DataW.trod enc P w base spare held fuel t cs = some x → (∀ n ∈ x.1.weights P t, n ≤ reachBytes) → ∃ v, d.K w v cs ∧ Ok v
theorem opens_int {P : Program} {t : TypeId} {k : IntKind} (ht : P.underlying t = some (.int k)) (hc : P.cellsOf t = 1) : Opens P t (Kd.int k) (fun n => (Lit.int k n).wf = true) := by
  refine ⟨hc.symm, fun h _ => ?_⟩
  obtain ⟨n, rfl, _, hw⟩ := DataW.trod_int ht h
  exact ⟨n, rfl, hw⟩
theorem opens_bool {P : Program} {t : TypeId} (ht : P.underlying t = some .bool) (hc : P.cellsOf t = 1) : Opens P t Kd.bool (fun _ => True) := by
  refine ⟨hc.symm, fun h _ => ?_⟩
  obtain ⟨n, rfl, _⟩ := DataW.trod_bool ht h
  exact ⟨n, rfl, trivial⟩
theorem opens_string {P : Program} {t : TypeId} (ht : P.underlying t = some .string) (hc : P.cellsOf t = 1) : Opens P t Kd.string (fun s => s.size ≤ 140737488351232) := by
  refine ⟨hc.symm, fun h hw => ?_⟩
  obtain ⟨s, rfl, rfl, hs⟩ := DataW.trod_string ht h
  refine ⟨s, rfl, ?_⟩
  have := hw s.data.toList.length (by simp [DataW.weights])
  rw [Array.length_toList] at this
  exact this
theorem weights_all {H : Type} {P : Program} {e : TypeId} : ∀ {ds : List (DataW H)} {j : Nat} {d : DataW H}, ds[j]? = some d → ∀ n ∈ d.weights P e, n ∈ DataW.weightsAll P e ds
  | d0 :: ds, 0, d, hd, n, hn => by
    simp only [List.getElem?_cons_zero, Option.some.injEq] at hd
    subst hd
    simp only [DataW.weightsAll, List.mem_append]
    exact Or.inl hn
  | d0 :: ds, j + 1, d, hd, n, hn => by
    simp only [List.getElem?_cons_succ] at hd
    simp only [DataW.weightsAll, List.mem_append]
    exact Or.inr (weights_all hd n hn)
  | [], _, _, hd, _, _ => by simp at hd
theorem list_of {α : Type} {n : Nat} {p : Nat → α → Prop} (h : ∀ i, i < n → ∃ x, p i x) : ∃ l : List α, l.length = n ∧ ∀ i x, l[i]? = some x → p i x := by
  induction n with
  | zero => exact ⟨[], rfl, fun i x hx => by simp at hx⟩
  | succ n ih =>
    obtain ⟨l, hl, hp⟩ := ih (fun i hi => h i (by omega))
    obtain ⟨x, hx⟩ := h n (by omega)
    refine ⟨l ++ [x], by simp [hl], fun i y hy => ?_⟩
    by_cases hi : i < l.length
    · rw [List.getElem?_append_left hi] at hy
      exact hp i y hy
    · rw [List.getElem?_append_right (by omega)] at hy
      have : i - l.length = 0 := by
        cases hk : i - l.length with
        | zero => rfl
        | succ m => rw [hk] at hy; simp at hy
      rw [this] at hy
      simp at hy
      subst hy
      have : i = n := by omega
      subst this
      exact hx
theorem opens_slice {P : Program} {t e : TypeId} {α : Type} {d : Kd α} {Ok : α → Prop} (h : Opens P e d Ok) (ht : P.underlying t = some (.slice e)) (hc : P.cellsOf t = 1) {B : Nat} (hB : P.bytesOf e = B) :
    Opens P t (Kd.slice e d) (fun l => l.length ≤ maxLen ∧ l.length * B ≤ 140737488351232 ∧ ∀ x ∈ l, Ok x) := by
  subst hB
  refine ⟨hc.symm, fun {H enc w base spare held fuel cs x} hx hw => ?_⟩
  rcases DataW.trod_slice ht hx with ⟨rfl, rfl⟩ | ⟨a, len, cap, elems, rest, n, _, rfl, rfl, hb, hl, hm, hlen, hel, hsp, hns⟩
  · exact ⟨[], ⟨none, 0, rfl, Nat.le_refl _, Kd.C_nil _ _⟩, by simp⟩
  simp only [DataW.weights, ht] at hw
  have hw1 : (elems.length + rest.length) * P.bytesOf e ≤ reachBytes := by
    have := hw ((elems.length + rest.length) * P.bytesOf e) (by simp)
    exact this
  have hone : ∀ i, i < len → ∃ v : α, ∃ c, w.cells? base (a.add (i * P.cellsOf e)) (P.cellsOf e) = some c ∧ d.K w v c ∧ Ok v := by
    intro i hi
    have h1 := hel i hi
    rw [List.getElem?_eq_getElem (by omega)] at h1
    obtain ⟨c, hc1, hc2⟩ := Option.bind_eq_some_iff.1 h1
    obtain ⟨v, hv, hok⟩ := h.opens hc2 (fun n hn => hw n (by
      simp only [List.mem_cons, List.mem_append]
      right; left
      refine weights_all (j := i) ?_ n hn
      rw [List.getElem?_map, List.getElem?_eq_getElem (by omega)]
      rfl))
    exact ⟨v, c, hc1, hv, hok⟩
  obtain ⟨l, hl1, hl2⟩ := list_of hone
  subst hl1
  refine ⟨l, ⟨some a, cap, rfl, hl, rfl, ?_, fun _ => ⟨a, rfl, fun j p hj => ?_⟩⟩, ?_, ?_, ?_⟩
  · unfold maxLen at hm; omega
  · obtain ⟨c, hc1, hc2, _⟩ := hl2 j p hj
    obtain ⟨_, hlen2, hcell⟩ := World.cells?_some hc1
    refine ⟨c, by rw [h.sz]; exact hlen2, hc2, fun i u hu => ?_⟩
    have hi : i < P.cellsOf e := by
      have := (List.getElem?_eq_some_iff.1 hu).1
      omega
    have := hcell i hi
    rw [hu, ← Deep.add_add, h.sz] at *
    exact this
  · exact Nat.le_trans hl hm
  · have h2 : l.length * P.bytesOf e ≤ (elems.length + rest.length) * P.bytesOf e := Nat.mul_le_mul_right _ (by omega)
    exact Nat.le_trans h2 hw1
  · intro x hx
    obtain ⟨j, hj⟩ := List.getElem?_of_mem hx
    obtain ⟨c, _, _, ho⟩ := hl2 j x hj
    exact ho
structure OpensF (P : Program) (fs : List Field) (off : Nat) {α : Type} (d : Kd α) (Ok : α → Prop) : Prop where
  opens : ∀ {H : Type} {enc : TypeId × Value → H} {w : World} {base : Nat} {spare : Nat → Bool} {held : Bool} {n : Nat} {cs : List Value} {xs : List (DataW H × List MemPlace)},
    xs.length = fs.length → (∀ (i : Nat) (f : Field), fs[i]? = some f → DataW.trod enc P w base spare held n f.type ((cs.drop f.offset).take (P.cellsOf f.type)) = xs[i]?) →
    (∀ m ∈ DataW.weightsEach P (fs.map (·.type)) (xs.map (·.1)), m ≤ reachBytes) → ∃ v, d.K w v ((cs.drop off).take d.sz) ∧ Ok v
theorem opensF_one {P : Program} {f : Field} {off : Nat} {α : Type} {d : Kd α} {Ok : α → Prop} (h : Opens P f.type d Ok) (ho : f.offset = off) : OpensF P [f] off d Ok := by
  refine ⟨fun {H enc w base spare held n cs xs} hl hx hw => ?_⟩
  match xs, hl with
  | [x], _ =>
    have h1 := hx 0 f rfl
    obtain ⟨v, hv, hok⟩ := h.opens h1 (fun n hn => hw n (by simpa [DataW.weightsEach] using hn))
    refine ⟨v, ?_, hok⟩
    rw [h.sz, ← ho]
    exact hv
theorem opensF_cons {P : Program} {f : Field} {fs : List Field} {off : Nat} {α β : Type} {d : Kd α} {d' : Kd β} {Ok : α → Prop} {Ok' : β → Prop} (h : Opens P f.type d Ok) (ho : f.offset = off) (h' : OpensF P fs (off + d.sz) d' Ok') :
    OpensF P (f :: fs) off (Kd.pair d d') (fun p => Ok p.1 ∧ Ok' p.2) := by
  refine ⟨fun {H enc w base spare held n cs xs} hl hx hw => ?_⟩
  match xs, hl with
  | x :: xs, hl =>
    have h1 := hx 0 f rfl
    obtain ⟨v, hv, hok⟩ := h.opens h1 (fun n hn => hw n (by
      simp only [List.map_cons, DataW.weightsEach, List.mem_append]; exact Or.inl hn))
    obtain ⟨v', hv', hok'⟩ := h'.opens (cs := cs) (xs := xs) (by simpa using hl) (fun i g hg => by
      have := hx (i + 1) g (by simpa using hg)
      simpa using this) (fun m hm => hw m (by simp only [List.map_cons, DataW.weightsEach, List.mem_append]; exact Or.inr hm))
    refine ⟨(v, v'), ⟨(cs.drop off).take d.sz, (cs.drop (off + d.sz)).take d'.sz, ?_, ?_, hv'⟩, hok, hok'⟩
    · show (cs.drop off).take (d.sz + d'.sz) = _
      rw [List.take_add, List.drop_drop]
    · rw [h.sz, ← ho]; exact hv
theorem opens_struct {P : Program} {t : TypeId} {fs : Array Field} {α β : Type} {d : Kd α} {Ok : α → Prop} (h : OpensF P fs.toList 0 d Ok) (ht : P.underlying t = some (.struct fs)) (hc : d.sz = P.cellsOf t) (f : β → α) (mk : α → β) (hf : ∀ a, f (mk a) = a) :
    Opens P t (Kd.iso d f) (fun b => Ok (f b)) := by
  refine ⟨hc, fun {H enc w base spare held fuel cs x} hx hw => ?_⟩
  obtain ⟨xs, n, _, rfl, hlen, hsz, hall⟩ := DataW.trod_struct ht hx
  simp only [DataW.weights, ht] at hw
  obtain ⟨v, hv, hok⟩ := h.opens (cs := cs) (xs := xs) (by simpa using hsz) (fun i f hf => hall i f (by simpa using hf)) hw
  refine ⟨mk v, ?_, by rw [hf]; exact hok⟩
  show d.K w (f (mk v)) cs
  rw [hf]
  rw [List.drop_zero, hc, ← hlen, List.take_length] at hv
  exact hv
theorem opens_imp {P : Program} {t : TypeId} {α : Type} {d : Kd α} {Ok Ok' : α → Prop} (h : Opens P t d Ok) (hi : ∀ v, Ok v → Ok' v) : Opens P t d Ok' :=
  ⟨h.sz, fun hx hw => let ⟨v, hv, ho⟩ := h.opens hx hw; ⟨v, hv, hi v ho⟩⟩
end Go.Proofs.Ytocndpddghefhaa.Opn
end
section
namespace Go.Proofs.Ytocndpddghefhaa.X
open Go.RowKit Go.Proofs.YtocndpddghefhaaW.PrintWords Go.Proofs.YtocndpddghefhaaW.PrintLast Go.Proofs.YtocndpddghefhaaW.PrintMore
attribute [local go_sem] max2_int min2_int max_two min_two max_three min_three max_four min_four
set_option linter.unusedVariables false
set_option linter.unusedSimpArgs false
def ok49 (v : S49) : Prop := (Lit.int .i64 v.f0).wf = true ∧ ((Lit.int .i64 v.f1).wf = true ∧ ((Lit.int .i64 v.f2).wf = true))
theorem opens49 : Opn.Opens Try.prog 49 k49 ok49 := by
  have hu := Try.underlying49
  refine Opn.opens_imp (Opn.opens_struct (Ok := fun (p : Int × (Int × (Int))) => (Lit.int .i64 p.1).wf = true ∧ ((Lit.int .i64 p.2.1).wf = true ∧ ((Lit.int .i64 p.2.2).wf = true))) ?hF hu (by kernel_rfl) (fun x : S49 => (x.f0, x.f1, x.f2)) (fun a => ⟨a.1, a.2.1, a.2.2⟩) (fun _ => rfl)) ?hI
  case hF =>
    refine Opn.opensF_cons (Ok := fun (p : Int) => (Lit.int .i64 p).wf = true) (Ok' := fun (p : Int × (Int)) => (Lit.int .i64 p.1).wf = true ∧ ((Lit.int .i64 p.2).wf = true)) (h := ?_) (ho := ?_) (h' := ?_)
    · exact Opn.opens_int Try.underlying3 (by kernel_rfl)
    · rfl
    · skip
      refine Opn.opensF_cons (Ok := fun (p : Int) => (Lit.int .i64 p).wf = true) (Ok' := fun (p : Int) => (Lit.int .i64 p).wf = true) (h := ?_) (ho := ?_) (h' := ?_)
      · exact Opn.opens_int Try.underlying3 (by kernel_rfl)
      · rfl
      · skip
        refine Opn.opensF_one (Ok := fun (p : Int) => (Lit.int .i64 p).wf = true) (h := ?_) (ho := ?_)
        · exact Opn.opens_int Try.underlying3 (by kernel_rfl)
        · rfl
  case hI => exact fun v h => h
def ok34 (v : S34) : Prop := v.f0.size ≤ 140737488351232 ∧ ((Lit.int .i64 v.f1).wf = true ∧ ((Lit.int .i64 v.f2).wf = true ∧ ((Lit.int .i64 v.f3).wf = true ∧ ((Lit.int .i64 v.f4).wf = true ∧ ((Lit.int .i64 v.f5).wf = true ∧ (True))))))
theorem opens34 : Opn.Opens Try.prog 34 k34 ok34 := by
  have hu := Try.underlying34
  refine Opn.opens_imp (Opn.opens_struct (Ok := fun (p : ByteArray × (Int × (Int × (Int × (Int × (Int × (Bool))))))) => p.1.size ≤ 140737488351232 ∧ ((Lit.int .i64 p.2.1).wf = true ∧ ((Lit.int .i64 p.2.2.1).wf = true ∧ ((Lit.int .i64 p.2.2.2.1).wf = true ∧ ((Lit.int .i64 p.2.2.2.2.1).wf = true ∧ ((Lit.int .i64 p.2.2.2.2.2.1).wf = true ∧ (True))))))) ?hF hu (by kernel_rfl) (fun x : S34 => (x.f0, x.f1, x.f2, x.f3, x.f4, x.f5, x.f6)) (fun a => ⟨a.1, a.2.1, a.2.2.1, a.2.2.2.1, a.2.2.2.2.1, a.2.2.2.2.2.1, a.2.2.2.2.2.2⟩) (fun _ => rfl)) ?hI
  case hF =>
    refine Opn.opensF_cons (Ok := fun (p : ByteArray) => p.size ≤ 140737488351232) (Ok' := fun (p : Int × (Int × (Int × (Int × (Int × (Bool)))))) => (Lit.int .i64 p.1).wf = true ∧ ((Lit.int .i64 p.2.1).wf = true ∧ ((Lit.int .i64 p.2.2.1).wf = true ∧ ((Lit.int .i64 p.2.2.2.1).wf = true ∧ ((Lit.int .i64 p.2.2.2.2.1).wf = true ∧ (True)))))) (h := ?_) (ho := ?_) (h' := ?_)
    · exact Opn.opens_string Try.underlying9 (by kernel_rfl)
    · rfl
    · skip
      refine Opn.opensF_cons (Ok := fun (p : Int) => (Lit.int .i64 p).wf = true) (Ok' := fun (p : Int × (Int × (Int × (Int × (Bool))))) => (Lit.int .i64 p.1).wf = true ∧ ((Lit.int .i64 p.2.1).wf = true ∧ ((Lit.int .i64 p.2.2.1).wf = true ∧ ((Lit.int .i64 p.2.2.2.1).wf = true ∧ (True))))) (h := ?_) (ho := ?_) (h' := ?_)
      · exact Opn.opens_int Try.underlying3 (by kernel_rfl)
      · rfl
      · skip
        refine Opn.opensF_cons (Ok := fun (p : Int) => (Lit.int .i64 p).wf = true) (Ok' := fun (p : Int × (Int × (Int × (Bool)))) => (Lit.int .i64 p.1).wf = true ∧ ((Lit.int .i64 p.2.1).wf = true ∧ ((Lit.int .i64 p.2.2.1).wf = true ∧ (True)))) (h := ?_) (ho := ?_) (h' := ?_)
        · exact Opn.opens_int Try.underlying3 (by kernel_rfl)
        · rfl
        · skip
          refine Opn.opensF_cons (Ok := fun (p : Int) => (Lit.int .i64 p).wf = true) (Ok' := fun (p : Int × (Int × (Bool))) => (Lit.int .i64 p.1).wf = true ∧ ((Lit.int .i64 p.2.1).wf = true ∧ (True))) (h := ?_) (ho := ?_) (h' := ?_)
          · exact Opn.opens_int Try.underlying3 (by kernel_rfl)
          · rfl
          · skip
            refine Opn.opensF_cons (Ok := fun (p : Int) => (Lit.int .i64 p).wf = true) (Ok' := fun (p : Int × (Bool)) => (Lit.int .i64 p.1).wf = true ∧ (True)) (h := ?_) (ho := ?_) (h' := ?_)
            · exact Opn.opens_int Try.underlying3 (by kernel_rfl)
            · rfl
            · skip
              refine Opn.opensF_cons (Ok := fun (p : Int) => (Lit.int .i64 p).wf = true) (Ok' := fun (p : Bool) => True) (h := ?_) (ho := ?_) (h' := ?_)
              · exact Opn.opens_int Try.underlying3 (by kernel_rfl)
              · rfl
              · skip
                refine Opn.opensF_one (Ok := fun (p : Bool) => True) (h := ?_) (ho := ?_)
                · exact Opn.opens_bool Try.underlying4 (by kernel_rfl)
                · rfl
  case hI => exact fun v h => h
def ok36 (v : S36) : Prop := (v.f0.length ≤ maxLen ∧ v.f0.length * 24 ≤ 140737488351232 ∧ ∀ x ∈ v.f0, ok49 x) ∧ ((Lit.int .i64 v.f1).wf = true ∧ ((Lit.int .i64 v.f2).wf = true ∧ ((Lit.int .i64 v.f3).wf = true ∧ ((Lit.int .i64 v.f4).wf = true ∧ ((Lit.int .i64 v.f5).wf = true ∧ ((Lit.int .i64 v.f6).wf = true ∧ ((Lit.int .i64 v.f7).wf = true)))))))
theorem opens36 : Opn.Opens Try.prog 36 k36 ok36 := by
  have hu := Try.underlying36
  refine Opn.opens_imp (Opn.opens_struct (Ok := fun (p : List (S49) × (Int × (Int × (Int × (Int × (Int × (Int × (Int)))))))) => (p.1.length ≤ maxLen ∧ p.1.length * 24 ≤ 140737488351232 ∧ ∀ x ∈ p.1, ok49 x) ∧ ((Lit.int .i64 p.2.1).wf = true ∧ ((Lit.int .i64 p.2.2.1).wf = true ∧ ((Lit.int .i64 p.2.2.2.1).wf = true ∧ ((Lit.int .i64 p.2.2.2.2.1).wf = true ∧ ((Lit.int .i64 p.2.2.2.2.2.1).wf = true ∧ ((Lit.int .i64 p.2.2.2.2.2.2.1).wf = true ∧ ((Lit.int .i64 p.2.2.2.2.2.2.2).wf = true)))))))) ?hF hu (by kernel_rfl) (fun x : S36 => (x.f0, x.f1, x.f2, x.f3, x.f4, x.f5, x.f6, x.f7)) (fun a => ⟨a.1, a.2.1, a.2.2.1, a.2.2.2.1, a.2.2.2.2.1, a.2.2.2.2.2.1, a.2.2.2.2.2.2.1, a.2.2.2.2.2.2.2⟩) (fun _ => rfl)) ?hI
  case hF =>
    refine Opn.opensF_cons (Ok := fun (p : List (S49)) => (p.length ≤ maxLen ∧ p.length * 24 ≤ 140737488351232 ∧ ∀ x ∈ p, ok49 x)) (Ok' := fun (p : Int × (Int × (Int × (Int × (Int × (Int × (Int))))))) => (Lit.int .i64 p.1).wf = true ∧ ((Lit.int .i64 p.2.1).wf = true ∧ ((Lit.int .i64 p.2.2.1).wf = true ∧ ((Lit.int .i64 p.2.2.2.1).wf = true ∧ ((Lit.int .i64 p.2.2.2.2.1).wf = true ∧ ((Lit.int .i64 p.2.2.2.2.2.1).wf = true ∧ ((Lit.int .i64 p.2.2.2.2.2.2).wf = true))))))) (h := ?_) (ho := ?_) (h' := ?_)
    · exact Opn.opens_slice (opens49) Try.underlying22 (by kernel_rfl) (B := 24) (by kernel_rfl)
    · rfl
    · skip
      refine Opn.opensF_cons (Ok := fun (p : Int) => (Lit.int .i64 p).wf = true) (Ok' := fun (p : Int × (Int × (Int × (Int × (Int × (Int)))))) => (Lit.int .i64 p.1).wf = true ∧ ((Lit.int .i64 p.2.1).wf = true ∧ ((Lit.int .i64 p.2.2.1).wf = true ∧ ((Lit.int .i64 p.2.2.2.1).wf = true ∧ ((Lit.int .i64 p.2.2.2.2.1).wf = true ∧ ((Lit.int .i64 p.2.2.2.2.2).wf = true)))))) (h := ?_) (ho := ?_) (h' := ?_)
      · exact Opn.opens_int Try.underlying3 (by kernel_rfl)
      · rfl
      · skip
        refine Opn.opensF_cons (Ok := fun (p : Int) => (Lit.int .i64 p).wf = true) (Ok' := fun (p : Int × (Int × (Int × (Int × (Int))))) => (Lit.int .i64 p.1).wf = true ∧ ((Lit.int .i64 p.2.1).wf = true ∧ ((Lit.int .i64 p.2.2.1).wf = true ∧ ((Lit.int .i64 p.2.2.2.1).wf = true ∧ ((Lit.int .i64 p.2.2.2.2).wf = true))))) (h := ?_) (ho := ?_) (h' := ?_)
        · exact Opn.opens_int Try.underlying3 (by kernel_rfl)
        · rfl
        · skip
          refine Opn.opensF_cons (Ok := fun (p : Int) => (Lit.int .i64 p).wf = true) (Ok' := fun (p : Int × (Int × (Int × (Int)))) => (Lit.int .i64 p.1).wf = true ∧ ((Lit.int .i64 p.2.1).wf = true ∧ ((Lit.int .i64 p.2.2.1).wf = true ∧ ((Lit.int .i64 p.2.2.2).wf = true)))) (h := ?_) (ho := ?_) (h' := ?_)
          · exact Opn.opens_int Try.underlying3 (by kernel_rfl)
          · rfl
          · skip
            refine Opn.opensF_cons (Ok := fun (p : Int) => (Lit.int .i64 p).wf = true) (Ok' := fun (p : Int × (Int × (Int))) => (Lit.int .i64 p.1).wf = true ∧ ((Lit.int .i64 p.2.1).wf = true ∧ ((Lit.int .i64 p.2.2).wf = true))) (h := ?_) (ho := ?_) (h' := ?_)
            · exact Opn.opens_int Try.underlying3 (by kernel_rfl)
            · rfl
            · skip
              refine Opn.opensF_cons (Ok := fun (p : Int) => (Lit.int .i64 p).wf = true) (Ok' := fun (p : Int × (Int)) => (Lit.int .i64 p.1).wf = true ∧ ((Lit.int .i64 p.2).wf = true)) (h := ?_) (ho := ?_) (h' := ?_)
              · exact Opn.opens_int Try.underlying3 (by kernel_rfl)
              · rfl
              · skip
                refine Opn.opensF_cons (Ok := fun (p : Int) => (Lit.int .i64 p).wf = true) (Ok' := fun (p : Int) => (Lit.int .i64 p).wf = true) (h := ?_) (ho := ?_) (h' := ?_)
                · exact Opn.opens_int Try.underlying3 (by kernel_rfl)
                · rfl
                · skip
                  refine Opn.opensF_one (Ok := fun (p : Int) => (Lit.int .i64 p).wf = true) (h := ?_) (ho := ?_)
                  · exact Opn.opens_int Try.underlying3 (by kernel_rfl)
                  · rfl
  case hI => exact fun v h => h
end Go.Proofs.Ytocndpddghefhaa.X
end
section
namespace Go.Proofs.Ytocndpddghefhaa.P
open Go.RowKit Go.Proofs.YtocndpddghefhaaW.PrintWords Go.Proofs.YtocndpddghefhaaW.PrintMore Go.Proofs.Ytocndpddghefhaa.X
theorem Ev_succ {α : Type} {g : Nat → Option α} {r : α} (h : Ev (fun k => g (k + 1)) r) : Ev g r := Ev.step (fun _ => rfl) h
theorem Ev_bind {α β : Type} {g : Nat → Option α} {f : Nat → α → Option β} {a : α} {r : β} (h : Ev g a) (k : Ev (fun n => f n a) r) : Ev (fun n => (g n).bind (f n)) r := Ev.bind h k
theorem Ev_id {α : Type} {g : Nat → Option α} {r : α} (h : Ev g r) : Ev (fun n => (g n).bind fun x => some x) r := Ev.bind h (Ev.now _)
theorem w_id {x : Int} (h1 : -9223372036854775808 ≤ x) (h2 : x ≤ 9223372036854775807) : wrap64 x = x := by unfold wrap64; omega
theorem w_succ {i n : Nat} (h : i < n) (hn : n ≤ 9223372036854775807) : wrap64 ((i : Int) + 1) = ((i + 1 : Nat) : Int) := by rw [w_id (by omega) (by omega)]; omega
theorem w_pred {i : Nat} (h : 0 < i) (hn : i ≤ 9223372036854775807) : wrap64 ((i : Int) - 1) = ((i - 1 : Nat) : Int) := by rw [w_id (by omega) (by omega)]; omega
theorem rd_nat (xs : List Int) (i : Nat) (h : i < xs.length) : rd xs (i : Int) = xs[i] := by simp [rd, h]
theorem drop_cons {α : Type} (l : List α) (i : Nat) (h : i < l.length) : l.drop i = l[i] :: l.drop (i + 1) := (List.getElem_cons_drop h).symm
end Go.Proofs.Ytocndpddghefhaa.P
end
section
namespace Go.Proofs.Ytocndpddghefhaa.P
set_option linter.unusedVariables false
set_option linter.unusedSimpArgs false
open Go.RowKit Go.Proofs.YtocndpddghefhaaW.PrintWords Go.Proofs.YtocndpddghefhaaW.PrintMore Go.Proofs.Ytocndpddghefhaa.X
theorem uwrap (n : Int) : IntKind.u64.wrap n = n % 18446744073709551616 := by simp [IntKind.wrap, IntKind.bits, IntKind.signed]
theorem u_id {x : Int} (h1 : 0 ≤ x) (h2 : x < 18446744073709551616) : IntKind.u64.wrap x = x := by rw [uwrap]; omega
def fitsM (n : Int) : Bool := decide (-1152921504606846976 ≤ n) && decide (n ≤ 1152921504606846976)
theorem fitsM_iff (n : Int) : fitsM n = true ↔ -1152921504606846976 ≤ n ∧ n ≤ 1152921504606846976 := by simp [fitsM]
theorem fitsM_f (n : Int) : cents_Fits.f n = some (fitsM n) := by
  unfold cents_Fits.f fitsM
  by_cases h : n ≥ -1152921504606846976
  · rw [if_pos h, decide_eq_true (show -1152921504606846976 ≤ n from h), Bool.true_and]
  · rw [if_neg h, decide_eq_false (show ¬ -1152921504606846976 ≤ n from h), Bool.false_and]
def szI (n : Int) : Int := if n < 0 then -n else n
theorem szI_rng {n : Int} (h : fitsM n = true) : 0 ≤ szI n ∧ szI n ≤ 1152921504606846976 := by
  rw [fitsM_iff] at h; unfold szI; split <;> omega
theorem szI_pos {n : Int} (h : n ≠ 0) : 1 ≤ szI n := by unfold szI; split <;> omega
theorem size_f {n : Int} (h : fitsM n = true) : cents_size.f n = some (szI n) := by
  rw [fitsM_iff] at h
  unfold cents_size.f szI
  by_cases c : n < 0
  · rw [if_pos c, if_pos c, w_id (by omega) (by omega), u_id (by omega) (by omega)]
  · rw [if_neg c, if_neg c, u_id (by omega) (by omega)]
theorem maskN (a : Nat) (ha : a < 18446744073709551616) : Go.bits .and .u64 (a : Int) 4294967295 = ((a % 4294967296 : Nat) : Int) := by
  have h := bits_and_u64_nat a 4294967295 ha (by omega)
  have e : a &&& 4294967295 = a % 4294967296 := Nat.and_two_pow_sub_one_eq_mod a 32
  rw [e] at h
  exact h
theorem divN (a : Nat) : (a : Int) / 4294967296 = ((a / 4294967296 : Nat) : Int) := by omega
theorem mulN (a b : Nat) : (a : Int) * (b : Int) = ((a * b : Nat) : Int) := (Int.natCast_mul a b).symm
theorem addN (a b : Nat) : (a : Int) + (b : Int) = ((a + b : Nat) : Int) := (Int.natCast_add a b).symm
theorem wrapN (a : Nat) (ha : a < 18446744073709551616) : IntKind.u64.wrap (a : Int) = (a : Int) := by rw [uwrap]; omega
theorem wrapM (a : Nat) : IntKind.u64.wrap (a : Int) = ((a % 18446744073709551616 : Nat) : Int) := by rw [uwrap]; omega
theorem mul64_f (x y : Nat) (hx : x < 18446744073709551616) (hy : y < 18446744073709551616) : bits_Mul64.f (x : Int) (y : Int) = some (((x * y / 18446744073709551616 : Nat) : Int), ((x * y % 18446744073709551616 : Nat) : Int)) := by
  obtain ⟨bd, bt, bw, hhi⟩ := Lib.mul64_hi x y hx hy
  have ba := Lib.half_mul_le (a := x / 4294967296) (b := y / 4294967296) (by omega) (by omega)
  have bb := Lib.half_mul_le (a := x / 4294967296) (b := y % 4294967296) (by omega) (by omega)
  have bc := Lib.half_mul_le (a := x % 4294967296) (b := y / 4294967296) (by omega) (by omega)
  have ba' : x / 4294967296 * (y / 4294967296) < 18446744073709551616 := by omega
  have bb' : x / 4294967296 * (y % 4294967296) < 18446744073709551616 := by omega
  have bc' : x % 4294967296 * (y / 4294967296) < 18446744073709551616 := by omega
  have bh1 : x / 4294967296 * (y / 4294967296) + (x / 4294967296 * (y % 4294967296) + x % 4294967296 * (y % 4294967296) / 4294967296) / 4294967296 < 18446744073709551616 := by omega
  have bh : x / 4294967296 * (y / 4294967296) + (x / 4294967296 * (y % 4294967296) + x % 4294967296 * (y % 4294967296) / 4294967296) / 4294967296 + ((x / 4294967296 * (y % 4294967296) + x % 4294967296 * (y % 4294967296) / 4294967296) % 4294967296 + x % 4294967296 * (y / 4294967296)) / 4294967296 < 18446744073709551616 := by omega
  unfold bits_Mul64.f
  simp only [maskN x hx, maskN y hy, divN, mulN, addN, wrapN _ bd, wrapN _ bb', wrapN _ bt, maskN _ bt, wrapN _ bc', wrapN _ bw, wrapN _ ba', wrapN _ bh1, wrapN _ bh, wrapM (x * y)]
  rw [hhi]
def awayP (m : Int) (bl : Bool) (q r y : Int) : Bool := if m = 5 then decide (y - r < r) || (r == y - r && q % 2 == 1) else awayAll m bl
def mdQ (a b c : Int) : Int := szI a * szI b / szI c
def mdR (a b c : Int) : Int := szI a * szI b % szI c
def mdN (a b c m : Int) : Int := if 0 < mdR a b c ∧ awayP m (belowB a b c) (mdQ a b c) (mdR a b c) (szI c) = true then mdQ a b c + 1 else mdQ a b c
def mdV (a b c m : Int) : Int × Int := if 1152921504606846976 < mdN a b c m then (0, 3) else (if belowB a b c = true then -mdN a b c m else mdN a b c m, 0)
def mulDiv (a b c m : Int) : Int × Int := if fitsM a = true ∧ fitsM b = true ∧ fitsM c = true ∧ 1 ≤ m ∧ m ≤ 5 then (if c = 0 then (0, 4) else mdV a b c m) else (0, 2)
theorem mdR_rng {a b c : Int} (ha : fitsM a = true) (hb : fitsM b = true) (hc : fitsM c = true) (h0 : c ≠ 0) : 0 ≤ mdQ a b c ∧ 0 ≤ mdR a b c ∧ mdR a b c < szI c ∧ mdQ a b c ≤ szI a * szI b := by
  have ra := szI_rng ha
  have rb := szI_rng hb
  have pc := szI_pos h0
  have hp := Int.mul_nonneg ra.1 rb.1
  unfold mdQ mdR
  refine ⟨Int.ediv_nonneg hp (by omega), Int.emod_nonneg _ (by omega), Int.emod_lt_of_pos _ (by omega), ?_⟩
  exact Int.ediv_le_self _ hp
theorem div64_0 (k : Nat) {lo y : Int} (h1 : 0 ≤ lo) (h2 : lo < 18446744073709551616) (hy : 1 ≤ y) : bits_Div64.f k 0 lo y = some (lo / y, lo % y) := by
  unfold bits_Div64.f
  have e1 := Int.tdiv_eq_ediv_of_nonneg (b := y) h1
  have e2 := Int.tmod_eq_emod_of_nonneg (b := y) h1
  have b1 := Int.ediv_nonneg h1 (show 0 ≤ y by omega)
  have b2 := Int.ediv_le_self y h1
  rw [if_neg (by omega), if_neg (by omega), if_pos rfl, e1, e2, u_id (by omega) (by omega)]
theorem signed_f {q : Int} (bl : Bool) (h : 0 ≤ q) (h2 : q ≤ 2305843009213693953) : cents_signed.f q bl = some (if 1152921504606846976 < q then (0, 3) else (if bl = true then -q else q, 0)) := by
  unfold cents_signed.f
  by_cases c : q > 1152921504606846976
  · rw [if_pos c, if_pos (show 1152921504606846976 < q from c)]
  · rw [if_neg c, if_neg (show ¬ 1152921504606846976 < q from c)]
    have e : wrap64 q = q := w_id (by omega) (by omega)
    have e2 : wrap64 (-q) = -q := w_id (by omega) (by omega)
    rw [e, e2]
    cases bl <;> rfl
theorem awayB_P {m : Int} {bl : Bool} {q r y : Int} (hq : 0 ≤ q) (hr : 0 ≤ r) (hry : r < y) (hy : y ≤ 1152921504606846976) : awayB m bl q r y = awayP m bl q r y := by
  unfold awayB awayP
  have e : IntKind.u64.wrap (y - r) = y - r := u_id (by omega) (by omega)
  have e2 := Int.tmod_eq_emod_of_nonneg (b := 2) hq
  rw [e, e2]
theorem mulDiv_f (k : Nat) (a b c m : Int) (h : szI a * szI b < 18446744073709551616) : cents_MulDiv.f k a b c m = some (mulDiv a b c m) := by
  unfold cents_MulDiv.f mulDiv
  simp only [fitsM_f, Option.bind_some]
  by_cases c1 : fitsM a = true ∧ fitsM b = true ∧ fitsM c = true ∧ 1 ≤ m ∧ m ≤ 5
  · rw [if_pos c1, if_pos c1]
    obtain ⟨ha, hb, hc, hm1, hm2⟩ := c1
    by_cases c2 : c = 0
    · rw [if_pos c2, if_pos c2]
    · rw [if_neg c2, if_neg c2, size_f ha, size_f hb, size_f hc]
      simp only [Option.bind_some]
      have ra := szI_rng ha
      have rb := szI_rng hb
      have rc := szI_rng hc
      have pc := szI_pos c2
      have hR := mdR_rng ha hb hc c2
      have hp := Int.mul_nonneg ra.1 rb.1
      have e0 : bits_Mul64.f (szI a) (szI b) = some (0, szI a * szI b) := by
        obtain ⟨x, hx⟩ : ∃ x : Nat, szI a = (x : Int) := ⟨(szI a).toNat, by omega⟩
        obtain ⟨y, hy⟩ : ∃ y : Nat, szI b = (y : Int) := ⟨(szI b).toNat, by omega⟩
        rw [hx, hy] at h
        rw [hx, hy, mul64_f x y (by omega) (by omega)]
        rw [mulN] at h ⊢
        have hxy : x * y < 18446744073709551616 := by omega
        rw [Nat.div_eq_of_lt hxy, Nat.mod_eq_of_lt hxy]
        rfl
      rw [e0]
      simp only [Option.bind_some]
      rw [if_neg (by omega), div64_0 k hp h pc]
      simp only [Option.bind_some]
      show (if 1152921504606846976 < mdQ a b c then some (0, 3) else cents_signed.f (if 0 < mdR a b c ∧ awayB m (belowB a b c) (mdQ a b c) (mdR a b c) (szI c) = true then IntKind.u64.wrap (mdQ a b c + 1) else mdQ a b c) (belowB a b c)) = some (mdV a b c m)
      rw [awayB_P hR.1 hR.2.1 hR.2.2.1 rc.2]
      unfold mdV
      by_cases c3 : 1152921504606846976 < mdQ a b c
      · have : 1152921504606846976 < mdN a b c m := by unfold mdN; split <;> omega
        rw [if_pos c3, if_pos this]
      · rw [if_neg c3]
        have e1 : IntKind.u64.wrap (mdQ a b c + 1) = mdQ a b c + 1 := u_id (by omega) (by omega)
        rw [e1]
        show cents_signed.f (mdN a b c m) (belowB a b c) = _
        have : 0 ≤ mdN a b c m ∧ mdN a b c m ≤ 1152921504606846977 := by unfold mdN; split <;> omega
        rw [signed_f _ this.1 (by omega)]
  · rw [if_neg c1, if_neg c1]
end Go.Proofs.Ytocndpddghefhaa.P
end
section
namespace Go.Proofs.Ytocndpddghefhaa.P
set_option linter.unusedVariables false
set_option linter.unusedSimpArgs false
open Go.RowKit Go.Proofs.YtocndpddghefhaaW.PrintWords Go.Proofs.YtocndpddghefhaaW.PrintMore Go.Proofs.Ytocndpddghefhaa.X
def letterB (n : Int) : Bool := decide (97 ≤ n) && decide (n ≤ 122)
def digitB (n : Int) : Bool := decide (48 ≤ n) && decide (n ≤ 57)
theorem letter_f (n : Int) : words_letter.f n = some (letterB n) := by
  unfold words_letter.f letterB
  by_cases h : 97 ≤ n
  · rw [if_pos h, decide_eq_true h, Bool.true_and]
  · rw [if_neg h, decide_eq_false h, Bool.false_and]
theorem digit_f (n : Int) : words_digit.f n = some (digitB n) := by
  unfold words_digit.f digitB
  by_cases h : 48 ≤ n
  · rw [if_pos h, decide_eq_true h, Bool.true_and]
  · rw [if_neg h, decide_eq_false h, Bool.false_and]
def chB (s : ByteArray) (i : Nat) : Bool := letterB (bt s (i : Int)) || (!(i == 0) && digitB (bt s (i : Int)))
def nameFrom (s : ByteArray) : Nat → Nat → Bool
  | 0, _ => true
  | d + 1, i => chB s i && nameFrom s d (i + 1)
def nameB (s : ByteArray) : Bool := decide (0 < s.size) && decide (s.size ≤ 12) && nameFrom s s.size 0
theorem nameLoop (s : ByteArray) (hs : s.size ≤ 12) (h0 : letterB (bt s 0) = true) : ∀ (d i : Nat), i + d = s.size → Ev (fun k => words_Name.l0 k s s.size i) (nameFrom s d i)
  | 0, i, hd => by
    refine Ev_succ ?_
    simp only [words_Name.l0, if_neg (show ¬ ((i : Int) < (s.size : Int)) by omega)]
    exact Ev.now _
  | d + 1, i, hd => by
    have hi : i < s.size := by omega
    have ih := nameLoop s hs h0 d (i + 1) (by omega)
    refine Ev_succ ?_
    simp only [words_Name.l0, if_pos (show (i : Int) < (s.size : Int) by omega), if_pos (show 0 ≤ (i : Int) by omega), letter_f, digit_f, Option.bind_some, w_succ hi (by omega), nameFrom, chB]
    cases h1 : letterB (bt s (i : Int)) with
    | true => simp only [if_true, Bool.true_or, Bool.true_and]; exact ih
    | false =>
      simp only [Bool.false_eq_true, if_false, Bool.false_or]
      have hi0 : (i == 0) = false := by
        rw [← Bool.not_eq_true, beq_iff_eq]
        rintro rfl
        rw [show ((0 : Nat) : Int) = 0 from rfl, h0] at h1
        cases h1
      simp only [hi0, Bool.not_false, Bool.true_and]
      cases h2 : digitB (bt s (i : Int)) with
      | true => simp only [if_true, Bool.true_and]; exact ih
      | false => simp only [Bool.false_eq_true, if_false, Bool.false_and]; exact Ev.now _
theorem name_f (s : ByteArray) : Ev (fun k => words_Name.f k s) (nameB s) := by
  have hj : nameB s = false → Ev (fun k => words_Name.j0 k s true) (nameB s) := by
    intro h
    rw [h]
    refine Ev_succ ?_
    simp only [words_Name.j0, if_true]
    exact Ev.now _
  unfold words_Name.f
  by_cases c0 : s.toList = []
  · simp only [if_pos c0]
    refine hj ?_
    have : s.size = 0 := by
      have e : s.toList = s.data.toList := ByteArray.toList_eq s
      rw [e] at c0
      have := congrArg List.length c0
      simpa using this
    simp [nameB, this]
  · simp only [if_neg c0]
    by_cases c1 : (s.size : Int) > 12
    · simp only [if_pos c1]
      exact hj (by simp [nameB]; omega)
    · have hp : 0 < s.size := by
        rcases Nat.eq_zero_or_pos s.size with h | h
        · exfalso
          apply c0
          have e : s.toList = s.data.toList := ByteArray.toList_eq s
          rw [e]
          exact List.length_eq_zero_iff.1 (by simpa using h)
        · exact h
      simp only [if_neg c1, if_pos (show 0 < (s.size : Int) by omega), letter_f, Option.bind_some]
      have hn : nameB s = nameFrom s s.size 0 := by
        unfold nameB
        rw [decide_eq_true hp, decide_eq_true (show s.size ≤ 12 by omega)]
        simp
      cases h1 : letterB (bt s 0) with
      | false =>
        refine hj ?_
        rw [hn]
        obtain ⟨d, hd⟩ : ∃ d, s.size = d + 1 := ⟨s.size - 1, by omega⟩
        rw [hd]
        simp [nameFrom, chB, h1]
      | true =>
        refine Ev_succ ?_
        simp only [words_Name.j0, Bool.not_true, Bool.false_eq_true, if_false]
        rw [hn]
        exact nameLoop s (by omega) h1 s.size 0 (by omega)
end Go.Proofs.Ytocndpddghefhaa.P
end
section
namespace Go.Proofs.Ytocndpddghefhaa.P
set_option linter.unusedVariables false
set_option linter.unusedSimpArgs false
open Go.RowKit Go.Proofs.YtocndpddghefhaaW.PrintWords Go.Proofs.YtocndpddghefhaaW.PrintMore Go.Proofs.Ytocndpddghefhaa.X
abbrev Prod9 := S34
theorem Ev_or {α : Type} {g : Nat → Bool → Option α} {a b : Prop} [Decidable a] [Decidable b] {r : α} (ht : (a ∨ b) → Ev (fun k => g k true) r) (hf : ¬ (a ∨ b) → Ev (fun k => g k false) r) : Ev (fun k => if a then g k true else g k (decide b)) r := by
  by_cases ca : a
  · simp only [if_pos ca]; exact ht (Or.inl ca)
  · simp only [if_neg ca]
    by_cases cb : b
    · rw [decide_eq_true cb]; exact ht (Or.inr cb)
    · rw [decide_eq_false cb]; exact hf (fun h => h.elim ca cb)
theorem Ev_if {α : Type} {c : Prop} [Decidable c] {f g : Nat → Option α} {r : α} (h1 : c → Ev f r) (h2 : ¬ c → Ev g r) : Ev (fun k => if c then f k else g k) r := by
  by_cases h : c
  · simp only [if_pos h]; exact h1 h
  · simp only [if_neg h]; exact h2 h
def prodT (p : Prod9) : Int := if -16777216 ≤ p.f4 ∧ p.f4 ≤ 16777216 ∧ -16777216 ≤ p.f5 ∧ p.f5 ≤ 16777216 ∧ p.f4 ≤ p.f5 ∧ Int.tmod p.f4 p.f3 = 0 ∧ Int.tmod p.f5 p.f3 = 0 then 0 else 17
def prodE (p : Prod9) : Int := if nameB p.f0 = true then (if p.f1 < 0 ∨ p.f1 ≥ 8 then 25 else if p.f2 < 1 ∨ p.f2 > 4096 then 2 else if p.f3 < 1 ∨ p.f3 > 16777216 then 16 else prodT p) else 10
theorem pwithin_f (n : Int) : product_within.f n 16777216 = some (decide (-16777216 ≤ n) && decide (n ≤ 16777216)) := by
  unfold product_within.f
  have e : wrap64 (-16777216) = -16777216 := w_id (by omega) (by omega)
  rw [e]
  by_cases h : n ≥ -16777216
  · rw [if_pos h, decide_eq_true (show -16777216 ≤ n from h), Bool.true_and]
  · rw [if_neg h, decide_eq_false (show ¬ -16777216 ≤ n from h), Bool.false_and]
theorem and_iff (a b : Prop) [Decidable a] [Decidable b] : (decide a && decide b) = true ↔ a ∧ b := by simp
theorem prodT_of {p : Prod9} (h : ¬ (-16777216 ≤ p.f4 ∧ p.f4 ≤ 16777216 ∧ -16777216 ≤ p.f5 ∧ p.f5 ≤ 16777216 ∧ p.f4 ≤ p.f5 ∧ Int.tmod p.f4 p.f3 = 0 ∧ Int.tmod p.f5 p.f3 = 0)) : prodT p = 17 := if_neg h
theorem prod_f (p : Prod9) : Ev (fun k => product_Check.f k p.f0 p.f1 p.f2 p.f3 p.f4 p.f5 p.f6) (prodE p) := by
  have h3 : ¬ (p.f3 < 1 ∨ p.f3 > 16777216) → Ev (fun k => product_Check.j3 k false p.f0 p.f1 p.f2 p.f3 p.f4 p.f5 p.f6) (prodT p) := by
    intro c
    refine Ev_succ ?_
    simp only [product_Check.j3, Bool.false_eq_true, if_false, pwithin_f, Option.bind_some, and_iff]
    refine Ev_if (fun c1 => Ev_if (fun c2 => Ev_if (fun c3 => ?_) fun c3 => Ev_if (fun c4 => by omega) fun c4 => Ev_if (fun c5 => Ev_if (fun c6 => ?_) fun c6 => ?_) fun c5 => ?_) fun c2 => ?_) fun c1 => ?_
    · rw [prodT_of (by omega)]; exact Ev.now _
    · have : prodT p = 0 := if_pos ⟨c1.1, c1.2, c2.1, c2.2, by omega, c5, c6⟩
      rw [this]; exact Ev.now _
    · rw [prodT_of (fun h => c6 h.2.2.2.2.2.2)]; exact Ev.now _
    · rw [prodT_of (fun h => c5 h.2.2.2.2.2.1)]; exact Ev.now _
    · rw [prodT_of (by omega)]; exact Ev.now _
    · rw [prodT_of (by omega)]; exact Ev.now _
  have h0 : nameB p.f0 = true → Ev (fun k => product_Check.j0 k false p.f0 p.f1 p.f2 p.f3 p.f4 p.f5 p.f6) (prodE p) := by
    intro hn
    refine Ev_succ ?_
    unfold prodE
    rw [if_pos hn]
    simp only [product_Check.j0, Bool.false_eq_true, if_false]
    refine Ev_or (g := fun k b => product_Check.j1 k b p.f0 p.f1 p.f2 p.f3 p.f4 p.f5 p.f6) (fun c => ?_) (fun c => ?_)
    · rw [if_pos c]; refine Ev_succ ?_; simp only [product_Check.j1, if_true]; exact Ev.now _
    rw [if_neg c]
    refine Ev_succ ?_
    simp only [product_Check.j1, Bool.false_eq_true, if_false]
    refine Ev_or (g := fun k b => product_Check.j2 k b p.f0 p.f1 p.f2 p.f3 p.f4 p.f5 p.f6) (fun c => ?_) (fun c => ?_)
    · rw [if_pos c]; refine Ev_succ ?_; simp only [product_Check.j2, if_true]; exact Ev.now _
    rw [if_neg c]
    refine Ev_succ ?_
    simp only [product_Check.j2, Bool.false_eq_true, if_false]
    refine Ev_or (g := fun k b => product_Check.j3 k b p.f0 p.f1 p.f2 p.f3 p.f4 p.f5 p.f6) (fun c => ?_) (fun c => ?_)
    · rw [if_pos c]; refine Ev_succ ?_; simp only [product_Check.j3, if_true]; exact Ev.now _
    rw [if_neg c]
    exact h3 c
  have h1 : nameB p.f0 = false → Ev (fun k => product_Check.j0 k true p.f0 p.f1 p.f2 p.f3 p.f4 p.f5 p.f6) (prodE p) := by
    intro hn
    refine Ev_succ ?_
    unfold prodE
    rw [if_neg (by rw [hn]; decide)]
    simp only [product_Check.j0, if_true]
    exact Ev.now _
  unfold product_Check.f
  refine Ev_if (fun c => ?_) (fun c => ?_)
  · refine h1 ?_
    simp only [Bool.and_eq_true, beq_iff_eq] at c
    have e : p.f0.size = 0 := by
      have : p.f0.data.toList = [] := by rw [← ByteArray.toList_eq]; exact c.1
      have h2 : p.f0.data.toList.length = 0 := by rw [this]; rfl
      simpa using h2
    unfold nameB
    rw [e]; rfl
  · refine Ev_bind (name_f p.f0) ?_
    cases hn : nameB p.f0 with
    | true => exact h0 hn
    | false => exact h1 hn
def ProdOk (p : Prod9) : Prop := 1 ≤ p.f3 ∧ p.f3 ≤ 16777216 ∧ -16777216 ≤ p.f4 ∧ p.f4 ≤ 16777216 ∧ -16777216 ≤ p.f5 ∧ p.f5 ≤ 16777216 ∧ p.f4 ≤ p.f5 ∧ Int.tmod p.f4 p.f3 = 0 ∧ Int.tmod p.f5 p.f3 = 0
theorem prodE_zero {p : Prod9} (h : prodE p = 0) : ProdOk p := by
  unfold prodE at h
  by_cases c0 : nameB p.f0 = true
  case neg => rw [if_neg c0] at h; omega
  rw [if_pos c0] at h
  by_cases c1 : p.f1 < 0 ∨ p.f1 ≥ 8
  · rw [if_pos c1] at h; omega
  rw [if_neg c1] at h
  by_cases c2 : p.f2 < 1 ∨ p.f2 > 4096
  · rw [if_pos c2] at h; omega
  rw [if_neg c2] at h
  by_cases c3 : p.f3 < 1 ∨ p.f3 > 16777216
  · rw [if_pos c3] at h; omega
  rw [if_neg c3] at h
  unfold prodT at h
  split at h
  · rename_i c
    unfold ProdOk
    exact ⟨by omega, by omega, c.1, c.2.1, c.2.2.1, c.2.2.2.1, c.2.2.2.2.1, c.2.2.2.2.2.1, c.2.2.2.2.2.2⟩
  · omega
def prodPrice (p : Prod9) (n : Int) : Int := if prodE p = 0 then (if n < p.f4 ∨ n > p.f5 then 17 else if Int.tmod n p.f3 = 0 then 0 else 16) else prodE p
theorem prodPrice_f (p : Prod9) (n : Int) : Ev (fun k => product_Price.f k p.f0 p.f1 p.f2 p.f3 p.f4 p.f5 p.f6 n) (prodPrice p n) := by
  unfold product_Price.f prodPrice
  refine Ev_bind (prod_f p) ?_
  refine Ev_if (fun h => ?_) (fun h => by rw [if_neg h]; exact Ev.now _)
  rw [if_pos h]
  have hok := prodE_zero h
  unfold ProdOk at hok
  refine Ev_or (g := fun k b => product_Price.j0 k n b p.f0 p.f1 p.f2 p.f3 p.f4 p.f5 p.f6) (fun c => ?_) (fun c => ?_)
  · rw [if_pos c]; refine Ev_succ ?_; simp only [product_Price.j0, if_true]; exact Ev.now _
  rw [if_neg c]
  refine Ev_succ ?_
  simp only [product_Price.j0, Bool.false_eq_true, if_false, if_neg (show ¬ p.f3 = 0 by omega)]
  refine Ev_if (fun h => ?_) (fun h => ?_)
  · rw [if_pos h]; exact Ev.now _
  · rw [if_neg h]; exact Ev.now _
def clampI (n lo hi : Int) : Int := if lo > hi ∨ n < lo then lo else if n > hi then hi else n
theorem clamp_f (n lo hi : Int) : Ev (fun k => cents_Clamp.f k n lo hi) (clampI n lo hi) := by
  unfold cents_Clamp.f clampI
  refine Ev_or (g := fun k b => cents_Clamp.j0 k n lo hi b) (fun c => ?_) (fun c => ?_)
  · rw [if_pos c]; refine Ev_succ ?_; simp only [cents_Clamp.j0, if_true]; exact Ev.now _
  rw [if_neg c]
  refine Ev_succ ?_
  simp only [cents_Clamp.j0, Bool.false_eq_true, if_false]
  refine Ev_if (fun h => ?_) (fun h => ?_)
  · rw [if_pos h]; exact Ev.now _
  · rw [if_neg h]; exact Ev.now _
theorem clamp_rng {n lo hi : Int} (h : lo ≤ hi) : lo ≤ clampI n lo hi ∧ clampI n lo hi ≤ hi := by unfold clampI; split <;> (try split) <;> omega
theorem clamp_id {n lo hi : Int} (h1 : lo ≤ n) (h2 : n ≤ hi) : clampI n lo hi = n := by unfold clampI; rw [if_neg (by omega), if_neg (by omega)]
theorem md_one {S c m : Int} (hS : -36028797018963968 ≤ S ∧ S ≤ 36028797018963968) (hc : 1 ≤ c ∧ c ≤ 36028797018963968) (hm : 1 ≤ m ∧ m ≤ 5) :
    mulDiv S 1 c m = mdV S 1 c m ∧ (mdV S 1 c m).2 = 0 ∧ szI S * szI 1 < 18446744073709551616 ∧ -c < (mdV S 1 c m).1 * c - S ∧ (mdV S 1 c m).1 * c - S < c ∧ -36028797018963969 ≤ (mdV S 1 c m).1 ∧ (mdV S 1 c m).1 ≤ 36028797018963969 := by
  have f1 : fitsM S = true := (fitsM_iff _).2 (by omega)
  have f2 : fitsM 1 = true := rfl
  have f3 : fitsM c = true := (fitsM_iff _).2 (by omega)
  have hR := mdR_rng f1 f2 f3 (show c ≠ 0 by omega)
  have e1 : szI (1 : Int) = 1 := rfl
  have eQ : szI c = c := by unfold szI; rw [if_neg (by omega)]
  have hz : szI S ≤ 36028797018963968 ∧ 0 ≤ szI S := by unfold szI; split <;> omega
  have eq : mdQ S 1 c = szI S / c := by unfold mdQ; rw [eQ, e1, Int.mul_one]
  have er : mdR S 1 c = szI S % c := by unfold mdR; rw [eQ, e1, Int.mul_one]
  have hd := Int.mul_ediv_add_emod (szI S) c
  rw [e1, Int.mul_one, eQ] at hR
  have hN : mdN S 1 c m ≤ 36028797018963969 ∧ 0 ≤ mdN S 1 c m := by unfold mdN; split <;> omega
  have hV : mdV S 1 c m = (if belowB S 1 c = true then -mdN S 1 c m else mdN S 1 c m, 0) := by unfold mdV; rw [if_neg (by omega)]
  have hNc : mdN S 1 c m = mdQ S 1 c ∨ (0 < mdR S 1 c ∧ mdN S 1 c m = mdQ S 1 c + 1) := by
    unfold mdN; split
    · rename_i h; exact Or.inr ⟨h.1, rfl⟩
    · exact Or.inl rfl
  rw [← eq, ← er, Int.mul_comm] at hd
  have hQ1 : (mdQ S 1 c + 1) * c = mdQ S 1 c * c + c := by rw [Int.add_mul, Int.one_mul]
  refine ⟨?_, by rw [hV], by rw [e1, Int.mul_one]; omega, ?_⟩
  · unfold mulDiv; rw [if_pos ⟨f1, f2, f3, hm.1, hm.2⟩, if_neg (by omega)]
  · rw [hV]
    by_cases cs : S < 0
    · have eb : belowB S 1 c = true := by unfold belowB; rw [decide_eq_true cs, decide_eq_false (show ¬ (1 : Int) < 0 by decide), decide_eq_false (show ¬ c < 0 by omega)]; rfl
      have eS : szI S = -S := by unfold szI; rw [if_pos cs]
      rw [eb, if_pos rfl]
      show -c < -mdN S 1 c m * c - S ∧ -mdN S 1 c m * c - S < c ∧ _
      rw [Int.neg_mul]
      rcases hNc with h | ⟨h1, h⟩
      · rw [h]; omega
      · rw [h, hQ1]; omega
    · have eb : belowB S 1 c = false := by unfold belowB; rw [decide_eq_false cs, decide_eq_false (show ¬ (1 : Int) < 0 by decide), decide_eq_false (show ¬ c < 0 by omega)]; rfl
      have eS : szI S = S := by unfold szI; rw [if_neg cs]
      rw [eb, if_neg (by decide)]
      show -c < mdN S 1 c m * c - S ∧ mdN S 1 c m * c - S < c ∧ _
      rcases hNc with h | ⟨h1, h⟩
      · rw [h]; omega
      · rw [h, hQ1]; omega
def prodRound (p : Prod9) (n m : Int) : Int := clampI (wrap64 ((mdV n 1 p.f3 m).1 * p.f3)) p.f4 p.f5
theorem prodRound_f (p : Prod9) (n m : Int) (h : prodE p = 0) (hn : -16777216 ≤ n ∧ n ≤ 16777216) (hm : 1 ≤ m ∧ m ≤ 5) : Ev (fun k => product_Round.f k p.f0 p.f1 p.f2 p.f3 p.f4 p.f5 p.f6 n m) (prodRound p n m, 0) := by
  have hok := prodE_zero h
  unfold ProdOk at hok
  obtain ⟨m1, m2, m3, _⟩ := md_one (S := n) (c := p.f3) (m := m) (by omega) (by omega) hm
  unfold product_Round.f
  refine Ev_bind (prod_f p) ?_
  simp only [if_pos h, pwithin_f, Option.bind_some, and_iff, if_pos hn, mulDiv_f _ n 1 p.f3 m m3, m1, m2, if_true]
  exact Ev_bind (clamp_f _ _ _) (Ev.now _)
def midE (a b t : Int) : Int × Int := if t < 1 ∨ t > 16777216 then (0, 16) else if -16777216 ≤ a ∧ a ≤ 16777216 ∧ -16777216 ≤ b ∧ b ≤ 16777216 ∧ a ≤ b then (wrap64 ((mdV (a + b) 1 (2 * t) 5).1 * t), 0) else (0, 17)
theorem mprice_f (n : Int) : mark_price.f n = some (decide (-16777216 ≤ n) && decide (n ≤ 16777216)) := by
  unfold mark_price.f
  by_cases h : n ≥ -16777216
  · rw [if_pos h, decide_eq_true (show -16777216 ≤ n from h), Bool.true_and]
  · rw [if_neg h, decide_eq_false (show ¬ -16777216 ≤ n from h), Bool.false_and]
theorem mid_f (a b t : Int) : Ev (fun k => mark_Mid.f k a b t) (midE a b t) := by
  unfold mark_Mid.f midE
  refine Ev_or (g := fun k x => mark_Mid.j0 k a b t x) (fun c => ?_) (fun c => ?_)
  · rw [if_pos c]; refine Ev_succ ?_; simp only [mark_Mid.j0, if_true]; exact Ev.now _
  rw [if_neg c]
  refine Ev_succ ?_
  simp only [mark_Mid.j0, Bool.false_eq_true, if_false, mprice_f, Option.bind_some, and_iff]
  refine Ev_if (fun c1 => Ev_if (fun c2 => Ev_if (fun c3 => by rw [if_neg (by omega)]; exact Ev.now _) fun c3 => ?_) fun c2 => by rw [if_neg (by omega)]; exact Ev.now _) fun c1 => by rw [if_neg (by omega)]; exact Ev.now _
  obtain ⟨m1, m2, m3, _⟩ := md_one (S := a + b) (c := 2 * t) (m := 5) (by omega) (by omega) (by omega)
  rw [if_pos (by omega)]
  simp only [w_id (show -9223372036854775808 ≤ a + b by omega) (by omega), w_id (show -9223372036854775808 ≤ 2 * t by omega) (by omega), mulDiv_f _ (a + b) 1 (2 * t) 5 m3, m1, m2, Option.bind_some]
  exact Ev.now _
theorem lt_of_mulp {x y c : Int} (hc : 1 ≤ c) (h : x * c < y * c) : x < y := by
  by_cases h2 : x < y
  · exact h2
  · have := Int.mul_le_mul_of_nonneg_right (show y ≤ x by omega) (show 0 ≤ c by omega)
    omega
theorem tmod_mul {n t : Int} (h : Int.tmod n t = 0) : ∃ z, n = z * t := by
  obtain ⟨z, hz⟩ := Int.dvd_of_tmod_eq_zero h
  exact ⟨z, by rw [hz, Int.mul_comm]⟩
theorem mul_tmod (z t : Int) : Int.tmod (z * t) t = 0 := Int.mul_tmod_left z t
theorem mid_between {a b t : Int} (ht : 1 ≤ t ∧ t ≤ 16777216) (ha : -16777216 ≤ a ∧ a ≤ 16777216) (hb : -16777216 ≤ b ∧ b ≤ 16777216) (hab : a ≤ b) (h1 : Int.tmod a t = 0) (h2 : Int.tmod b t = 0) :
    ∃ z, midE a b t = (z * t, 0) ∧ a ≤ z * t ∧ z * t ≤ b := by
  obtain ⟨A, rfl⟩ := tmod_mul h1
  obtain ⟨B, rfl⟩ := tmod_mul h2
  obtain ⟨m1, m2, m3, m4, m5, m6, m7⟩ := md_one (S := A * t + B * t) (c := 2 * t) (m := 5) (by omega) (by omega) (by omega)
  generalize hn : (mdV (A * t + B * t) 1 (2 * t) 5).1 = n at m4 m5 m6 m7
  have hAB : A ≤ B := by
    by_cases c : A ≤ B
    · exact c
    · have := Int.mul_lt_mul_of_pos_right (show B < A by omega) (show 0 < t by omega); omega
  have e1 : n * (2 * t) = 2 * n * t := by rw [← Int.mul_assoc, Int.mul_comm n 2]
  have u1 : 2 * n < A + B + 2 := lt_of_mulp ht.1 (by rw [Int.add_mul, Int.add_mul]; omega)
  have u2 : A + B - 2 < 2 * n := lt_of_mulp ht.1 (by rw [Int.sub_mul, Int.add_mul]; omega)
  have v1 := Int.mul_le_mul_of_nonneg_right (show A ≤ n by omega) (show 0 ≤ t by omega)
  have v2 := Int.mul_le_mul_of_nonneg_right (show n ≤ B by omega) (show 0 ≤ t by omega)
  refine ⟨n, ?_, v1, v2⟩
  unfold midE
  rw [if_neg (by omega), if_pos (by omega), hn, w_id (by omega) (by omega)]
end Go.Proofs.Ytocndpddghefhaa.P
end
section
namespace Go.Proofs.Ytocndpddghefhaa.P
set_option linter.unusedVariables false
set_option linter.unusedSimpArgs false
open Go.RowKit Go.Proofs.YtocndpddghefhaaW.PrintWords Go.Proofs.YtocndpddghefhaaW.PrintMore Go.Proofs.Ytocndpddghefhaa.X
abbrev Tick := S49
theorem rdTick (l : List Tick) (i : Nat) (h : i < l.length) : rd_T49 l (i : Int) = l[i] := by simp [rd_T49, h]
def tkGo : Int → List Tick → Int
  | _, [] => 0
  | at_, t :: r => if tickErr at_ t = 0 then tkGo t.f0 r else tickErr at_ t
def tkCheck (l : List Tick) : Int := if 1024 < l.length then 8 else tkGo 0 l
theorem goAll_check : ∀ (l : List Tick) (a : Int), (goAll tickStep l (a, 0)).2 = tkGo a l
  | [], a => rfl
  | t :: r, a => by
    rw [goAll_step, tkGo]
    have e1 : (tickStep t (a, 0)).2 = (tickErr a t == 0) := rfl
    have e2 : (tickStep t (a, 0)).1 = (t.f0, tickErr a t) := rfl
    rw [e1, e2]
    by_cases c : tickErr a t = 0
    · rw [if_pos c, if_pos (beq_iff_eq.2 c), c]
      exact goAll_check r t.f0
    · rw [if_neg c, if_neg (by simpa using c)]
theorem tkCheck_f (l : List Tick) : tape_Check.f l = some (tkCheck l) := by
  unfold tape_Check.f tkCheck
  by_cases c : 1024 < l.length
  · rw [if_pos c, if_pos (show (1024 : Int) < (l.length : Int) by omega)]
  · rw [if_neg c, if_neg (show ¬ (1024 : Int) < (l.length : Int) by omega), goAll_check]
def TkOk (t : Tick) : Prop := 0 ≤ t.f0 ∧ t.f0 ≤ 86399 ∧ 1 ≤ t.f1 ∧ t.f1 ≤ 1048576 ∧ -16777216 ≤ t.f2 ∧ t.f2 ≤ 16777216
theorem tickErr_zero {a : Int} {t : Tick} (h : tickErr a t = 0) : a ≤ t.f0 ∧ t.f0 ≤ 86399 ∧ 1 ≤ t.f1 ∧ t.f1 ≤ 1048576 ∧ -16777216 ≤ t.f2 ∧ t.f2 ≤ 16777216 := by
  unfold tickErr at h
  by_cases c1 : t.f0 < a ∨ 86399 < t.f0
  · rw [if_pos c1] at h; omega
  · rw [if_neg c1] at h
    by_cases c2 : t.f1 < 1 ∨ 1048576 < t.f1
    · rw [if_pos c2] at h; omega
    · rw [if_neg c2] at h
      by_cases c3 : t.f2 < -16777216 ∨ 16777216 < t.f2
      · rw [if_pos c3] at h; omega
      · omega
theorem tickErr_ok {a : Int} {t : Tick} (h : a ≤ t.f0) (h2 : TkOk t) : tickErr a t = 0 := by
  unfold TkOk at h2
  unfold tickErr
  rw [if_neg (by omega), if_neg (by omega), if_neg (by omega)]
theorem tkGo_zero : ∀ (l : List Tick) (a : Int), 0 ≤ a → (tkGo a l = 0 ↔ (∀ t ∈ l, TkOk t) ∧ (∀ t ∈ l, a ≤ t.f0) ∧ l.Pairwise (fun x y => x.f0 ≤ y.f0))
  | [], a, _ => by simp [tkGo]
  | t :: r, a, ha => by
    rw [tkGo]
    constructor
    · intro h
      by_cases c : tickErr a t = 0
      · rw [if_pos c] at h
        have hz := tickErr_zero c
        obtain ⟨h1, h2, h3⟩ := (tkGo_zero r t.f0 (by omega)).1 h
        refine ⟨fun x hx => ?_, fun x hx => ?_, List.pairwise_cons.2 ⟨h2, h3⟩⟩
        · rcases List.mem_cons.1 hx with e | e
          · rw [e]; unfold TkOk; omega
          · exact h1 x e
        · rcases List.mem_cons.1 hx with e | e
          · rw [e]; exact hz.1
          · have := h2 x e; omega
      · rw [if_neg c] at h; exact absurd h c
    · rintro ⟨h1, h2, h3⟩
      obtain ⟨h4, h5⟩ := List.pairwise_cons.1 h3
      have ht := h1 t (by simp)
      rw [if_pos (tickErr_ok (h2 t (by simp)) ht)]
      exact (tkGo_zero r t.f0 ht.1).2 ⟨fun x hx => h1 x (by simp [hx]), h4, h5⟩
theorem tkCheck_zero (l : List Tick) : tkCheck l = 0 ↔ l.length ≤ 1024 ∧ (∀ t ∈ l, TkOk t) ∧ l.Pairwise (fun x y => x.f0 ≤ y.f0) := by
  unfold tkCheck
  by_cases c : 1024 < l.length
  · rw [if_pos c]; exact ⟨fun h => by omega, fun h => by omega⟩
  · rw [if_neg c, tkGo_zero l 0 (Int.le_refl _)]
    exact ⟨fun h => ⟨by omega, h.1, h.2.2⟩, fun h => ⟨h.2.1, fun t ht => (h.2.1 t ht).1, h.2.2⟩⟩
def qtyS : List Tick → Int
  | [] => 0
  | t :: r => t.f1 + qtyS r
def pqS : List Tick → Int
  | [] => 0
  | t :: r => t.f2 * t.f1 + pqS r
theorem mul_tk {t : Tick} (h : TkOk t) : -17592186044416 ≤ t.f2 * t.f1 ∧ t.f2 * t.f1 ≤ 17592186044416 := by
  obtain ⟨_, _, h3, h4, h5, h6⟩ := h
  have e1 := Int.mul_le_mul_of_nonneg_right h6 (show 0 ≤ t.f1 by omega)
  have e2 := Int.mul_le_mul_of_nonneg_right h5 (show 0 ≤ t.f1 by omega)
  omega
theorem qtyS_rng : ∀ (l : List Tick), (∀ t ∈ l, TkOk t) → (l.length : Int) ≤ qtyS l ∧ qtyS l ≤ 1048576 * (l.length : Int)
  | [], _ => by simp [qtyS]
  | t :: r, h => by
    have h1 := h t (by simp)
    unfold TkOk at h1
    have h2 := qtyS_rng r fun x hx => h x (by simp [hx])
    simp only [qtyS, List.length_cons]; omega
theorem pqS_rng : ∀ (l : List Tick), (∀ t ∈ l, TkOk t) → -(17592186044416 * (l.length : Int)) ≤ pqS l ∧ pqS l ≤ 17592186044416 * (l.length : Int)
  | [], _ => by simp [pqS]
  | t :: r, h => by
    have h1 := mul_tk (h t (by simp))
    have h2 := pqS_rng r fun x hx => h x (by simp [hx])
    simp only [pqS, List.length_cons]; omega
theorem vol_go : ∀ (l : List Tick) (s : Int), (∀ t ∈ l, TkOk t) → 0 ≤ s → s + 1048576 * (l.length : Int) ≤ 4611686018427387904 → goAll volStep l s = s + qtyS l
  | [], s, _, _, _ => by simp [goAll, qtyS]
  | t :: r, s, h, h0, h1 => by
    have ht := h t (by simp)
    unfold TkOk at ht
    rw [goAll_step]
    have e1 : (volStep t s).2 = true := rfl
    have e2 : (volStep t s).1 = wrap64 (s + t.f1) := rfl
    simp only [List.length_cons] at h1
    rw [e1, e2, if_pos rfl, w_id (by omega) (by omega), vol_go r _ (fun x hx => h x (by simp [hx])) (by omega) (by omega)]
    simp only [qtyS]; omega
theorem pq_go : ∀ (l : List Tick) (s : Int), (∀ t ∈ l, TkOk t) → -4611686018427387904 ≤ s - 17592186044416 * (l.length : Int) → s + 17592186044416 * (l.length : Int) ≤ 4611686018427387904 → goAll vwapStep l s = s + pqS l
  | [], s, _, _, _ => by simp [goAll, pqS]
  | t :: r, s, h, h0, h1 => by
    have ht := mul_tk (h t (by simp))
    rw [goAll_step]
    have e1 : (vwapStep t s).2 = true := rfl
    have e2 : (vwapStep t s).1 = wrap64 (s + wrap64 (t.f2 * t.f1)) := rfl
    simp only [List.length_cons] at h0 h1
    have e3 : wrap64 (t.f2 * t.f1) = t.f2 * t.f1 := w_id (by omega) (by omega)
    rw [e1, e2, if_pos rfl, e3, w_id (by omega) (by omega), pq_go r _ (fun x hx => h x (by simp [hx])) (by omega) (by omega)]
    simp only [pqS]; omega
def tkVolume (l : List Tick) : Int × Int := if tkCheck l = 0 then (qtyS l, 0) else (0, tkCheck l)
theorem tkVolume_f (l : List Tick) : tape_Volume.f l = some (tkVolume l) := by
  unfold tape_Volume.f tkVolume
  rw [tkCheck_f]
  simp only [Option.bind_some]
  by_cases c : tkCheck l = 0
  · obtain ⟨h1, h2, h3⟩ := (tkCheck_zero l).1 c
    rw [if_pos c, if_pos c, vol_go l 0 h2 (Int.le_refl _) (by omega), Int.zero_add]
  · rw [if_neg c, if_neg c]
def tkVwap (l : List Tick) (step mode : Int) : Int × Int := if tkCheck l = 0 then (if step < 1 ∨ 16777216 < step then (0, 16) else if mode < 1 ∨ 5 < mode then (0, 2) else if l = [] then (0, 11) else (wrap64 ((mulDiv (pqS l) 1 (qtyS l * step) mode).1 * step), 0)) else (0, tkCheck l)
theorem vwap_facts {l : List Tick} {step mode : Int} (hc : tkCheck l = 0) (hs : ¬ (step < 1 ∨ 16777216 < step)) (hm : ¬ (mode < 1 ∨ 5 < mode)) (hl : l ≠ []) :
    1 ≤ qtyS l ∧ qtyS l ≤ 1073741824 ∧ 1 ≤ qtyS l * step ∧ qtyS l * step ≤ 18014398509481984 ∧ -18014398509481984 ≤ pqS l ∧ pqS l ≤ 18014398509481984 ∧ szI (pqS l) * szI 1 = szI (pqS l) ∧ mulDiv (pqS l) 1 (qtyS l * step) mode = mdV (pqS l) 1 (qtyS l * step) mode ∧ mdN (pqS l) 1 (qtyS l * step) mode ≤ 18014398509481985 ∧ 0 ≤ mdN (pqS l) 1 (qtyS l * step) mode ∧ (mdV (pqS l) 1 (qtyS l * step) mode).2 = 0 := by
  obtain ⟨h1, h2, h3⟩ := (tkCheck_zero l).1 hc
  have hp : 0 < l.length := List.length_pos_iff.2 hl
  have hq := qtyS_rng l h2
  have hpq := pqS_rng l h2
  have e1 := Int.mul_le_mul_of_nonneg_left (show step ≤ 16777216 by omega) (show 0 ≤ qtyS l by omega)
  have e2 := Int.mul_le_mul_of_nonneg_left (show 1 ≤ step by omega) (show 0 ≤ qtyS l by omega)
  have e3 : szI (1 : Int) = 1 := rfl
  have e4 : szI (pqS l) * szI 1 = szI (pqS l) := by rw [e3, Int.mul_one]
  have f1 : fitsM (pqS l) = true := (fitsM_iff _).2 (by omega)
  have f2 : fitsM 1 = true := rfl
  have f3 : fitsM (qtyS l * step) = true := (fitsM_iff _).2 (by omega)
  have hR := mdR_rng f1 f2 f3 (show qtyS l * step ≠ 0 by omega)
  have hz : szI (pqS l) ≤ 18014398509481984 := by unfold szI; split <;> omega
  have hN : mdN (pqS l) 1 (qtyS l * step) mode ≤ 18014398509481985 ∧ 0 ≤ mdN (pqS l) 1 (qtyS l * step) mode := by unfold mdN; split <;> omega
  refine ⟨by omega, by omega, by omega, by omega, by omega, by omega, e4, ?_, hN.1, hN.2, ?_⟩
  · unfold mulDiv
    rw [if_pos ⟨f1, f2, f3, by omega, by omega⟩, if_neg (by omega)]
  · unfold mdV
    rw [if_neg (by omega)]
theorem tkVwap_f (k : Nat) (l : List Tick) (step mode : Int) : tape_Vwap.f k l step mode = some (tkVwap l step mode) := by
  unfold tape_Vwap.f tkVwap
  rw [tkVolume_f]
  simp only [Option.bind_some]
  unfold tkVolume
  by_cases hc : tkCheck l = 0
  case neg => rw [if_neg hc, if_neg hc, if_pos hc]
  rw [if_pos hc, if_pos hc, if_neg (by simp)]
  by_cases hs : step < 1 ∨ 16777216 < step
  · rw [if_pos hs]
    by_cases c : step < 1
    · rw [if_pos c]
    · rw [if_neg c, if_pos (hs.resolve_left c)]
  rw [if_neg hs, if_neg (fun h => hs (Or.inl h)), if_neg (fun h => hs (Or.inr h))]
  by_cases hm : mode < 1 ∨ 5 < mode
  · rw [if_pos hm]
    by_cases c : mode < 1
    · rw [if_pos c]
    · rw [if_neg c, if_pos (hm.resolve_left c)]
  rw [if_neg hm, if_neg (fun h => hm (Or.inl h)), if_neg (fun h => hm (Or.inr h))]
  by_cases hl : l = []
  · subst hl; rfl
  obtain ⟨a1, a2, a3, a4, a5, a6, a7, a8, a9, a10, a11⟩ := vwap_facts hc hs hm hl
  obtain ⟨h1, h2, h3⟩ := (tkCheck_zero l).1 hc
  have ew : wrap64 (qtyS l * step) = qtyS l * step := w_id (by omega) (by omega)
  have hz : szI (pqS l) ≤ 18014398509481984 := by unfold szI; split <;> omega
  rw [if_neg hl, if_neg (show ¬ qtyS l = 0 by omega), pq_go l 0 h2 (by omega) (by omega), Int.zero_add, ew, mulDiv_f _ _ _ _ _ (by omega)]
  simp only [Option.bind_some]
  rw [a8, if_neg (by rw [a11]; simp)]
end Go.Proofs.Ytocndpddghefhaa.P
end
section
namespace Go.Proofs.Ytocndpddghefhaa.P
set_option linter.unusedVariables false
set_option linter.unusedSimpArgs false
open Go.RowKit Go.Proofs.YtocndpddghefhaaW.PrintWords Go.Proofs.YtocndpddghefhaaW.PrintMore Go.Proofs.Ytocndpddghefhaa.X
abbrev Quote := S36
def winP (a b : Int) (t : Tick) : Bool := decide (a ≤ t.f0 ∧ t.f0 ≤ b)
def winL (l : List Tick) (a b : Int) : List Tick := l.filter (winP a b)
theorem win_go (a b : Int) : ∀ (l acc : List Tick), goAll (winStep a b) l acc = acc ++ winL l a b
  | [], acc => by simp [goAll, winL]
  | t :: r, acc => by
    rw [goAll_step]
    have e1 : (winStep a b t acc).2 = true := rfl
    have e2 : (winStep a b t acc).1 = if a ≤ t.f0 ∧ t.f0 ≤ b then acc ++ [t] else acc := rfl
    rw [e1, e2, if_pos rfl, win_go a b r]
    unfold winL
    by_cases c : a ≤ t.f0 ∧ t.f0 ≤ b
    · rw [if_pos c, List.filter_cons_of_pos (by unfold winP; exact decide_eq_true c), List.append_assoc]; rfl
    · rw [if_neg c, List.filter_cons_of_neg (by unfold winP; rw [decide_eq_false c]; decide)]
theorem window_f (l : List Tick) (a b : Int) (hl : l.length ≤ 1024) : tape_Window.f l a b = some (winL l a b) := by
  unfold tape_Window.f
  rw [if_pos (by omega), win_go, List.nil_append]
theorem winL_ok {l : List Tick} (a b : Int) (h : tkCheck l = 0) : tkCheck (winL l a b) = 0 := by
  obtain ⟨h1, h2, h3⟩ := (tkCheck_zero l).1 h
  refine (tkCheck_zero _).2 ⟨Nat.le_trans (List.length_filter_le _ _) h1, fun t ht => h2 t (List.mem_filter.1 ht).1, h3.sublist List.filter_sublist⟩
def priceL (q : Quote) : List Int := q.f0.map (fun t => t.f2) ++ ((if q.f4 = 0 then [] else [q.f4]) ++ ((if q.f5 = 0 then [] else [q.f5]) ++ [q.f6]))
def prGo (p : Prod9) : List Int → Int
  | [] => 0
  | n :: r => if prodPrice p n = 0 then prGo p r else prodPrice p n
def tailE (q : Quote) : Int := if (q.f4 ≠ 0 ∧ q.f5 ≠ 0 ∧ q.f4 > q.f5) ∨ ¬ (-16777216 ≤ q.f7 ∧ q.f7 ≤ 16777216) then 17 else 0
def restE (p : Prod9) (q : Quote) : Int := if q.f3 < 1 ∨ q.f3 > 1048576 then 18 else if prGo p (priceL q) = 0 then tailE q else prGo p (priceL q)
def timesBad (q : Quote) : Prop := q.f1 < 0 ∨ q.f1 > 86399 ∨ q.f2 < 0 ∨ q.f2 > 86399 ∨ q.f1 > q.f2
instance (q : Quote) : Decidable (timesBad q) := by unfold timesBad; infer_instance
def markE (p : Prod9) (q : Quote) : Int := if prodE p = 0 then (if tkCheck q.f0 = 0 then (if timesBad q then 2 else restE p q) else tkCheck q.f0) else prodE p
theorem pricesL0 (q : Quote) (l : List Tick) (hl : l.length ≤ 1024) (r : List Int) : ∀ (d i : Nat) (acc : List Int), i + d = l.length → acc = (l.take i).map (fun t => t.f2) →
    Ev (fun k => (some [q.f4, q.f5]).bind fun y => mark_prices.l1 k (l.map fun t => t.f2) y (y.length : Int) 0 q.f0 q.f1 q.f2 q.f3 q.f4 q.f5 q.f6 q.f7) r → Ev (fun k => mark_prices.l0 k acc l l.length i q.f0 q.f1 q.f2 q.f3 q.f4 q.f5 q.f6 q.f7) r
  | 0, i, acc, hd, ha, h => by
    have e : acc = l.map (fun t => t.f2) := by rw [ha, List.take_of_length_le (by omega)]
    refine Ev_succ ?_
    simp only [mark_prices.l0, if_neg (show ¬ ((i : Int) < (l.length : Int)) by omega), e]
    exact h
  | d + 1, i, acc, hd, ha, h => by
    have hi : i < l.length := by omega
    have hal : acc.length = i := by rw [ha, List.length_map, List.length_take]; omega
    refine Ev_succ ?_
    simp only [mark_prices.l0, if_pos (show (i : Int) < (l.length : Int) by omega), if_pos (show 0 ≤ (i : Int) by omega), if_pos (show acc.length < 17592186044416 by omega), rdTick l i hi, w_succ hi (show l.length ≤ 9223372036854775807 by omega)]
    exact pricesL0 q l hl r d (i + 1) _ (by omega) (by rw [ha, List.take_succ_eq_append_getElem hi, List.map_append]; rfl) h
theorem prices_f (q : Quote) (hl : q.f0.length ≤ 1024) : Ev (fun k => mark_prices.f k q.f0 q.f1 q.f2 q.f3 q.f4 q.f5 q.f6 q.f7) (priceL q) := by
  unfold mark_prices.f
  refine pricesL0 q q.f0 hl _ q.f0.length 0 [] (by omega) (by simp) ?_
  simp only [Option.bind_some]
  have hm : (q.f0.map fun t => t.f2).length ≤ 1024 := by rw [List.length_map]; exact hl
  have e0 : rd [q.f4, q.f5] 0 = q.f4 := rfl
  have e1 : rd [q.f4, q.f5] 1 = q.f5 := rfl
  have w0 : wrap64 (0 + 1) = 1 := w_id (by omega) (by omega)
  have w1 : wrap64 (1 + 1) = 2 := w_id (by omega) (by omega)
  have hlen : (([q.f4, q.f5] : List Int).length : Int) = 2 := rfl
  have h2 : ∀ acc : List Int, acc.length ≤ 1026 → Ev (fun k => mark_prices.l1 k acc [q.f4, q.f5] 2 2 q.f0 q.f1 q.f2 q.f3 q.f4 q.f5 q.f6 q.f7) (acc ++ [q.f6]) := by
    intro acc h
    refine Ev_succ ?_
    simp only [mark_prices.l1, if_neg (show ¬ (2 : Int) < 2 by omega), if_pos (show acc.length < 17592186044416 by omega)]
    exact Ev.now _
  have h1 : ∀ acc : List Int, acc.length ≤ 1025 → Ev (fun k => mark_prices.l1 k acc [q.f4, q.f5] 2 1 q.f0 q.f1 q.f2 q.f3 q.f4 q.f5 q.f6 q.f7) (acc ++ ((if q.f5 = 0 then [] else [q.f5]) ++ [q.f6])) := by
    intro acc h
    refine Ev_succ ?_
    simp only [mark_prices.l1, if_pos (show (1 : Int) < 2 by omega), if_pos (show (0 : Int) ≤ 1 by omega), hlen, e1, w1, if_pos (show acc.length < 17592186044416 by omega)]
    refine Ev_if (fun c => ?_) (fun c => ?_)
    · rw [if_pos c, List.nil_append]; exact h2 acc (by omega)
    · rw [if_neg c, ← List.append_assoc]; exact h2 _ (by simp; omega)
  rw [hlen]
  refine Ev_succ ?_
  simp only [mark_prices.l1, if_pos (show (0 : Int) < 2 by omega), if_pos (show (0 : Int) ≤ 0 by omega), hlen, e0, w0, if_pos (show (q.f0.map fun t => t.f2).length < 17592186044416 by omega)]
  unfold priceL
  refine Ev_if (fun c => ?_) (fun c => ?_)
  · rw [if_pos c, List.nil_append]; exact h1 _ (by rw [List.length_map]; omega)
  · rw [if_neg c, ← List.append_assoc]; exact h1 _ (by rw [List.length_append, List.length_map]; simp only [List.length_cons, List.length_nil]; omega)
theorem tail_eq (q : Quote) : (if q.f4 = 0 then (if (decide (-16777216 ≤ q.f7) && decide (q.f7 ≤ 16777216)) = true then (0 : Int) else 17) else if q.f5 = 0 then (if (decide (-16777216 ≤ q.f7) && decide (q.f7 ≤ 16777216)) = true then 0 else 17) else if q.f4 > q.f5 then 17 else (if (decide (-16777216 ≤ q.f7) && decide (q.f7 ≤ 16777216)) = true then 0 else 17)) = tailE q := by
  unfold tailE
  simp only [and_iff]
  by_cases c7 : -16777216 ≤ q.f7 ∧ q.f7 ≤ 16777216
  · simp only [if_pos c7]
    by_cases c4 : q.f4 = 0
    · rw [if_pos c4, if_neg (fun h => h.elim (fun h => h.1 c4) (fun h => h c7))]
    · rw [if_neg c4]
      by_cases c5 : q.f5 = 0
      · rw [if_pos c5, if_neg (fun h => h.elim (fun h => h.2.1 c5) (fun h => h c7))]
      · rw [if_neg c5]
        by_cases c6 : q.f4 > q.f5
        · rw [if_pos c6, if_pos (Or.inl ⟨c4, c5, c6⟩)]
        · rw [if_neg c6, if_neg (fun h => h.elim (fun h => c6 h.2.2) (fun h => h c7))]
  · simp only [if_neg c7]
    rw [if_pos (Or.inr c7)]
    split
    · rfl
    · split
      · rfl
      · split <;> rfl
theorem chkLoop (p : Prod9) (q : Quote) (L : List Int) (hL : L.length ≤ 4096) : ∀ (d i : Nat), i + d = L.length → Ev (fun k => mark_Check.l0 k L L.length i p.f0 p.f1 p.f2 p.f3 p.f4 p.f5 p.f6 q.f0 q.f1 q.f2 q.f3 q.f4 q.f5 q.f6 q.f7) (if prGo p (L.drop i) = 0 then tailE q else prGo p (L.drop i))
  | 0, i, hd => by
    rw [List.drop_of_length_le (by omega)]
    refine Ev_succ ?_
    simp only [mark_Check.l0, if_neg (show ¬ ((i : Int) < (L.length : Int)) by omega), mprice_f, Option.bind_some]
    have e : (if prGo p [] = 0 then tailE q else prGo p []) = tailE q := if_pos rfl
    rw [e, ← tail_eq q]
    refine Ev_if (fun c => ?_) (fun c => ?_)
    · rw [if_pos c]
      refine Ev_if (fun d => ?_) (fun d => ?_)
      · rw [if_pos d]; exact Ev.now _
      · rw [if_neg d]; exact Ev.now _
    · rw [if_neg c]
      refine Ev_if (fun c => ?_) (fun c => ?_)
      · rw [if_pos c]
        refine Ev_if (fun d => ?_) (fun d => ?_)
        · rw [if_pos d]; exact Ev.now _
        · rw [if_neg d]; exact Ev.now _
      · rw [if_neg c]
        refine Ev_if (fun c => ?_) (fun c => ?_)
        · rw [if_pos c]; exact Ev.now _
        · rw [if_neg c]
          refine Ev_if (fun d => ?_) (fun d => ?_)
          · rw [if_pos d]; exact Ev.now _
          · rw [if_neg d]; exact Ev.now _
  | d + 1, i, hd => by
    have hi : i < L.length := by omega
    rw [drop_cons L i hi, prGo]
    refine Ev_succ ?_
    simp only [mark_Check.l0, if_pos (show (i : Int) < (L.length : Int) by omega), if_pos (show 0 ≤ (i : Int) by omega), rd_nat L i hi, w_succ hi (show L.length ≤ 9223372036854775807 by omega)]
    refine Ev_bind (prodPrice_f p L[i]) ?_
    refine Ev_if (fun c => ?_) (fun c => ?_)
    · rw [if_pos c]; exact chkLoop p q L hL d (i + 1) (by omega)
    · rw [if_neg c, if_neg c]; exact Ev.now _
theorem priceL_len (q : Quote) (hl : q.f0.length ≤ 1024) : (priceL q).length ≤ 1027 := by
  unfold priceL
  simp only [List.length_append, List.length_map, List.length_cons, List.length_nil]
  split <;> split <;> simp <;> omega
theorem mark_f (p : Prod9) (q : Quote) : Ev (fun k => mark_Check.f k p.f0 p.f1 p.f2 p.f3 p.f4 p.f5 p.f6 q.f0 q.f1 q.f2 q.f3 q.f4 q.f5 q.f6 q.f7) (markE p q) := by
  unfold mark_Check.f markE
  refine Ev_bind (prod_f p) ?_
  refine Ev_if (fun hp => ?_) (fun hp => by rw [if_neg hp]; exact Ev.now _)
  rw [if_pos hp]
  simp only [tkCheck_f, Option.bind_some]
  refine Ev_if (fun ht => ?_) (fun ht => by rw [if_neg ht]; exact Ev.now _)
  rw [if_pos ht]
  have hl := ((tkCheck_zero q.f0).1 ht).1
  have hbad : timesBad q → Ev (fun k => mark_Check.j0 k true p.f0 p.f1 p.f2 p.f3 p.f4 p.f5 p.f6 q.f0 q.f1 q.f2 q.f3 q.f4 q.f5 q.f6 q.f7) (if timesBad q then 2 else restE p q) := by
    intro c
    rw [if_pos c]
    refine Ev_succ ?_
    simp only [mark_Check.j0, if_true]
    exact Ev.now _
  have hgood : ¬ timesBad q → Ev (fun k => mark_Check.j0 k false p.f0 p.f1 p.f2 p.f3 p.f4 p.f5 p.f6 q.f0 q.f1 q.f2 q.f3 q.f4 q.f5 q.f6 q.f7) (if timesBad q then 2 else restE p q) := by
    intro c
    rw [if_neg c]
    refine Ev_succ ?_
    unfold restE
    simp only [mark_Check.j0, Bool.false_eq_true, if_false]
    refine Ev_if (fun c1 => by rw [if_pos (Or.inl c1)]; exact Ev.now _) (fun c1 => Ev_if (fun c2 => by rw [if_pos (Or.inr c2)]; exact Ev.now _) fun c2 => ?_)
    have hn : ¬ (q.f3 < 1 ∨ q.f3 > 1048576) := fun h => h.elim c1 c2
    rw [if_neg hn]
    refine Ev_bind (prices_f q hl) ?_
    have hL := priceL_len q hl
    have := chkLoop p q (priceL q) (by omega) (priceL q).length 0 (by omega)
    rw [List.drop_zero] at this
    exact this
  refine Ev_if (fun c => hbad (Or.inl c)) (fun c1 => Ev_if (fun c => hbad (Or.inr (Or.inl c))) fun c2 => Ev_if (fun c => hbad (Or.inr (Or.inr (Or.inl c)))) fun c3 => Ev_if (fun c => hbad (Or.inr (Or.inr (Or.inr (Or.inl c))))) fun c4 => ?_)
  by_cases c5 : q.f1 > q.f2
  · rw [decide_eq_true c5]; exact hbad (Or.inr (Or.inr (Or.inr (Or.inr c5))))
  · rw [decide_eq_false c5]
    refine hgood ?_
    unfold timesBad
    omega
end Go.Proofs.Ytocndpddghefhaa.P
end
section
namespace Go.Proofs.Ytocndpddghefhaa.P
set_option linter.unusedVariables false
set_option linter.unusedSimpArgs false
open Go.RowKit Go.Proofs.YtocndpddghefhaaW.PrintWords Go.Proofs.YtocndpddghefhaaW.PrintMore Go.Proofs.Ytocndpddghefhaa.X
def adj4 (q : Quote) (n : Int) : Int := if q.f4 = 0 then n else mx n q.f4
def adjP (q : Quote) (n : Int) : Int := if q.f5 = 0 then adj4 q n else mn (adj4 q n) q.f5
def winQ (q : Quote) : List Tick := winL q.f0 q.f1 q.f2
def lastMade (p : Prod9) (q : Quote) : Int × Int := if h : 0 < q.f0.length then (adjP q (q.f0[q.f0.length - 1]'(by omega)).f2, 3) else (prodRound p (clampI (wrap64 (q.f6 + q.f7)) (-16777216) 16777216) 5, 4)
def madeE (p : Prod9) (q : Quote) : Int × Int := if q.f3 ≤ qtyS (winQ q) then ((tkVwap (winQ q) p.f3 5).1, 1) else if q.f4 ≠ 0 ∧ q.f5 ≠ 0 then ((midE q.f4 q.f5 p.f3).1, 2) else lastMade p q
def markP (p : Prod9) (q : Quote) : Int × Int × Int := if markE p q = 0 then (clampI (madeE p q).1 p.f4 p.f5, (madeE p q).2, 0) else (0, 0, markE p q)
theorem prGo_zero (p : Prod9) : ∀ (L : List Int), prGo p L = 0 → ∀ n ∈ L, prodPrice p n = 0
  | [], _, n, hn => by simp at hn
  | x :: r, h, n, hn => by
    rw [prGo] at h
    by_cases c : prodPrice p x = 0
    · rw [if_pos c] at h
      rcases List.mem_cons.1 hn with e | e
      · rw [e]; exact c
      · exact prGo_zero p r h n e
    · rw [if_neg c] at h; exact absurd h c
theorem prodPrice_zero {p : Prod9} {n : Int} (hp : prodE p = 0) (h : prodPrice p n = 0) : p.f4 ≤ n ∧ n ≤ p.f5 ∧ Int.tmod n p.f3 = 0 := by
  unfold prodPrice at h
  rw [if_pos hp] at h
  by_cases c : n < p.f4 ∨ n > p.f5
  · rw [if_pos c] at h; omega
  · rw [if_neg c] at h
    by_cases c2 : Int.tmod n p.f3 = 0
    · exact ⟨by omega, by omega, c2⟩
    · rw [if_neg c2] at h; omega
def Valid (p : Prod9) (n : Int) : Prop := p.f4 ≤ n ∧ n ≤ p.f5 ∧ Int.tmod n p.f3 = 0
structure MarkOk (p : Prod9) (q : Quote) : Prop where
  prod : prodE p = 0
  ok : ProdOk p
  ticks : tkCheck q.f0 = 0
  least : 1 ≤ q.f3 ∧ q.f3 ≤ 1048576
  tick : ∀ t ∈ q.f0, Valid p t.f2
  bid : q.f4 ≠ 0 → Valid p q.f4
  ask : q.f5 ≠ 0 → Valid p q.f5
  order : q.f4 ≠ 0 → q.f5 ≠ 0 → q.f4 ≤ q.f5
  before : Valid p q.f6
  move : -16777216 ≤ q.f7 ∧ q.f7 ≤ 16777216
theorem markE_zero {p : Prod9} {q : Quote} (h : markE p q = 0) : MarkOk p q := by
  unfold markE at h
  by_cases c0 : prodE p = 0
  case neg => rw [if_neg c0] at h; exact absurd h c0
  rw [if_pos c0] at h
  by_cases c1 : tkCheck q.f0 = 0
  case neg => rw [if_neg c1] at h; exact absurd h c1
  rw [if_pos c1] at h
  by_cases c2 : timesBad q
  · rw [if_pos c2] at h; omega
  rw [if_neg c2] at h
  unfold restE at h
  by_cases c3 : q.f3 < 1 ∨ q.f3 > 1048576
  · rw [if_pos c3] at h; omega
  rw [if_neg c3] at h
  by_cases c4 : prGo p (priceL q) = 0
  case neg => rw [if_neg c4] at h; exact absurd h c4
  rw [if_pos c4] at h
  have hz := fun n hn => prodPrice_zero c0 (prGo_zero p _ c4 n hn)
  unfold tailE at h
  by_cases c5 : (q.f4 ≠ 0 ∧ q.f5 ≠ 0 ∧ q.f4 > q.f5) ∨ ¬ (-16777216 ≤ q.f7 ∧ q.f7 ≤ 16777216)
  · rw [if_pos c5] at h; omega
  refine ⟨c0, prodE_zero c0, c1, by omega, fun t ht => hz _ ?_, fun hn => hz _ ?_, fun hn => hz _ ?_, fun h4 h5 => ?_, hz _ ?_, ?_⟩
  · unfold priceL; exact List.mem_append_left _ (List.mem_map_of_mem ht)
  · unfold priceL; rw [if_neg hn]; simp
  · unfold priceL; rw [if_neg hn]; simp
  · exact Int.not_lt.1 (fun hlt => c5 (Or.inl ⟨h4, h5, hlt⟩))
  · unfold priceL; simp
  · exact Decidable.not_not.1 (fun hn => c5 (Or.inr hn))
theorem last_f (l : List Tick) (hl : l.length ≤ 1024) : tape_Last.f l = some (if h : 0 < l.length then ((l[l.length - 1]'(by omega)).f0, (l[l.length - 1]'(by omega)).f1, (l[l.length - 1]'(by omega)).f2, true) else (0, 0, 0, false)) := by
  unfold tape_Last.f
  by_cases c : 0 < l.length
  · rw [if_neg (by omega), w_pred c (by omega), if_pos (by omega), if_pos (by omega), dif_pos c, rdTick l (l.length - 1) (by omega)]
  · rw [if_pos (by omega), dif_neg c]
theorem clamp6 (q : Quote) : -16777216 ≤ clampI (wrap64 (q.f6 + q.f7)) (-16777216) 16777216 ∧ clampI (wrap64 (q.f6 + q.f7)) (-16777216) 16777216 ≤ 16777216 := clamp_rng (by omega)
section
variable {p : Prod9} {q : Quote} (ok : MarkOk p q)
include ok
theorem win_facts : tkCheck (winQ q) = 0 ∧ (q.f3 ≤ qtyS (winQ q) → winQ q ≠ [] ∧ (tkVwap (winQ q) p.f3 5).2 = 0) := by
  have hw : tkCheck (winQ q) = 0 := winL_ok _ _ ok.ticks
  refine ⟨hw, fun h => ?_⟩
  have hne : winQ q ≠ [] := fun e => by rw [e] at h; have := ok.least; simp only [qtyS] at h; omega
  have hok := ok.ok
  unfold ProdOk at hok
  refine ⟨hne, ?_⟩
  unfold tkVwap
  rw [if_pos hw, if_neg (by omega), if_neg (by decide), if_neg hne]
theorem mid_ok (h4 : q.f4 ≠ 0) (h5 : q.f5 ≠ 0) : ∃ z, midE q.f4 q.f5 p.f3 = (z * p.f3, 0) ∧ q.f4 ≤ z * p.f3 ∧ z * p.f3 ≤ q.f5 := by
  have hok := ok.ok
  unfold ProdOk at hok
  obtain ⟨a1, a2, a3⟩ := ok.bid h4
  obtain ⟨b1, b2, b3⟩ := ok.ask h5
  exact mid_between (by omega) (by omega) (by omega) (ok.order h4 h5) a3 b3
theorem price_rules : Ev (fun k => priceGo k p.f4 p.f5 1 [rule1F k (winQ q) p.f3 q.f3, rule2F k q.f4 q.f5 p.f3, rule3F q.f0 q.f4 q.f5, rule4F k p.f0 p.f1 p.f2 p.f3 p.f4 p.f5 p.f6 q.f6 q.f7]) (clampI (madeE p q).1 p.f4 p.f5, (madeE p q).2, 0) := by
  obtain ⟨hw, hw2⟩ := win_facts ok
  have hfin : ∀ n i : Int, Ev (fun k => (cents_Clamp.f k n p.f4 p.f5).bind fun m => some (m, i, (0 : Int))) (clampI n p.f4 p.f5, i, 0) := fun n i => Ev_bind (clamp_f n p.f4 p.f5) (Ev.now _)
  have h1 : Ev (fun k => rule1F k (winQ q) p.f3 q.f3) (if q.f3 ≤ qtyS (winQ q) then ((tkVwap (winQ q) p.f3 5).1, true) else (0, false)) := by
    unfold rule1F
    simp only [tkVolume_f, tkVwap_f, Option.bind_some]
    unfold tkVolume
    simp only [if_pos hw]
    refine Ev_if (fun c => ?_) (fun c => ?_)
    · rw [if_neg (by omega)]; exact Ev.now _
    · obtain ⟨_, h2⟩ := hw2 (by omega)
      rw [if_pos (by omega), h2]; exact Ev.now _
  have h2 : Ev (fun k => rule2F k q.f4 q.f5 p.f3) ((midE q.f4 q.f5 p.f3).1, q.f4 != 0 && (q.f5 != 0 && (midE q.f4 q.f5 p.f3).2 == 0)) := by
    unfold rule2F
    exact Ev_bind (mid_f _ _ _) (Ev.now _)
  have hl := ((tkCheck_zero q.f0).1 ok.ticks).1
  have h4 : Ev (fun k => rule4F k p.f0 p.f1 p.f2 p.f3 p.f4 p.f5 p.f6 q.f6 q.f7) (prodRound p (clampI (wrap64 (q.f6 + q.f7)) (-16777216) 16777216) 5, true) := by
    unfold rule4F
    refine Ev_bind (clamp_f _ _ _) ?_
    refine Ev_bind (prodRound_f p _ 5 ok.prod (clamp6 q) (by omega)) ?_
    exact Ev.now _
  simp only [priceGo]
  refine Ev_bind h1 ?_
  unfold madeE
  by_cases c1 : q.f3 ≤ qtyS (winQ q)
  · simp only [if_pos c1, if_true]
    exact hfin _ 1
  simp only [if_neg c1, Bool.false_eq_true, if_false]
  refine Ev_bind h2 ?_
  by_cases c2 : q.f4 ≠ 0 ∧ q.f5 ≠ 0
  · obtain ⟨z, e, _, _⟩ := mid_ok ok c2.1 c2.2
    have eb : (q.f4 != 0 && (q.f5 != 0 && (midE q.f4 q.f5 p.f3).2 == 0)) = true := by rw [e]; simp [c2.1, c2.2]
    simp only [eb, if_true, if_pos c2]
    exact hfin _ 2
  have eb : (q.f4 != 0 && (q.f5 != 0 && (midE q.f4 q.f5 p.f3).2 == 0)) = false := by
    by_cases c4 : q.f4 = 0
    · rw [bne_eq_false_iff_eq.2 c4]; rfl
    · have c5 : q.f5 = 0 := Decidable.not_not.1 (fun h => c2 ⟨c4, h⟩)
      rw [bne_eq_false_iff_eq.2 c5]; simp
  simp only [eb, Bool.false_eq_true, if_false, if_neg c2]
  unfold lastMade
  by_cases c3 : 0 < q.f0.length
  · have e3 : rule3F q.f0 q.f4 q.f5 = some (adjP q (q.f0[q.f0.length - 1]'(by omega)).f2, true) := by
      unfold rule3F
      rw [last_f q.f0 hl, dif_pos c3]
      rfl
    simp only [e3, Option.bind_some, if_true, dif_pos c3]
    exact hfin _ 3
  · have e3 : ∃ x, rule3F q.f0 q.f4 q.f5 = some (x, false) := by
      unfold rule3F
      rw [last_f q.f0 hl, dif_neg c3]
      exact ⟨_, rfl⟩
    obtain ⟨x, e3⟩ := e3
    simp only [e3, Option.bind_some, Bool.false_eq_true, if_false, dif_neg c3]
    refine Ev_bind h4 ?_
    simp only [if_true]
    exact hfin _ 4
end
theorem markP_f (p : Prod9) (q : Quote) : Ev (fun k => mark_Price.f k p.f0 p.f1 p.f2 p.f3 p.f4 p.f5 p.f6 q.f0 q.f1 q.f2 q.f3 q.f4 q.f5 q.f6 q.f7) (markP p q) := by
  unfold mark_Price.f markP
  refine Ev_bind (mark_f p q) ?_
  by_cases h : markE p q = 0
  · have ok := markE_zero h
    have hl := ((tkCheck_zero q.f0).1 ok.ticks).1
    simp only [if_pos h, if_neg (show ¬ markE p q ≠ 0 from fun x => x h), window_f q.f0 q.f1 q.f2 hl, Option.bind_some]
    exact price_rules ok
  · simp only [if_neg h, if_pos (show markE p q ≠ 0 from h)]
    exact Ev.now _
end Go.Proofs.Ytocndpddghefhaa.P
end
section
namespace Go.Proofs.Ytocndpddghefhaa.P
open Go.RowKit Go.Proofs.YtocndpddghefhaaW.PrintWords Go.Proofs.YtocndpddghefhaaW.PrintMore Go.Proofs.Ytocndpddghefhaa.X
set_option maxRecDepth 100000 in
theorem goes18 : Ev (fun k => contangolaw18_goes.f k) true := Ev.of (k := 70) (contangolaw18_goes.mono) (by decide +kernel)
end Go.Proofs.Ytocndpddghefhaa.P
end
section
namespace Go.Proofs.Ytocndpddghefhaa.Pure
set_option linter.unusedVariables false
set_option linter.unusedSimpArgs false
open Go.RowKit Go.Proofs.YtocndpddghefhaaW.PrintWords Go.Proofs.YtocndpddghefhaaW.PrintMore Go.Proofs.Ytocndpddghefhaa.X Go.Proofs.Ytocndpddghefhaa.P
def mmFold : List Tick → Int × Int → Int × Int
  | [], s => s
  | t :: r, s => mmFold r (mn s.1 t.f2, mx s.2 t.f2)
theorem mm_facts (m : Int) : ∀ (l : List Tick) (s : Int × Int), Int.tmod s.1 m = 0 → Int.tmod s.2 m = 0 → (∀ t ∈ l, Int.tmod t.f2 m = 0) →
    (mmFold l s).1 ≤ s.1 ∧ s.2 ≤ (mmFold l s).2 ∧ (∀ t ∈ l, (mmFold l s).1 ≤ t.f2 ∧ t.f2 ≤ (mmFold l s).2) ∧ Int.tmod (mmFold l s).1 m = 0 ∧ Int.tmod (mmFold l s).2 m = 0
  | [], s, h1, h2, _ => ⟨Int.le_refl _, Int.le_refl _, fun t ht => by simp at ht, h1, h2⟩
  | t :: r, s, h1, h2, h3 => by
    have ht := h3 t (by simp)
    have n1 : mn s.1 t.f2 ≤ s.1 ∧ mn s.1 t.f2 ≤ t.f2 ∧ Int.tmod (mn s.1 t.f2) m = 0 := by
      unfold mn; split
      · exact ⟨by omega, by omega, ht⟩
      · exact ⟨by omega, by omega, h1⟩
    have n2 : s.2 ≤ mx s.2 t.f2 ∧ t.f2 ≤ mx s.2 t.f2 ∧ Int.tmod (mx s.2 t.f2) m = 0 := by
      unfold mx; split
      · exact ⟨by omega, by omega, ht⟩
      · exact ⟨by omega, by omega, h2⟩
    obtain ⟨a1, a2, a3, a4, a5⟩ := mm_facts m r (mn s.1 t.f2, mx s.2 t.f2) n1.2.2 n2.2.2 fun x hx => h3 x (by simp [hx])
    show (mmFold r (mn s.1 t.f2, mx s.2 t.f2)).1 ≤ s.1 ∧ _
    dsimp only at a1 a2
    refine ⟨by omega, by show s.2 ≤ (mmFold r (mn s.1 t.f2, mx s.2 t.f2)).2; omega, fun x hx => ?_, a4, a5⟩
    rcases List.mem_cons.1 hx with e | e
    · rw [e]; exact ⟨by show (mmFold r (mn s.1 t.f2, mx s.2 t.f2)).1 ≤ t.f2; omega, by show t.f2 ≤ (mmFold r (mn s.1 t.f2, mx s.2 t.f2)).2; omega⟩
    · exact a3 x e
theorem sum_lowM (x : Int) : ∀ (l : List Tick), (∀ t ∈ l, TkOk t ∧ x ≤ t.f2) → x * qtyS l ≤ pqS l
  | [], _ => by simp [qtyS, pqS]
  | t :: r, h => by
    obtain ⟨h1, h2⟩ := h t (by simp)
    unfold TkOk at h1
    have ih := sum_lowM x r fun y hy => h y (by simp [hy])
    have e := Int.mul_le_mul_of_nonneg_right h2 (show 0 ≤ t.f1 by omega)
    simp only [qtyS, pqS, Int.mul_add]; omega
theorem sum_highM (x : Int) : ∀ (l : List Tick), (∀ t ∈ l, TkOk t ∧ t.f2 ≤ x) → pqS l ≤ x * qtyS l
  | [], _ => by simp [qtyS, pqS]
  | t :: r, h => by
    obtain ⟨h1, h2⟩ := h t (by simp)
    unfold TkOk at h1
    have ih := sum_highM x r fun y hy => h y (by simp [hy])
    have e := Int.mul_le_mul_of_nonneg_right h2 (show 0 ≤ t.f1 by omega)
    simp only [qtyS, pqS, Int.mul_add]; omega
theorem avg_between {p : Prod9} {q : Quote} (ok : MarkOk p q) (h : q.f3 ≤ qtyS (winQ q)) {x y : Int} (hx : Int.tmod x p.f3 = 0) (hy : Int.tmod y p.f3 = 0) (hb : ∀ t ∈ winQ q, x ≤ t.f2 ∧ t.f2 ≤ y) :
    ∃ z, (tkVwap (winQ q) p.f3 5).1 = z * p.f3 ∧ x ≤ z * p.f3 ∧ z * p.f3 ≤ y := by
  obtain ⟨hw, hw2⟩ := win_facts ok
  obtain ⟨hne, _⟩ := hw2 h
  have hok := ok.ok
  unfold ProdOk at hok
  obtain ⟨a1, a2, a3, a4, a5, a6, a7, a8, _⟩ := vwap_facts (step := p.f3) (mode := 5) hw (by omega) (by decide) hne
  obtain ⟨w1, w2, w3⟩ := (tkCheck_zero _).1 hw
  have h1 := sum_lowM x (winQ q) fun t ht => ⟨w2 t ht, (hb t ht).1⟩
  have h2 := sum_highM y (winQ q) fun t ht => ⟨w2 t ht, (hb t ht).2⟩
  obtain ⟨m1, m2, m3, m4, m5, m6, m7⟩ := md_one (S := pqS (winQ q)) (c := qtyS (winQ q) * p.f3) (m := 5) (by omega) (by omega) (by omega)
  generalize hn : (mdV (pqS (winQ q)) 1 (qtyS (winQ q) * p.f3) 5).1 = n at m4 m5 m6 m7
  obtain ⟨X, rfl⟩ := tmod_mul hx
  obtain ⟨Y, rfl⟩ := tmod_mul hy
  generalize hQ : qtyS (winQ q) = Q at *
  have e1 : X * p.f3 * Q = X * (Q * p.f3) := by rw [Int.mul_assoc, Int.mul_comm p.f3 Q]
  have e2 : Y * p.f3 * Q = Y * (Q * p.f3) := by rw [Int.mul_assoc, Int.mul_comm p.f3 Q]
  rw [e1] at h1
  rw [e2] at h2
  have g1 := sum_lowM (-16777216) (winQ q) fun t ht => ⟨w2 t ht, (w2 t ht).2.2.2.2.1⟩
  have g2 := sum_highM 16777216 (winQ q) fun t ht => ⟨w2 t ht, (w2 t ht).2.2.2.2.2⟩
  rw [hQ] at g1 g2
  have g3 := Int.mul_le_mul_of_nonneg_left (show 1 ≤ p.f3 by omega) (show 0 ≤ Q by omega)
  have n1 : n < 16777218 := lt_of_mulp a3 (by omega)
  have n2 : -16777218 < n := lt_of_mulp a3 (by omega)
  have hX : X < n + 1 := lt_of_mulp a3 (by rw [Int.add_mul, Int.one_mul]; omega)
  have hY : n < Y + 1 := lt_of_mulp a3 (by rw [Int.add_mul, Int.one_mul]; omega)
  have v1 := Int.mul_le_mul_of_nonneg_right (show X ≤ n by omega) (show 0 ≤ p.f3 by omega)
  have v2 := Int.mul_le_mul_of_nonneg_right (show n ≤ Y by omega) (show 0 ≤ p.f3 by omega)
  have hb0 : ∃ t, t ∈ winQ q := by
    cases hl : winQ q with
    | nil => exact absurd hl hne
    | cons t r => exact ⟨t, by simp⟩
  refine ⟨n, ?_, v1, v2⟩
  unfold tkVwap
  rw [if_pos hw, if_neg (by omega), if_neg (by decide), if_neg hne, hQ, a8, hn]
  show wrap64 (n * p.f3) = n * p.f3
  refine w_id ?_ ?_
  · have := Int.mul_le_mul_of_nonneg_right (show -16777218 ≤ n by omega) (show 0 ≤ p.f3 by omega); omega
  · have := Int.mul_le_mul_of_nonneg_right (show n ≤ 16777218 by omega) (show 0 ≤ p.f3 by omega); omega
theorem win_sub {q : Quote} {t : Tick} (h : t ∈ winQ q) : t ∈ q.f0 := (List.mem_filter.1 h).1
theorem made_valid {p : Prod9} {q : Quote} (ok : MarkOk p q) : Valid p (clampI (madeE p q).1 p.f4 p.f5) ∧ 1 ≤ (madeE p q).2 ∧ (madeE p q).2 ≤ 4 ∧ ((madeE p q).2 = 1 → q.f3 ≤ qtyS (winQ q)) ∧ ((madeE p q).2 = 2 → q.f4 ≤ clampI (madeE p q).1 p.f4 p.f5 ∧ clampI (madeE p q).1 p.f4 p.f5 ≤ q.f5) := by
  have hok := ok.ok
  unfold ProdOk at hok
  unfold madeE
  by_cases c1 : q.f3 ≤ qtyS (winQ q)
  · rw [if_pos c1]
    obtain ⟨z, e, u1, u2⟩ := avg_between ok c1 hok.2.2.2.2.2.2.2.1 hok.2.2.2.2.2.2.2.2 fun t ht => ⟨(ok.tick t (win_sub ht)).1, (ok.tick t (win_sub ht)).2.1⟩
    dsimp only
    rw [e, clamp_id u1 u2]
    exact ⟨⟨u1, u2, mul_tmod _ _⟩, by decide, by decide, fun _ => c1, fun h => by omega⟩
  rw [if_neg c1]
  by_cases c2 : q.f4 ≠ 0 ∧ q.f5 ≠ 0
  · rw [if_pos c2]
    obtain ⟨z, e, u1, u2⟩ := mid_ok ok c2.1 c2.2
    have b4 := ok.bid c2.1
    have b5 := ok.ask c2.2
    unfold Valid at b4 b5
    dsimp only
    rw [e]
    dsimp only
    rw [clamp_id (by omega) (by omega)]
    exact ⟨⟨by omega, by omega, mul_tmod _ _⟩, by decide, by decide, fun h => by omega, fun _ => ⟨u1, u2⟩⟩
  rw [if_neg c2]
  unfold lastMade
  by_cases c3 : 0 < q.f0.length
  · rw [dif_pos c3]
    have hv := ok.tick _ (List.getElem_mem (show q.f0.length - 1 < q.f0.length by omega))
    have h4 : Valid p (adj4 q (q.f0[q.f0.length - 1]'(by omega)).f2) := by
      unfold adj4
      split
      · exact hv
      · rename_i h; unfold mx; split
        · exact ok.bid h
        · exact hv
    have h5 : Valid p (adjP q (q.f0[q.f0.length - 1]'(by omega)).f2) := by
      unfold adjP
      split
      · exact h4
      · rename_i h; unfold mn; split
        · exact ok.ask h
        · exact h4
    dsimp only
    rw [clamp_id h5.1 h5.2.1]
    exact ⟨h5, by decide, by decide, fun h => by omega, fun h => by omega⟩
  · rw [dif_neg c3]
    dsimp only
    obtain ⟨m1, m2, m3, m4, m5, m6, m7⟩ := md_one (S := clampI (wrap64 (q.f6 + q.f7)) (-16777216) 16777216) (c := p.f3) (m := 5) (by have := clamp6 q; omega) (by omega) (by omega)
    have hr : Valid p (prodRound p (clampI (wrap64 (q.f6 + q.f7)) (-16777216) 16777216) 5) := by
      have hc := clamp_rng (n := wrap64 ((mdV (clampI (wrap64 (q.f6 + q.f7)) (-16777216) 16777216) 1 p.f3 5).1 * p.f3)) (show p.f4 ≤ p.f5 by omega)
      refine ⟨hc.1, hc.2, ?_⟩
      unfold prodRound
      have hcl := clamp6 q
      generalize (mdV (clampI (wrap64 (q.f6 + q.f7)) (-16777216) 16777216) 1 p.f3 5).1 = n at m4 m5
      have ew : wrap64 (n * p.f3) = n * p.f3 := by
        exact w_id (by omega) (by omega)
      rw [ew]
      unfold clampI
      split
      · exact hok.2.2.2.2.2.2.2.1
      · split
        · exact hok.2.2.2.2.2.2.2.2
        · exact mul_tmod _ _
    rw [clamp_id hr.1 hr.2.1]
    exact ⟨hr, by decide, by decide, fun h => by omega, fun h => by omega⟩
theorem holdLoop (q : Quote) (hl : q.f0.length ≤ 1024) (a : Int) : ∀ (d i : Nat) (s : Int × Int), i + d = q.f0.length → (mmFold (winL (q.f0.drop i) q.f1 q.f2) s).1 ≤ a → a ≤ (mmFold (winL (q.f0.drop i) q.f1 q.f2) s).2 → Ev (fun k => contangolaw18_MarkHolds.l0 k a 1 s.1 s.2 i q.f0 q.f1 q.f2 q.f3 q.f4 q.f5 q.f6 q.f7) true
  | 0, i, s, hd, h1, h2 => by
    rw [List.drop_of_length_le (by omega)] at h1 h2
    refine Ev_succ ?_
    simp only [contangolaw18_MarkHolds.l0, if_neg (show ¬ ((i : Int) < (q.f0.length : Int)) by omega), if_neg (show ¬ (1 : Int) > 2 by decide), if_pos (show s.1 ≤ a from h1), if_pos (show a ≤ s.2 from h2)]
    exact Ev_id goes18
  | d + 1, i, s, hd, h1, h2 => by
    have hi : i < q.f0.length := by omega
    have ih := fun s' => holdLoop q hl a d (i + 1) s' (by omega)
    rw [drop_cons q.f0 i hi] at h1 h2
    refine Ev_succ ?_
    simp only [contangolaw18_MarkHolds.l0, if_pos (show (i : Int) < (q.f0.length : Int) by omega), if_pos (show 0 ≤ (i : Int) by omega), rdTick q.f0 i hi, w_succ hi (show q.f0.length ≤ 9223372036854775807 by omega)]
    unfold winL at h1 h2 ih
    by_cases c : q.f1 ≤ q.f0[i].f0 ∧ q.f0[i].f0 ≤ q.f2
    · rw [List.filter_cons_of_pos (by unfold winP; exact decide_eq_true c)] at h1 h2
      simp only [if_pos (show q.f0[i].f0 ≥ q.f1 from c.1), if_pos c.2]
      exact ih (mn s.1 q.f0[i].f2, mx s.2 q.f0[i].f2) h1 h2
    · rw [List.filter_cons_of_neg (by unfold winP; rw [decide_eq_false c]; decide)] at h1 h2
      by_cases c1 : q.f0[i].f0 ≥ q.f1
      · simp only [if_pos c1, if_neg (show ¬ q.f0[i].f0 ≤ q.f2 from fun h => c ⟨c1, h⟩)]
        exact ih s h1 h2
      · simp only [if_neg c1]
        exact ih s h1 h2
theorem MarkHolds : ∀ (x0 : S34) (x1 : S36), ok34 x0 → ok36 x1 → ∃ k, X.contangolaw18_MarkHolds.f k x0.f0 x0.f1 x0.f2 x0.f3 x0.f4 x0.f5 x0.f6 x1.f0 x1.f1 x1.f2 x1.f3 x1.f4 x1.f5 x1.f6 x1.f7 = some true := by
  intro p q hp _
  apply Ev.rounds
  unfold contangolaw18_MarkHolds.f
  refine Ev_bind (markP_f p q) ?_
  unfold markP
  by_cases h : markE p q = 0
  case neg =>
    simp only [if_neg h, if_true]
    exact Ev_id goes18
  have ok := markE_zero h
  have hl := ((tkCheck_zero q.f0).1 ok.ticks).1
  have hok := ok.ok
  unfold ProdOk at hok
  obtain ⟨v1, v2, v3, v4, v5⟩ := made_valid ok
  simp only [if_pos h, if_true]
  refine Ev_bind (prodPrice_f p _) ?_
  have e0 : prodPrice p (clampI (madeE p q).1 p.f4 p.f5) = 0 := by
    unfold prodPrice
    unfold Valid at v1
    rw [if_pos ok.prod, if_neg (by omega), if_pos v1.2.2]
  simp only [e0, if_true, if_neg (show ¬ (madeE p q).2 < 1 by omega), decide_eq_false (show ¬ (madeE p q).2 > 4 by omega)]
  refine Ev_succ ?_
  simp only [contangolaw18_MarkHolds.j0, Bool.false_eq_true, if_false]
  refine Ev_if (fun c1 => ?_) (fun c1 => Ev_if (fun c2 => Ev_id goes18) fun c2 => ?_)
  · have hq := v4 c1
    obtain ⟨a1, a2, a3, a4, a5⟩ := mm_facts p.f3 (winQ q) (p.f5, p.f4) hok.2.2.2.2.2.2.2.2 hok.2.2.2.2.2.2.2.1 fun t ht => (ok.tick t (win_sub ht)).2.2
    obtain ⟨z, e, u1, u2⟩ := avg_between ok hq a4 a5 a3
    obtain ⟨z2, e2, u3, u4⟩ := avg_between ok hq hok.2.2.2.2.2.2.2.1 hok.2.2.2.2.2.2.2.2 fun t ht => ⟨(ok.tick t (win_sub ht)).1, (ok.tick t (win_sub ht)).2.1⟩
    have em : (madeE p q).1 = z * p.f3 := by unfold madeE; rw [if_pos hq]; exact e
    have ec : clampI (madeE p q).1 p.f4 p.f5 = z * p.f3 := by rw [em, clamp_id (by rw [← e, e2]; exact u3) (by rw [← e, e2]; exact u4)]
    rw [c1, ec]
    refine holdLoop q hl (z * p.f3) q.f0.length 0 (p.f5, p.f4) (by omega) ?_ ?_
    · rw [List.drop_zero]; exact u1
    · rw [List.drop_zero]; exact u2
  · obtain ⟨w1, w2⟩ := v5 (by omega)
    simp only [if_pos w1, if_pos w2]
    exact Ev_id goes18
end Go.Proofs.Ytocndpddghefhaa.Pure
end
