/- For MarkPrices: contracts, and facts on lists and numbers, that it uses (part 7). -/
import Derived.ChangeArms
import Derived.Deep.Slices
import Derived.Laws.Bits64b
import Derived.Laws.BitsLemmas
import Derived.Laws.Strings
import Derived.Lib.Mul64
import Derived.SizedLaws
import Derived.Test.YtocndpddghefhaaMarkPricesc6
import Derived.WideShapes
section
namespace Go.Proofs.Ytocndpddghefhaa.X
open Go.RowKit Go.Proofs.YtocndpddghefhaaW.PrintWords Go.Proofs.YtocndpddghefhaaW.PrintLast Go.Proofs.YtocndpddghefhaaW.PrintMore
attribute [local go_sem] max2_int min2_int max_two min_two max_three min_three max_four min_four
set_option linter.unusedVariables false
set_option linter.unusedSimpArgs false
def contangolaw18_MarkPrices.f (k : Nat) (a0_0 : ByteArray) (a0_1 : Int) (a0_2 : Int) (a0_3 : Int) (a0_4 : Int) (a0_5 : Int) (a0_6 : Bool) (l1_0 : List (S49)) (a1_1 : Int) (a1_2 : Int) (a1_3 : Int) (a1_4 : Int) (a1_5 : Int) (a1_6 : Int) (a1_7 : Int) : Option (Bool) := (mark_Price.f k a0_0 a0_1 a0_2 a0_3 a0_4 a0_5 a0_6 l1_0 a1_1 a1_2 a1_3 a1_4 a1_5 a1_6 a1_7).bind fun bt103 => ((contangoref18_Price.f k a0_0 a0_1 a0_2 a0_3 a0_4 a0_5 a0_6 l1_0 a1_1 a1_2 a1_3 a1_4 a1_5 a1_6 a1_7).bind fun bt106 => ((mark_Check.f k a0_0 a0_1 a0_2 a0_3 a0_4 a0_5 a0_6 l1_0 a1_1 a1_2 a1_3 a1_4 a1_5 a1_6 a1_7).bind fun t109 => ((contangoref18_Check.f k a0_0 a0_1 a0_2 a0_3 a0_4 a0_5 a0_6 l1_0 a1_1 a1_2 a1_3 a1_4 a1_5 a1_6 a1_7).bind fun t110 => (if t109 = t110 then (if bt103.1 = bt106.1 then (if bt103.2.1 = bt106.2.1 then (if bt103.2.2 = bt106.2.2 then ((contangolaw18_goes.f k).bind fun t111 => (some t111)) else (none)) else (none)) else (none)) else (none)))))
def contangolaw18_MarkPrices.T3 : Bool × List (List Nat × List Nat) := (true, [([], []), ([], []), ([0, 1], [0, 1]), ([], []), ([], []), ([3, 4, 2], [3, 4]), ([2, 5], [2, 5]), ([6, 5], [6]), ([7], [7]), ([7], [7]), ([8, 9, 7], [7, 8, 9]), ([7, 10], [7, 10]), ([11, 7], [11]), ([12], [12]), ([12], [12]), ([13, 14, 12], [12, 13, 14]), ([12, 15], [12, 15]), ([16, 12], [16]), ([17], [17]), ([17], [17]), ([18, 19, 17], [17, 18, 19]), ([17, 20], [17, 20]), ([21, 17], [21]), ([22, 22], [22]), ([22, 23], [22, 23]), ([24, 23, 0, 1, 2, 3, 4, 5, 6, 7, 8, 9, 10, 11, 12, 13, 14, 15, 16, 17, 18, 19, 20, 21, 22, 23, 24], [24])])
def contangolaw18_MarkPrices.B3 : List Nat := [0, 0, 3, 0, 0, 31, 63, 127, 255, 255, 1023, 2047, 4095, 8191, 8191, 32767, 65535, 131071, 262143, 262143, 1048575, 2097151, 4194303, 8388607, 16777215, 33554431]
theorem contangolaw18_MarkPrices.tab3 : rtab .any (opsOf Try.f5 3) = contangolaw18_MarkPrices.T3 := by kernel_rfl
theorem contangolaw18_MarkPrices.bits3 : waitsOk contangolaw18_MarkPrices.T3.2 contangolaw18_MarkPrices.B3 = true := by kernel_rfl
set_option maxHeartbeats 8000000 in
set_option maxRecDepth 100000 in
theorem contangolaw18_MarkPrices.calls (k : Nat) (a0_0 : ByteArray) (a0_1 : Int) (a0_2 : Int) (a0_3 : Int) (a0_4 : Int) (a0_5 : Int) (a0_6 : Bool) (A1_0 : Option Addr) (c1_0 : Nat) (l1_0 : List (S49)) (a1_1 : Int) (a1_2 : Int) (a1_3 : Int) (a1_4 : Int) (a1_5 : Int) (a1_6 : Int) (a1_7 : Int) (r : Bool) (w : World) (hr1_0 : Kd.C k49 w A1_0 l1_0.length l1_0) (hc1_0 : l1_0.length ≤ c1_0) (h : contangolaw18_MarkPrices.f k a0_0 a0_1 a0_2 a0_3 a0_4 a0_5 a0_6 l1_0 a1_1 a1_2 a1_3 a1_4 a1_5 a1_6 a1_7 = some r) :
    Calls Try.prog 5 #[.agg #[.string a0_0, .int .i64 a0_1, .int .i64 a0_2, .int .i64 a0_3, .int .i64 a0_4, .int .i64 a0_5, .bool a0_6], .agg #[.slice A1_0 l1_0.length c1_0, .int .i64 a1_1, .int .i64 a1_2, .int .i64 a1_3, .int .i64 a1_4, .int .i64 a1_5, .int .i64 a1_6, .int .i64 a1_7]] w fun e w' => e = .returned (.bool r) ∧ Below w.heap.size w w' := by
  have hu34 := Try.underlying34
  have hu36 := Try.underlying36
  have HR1_0 := Aside0.mk hr1_0
  have HC1_0 := Aside0.mk hc1_0
  clear hr1_0 hc1_0
  have HB := Aside0.mk (Below.refl w.heap.size w)
  have H : ((mark_Price.f k a0_0 a0_1 a0_2 a0_3 a0_4 a0_5 a0_6 l1_0 a1_1 a1_2 a1_3 a1_4 a1_5 a1_6 a1_7).bind fun bt103 => ((contangoref18_Price.f k a0_0 a0_1 a0_2 a0_3 a0_4 a0_5 a0_6 l1_0 a1_1 a1_2 a1_3 a1_4 a1_5 a1_6 a1_7).bind fun bt106 => ((mark_Check.f k a0_0 a0_1 a0_2 a0_3 a0_4 a0_5 a0_6 l1_0 a1_1 a1_2 a1_3 a1_4 a1_5 a1_6 a1_7).bind fun t109 => ((contangoref18_Check.f k a0_0 a0_1 a0_2 a0_3 a0_4 a0_5 a0_6 l1_0 a1_1 a1_2 a1_3 a1_4 a1_5 a1_6 a1_7).bind fun t110 => (if t109 = t110 then (if bt103.1 = bt106.1 then (if bt103.2.1 = bt106.2.1 then (if bt103.2.2 = bt106.2.2 then ((contangolaw18_goes.f k).bind fun t111 => (some t111)) else (none)) else (none)) else (none)) else (none)))))) = some r := h
  clear h
  replace H := Option.bind_eq_some_iff.mp H
  obtain ⟨⟨t103, t104, t105⟩, A30, H⟩ := H
  replace H : ((contangoref18_Price.f k a0_0 a0_1 a0_2 a0_3 a0_4 a0_5 a0_6 l1_0 a1_1 a1_2 a1_3 a1_4 a1_5 a1_6 a1_7).bind fun bt106 => ((mark_Check.f k a0_0 a0_1 a0_2 a0_3 a0_4 a0_5 a0_6 l1_0 a1_1 a1_2 a1_3 a1_4 a1_5 a1_6 a1_7).bind fun t109 => ((contangoref18_Check.f k a0_0 a0_1 a0_2 a0_3 a0_4 a0_5 a0_6 l1_0 a1_1 a1_2 a1_3 a1_4 a1_5 a1_6 a1_7).bind fun t110 => (if t109 = t110 then (if t103 = bt106.1 then (if t104 = bt106.2.1 then (if t105 = bt106.2.2 then ((contangolaw18_goes.f k).bind fun t111 => (some t111)) else (none)) else (none)) else (none)) else (none))))) = some r := H
  have A3 := Aside0.mk A30
  clear A30
  replace H := Option.bind_eq_some_iff.mp H
  obtain ⟨⟨t106, t107, t108⟩, A40, H⟩ := H
  replace H : ((mark_Check.f k a0_0 a0_1 a0_2 a0_3 a0_4 a0_5 a0_6 l1_0 a1_1 a1_2 a1_3 a1_4 a1_5 a1_6 a1_7).bind fun t109 => ((contangoref18_Check.f k a0_0 a0_1 a0_2 a0_3 a0_4 a0_5 a0_6 l1_0 a1_1 a1_2 a1_3 a1_4 a1_5 a1_6 a1_7).bind fun t110 => (if t109 = t110 then (if t103 = t106 then (if t104 = t107 then (if t105 = t108 then ((contangolaw18_goes.f k).bind fun t111 => (some t111)) else (none)) else (none)) else (none)) else (none)))) = some r := H
  have A4 := Aside0.mk A40
  clear A40
  replace H := Option.bind_eq_some_iff.mp H
  obtain ⟨t109, A50, H⟩ := H
  replace H : ((contangoref18_Check.f k a0_0 a0_1 a0_2 a0_3 a0_4 a0_5 a0_6 l1_0 a1_1 a1_2 a1_3 a1_4 a1_5 a1_6 a1_7).bind fun t110 => (if t109 = t110 then (if t103 = t106 then (if t104 = t107 then (if t105 = t108 then ((contangolaw18_goes.f k).bind fun t111 => (some t111)) else (none)) else (none)) else (none)) else (none))) = some r := H
  have A5 := Aside0.mk A50
  clear A50
  replace H := Option.bind_eq_some_iff.mp H
  obtain ⟨t110, A60, H⟩ := H
  replace H : (if t109 = t110 then (if t103 = t106 then (if t104 = t107 then (if t105 = t108 then ((contangolaw18_goes.f k).bind fun t111 => (some t111)) else (none)) else (none)) else (none)) else (none)) = some r := H
  have A6 := Aside0.mk A60
  clear A60
  by_cases c7 : t109 = t110
  · rw [if_pos c7] at H
    have c7b0 : (t109 == t110) = true := beq_iff_eq.mpr c7
    have c7b1 : (t109 != t110) = false := bne_eq_false_iff_eq.mpr c7
    clear c7
    by_cases c8 : t103 = t106
    · rw [if_pos c8] at H
      have c8b0 : (t103 == t106) = true := beq_iff_eq.mpr c8
      have c8b1 : (t103 != t106) = false := bne_eq_false_iff_eq.mpr c8
      clear c8
      by_cases c9 : t104 = t107
      · rw [if_pos c9] at H
        have c9b0 : (t104 == t107) = true := beq_iff_eq.mpr c9
        have c9b1 : (t104 != t107) = false := bne_eq_false_iff_eq.mpr c9
        clear c9
        by_cases c10 : t105 = t108
        · rw [if_pos c10] at H
          have c10b0 : (t105 == t108) = true := beq_iff_eq.mpr c10
          have c10b1 : (t105 != t108) = false := bne_eq_false_iff_eq.mpr c10
          clear c10
          replace H := Option.bind_eq_some_iff.mp H
          obtain ⟨t111, A110, H⟩ := H
          replace H : (some t111) = some r := H
          have A11 := Aside0.mk A110
          clear A110
          obtain rfl := Option.some.inj H
          go_enter Try.func5, Try.ntmps5
          try go_wp2_with (first | ((with_reducible refine gate_dst (N := 2) rfl ?_); refine box_event ?hg (N := 2) ?hd (cs := #[.string a0_0, .int .i64 a0_1, .int .i64 a0_2, .int .i64 a0_3, .int .i64 a0_4, .int .i64 a0_5, .bool a0_6]) (t := 34) ?hr ?_; (case hd => rfl); (case hg => rfl); (case hr => first | (go_simp; done) | (go_simp; rfl)); intro gb101 hg w12 hbox hb; have n0_ := Aside0.mk (below_step (by repeat (first | (with_reducible first | exact HB.out | apply below_alloc | apply pw_below_drewN | apply below_drew1) | exact HB.out)) hb); have n1_ := Aside0.mk (hbox); have n2_ := Aside0.mk ((by rw [hg]; exact (below_size (by repeat (first | (with_reducible first | exact HB.out | apply below_alloc | apply pw_below_drewN | apply below_drew1) | exact HB.out))) : w.heap.size ≤ gb101)); have n3_ := Aside0.mk ((by rw [hg]; exact (below_size (by repeat (first | (with_reducible first | exact HB.out | apply below_alloc | apply pw_below_drewN | apply below_drew1) | exact HB.out))) : w.heap.size ≤ gb101)); clear HB; have HB := n0_; have BK101 := n1_; have GW101 := n2_; have GE101 := n3_; clear n0_ n1_ n2_ n3_; clear hb hbox hg) | ((with_reducible refine gate_dst (N := 3) rfl ?_); refine box_event ?hg (N := 3) ?hd (cs := #[.slice A1_0 l1_0.length c1_0, .int .i64 a1_1, .int .i64 a1_2, .int .i64 a1_3, .int .i64 a1_4, .int .i64 a1_5, .int .i64 a1_6, .int .i64 a1_7]) (t := 36) ?hr ?_; (case hd => rfl); (case hg => rfl); (case hr => first | (go_simp; done) | (go_simp; rfl)); intro gb102 hg w13 hbox hb; have n0_ := Aside0.mk (blk_below (g := gb101) (o := .cells #[.string a0_0, .int .i64 a0_1, .int .i64 a0_2, .int .i64 a0_3, .int .i64 a0_4, .int .i64 a0_5, .bool a0_6] 34 (0, 0)) (by (with_reducible repeat (first | refine blk_drewN ?_ _ | refine blk_drew ?_ | refine blk_alloc ?_ _)); exact BK101.out) hb); have n1_ := Aside0.mk (below_step (by repeat (first | (with_reducible first | exact HB.out | apply below_alloc | apply pw_below_drewN | apply below_drew1 | refine below_set ?_ GE101.out) | exact HB.out)) hb); have n2_ := Aside0.mk (hbox); have n3_ := Aside0.mk ((by rw [hg]; exact (below_size (by repeat (first | (with_reducible first | exact HB.out | apply below_alloc | apply pw_below_drewN | apply below_drew1 | refine below_set ?_ GE101.out) | exact HB.out))) : w.heap.size ≤ gb102)); have n4_ := Aside0.mk ((by rw [hg]; exact (below_size (by repeat (first | (with_reducible first | exact HB.out | apply below_alloc | apply pw_below_drewN | apply below_drew1 | refine below_set ?_ GE101.out) | exact HB.out))) : w.heap.size ≤ gb102)); have n5_ := Aside0.mk ((by rw [hg]; exact Nat.ne_of_lt (blk_lt (g := gb101) (o := .cells #[.string a0_0, .int .i64 a0_1, .int .i64 a0_2, .int .i64 a0_3, .int .i64 a0_4, .int .i64 a0_5, .bool a0_6] 34 (0, 0)) (by (with_reducible repeat (first | refine blk_drewN ?_ _ | refine blk_drew ?_ | refine blk_alloc ?_ _)); exact BK101.out)) : gb101 ≠ gb102)); have n6_ := Aside0.mk ((by rw [hg]; exact Nat.ne_of_gt (blk_lt (g := gb101) (o := .cells #[.string a0_0, .int .i64 a0_1, .int .i64 a0_2, .int .i64 a0_3, .int .i64 a0_4, .int .i64 a0_5, .bool a0_6] 34 (0, 0)) (by (with_reducible repeat (first | refine blk_drewN ?_ _ | refine blk_drew ?_ | refine blk_alloc ?_ _)); exact BK101.out)) : gb102 ≠ gb101)); clear BK101; clear HB; have BK101 := n0_; have HB := n1_; have BK102 := n2_; have GW102 := n3_; have GE102 := n4_; have NB101_102 := n5_; have NB102_101 := n6_; clear n0_ n1_ n2_ n3_ n4_ n5_ n6_; clear hb hbox hg; have hnb14 := NB101_102.out; have hnc14 := NB102_101.out; have hcz15_0 : w13.cell? ⟨gb101, 0, none⟩ = some (.string a0_0) := (blk_cell BK101.out 0).trans rfl; have hcz15_1 : w13.cell? ⟨gb101, 1, none⟩ = some (.int .i64 a0_1) := (blk_cell BK101.out 1).trans rfl; have hcz15_2 : w13.cell? ⟨gb101, 2, none⟩ = some (.int .i64 a0_2) := (blk_cell BK101.out 2).trans rfl; have hcz15_3 : w13.cell? ⟨gb101, 3, none⟩ = some (.int .i64 a0_3) := (blk_cell BK101.out 3).trans rfl; have hcz15_4 : w13.cell? ⟨gb101, 4, none⟩ = some (.int .i64 a0_4) := (blk_cell BK101.out 4).trans rfl; have hcz15_5 : w13.cell? ⟨gb101, 5, none⟩ = some (.int .i64 a0_5) := (blk_cell BK101.out 5).trans rfl; have hcz15_6 : w13.cell? ⟨gb101, 6, none⟩ = some (.bool a0_6) := (blk_cell BK101.out 6).trans rfl; have hfz15_0 := blk_frozen BK101.out 0; have hfz15_1 := blk_frozen BK101.out 1; have hfz15_2 := blk_frozen BK101.out 2; have hfz15_3 := blk_frozen BK101.out 3; have hfz15_4 := blk_frozen BK101.out 4; have hfz15_5 := blk_frozen BK101.out 5; have hfz15_6 := blk_frozen BK101.out 6; have hcz16_0 : w13.cell? ⟨gb102, 0, none⟩ = some (.slice A1_0 l1_0.length c1_0) := (blk_cell BK102.out 0).trans rfl; have hcz16_1 : w13.cell? ⟨gb102, 1, none⟩ = some (.int .i64 a1_1) := (blk_cell BK102.out 1).trans rfl; have hcz16_2 : w13.cell? ⟨gb102, 2, none⟩ = some (.int .i64 a1_2) := (blk_cell BK102.out 2).trans rfl; have hcz16_3 : w13.cell? ⟨gb102, 3, none⟩ = some (.int .i64 a1_3) := (blk_cell BK102.out 3).trans rfl; have hcz16_4 : w13.cell? ⟨gb102, 4, none⟩ = some (.int .i64 a1_4) := (blk_cell BK102.out 4).trans rfl; have hcz16_5 : w13.cell? ⟨gb102, 5, none⟩ = some (.int .i64 a1_5) := (blk_cell BK102.out 5).trans rfl; have hcz16_6 : w13.cell? ⟨gb102, 6, none⟩ = some (.int .i64 a1_6) := (blk_cell BK102.out 6).trans rfl; have hcz16_7 : w13.cell? ⟨gb102, 7, none⟩ = some (.int .i64 a1_7) := (blk_cell BK102.out 7).trans rfl; have hfz16_0 := blk_frozen BK102.out 0; have hfz16_1 := blk_frozen BK102.out 1; have hfz16_2 := blk_frozen BK102.out 2; have hfz16_3 := blk_frozen BK102.out 3; have hfz16_4 := blk_frozen BK102.out 4; have hfz16_5 := blk_frozen BK102.out 5; have hfz16_6 := blk_frozen BK102.out 6; have hfz16_7 := blk_frozen BK102.out 7) | ((with_reducible refine gate_callee (f := 16) rfl ?_); refine goesL_ (some 14) rfl rfl Try.func16 (by kernel_rfl) rfl #[.agg #[.string a0_0, .int .i64 a0_1, .int .i64 a0_2, .int .i64 a0_3, .int .i64 a0_4, .int .i64 a0_5, .bool a0_6], .agg #[.slice A1_0 l1_0.length c1_0, .int .i64 a1_1, .int .i64 a1_2, .int .i64 a1_3, .int .i64 a1_4, .int .i64 a1_5, .int .i64 a1_6, .int .i64 a1_7]] rfl (by (try simp only [List.map_toArray, List.map_cons, List.map_nil]); first | done | rfl | (simp only [List.length_drop, List.length_take]; rfl)) ?_; (with_reducible refine (mark_Price.calls k a0_0 a0_1 a0_2 a0_3 a0_4 a0_5 a0_6 _ _ l1_0 a1_1 a1_2 a1_3 a1_4 a1_5 a1_6 a1_7 t103 t104 t105 _ ?side1 ?side2 A3.out).mono ?_); (case side1 => repeat (first | exact (Kd.C_below HR1_0.out HB.out) | (with_reducible refine Kd.C_alloc ?_ _) | (with_reducible refine Kd.C_drewN ?_ _) | (with_reducible refine Kd.C_drew ?_))); (case side2 => exact HC1_0.out); rintro e w17 ⟨rfl, hb⟩; refine ⟨_, rfl, ?_⟩; have n0_ := Aside0.mk (blk_below (g := gb101) (o := .cells #[.string a0_0, .int .i64 a0_1, .int .i64 a0_2, .int .i64 a0_3, .int .i64 a0_4, .int .i64 a0_5, .bool a0_6] 34 (0, 0)) (by (with_reducible repeat (first | refine blk_drewN ?_ _ | refine blk_drew ?_ | refine blk_alloc ?_ _)); exact BK101.out) hb); have n1_ := Aside0.mk (blk_below (g := gb102) (o := .cells #[.slice A1_0 l1_0.length c1_0, .int .i64 a1_1, .int .i64 a1_2, .int .i64 a1_3, .int .i64 a1_4, .int .i64 a1_5, .int .i64 a1_6, .int .i64 a1_7] 36 (0, 0)) (by (with_reducible repeat (first | refine blk_drewN ?_ _ | refine blk_drew ?_ | refine blk_alloc ?_ _)); exact BK102.out) hb); have n2_ := Aside0.mk (below_step (by repeat (first | (with_reducible first | exact HB.out | apply below_alloc | apply pw_below_drewN | apply below_drew1 | refine below_set ?_ GE101.out | refine below_set ?_ GE102.out) | exact HB.out)) hb); clear BK101; clear BK102; clear HB; have BK101 := n0_; have BK102 := n1_; have HB := n2_; clear n0_ n1_ n2_; (try clear hb); (try clear hb2); (try clear hk); (try clear hi); have hcz18_0 : w17.cell? ⟨gb101, 0, none⟩ = some (.string a0_0) := (blk_cell BK101.out 0).trans rfl; have hcz18_1 : w17.cell? ⟨gb101, 1, none⟩ = some (.int .i64 a0_1) := (blk_cell BK101.out 1).trans rfl; have hcz18_2 : w17.cell? ⟨gb101, 2, none⟩ = some (.int .i64 a0_2) := (blk_cell BK101.out 2).trans rfl; have hcz18_3 : w17.cell? ⟨gb101, 3, none⟩ = some (.int .i64 a0_3) := (blk_cell BK101.out 3).trans rfl; have hcz18_4 : w17.cell? ⟨gb101, 4, none⟩ = some (.int .i64 a0_4) := (blk_cell BK101.out 4).trans rfl; have hcz18_5 : w17.cell? ⟨gb101, 5, none⟩ = some (.int .i64 a0_5) := (blk_cell BK101.out 5).trans rfl; have hcz18_6 : w17.cell? ⟨gb101, 6, none⟩ = some (.bool a0_6) := (blk_cell BK101.out 6).trans rfl; have hfz18_0 := blk_frozen BK101.out 0; have hfz18_1 := blk_frozen BK101.out 1; have hfz18_2 := blk_frozen BK101.out 2; have hfz18_3 := blk_frozen BK101.out 3; have hfz18_4 := blk_frozen BK101.out 4; have hfz18_5 := blk_frozen BK101.out 5; have hfz18_6 := blk_frozen BK101.out 6; have hcz19_0 : w17.cell? ⟨gb102, 0, none⟩ = some (.slice A1_0 l1_0.length c1_0) := (blk_cell BK102.out 0).trans rfl; have hcz19_1 : w17.cell? ⟨gb102, 1, none⟩ = some (.int .i64 a1_1) := (blk_cell BK102.out 1).trans rfl; have hcz19_2 : w17.cell? ⟨gb102, 2, none⟩ = some (.int .i64 a1_2) := (blk_cell BK102.out 2).trans rfl; have hcz19_3 : w17.cell? ⟨gb102, 3, none⟩ = some (.int .i64 a1_3) := (blk_cell BK102.out 3).trans rfl; have hcz19_4 : w17.cell? ⟨gb102, 4, none⟩ = some (.int .i64 a1_4) := (blk_cell BK102.out 4).trans rfl; have hcz19_5 : w17.cell? ⟨gb102, 5, none⟩ = some (.int .i64 a1_5) := (blk_cell BK102.out 5).trans rfl; have hcz19_6 : w17.cell? ⟨gb102, 6, none⟩ = some (.int .i64 a1_6) := (blk_cell BK102.out 6).trans rfl; have hcz19_7 : w17.cell? ⟨gb102, 7, none⟩ = some (.int .i64 a1_7) := (blk_cell BK102.out 7).trans rfl; have hfz19_0 := blk_frozen BK102.out 0; have hfz19_1 := blk_frozen BK102.out 1; have hfz19_2 := blk_frozen BK102.out 2; have hfz19_3 := blk_frozen BK102.out 3; have hfz19_4 := blk_frozen BK102.out 4; have hfz19_5 := blk_frozen BK102.out 5; have hfz19_6 := blk_frozen BK102.out 6; have hfz19_7 := blk_frozen BK102.out 7) | ((with_reducible refine gate_callee (f := 17) rfl ?_); refine goesL_ (some 21) rfl rfl Try.func17 (by kernel_rfl) rfl #[.agg #[.string a0_0, .int .i64 a0_1, .int .i64 a0_2, .int .i64 a0_3, .int .i64 a0_4, .int .i64 a0_5, .bool a0_6], .agg #[.slice A1_0 l1_0.length c1_0, .int .i64 a1_1, .int .i64 a1_2, .int .i64 a1_3, .int .i64 a1_4, .int .i64 a1_5, .int .i64 a1_6, .int .i64 a1_7]] rfl (by (try simp only [List.map_toArray, List.map_cons, List.map_nil]); first | done | rfl | (simp only [List.length_drop, List.length_take]; rfl)) ?_; (with_reducible refine (contangoref18_Price.calls k a0_0 a0_1 a0_2 a0_3 a0_4 a0_5 a0_6 _ _ l1_0 a1_1 a1_2 a1_3 a1_4 a1_5 a1_6 a1_7 t106 t107 t108 _ ?side1 ?side2 A4.out).mono ?_); (case side1 => repeat (first | exact (Kd.C_below HR1_0.out HB.out) | (with_reducible refine Kd.C_alloc ?_ _) | (with_reducible refine Kd.C_drewN ?_ _) | (with_reducible refine Kd.C_drew ?_))); (case side2 => exact HC1_0.out); rintro e w20 ⟨rfl, hb⟩; refine ⟨_, rfl, ?_⟩; have n0_ := Aside0.mk (blk_below (g := gb101) (o := .cells #[.string a0_0, .int .i64 a0_1, .int .i64 a0_2, .int .i64 a0_3, .int .i64 a0_4, .int .i64 a0_5, .bool a0_6] 34 (0, 0)) (by (with_reducible repeat (first | refine blk_drewN ?_ _ | refine blk_drew ?_ | refine blk_alloc ?_ _)); exact BK101.out) hb); have n1_ := Aside0.mk (blk_below (g := gb102) (o := .cells #[.slice A1_0 l1_0.length c1_0, .int .i64 a1_1, .int .i64 a1_2, .int .i64 a1_3, .int .i64 a1_4, .int .i64 a1_5, .int .i64 a1_6, .int .i64 a1_7] 36 (0, 0)) (by (with_reducible repeat (first | refine blk_drewN ?_ _ | refine blk_drew ?_ | refine blk_alloc ?_ _)); exact BK102.out) hb); have n2_ := Aside0.mk (below_step (by repeat (first | (with_reducible first | exact HB.out | apply below_alloc | apply pw_below_drewN | apply below_drew1 | refine below_set ?_ GE101.out | refine below_set ?_ GE102.out) | exact HB.out)) hb); clear BK101; clear BK102; clear HB; have BK101 := n0_; have BK102 := n1_; have HB := n2_; clear n0_ n1_ n2_; (try clear hb); (try clear hb2); (try clear hk); (try clear hi)))
          have n0_ := Aside0.mk (blk_drew BK101.out)
          have n1_ := Aside0.mk (blk_drew BK102.out)
          have n2_ := Aside0.mk (below_drew1 HB.out)
          clear BK101
          clear BK102
          clear HB
          have BK101 := n0_
          have BK102 := n1_
          have HB := n2_
          clear n0_ n1_ n2_
          refine start_ (n := 26) (S := fun w' => w'.cell? ⟨gb101, 0, none⟩ = some (.string a0_0) ∧ w'.cell? ⟨gb101, 1, none⟩ = some (.int .i64 a0_1) ∧ w'.cell? ⟨gb101, 2, none⟩ = some (.int .i64 a0_2) ∧ w'.cell? ⟨gb101, 3, none⟩ = some (.int .i64 a0_3) ∧ w'.cell? ⟨gb101, 4, none⟩ = some (.int .i64 a0_4) ∧ w'.cell? ⟨gb101, 5, none⟩ = some (.int .i64 a0_5) ∧ w'.cell? ⟨gb101, 6, none⟩ = some (.bool a0_6) ∧ w'.cell? ⟨gb102, 0, none⟩ = some (.slice A1_0 l1_0.length c1_0) ∧ w'.cell? ⟨gb102, 1, none⟩ = some (.int .i64 a1_1) ∧ w'.cell? ⟨gb102, 2, none⟩ = some (.int .i64 a1_2) ∧ w'.cell? ⟨gb102, 3, none⟩ = some (.int .i64 a1_3) ∧ w'.cell? ⟨gb102, 4, none⟩ = some (.int .i64 a1_4) ∧ w'.cell? ⟨gb102, 5, none⟩ = some (.int .i64 a1_5) ∧ w'.cell? ⟨gb102, 6, none⟩ = some (.int .i64 a1_6) ∧ w'.cell? ⟨gb102, 7, none⟩ = some (.int .i64 a1_7)) (ds := []) #[false, false, false, false, false, false, false, false, false, false, false, false, false, false, false, false, false, false, false, false, false, false, false, false, false, false] (by kernel_rfl) rfl rfl ⟨(blk_cell BK101.out 0).trans rfl, (blk_cell BK101.out 1).trans rfl, (blk_cell BK101.out 2).trans rfl, (blk_cell BK101.out 3).trans rfl, (blk_cell BK101.out 4).trans rfl, (blk_cell BK101.out 5).trans rfl, (blk_cell BK101.out 6).trans rfl, (blk_cell BK102.out 0).trans rfl, (blk_cell BK102.out 1).trans rfl, (blk_cell BK102.out 2).trans rfl, (blk_cell BK102.out 3).trans rfl, (blk_cell BK102.out 4).trans rfl, (blk_cell BK102.out 5).trans rfl, (blk_cell BK102.out 6).trans rfl, (blk_cell BK102.out 7).trans rfl⟩ (fun hHeld => ?_); refine with_tabW contangolaw18_MarkPrices.tab3 contangolaw18_MarkPrices.bits3 (fun HT_ HW_ => ?_)
          generalize w20.drew = w21 at BK101 BK102 HB hHeld ⊢
          refine take_ (i := 0) (N := some 25) (v := ?_) (a' := ?_) #[true, false, false, false, false, false, false, false, false, false, false, false, false, false, false, false, false, false, false, false, false, false, false, false, false, false] rfl rfl (take_ofW HT_.out HW_.out (by kernel_rfl)) (fun _ _ _ h => h) (Or.inl ⟨by rfl, ?_⟩) hHeld ?_ ?_
          rotate_left
          · rintro w' ⟨s0, s1, s2, s3, s4, s5, s6, s7, s8, s9, s10, s11, s12, s13, s14⟩
            go_simp
            with_reducible rfl
          rotate_left
          · simp only [Act.put, List.setIfInBounds_toArray, List.set_cons_zero, List.set_cons_succ, i64_w, i32_w]
            rfl
          refine take_ (i := 1) (N := some 26) (v := ?_) (a' := ?_) #[true, true, false, false, false, false, false, false, false, false, false, false, false, false, false, false, false, false, false, false, false, false, false, false, false, false] rfl rfl (take_ofW HT_.out HW_.out (by kernel_rfl)) (fun _ _ _ h => h) (Or.inl ⟨by rfl, ?_⟩) hHeld ?_ ?_
          rotate_left
          · rintro w' ⟨s0, s1, s2, s3, s4, s5, s6, s7, s8, s9, s10, s11, s12, s13, s14⟩
            go_simp
            with_reducible rfl
          rotate_left
          · simp only [Act.put, List.setIfInBounds_toArray, List.set_cons_zero, List.set_cons_succ, i64_w, i32_w]
            rfl
          refine take_ (i := 3) (N := some 28) (v := ?_) (a' := ?_) #[true, true, false, true, false, false, false, false, false, false, false, false, false, false, false, false, false, false, false, false, false, false, false, false, false, false] rfl rfl (take_ofW HT_.out HW_.out (by kernel_rfl)) (fun _ _ _ h => h) (Or.inl ⟨by rfl, ?_⟩) hHeld ?_ ?_
          rotate_left
          · rintro w' ⟨s0, s1, s2, s3, s4, s5, s6, s7, s8, s9, s10, s11, s12, s13, s14⟩
            go_simp
            with_reducible rfl
          rotate_left
          · simp only [Act.put, List.setIfInBounds_toArray, List.set_cons_zero, List.set_cons_succ, i64_w, i32_w]
            rfl
          refine take_ (i := 4) (N := some 29) (v := ?_) (a' := ?_) #[true, true, false, true, true, false, false, false, false, false, false, false, false, false, false, false, false, false, false, false, false, false, false, false, false, false] rfl rfl (take_ofW HT_.out HW_.out (by kernel_rfl)) (fun _ _ _ h => h) (Or.inl ⟨by rfl, ?_⟩) hHeld ?_ ?_
          rotate_left
          · rintro w' ⟨s0, s1, s2, s3, s4, s5, s6, s7, s8, s9, s10, s11, s12, s13, s14⟩
            go_simp
            with_reducible rfl
          rotate_left
          · simp only [Act.put, List.setIfInBounds_toArray, List.set_cons_zero, List.set_cons_succ, i64_w, i32_w]
            rfl
          refine one_ (i := 2) (N := some 27) #[true, true, true, true, true, false, false, false, false, false, false, false, false, false, false, false, false, false, false, false, false, false, false, false, false, false] rfl rfl (one_of HT_.out (by kernel_rfl)) (by decide) (fun K hK => ?_)
          refine goes_ Try.func18 (by kernel_rfl) rfl #[.agg #[.string a0_0, .int .i64 a0_1, .int .i64 a0_2, .int .i64 a0_3, .int .i64 a0_4, .int .i64 a0_5, .bool a0_6], .agg #[.slice A1_0 l1_0.length c1_0, .int .i64 a1_1, .int .i64 a1_2, .int .i64 a1_3, .int .i64 a1_4, .int .i64 a1_5, .int .i64 a1_6, .int .i64 a1_7]] (by rfl) rfl rfl (by (try simp only [List.map_toArray, List.map_cons, List.map_nil]); first | done | rfl | (simp only [List.length_drop, List.length_take]; rfl)) ?_
          with_reducible refine (mark_Check.calls k a0_0 a0_1 a0_2 a0_3 a0_4 a0_5 a0_6 _ _ l1_0 a1_1 a1_2 a1_3 a1_4 a1_5 a1_6 a1_7 t109 _ ?side1 ?side2 A5.out).mono ?_
          (case side1 => repeat (first | exact (Kd.C_below HR1_0.out HB.out) | (with_reducible refine Kd.C_alloc ?_ _) | (with_reducible refine Kd.C_drewN ?_ _) | (with_reducible refine Kd.C_drew ?_)))
          (case side2 => exact HC1_0.out)
          rintro e w22 ⟨rfl, hb⟩
          refine ⟨_, rfl, ?_⟩
          have n0_ := Aside0.mk (blk_below (g := gb101) (o := .cells #[.string a0_0, .int .i64 a0_1, .int .i64 a0_2, .int .i64 a0_3, .int .i64 a0_4, .int .i64 a0_5, .bool a0_6] 34 (0, 0)) (by (with_reducible repeat (first | refine blk_drewN ?_ _ | refine blk_drew ?_ | refine blk_alloc ?_ _)); exact BK101.out) hb)
          have n1_ := Aside0.mk (blk_below (g := gb102) (o := .cells #[.slice A1_0 l1_0.length c1_0, .int .i64 a1_1, .int .i64 a1_2, .int .i64 a1_3, .int .i64 a1_4, .int .i64 a1_5, .int .i64 a1_6, .int .i64 a1_7] 36 (0, 0)) (by (with_reducible repeat (first | refine blk_drewN ?_ _ | refine blk_drew ?_ | refine blk_alloc ?_ _)); exact BK102.out) hb)
          have n2_ := Aside0.mk (below_step (by repeat (first | (with_reducible first | exact HB.out | apply below_alloc | apply pw_below_drewN | apply below_drew1 | refine below_set ?_ GE101.out | refine below_set ?_ GE102.out) | exact HB.out)) hb)
          clear BK101
          clear BK102
          clear HB
          have BK101 := n0_
          have BK102 := n1_
          have HB := n2_
          clear n0_ n1_ n2_
          (try clear hb)
          (try clear hb2)
          (try clear hk)
          (try clear hi)
          refine hK.out _ _ ⟨(blk_cell BK101.out 0).trans rfl, (blk_cell BK101.out 1).trans rfl, (blk_cell BK101.out 2).trans rfl, (blk_cell BK101.out 3).trans rfl, (blk_cell BK101.out 4).trans rfl, (blk_cell BK101.out 5).trans rfl, (blk_cell BK101.out 6).trans rfl, (blk_cell BK102.out 0).trans rfl, (blk_cell BK102.out 1).trans rfl, (blk_cell BK102.out 2).trans rfl, (blk_cell BK102.out 3).trans rfl, (blk_cell BK102.out 4).trans rfl, (blk_cell BK102.out 5).trans rfl, (blk_cell BK102.out 6).trans rfl, (blk_cell BK102.out 7).trans rfl⟩ (fun hHeld => ?_)
          clear hK K
          refine norm_ (a' := ?_) ?_ ?_
          rotate_left
          · show Act.put _ (some 27) _ = _
            simp only [Act.put, List.setIfInBounds_toArray, List.set_cons_zero, List.set_cons_succ, i64_w, i32_w]
            rfl
          refine one_ (i := 5) (N := some 30) #[true, true, true, true, true, true, false, false, false, false, false, false, false, false, false, false, false, false, false, false, false, false, false, false, false, false] rfl rfl (one_of HT_.out (by kernel_rfl)) (by decide) (fun K hK => ?_)
          refine goes_ Try.func19 (by kernel_rfl) rfl #[.agg #[.string a0_0, .int .i64 a0_1, .int .i64 a0_2, .int .i64 a0_3, .int .i64 a0_4, .int .i64 a0_5, .bool a0_6], .agg #[.slice A1_0 l1_0.length c1_0, .int .i64 a1_1, .int .i64 a1_2, .int .i64 a1_3, .int .i64 a1_4, .int .i64 a1_5, .int .i64 a1_6, .int .i64 a1_7]] (by rfl) rfl rfl (by (try simp only [List.map_toArray, List.map_cons, List.map_nil]); first | done | rfl | (simp only [List.length_drop, List.length_take]; rfl)) ?_
          with_reducible refine (contangoref18_Check.calls k a0_0 a0_1 a0_2 a0_3 a0_4 a0_5 a0_6 _ _ l1_0 a1_1 a1_2 a1_3 a1_4 a1_5 a1_6 a1_7 t110 _ ?side1 ?side2 A6.out).mono ?_
          (case side1 => repeat (first | exact (Kd.C_below HR1_0.out HB.out) | (with_reducible refine Kd.C_alloc ?_ _) | (with_reducible refine Kd.C_drewN ?_ _) | (with_reducible refine Kd.C_drew ?_)))
          (case side2 => exact HC1_0.out)
          rintro e w23 ⟨rfl, hb⟩
          refine ⟨_, rfl, ?_⟩
          have n0_ := Aside0.mk (blk_below (g := gb101) (o := .cells #[.string a0_0, .int .i64 a0_1, .int .i64 a0_2, .int .i64 a0_3, .int .i64 a0_4, .int .i64 a0_5, .bool a0_6] 34 (0, 0)) (by (with_reducible repeat (first | refine blk_drewN ?_ _ | refine blk_drew ?_ | refine blk_alloc ?_ _)); exact BK101.out) hb)
          have n1_ := Aside0.mk (blk_below (g := gb102) (o := .cells #[.slice A1_0 l1_0.length c1_0, .int .i64 a1_1, .int .i64 a1_2, .int .i64 a1_3, .int .i64 a1_4, .int .i64 a1_5, .int .i64 a1_6, .int .i64 a1_7] 36 (0, 0)) (by (with_reducible repeat (first | refine blk_drewN ?_ _ | refine blk_drew ?_ | refine blk_alloc ?_ _)); exact BK102.out) hb)
          have n2_ := Aside0.mk (below_step (by repeat (first | (with_reducible first | exact HB.out | apply below_alloc | apply pw_below_drewN | apply below_drew1 | refine below_set ?_ GE101.out | refine below_set ?_ GE102.out) | exact HB.out)) hb)
          clear BK101
          clear BK102
          clear HB
          have BK101 := n0_
          have BK102 := n1_
          have HB := n2_
          clear n0_ n1_ n2_
          (try clear hb)
          (try clear hb2)
          (try clear hk)
          (try clear hi)
          refine hK.out _ _ ⟨(blk_cell BK101.out 0).trans rfl, (blk_cell BK101.out 1).trans rfl, (blk_cell BK101.out 2).trans rfl, (blk_cell BK101.out 3).trans rfl, (blk_cell BK101.out 4).trans rfl, (blk_cell BK101.out 5).trans rfl, (blk_cell BK101.out 6).trans rfl, (blk_cell BK102.out 0).trans rfl, (blk_cell BK102.out 1).trans rfl, (blk_cell BK102.out 2).trans rfl, (blk_cell BK102.out 3).trans rfl, (blk_cell BK102.out 4).trans rfl, (blk_cell BK102.out 5).trans rfl, (blk_cell BK102.out 6).trans rfl, (blk_cell BK102.out 7).trans rfl⟩ (fun hHeld => ?_)
          clear hK K
          refine norm_ (a' := ?_) ?_ ?_
          rotate_left
          · show Act.put _ (some 30) _ = _
            simp only [Act.put, List.setIfInBounds_toArray, List.set_cons_zero, List.set_cons_succ, i64_w, i32_w]
            rfl
          refine pure_ (i := 6) (N := some 31) (v := ?_) (a' := ?_) #[true, true, true, true, true, true, true, false, false, false, false, false, false, false, false, false, false, false, false, false, false, false, false, false, false, false] rfl rfl (any_of HT_.out (by kernel_rfl)) (fun _ _ _ h => h) (Or.inl ⟨by rfl, ?_⟩) ?_ ?_
          rotate_left
          · intro w'
            go_simp
            with_reducible rfl
          rotate_left
          · simp only [Act.put, List.setIfInBounds_toArray, List.set_cons_zero, List.set_cons_succ, i64_w, i32_w]
            rfl
          refine pure_ (i := 7) (N := some 32) (v := ?_) (a' := ?_) #[true, true, true, true, true, true, true, true, false, false, false, false, false, false, false, false, false, false, false, false, false, false, false, false, false, false] rfl rfl (any_of HT_.out (by kernel_rfl)) (fun _ _ _ h => h) (Or.inl ⟨by rfl, ?_⟩) ?_ ?_
          rotate_left
          · intro w'
            go_simp
            with_reducible rfl
          rotate_left
          · simp only [Act.put, List.setIfInBounds_toArray, List.set_cons_zero, List.set_cons_succ, i64_w, i32_w]
            rfl
          refine pure_ (i := 8) (N := some 33) (v := ?_) (a' := ?_) #[true, true, true, true, true, true, true, true, true, false, false, false, false, false, false, false, false, false, false, false, false, false, false, false, false, false] rfl rfl (any_of HT_.out (by kernel_rfl)) (fun _ _ _ h => h) (Or.inl ⟨by rfl, ?_⟩) ?_ ?_
          rotate_left
          · intro w'
            go_simp
            with_reducible rfl
          rotate_left
          · simp only [Act.put, List.setIfInBounds_toArray, List.set_cons_zero, List.set_cons_succ, i64_w, i32_w]
            rfl
          refine pure_ (i := 9) (N := some 34) (v := ?_) (a' := ?_) #[true, true, true, true, true, true, true, true, true, true, false, false, false, false, false, false, false, false, false, false, false, false, false, false, false, false] rfl rfl (any_of HT_.out (by kernel_rfl)) (fun _ _ _ h => h) (Or.inl ⟨by rfl, ?_⟩) ?_ ?_
          rotate_left
          · intro w'
            go_simp
            with_reducible rfl
          rotate_left
          · simp only [Act.put, List.setIfInBounds_toArray, List.set_cons_zero, List.set_cons_succ, i64_w, i32_w]
            rfl
          refine pure_ (i := 10) (N := some 35) (v := ?_) (a' := ?_) #[true, true, true, true, true, true, true, true, true, true, true, false, false, false, false, false, false, false, false, false, false, false, false, false, false, false] rfl rfl (any_of HT_.out (by kernel_rfl)) (fun _ _ _ h => h) (Or.inl ⟨by rfl, ?_⟩) ?_ ?_
          rotate_left
          · intro w'
            go_simp
            with_reducible rfl
          rotate_left
          · simp only [Act.put, List.setIfInBounds_toArray, List.set_cons_zero, List.set_cons_succ, i64_w, i32_w]
            rfl
          refine pure_ (i := 11) (N := some 36) (v := ?_) (a' := ?_) #[true, true, true, true, true, true, true, true, true, true, true, true, false, false, false, false, false, false, false, false, false, false, false, false, false, false] rfl rfl (any_of HT_.out (by kernel_rfl)) (fun _ _ _ h => h) (Or.inl ⟨by rfl, ?_⟩) ?_ ?_
          rotate_left
          · intro w'
            go_simp
            with_reducible rfl
          rotate_left
          · simp only [Act.put, List.setIfInBounds_toArray, List.set_cons_zero, List.set_cons_succ, i64_w, i32_w]
            rfl
          refine pure_ (i := 12) (N := some 37) (v := ?_) (a' := ?_) #[true, true, true, true, true, true, true, true, true, true, true, true, true, false, false, false, false, false, false, false, false, false, false, false, false, false] rfl rfl (any_of HT_.out (by kernel_rfl)) (fun _ _ _ h => h) (Or.inl ⟨by rfl, ?_⟩) ?_ ?_
          rotate_left
          · intro w'
            go_simp
            with_reducible rfl
          rotate_left
          · simp only [Act.put, List.setIfInBounds_toArray, List.set_cons_zero, List.set_cons_succ, i64_w, i32_w]
            rfl
          refine pure_ (i := 13) (N := some 38) (v := ?_) (a' := ?_) #[true, true, true, true, true, true, true, true, true, true, true, true, true, true, false, false, false, false, false, false, false, false, false, false, false, false] rfl rfl (any_of HT_.out (by kernel_rfl)) (fun _ _ _ h => h) (Or.inl ⟨by rfl, ?_⟩) ?_ ?_
          rotate_left
          · intro w'
            go_simp
            with_reducible rfl
          rotate_left
          · simp only [Act.put, List.setIfInBounds_toArray, List.set_cons_zero, List.set_cons_succ, i64_w, i32_w]
            rfl
          refine pure_ (i := 14) (N := some 39) (v := ?_) (a' := ?_) #[true, true, true, true, true, true, true, true, true, true, true, true, true, true, true, false, false, false, false, false, false, false, false, false, false, false] rfl rfl (any_of HT_.out (by kernel_rfl)) (fun _ _ _ h => h) (Or.inl ⟨by rfl, ?_⟩) ?_ ?_
          rotate_left
          · intro w'
            go_simp
            with_reducible rfl
          rotate_left
          · simp only [Act.put, List.setIfInBounds_toArray, List.set_cons_zero, List.set_cons_succ, i64_w, i32_w]
            rfl
          refine pure_ (i := 15) (N := some 40) (v := ?_) (a' := ?_) #[true, true, true, true, true, true, true, true, true, true, true, true, true, true, true, true, false, false, false, false, false, false, false, false, false, false] rfl rfl (any_of HT_.out (by kernel_rfl)) (fun _ _ _ h => h) (Or.inl ⟨by rfl, ?_⟩) ?_ ?_
          rotate_left
          · intro w'
            go_simp
            with_reducible rfl
          rotate_left
          · simp only [Act.put, List.setIfInBounds_toArray, List.set_cons_zero, List.set_cons_succ, i64_w, i32_w]
            rfl
          refine pure_ (i := 16) (N := some 41) (v := ?_) (a' := ?_) #[true, true, true, true, true, true, true, true, true, true, true, true, true, true, true, true, true, false, false, false, false, false, false, false, false, false] rfl rfl (any_of HT_.out (by kernel_rfl)) (fun _ _ _ h => h) (Or.inl ⟨by rfl, ?_⟩) ?_ ?_
          rotate_left
          · intro w'
            go_simp
            with_reducible rfl
          rotate_left
          · simp only [Act.put, List.setIfInBounds_toArray, List.set_cons_zero, List.set_cons_succ, i64_w, i32_w]
            rfl
          refine pure_ (i := 17) (N := some 42) (v := ?_) (a' := ?_) #[true, true, true, true, true, true, true, true, true, true, true, true, true, true, true, true, true, true, false, false, false, false, false, false, false, false] rfl rfl (any_of HT_.out (by kernel_rfl)) (fun _ _ _ h => h) (Or.inl ⟨by rfl, ?_⟩) ?_ ?_
          rotate_left
          · intro w'
            go_simp
            with_reducible rfl
          rotate_left
          · simp only [Act.put, List.setIfInBounds_toArray, List.set_cons_zero, List.set_cons_succ, i64_w, i32_w]
            rfl
          refine pure_ (i := 18) (N := some 43) (v := ?_) (a' := ?_) #[true, true, true, true, true, true, true, true, true, true, true, true, true, true, true, true, true, true, true, false, false, false, false, false, false, false] rfl rfl (any_of HT_.out (by kernel_rfl)) (fun _ _ _ h => h) (Or.inl ⟨by rfl, ?_⟩) ?_ ?_
          rotate_left
          · intro w'
            go_simp
            with_reducible rfl
          rotate_left
          · simp only [Act.put, List.setIfInBounds_toArray, List.set_cons_zero, List.set_cons_succ, i64_w, i32_w]
            rfl
          refine pure_ (i := 19) (N := some 44) (v := ?_) (a' := ?_) #[true, true, true, true, true, true, true, true, true, true, true, true, true, true, true, true, true, true, true, true, false, false, false, false, false, false] rfl rfl (any_of HT_.out (by kernel_rfl)) (fun _ _ _ h => h) (Or.inl ⟨by rfl, ?_⟩) ?_ ?_
          rotate_left
          · intro w'
            go_simp
            with_reducible rfl
          rotate_left
          · simp only [Act.put, List.setIfInBounds_toArray, List.set_cons_zero, List.set_cons_succ, i64_w, i32_w]
            rfl
          refine pure_ (i := 20) (N := some 45) (v := ?_) (a' := ?_) #[true, true, true, true, true, true, true, true, true, true, true, true, true, true, true, true, true, true, true, true, true, false, false, false, false, false] rfl rfl (any_of HT_.out (by kernel_rfl)) (fun _ _ _ h => h) (Or.inl ⟨by rfl, ?_⟩) ?_ ?_
          rotate_left
          · intro w'
            go_simp
            with_reducible rfl
          rotate_left
          · simp only [Act.put, List.setIfInBounds_toArray, List.set_cons_zero, List.set_cons_succ, i64_w, i32_w]
            rfl
          refine pure_ (i := 21) (N := some 46) (v := ?_) (a' := ?_) #[true, true, true, true, true, true, true, true, true, true, true, true, true, true, true, true, true, true, true, true, true, true, false, false, false, false] rfl rfl (any_of HT_.out (by kernel_rfl)) (fun _ _ _ h => h) (Or.inl ⟨by rfl, ?_⟩) ?_ ?_
          rotate_left
          · intro w'
            go_simp
            with_reducible rfl
          rotate_left
          · simp only [Act.put, List.setIfInBounds_toArray, List.set_cons_zero, List.set_cons_succ, i64_w, i32_w]
            rfl
          refine pure_ (i := 22) (N := some 47) (v := ?_) (a' := ?_) #[true, true, true, true, true, true, true, true, true, true, true, true, true, true, true, true, true, true, true, true, true, true, true, false, false, false] rfl rfl (any_of HT_.out (by kernel_rfl)) (fun _ _ _ h => h) (Or.inl ⟨by rfl, ?_⟩) ?_ ?_
          rotate_left
          · intro w'
            go_simp
            with_reducible rfl
          rotate_left
          · simp only [Act.put, List.setIfInBounds_toArray, List.set_cons_zero, List.set_cons_succ, i64_w, i32_w]
            rfl
          refine one_ (i := 23) (N := some 48) #[true, true, true, true, true, true, true, true, true, true, true, true, true, true, true, true, true, true, true, true, true, true, true, true, false, false] rfl rfl (one_of HT_.out (by kernel_rfl)) (by decide) (fun K hK => ?_)
          refine goes_ Try.func20 (by kernel_rfl) rfl #[] (by rfl) rfl rfl (by (try simp only [List.map_toArray, List.map_cons, List.map_nil]); first | done | rfl | (simp only [List.length_drop, List.length_take]; rfl)) ?_
          with_reducible refine (contangolaw18_goes.calls k  t111 _ A11.out).mono ?_
          rintro e w24 ⟨rfl, hb⟩
          refine ⟨_, rfl, ?_⟩
          have n0_ := Aside0.mk (blk_below (g := gb101) (o := .cells #[.string a0_0, .int .i64 a0_1, .int .i64 a0_2, .int .i64 a0_3, .int .i64 a0_4, .int .i64 a0_5, .bool a0_6] 34 (0, 0)) (by (with_reducible repeat (first | refine blk_drewN ?_ _ | refine blk_drew ?_ | refine blk_alloc ?_ _)); exact BK101.out) hb)
          have n1_ := Aside0.mk (blk_below (g := gb102) (o := .cells #[.slice A1_0 l1_0.length c1_0, .int .i64 a1_1, .int .i64 a1_2, .int .i64 a1_3, .int .i64 a1_4, .int .i64 a1_5, .int .i64 a1_6, .int .i64 a1_7] 36 (0, 0)) (by (with_reducible repeat (first | refine blk_drewN ?_ _ | refine blk_drew ?_ | refine blk_alloc ?_ _)); exact BK102.out) hb)
          have n2_ := Aside0.mk (below_step (by repeat (first | (with_reducible first | exact HB.out | apply below_alloc | apply pw_below_drewN | apply below_drew1 | refine below_set ?_ GE101.out | refine below_set ?_ GE102.out) | exact HB.out)) hb)
          clear BK101
          clear BK102
          clear HB
          have BK101 := n0_
          have BK102 := n1_
          have HB := n2_
          clear n0_ n1_ n2_
          (try clear hb)
          (try clear hb2)
          (try clear hk)
          (try clear hi)
          refine hK.out _ _ ⟨(blk_cell BK101.out 0).trans rfl, (blk_cell BK101.out 1).trans rfl, (blk_cell BK101.out 2).trans rfl, (blk_cell BK101.out 3).trans rfl, (blk_cell BK101.out 4).trans rfl, (blk_cell BK101.out 5).trans rfl, (blk_cell BK101.out 6).trans rfl, (blk_cell BK102.out 0).trans rfl, (blk_cell BK102.out 1).trans rfl, (blk_cell BK102.out 2).trans rfl, (blk_cell BK102.out 3).trans rfl, (blk_cell BK102.out 4).trans rfl, (blk_cell BK102.out 5).trans rfl, (blk_cell BK102.out 6).trans rfl, (blk_cell BK102.out 7).trans rfl⟩ (fun hHeld => ?_)
          clear hK K
          refine norm_ (a' := ?_) ?_ ?_
          rotate_left
          · show Act.put _ (some 48) _ = _
            simp only [Act.put, List.setIfInBounds_toArray, List.set_cons_zero, List.set_cons_succ, i64_w, i32_w]
            rfl
          refine pure_ (i := 24) (N := some 49) (v := ?_) (a' := ?_) #[true, true, true, true, true, true, true, true, true, true, true, true, true, true, true, true, true, true, true, true, true, true, true, true, true, false] rfl rfl (any_of HT_.out (by kernel_rfl)) (fun _ _ _ h => h) (Or.inl ⟨by rfl, ?_⟩) ?_ ?_
          rotate_left
          · intro w'
            go_simp
            with_reducible rfl
          rotate_left
          · simp only [Act.put, List.setIfInBounds_toArray, List.set_cons_zero, List.set_cons_succ, i64_w, i32_w]
            rfl
          refine pure_ (i := 25) (N := some 4) (v := ?_) (a' := ?_) #[true, true, true, true, true, true, true, true, true, true, true, true, true, true, true, true, true, true, true, true, true, true, true, true, true, true] rfl rfl (any_of HT_.out (by kernel_rfl)) (fun _ _ _ h => h) (Or.inl ⟨by rfl, ?_⟩) ?_ ?_
          rotate_left
          · intro w'
            go_simp
            with_reducible rfl
          rotate_left
          · simp only [Act.put, List.setIfInBounds_toArray, List.set_cons_zero, List.set_cons_succ, i64_w, i32_w]
            rfl
          refine done_ (done_of HT_.out (by kernel_rfl)) ?_
          try go_wp2
          go_ret
          exact ⟨by first | rfl | (simp [errW_none, errW_some] <;> rfl) | (simp [*, errW_none, errW_some] <;> rfl), by repeat (first | (with_reducible first | exact HB.out | apply below_alloc | apply pw_below_drewN | apply below_drew1 | refine below_set ?_ GE101.out | refine below_set ?_ GE102.out) | exact HB.out)⟩
        · rw [if_neg c10] at H
          have c10b0 : (t105 == t108) = false := beq_eq_false_iff_ne.mpr c10
          have c10b1 : (t105 != t108) = true := bne_iff_ne.mpr c10
          exact absurd H (by simp)
      · rw [if_neg c9] at H
        have c9b0 : (t104 == t107) = false := beq_eq_false_iff_ne.mpr c9
        have c9b1 : (t104 != t107) = true := bne_iff_ne.mpr c9
        exact absurd H (by simp)
    · rw [if_neg c8] at H
      have c8b0 : (t103 == t106) = false := beq_eq_false_iff_ne.mpr c8
      have c8b1 : (t103 != t106) = true := bne_iff_ne.mpr c8
      exact absurd H (by simp)
  · rw [if_neg c7] at H
    have c7b0 : (t109 == t110) = false := beq_eq_false_iff_ne.mpr c7
    have c7b1 : (t109 != t110) = true := bne_iff_ne.mpr c7
    exact absurd H (by simp)
end Go.Proofs.Ytocndpddghefhaa.X
end
section
namespace Go.Proofs.Ytocndpddghefhaa.Opn
open Go.ChangeShapes Go.WideShapes Go.Proofs.YtocndpddghefhaaW.PrintWords
set_option linter.unusedVariables false
set_option linter.unusedSimpArgs false
structure Opens (P : Program) (t : TypeId) {α : Type} (d : Kd α) (Ok : α → Prop) : Prop where
  sz : d.sz = P.cellsOf t
  opens : ∀ {H : Type} {enc : TypeId × Value → H} {w : World} {base : Nat} {spare : Nat → Bool} {held : Bool} {fuel : Nat} {cs : List Value} {x : DataW H × List MemPlace},
    DataW.trod enc P w base spare held fuel t cs = some x → (∀ n ∈ x.1.weights P t, n ≤ reachBytes) → ∃ v, d.K w v cs ∧ Ok v
theorem opens_int {P : Program} {t : TypeId} {k : IntKind} (ht : P.underlying t = some (.int k)) (hc : P.cellsOf t = 1) : Opens P t (Kd.int k) (fun n => (Lit.int k n).wf = true) := by
  refine ⟨hc.symm, fun h _ => ?_⟩
  obtain ⟨n, rfl, _, hw⟩ := DataW.trod_int ht h
  exact ⟨n, rfl, hw⟩
theorem opens_bool {P : Program} {t : TypeId} (ht : P.underlying t = some .bool) (hc : P.cellsOf t = 1) : Opens P t Kd.bool (fun _ => True) := by
  refine ⟨hc.symm, fun h _ => ?_⟩
  obtain ⟨n, rfl, _⟩ := DataW.trod_bool ht h
  exact ⟨n, rfl, trivial⟩
theorem opens_string {P : Program} {t : TypeId} (ht : P.underlying t = some .string) (hc : P.cellsOf t = 1) : Opens P t Kd.string (fun s => s.size ≤ 140737488351232) := by
  refine ⟨hc.symm, fun h hw => ?_⟩
  obtain ⟨s, rfl, rfl, hs⟩ := DataW.trod_string ht h
  refine ⟨s, rfl, ?_⟩
  have := hw s.data.toList.length (by simp [DataW.weights])
  rw [Array.length_toList] at this
  exact this
theorem weights_all {H : Type} {P : Program} {e : TypeId} : ∀ {ds : List (DataW H)} {j : Nat} {d : DataW H}, ds[j]? = some d → ∀ n ∈ d.weights P e, n ∈ DataW.weightsAll P e ds
  | d0 :: ds, 0, d, hd, n, hn => by
    simp only [List.getElem?_cons_zero, Option.some.injEq] at hd
    subst hd
    simp only [DataW.weightsAll, List.mem_append]
    exact Or.inl hn
  | d0 :: ds, j + 1, d, hd, n, hn => by
    simp only [List.getElem?_cons_succ] at hd
    simp only [DataW.weightsAll, List.mem_append]
    exact Or.inr (weights_all hd n hn)
  | [], _, _, hd, _, _ => by simp at hd
theorem list_of {α : Type} {n : Nat} {p : Nat → α → Prop} (h : ∀ i, i < n → ∃ x, p i x) : ∃ l : List α, l.length = n ∧ ∀ i x, l[i]? = some x → p i x := by
  induction n with
  | zero => exact ⟨[], rfl, fun i x hx => by simp at hx⟩
  | succ n ih =>
    obtain ⟨l, hl, hp⟩ := ih (fun i hi => h i (by omega))
    obtain ⟨x, hx⟩ := h n (by omega)
    refine ⟨l ++ [x], by simp [hl], fun i y hy => ?_⟩
    by_cases hi : i < l.length
    · rw [List.getElem?_append_left hi] at hy
      exact hp i y hy
    · rw [List.getElem?_append_right (by omega)] at hy
      have : i - l.length = 0 := by
        cases hk : i - l.length with
        | zero => rfl
        | succ m => rw [hk] at hy; simp at hy
      rw [this] at hy
      simp at hy
      subst hy
      have : i = n := by omega
      subst this
      exact hx
theorem opens_slice {P : Program} {t e : TypeId} {α : Type} {d : Kd α} {Ok : α → Prop} (h : Opens P e d Ok) (ht : P.underlying t = some (.slice e)) (hc : P.cellsOf t = 1) {B : Nat} (hB : P.bytesOf e = B) :
    Opens P t (Kd.slice e d) (fun l => l.length ≤ maxLen ∧ l.length * B ≤ 140737488351232 ∧ ∀ x ∈ l, Ok x) := by
  subst hB
  refine ⟨hc.symm, fun {H enc w base spare held fuel cs x} hx hw => ?_⟩
  rcases DataW.trod_slice ht hx with ⟨rfl, rfl⟩ | ⟨a, len, cap, elems, rest, n, _, rfl, rfl, hb, hl, hm, hlen, hel, hsp, hns⟩
  · exact ⟨[], ⟨none, 0, rfl, Nat.le_refl _, Kd.C_nil _ _⟩, by simp⟩
  simp only [DataW.weights, ht] at hw
  have hw1 : (elems.length + rest.length) * P.bytesOf e ≤ reachBytes := by
    have := hw ((elems.length + rest.length) * P.bytesOf e) (by simp)
    exact this
  have hone : ∀ i, i < len → ∃ v : α, ∃ c, w.cells? base (a.add (i * P.cellsOf e)) (P.cellsOf e) = some c ∧ d.K w v c ∧ Ok v := by
    intro i hi
    have h1 := hel i hi
    rw [List.getElem?_eq_getElem (by omega)] at h1
    obtain ⟨c, hc1, hc2⟩ := Option.bind_eq_some_iff.1 h1
    obtain ⟨v, hv, hok⟩ := h.opens hc2 (fun n hn => hw n (by
      simp only [List.mem_cons, List.mem_append]
      right; left
      refine weights_all (j := i) ?_ n hn
      rw [List.getElem?_map, List.getElem?_eq_getElem (by omega)]
      rfl))
    exact ⟨v, c, hc1, hv, hok⟩
  obtain ⟨l, hl1, hl2⟩ := list_of hone
  subst hl1
  refine ⟨l, ⟨some a, cap, rfl, hl, rfl, ?_, fun _ => ⟨a, rfl, fun j p hj => ?_⟩⟩, ?_, ?_, ?_⟩
  · unfold maxLen at hm; omega
  · obtain ⟨c, hc1, hc2, _⟩ := hl2 j p hj
    obtain ⟨_, hlen2, hcell⟩ := World.cells?_some hc1
    refine ⟨c, by rw [h.sz]; exact hlen2, hc2, fun i u hu => ?_⟩
    have hi : i < P.cellsOf e := by
      have := (List.getElem?_eq_some_iff.1 hu).1
      omega
    have := hcell i hi
    rw [hu, ← Deep.add_add, h.sz] at *
    exact this
  · exact Nat.le_trans hl hm
  · have h2 : l.length * P.bytesOf e ≤ (elems.length + rest.length) * P.bytesOf e := Nat.mul_le_mul_right _ (by omega)
    exact Nat.le_trans h2 hw1
  · intro x hx
    obtain ⟨j, hj⟩ := List.getElem?_of_mem hx
    obtain ⟨c, _, _, ho⟩ := hl2 j x hj
    exact ho
structure OpensF (P : Program) (fs : List Field) (off : Nat) {α : Type} (d : Kd α) (Ok : α → Prop) : Prop where
  opens : ∀ {H : Type} {enc : TypeId × Value → H} {w : World} {base : Nat} {spare : Nat → Bool} {held : Bool} {n : Nat} {cs : List Value} {xs : List (DataW H × List MemPlace)},
    xs.length = fs.length → (∀ (i : Nat) (f : Field), fs[i]? = some f → DataW.trod enc P w base spare held n f.type ((cs.drop f.offset).take (P.cellsOf f.type)) = xs[i]?) →
    (∀ m ∈ DataW.weightsEach P (fs.map (·.type)) (xs.map (·.1)), m ≤ reachBytes) → ∃ v, d.K w v ((cs.drop off).take d.sz) ∧ Ok v
theorem opensF_one {P : Program} {f : Field} {off : Nat} {α : Type} {d : Kd α} {Ok : α → Prop} (h : Opens P f.type d Ok) (ho : f.offset = off) : OpensF P [f] off d Ok := by
  refine ⟨fun {H enc w base spare held n cs xs} hl hx hw => ?_⟩
  match xs, hl with
  | [x], _ =>
    have h1 := hx 0 f rfl
    obtain ⟨v, hv, hok⟩ := h.opens h1 (fun n hn => hw n (by simpa [DataW.weightsEach] using hn))
    refine ⟨v, ?_, hok⟩
    rw [h.sz, ← ho]
    exact hv
theorem opensF_cons {P : Program} {f : Field} {fs : List Field} {off : Nat} {α β : Type} {d : Kd α} {d' : Kd β} {Ok : α → Prop} {Ok' : β → Prop} (h : Opens P f.type d Ok) (ho : f.offset = off) (h' : OpensF P fs (off + d.sz) d' Ok') :
    OpensF P (f :: fs) off (Kd.pair d d') (fun p => Ok p.1 ∧ Ok' p.2) := by
  refine ⟨fun {H enc w base spare held n cs xs} hl hx hw => ?_⟩
  match xs, hl with
  | x :: xs, hl =>
    have h1 := hx 0 f rfl
    obtain ⟨v, hv, hok⟩ := h.opens h1 (fun n hn => hw n (by
      simp only [List.map_cons, DataW.weightsEach, List.mem_append]; exact Or.inl hn))
    obtain ⟨v', hv', hok'⟩ := h'.opens (cs := cs) (xs := xs) (by simpa using hl) (fun i g hg => by
      have := hx (i + 1) g (by simpa using hg)
      simpa using this) (fun m hm => hw m (by simp only [List.map_cons, DataW.weightsEach, List.mem_append]; exact Or.inr hm))
    refine ⟨(v, v'), ⟨(cs.drop off).take d.sz, (cs.drop (off + d.sz)).take d'.sz, ?_, ?_, hv'⟩, hok, hok'⟩
    · show (cs.drop off).take (d.sz + d'.sz) = _
      rw [List.take_add, List.drop_drop]
    · rw [h.sz, ← ho]; exact hv
theorem opens_struct {P : Program} {t : TypeId} {fs : Array Field} {α β : Type} {d : Kd α} {Ok : α → Prop} (h : OpensF P fs.toList 0 d Ok) (ht : P.underlying t = some (.struct fs)) (hc : d.sz = P.cellsOf t) (f : β → α) (mk : α → β) (hf : ∀ a, f (mk a) = a) :
    Opens P t (Kd.iso d f) (fun b => Ok (f b)) := by
  refine ⟨hc, fun {H enc w base spare held fuel cs x} hx hw => ?_⟩
  obtain ⟨xs, n, _, rfl, hlen, hsz, hall⟩ := DataW.trod_struct ht hx
  simp only [DataW.weights, ht] at hw
  obtain ⟨v, hv, hok⟩ := h.opens (cs := cs) (xs := xs) (by simpa using hsz) (fun i f hf => hall i f (by simpa using hf)) hw
  refine ⟨mk v, ?_, by rw [hf]; exact hok⟩
  show d.K w (f (mk v)) cs
  rw [hf]
  rw [List.drop_zero, hc, ← hlen, List.take_length] at hv
  exact hv
theorem opens_imp {P : Program} {t : TypeId} {α : Type} {d : Kd α} {Ok Ok' : α → Prop} (h : Opens P t d Ok) (hi : ∀ v, Ok v → Ok' v) : Opens P t d Ok' :=
  ⟨h.sz, fun hx hw => let ⟨v, hv, ho⟩ := h.opens hx hw; ⟨v, hv, hi v ho⟩⟩
end Go.Proofs.Ytocndpddghefhaa.Opn
end
section
namespace Go.Proofs.Ytocndpddghefhaa.X
open Go.RowKit Go.Proofs.YtocndpddghefhaaW.PrintWords Go.Proofs.YtocndpddghefhaaW.PrintLast Go.Proofs.YtocndpddghefhaaW.PrintMore
attribute [local go_sem] max2_int min2_int max_two min_two max_three min_three max_four min_four
set_option linter.unusedVariables false
set_option linter.unusedSimpArgs false
def ok49 (v : S49) : Prop := (Lit.int .i64 v.f0).wf = true ∧ ((Lit.int .i64 v.f1).wf = true ∧ ((Lit.int .i64 v.f2).wf = true))
theorem opens49 : Opn.Opens Try.prog 49 k49 ok49 := by
  have hu := Try.underlying49
  refine Opn.opens_imp (Opn.opens_struct (Ok := fun (p : Int × (Int × (Int))) => (Lit.int .i64 p.1).wf = true ∧ ((Lit.int .i64 p.2.1).wf = true ∧ ((Lit.int .i64 p.2.2).wf = true))) ?hF hu (by kernel_rfl) (fun x : S49 => (x.f0, x.f1, x.f2)) (fun a => ⟨a.1, a.2.1, a.2.2⟩) (fun _ => rfl)) ?hI
  case hF =>
    refine Opn.opensF_cons (Ok := fun (p : Int) => (Lit.int .i64 p).wf = true) (Ok' := fun (p : Int × (Int)) => (Lit.int .i64 p.1).wf = true ∧ ((Lit.int .i64 p.2).wf = true)) (h := ?_) (ho := ?_) (h' := ?_)
    · exact Opn.opens_int Try.underlying3 (by kernel_rfl)
    · rfl
    · skip
      refine Opn.opensF_cons (Ok := fun (p : Int) => (Lit.int .i64 p).wf = true) (Ok' := fun (p : Int) => (Lit.int .i64 p).wf = true) (h := ?_) (ho := ?_) (h' := ?_)
      · exact Opn.opens_int Try.underlying3 (by kernel_rfl)
      · rfl
      · skip
        refine Opn.opensF_one (Ok := fun (p : Int) => (Lit.int .i64 p).wf = true) (h := ?_) (ho := ?_)
        · exact Opn.opens_int Try.underlying3 (by kernel_rfl)
        · rfl
  case hI => exact fun v h => h
def ok34 (v : S34) : Prop := v.f0.size ≤ 140737488351232 ∧ ((Lit.int .i64 v.f1).wf = true ∧ ((Lit.int .i64 v.f2).wf = true ∧ ((Lit.int .i64 v.f3).wf = true ∧ ((Lit.int .i64 v.f4).wf = true ∧ ((Lit.int .i64 v.f5).wf = true ∧ (True))))))
theorem opens34 : Opn.Opens Try.prog 34 k34 ok34 := by
  have hu := Try.underlying34
  refine Opn.opens_imp (Opn.opens_struct (Ok := fun (p : ByteArray × (Int × (Int × (Int × (Int × (Int × (Bool))))))) => p.1.size ≤ 140737488351232 ∧ ((Lit.int .i64 p.2.1).wf = true ∧ ((Lit.int .i64 p.2.2.1).wf = true ∧ ((Lit.int .i64 p.2.2.2.1).wf = true ∧ ((Lit.int .i64 p.2.2.2.2.1).wf = true ∧ ((Lit.int .i64 p.2.2.2.2.2.1).wf = true ∧ (True))))))) ?hF hu (by kernel_rfl) (fun x : S34 => (x.f0, x.f1, x.f2, x.f3, x.f4, x.f5, x.f6)) (fun a => ⟨a.1, a.2.1, a.2.2.1, a.2.2.2.1, a.2.2.2.2.1, a.2.2.2.2.2.1, a.2.2.2.2.2.2⟩) (fun _ => rfl)) ?hI
  case hF =>
    refine Opn.opensF_cons (Ok := fun (p : ByteArray) => p.size ≤ 140737488351232) (Ok' := fun (p : Int × (Int × (Int × (Int × (Int × (Bool)))))) => (Lit.int .i64 p.1).wf = true ∧ ((Lit.int .i64 p.2.1).wf = true ∧ ((Lit.int .i64 p.2.2.1).wf = true ∧ ((Lit.int .i64 p.2.2.2.1).wf = true ∧ ((Lit.int .i64 p.2.2.2.2.1).wf = true ∧ (True)))))) (h := ?_) (ho := ?_) (h' := ?_)
    · exact Opn.opens_string Try.underlying9 (by kernel_rfl)
    · rfl
    · skip
      refine Opn.opensF_cons (Ok := fun (p : Int) => (Lit.int .i64 p).wf = true) (Ok' := fun (p : Int × (Int × (Int × (Int × (Bool))))) => (Lit.int .i64 p.1).wf = true ∧ ((Lit.int .i64 p.2.1).wf = true ∧ ((Lit.int .i64 p.2.2.1).wf = true ∧ ((Lit.int .i64 p.2.2.2.1).wf = true ∧ (True))))) (h := ?_) (ho := ?_) (h' := ?_)
      · exact Opn.opens_int Try.underlying3 (by kernel_rfl)
      · rfl
      · skip
        refine Opn.opensF_cons (Ok := fun (p : Int) => (Lit.int .i64 p).wf = true) (Ok' := fun (p : Int × (Int × (Int × (Bool)))) => (Lit.int .i64 p.1).wf = true ∧ ((Lit.int .i64 p.2.1).wf = true ∧ ((Lit.int .i64 p.2.2.1).wf = true ∧ (True)))) (h := ?_) (ho := ?_) (h' := ?_)
        · exact Opn.opens_int Try.underlying3 (by kernel_rfl)
        · rfl
        · skip
          refine Opn.opensF_cons (Ok := fun (p : Int) => (Lit.int .i64 p).wf = true) (Ok' := fun (p : Int × (Int × (Bool))) => (Lit.int .i64 p.1).wf = true ∧ ((Lit.int .i64 p.2.1).wf = true ∧ (True))) (h := ?_) (ho := ?_) (h' := ?_)
          · exact Opn.opens_int Try.underlying3 (by kernel_rfl)
          · rfl
          · skip
            refine Opn.opensF_cons (Ok := fun (p : Int) => (Lit.int .i64 p).wf = true) (Ok' := fun (p : Int × (Bool)) => (Lit.int .i64 p.1).wf = true ∧ (True)) (h := ?_) (ho := ?_) (h' := ?_)
            · exact Opn.opens_int Try.underlying3 (by kernel_rfl)
            · rfl
            · skip
              refine Opn.opensF_cons (Ok := fun (p : Int) => (Lit.int .i64 p).wf = true) (Ok' := fun (p : Bool) => True) (h := ?_) (ho := ?_) (h' := ?_)
              · exact Opn.opens_int Try.underlying3 (by kernel_rfl)
              · rfl
              · skip
                refine Opn.opensF_one (Ok := fun (p : Bool) => True) (h := ?_) (ho := ?_)
                · exact Opn.opens_bool Try.underlying4 (by kernel_rfl)
                · rfl
  case hI => exact fun v h => h
def ok36 (v : S36) : Prop := (v.f0.length ≤ maxLen ∧ v.f0.length * 24 ≤ 140737488351232 ∧ ∀ x ∈ v.f0, ok49 x) ∧ ((Lit.int .i64 v.f1).wf = true ∧ ((Lit.int .i64 v.f2).wf = true ∧ ((Lit.int .i64 v.f3).wf = true ∧ ((Lit.int .i64 v.f4).wf = true ∧ ((Lit.int .i64 v.f5).wf = true ∧ ((Lit.int .i64 v.f6).wf = true ∧ ((Lit.int .i64 v.f7).wf = true)))))))
theorem opens36 : Opn.Opens Try.prog 36 k36 ok36 := by
  have hu := Try.underlying36
  refine Opn.opens_imp (Opn.opens_struct (Ok := fun (p : List (S49) × (Int × (Int × (Int × (Int × (Int × (Int × (Int)))))))) => (p.1.length ≤ maxLen ∧ p.1.length * 24 ≤ 140737488351232 ∧ ∀ x ∈ p.1, ok49 x) ∧ ((Lit.int .i64 p.2.1).wf = true ∧ ((Lit.int .i64 p.2.2.1).wf = true ∧ ((Lit.int .i64 p.2.2.2.1).wf = true ∧ ((Lit.int .i64 p.2.2.2.2.1).wf = true ∧ ((Lit.int .i64 p.2.2.2.2.2.1).wf = true ∧ ((Lit.int .i64 p.2.2.2.2.2.2.1).wf = true ∧ ((Lit.int .i64 p.2.2.2.2.2.2.2).wf = true)))))))) ?hF hu (by kernel_rfl) (fun x : S36 => (x.f0, x.f1, x.f2, x.f3, x.f4, x.f5, x.f6, x.f7)) (fun a => ⟨a.1, a.2.1, a.2.2.1, a.2.2.2.1, a.2.2.2.2.1, a.2.2.2.2.2.1, a.2.2.2.2.2.2.1, a.2.2.2.2.2.2.2⟩) (fun _ => rfl)) ?hI
  case hF =>
    refine Opn.opensF_cons (Ok := fun (p : List (S49)) => (p.length ≤ maxLen ∧ p.length * 24 ≤ 140737488351232 ∧ ∀ x ∈ p, ok49 x)) (Ok' := fun (p : Int × (Int × (Int × (Int × (Int × (Int × (Int))))))) => (Lit.int .i64 p.1).wf = true ∧ ((Lit.int .i64 p.2.1).wf = true ∧ ((Lit.int .i64 p.2.2.1).wf = true ∧ ((Lit.int .i64 p.2.2.2.1).wf = true ∧ ((Lit.int .i64 p.2.2.2.2.1).wf = true ∧ ((Lit.int .i64 p.2.2.2.2.2.1).wf = true ∧ ((Lit.int .i64 p.2.2.2.2.2.2).wf = true))))))) (h := ?_) (ho := ?_) (h' := ?_)
    · exact Opn.opens_slice (opens49) Try.underlying22 (by kernel_rfl) (B := 24) (by kernel_rfl)
    · rfl
    · skip
      refine Opn.opensF_cons (Ok := fun (p : Int) => (Lit.int .i64 p).wf = true) (Ok' := fun (p : Int × (Int × (Int × (Int × (Int × (Int)))))) => (Lit.int .i64 p.1).wf = true ∧ ((Lit.int .i64 p.2.1).wf = true ∧ ((Lit.int .i64 p.2.2.1).wf = true ∧ ((Lit.int .i64 p.2.2.2.1).wf = true ∧ ((Lit.int .i64 p.2.2.2.2.1).wf = true ∧ ((Lit.int .i64 p.2.2.2.2.2).wf = true)))))) (h := ?_) (ho := ?_) (h' := ?_)
      · exact Opn.opens_int Try.underlying3 (by kernel_rfl)
      · rfl
      · skip
        refine Opn.opensF_cons (Ok := fun (p : Int) => (Lit.int .i64 p).wf = true) (Ok' := fun (p : Int × (Int × (Int × (Int × (Int))))) => (Lit.int .i64 p.1).wf = true ∧ ((Lit.int .i64 p.2.1).wf = true ∧ ((Lit.int .i64 p.2.2.1).wf = true ∧ ((Lit.int .i64 p.2.2.2.1).wf = true ∧ ((Lit.int .i64 p.2.2.2.2).wf = true))))) (h := ?_) (ho := ?_) (h' := ?_)
        · exact Opn.opens_int Try.underlying3 (by kernel_rfl)
        · rfl
        · skip
          refine Opn.opensF_cons (Ok := fun (p : Int) => (Lit.int .i64 p).wf = true) (Ok' := fun (p : Int × (Int × (Int × (Int)))) => (Lit.int .i64 p.1).wf = true ∧ ((Lit.int .i64 p.2.1).wf = true ∧ ((Lit.int .i64 p.2.2.1).wf = true ∧ ((Lit.int .i64 p.2.2.2).wf = true)))) (h := ?_) (ho := ?_) (h' := ?_)
          · exact Opn.opens_int Try.underlying3 (by kernel_rfl)
          · rfl
          · skip
            refine Opn.opensF_cons (Ok := fun (p : Int) => (Lit.int .i64 p).wf = true) (Ok' := fun (p : Int × (Int × (Int))) => (Lit.int .i64 p.1).wf = true ∧ ((Lit.int .i64 p.2.1).wf = true ∧ ((Lit.int .i64 p.2.2).wf = true))) (h := ?_) (ho := ?_) (h' := ?_)
            · exact Opn.opens_int Try.underlying3 (by kernel_rfl)
            · rfl
            · skip
              refine Opn.opensF_cons (Ok := fun (p : Int) => (Lit.int .i64 p).wf = true) (Ok' := fun (p : Int × (Int)) => (Lit.int .i64 p.1).wf = true ∧ ((Lit.int .i64 p.2).wf = true)) (h := ?_) (ho := ?_) (h' := ?_)
              · exact Opn.opens_int Try.underlying3 (by kernel_rfl)
              · rfl
              · skip
                refine Opn.opensF_cons (Ok := fun (p : Int) => (Lit.int .i64 p).wf = true) (Ok' := fun (p : Int) => (Lit.int .i64 p).wf = true) (h := ?_) (ho := ?_) (h' := ?_)
                · exact Opn.opens_int Try.underlying3 (by kernel_rfl)
                · rfl
                · skip
                  refine Opn.opensF_one (Ok := fun (p : Int) => (Lit.int .i64 p).wf = true) (h := ?_) (ho := ?_)
                  · exact Opn.opens_int Try.underlying3 (by kernel_rfl)
                  · rfl
  case hI => exact fun v h => h
end Go.Proofs.Ytocndpddghefhaa.X
end
section
namespace Go.Proofs.Ytocndpddghefhaa.P
open Go.RowKit Go.Proofs.YtocndpddghefhaaW.PrintWords Go.Proofs.YtocndpddghefhaaW.PrintMore Go.Proofs.Ytocndpddghefhaa.X
theorem Ev_succ {α : Type} {g : Nat → Option α} {r : α} (h : Ev (fun k => g (k + 1)) r) : Ev g r := Ev.step (fun _ => rfl) h
theorem Ev_bind {α β : Type} {g : Nat → Option α} {f : Nat → α → Option β} {a : α} {r : β} (h : Ev g a) (k : Ev (fun n => f n a) r) : Ev (fun n => (g n).bind (f n)) r := Ev.bind h k
theorem Ev_id {α : Type} {g : Nat → Option α} {r : α} (h : Ev g r) : Ev (fun n => (g n).bind fun x => some x) r := Ev.bind h (Ev.now _)
theorem w_id {x : Int} (h1 : -9223372036854775808 ≤ x) (h2 : x ≤ 9223372036854775807) : wrap64 x = x := by unfold wrap64; omega
theorem w_succ {i n : Nat} (h : i < n) (hn : n ≤ 9223372036854775807) : wrap64 ((i : Int) + 1) = ((i + 1 : Nat) : Int) := by rw [w_id (by omega) (by omega)]; omega
theorem w_pred {i : Nat} (h : 0 < i) (hn : i ≤ 9223372036854775807) : wrap64 ((i : Int) - 1) = ((i - 1 : Nat) : Int) := by rw [w_id (by omega) (by omega)]; omega
theorem rd_nat (xs : List Int) (i : Nat) (h : i < xs.length) : rd xs (i : Int) = xs[i] := by simp [rd, h]
theorem drop_cons {α : Type} (l : List α) (i : Nat) (h : i < l.length) : l.drop i = l[i] :: l.drop (i + 1) := (List.getElem_cons_drop h).symm
end Go.Proofs.Ytocndpddghefhaa.P
end
section
namespace Go.Proofs.Ytocndpddghefhaa.P
set_option linter.unusedVariables false
set_option linter.unusedSimpArgs false
open Go.RowKit Go.Proofs.YtocndpddghefhaaW.PrintWords Go.Proofs.YtocndpddghefhaaW.PrintMore Go.Proofs.Ytocndpddghefhaa.X
theorem uwrap (n : Int) : IntKind.u64.wrap n = n % 18446744073709551616 := by simp [IntKind.wrap, IntKind.bits, IntKind.signed]
theorem u_id {x : Int} (h1 : 0 ≤ x) (h2 : x < 18446744073709551616) : IntKind.u64.wrap x = x := by rw [uwrap]; omega
def fitsM (n : Int) : Bool := decide (-1152921504606846976 ≤ n) && decide (n ≤ 1152921504606846976)
theorem fitsM_iff (n : Int) : fitsM n = true ↔ -1152921504606846976 ≤ n ∧ n ≤ 1152921504606846976 := by simp [fitsM]
theorem fitsM_f (n : Int) : cents_Fits.f n = some (fitsM n) := by
  unfold cents_Fits.f fitsM
  by_cases h : n ≥ -1152921504606846976
  · rw [if_pos h, decide_eq_true (show -1152921504606846976 ≤ n from h), Bool.true_and]
  · rw [if_neg h, decide_eq_false (show ¬ -1152921504606846976 ≤ n from h), Bool.false_and]
theorem fitsMR_f (n : Int) : contangoref01_Fits.f n = some (fitsM n) := by
  unfold contangoref01_Fits.f fitsM
  by_cases h : n ≥ -1152921504606846976
  · rw [if_pos h, decide_eq_true (show -1152921504606846976 ≤ n from h), Bool.true_and]
  · rw [if_neg h, decide_eq_false (show ¬ -1152921504606846976 ≤ n from h), Bool.false_and]
def szI (n : Int) : Int := if n < 0 then -n else n
theorem szI_rng {n : Int} (h : fitsM n = true) : 0 ≤ szI n ∧ szI n ≤ 1152921504606846976 := by
  rw [fitsM_iff] at h; unfold szI; split <;> omega
theorem szI_pos {n : Int} (h : n ≠ 0) : 1 ≤ szI n := by unfold szI; split <;> omega
theorem size_f {n : Int} (h : fitsM n = true) : cents_size.f n = some (szI n) := by
  rw [fitsM_iff] at h
  unfold cents_size.f szI
  by_cases c : n < 0
  · rw [if_pos c, if_pos c, w_id (by omega) (by omega), u_id (by omega) (by omega)]
  · rw [if_neg c, if_neg c, u_id (by omega) (by omega)]
theorem sizeR_f {n : Int} (h : fitsM n = true) : contangoref01_size.f n = some (szI n) := by
  rw [fitsM_iff] at h
  unfold contangoref01_size.f szI
  by_cases c : n < 0
  · rw [if_pos c, if_pos c, w_id (by omega) (by omega)]
  · rw [if_neg c, if_neg c]
theorem maskN (a : Nat) (ha : a < 18446744073709551616) : Go.bits .and .u64 (a : Int) 4294967295 = ((a % 4294967296 : Nat) : Int) := by
  have h := bits_and_u64_nat a 4294967295 ha (by omega)
  have e : a &&& 4294967295 = a % 4294967296 := Nat.and_two_pow_sub_one_eq_mod a 32
  rw [e] at h
  exact h
theorem divN (a : Nat) : (a : Int) / 4294967296 = ((a / 4294967296 : Nat) : Int) := by omega
theorem mulN (a b : Nat) : (a : Int) * (b : Int) = ((a * b : Nat) : Int) := (Int.natCast_mul a b).symm
theorem addN (a b : Nat) : (a : Int) + (b : Int) = ((a + b : Nat) : Int) := (Int.natCast_add a b).symm
theorem wrapN (a : Nat) (ha : a < 18446744073709551616) : IntKind.u64.wrap (a : Int) = (a : Int) := by rw [uwrap]; omega
theorem wrapM (a : Nat) : IntKind.u64.wrap (a : Int) = ((a % 18446744073709551616 : Nat) : Int) := by rw [uwrap]; omega
theorem mul64_f (x y : Nat) (hx : x < 18446744073709551616) (hy : y < 18446744073709551616) : bits_Mul64.f (x : Int) (y : Int) = some (((x * y / 18446744073709551616 : Nat) : Int), ((x * y % 18446744073709551616 : Nat) : Int)) := by
  obtain ⟨bd, bt, bw, hhi⟩ := Lib.mul64_hi x y hx hy
  have ba := Lib.half_mul_le (a := x / 4294967296) (b := y / 4294967296) (by omega) (by omega)
  have bb := Lib.half_mul_le (a := x / 4294967296) (b := y % 4294967296) (by omega) (by omega)
  have bc := Lib.half_mul_le (a := x % 4294967296) (b := y / 4294967296) (by omega) (by omega)
  have ba' : x / 4294967296 * (y / 4294967296) < 18446744073709551616 := by omega
  have bb' : x / 4294967296 * (y % 4294967296) < 18446744073709551616 := by omega
  have bc' : x % 4294967296 * (y / 4294967296) < 18446744073709551616 := by omega
  have bh1 : x / 4294967296 * (y / 4294967296) + (x / 4294967296 * (y % 4294967296) + x % 4294967296 * (y % 4294967296) / 4294967296) / 4294967296 < 18446744073709551616 := by omega
  have bh : x / 4294967296 * (y / 4294967296) + (x / 4294967296 * (y % 4294967296) + x % 4294967296 * (y % 4294967296) / 4294967296) / 4294967296 + ((x / 4294967296 * (y % 4294967296) + x % 4294967296 * (y % 4294967296) / 4294967296) % 4294967296 + x % 4294967296 * (y / 4294967296)) / 4294967296 < 18446744073709551616 := by omega
  unfold bits_Mul64.f
  simp only [maskN x hx, maskN y hy, divN, mulN, addN, wrapN _ bd, wrapN _ bb', wrapN _ bt, maskN _ bt, wrapN _ bc', wrapN _ bw, wrapN _ ba', wrapN _ bh1, wrapN _ bh, wrapM (x * y)]
  rw [hhi]
def awayP (m : Int) (bl : Bool) (q r y : Int) : Bool := if m = 5 then decide (y - r < r) || (r == y - r && q % 2 == 1) else awayAll m bl
def mdQ (a b c : Int) : Int := szI a * szI b / szI c
def mdR (a b c : Int) : Int := szI a * szI b % szI c
def mdN (a b c m : Int) : Int := if 0 < mdR a b c ∧ awayP m (belowB a b c) (mdQ a b c) (mdR a b c) (szI c) = true then mdQ a b c + 1 else mdQ a b c
def mdV (a b c m : Int) : Int × Int := if 1152921504606846976 < mdN a b c m then (0, 3) else (if belowB a b c = true then -mdN a b c m else mdN a b c m, 0)
def mulDiv (a b c m : Int) : Int × Int := if fitsM a = true ∧ fitsM b = true ∧ fitsM c = true ∧ 1 ≤ m ∧ m ≤ 5 then (if c = 0 then (0, 4) else mdV a b c m) else (0, 2)
theorem mdR_rng {a b c : Int} (ha : fitsM a = true) (hb : fitsM b = true) (hc : fitsM c = true) (h0 : c ≠ 0) : 0 ≤ mdQ a b c ∧ 0 ≤ mdR a b c ∧ mdR a b c < szI c ∧ mdQ a b c ≤ szI a * szI b := by
  have ra := szI_rng ha
  have rb := szI_rng hb
  have pc := szI_pos h0
  have hp := Int.mul_nonneg ra.1 rb.1
  unfold mdQ mdR
  refine ⟨Int.ediv_nonneg hp (by omega), Int.emod_nonneg _ (by omega), Int.emod_lt_of_pos _ (by omega), ?_⟩
  exact Int.ediv_le_self _ hp
theorem div64_0 (k : Nat) {lo y : Int} (h1 : 0 ≤ lo) (h2 : lo < 18446744073709551616) (hy : 1 ≤ y) : bits_Div64.f k 0 lo y = some (lo / y, lo % y) := by
  unfold bits_Div64.f
  have e1 := Int.tdiv_eq_ediv_of_nonneg (b := y) h1
  have e2 := Int.tmod_eq_emod_of_nonneg (b := y) h1
  have b1 := Int.ediv_nonneg h1 (show 0 ≤ y by omega)
  have b2 := Int.ediv_le_self y h1
  rw [if_neg (by omega), if_neg (by omega), if_pos rfl, e1, e2, u_id (by omega) (by omega)]
theorem signed_f {q : Int} (bl : Bool) (h : 0 ≤ q) (h2 : q ≤ 2305843009213693953) : cents_signed.f q bl = some (if 1152921504606846976 < q then (0, 3) else (if bl = true then -q else q, 0)) := by
  unfold cents_signed.f
  by_cases c : q > 1152921504606846976
  · rw [if_pos c, if_pos (show 1152921504606846976 < q from c)]
  · rw [if_neg c, if_neg (show ¬ 1152921504606846976 < q from c)]
    have e : wrap64 q = q := w_id (by omega) (by omega)
    have e2 : wrap64 (-q) = -q := w_id (by omega) (by omega)
    rw [e, e2]
    cases bl <;> rfl
theorem awayB_P {m : Int} {bl : Bool} {q r y : Int} (hq : 0 ≤ q) (hr : 0 ≤ r) (hry : r < y) (hy : y ≤ 1152921504606846976) : awayB m bl q r y = awayP m bl q r y := by
  unfold awayB awayP
  have e : IntKind.u64.wrap (y - r) = y - r := u_id (by omega) (by omega)
  have e2 := Int.tmod_eq_emod_of_nonneg (b := 2) hq
  rw [e, e2]
theorem mulDiv_f (k : Nat) (a b c m : Int) (h : szI a * szI b < 18446744073709551616) : cents_MulDiv.f k a b c m = some (mulDiv a b c m) := by
  unfold cents_MulDiv.f mulDiv
  simp only [fitsM_f, Option.bind_some]
  by_cases c1 : fitsM a = true ∧ fitsM b = true ∧ fitsM c = true ∧ 1 ≤ m ∧ m ≤ 5
  · rw [if_pos c1, if_pos c1]
    obtain ⟨ha, hb, hc, hm1, hm2⟩ := c1
    by_cases c2 : c = 0
    · rw [if_pos c2, if_pos c2]
    · rw [if_neg c2, if_neg c2, size_f ha, size_f hb, size_f hc]
      simp only [Option.bind_some]
      have ra := szI_rng ha
      have rb := szI_rng hb
      have rc := szI_rng hc
      have pc := szI_pos c2
      have hR := mdR_rng ha hb hc c2
      have hp := Int.mul_nonneg ra.1 rb.1
      have e0 : bits_Mul64.f (szI a) (szI b) = some (0, szI a * szI b) := by
        obtain ⟨x, hx⟩ : ∃ x : Nat, szI a = (x : Int) := ⟨(szI a).toNat, by omega⟩
        obtain ⟨y, hy⟩ : ∃ y : Nat, szI b = (y : Int) := ⟨(szI b).toNat, by omega⟩
        rw [hx, hy] at h
        rw [hx, hy, mul64_f x y (by omega) (by omega)]
        rw [mulN] at h ⊢
        have hxy : x * y < 18446744073709551616 := by omega
        rw [Nat.div_eq_of_lt hxy, Nat.mod_eq_of_lt hxy]
        rfl
      rw [e0]
      simp only [Option.bind_some]
      rw [if_neg (by omega), div64_0 k hp h pc]
      simp only [Option.bind_some]
      show (if 1152921504606846976 < mdQ a b c then some (0, 3) else cents_signed.f (if 0 < mdR a b c ∧ awayB m (belowB a b c) (mdQ a b c) (mdR a b c) (szI c) = true then IntKind.u64.wrap (mdQ a b c + 1) else mdQ a b c) (belowB a b c)) = some (mdV a b c m)
      rw [awayB_P hR.1 hR.2.1 hR.2.2.1 rc.2]
      unfold mdV
      by_cases c3 : 1152921504606846976 < mdQ a b c
      · have : 1152921504606846976 < mdN a b c m := by unfold mdN; split <;> omega
        rw [if_pos c3, if_pos this]
      · rw [if_neg c3]
        have e1 : IntKind.u64.wrap (mdQ a b c + 1) = mdQ a b c + 1 := u_id (by omega) (by omega)
        rw [e1]
        show cents_signed.f (mdN a b c m) (belowB a b c) = _
        have : 0 ≤ mdN a b c m ∧ mdN a b c m ≤ 1152921504606846977 := by unfold mdN; split <;> omega
        rw [signed_f _ this.1 (by omega)]
  · rw [if_neg c1, if_neg c1]
def cap61 (n : Int) : Int := if n > 2305843009213693952 then 2305843009213693952 else n
theorem step61 {N b c t N' : Int} (hc : 0 < c) (hN : 0 ≤ N) (hb : 0 ≤ b) (hN' : N' = 2 * N + b) (ht : t = (2 * (N % c) + b)) : cap61 (2 * cap61 (N / c) + t / c) = cap61 (N' / c) ∧ t % c = N' % c := by
  have hd := Int.mul_ediv_add_emod N c
  have h1 : N' = t + c * (2 * (N / c)) := by
    have e : c * (2 * (N / c)) = 2 * (c * (N / c)) := by rw [Int.mul_left_comm]
    rw [e]; omega
  have h2 : N' / c = t / c + 2 * (N / c) := by rw [h1, Int.add_mul_ediv_left _ _ (by omega)]
  have h3 : N' % c = t % c := by rw [h1, Int.add_mul_emod_self_left]
  have ht0 : 0 ≤ t / c := Int.ediv_nonneg (by have := Int.emod_nonneg N (show c ≠ 0 by omega); omega) (by omega)
  have hq0 : 0 ≤ N / c := Int.ediv_nonneg hN (by omega)
  refine ⟨?_, h3.symm⟩
  rw [h2]
  unfold cap61
  generalize N / c = u at *
  generalize t / c = v at *
  repeat' split
  all_goals omega
theorem quotLoop (a b c : Int) (ha : 0 ≤ a ∧ a ≤ 1152921504606846976) (hb : 0 ≤ b ∧ b ≤ 1152921504606846976) (hc : 1 ≤ c ∧ c ≤ 1152921504606846976) : ∀ (n : Nat), n ≤ 61 →
    Ev (fun k => contangoref01_quotient.l0 k a b c (cap61 (a / 2 ^ n * b / c)) (a / 2 ^ n * b % c) ((n : Int) - 1)) (cap61 (a * b / c), a * b % c)
  | 0, _ => by
    refine Ev_succ ?_
    simp only [contangoref01_quotient.l0, if_neg (show ¬ (((0 : Nat) : Int) - 1 ≥ 0) by omega)]
    have e : a / 2 ^ 0 = a := by rw [Int.pow_zero, Int.ediv_one]
    rw [e]
    exact Ev.now _
  | n + 1, hn => by
    have ih := quotLoop a b c ha hb hc n (by omega)
    have en : ((n + 1 : Nat) : Int) - 1 = (n : Int) := by omega
    have eu : IntKind.u64.wrap (n : Int) = (n : Int) := u_id (by omega) (by omega)
    have ew : wrap64 ((n : Int) - 1) = (n : Int) - 1 := w_id (by omega) (by omega)
    have esh : shr .i64 a (n : Int) = a / 2 ^ n := shr_small rfl (by show (n : Int) ≤ ((64 : Nat) : Int); omega) |>.symm
    have hpow : (2 : Int) ^ (n + 1) = 2 ^ n * 2 := Int.pow_succ 2 n
    have hp1 : 0 < (2 : Int) ^ n := Int.pow_pos (by omega)
    have hA0 : 0 ≤ a / 2 ^ n := Int.ediv_nonneg ha.1 (by omega)
    have hA : a / 2 ^ (n + 1) = a / 2 ^ n / 2 := by rw [hpow, Int.ediv_ediv_of_nonneg (by omega)]
    have hA1 : 0 ≤ a / 2 ^ (n + 1) := by rw [hA]; omega
    obtain ⟨A, hAd⟩ : ∃ A, a / 2 ^ n = A := ⟨_, rfl⟩
    rw [hAd] at ih esh hA hA0
    have hN0 : 0 ≤ A / 2 * b := Int.mul_nonneg (by omega) hb.1
    have hr1 := Int.emod_nonneg (A / 2 * b) (show c ≠ 0 by omega)
    have hr2 := Int.emod_lt_of_pos (A / 2 * b) (show 0 < c by omega)
    have hq0 : 0 ≤ A / 2 * b / c := Int.ediv_nonneg hN0 (by omega)
    have hcap : 0 ≤ cap61 (A / 2 * b / c) ∧ cap61 (A / 2 * b / c) ≤ 2305843009213693952 := by unfold cap61; split <;> omega
    have etm := Int.tmod_eq_emod_of_nonneg (b := 2) hA0
    rw [hA, en]
    refine Ev_succ ?_
    simp only [contangoref01_quotient.l0, if_pos (show (n : Int) ≥ 0 by omega), eu, if_pos (show 0 ≤ (n : Int) by omega), esh, etm, if_neg (show ¬ c = 0 by omega), ew]
    have key : ∀ t : Int, 0 ≤ t → t ≤ 3458764513820540928 → (∃ bb, 0 ≤ bb ∧ A * b = 2 * (A / 2 * b) + bb ∧ t = 2 * (A / 2 * b % c) + bb) →
        Ev (fun k => if wrap64 (wrap64 (2 * cap61 (A / 2 * b / c)) + wrap64 (t.tdiv c)) > 2305843009213693952 then contangoref01_quotient.l0 k a b c 2305843009213693952 (t.tmod c) ((n : Int) - 1) else contangoref01_quotient.l0 k a b c (wrap64 (wrap64 (2 * cap61 (A / 2 * b / c)) + wrap64 (t.tdiv c))) (t.tmod c) ((n : Int) - 1)) (cap61 (a * b / c), a * b % c) := by
      rintro t t0 t1 ⟨bb, hbb, hAb, ht⟩
      obtain ⟨s1, s2⟩ := step61 (by omega) hN0 hbb hAb ht
      have d1 : t.tdiv c = t / c := Int.tdiv_eq_ediv_of_nonneg t0
      have d2 : t.tmod c = t % c := Int.tmod_eq_emod_of_nonneg t0
      have d3 := Int.ediv_nonneg t0 (show 0 ≤ c by omega)
      have d4 := Int.ediv_le_self c t0
      have e1 : wrap64 (2 * cap61 (A / 2 * b / c)) = 2 * cap61 (A / 2 * b / c) := w_id (by omega) (by omega)
      have e2 : wrap64 (t / c) = t / c := w_id (by omega) (by omega)
      have e3 : wrap64 (2 * cap61 (A / 2 * b / c) + t / c) = 2 * cap61 (A / 2 * b / c) + t / c := w_id (by omega) (by omega)
      rw [d1, d2, e1, e2, e3, s2]
      have hs : cap61 (2 * cap61 (A / 2 * b / c) + t / c) = if 2 * cap61 (A / 2 * b / c) + t / c > 2305843009213693952 then 2305843009213693952 else 2 * cap61 (A / 2 * b / c) + t / c := rfl
      by_cases cc : 2 * cap61 (A / 2 * b / c) + t / c > 2305843009213693952
      · rw [if_pos cc] at hs
        simp only [if_pos cc]
        rw [← s1, hs] at ih
        exact ih
      · rw [if_neg cc] at hs
        simp only [if_neg cc]
        rw [← s1, hs] at ih
        exact ih
    have e4 : wrap64 (2 * (A / 2 * b % c)) = 2 * (A / 2 * b % c) := w_id (by omega) (by omega)
    have e5 : wrap64 (2 * (A / 2 * b % c) + b) = 2 * (A / 2 * b % c) + b := w_id (by omega) (by omega)
    simp only [e4, e5]
    by_cases cb : A % 2 = 1
    · simp only [if_pos cb]
      refine key _ (by omega) (by omega) ⟨b, hb.1, ?_, rfl⟩
      have : A = 2 * (A / 2) + 1 := by omega
      calc A * b = (2 * (A / 2) + 1) * b := by rw [← this]
        _ = 2 * (A / 2 * b) + b := by rw [Int.add_mul, Int.one_mul, Int.mul_assoc]
    · simp only [if_neg cb]
      refine key _ (by omega) (by omega) ⟨0, Int.le_refl _, ?_, by omega⟩
      have : A = 2 * (A / 2) := by omega
      calc A * b = (2 * (A / 2)) * b := by rw [← this]
        _ = 2 * (A / 2 * b) + 0 := by rw [Int.mul_assoc, Int.add_zero]
theorem quot_f {a b c : Int} (ha : 0 ≤ a ∧ a ≤ 1152921504606846976) (hb : 0 ≤ b ∧ b ≤ 1152921504606846976) (hc : 1 ≤ c ∧ c ≤ 1152921504606846976) : Ev (fun k => contangoref01_quotient.f k a b c) (cap61 (a * b / c), a * b % c) := by
  have h := quotLoop a b c ha hb hc 61 (Nat.le_refl _)
  have e : a / 2 ^ 61 = 0 := Int.ediv_eq_zero_of_lt ha.1 (by have : (2 : Int) ^ 61 = 2305843009213693952 := by decide
                                                             omega)
  rw [e, Int.zero_mul, Int.zero_ediv, Int.zero_emod] at h
  exact h
theorem awayR_f {m : Int} {bl : Bool} {q r y : Int} (hm : 1 ≤ m ∧ m ≤ 5) (hq : 0 ≤ q) (hr : 0 ≤ r) (hry : r < y) (hy : y ≤ 1152921504606846976) : contangoref01_away.f q r y m bl = some (awayP m bl q r y) := by
  have e : wrap64 (y - r) = y - r := w_id (by omega) (by omega)
  have e2 := Int.tmod_eq_emod_of_nonneg (b := 2) hq
  unfold contangoref01_away.f awayP
  rw [e, e2]
  by_cases c2 : m = 2
  · subst c2; rfl
  · rw [if_neg c2]
    by_cases c3 : m = 3
    · subst c3; cases bl <;> rfl
    · rw [if_neg c3]
      by_cases c4 : m = 4
      · subst c4; cases bl <;> rfl
      · rw [if_neg c4]
        by_cases c5 : m = 5
        · rw [if_pos c5, if_pos c5]
          by_cases d1 : r > y - r
          · rw [if_pos d1, decide_eq_true (show y - r < r from d1), Bool.true_or]
          · rw [if_neg d1, decide_eq_false (show ¬ y - r < r from d1), Bool.false_or]
            by_cases d2 : r = y - r
            · rw [if_pos d2, beq_iff_eq.2 d2, Bool.true_and]
            · rw [if_neg d2, beq_eq_false_iff_ne.2 d2, Bool.false_and]
        · rw [if_neg c5, if_neg c5]
          unfold awayAll
          rw [beq_eq_false_iff_ne.2 c2, beq_eq_false_iff_ne.2 c3, beq_eq_false_iff_ne.2 c4]
          rfl
theorem j2R_f {q : Int} (bl : Bool) (h : 0 ≤ q) (h2 : q ≤ 2305843009213693953) : Ev (fun k => contangoref01_MulDiv.j2 k q bl) (if 1152921504606846976 < q then (0, 3) else (if bl = true then -q else q, 0)) := by
  refine Ev_succ ?_
  by_cases c : q > 1152921504606846976
  · rw [if_pos (show 1152921504606846976 < q from c)]
    simp only [contangoref01_MulDiv.j2, if_pos c]
    exact Ev.now _
  · rw [if_neg (show ¬ 1152921504606846976 < q from c)]
    have e2 : wrap64 (-q) = -q := w_id (by omega) (by omega)
    simp only [contangoref01_MulDiv.j2, if_neg c, e2]
    cases bl
    · simp only [Bool.false_eq_true, if_false]; exact Ev.now _
    · simp only [if_true]; exact Ev.now _
theorem j1R_f {q : Int} (bl u : Bool) (h : 0 ≤ q) (h2 : q ≤ 2305843009213693952) : Ev (fun k => contangoref01_MulDiv.j1 k q bl u) (if 1152921504606846976 < (if u = true then q + 1 else q) then (0, 3) else (if bl = true then -(if u = true then q + 1 else q) else (if u = true then q + 1 else q), 0)) := by
  refine Ev_succ ?_
  have e : wrap64 (q + 1) = q + 1 := w_id (by omega) (by omega)
  cases u
  · simp only [contangoref01_MulDiv.j1, Bool.false_eq_true, if_false]
    exact j2R_f bl h (by omega)
  · simp only [contangoref01_MulDiv.j1, if_true, e]
    exact j2R_f bl (by omega) (by omega)
theorem mulDivR_f (a b c m : Int) : Ev (fun k => contangoref01_MulDiv.f k a b c m) (mulDiv a b c m) := by
  unfold contangoref01_MulDiv.f mulDiv
  have bad : Ev (fun k => contangoref01_MulDiv.j0 k a b c m true) (0, 2) := by
    refine Ev_succ ?_
    simp only [contangoref01_MulDiv.j0, if_true]
    exact Ev.now _
  simp only [fitsMR_f, Option.bind_some]
  by_cases ha : fitsM a = true
  case neg => rw [if_neg (fun h => ha h.1)]; simp only [if_neg ha]; exact bad
  by_cases hb : fitsM b = true
  case neg => rw [if_neg (fun h => hb h.2.1)]; simp only [if_pos ha, if_neg hb]; exact bad
  by_cases hc : fitsM c = true
  case neg => rw [if_neg (fun h => hc h.2.2.1)]; simp only [if_pos ha, if_pos hb, if_neg hc]; exact bad
  simp only [if_pos ha, if_pos hb, if_pos hc]
  by_cases hm1 : m < 1
  · rw [if_neg (by omega)]; simp only [if_pos hm1]; exact bad
  simp only [if_neg hm1]
  by_cases hm2 : m > 5
  · rw [if_neg (by omega), decide_eq_true hm2]; exact bad
  rw [if_pos ⟨ha, hb, hc, by omega, by omega⟩, decide_eq_false hm2]
  refine Ev_succ ?_
  simp only [contangoref01_MulDiv.j0, Bool.false_eq_true, if_false]
  by_cases c0 : c = 0
  · rw [if_pos c0]; simp only [if_pos c0]; exact Ev.now _
  rw [if_neg c0]
  simp only [if_neg c0, sizeR_f ha, sizeR_f hb, sizeR_f hc, Option.bind_some]
  have ra := szI_rng ha
  have rb := szI_rng hb
  have rc := szI_rng hc
  have pc := szI_pos c0
  have hR := mdR_rng ha hb hc c0
  refine Ev_bind (quot_f ra rb ⟨pc, rc.2⟩) ?_
  have ebl : (!((!((decide (a < 0)) == (decide (b < 0)))) == (decide (c < 0)))) = belowB a b c := rfl
  have ebl2 : (((decide (a < 0)) != (decide (b < 0))) != (decide (c < 0))) = belowB a b c := rfl
  simp only [ebl, ebl2]
  show Ev (fun k => if mdR a b c > 0 then (contangoref01_away.f (cap61 (mdQ a b c)) (mdR a b c) (szI c) m (belowB a b c)).bind fun t => contangoref01_MulDiv.j1 k (cap61 (mdQ a b c)) (belowB a b c) t else contangoref01_MulDiv.j1 k (cap61 (mdQ a b c)) (belowB a b c) false) (mdV a b c m)
  have hcap : 0 ≤ cap61 (mdQ a b c) ∧ cap61 (mdQ a b c) ≤ 2305843009213693952 ∧ (1152921504606846976 < cap61 (mdQ a b c) ↔ 1152921504606846976 < mdQ a b c) ∧ (mdQ a b c ≤ 1152921504606846976 → cap61 (mdQ a b c) = mdQ a b c) := by
    unfold cap61; split
    · refine ⟨by omega, by omega, by omega, by omega⟩
    · refine ⟨by omega, by omega, by omega, by omega⟩
  unfold mdV mdN
  by_cases h0 : mdR a b c > 0
  · simp only [if_pos h0, awayR_f (bl := belowB a b c) ⟨show 1 ≤ m by omega, show m ≤ 5 by omega⟩ hcap.1 hR.2.1 hR.2.2.1 rc.2, Option.bind_some]
    have := j1R_f (belowB a b c) (awayP m (belowB a b c) (cap61 (mdQ a b c)) (mdR a b c) (szI c)) hcap.1 hcap.2.1
    by_cases hbig : 1152921504606846976 < mdQ a b c
    · have hb1 := hcap.2.2.1.2 hbig
      rw [if_pos (by split <;> omega)] at this
      rw [if_pos (by split <;> omega)]
      exact this
    · rw [hcap.2.2.2 (by omega)] at this ⊢
      have e : (0 < mdR a b c ∧ awayP m (belowB a b c) (mdQ a b c) (mdR a b c) (szI c) = true) = (awayP m (belowB a b c) (mdQ a b c) (mdR a b c) (szI c) = true) := propext ⟨fun h => h.2, fun h => ⟨h0, h⟩⟩
      simp only [e]
      exact this
  · simp only [if_neg h0]
    have := j1R_f (belowB a b c) false hcap.1 hcap.2.1
    have e : (0 < mdR a b c ∧ awayP m (belowB a b c) (mdQ a b c) (mdR a b c) (szI c) = true) = False := propext ⟨fun h => h0 h.1, False.elim⟩
    simp only [e, if_false]
    simp only [Bool.false_eq_true, if_false] at this
    by_cases hbig : 1152921504606846976 < mdQ a b c
    · have hb1 := hcap.2.2.1.2 hbig
      rw [if_pos hb1] at this
      rw [if_pos hbig]
      exact this
    · rw [hcap.2.2.2 (by omega)] at this ⊢
      exact this
end Go.Proofs.Ytocndpddghefhaa.P
end
section
namespace Go.Proofs.Ytocndpddghefhaa.P
set_option linter.unusedVariables false
set_option linter.unusedSimpArgs false
open Go.RowKit Go.Proofs.YtocndpddghefhaaW.PrintWords Go.Proofs.YtocndpddghefhaaW.PrintMore Go.Proofs.Ytocndpddghefhaa.X
def letterB (n : Int) : Bool := decide (97 ≤ n) && decide (n ≤ 122)
def digitB (n : Int) : Bool := decide (48 ≤ n) && decide (n ≤ 57)
theorem letter_f (n : Int) : words_letter.f n = some (letterB n) := by
  unfold words_letter.f letterB
  by_cases h : 97 ≤ n
  · rw [if_pos h, decide_eq_true h, Bool.true_and]
  · rw [if_neg h, decide_eq_false h, Bool.false_and]
theorem digit_f (n : Int) : words_digit.f n = some (digitB n) := by
  unfold words_digit.f digitB
  by_cases h : 48 ≤ n
  · rw [if_pos h, decide_eq_true h, Bool.true_and]
  · rw [if_neg h, decide_eq_false h, Bool.false_and]
def chB (s : ByteArray) (i : Nat) : Bool := letterB (bt s (i : Int)) || (!(i == 0) && digitB (bt s (i : Int)))
def nameFrom (s : ByteArray) : Nat → Nat → Bool
  | 0, _ => true
  | d + 1, i => chB s i && nameFrom s d (i + 1)
def nameB (s : ByteArray) : Bool := decide (0 < s.size) && decide (s.size ≤ 12) && nameFrom s s.size 0
theorem nameLoop (s : ByteArray) (hs : s.size ≤ 12) (h0 : letterB (bt s 0) = true) : ∀ (d i : Nat), i + d = s.size → Ev (fun k => words_Name.l0 k s s.size i) (nameFrom s d i)
  | 0, i, hd => by
    refine Ev_succ ?_
    simp only [words_Name.l0, if_neg (show ¬ ((i : Int) < (s.size : Int)) by omega)]
    exact Ev.now _
  | d + 1, i, hd => by
    have hi : i < s.size := by omega
    have ih := nameLoop s hs h0 d (i + 1) (by omega)
    refine Ev_succ ?_
    simp only [words_Name.l0, if_pos (show (i : Int) < (s.size : Int) by omega), if_pos (show 0 ≤ (i : Int) by omega), letter_f, digit_f, Option.bind_some, w_succ hi (by omega), nameFrom, chB]
    cases h1 : letterB (bt s (i : Int)) with
    | true => simp only [if_true, Bool.true_or, Bool.true_and]; exact ih
    | false =>
      simp only [Bool.false_eq_true, if_false, Bool.false_or]
      have hi0 : (i == 0) = false := by
        rw [← Bool.not_eq_true, beq_iff_eq]
        rintro rfl
        rw [show ((0 : Nat) : Int) = 0 from rfl, h0] at h1
        cases h1
      simp only [hi0, Bool.not_false, Bool.true_and]
      cases h2 : digitB (bt s (i : Int)) with
      | true => simp only [if_true, Bool.true_and]; exact ih
      | false => simp only [Bool.false_eq_true, if_false, Bool.false_and]; exact Ev.now _
theorem name_f (s : ByteArray) : Ev (fun k => words_Name.f k s) (nameB s) := by
  have hj : nameB s = false → Ev (fun k => words_Name.j0 k s true) (nameB s) := by
    intro h
    rw [h]
    refine Ev_succ ?_
    simp only [words_Name.j0, if_true]
    exact Ev.now _
  unfold words_Name.f
  by_cases c0 : s.toList = []
  · simp only [if_pos c0]
    refine hj ?_
    have : s.size = 0 := by
      have e : s.toList = s.data.toList := ByteArray.toList_eq s
      rw [e] at c0
      have := congrArg List.length c0
      simpa using this
    simp [nameB, this]
  · simp only [if_neg c0]
    by_cases c1 : (s.size : Int) > 12
    · simp only [if_pos c1]
      exact hj (by simp [nameB]; omega)
    · have hp : 0 < s.size := by
        rcases Nat.eq_zero_or_pos s.size with h | h
        · exfalso
          apply c0
          have e : s.toList = s.data.toList := ByteArray.toList_eq s
          rw [e]
          exact List.length_eq_zero_iff.1 (by simpa using h)
        · exact h
      simp only [if_neg c1, if_pos (show 0 < (s.size : Int) by omega), letter_f, Option.bind_some]
      have hn : nameB s = nameFrom s s.size 0 := by
        unfold nameB
        rw [decide_eq_true hp, decide_eq_true (show s.size ≤ 12 by omega)]
        simp
      cases h1 : letterB (bt s 0) with
      | false =>
        refine hj ?_
        rw [hn]
        obtain ⟨d, hd⟩ : ∃ d, s.size = d + 1 := ⟨s.size - 1, by omega⟩
        rw [hd]
        simp [nameFrom, chB, h1]
      | true =>
        refine Ev_succ ?_
        simp only [words_Name.j0, Bool.not_true, Bool.false_eq_true, if_false]
        rw [hn]
        exact nameLoop s (by omega) h1 s.size 0 (by omega)
theorem nameRLoop (s : ByteArray) (hs : s.size ≤ 4611686018427387904) : ∀ (d i : Nat), i + d = s.size → Ev (fun k => contangoref03_Name.l0 k s i) (nameFrom s d i && (decide (0 < s.size) && decide (s.size ≤ 12)))
  | 0, i, hd => by
    refine Ev_succ ?_
    simp only [contangoref03_Name.l0, if_neg (show ¬ ((i : Int) < (s.size : Int)) by omega), nameFrom, Bool.true_and]
    by_cases c : (s.size : Int) > 0
    · simp only [if_pos c, decide_eq_true (show 0 < s.size by omega), Bool.true_and]
      have : decide ((s.size : Int) ≤ 12) = decide (s.size ≤ 12) := by rw [decide_eq_decide]; omega
      rw [this]
      exact Ev.now _
    · simp only [if_neg c, decide_eq_false (show ¬ 0 < s.size by omega), Bool.false_and]
      exact Ev.now _
  | d + 1, i, hd => by
    have hi : i < s.size := by omega
    have ih := nameRLoop s hs d (i + 1) (by omega)
    rw [← w_succ hi (by omega)] at ih
    refine Ev_succ ?_
    simp only [contangoref03_Name.l0, if_pos (show (i : Int) < (s.size : Int) by omega), if_pos (show 0 ≤ (i : Int) by omega), nameFrom]
    have step : chB s i = true → Ev (fun k => contangoref03_Name.l0 k s (wrap64 ((i : Int) + 1))) (chB s i && nameFrom s d (i + 1) && (decide (0 < s.size) && decide (s.size ≤ 12))) := by
      intro h
      rw [h, Bool.true_and]
      exact ih
    have stop : chB s i = false → Ev (fun _ => (some false : Option Bool)) (chB s i && nameFrom s d (i + 1) && (decide (0 < s.size) && decide (s.size ≤ 12))) := by
      intro h
      rw [h, Bool.false_and, Bool.false_and]
      exact Ev.now _
    have rest : letterB (bt s (i : Int)) = false → Ev (fun k => if (i : Int) = 0 then some false else if bt s (i : Int) < 48 then some false else if bt s (i : Int) > 57 then some false else contangoref03_Name.l0 k s (wrap64 ((i : Int) + 1))) (chB s i && nameFrom s d (i + 1) && (decide (0 < s.size) && decide (s.size ≤ 12))) := by
      intro hl
      by_cases c0 : (i : Int) = 0
      · have hi0 : (i == 0) = true := by rw [beq_iff_eq]; omega
        simp only [if_pos c0]
        exact stop (by unfold chB; rw [hl, hi0]; rfl)
      · by_cases c1 : bt s (i : Int) < 48
        · simp only [if_neg c0, if_pos c1]; exact stop (by simp [chB, hl, digitB]; omega)
        · by_cases c2 : bt s (i : Int) > 57
          · simp only [if_neg c0, if_neg c1, if_pos c2]; exact stop (by simp [chB, hl, digitB]; omega)
          · simp only [if_neg c0, if_neg c1, if_neg c2]; exact step (by simp [chB, hl, digitB]; omega)
    by_cases g1 : bt s (i : Int) ≥ 97
    · by_cases g2 : bt s (i : Int) ≤ 122
      · simp only [if_pos g1, if_pos g2]; exact step (by simp [chB, letterB]; omega)
      · simp only [if_pos g1, if_neg g2]; exact rest (by simp [letterB]; omega)
    · simp only [if_neg g1]; exact rest (by simp [letterB]; omega)
theorem nameR_f (s : ByteArray) (hs : s.size ≤ 4611686018427387904) : Ev (fun k => contangoref03_Name.f k s) (nameB s) := by
  have h := nameRLoop s hs s.size 0 (by omega)
  have e : nameB s = (nameFrom s s.size 0 && (decide (0 < s.size) && decide (s.size ≤ 12))) := by
    unfold nameB
    rw [Bool.and_comm]
  rw [e]
  exact h
end Go.Proofs.Ytocndpddghefhaa.P
end
section
namespace Go.Proofs.Ytocndpddghefhaa.P
set_option linter.unusedVariables false
set_option linter.unusedSimpArgs false
open Go.RowKit Go.Proofs.YtocndpddghefhaaW.PrintWords Go.Proofs.YtocndpddghefhaaW.PrintMore Go.Proofs.Ytocndpddghefhaa.X
abbrev Prod9 := S34
theorem Ev_or {α : Type} {g : Nat → Bool → Option α} {a b : Prop} [Decidable a] [Decidable b] {r : α} (ht : (a ∨ b) → Ev (fun k => g k true) r) (hf : ¬ (a ∨ b) → Ev (fun k => g k false) r) : Ev (fun k => if a then g k true else g k (decide b)) r := by
  by_cases ca : a
  · simp only [if_pos ca]; exact ht (Or.inl ca)
  · simp only [if_neg ca]
    by_cases cb : b
    · rw [decide_eq_true cb]; exact ht (Or.inr cb)
    · rw [decide_eq_false cb]; exact hf (fun h => h.elim ca cb)
theorem Ev_if {α : Type} {c : Prop} [Decidable c] {f g : Nat → Option α} {r : α} (h1 : c → Ev f r) (h2 : ¬ c → Ev g r) : Ev (fun k => if c then f k else g k) r := by
  by_cases h : c
  · simp only [if_pos h]; exact h1 h
  · simp only [if_neg h]; exact h2 h
def prodT (p : Prod9) : Int := if -16777216 ≤ p.f4 ∧ p.f4 ≤ 16777216 ∧ -16777216 ≤ p.f5 ∧ p.f5 ≤ 16777216 ∧ p.f4 ≤ p.f5 ∧ Int.tmod p.f4 p.f3 = 0 ∧ Int.tmod p.f5 p.f3 = 0 then 0 else 17
def prodE (p : Prod9) : Int := if nameB p.f0 = true then (if p.f1 < 0 ∨ p.f1 ≥ 8 then 25 else if p.f2 < 1 ∨ p.f2 > 4096 then 2 else if p.f3 < 1 ∨ p.f3 > 16777216 then 16 else prodT p) else 10
theorem pwithin_f (n : Int) : product_within.f n 16777216 = some (decide (-16777216 ≤ n) && decide (n ≤ 16777216)) := by
  unfold product_within.f
  have e : wrap64 (-16777216) = -16777216 := w_id (by omega) (by omega)
  rw [e]
  by_cases h : n ≥ -16777216
  · rw [if_pos h, decide_eq_true (show -16777216 ≤ n from h), Bool.true_and]
  · rw [if_neg h, decide_eq_false (show ¬ -16777216 ≤ n from h), Bool.false_and]
theorem within9_f (n a b : Int) : contangoref09_within.f n a b = some (decide (a ≤ n) && decide (n ≤ b)) := by
  unfold contangoref09_within.f
  by_cases h : n ≥ a
  · rw [if_pos h, decide_eq_true (show a ≤ n from h), Bool.true_and]
  · rw [if_neg h, decide_eq_false (show ¬ a ≤ n from h), Bool.false_and]
theorem within18_f (n a b : Int) : contangoref18_within.f n a b = some (decide (a ≤ n) && decide (n ≤ b)) := by
  unfold contangoref18_within.f
  by_cases h : n ≥ a
  · rw [if_pos h, decide_eq_true (show a ≤ n from h), Bool.true_and]
  · rw [if_neg h, decide_eq_false (show ¬ a ≤ n from h), Bool.false_and]
theorem and_iff (a b : Prop) [Decidable a] [Decidable b] : (decide a && decide b) = true ↔ a ∧ b := by simp
theorem prodT_of {p : Prod9} (h : ¬ (-16777216 ≤ p.f4 ∧ p.f4 ≤ 16777216 ∧ -16777216 ≤ p.f5 ∧ p.f5 ≤ 16777216 ∧ p.f4 ≤ p.f5 ∧ Int.tmod p.f4 p.f3 = 0 ∧ Int.tmod p.f5 p.f3 = 0)) : prodT p = 17 := if_neg h
theorem prod_f (p : Prod9) : Ev (fun k => product_Check.f k p.f0 p.f1 p.f2 p.f3 p.f4 p.f5 p.f6) (prodE p) := by
  have h3 : ¬ (p.f3 < 1 ∨ p.f3 > 16777216) → Ev (fun k => product_Check.j3 k false p.f0 p.f1 p.f2 p.f3 p.f4 p.f5 p.f6) (prodT p) := by
    intro c
    refine Ev_succ ?_
    simp only [product_Check.j3, Bool.false_eq_true, if_false, pwithin_f, Option.bind_some, and_iff]
    refine Ev_if (fun c1 => Ev_if (fun c2 => Ev_if (fun c3 => ?_) fun c3 => Ev_if (fun c4 => by omega) fun c4 => Ev_if (fun c5 => Ev_if (fun c6 => ?_) fun c6 => ?_) fun c5 => ?_) fun c2 => ?_) fun c1 => ?_
    · rw [prodT_of (by omega)]; exact Ev.now _
    · have : prodT p = 0 := if_pos ⟨c1.1, c1.2, c2.1, c2.2, by omega, c5, c6⟩
      rw [this]; exact Ev.now _
    · rw [prodT_of (fun h => c6 h.2.2.2.2.2.2)]; exact Ev.now _
    · rw [prodT_of (fun h => c5 h.2.2.2.2.2.1)]; exact Ev.now _
    · rw [prodT_of (by omega)]; exact Ev.now _
    · rw [prodT_of (by omega)]; exact Ev.now _
  have h0 : nameB p.f0 = true → Ev (fun k => product_Check.j0 k false p.f0 p.f1 p.f2 p.f3 p.f4 p.f5 p.f6) (prodE p) := by
    intro hn
    refine Ev_succ ?_
    unfold prodE
    rw [if_pos hn]
    simp only [product_Check.j0, Bool.false_eq_true, if_false]
    refine Ev_or (g := fun k b => product_Check.j1 k b p.f0 p.f1 p.f2 p.f3 p.f4 p.f5 p.f6) (fun c => ?_) (fun c => ?_)
    · rw [if_pos c]; refine Ev_succ ?_; simp only [product_Check.j1, if_true]; exact Ev.now _
    rw [if_neg c]
    refine Ev_succ ?_
    simp only [product_Check.j1, Bool.false_eq_true, if_false]
    refine Ev_or (g := fun k b => product_Check.j2 k b p.f0 p.f1 p.f2 p.f3 p.f4 p.f5 p.f6) (fun c => ?_) (fun c => ?_)
    · rw [if_pos c]; refine Ev_succ ?_; simp only [product_Check.j2, if_true]; exact Ev.now _
    rw [if_neg c]
    refine Ev_succ ?_
    simp only [product_Check.j2, Bool.false_eq_true, if_false]
    refine Ev_or (g := fun k b => product_Check.j3 k b p.f0 p.f1 p.f2 p.f3 p.f4 p.f5 p.f6) (fun c => ?_) (fun c => ?_)
    · rw [if_pos c]; refine Ev_succ ?_; simp only [product_Check.j3, if_true]; exact Ev.now _
    rw [if_neg c]
    exact h3 c
  have h1 : nameB p.f0 = false → Ev (fun k => product_Check.j0 k true p.f0 p.f1 p.f2 p.f3 p.f4 p.f5 p.f6) (prodE p) := by
    intro hn
    refine Ev_succ ?_
    unfold prodE
    rw [if_neg (by rw [hn]; decide)]
    simp only [product_Check.j0, if_true]
    exact Ev.now _
  unfold product_Check.f
  refine Ev_if (fun c => ?_) (fun c => ?_)
  · refine h1 ?_
    simp only [Bool.and_eq_true, beq_iff_eq] at c
    have e : p.f0.size = 0 := by
      have : p.f0.data.toList = [] := by rw [← ByteArray.toList_eq]; exact c.1
      have h2 : p.f0.data.toList.length = 0 := by rw [this]; rfl
      simpa using h2
    unfold nameB
    rw [e]; rfl
  · refine Ev_bind (name_f p.f0) ?_
    cases hn : nameB p.f0 with
    | true => exact h0 hn
    | false => exact h1 hn
theorem prodR_f (p : Prod9) (hs : p.f0.size ≤ 4611686018427387904) : Ev (fun k => contangoref09_Check.f k p.f0 p.f1 p.f2 p.f3 p.f4 p.f5 p.f6) (prodE p) := by
  unfold contangoref09_Check.f
  refine Ev_bind (nameR_f p.f0 hs) ?_
  unfold prodE
  simp only [within9_f, Option.bind_some, and_iff]
  refine Ev_if (fun c => ?_) (fun c => ?_)
  case refine_2 => rw [if_neg c]; exact Ev.now _
  rw [if_pos c]
  refine Ev_if (fun c => ?_) (fun c => ?_)
  case refine_2 => rw [if_pos (show p.f1 < 0 ∨ p.f1 ≥ 8 by omega)]; exact Ev.now _
  rw [if_neg (show ¬ (p.f1 < 0 ∨ p.f1 ≥ 8) by omega)]
  refine Ev_if (fun c => ?_) (fun c => ?_)
  case refine_2 => rw [if_pos (show p.f2 < 1 ∨ p.f2 > 4096 by omega)]; exact Ev.now _
  rw [if_neg (show ¬ (p.f2 < 1 ∨ p.f2 > 4096) by omega)]
  refine Ev_if (fun c => ?_) (fun c => ?_)
  case refine_2 => rw [if_pos (show p.f3 < 1 ∨ p.f3 > 16777216 by omega)]; exact Ev.now _
  rw [if_neg (show ¬ (p.f3 < 1 ∨ p.f3 > 16777216) by omega)]
  refine Ev_if (fun c1 => Ev_if (fun c2 => Ev_if (fun c3 => ?_) fun c3 => Ev_if (fun c4 => by omega) fun c4 => Ev_if (fun c5 => Ev_if (fun c6 => ?_) fun c6 => ?_) fun c5 => ?_) fun c2 => ?_) fun c1 => ?_
  · rw [prodT_of (by omega)]; exact Ev.now _
  · have : prodT p = 0 := if_pos ⟨c1.1, c1.2, c2.1, c2.2, by omega, c5, c6⟩
    rw [this]; exact Ev.now _
  · rw [prodT_of (fun h => c6 h.2.2.2.2.2.2)]; exact Ev.now _
  · rw [prodT_of (fun h => c5 h.2.2.2.2.2.1)]; exact Ev.now _
  · rw [prodT_of (by omega)]; exact Ev.now _
  · rw [prodT_of (by omega)]; exact Ev.now _
def ProdOk (p : Prod9) : Prop := 1 ≤ p.f3 ∧ p.f3 ≤ 16777216 ∧ -16777216 ≤ p.f4 ∧ p.f4 ≤ 16777216 ∧ -16777216 ≤ p.f5 ∧ p.f5 ≤ 16777216 ∧ p.f4 ≤ p.f5 ∧ Int.tmod p.f4 p.f3 = 0 ∧ Int.tmod p.f5 p.f3 = 0
theorem prodE_zero {p : Prod9} (h : prodE p = 0) : ProdOk p := by
  unfold prodE at h
  by_cases c0 : nameB p.f0 = true
  case neg => rw [if_neg c0] at h; omega
  rw [if_pos c0] at h
  by_cases c1 : p.f1 < 0 ∨ p.f1 ≥ 8
  · rw [if_pos c1] at h; omega
  rw [if_neg c1] at h
  by_cases c2 : p.f2 < 1 ∨ p.f2 > 4096
  · rw [if_pos c2] at h; omega
  rw [if_neg c2] at h
  by_cases c3 : p.f3 < 1 ∨ p.f3 > 16777216
  · rw [if_pos c3] at h; omega
  rw [if_neg c3] at h
  unfold prodT at h
  split at h
  · rename_i c
    unfold ProdOk
    exact ⟨by omega, by omega, c.1, c.2.1, c.2.2.1, c.2.2.2.1, c.2.2.2.2.1, c.2.2.2.2.2.1, c.2.2.2.2.2.2⟩
  · omega
def prodPrice (p : Prod9) (n : Int) : Int := if prodE p = 0 then (if n < p.f4 ∨ n > p.f5 then 17 else if Int.tmod n p.f3 = 0 then 0 else 16) else prodE p
theorem prodPrice_f (p : Prod9) (n : Int) : Ev (fun k => product_Price.f k p.f0 p.f1 p.f2 p.f3 p.f4 p.f5 p.f6 n) (prodPrice p n) := by
  unfold product_Price.f prodPrice
  refine Ev_bind (prod_f p) ?_
  refine Ev_if (fun h => ?_) (fun h => by rw [if_neg h]; exact Ev.now _)
  rw [if_pos h]
  have hok := prodE_zero h
  unfold ProdOk at hok
  refine Ev_or (g := fun k b => product_Price.j0 k n b p.f0 p.f1 p.f2 p.f3 p.f4 p.f5 p.f6) (fun c => ?_) (fun c => ?_)
  · rw [if_pos c]; refine Ev_succ ?_; simp only [product_Price.j0, if_true]; exact Ev.now _
  rw [if_neg c]
  refine Ev_succ ?_
  simp only [product_Price.j0, Bool.false_eq_true, if_false, if_neg (show ¬ p.f3 = 0 by omega)]
  refine Ev_if (fun h => ?_) (fun h => ?_)
  · rw [if_pos h]; exact Ev.now _
  · rw [if_neg h]; exact Ev.now _
theorem prodPriceR_f (p : Prod9) (n : Int) (hs : p.f0.size ≤ 4611686018427387904) : Ev (fun k => contangoref09_Price.f k p.f0 p.f1 p.f2 p.f3 p.f4 p.f5 p.f6 n) (prodPrice p n) := by
  unfold contangoref09_Price.f prodPrice
  refine Ev_bind (prodR_f p hs) ?_
  refine Ev_if (fun h => ?_) (fun h => by rw [if_neg h]; exact Ev.now _)
  rw [if_pos h]
  have hok := prodE_zero h
  unfold ProdOk at hok
  simp only [within9_f, Option.bind_some, and_iff, if_neg (show ¬ p.f3 = 0 by omega)]
  refine Ev_if (fun c => ?_) (fun c => by rw [if_pos (show n < p.f4 ∨ n > p.f5 by omega)]; exact Ev.now _)
  rw [if_neg (show ¬ (n < p.f4 ∨ n > p.f5) by omega)]
  refine Ev_if (fun h => ?_) (fun h => ?_)
  · rw [if_pos h]; exact Ev.now _
  · rw [if_neg h]; exact Ev.now _
def clampI (n lo hi : Int) : Int := if lo > hi ∨ n < lo then lo else if n > hi then hi else n
theorem clamp_f (n lo hi : Int) : Ev (fun k => cents_Clamp.f k n lo hi) (clampI n lo hi) := by
  unfold cents_Clamp.f clampI
  refine Ev_or (g := fun k b => cents_Clamp.j0 k n lo hi b) (fun c => ?_) (fun c => ?_)
  · rw [if_pos c]; refine Ev_succ ?_; simp only [cents_Clamp.j0, if_true]; exact Ev.now _
  rw [if_neg c]
  refine Ev_succ ?_
  simp only [cents_Clamp.j0, Bool.false_eq_true, if_false]
  refine Ev_if (fun h => ?_) (fun h => ?_)
  · rw [if_pos h]; exact Ev.now _
  · rw [if_neg h]; exact Ev.now _
theorem clampR_f (n lo hi : Int) : Ev (fun k => contangoref01_Clamp.f k n lo hi) (clampI n lo hi) := by
  unfold contangoref01_Clamp.f clampI
  refine Ev_or (g := fun k b => contangoref01_Clamp.j0 k n lo hi b) (fun c => ?_) (fun c => ?_)
  · rw [if_pos c]; refine Ev_succ ?_; simp only [contangoref01_Clamp.j0, if_true]; exact Ev.now _
  rw [if_neg c]
  refine Ev_succ ?_
  simp only [contangoref01_Clamp.j0, Bool.false_eq_true, if_false]
  refine Ev_if (fun h => ?_) (fun h => ?_)
  · rw [if_pos h]; exact Ev.now _
  · rw [if_neg h]; exact Ev.now _
theorem clamp_rng {n lo hi : Int} (h : lo ≤ hi) : lo ≤ clampI n lo hi ∧ clampI n lo hi ≤ hi := by unfold clampI; split <;> (try split) <;> omega
theorem md_one {S c m : Int} (hS : -36028797018963968 ≤ S ∧ S ≤ 36028797018963968) (hc : 1 ≤ c ∧ c ≤ 36028797018963968) (hm : 1 ≤ m ∧ m ≤ 5) :
    mulDiv S 1 c m = mdV S 1 c m ∧ (mdV S 1 c m).2 = 0 ∧ szI S * szI 1 < 18446744073709551616 ∧ -c < (mdV S 1 c m).1 * c - S ∧ (mdV S 1 c m).1 * c - S < c ∧ -36028797018963969 ≤ (mdV S 1 c m).1 ∧ (mdV S 1 c m).1 ≤ 36028797018963969 := by
  have f1 : fitsM S = true := (fitsM_iff _).2 (by omega)
  have f2 : fitsM 1 = true := rfl
  have f3 : fitsM c = true := (fitsM_iff _).2 (by omega)
  have hR := mdR_rng f1 f2 f3 (show c ≠ 0 by omega)
  have e1 : szI (1 : Int) = 1 := rfl
  have eQ : szI c = c := by unfold szI; rw [if_neg (by omega)]
  have hz : szI S ≤ 36028797018963968 ∧ 0 ≤ szI S := by unfold szI; split <;> omega
  have eq : mdQ S 1 c = szI S / c := by unfold mdQ; rw [eQ, e1, Int.mul_one]
  have er : mdR S 1 c = szI S % c := by unfold mdR; rw [eQ, e1, Int.mul_one]
  have hd := Int.mul_ediv_add_emod (szI S) c
  rw [e1, Int.mul_one, eQ] at hR
  have hN : mdN S 1 c m ≤ 36028797018963969 ∧ 0 ≤ mdN S 1 c m := by unfold mdN; split <;> omega
  have hV : mdV S 1 c m = (if belowB S 1 c = true then -mdN S 1 c m else mdN S 1 c m, 0) := by unfold mdV; rw [if_neg (by omega)]
  have hNc : mdN S 1 c m = mdQ S 1 c ∨ (0 < mdR S 1 c ∧ mdN S 1 c m = mdQ S 1 c + 1) := by
    unfold mdN; split
    · rename_i h; exact Or.inr ⟨h.1, rfl⟩
    · exact Or.inl rfl
  rw [← eq, ← er, Int.mul_comm] at hd
  have hQ1 : (mdQ S 1 c + 1) * c = mdQ S 1 c * c + c := by rw [Int.add_mul, Int.one_mul]
  refine ⟨?_, by rw [hV], by rw [e1, Int.mul_one]; omega, ?_⟩
  · unfold mulDiv; rw [if_pos ⟨f1, f2, f3, hm.1, hm.2⟩, if_neg (by omega)]
  · rw [hV]
    by_cases cs : S < 0
    · have eb : belowB S 1 c = true := by unfold belowB; rw [decide_eq_true cs, decide_eq_false (show ¬ (1 : Int) < 0 by decide), decide_eq_false (show ¬ c < 0 by omega)]; rfl
      have eS : szI S = -S := by unfold szI; rw [if_pos cs]
      rw [eb, if_pos rfl]
      show -c < -mdN S 1 c m * c - S ∧ -mdN S 1 c m * c - S < c ∧ _
      rw [Int.neg_mul]
      rcases hNc with h | ⟨h1, h⟩
      · rw [h]; omega
      · rw [h, hQ1]; omega
    · have eb : belowB S 1 c = false := by unfold belowB; rw [decide_eq_false cs, decide_eq_false (show ¬ (1 : Int) < 0 by decide), decide_eq_false (show ¬ c < 0 by omega)]; rfl
      have eS : szI S = S := by unfold szI; rw [if_neg cs]
      rw [eb, if_neg (by decide)]
      show -c < mdN S 1 c m * c - S ∧ mdN S 1 c m * c - S < c ∧ _
      rcases hNc with h | ⟨h1, h⟩
      · rw [h]; omega
      · rw [h, hQ1]; omega
def prodRound (p : Prod9) (n m : Int) : Int := clampI (wrap64 ((mdV n 1 p.f3 m).1 * p.f3)) p.f4 p.f5
theorem prodRound_f (p : Prod9) (n m : Int) (h : prodE p = 0) (hn : -16777216 ≤ n ∧ n ≤ 16777216) (hm : 1 ≤ m ∧ m ≤ 5) : Ev (fun k => product_Round.f k p.f0 p.f1 p.f2 p.f3 p.f4 p.f5 p.f6 n m) (prodRound p n m, 0) := by
  have hok := prodE_zero h
  unfold ProdOk at hok
  obtain ⟨m1, m2, m3, _⟩ := md_one (S := n) (c := p.f3) (m := m) (by omega) (by omega) hm
  unfold product_Round.f
  refine Ev_bind (prod_f p) ?_
  simp only [if_pos h, pwithin_f, Option.bind_some, and_iff, if_pos hn, mulDiv_f _ n 1 p.f3 m m3, m1, m2, if_true]
  exact Ev_bind (clamp_f _ _ _) (Ev.now _)
theorem prodRoundR_f (p : Prod9) (n m : Int) (h : prodE p = 0) (hs : p.f0.size ≤ 4611686018427387904) (hn : -16777216 ≤ n ∧ n ≤ 16777216) (hm : 1 ≤ m ∧ m ≤ 5) : Ev (fun k => contangoref09_Round.f k p.f0 p.f1 p.f2 p.f3 p.f4 p.f5 p.f6 n m) (prodRound p n m, 0) := by
  have hok := prodE_zero h
  unfold ProdOk at hok
  obtain ⟨m1, m2, m3, _⟩ := md_one (S := n) (c := p.f3) (m := m) (by omega) (by omega) hm
  unfold contangoref09_Round.f
  refine Ev_bind (prodR_f p hs) ?_
  simp only [if_pos h, within9_f, Option.bind_some, and_iff, if_pos hn, if_pos hm]
  refine Ev_bind (mulDivR_f n 1 p.f3 m) ?_
  rw [m1]
  exact Ev_bind (clampR_f _ _ _) (Ev.now _)
def midE (a b t : Int) : Int × Int := if t < 1 ∨ t > 16777216 then (0, 16) else if -16777216 ≤ a ∧ a ≤ 16777216 ∧ -16777216 ≤ b ∧ b ≤ 16777216 ∧ a ≤ b then (wrap64 ((mdV (a + b) 1 (2 * t) 5).1 * t), 0) else (0, 17)
theorem mprice_f (n : Int) : mark_price.f n = some (decide (-16777216 ≤ n) && decide (n ≤ 16777216)) := by
  unfold mark_price.f
  by_cases h : n ≥ -16777216
  · rw [if_pos h, decide_eq_true (show -16777216 ≤ n from h), Bool.true_and]
  · rw [if_neg h, decide_eq_false (show ¬ -16777216 ≤ n from h), Bool.false_and]
theorem mid_f (a b t : Int) : Ev (fun k => mark_Mid.f k a b t) (midE a b t) := by
  unfold mark_Mid.f midE
  refine Ev_or (g := fun k x => mark_Mid.j0 k a b t x) (fun c => ?_) (fun c => ?_)
  · rw [if_pos c]; refine Ev_succ ?_; simp only [mark_Mid.j0, if_true]; exact Ev.now _
  rw [if_neg c]
  refine Ev_succ ?_
  simp only [mark_Mid.j0, Bool.false_eq_true, if_false, mprice_f, Option.bind_some, and_iff]
  refine Ev_if (fun c1 => Ev_if (fun c2 => Ev_if (fun c3 => by rw [if_neg (by omega)]; exact Ev.now _) fun c3 => ?_) fun c2 => by rw [if_neg (by omega)]; exact Ev.now _) fun c1 => by rw [if_neg (by omega)]; exact Ev.now _
  obtain ⟨m1, m2, m3, _⟩ := md_one (S := a + b) (c := 2 * t) (m := 5) (by omega) (by omega) (by omega)
  rw [if_pos (by omega)]
  simp only [w_id (show -9223372036854775808 ≤ a + b by omega) (by omega), w_id (show -9223372036854775808 ≤ 2 * t by omega) (by omega), mulDiv_f _ (a + b) 1 (2 * t) 5 m3, m1, m2, Option.bind_some]
  exact Ev.now _
theorem midR_f (a b t : Int) : Ev (fun k => contangoref18_Mid.f k a b t) (midE a b t) := by
  unfold contangoref18_Mid.f midE
  simp only [within18_f, Option.bind_some, and_iff]
  refine Ev_if (fun c => ?_) (fun c => by rw [if_pos (by omega)]; exact Ev.now _)
  rw [if_neg (by omega)]
  refine Ev_if (fun c1 => Ev_if (fun c2 => Ev_if (fun c3 => by rw [if_neg (by omega)]; exact Ev.now _) fun c3 => ?_) fun c2 => by rw [if_neg (by omega)]; exact Ev.now _) fun c1 => by rw [if_neg (by omega)]; exact Ev.now _
  obtain ⟨m1, m2, m3, _⟩ := md_one (S := a + b) (c := 2 * t) (m := 5) (by omega) (by omega) (by omega)
  rw [if_pos (by omega)]
  simp only [w_id (show -9223372036854775808 ≤ a + b by omega) (by omega), w_id (show -9223372036854775808 ≤ 2 * t by omega) (by omega)]
  refine Ev_bind (mulDivR_f _ _ _ _) ?_
  rw [m1]
  exact Ev.now _
theorem lt_of_mulp {x y c : Int} (hc : 1 ≤ c) (h : x * c < y * c) : x < y := by
  by_cases h2 : x < y
  · exact h2
  · have := Int.mul_le_mul_of_nonneg_right (show y ≤ x by omega) (show 0 ≤ c by omega)
    omega
theorem tmod_mul {n t : Int} (h : Int.tmod n t = 0) : ∃ z, n = z * t := by
  obtain ⟨z, hz⟩ := Int.dvd_of_tmod_eq_zero h
  exact ⟨z, by rw [hz, Int.mul_comm]⟩
theorem mid_between {a b t : Int} (ht : 1 ≤ t ∧ t ≤ 16777216) (ha : -16777216 ≤ a ∧ a ≤ 16777216) (hb : -16777216 ≤ b ∧ b ≤ 16777216) (hab : a ≤ b) (h1 : Int.tmod a t = 0) (h2 : Int.tmod b t = 0) :
    ∃ z, midE a b t = (z * t, 0) ∧ a ≤ z * t ∧ z * t ≤ b := by
  obtain ⟨A, rfl⟩ := tmod_mul h1
  obtain ⟨B, rfl⟩ := tmod_mul h2
  obtain ⟨m1, m2, m3, m4, m5, m6, m7⟩ := md_one (S := A * t + B * t) (c := 2 * t) (m := 5) (by omega) (by omega) (by omega)
  generalize hn : (mdV (A * t + B * t) 1 (2 * t) 5).1 = n at m4 m5 m6 m7
  have hAB : A ≤ B := by
    by_cases c : A ≤ B
    · exact c
    · have := Int.mul_lt_mul_of_pos_right (show B < A by omega) (show 0 < t by omega); omega
  have e1 : n * (2 * t) = 2 * n * t := by rw [← Int.mul_assoc, Int.mul_comm n 2]
  have u1 : 2 * n < A + B + 2 := lt_of_mulp ht.1 (by rw [Int.add_mul, Int.add_mul]; omega)
  have u2 : A + B - 2 < 2 * n := lt_of_mulp ht.1 (by rw [Int.sub_mul, Int.add_mul]; omega)
  have v1 := Int.mul_le_mul_of_nonneg_right (show A ≤ n by omega) (show 0 ≤ t by omega)
  have v2 := Int.mul_le_mul_of_nonneg_right (show n ≤ B by omega) (show 0 ≤ t by omega)
  refine ⟨n, ?_, v1, v2⟩
  unfold midE
  rw [if_neg (by omega), if_pos (by omega), hn, w_id (by omega) (by omega)]
end Go.Proofs.Ytocndpddghefhaa.P
end
section
namespace Go.Proofs.Ytocndpddghefhaa.P
set_option linter.unusedVariables false
set_option linter.unusedSimpArgs false
open Go.RowKit Go.Proofs.YtocndpddghefhaaW.PrintWords Go.Proofs.YtocndpddghefhaaW.PrintMore Go.Proofs.Ytocndpddghefhaa.X
abbrev Tick := S49
theorem rdTick (l : List Tick) (i : Nat) (h : i < l.length) : rd_T49 l (i : Int) = l[i] := by simp [rd_T49, h]
def tkGo : Int → List Tick → Int
  | _, [] => 0
  | at_, t :: r => if tickErr at_ t = 0 then tkGo t.f0 r else tickErr at_ t
def tkCheck (l : List Tick) : Int := if 1024 < l.length then 8 else tkGo 0 l
theorem goAll_check : ∀ (l : List Tick) (a : Int), (goAll tickStep l (a, 0)).2 = tkGo a l
  | [], a => rfl
  | t :: r, a => by
    rw [goAll_step, tkGo]
    have e1 : (tickStep t (a, 0)).2 = (tickErr a t == 0) := rfl
    have e2 : (tickStep t (a, 0)).1 = (t.f0, tickErr a t) := rfl
    rw [e1, e2]
    by_cases c : tickErr a t = 0
    · rw [if_pos c, if_pos (beq_iff_eq.2 c), c]
      exact goAll_check r t.f0
    · rw [if_neg c, if_neg (by simpa using c)]
theorem tkCheck_f (l : List Tick) : tape_Check.f l = some (tkCheck l) := by
  unfold tape_Check.f tkCheck
  by_cases c : 1024 < l.length
  · rw [if_pos c, if_pos (show (1024 : Int) < (l.length : Int) by omega)]
  · rw [if_neg c, if_neg (show ¬ (1024 : Int) < (l.length : Int) by omega), goAll_check]
theorem tkRLoop (l : List Tick) (hl : l.length ≤ 1024) : ∀ (d i : Nat) (at_ : Int), i + d = l.length → (i = 0 → at_ = 0) → (∀ (h : 0 < i) (h2 : i - 1 < l.length), at_ = l[i - 1].f0 ∧ 0 ≤ at_) → Ev (fun k => contangoref17_Check.l0 k l i) (tkGo at_ (l.drop i))
  | 0, i, at_, hd, h0, h1 => by
    rw [List.drop_of_length_le (by omega)]
    refine Ev_succ ?_
    simp only [contangoref17_Check.l0, if_neg (show ¬ ((i : Int) < (l.length : Int)) by omega)]
    exact Ev.now _
  | d + 1, i, at_, hd, h0, h1 => by
    have hi : i < l.length := by omega
    have ih := tkRLoop l hl d (i + 1) l[i].f0 (by omega) (by omega)
    rw [drop_cons l i hi, tkGo]
    have hj2 : ∀ b, (b = true ↔ (l[i].f1 < 1 ∨ l[i].f1 > 1048576)) → ¬ (l[i].f0 < at_ ∨ 86399 < l[i].f0) → 0 ≤ l[i].f0 → Ev (fun k => contangoref17_Check.j2 k l i b) (if tickErr at_ l[i] = 0 then tkGo l[i].f0 (l.drop (i + 1)) else tickErr at_ l[i]) := by
      intro b hb hn hp
      refine Ev_succ ?_
      by_cases c : b = true
      · subst c
        have e : tickErr at_ l[i] = 18 := by unfold tickErr; rw [if_neg hn, if_pos (by have := hb.1 rfl; omega)]
        rw [e, if_neg (by decide)]
        simp only [contangoref17_Check.j2, if_true]
        exact Ev.now _
      · have cf : b = false := by simpa using c
        subst cf
        have hq : ¬ (l[i].f1 < 1 ∨ 1048576 < l[i].f1) := fun h => c (hb.2 h)
        simp only [contangoref17_Check.j2, Bool.false_eq_true, if_false, if_pos (show 0 ≤ (i : Int) by omega), if_pos (show (i : Int) < (l.length : Int) by omega), rdTick l i hi]
        by_cases c1 : l[i].f2 < -16777216
        · have e : tickErr at_ l[i] = 17 := by unfold tickErr; rw [if_neg hn, if_neg hq, if_pos (Or.inl c1)]
          rw [e, if_neg (by decide)]
          simp only [if_pos c1]
          exact Ev.now _
        · by_cases c2 : l[i].f2 > 16777216
          · have e : tickErr at_ l[i] = 17 := by unfold tickErr; rw [if_neg hn, if_neg hq, if_pos (Or.inr c2)]
            rw [e, if_neg (by decide)]
            simp only [if_neg c1, if_pos c2]
            exact Ev.now _
          · have e : tickErr at_ l[i] = 0 := by unfold tickErr; rw [if_neg hn, if_neg hq, if_neg (by omega)]
            rw [e, if_pos rfl]
            simp only [if_neg c1, if_neg c2, w_succ hi (show l.length ≤ 9223372036854775807 by omega)]
            exact ih (fun _ _ => ⟨by simp, hp⟩)
    have hj1 : ∀ b, (b = true ↔ (l[i].f0 < at_ ∨ 86399 < l[i].f0)) → 0 ≤ at_ → Ev (fun k => contangoref17_Check.j1 k l i b) (if tickErr at_ l[i] = 0 then tkGo l[i].f0 (l.drop (i + 1)) else tickErr at_ l[i]) := by
      intro b hb h0
      refine Ev_succ ?_
      by_cases c : b = true
      · subst c
        have e : tickErr at_ l[i] = 2 := by unfold tickErr; rw [if_pos (hb.1 rfl)]
        rw [e, if_neg (by decide)]
        simp only [contangoref17_Check.j1, if_true]
        exact Ev.now _
      · have cf : b = false := by simpa using c
        subst cf
        have hq : ¬ (l[i].f0 < at_ ∨ 86399 < l[i].f0) := fun h => c (hb.2 h)
        simp only [contangoref17_Check.j1, Bool.false_eq_true, if_false, if_pos (show 0 ≤ (i : Int) by omega), if_pos (show (i : Int) < (l.length : Int) by omega), rdTick l i hi]
        by_cases c1 : l[i].f1 < 1
        · simp only [if_pos c1]
          exact hj2 true (by simp [c1]) hq (by omega)
        · simp only [if_neg c1]
          refine hj2 _ ?_ hq (by omega)
          rw [decide_eq_true_iff]
          exact ⟨Or.inr, fun h => h.resolve_left c1⟩
    refine Ev_succ ?_
    have hat : 0 ≤ at_ := by
      by_cases e : i = 0
      · rw [h0 e]; exact Int.le_refl _
      · exact (h1 (by omega) (by omega)).2
    simp only [contangoref17_Check.l0, if_pos (show (i : Int) < (l.length : Int) by omega), if_pos (show 0 ≤ (i : Int) by omega), rdTick l i hi]
    by_cases c1 : l[i].f0 < 0
    · simp only [if_pos c1]
      exact hj1 true ⟨fun _ => Or.inl (by omega), fun _ => rfl⟩ hat
    · by_cases c2 : l[i].f0 > 86399
      · simp only [if_neg c1, if_pos c2]
        exact hj1 true ⟨fun _ => Or.inr c2, fun _ => rfl⟩ hat
      · simp only [if_neg c1, if_neg c2]
        by_cases c3 : 0 < i
        · obtain ⟨ha, ha2⟩ := h1 c3 (by omega)
          simp only [if_pos (show (i : Int) > 0 by omega), w_pred c3 (by omega), if_pos (show 0 ≤ ((i - 1 : Nat) : Int) by omega), if_pos (show ((i - 1 : Nat) : Int) < (l.length : Int) by omega), rdTick l (i - 1) (by omega)]
          refine hj1 _ ?_ hat
          rw [decide_eq_true_iff, ← ha]
          exact ⟨Or.inl, fun h => h.resolve_right (by omega)⟩
        · simp only [if_neg (show ¬ (i : Int) > 0 by omega)]
          refine hj1 false ?_ hat
          have := h0 (by omega)
          refine ⟨fun h => (by cases h), fun h => ?_⟩
          omega
theorem tkCheckR_f (l : List Tick) : Ev (fun k => contangoref17_Check.f k l) (tkCheck l) := by
  unfold contangoref17_Check.f tkCheck
  by_cases c : 1024 < l.length
  · rw [if_pos c]; simp only [if_pos (show (l.length : Int) > 1024 by omega)]; exact Ev.now _
  · rw [if_neg c]
    simp only [if_neg (show ¬ (l.length : Int) > 1024 by omega)]
    exact tkRLoop l (by omega) l.length 0 0 (by omega) (fun _ => rfl) (fun h => by omega)
def TkOk (t : Tick) : Prop := 0 ≤ t.f0 ∧ t.f0 ≤ 86399 ∧ 1 ≤ t.f1 ∧ t.f1 ≤ 1048576 ∧ -16777216 ≤ t.f2 ∧ t.f2 ≤ 16777216
theorem tickErr_zero {a : Int} {t : Tick} (h : tickErr a t = 0) : a ≤ t.f0 ∧ t.f0 ≤ 86399 ∧ 1 ≤ t.f1 ∧ t.f1 ≤ 1048576 ∧ -16777216 ≤ t.f2 ∧ t.f2 ≤ 16777216 := by
  unfold tickErr at h
  by_cases c1 : t.f0 < a ∨ 86399 < t.f0
  · rw [if_pos c1] at h; omega
  · rw [if_neg c1] at h
    by_cases c2 : t.f1 < 1 ∨ 1048576 < t.f1
    · rw [if_pos c2] at h; omega
    · rw [if_neg c2] at h
      by_cases c3 : t.f2 < -16777216 ∨ 16777216 < t.f2
      · rw [if_pos c3] at h; omega
      · omega
theorem tickErr_ok {a : Int} {t : Tick} (h : a ≤ t.f0) (h2 : TkOk t) : tickErr a t = 0 := by
  unfold TkOk at h2
  unfold tickErr
  rw [if_neg (by omega), if_neg (by omega), if_neg (by omega)]
theorem tkGo_zero : ∀ (l : List Tick) (a : Int), 0 ≤ a → (tkGo a l = 0 ↔ (∀ t ∈ l, TkOk t) ∧ (∀ t ∈ l, a ≤ t.f0) ∧ l.Pairwise (fun x y => x.f0 ≤ y.f0))
  | [], a, _ => by simp [tkGo]
  | t :: r, a, ha => by
    rw [tkGo]
    constructor
    · intro h
      by_cases c : tickErr a t = 0
      · rw [if_pos c] at h
        have hz := tickErr_zero c
        obtain ⟨h1, h2, h3⟩ := (tkGo_zero r t.f0 (by omega)).1 h
        refine ⟨fun x hx => ?_, fun x hx => ?_, List.pairwise_cons.2 ⟨h2, h3⟩⟩
        · rcases List.mem_cons.1 hx with e | e
          · rw [e]; unfold TkOk; omega
          · exact h1 x e
        · rcases List.mem_cons.1 hx with e | e
          · rw [e]; exact hz.1
          · have := h2 x e; omega
      · rw [if_neg c] at h; exact absurd h c
    · rintro ⟨h1, h2, h3⟩
      obtain ⟨h4, h5⟩ := List.pairwise_cons.1 h3
      have ht := h1 t (by simp)
      rw [if_pos (tickErr_ok (h2 t (by simp)) ht)]
      exact (tkGo_zero r t.f0 ht.1).2 ⟨fun x hx => h1 x (by simp [hx]), h4, h5⟩
theorem tkCheck_zero (l : List Tick) : tkCheck l = 0 ↔ l.length ≤ 1024 ∧ (∀ t ∈ l, TkOk t) ∧ l.Pairwise (fun x y => x.f0 ≤ y.f0) := by
  unfold tkCheck
  by_cases c : 1024 < l.length
  · rw [if_pos c]; exact ⟨fun h => by omega, fun h => by omega⟩
  · rw [if_neg c, tkGo_zero l 0 (Int.le_refl _)]
    exact ⟨fun h => ⟨by omega, h.1, h.2.2⟩, fun h => ⟨h.2.1, fun t ht => (h.2.1 t ht).1, h.2.2⟩⟩
def qtyS : List Tick → Int
  | [] => 0
  | t :: r => t.f1 + qtyS r
def pqS : List Tick → Int
  | [] => 0
  | t :: r => t.f2 * t.f1 + pqS r
theorem mul_tk {t : Tick} (h : TkOk t) : -17592186044416 ≤ t.f2 * t.f1 ∧ t.f2 * t.f1 ≤ 17592186044416 := by
  obtain ⟨_, _, h3, h4, h5, h6⟩ := h
  have e1 := Int.mul_le_mul_of_nonneg_right h6 (show 0 ≤ t.f1 by omega)
  have e2 := Int.mul_le_mul_of_nonneg_right h5 (show 0 ≤ t.f1 by omega)
  omega
theorem qtyS_rng : ∀ (l : List Tick), (∀ t ∈ l, TkOk t) → (l.length : Int) ≤ qtyS l ∧ qtyS l ≤ 1048576 * (l.length : Int)
  | [], _ => by simp [qtyS]
  | t :: r, h => by
    have h1 := h t (by simp)
    unfold TkOk at h1
    have h2 := qtyS_rng r fun x hx => h x (by simp [hx])
    simp only [qtyS, List.length_cons]; omega
theorem pqS_rng : ∀ (l : List Tick), (∀ t ∈ l, TkOk t) → -(17592186044416 * (l.length : Int)) ≤ pqS l ∧ pqS l ≤ 17592186044416 * (l.length : Int)
  | [], _ => by simp [pqS]
  | t :: r, h => by
    have h1 := mul_tk (h t (by simp))
    have h2 := pqS_rng r fun x hx => h x (by simp [hx])
    simp only [pqS, List.length_cons]; omega
theorem vol_go : ∀ (l : List Tick) (s : Int), (∀ t ∈ l, TkOk t) → 0 ≤ s → s + 1048576 * (l.length : Int) ≤ 4611686018427387904 → goAll volStep l s = s + qtyS l
  | [], s, _, _, _ => by simp [goAll, qtyS]
  | t :: r, s, h, h0, h1 => by
    have ht := h t (by simp)
    unfold TkOk at ht
    rw [goAll_step]
    have e1 : (volStep t s).2 = true := rfl
    have e2 : (volStep t s).1 = wrap64 (s + t.f1) := rfl
    simp only [List.length_cons] at h1
    rw [e1, e2, if_pos rfl, w_id (by omega) (by omega), vol_go r _ (fun x hx => h x (by simp [hx])) (by omega) (by omega)]
    simp only [qtyS]; omega
theorem pq_go : ∀ (l : List Tick) (s : Int), (∀ t ∈ l, TkOk t) → -4611686018427387904 ≤ s - 17592186044416 * (l.length : Int) → s + 17592186044416 * (l.length : Int) ≤ 4611686018427387904 → goAll vwapStep l s = s + pqS l
  | [], s, _, _, _ => by simp [goAll, pqS]
  | t :: r, s, h, h0, h1 => by
    have ht := mul_tk (h t (by simp))
    rw [goAll_step]
    have e1 : (vwapStep t s).2 = true := rfl
    have e2 : (vwapStep t s).1 = wrap64 (s + wrap64 (t.f2 * t.f1)) := rfl
    simp only [List.length_cons] at h0 h1
    have e3 : wrap64 (t.f2 * t.f1) = t.f2 * t.f1 := w_id (by omega) (by omega)
    rw [e1, e2, if_pos rfl, e3, w_id (by omega) (by omega), pq_go r _ (fun x hx => h x (by simp [hx])) (by omega) (by omega)]
    simp only [pqS]; omega
def tkVolume (l : List Tick) : Int × Int := if tkCheck l = 0 then (qtyS l, 0) else (0, tkCheck l)
theorem tkVolume_f (l : List Tick) : tape_Volume.f l = some (tkVolume l) := by
  unfold tape_Volume.f tkVolume
  rw [tkCheck_f]
  simp only [Option.bind_some]
  by_cases c : tkCheck l = 0
  · obtain ⟨h1, h2, h3⟩ := (tkCheck_zero l).1 c
    rw [if_pos c, if_pos c, vol_go l 0 h2 (Int.le_refl _) (by omega), Int.zero_add]
  · rw [if_neg c, if_neg c]
theorem volRLoop (l : List Tick) (hl : l.length ≤ 1024) (hok : ∀ t ∈ l, TkOk t) : ∀ (d i : Nat) (s : Int), i + d = l.length → 0 ≤ s → s ≤ 1048576 * (i : Int) → Ev (fun k => contangoref17_Volume.l0 k l s i) (s + qtyS (l.drop i), 0)
  | 0, i, s, hd, h0, h1 => by
    rw [List.drop_of_length_le (by omega)]
    refine Ev_succ ?_
    simp only [contangoref17_Volume.l0, if_neg (show ¬ ((i : Int) < (l.length : Int)) by omega), qtyS, Int.add_zero]
    exact Ev.now _
  | d + 1, i, s, hd, h0, h1 => by
    have hi : i < l.length := by omega
    have ht := hok _ (List.getElem_mem hi)
    unfold TkOk at ht
    have ih := volRLoop l hl hok d (i + 1) (s + l[i].f1) (by omega) (by omega) (by omega)
    rw [drop_cons l i hi]
    refine Ev_succ ?_
    simp only [contangoref17_Volume.l0, if_pos (show (i : Int) < (l.length : Int) by omega), if_pos (show 0 ≤ (i : Int) by omega), rdTick l i hi, w_succ hi (show l.length ≤ 9223372036854775807 by omega), w_id (show -9223372036854775808 ≤ s + l[i].f1 by omega) (by omega), qtyS]
    rw [← Int.add_assoc]
    exact ih
theorem tkVolumeR_f (l : List Tick) : Ev (fun k => contangoref17_Volume.f k l) (tkVolume l) := by
  unfold contangoref17_Volume.f tkVolume
  refine Ev_bind (tkCheckR_f l) ?_
  by_cases c : tkCheck l = 0
  · obtain ⟨h1, h2, h3⟩ := (tkCheck_zero l).1 c
    simp only [if_pos c]
    have := volRLoop l h1 h2 l.length 0 0 (by omega) (by omega) (by omega)
    rw [List.drop_zero, Int.zero_add] at this
    exact this
  · simp only [if_neg c]
    exact Ev.now _
def tkVwap (l : List Tick) (step mode : Int) : Int × Int := if tkCheck l = 0 then (if step < 1 ∨ 16777216 < step then (0, 16) else if mode < 1 ∨ 5 < mode then (0, 2) else if l = [] then (0, 11) else (wrap64 ((mulDiv (pqS l) 1 (qtyS l * step) mode).1 * step), 0)) else (0, tkCheck l)
theorem vwap_facts {l : List Tick} {step mode : Int} (hc : tkCheck l = 0) (hs : ¬ (step < 1 ∨ 16777216 < step)) (hm : ¬ (mode < 1 ∨ 5 < mode)) (hl : l ≠ []) :
    1 ≤ qtyS l ∧ qtyS l ≤ 1073741824 ∧ 1 ≤ qtyS l * step ∧ qtyS l * step ≤ 18014398509481984 ∧ -18014398509481984 ≤ pqS l ∧ pqS l ≤ 18014398509481984 ∧ szI (pqS l) * szI 1 = szI (pqS l) ∧ mulDiv (pqS l) 1 (qtyS l * step) mode = mdV (pqS l) 1 (qtyS l * step) mode ∧ mdN (pqS l) 1 (qtyS l * step) mode ≤ 18014398509481985 ∧ 0 ≤ mdN (pqS l) 1 (qtyS l * step) mode ∧ (mdV (pqS l) 1 (qtyS l * step) mode).2 = 0 := by
  obtain ⟨h1, h2, h3⟩ := (tkCheck_zero l).1 hc
  have hp : 0 < l.length := List.length_pos_iff.2 hl
  have hq := qtyS_rng l h2
  have hpq := pqS_rng l h2
  have e1 := Int.mul_le_mul_of_nonneg_left (show step ≤ 16777216 by omega) (show 0 ≤ qtyS l by omega)
  have e2 := Int.mul_le_mul_of_nonneg_left (show 1 ≤ step by omega) (show 0 ≤ qtyS l by omega)
  have e3 : szI (1 : Int) = 1 := rfl
  have e4 : szI (pqS l) * szI 1 = szI (pqS l) := by rw [e3, Int.mul_one]
  have f1 : fitsM (pqS l) = true := (fitsM_iff _).2 (by omega)
  have f2 : fitsM 1 = true := rfl
  have f3 : fitsM (qtyS l * step) = true := (fitsM_iff _).2 (by omega)
  have hR := mdR_rng f1 f2 f3 (show qtyS l * step ≠ 0 by omega)
  have hz : szI (pqS l) ≤ 18014398509481984 := by unfold szI; split <;> omega
  have hN : mdN (pqS l) 1 (qtyS l * step) mode ≤ 18014398509481985 ∧ 0 ≤ mdN (pqS l) 1 (qtyS l * step) mode := by unfold mdN; split <;> omega
  refine ⟨by omega, by omega, by omega, by omega, by omega, by omega, e4, ?_, hN.1, hN.2, ?_⟩
  · unfold mulDiv
    rw [if_pos ⟨f1, f2, f3, by omega, by omega⟩, if_neg (by omega)]
  · unfold mdV
    rw [if_neg (by omega)]
theorem tkVwap_f (k : Nat) (l : List Tick) (step mode : Int) : tape_Vwap.f k l step mode = some (tkVwap l step mode) := by
  unfold tape_Vwap.f tkVwap
  rw [tkVolume_f]
  simp only [Option.bind_some]
  unfold tkVolume
  by_cases hc : tkCheck l = 0
  case neg => rw [if_neg hc, if_neg hc, if_pos hc]
  rw [if_pos hc, if_pos hc, if_neg (by simp)]
  by_cases hs : step < 1 ∨ 16777216 < step
  · rw [if_pos hs]
    by_cases c : step < 1
    · rw [if_pos c]
    · rw [if_neg c, if_pos (hs.resolve_left c)]
  rw [if_neg hs, if_neg (fun h => hs (Or.inl h)), if_neg (fun h => hs (Or.inr h))]
  by_cases hm : mode < 1 ∨ 5 < mode
  · rw [if_pos hm]
    by_cases c : mode < 1
    · rw [if_pos c]
    · rw [if_neg c, if_pos (hm.resolve_left c)]
  rw [if_neg hm, if_neg (fun h => hm (Or.inl h)), if_neg (fun h => hm (Or.inr h))]
  by_cases hl : l = []
  · subst hl; rfl
  obtain ⟨a1, a2, a3, a4, a5, a6, a7, a8, a9, a10, a11⟩ := vwap_facts hc hs hm hl
  obtain ⟨h1, h2, h3⟩ := (tkCheck_zero l).1 hc
  have ew : wrap64 (qtyS l * step) = qtyS l * step := w_id (by omega) (by omega)
  have hz : szI (pqS l) ≤ 18014398509481984 := by unfold szI; split <;> omega
  rw [if_neg hl, if_neg (show ¬ qtyS l = 0 by omega), pq_go l 0 h2 (by omega) (by omega), Int.zero_add, ew, mulDiv_f _ _ _ _ _ (by omega)]
  simp only [Option.bind_some]
  rw [a8, if_neg (by rw [a11]; simp)]
theorem pqRLoop (l : List Tick) (hl : l.length ≤ 1024) (hok : ∀ t ∈ l, TkOk t) (step mode q : Int) (r : Int × Int) (h : Ev (fun k => (contangoref01_MulDiv.f k (pqS l) 1 (wrap64 (q * step)) mode).bind fun n => some (wrap64 (n.1 * step), (0 : Int))) r) : ∀ (d i : Nat) (s : Int), i + d = l.length → s + pqS (l.drop i) = pqS l → -(17592186044416 * (i : Int)) ≤ s → s ≤ 17592186044416 * (i : Int) → Ev (fun k => contangoref17_Vwap.l0 k l step mode q s i) r
  | 0, i, s, hd, hs, h0, h1 => by
    rw [List.drop_of_length_le (by omega)] at hs
    simp only [pqS, Int.add_zero] at hs
    subst hs
    refine Ev_succ ?_
    simp only [contangoref17_Vwap.l0, if_neg (show ¬ ((i : Int) < (l.length : Int)) by omega)]
    exact h
  | d + 1, i, s, hd, hs, h0, h1 => by
    have hi : i < l.length := by omega
    have ht := mul_tk (hok _ (List.getElem_mem hi))
    rw [drop_cons l i hi] at hs
    simp only [pqS] at hs
    have ih := pqRLoop l hl hok step mode q r h d (i + 1) (s + l[i].f2 * l[i].f1) (by omega) (by omega) (by omega) (by omega)
    have e1 : wrap64 (l[i].f1 * l[i].f2) = l[i].f2 * l[i].f1 := by rw [Int.mul_comm, w_id (by omega) (by omega)]
    have e2 : wrap64 (s + l[i].f2 * l[i].f1) = s + l[i].f2 * l[i].f1 := w_id (by omega) (by omega)
    refine Ev_succ ?_
    simp only [contangoref17_Vwap.l0, if_pos (show (i : Int) < (l.length : Int) by omega), if_pos (show 0 ≤ (i : Int) by omega), rdTick l i hi, w_succ hi (show l.length ≤ 9223372036854775807 by omega), e1, e2]
    exact ih
theorem tkVwapR_f (l : List Tick) (step mode : Int) : Ev (fun k => contangoref17_Vwap.f k l step mode) (tkVwap l step mode) := by
  unfold contangoref17_Vwap.f tkVwap
  refine Ev_bind (tkVolumeR_f l) ?_
  unfold tkVolume
  by_cases hc : tkCheck l = 0
  case neg => simp only [if_neg hc]; exact Ev.now _
  simp only [if_pos hc, if_true]
  have hj0 : ∀ b, (b = true ↔ (step < 1 ∨ 16777216 < step)) → Ev (fun k => contangoref17_Vwap.j0 k l step mode (qtyS l) b) (if step < 1 ∨ 16777216 < step then (0, 16) else if mode < 1 ∨ 5 < mode then (0, 2) else if l = [] then (0, 11) else (wrap64 ((mulDiv (pqS l) 1 (qtyS l * step) mode).1 * step), 0)) := by
    intro b hb
    refine Ev_succ ?_
    by_cases c : b = true
    · subst c
      rw [if_pos (hb.1 rfl)]
      simp only [contangoref17_Vwap.j0, if_true]
      exact Ev.now _
    · have cf : b = false := by simpa using c
      subst cf
      have hs : ¬ (step < 1 ∨ 16777216 < step) := fun h => c (hb.2 h)
      rw [if_neg hs]
      simp only [contangoref17_Vwap.j0, Bool.false_eq_true, if_false]
      have hj1 : ∀ b, (b = true ↔ (mode < 1 ∨ 5 < mode)) → Ev (fun k => contangoref17_Vwap.j1 k l step mode (qtyS l) b) (if mode < 1 ∨ 5 < mode then (0, 2) else if l = [] then (0, 11) else (wrap64 ((mulDiv (pqS l) 1 (qtyS l * step) mode).1 * step), 0)) := by
        intro b hb
        refine Ev_succ ?_
        by_cases c : b = true
        · subst c
          rw [if_pos (hb.1 rfl)]
          simp only [contangoref17_Vwap.j1, if_true]
          exact Ev.now _
        · have cf : b = false := by simpa using c
          subst cf
          have hm : ¬ (mode < 1 ∨ 5 < mode) := fun h => c (hb.2 h)
          rw [if_neg hm]
          simp only [contangoref17_Vwap.j1, Bool.false_eq_true, if_false]
          by_cases hl : l = []
          · subst hl
            simp only [List.length_nil, if_true, show (((0 : Nat) : Int) = 0) = True from propext ⟨fun _ => trivial, fun _ => rfl⟩]
            exact Ev.now _
          · have hp : 0 < l.length := List.length_pos_iff.2 hl
            rw [if_neg hl]
            simp only [if_neg (show ¬ (l.length : Int) = 0 by omega)]
            obtain ⟨a1, a2, a3, a4, a5, a6, a7, a8, a9, a10, a11⟩ := vwap_facts hc hs hm hl
            obtain ⟨h1, h2, h3⟩ := (tkCheck_zero l).1 hc
            have ew : wrap64 (qtyS l * step) = qtyS l * step := w_id (by omega) (by omega)
            refine pqRLoop l h1 h2 step mode (qtyS l) _ ?_ l.length 0 0 (by omega) (by rw [List.drop_zero, Int.zero_add]) (by omega) (by omega)
            rw [ew]
            exact Ev_bind (mulDivR_f _ _ _ _) (Ev.now _)
      by_cases c1 : mode < 1
      · simp only [if_pos c1]
        exact hj1 true (by simp [c1])
      · simp only [if_neg c1]
        refine hj1 _ ?_
        rw [decide_eq_true_iff]
        exact ⟨Or.inr, fun h => h.resolve_left c1⟩
  by_cases c1 : step < 1
  · simp only [if_pos c1]
    exact hj0 true (by simp [c1])
  · simp only [if_neg c1]
    refine hj0 _ ?_
    rw [decide_eq_true_iff]
    exact ⟨Or.inr, fun h => h.resolve_left c1⟩
end Go.Proofs.Ytocndpddghefhaa.P
end
section
namespace Go.Proofs.Ytocndpddghefhaa.P
set_option linter.unusedVariables false
set_option linter.unusedSimpArgs false
open Go.RowKit Go.Proofs.YtocndpddghefhaaW.PrintWords Go.Proofs.YtocndpddghefhaaW.PrintMore Go.Proofs.Ytocndpddghefhaa.X
abbrev Quote := S36
def winP (a b : Int) (t : Tick) : Bool := decide (a ≤ t.f0 ∧ t.f0 ≤ b)
def winL (l : List Tick) (a b : Int) : List Tick := l.filter (winP a b)
theorem win_go (a b : Int) : ∀ (l acc : List Tick), goAll (winStep a b) l acc = acc ++ winL l a b
  | [], acc => by simp [goAll, winL]
  | t :: r, acc => by
    rw [goAll_step]
    have e1 : (winStep a b t acc).2 = true := rfl
    have e2 : (winStep a b t acc).1 = if a ≤ t.f0 ∧ t.f0 ≤ b then acc ++ [t] else acc := rfl
    rw [e1, e2, if_pos rfl, win_go a b r]
    unfold winL
    by_cases c : a ≤ t.f0 ∧ t.f0 ≤ b
    · rw [if_pos c, List.filter_cons_of_pos (by unfold winP; exact decide_eq_true c), List.append_assoc]; rfl
    · rw [if_neg c, List.filter_cons_of_neg (by unfold winP; rw [decide_eq_false c]; decide)]
theorem window_f (l : List Tick) (a b : Int) (hl : l.length ≤ 1024) : tape_Window.f l a b = some (winL l a b) := by
  unfold tape_Window.f
  rw [if_pos (by omega), win_go, List.nil_append]
theorem winRLoop (l : List Tick) (a b : Int) (hl : l.length ≤ 1024) : ∀ (d i : Nat) (acc : List Tick), i + d = l.length → acc.length ≤ i → Ev (fun k => contangoref17_Window.l0 k l a b acc i) (acc ++ winL (l.drop i) a b)
  | 0, i, acc, hd, ha => by
    rw [List.drop_of_length_le (by omega)]
    refine Ev_succ ?_
    simp only [contangoref17_Window.l0, if_neg (show ¬ ((i : Int) < (l.length : Int)) by omega), winL, List.filter_nil, List.append_nil]
    exact Ev.now _
  | d + 1, i, acc, hd, ha => by
    have hi : i < l.length := by omega
    have ih := fun acc' => winRLoop l a b hl d (i + 1) acc' (by omega)
    rw [drop_cons l i hi]
    refine Ev_succ ?_
    simp only [contangoref17_Window.l0, if_pos (show (i : Int) < (l.length : Int) by omega), if_pos (show 0 ≤ (i : Int) by omega), rdTick l i hi, w_succ hi (show l.length ≤ 9223372036854775807 by omega)]
    unfold winL at ih ⊢
    by_cases c : a ≤ l[i].f0 ∧ l[i].f0 ≤ b
    · rw [List.filter_cons_of_pos (by unfold winP; exact decide_eq_true c)]
      simp only [if_pos (show l[i].f0 ≥ a from c.1), if_pos c.2, if_pos (show acc.length < 5864062014805 by omega)]
      have := ih (acc ++ [l[i]]) (by simp; omega)
      rw [List.append_assoc] at this
      exact this
    · rw [List.filter_cons_of_neg (by unfold winP; rw [decide_eq_false c]; decide)]
      by_cases c1 : l[i].f0 ≥ a
      · simp only [if_pos c1, if_neg (show ¬ l[i].f0 ≤ b from fun h => c ⟨c1, h⟩)]
        exact ih acc (by omega)
      · simp only [if_neg c1]
        exact ih acc (by omega)
theorem windowR_f (l : List Tick) (a b : Int) (hl : l.length ≤ 1024) : Ev (fun k => contangoref17_Window.f k l a b) (winL l a b) := by
  have := winRLoop l a b hl l.length 0 [] (by omega) (by simp)
  rw [List.drop_zero, List.nil_append] at this
  exact this
theorem winL_ok {l : List Tick} (a b : Int) (h : tkCheck l = 0) : tkCheck (winL l a b) = 0 := by
  obtain ⟨h1, h2, h3⟩ := (tkCheck_zero l).1 h
  refine (tkCheck_zero _).2 ⟨Nat.le_trans (List.length_filter_le _ _) h1, fun t ht => h2 t (List.mem_filter.1 ht).1, h3.sublist List.filter_sublist⟩
def priceL (q : Quote) : List Int := q.f0.map (fun t => t.f2) ++ ((if q.f4 = 0 then [] else [q.f4]) ++ ((if q.f5 = 0 then [] else [q.f5]) ++ [q.f6]))
def prGo (p : Prod9) : List Int → Int
  | [] => 0
  | n :: r => if prodPrice p n = 0 then prGo p r else prodPrice p n
def tailE (q : Quote) : Int := if (q.f4 ≠ 0 ∧ q.f5 ≠ 0 ∧ q.f4 > q.f5) ∨ ¬ (-16777216 ≤ q.f7 ∧ q.f7 ≤ 16777216) then 17 else 0
def restE (p : Prod9) (q : Quote) : Int := if q.f3 < 1 ∨ q.f3 > 1048576 then 18 else if prGo p (priceL q) = 0 then tailE q else prGo p (priceL q)
def timesBad (q : Quote) : Prop := q.f1 < 0 ∨ q.f1 > 86399 ∨ q.f2 < 0 ∨ q.f2 > 86399 ∨ q.f1 > q.f2
instance (q : Quote) : Decidable (timesBad q) := by unfold timesBad; infer_instance
def markE (p : Prod9) (q : Quote) : Int := if prodE p = 0 then (if tkCheck q.f0 = 0 then (if timesBad q then 2 else restE p q) else tkCheck q.f0) else prodE p
theorem pricesL0 (q : Quote) (l : List Tick) (hl : l.length ≤ 1024) (r : List Int) : ∀ (d i : Nat) (acc : List Int), i + d = l.length → acc = (l.take i).map (fun t => t.f2) →
    Ev (fun k => (some [q.f4, q.f5]).bind fun y => mark_prices.l1 k (l.map fun t => t.f2) y (y.length : Int) 0 q.f0 q.f1 q.f2 q.f3 q.f4 q.f5 q.f6 q.f7) r → Ev (fun k => mark_prices.l0 k acc l l.length i q.f0 q.f1 q.f2 q.f3 q.f4 q.f5 q.f6 q.f7) r
  | 0, i, acc, hd, ha, h => by
    have e : acc = l.map (fun t => t.f2) := by rw [ha, List.take_of_length_le (by omega)]
    refine Ev_succ ?_
    simp only [mark_prices.l0, if_neg (show ¬ ((i : Int) < (l.length : Int)) by omega), e]
    exact h
  | d + 1, i, acc, hd, ha, h => by
    have hi : i < l.length := by omega
    have hal : acc.length = i := by rw [ha, List.length_map, List.length_take]; omega
    refine Ev_succ ?_
    simp only [mark_prices.l0, if_pos (show (i : Int) < (l.length : Int) by omega), if_pos (show 0 ≤ (i : Int) by omega), if_pos (show acc.length < 17592186044416 by omega), rdTick l i hi, w_succ hi (show l.length ≤ 9223372036854775807 by omega)]
    exact pricesL0 q l hl r d (i + 1) _ (by omega) (by rw [ha, List.take_succ_eq_append_getElem hi, List.map_append]; rfl) h
theorem prices_f (q : Quote) (hl : q.f0.length ≤ 1024) : Ev (fun k => mark_prices.f k q.f0 q.f1 q.f2 q.f3 q.f4 q.f5 q.f6 q.f7) (priceL q) := by
  unfold mark_prices.f
  refine pricesL0 q q.f0 hl _ q.f0.length 0 [] (by omega) (by simp) ?_
  simp only [Option.bind_some]
  have hm : (q.f0.map fun t => t.f2).length ≤ 1024 := by rw [List.length_map]; exact hl
  have e0 : rd [q.f4, q.f5] 0 = q.f4 := rfl
  have e1 : rd [q.f4, q.f5] 1 = q.f5 := rfl
  have w0 : wrap64 (0 + 1) = 1 := w_id (by omega) (by omega)
  have w1 : wrap64 (1 + 1) = 2 := w_id (by omega) (by omega)
  have hlen : (([q.f4, q.f5] : List Int).length : Int) = 2 := rfl
  have h2 : ∀ acc : List Int, acc.length ≤ 1026 → Ev (fun k => mark_prices.l1 k acc [q.f4, q.f5] 2 2 q.f0 q.f1 q.f2 q.f3 q.f4 q.f5 q.f6 q.f7) (acc ++ [q.f6]) := by
    intro acc h
    refine Ev_succ ?_
    simp only [mark_prices.l1, if_neg (show ¬ (2 : Int) < 2 by omega), if_pos (show acc.length < 17592186044416 by omega)]
    exact Ev.now _
  have h1 : ∀ acc : List Int, acc.length ≤ 1025 → Ev (fun k => mark_prices.l1 k acc [q.f4, q.f5] 2 1 q.f0 q.f1 q.f2 q.f3 q.f4 q.f5 q.f6 q.f7) (acc ++ ((if q.f5 = 0 then [] else [q.f5]) ++ [q.f6])) := by
    intro acc h
    refine Ev_succ ?_
    simp only [mark_prices.l1, if_pos (show (1 : Int) < 2 by omega), if_pos (show (0 : Int) ≤ 1 by omega), hlen, e1, w1, if_pos (show acc.length < 17592186044416 by omega)]
    refine Ev_if (fun c => ?_) (fun c => ?_)
    · rw [if_pos c, List.nil_append]; exact h2 acc (by omega)
    · rw [if_neg c, ← List.append_assoc]; exact h2 _ (by simp; omega)
  rw [hlen]
  refine Ev_succ ?_
  simp only [mark_prices.l1, if_pos (show (0 : Int) < 2 by omega), if_pos (show (0 : Int) ≤ 0 by omega), hlen, e0, w0, if_pos (show (q.f0.map fun t => t.f2).length < 17592186044416 by omega)]
  unfold priceL
  refine Ev_if (fun c => ?_) (fun c => ?_)
  · rw [if_pos c, List.nil_append]; exact h1 _ (by rw [List.length_map]; omega)
  · rw [if_neg c, ← List.append_assoc]; exact h1 _ (by rw [List.length_append, List.length_map]; simp only [List.length_cons, List.length_nil]; omega)
theorem tail_eq (q : Quote) : (if q.f4 = 0 then (if (decide (-16777216 ≤ q.f7) && decide (q.f7 ≤ 16777216)) = true then (0 : Int) else 17) else if q.f5 = 0 then (if (decide (-16777216 ≤ q.f7) && decide (q.f7 ≤ 16777216)) = true then 0 else 17) else if q.f4 > q.f5 then 17 else (if (decide (-16777216 ≤ q.f7) && decide (q.f7 ≤ 16777216)) = true then 0 else 17)) = tailE q := by
  unfold tailE
  simp only [and_iff]
  by_cases c7 : -16777216 ≤ q.f7 ∧ q.f7 ≤ 16777216
  · simp only [if_pos c7]
    by_cases c4 : q.f4 = 0
    · rw [if_pos c4, if_neg (fun h => h.elim (fun h => h.1 c4) (fun h => h c7))]
    · rw [if_neg c4]
      by_cases c5 : q.f5 = 0
      · rw [if_pos c5, if_neg (fun h => h.elim (fun h => h.2.1 c5) (fun h => h c7))]
      · rw [if_neg c5]
        by_cases c6 : q.f4 > q.f5
        · rw [if_pos c6, if_pos (Or.inl ⟨c4, c5, c6⟩)]
        · rw [if_neg c6, if_neg (fun h => h.elim (fun h => c6 h.2.2) (fun h => h c7))]
  · simp only [if_neg c7]
    rw [if_pos (Or.inr c7)]
    split
    · rfl
    · split
      · rfl
      · split <;> rfl
theorem chkLoop (p : Prod9) (q : Quote) (L : List Int) (hL : L.length ≤ 4096) : ∀ (d i : Nat), i + d = L.length → Ev (fun k => mark_Check.l0 k L L.length i p.f0 p.f1 p.f2 p.f3 p.f4 p.f5 p.f6 q.f0 q.f1 q.f2 q.f3 q.f4 q.f5 q.f6 q.f7) (if prGo p (L.drop i) = 0 then tailE q else prGo p (L.drop i))
  | 0, i, hd => by
    rw [List.drop_of_length_le (by omega)]
    refine Ev_succ ?_
    simp only [mark_Check.l0, if_neg (show ¬ ((i : Int) < (L.length : Int)) by omega), mprice_f, Option.bind_some]
    have e : (if prGo p [] = 0 then tailE q else prGo p []) = tailE q := if_pos rfl
    rw [e, ← tail_eq q]
    refine Ev_if (fun c => ?_) (fun c => ?_)
    · rw [if_pos c]
      refine Ev_if (fun d => ?_) (fun d => ?_)
      · rw [if_pos d]; exact Ev.now _
      · rw [if_neg d]; exact Ev.now _
    · rw [if_neg c]
      refine Ev_if (fun c => ?_) (fun c => ?_)
      · rw [if_pos c]
        refine Ev_if (fun d => ?_) (fun d => ?_)
        · rw [if_pos d]; exact Ev.now _
        · rw [if_neg d]; exact Ev.now _
      · rw [if_neg c]
        refine Ev_if (fun c => ?_) (fun c => ?_)
        · rw [if_pos c]; exact Ev.now _
        · rw [if_neg c]
          refine Ev_if (fun d => ?_) (fun d => ?_)
          · rw [if_pos d]; exact Ev.now _
          · rw [if_neg d]; exact Ev.now _
  | d + 1, i, hd => by
    have hi : i < L.length := by omega
    rw [drop_cons L i hi, prGo]
    refine Ev_succ ?_
    simp only [mark_Check.l0, if_pos (show (i : Int) < (L.length : Int) by omega), if_pos (show 0 ≤ (i : Int) by omega), rd_nat L i hi, w_succ hi (show L.length ≤ 9223372036854775807 by omega)]
    refine Ev_bind (prodPrice_f p L[i]) ?_
    refine Ev_if (fun c => ?_) (fun c => ?_)
    · rw [if_pos c]; exact chkLoop p q L hL d (i + 1) (by omega)
    · rw [if_neg c, if_neg c]; exact Ev.now _
theorem priceL_len (q : Quote) (hl : q.f0.length ≤ 1024) : (priceL q).length ≤ 1027 := by
  unfold priceL
  simp only [List.length_append, List.length_map, List.length_cons, List.length_nil]
  split <;> split <;> simp <;> omega
theorem mark_f (p : Prod9) (q : Quote) : Ev (fun k => mark_Check.f k p.f0 p.f1 p.f2 p.f3 p.f4 p.f5 p.f6 q.f0 q.f1 q.f2 q.f3 q.f4 q.f5 q.f6 q.f7) (markE p q) := by
  unfold mark_Check.f markE
  refine Ev_bind (prod_f p) ?_
  refine Ev_if (fun hp => ?_) (fun hp => by rw [if_neg hp]; exact Ev.now _)
  rw [if_pos hp]
  simp only [tkCheck_f, Option.bind_some]
  refine Ev_if (fun ht => ?_) (fun ht => by rw [if_neg ht]; exact Ev.now _)
  rw [if_pos ht]
  have hl := ((tkCheck_zero q.f0).1 ht).1
  have hbad : timesBad q → Ev (fun k => mark_Check.j0 k true p.f0 p.f1 p.f2 p.f3 p.f4 p.f5 p.f6 q.f0 q.f1 q.f2 q.f3 q.f4 q.f5 q.f6 q.f7) (if timesBad q then 2 else restE p q) := by
    intro c
    rw [if_pos c]
    refine Ev_succ ?_
    simp only [mark_Check.j0, if_true]
    exact Ev.now _
  have hgood : ¬ timesBad q → Ev (fun k => mark_Check.j0 k false p.f0 p.f1 p.f2 p.f3 p.f4 p.f5 p.f6 q.f0 q.f1 q.f2 q.f3 q.f4 q.f5 q.f6 q.f7) (if timesBad q then 2 else restE p q) := by
    intro c
    rw [if_neg c]
    refine Ev_succ ?_
    unfold restE
    simp only [mark_Check.j0, Bool.false_eq_true, if_false]
    refine Ev_if (fun c1 => by rw [if_pos (Or.inl c1)]; exact Ev.now _) (fun c1 => Ev_if (fun c2 => by rw [if_pos (Or.inr c2)]; exact Ev.now _) fun c2 => ?_)
    have hn : ¬ (q.f3 < 1 ∨ q.f3 > 1048576) := fun h => h.elim c1 c2
    rw [if_neg hn]
    refine Ev_bind (prices_f q hl) ?_
    have hL := priceL_len q hl
    have := chkLoop p q (priceL q) (by omega) (priceL q).length 0 (by omega)
    rw [List.drop_zero] at this
    exact this
  refine Ev_if (fun c => hbad (Or.inl c)) (fun c1 => Ev_if (fun c => hbad (Or.inr (Or.inl c))) fun c2 => Ev_if (fun c => hbad (Or.inr (Or.inr (Or.inl c)))) fun c3 => Ev_if (fun c => hbad (Or.inr (Or.inr (Or.inr (Or.inl c))))) fun c4 => ?_)
  by_cases c5 : q.f1 > q.f2
  · rw [decide_eq_true c5]; exact hbad (Or.inr (Or.inr (Or.inr (Or.inr c5))))
  · rw [decide_eq_false c5]
    refine hgood ?_
    unfold timesBad
    omega
theorem chkRLoop1 (p : Prod9) (q : Quote) (hs : p.f0.size ≤ 4611686018427387904) (L : List Int) (hL : L.length ≤ 4096) : ∀ (d i : Nat), i + d = L.length → Ev (fun k => contangoref18_Check.l1 k L i p.f0 p.f1 p.f2 p.f3 p.f4 p.f5 p.f6 q.f0 q.f1 q.f2 q.f3 q.f4 q.f5 q.f6 q.f7) (if prGo p (L.drop i) = 0 then tailE q else prGo p (L.drop i))
  | 0, i, hd => by
    rw [List.drop_of_length_le (by omega)]
    refine Ev_succ ?_
    simp only [contangoref18_Check.l1, if_neg (show ¬ ((i : Int) < (L.length : Int)) by omega), within18_f, Option.bind_some]
    have e : (if prGo p [] = 0 then tailE q else prGo p []) = tailE q := if_pos rfl
    rw [e, ← tail_eq q]
    refine Ev_if (fun c => ?_) (fun c => ?_)
    · rw [if_pos c]
      refine Ev_if (fun d => ?_) (fun d => ?_)
      · rw [if_pos d]; exact Ev.now _
      · rw [if_neg d]; exact Ev.now _
    · rw [if_neg c]
      refine Ev_if (fun c => ?_) (fun c => ?_)
      · rw [if_pos c]
        refine Ev_if (fun d => ?_) (fun d => ?_)
        · rw [if_pos d]; exact Ev.now _
        · rw [if_neg d]; exact Ev.now _
      · rw [if_neg c]
        refine Ev_if (fun c => ?_) (fun c => ?_)
        · rw [if_pos c]; exact Ev.now _
        · rw [if_neg c]
          refine Ev_if (fun d => ?_) (fun d => ?_)
          · rw [if_pos d]; exact Ev.now _
          · rw [if_neg d]; exact Ev.now _
  | d + 1, i, hd => by
    have hi : i < L.length := by omega
    rw [drop_cons L i hi, prGo]
    refine Ev_succ ?_
    simp only [contangoref18_Check.l1, if_pos (show (i : Int) < (L.length : Int) by omega), if_pos (show 0 ≤ (i : Int) by omega), rd_nat L i hi, w_succ hi (show L.length ≤ 9223372036854775807 by omega)]
    refine Ev_bind (prodPriceR_f p L[i] hs) ?_
    refine Ev_if (fun c => ?_) (fun c => ?_)
    · rw [if_pos c]; exact chkRLoop1 p q hs L hL d (i + 1) (by omega)
    · rw [if_neg c, if_neg c]; exact Ev.now _
theorem chkRLoop0 (p : Prod9) (q : Quote) (hl : q.f0.length ≤ 1024) (r : Int) : ∀ (d i : Nat) (acc : List Int), i + d = q.f0.length → acc = (q.f0.take i).map (fun t => t.f2) →
    Ev (fun k => if q.f4 = 0 then contangoref18_Check.j2 k (q.f0.map fun t => t.f2) p.f0 p.f1 p.f2 p.f3 p.f4 p.f5 p.f6 q.f0 q.f1 q.f2 q.f3 q.f4 q.f5 q.f6 q.f7 else (if (q.f0.map fun t => t.f2).length < 17592186044416 then contangoref18_Check.j2 k ((q.f0.map fun t => t.f2) ++ [q.f4]) p.f0 p.f1 p.f2 p.f3 p.f4 p.f5 p.f6 q.f0 q.f1 q.f2 q.f3 q.f4 q.f5 q.f6 q.f7 else none)) r → Ev (fun k => contangoref18_Check.l0 k acc i p.f0 p.f1 p.f2 p.f3 p.f4 p.f5 p.f6 q.f0 q.f1 q.f2 q.f3 q.f4 q.f5 q.f6 q.f7) r
  | 0, i, acc, hd, ha, h => by
    have e : acc = q.f0.map (fun t => t.f2) := by rw [ha, List.take_of_length_le (by omega)]
    refine Ev_succ ?_
    simp only [contangoref18_Check.l0, if_neg (show ¬ ((i : Int) < (q.f0.length : Int)) by omega), e]
    exact h
  | d + 1, i, acc, hd, ha, h => by
    have hi : i < q.f0.length := by omega
    have hal : acc.length = i := by rw [ha, List.length_map, List.length_take]; omega
    refine Ev_succ ?_
    simp only [contangoref18_Check.l0, if_pos (show (i : Int) < (q.f0.length : Int) by omega), if_pos (show 0 ≤ (i : Int) by omega), if_pos (show acc.length < 17592186044416 by omega), rdTick q.f0 i hi, w_succ hi (show q.f0.length ≤ 9223372036854775807 by omega)]
    exact chkRLoop0 p q hl r d (i + 1) _ (by omega) (by rw [ha, List.take_succ_eq_append_getElem hi, List.map_append]; rfl) h
theorem markR_f (p : Prod9) (q : Quote) (hs : p.f0.size ≤ 4611686018427387904) : Ev (fun k => contangoref18_Check.f k p.f0 p.f1 p.f2 p.f3 p.f4 p.f5 p.f6 q.f0 q.f1 q.f2 q.f3 q.f4 q.f5 q.f6 q.f7) (markE p q) := by
  unfold contangoref18_Check.f markE
  refine Ev_bind (prodR_f p hs) ?_
  refine Ev_if (fun hp => ?_) (fun hp => by rw [if_neg hp]; exact Ev.now _)
  rw [if_pos hp]
  refine Ev_bind (tkCheckR_f q.f0) ?_
  refine Ev_if (fun ht => ?_) (fun ht => by rw [if_neg ht]; exact Ev.now _)
  rw [if_pos ht]
  have hl := ((tkCheck_zero q.f0).1 ht).1
  have hm : (q.f0.map fun t => t.f2).length ≤ 1024 := by rw [List.length_map]; exact hl
  have hbad : timesBad q → Ev (fun k => contangoref18_Check.j0 k true p.f0 p.f1 p.f2 p.f3 p.f4 p.f5 p.f6 q.f0 q.f1 q.f2 q.f3 q.f4 q.f5 q.f6 q.f7) (if timesBad q then 2 else restE p q) := by
    intro c
    rw [if_pos c]
    refine Ev_succ ?_
    simp only [contangoref18_Check.j0, if_true]
    exact Ev.now _
  have hj3 : ∀ acc : List Int, acc.length ≤ 1026 → acc ++ [q.f6] = priceL q → Ev (fun k => contangoref18_Check.j3 k acc p.f0 p.f1 p.f2 p.f3 p.f4 p.f5 p.f6 q.f0 q.f1 q.f2 q.f3 q.f4 q.f5 q.f6 q.f7) (if prGo p (priceL q) = 0 then tailE q else prGo p (priceL q)) := by
    intro acc ha he
    refine Ev_succ ?_
    simp only [contangoref18_Check.j3, if_pos (show acc.length < 17592186044416 by omega), he]
    have hL := priceL_len q hl
    have := chkRLoop1 p q hs (priceL q) (by omega) (priceL q).length 0 (by omega)
    rw [List.drop_zero] at this
    exact this
  have hj2 : ∀ acc : List Int, acc.length ≤ 1025 → acc ++ ((if q.f5 = 0 then [] else [q.f5]) ++ [q.f6]) = priceL q → Ev (fun k => contangoref18_Check.j2 k acc p.f0 p.f1 p.f2 p.f3 p.f4 p.f5 p.f6 q.f0 q.f1 q.f2 q.f3 q.f4 q.f5 q.f6 q.f7) (if prGo p (priceL q) = 0 then tailE q else prGo p (priceL q)) := by
    intro acc ha he
    refine Ev_succ ?_
    simp only [contangoref18_Check.j2, if_pos (show acc.length < 17592186044416 by omega)]
    refine Ev_if (fun c => ?_) (fun c => ?_)
    · rw [if_pos c, List.nil_append] at he
      exact hj3 acc (by omega) he
    · rw [if_neg c, ← List.append_assoc] at he
      exact hj3 _ (by simp; omega) he
  have hgood : ¬ timesBad q → Ev (fun k => contangoref18_Check.j0 k false p.f0 p.f1 p.f2 p.f3 p.f4 p.f5 p.f6 q.f0 q.f1 q.f2 q.f3 q.f4 q.f5 q.f6 q.f7) (if timesBad q then 2 else restE p q) := by
    intro c
    rw [if_neg c]
    refine Ev_succ ?_
    unfold restE
    simp only [contangoref18_Check.j0, Bool.false_eq_true, if_false, within18_f, Option.bind_some, and_iff]
    refine Ev_if (fun c1 => ?_) (fun c1 => by rw [if_pos (show q.f3 < 1 ∨ q.f3 > 1048576 by omega)]; exact Ev.now _)
    rw [if_neg (show ¬ (q.f3 < 1 ∨ q.f3 > 1048576) by omega)]
    refine chkRLoop0 p q hl _ q.f0.length 0 [] (by omega) (by simp) ?_
    refine Ev_if (fun c => ?_) (fun c => ?_)
    · refine hj2 _ (by omega) ?_
      unfold priceL; rw [if_pos c, List.nil_append]
    · simp only [if_pos (show (q.f0.map fun t => t.f2).length < 17592186044416 by omega)]
      refine hj2 _ (by simp; omega) ?_
      unfold priceL; rw [if_neg c, List.append_assoc]
  simp only [within18_f, Option.bind_some, and_iff]
  refine Ev_if (fun c1 => Ev_if (fun c2 => ?_) fun c2 => hbad (by unfold timesBad; omega)) fun c1 => hbad (by unfold timesBad; omega)
  by_cases c5 : q.f1 > q.f2
  · rw [decide_eq_true c5]; exact hbad (Or.inr (Or.inr (Or.inr (Or.inr c5))))
  · rw [decide_eq_false c5]
    exact hgood (by unfold timesBad; omega)
end Go.Proofs.Ytocndpddghefhaa.P
end
section
namespace Go.Proofs.Ytocndpddghefhaa.P
set_option linter.unusedVariables false
set_option linter.unusedSimpArgs false
open Go.RowKit Go.Proofs.YtocndpddghefhaaW.PrintWords Go.Proofs.YtocndpddghefhaaW.PrintMore Go.Proofs.Ytocndpddghefhaa.X
def adj4 (q : Quote) (n : Int) : Int := if q.f4 = 0 then n else mx n q.f4
def adjP (q : Quote) (n : Int) : Int := if q.f5 = 0 then adj4 q n else mn (adj4 q n) q.f5
def winQ (q : Quote) : List Tick := winL q.f0 q.f1 q.f2
def lastMade (p : Prod9) (q : Quote) : Int × Int := if h : 0 < q.f0.length then (adjP q (q.f0[q.f0.length - 1]'(by omega)).f2, 3) else (prodRound p (clampI (wrap64 (q.f6 + q.f7)) (-16777216) 16777216) 5, 4)
def madeE (p : Prod9) (q : Quote) : Int × Int := if q.f3 ≤ qtyS (winQ q) then ((tkVwap (winQ q) p.f3 5).1, 1) else if q.f4 ≠ 0 ∧ q.f5 ≠ 0 then ((midE q.f4 q.f5 p.f3).1, 2) else lastMade p q
def markP (p : Prod9) (q : Quote) : Int × Int × Int := if markE p q = 0 then (clampI (madeE p q).1 p.f4 p.f5, (madeE p q).2, 0) else (0, 0, markE p q)
theorem prGo_zero (p : Prod9) : ∀ (L : List Int), prGo p L = 0 → ∀ n ∈ L, prodPrice p n = 0
  | [], _, n, hn => by simp at hn
  | x :: r, h, n, hn => by
    rw [prGo] at h
    by_cases c : prodPrice p x = 0
    · rw [if_pos c] at h
      rcases List.mem_cons.1 hn with e | e
      · rw [e]; exact c
      · exact prGo_zero p r h n e
    · rw [if_neg c] at h; exact absurd h c
theorem prodPrice_zero {p : Prod9} {n : Int} (hp : prodE p = 0) (h : prodPrice p n = 0) : p.f4 ≤ n ∧ n ≤ p.f5 ∧ Int.tmod n p.f3 = 0 := by
  unfold prodPrice at h
  rw [if_pos hp] at h
  by_cases c : n < p.f4 ∨ n > p.f5
  · rw [if_pos c] at h; omega
  · rw [if_neg c] at h
    by_cases c2 : Int.tmod n p.f3 = 0
    · exact ⟨by omega, by omega, c2⟩
    · rw [if_neg c2] at h; omega
def Valid (p : Prod9) (n : Int) : Prop := p.f4 ≤ n ∧ n ≤ p.f5 ∧ Int.tmod n p.f3 = 0
structure MarkOk (p : Prod9) (q : Quote) : Prop where
  prod : prodE p = 0
  ok : ProdOk p
  ticks : tkCheck q.f0 = 0
  least : 1 ≤ q.f3 ∧ q.f3 ≤ 1048576
  tick : ∀ t ∈ q.f0, Valid p t.f2
  bid : q.f4 ≠ 0 → Valid p q.f4
  ask : q.f5 ≠ 0 → Valid p q.f5
  order : q.f4 ≠ 0 → q.f5 ≠ 0 → q.f4 ≤ q.f5
  before : Valid p q.f6
  move : -16777216 ≤ q.f7 ∧ q.f7 ≤ 16777216
theorem markE_zero {p : Prod9} {q : Quote} (h : markE p q = 0) : MarkOk p q := by
  unfold markE at h
  by_cases c0 : prodE p = 0
  case neg => rw [if_neg c0] at h; exact absurd h c0
  rw [if_pos c0] at h
  by_cases c1 : tkCheck q.f0 = 0
  case neg => rw [if_neg c1] at h; exact absurd h c1
  rw [if_pos c1] at h
  by_cases c2 : timesBad q
  · rw [if_pos c2] at h; omega
  rw [if_neg c2] at h
  unfold restE at h
  by_cases c3 : q.f3 < 1 ∨ q.f3 > 1048576
  · rw [if_pos c3] at h; omega
  rw [if_neg c3] at h
  by_cases c4 : prGo p (priceL q) = 0
  case neg => rw [if_neg c4] at h; exact absurd h c4
  rw [if_pos c4] at h
  have hz := fun n hn => prodPrice_zero c0 (prGo_zero p _ c4 n hn)
  unfold tailE at h
  by_cases c5 : (q.f4 ≠ 0 ∧ q.f5 ≠ 0 ∧ q.f4 > q.f5) ∨ ¬ (-16777216 ≤ q.f7 ∧ q.f7 ≤ 16777216)
  · rw [if_pos c5] at h; omega
  refine ⟨c0, prodE_zero c0, c1, by omega, fun t ht => hz _ ?_, fun hn => hz _ ?_, fun hn => hz _ ?_, fun h4 h5 => ?_, hz _ ?_, ?_⟩
  · unfold priceL; exact List.mem_append_left _ (List.mem_map_of_mem ht)
  · unfold priceL; rw [if_neg hn]; simp
  · unfold priceL; rw [if_neg hn]; simp
  · exact Int.not_lt.1 (fun hlt => c5 (Or.inl ⟨h4, h5, hlt⟩))
  · unfold priceL; simp
  · exact Decidable.not_not.1 (fun hn => c5 (Or.inr hn))
theorem last_f (l : List Tick) (hl : l.length ≤ 1024) : tape_Last.f l = some (if h : 0 < l.length then ((l[l.length - 1]'(by omega)).f0, (l[l.length - 1]'(by omega)).f1, (l[l.length - 1]'(by omega)).f2, true) else (0, 0, 0, false)) := by
  unfold tape_Last.f
  by_cases c : 0 < l.length
  · rw [if_neg (by omega), w_pred c (by omega), if_pos (by omega), if_pos (by omega), dif_pos c, rdTick l (l.length - 1) (by omega)]
  · rw [if_pos (by omega), dif_neg c]
theorem clamp6 (q : Quote) : -16777216 ≤ clampI (wrap64 (q.f6 + q.f7)) (-16777216) 16777216 ∧ clampI (wrap64 (q.f6 + q.f7)) (-16777216) 16777216 ≤ 16777216 := clamp_rng (by omega)
section
variable {p : Prod9} {q : Quote} (ok : MarkOk p q)
include ok
theorem win_facts : tkCheck (winQ q) = 0 ∧ (q.f3 ≤ qtyS (winQ q) → winQ q ≠ [] ∧ (tkVwap (winQ q) p.f3 5).2 = 0) := by
  have hw : tkCheck (winQ q) = 0 := winL_ok _ _ ok.ticks
  refine ⟨hw, fun h => ?_⟩
  have hne : winQ q ≠ [] := fun e => by rw [e] at h; have := ok.least; simp only [qtyS] at h; omega
  have hok := ok.ok
  unfold ProdOk at hok
  refine ⟨hne, ?_⟩
  unfold tkVwap
  rw [if_pos hw, if_neg (by omega), if_neg (by decide), if_neg hne]
theorem mid_ok (h4 : q.f4 ≠ 0) (h5 : q.f5 ≠ 0) : ∃ z, midE q.f4 q.f5 p.f3 = (z * p.f3, 0) ∧ q.f4 ≤ z * p.f3 ∧ z * p.f3 ≤ q.f5 := by
  have hok := ok.ok
  unfold ProdOk at hok
  obtain ⟨a1, a2, a3⟩ := ok.bid h4
  obtain ⟨b1, b2, b3⟩ := ok.ask h5
  exact mid_between (by omega) (by omega) (by omega) (ok.order h4 h5) a3 b3
theorem price_rules : Ev (fun k => priceGo k p.f4 p.f5 1 [rule1F k (winQ q) p.f3 q.f3, rule2F k q.f4 q.f5 p.f3, rule3F q.f0 q.f4 q.f5, rule4F k p.f0 p.f1 p.f2 p.f3 p.f4 p.f5 p.f6 q.f6 q.f7]) (clampI (madeE p q).1 p.f4 p.f5, (madeE p q).2, 0) := by
  obtain ⟨hw, hw2⟩ := win_facts ok
  have hfin : ∀ n i : Int, Ev (fun k => (cents_Clamp.f k n p.f4 p.f5).bind fun m => some (m, i, (0 : Int))) (clampI n p.f4 p.f5, i, 0) := fun n i => Ev_bind (clamp_f n p.f4 p.f5) (Ev.now _)
  have h1 : Ev (fun k => rule1F k (winQ q) p.f3 q.f3) (if q.f3 ≤ qtyS (winQ q) then ((tkVwap (winQ q) p.f3 5).1, true) else (0, false)) := by
    unfold rule1F
    simp only [tkVolume_f, tkVwap_f, Option.bind_some]
    unfold tkVolume
    simp only [if_pos hw]
    refine Ev_if (fun c => ?_) (fun c => ?_)
    · rw [if_neg (by omega)]; exact Ev.now _
    · obtain ⟨_, h2⟩ := hw2 (by omega)
      rw [if_pos (by omega), h2]; exact Ev.now _
  have h2 : Ev (fun k => rule2F k q.f4 q.f5 p.f3) ((midE q.f4 q.f5 p.f3).1, q.f4 != 0 && (q.f5 != 0 && (midE q.f4 q.f5 p.f3).2 == 0)) := by
    unfold rule2F
    exact Ev_bind (mid_f _ _ _) (Ev.now _)
  have hl := ((tkCheck_zero q.f0).1 ok.ticks).1
  have h4 : Ev (fun k => rule4F k p.f0 p.f1 p.f2 p.f3 p.f4 p.f5 p.f6 q.f6 q.f7) (prodRound p (clampI (wrap64 (q.f6 + q.f7)) (-16777216) 16777216) 5, true) := by
    unfold rule4F
    refine Ev_bind (clamp_f _ _ _) ?_
    refine Ev_bind (prodRound_f p _ 5 ok.prod (clamp6 q) (by omega)) ?_
    exact Ev.now _
  simp only [priceGo]
  refine Ev_bind h1 ?_
  unfold madeE
  by_cases c1 : q.f3 ≤ qtyS (winQ q)
  · simp only [if_pos c1, if_true]
    exact hfin _ 1
  simp only [if_neg c1, Bool.false_eq_true, if_false]
  refine Ev_bind h2 ?_
  by_cases c2 : q.f4 ≠ 0 ∧ q.f5 ≠ 0
  · obtain ⟨z, e, _, _⟩ := mid_ok ok c2.1 c2.2
    have eb : (q.f4 != 0 && (q.f5 != 0 && (midE q.f4 q.f5 p.f3).2 == 0)) = true := by rw [e]; simp [c2.1, c2.2]
    simp only [eb, if_true, if_pos c2]
    exact hfin _ 2
  have eb : (q.f4 != 0 && (q.f5 != 0 && (midE q.f4 q.f5 p.f3).2 == 0)) = false := by
    by_cases c4 : q.f4 = 0
    · rw [bne_eq_false_iff_eq.2 c4]; rfl
    · have c5 : q.f5 = 0 := Decidable.not_not.1 (fun h => c2 ⟨c4, h⟩)
      rw [bne_eq_false_iff_eq.2 c5]; simp
  simp only [eb, Bool.false_eq_true, if_false, if_neg c2]
  unfold lastMade
  by_cases c3 : 0 < q.f0.length
  · have e3 : rule3F q.f0 q.f4 q.f5 = some (adjP q (q.f0[q.f0.length - 1]'(by omega)).f2, true) := by
      unfold rule3F
      rw [last_f q.f0 hl, dif_pos c3]
      rfl
    simp only [e3, Option.bind_some, if_true, dif_pos c3]
    exact hfin _ 3
  · have e3 : ∃ x, rule3F q.f0 q.f4 q.f5 = some (x, false) := by
      unfold rule3F
      rw [last_f q.f0 hl, dif_neg c3]
      exact ⟨_, rfl⟩
    obtain ⟨x, e3⟩ := e3
    simp only [e3, Option.bind_some, Bool.false_eq_true, if_false, dif_neg c3]
    refine Ev_bind h4 ?_
    simp only [if_true]
    exact hfin _ 4
end
theorem markP_f (p : Prod9) (q : Quote) : Ev (fun k => mark_Price.f k p.f0 p.f1 p.f2 p.f3 p.f4 p.f5 p.f6 q.f0 q.f1 q.f2 q.f3 q.f4 q.f5 q.f6 q.f7) (markP p q) := by
  unfold mark_Price.f markP
  refine Ev_bind (mark_f p q) ?_
  by_cases h : markE p q = 0
  · have ok := markE_zero h
    have hl := ((tkCheck_zero q.f0).1 ok.ticks).1
    simp only [if_pos h, if_neg (show ¬ markE p q ≠ 0 from fun x => x h), window_f q.f0 q.f1 q.f2 hl, Option.bind_some]
    exact price_rules ok
  · simp only [if_neg h, if_pos (show markE p q ≠ 0 from h)]
    exact Ev.now _
theorem made_f {p : Prod9} {q : Quote} (ok : MarkOk p q) (hs : p.f0.size ≤ 4611686018427387904) : Ev (fun k => contangoref18_made.f k p.f0 p.f1 p.f2 p.f3 p.f4 p.f5 p.f6 q.f0 q.f1 q.f2 q.f3 q.f4 q.f5 q.f6 q.f7) (madeE p q) := by
  obtain ⟨hw, hw2⟩ := win_facts ok
  have hl := ((tkCheck_zero q.f0).1 ok.ticks).1
  unfold contangoref18_made.f madeE
  refine Ev_bind (windowR_f q.f0 q.f1 q.f2 hl) ?_
  refine Ev_bind (tkVolumeR_f _) ?_
  have ev : tkVolume (winL q.f0 q.f1 q.f2) = (qtyS (winQ q), 0) := by unfold tkVolume; rw [if_pos (show tkCheck (winL q.f0 q.f1 q.f2) = 0 from hw)]; rfl
  rw [ev]
  refine Ev_if (fun c => ?_) (fun c => ?_)
  · rw [if_pos (show q.f3 ≤ qtyS (winQ q) from c)]
    exact Ev_bind (tkVwapR_f _ _ _) (Ev.now _)
  rw [if_neg (show ¬ q.f3 ≤ qtyS (winQ q) from c)]
  have hno : ¬ (q.f4 ≠ 0 ∧ q.f5 ≠ 0) → Ev (fun k => contangoref18_made.j0 k false p.f0 p.f1 p.f2 p.f3 p.f4 p.f5 p.f6 q.f0 q.f1 q.f2 q.f3 q.f4 q.f5 q.f6 q.f7) (if q.f4 ≠ 0 ∧ q.f5 ≠ 0 then ((midE q.f4 q.f5 p.f3).1, 2) else lastMade p q) := by
    intro c2
    rw [if_neg c2]
    refine Ev_succ ?_
    unfold lastMade
    simp only [contangoref18_made.j0, Bool.false_eq_true, if_false]
    refine Ev_if (fun c3 => ?_) (fun c3 => ?_)
    · have c3' : 0 < q.f0.length := by omega
      rw [dif_pos c3']
      simp only [w_pred c3' (show q.f0.length ≤ 9223372036854775807 by omega), if_pos (show 0 ≤ ((q.f0.length - 1 : Nat) : Int) by omega), if_pos (show ((q.f0.length - 1 : Nat) : Int) < (q.f0.length : Int) by omega), rdTick q.f0 (q.f0.length - 1) (by omega)]
      obtain ⟨n, hn⟩ : ∃ n, (q.f0[q.f0.length - 1]'(by omega)).f2 = n := ⟨_, rfl⟩
      rw [hn]
      have j2 : ∀ x, Ev (fun k => contangoref18_made.j2 k x q.f0 q.f1 q.f2 q.f3 q.f4 q.f5 q.f6 q.f7) (if q.f5 = 0 then x else mn x q.f5, 3) := by
        intro x
        refine Ev_succ ?_
        simp only [contangoref18_made.j2]
        have j3 : ∀ b, Ev (fun k => contangoref18_made.j3 k x b q.f0 q.f1 q.f2 q.f3 q.f4 q.f5 q.f6 q.f7) (if b = true then q.f5 else x, 3) := by
          intro b
          refine Ev_succ ?_
          cases b
          · simp only [contangoref18_made.j3, Bool.false_eq_true, if_false]; exact Ev.now _
          · simp only [contangoref18_made.j3, if_true]; exact Ev.now _
        refine Ev_if (fun c5 => ?_) (fun c5 => ?_)
        · rw [if_pos c5]; exact j3 false
        · rw [if_neg c5]
          have := j3 (decide (x > q.f5))
          have e : (if decide (x > q.f5) = true then q.f5 else x) = mn x q.f5 := by
            unfold mn
            by_cases cc : q.f5 < x
            · rw [if_pos cc, if_pos (decide_eq_true cc)]
            · rw [if_neg cc, if_neg (by rw [decide_eq_false (show ¬ x > q.f5 from cc)]; decide)]
          rw [e] at this
          exact this
      have j1 : ∀ b, Ev (fun k => contangoref18_made.j1 k n b q.f0 q.f1 q.f2 q.f3 q.f4 q.f5 q.f6 q.f7) (if q.f5 = 0 then (if b = true then q.f4 else n) else mn (if b = true then q.f4 else n) q.f5, 3) := by
        intro b
        refine Ev_succ ?_
        cases b
        · simp only [contangoref18_made.j1, Bool.false_eq_true, if_false]; exact j2 _
        · simp only [contangoref18_made.j1, if_true]; exact j2 _
      unfold adjP adj4
      refine Ev_if (fun c4 => ?_) (fun c4 => ?_)
      · simp only [if_pos c4]
        have := j1 false
        simp only [Bool.false_eq_true, if_false] at this
        exact this
      · simp only [if_neg c4]
        have := j1 (decide (n < q.f4))
        have e : (if decide (n < q.f4) = true then q.f4 else n) = mx n q.f4 := by
          unfold mx
          by_cases cc : n < q.f4
          · rw [if_pos cc, if_pos (decide_eq_true cc)]
          · rw [if_neg cc, if_neg (by rw [decide_eq_false cc]; decide)]
        rw [e] at this
        exact this
    · have c3' : ¬ 0 < q.f0.length := by omega
      rw [dif_neg c3']
      refine Ev_bind (clampR_f _ _ _) ?_
      refine Ev_bind (prodRoundR_f p _ 5 ok.prod hs (clamp6 q) (by omega)) ?_
      exact Ev.now _
  refine Ev_if (fun c4 => ?_) (fun c4 => ?_)
  · exact hno (fun h => h.1 c4)
  · by_cases c5 : q.f5 = 0
    · rw [bne_eq_false_iff_eq.2 c5]
      exact hno (fun h => h.2 c5)
    · rw [bne_iff_ne.2 c5, if_pos ⟨c4, c5⟩]
      refine Ev_succ ?_
      simp only [contangoref18_made.j0, if_true]
      exact Ev_bind (midR_f _ _ _) (Ev.now _)
theorem markPR_f (p : Prod9) (q : Quote) (hs : p.f0.size ≤ 4611686018427387904) : Ev (fun k => contangoref18_Price.f k p.f0 p.f1 p.f2 p.f3 p.f4 p.f5 p.f6 q.f0 q.f1 q.f2 q.f3 q.f4 q.f5 q.f6 q.f7) (markP p q) := by
  unfold contangoref18_Price.f markP
  refine Ev_bind (markR_f p q hs) ?_
  by_cases h : markE p q = 0
  · have ok := markE_zero h
    simp only [if_pos h]
    refine Ev_bind (made_f ok hs) ?_
    exact Ev_bind (clampR_f _ _ _) (Ev.now _)
  · simp only [if_neg h]
    exact Ev.now _
end Go.Proofs.Ytocndpddghefhaa.P
end
section
namespace Go.Proofs.Ytocndpddghefhaa.P
open Go.RowKit Go.Proofs.YtocndpddghefhaaW.PrintWords Go.Proofs.YtocndpddghefhaaW.PrintMore Go.Proofs.Ytocndpddghefhaa.X
set_option maxRecDepth 100000 in
theorem goes18 : Ev (fun k => contangolaw18_goes.f k) true := Ev.of (k := 70) (contangolaw18_goes.mono) (by decide +kernel)
end Go.Proofs.Ytocndpddghefhaa.P
end
section
namespace Go.Proofs.Ytocndpddghefhaa.Pure
set_option linter.unusedVariables false
set_option linter.unusedSimpArgs false
open Go.RowKit Go.Proofs.YtocndpddghefhaaW.PrintWords Go.Proofs.YtocndpddghefhaaW.PrintMore Go.Proofs.Ytocndpddghefhaa.X Go.Proofs.Ytocndpddghefhaa.P
theorem MarkPrices : ∀ (x0 : S34) (x1 : S36), ok34 x0 → ok36 x1 → ∃ k, X.contangolaw18_MarkPrices.f k x0.f0 x0.f1 x0.f2 x0.f3 x0.f4 x0.f5 x0.f6 x1.f0 x1.f1 x1.f2 x1.f3 x1.f4 x1.f5 x1.f6 x1.f7 = some true := by
  intro p q hp _
  apply Ev.rounds
  have hs : p.f0.size ≤ 4611686018427387904 := by have := hp.1; omega
  unfold contangolaw18_MarkPrices.f
  refine Ev_bind (markP_f p q) ?_
  refine Ev_bind (markPR_f p q hs) ?_
  refine Ev_bind (mark_f p q) ?_
  refine Ev_bind (markR_f p q hs) ?_
  simp only [if_true]
  exact Ev_id goes18
end Go.Proofs.Ytocndpddghefhaa.Pure
end
