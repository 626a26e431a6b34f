/- For SeriesTexts: contracts, and facts on lists and numbers, that it uses (part 4). -/
import Derived.ChangeArms
import Derived.Deep.Slices
import Derived.Laws.BitsLemmas
import Derived.Laws.Strings
import Derived.Lib.Bytealg
import Derived.Lib.IndexBytes
import Derived.Lib.Replace
import Derived.Lib.SplitLaws
import Derived.OpenShut
import Derived.SizedLaws
import Derived.Test.YtieifncibojciaaDoorSeriesTextsc3
import Derived.WideShapes
section
namespace Go.Proofs.YtieifncibojciaaDoor.X
open Go.RowKit Go.Proofs.YtieifncibojciaaDoorW.PrintWords Go.Proofs.YtieifncibojciaaDoorW.PrintLast Go.Proofs.YtieifncibojciaaDoorW.PrintMore
attribute [local go_sem] max2_int min2_int max_two min_two max_three min_three max_four min_four
set_option linter.unusedVariables false
set_option linter.unusedSimpArgs false
def contangoref10_Print.j0 : Nat → Int → Int → Int → Bool → ByteArray → Int → Int → Int → Option (ByteArray)
  | 0, _, _, _, _, _, _, _, _ => none
  | k + 1, x3, x4, x5, x27, x102000, x102001, x102002, x102003 => if x27 = true then (some (⟨#[]⟩ : ByteArray)) else (if x102000.size + 1 ≤ 9223372036854775807 then ((contangoref10_digits.f k x3 4).bind fun t106 => (if (x102000 ++ (⟨#[46]⟩ : ByteArray)).size + t106.size ≤ 9223372036854775807 then ((contangoref10_digits.f k x4 2).bind fun t107 => (if ((x102000 ++ (⟨#[46]⟩ : ByteArray)) ++ t106).size + t107.size ≤ 9223372036854775807 then ((contangoref10_digits.f k x5 2).bind fun t108 => (if (((x102000 ++ (⟨#[46]⟩ : ByteArray)) ++ t106) ++ t107).size + t108.size ≤ 9223372036854775807 then (if ((((x102000 ++ (⟨#[46]⟩ : ByteArray)) ++ t106) ++ t107) ++ t108).size + 1 ≤ 9223372036854775807 then (if x102001 = 1 then (if (((((x102000 ++ (⟨#[46]⟩ : ByteArray)) ++ t106) ++ t107) ++ t108) ++ (⟨#[46]⟩ : ByteArray)).size + 1 ≤ 9223372036854775807 then (some ((((((x102000 ++ (⟨#[46]⟩ : ByteArray)) ++ t106) ++ t107) ++ t108) ++ (⟨#[46]⟩ : ByteArray)) ++ (⟨#[102]⟩ : ByteArray))) else (none)) else (if x102001 = 2 then (if (((((x102000 ++ (⟨#[46]⟩ : ByteArray)) ++ t106) ++ t107) ++ t108) ++ (⟨#[46]⟩ : ByteArray)).size + 1 ≤ 9223372036854775807 then ((contangoref03_Text.f k x102003).bind fun t109 => (if ((((((x102000 ++ (⟨#[46]⟩ : ByteArray)) ++ t106) ++ t107) ++ t108) ++ (⟨#[46]⟩ : ByteArray)) ++ (⟨#[99]⟩ : ByteArray)).size + t109.size ≤ 9223372036854775807 then (some (((((((x102000 ++ (⟨#[46]⟩ : ByteArray)) ++ t106) ++ t107) ++ t108) ++ (⟨#[46]⟩ : ByteArray)) ++ (⟨#[99]⟩ : ByteArray)) ++ t109)) else (none))) else (none)) else (if (((((x102000 ++ (⟨#[46]⟩ : ByteArray)) ++ t106) ++ t107) ++ t108) ++ (⟨#[46]⟩ : ByteArray)).size + 1 ≤ 9223372036854775807 then ((contangoref03_Text.f k x102003).bind fun t110 => (if ((((((x102000 ++ (⟨#[46]⟩ : ByteArray)) ++ t106) ++ t107) ++ t108) ++ (⟨#[46]⟩ : ByteArray)) ++ (⟨#[112]⟩ : ByteArray)).size + t110.size ≤ 9223372036854775807 then (some (((((((x102000 ++ (⟨#[46]⟩ : ByteArray)) ++ t106) ++ t107) ++ t108) ++ (⟨#[46]⟩ : ByteArray)) ++ (⟨#[112]⟩ : ByteArray)) ++ t110)) else (none))) else (none)))) else (none)) else (none))) else (none))) else (none))) else (none))
def contangoref10_Print.f (k : Nat) (a0_0 : ByteArray) (a0_1 : Int) (a0_2 : Int) (a0_3 : Int) : Option (ByteArray) := (contangoref05_Split.f k a0_2).bind fun bt102 => (if bt102.2.2.2 = 0 then (if a0_1 < 1 then (contangoref10_Print.j0 k bt102.1 bt102.2.1 bt102.2.2.1 true a0_0 a0_1 a0_2 a0_3) else (contangoref10_Print.j0 k bt102.1 bt102.2.1 bt102.2.2.1 (decide (a0_1 > 3)) a0_0 a0_1 a0_2 a0_3)) else (contangoref10_Print.j0 k bt102.1 bt102.2.1 bt102.2.2.1 true a0_0 a0_1 a0_2 a0_3))
def contangoref10_Print.T4 : Bool × List (List Nat × List Nat) := (true, [([], []), ([0], [0]), ([1], [1]), ([], []), ([3], [3]), ([2, 4], [2, 4]), ([], []), ([6, 4], [6]), ([5, 7], [5, 7]), ([], []), ([9, 7], [9]), ([8, 10], [8, 10]), ([11], [11]), ([12, 10, 0, 1, 2, 3, 4, 5, 6, 7, 8, 9, 10, 11, 12], [12])])
def contangoref10_Print.B4 : List Nat := [0, 1, 3, 0, 8, 31, 0, 88, 255, 0, 728, 2047, 4095, 8191]
theorem contangoref10_Print.tab4 : rtab .any (opsOf Tryd.f18 4) = contangoref10_Print.T4 := by kernel_rfl
theorem contangoref10_Print.bits4 : waitsOk contangoref10_Print.T4.2 contangoref10_Print.B4 = true := by kernel_rfl
set_option maxHeartbeats 8000000 in
set_option maxRecDepth 100000 in
theorem contangoref10_Print.calls (k : Nat) (a0_0 : ByteArray) (a0_1 : Int) (a0_2 : Int) (a0_3 : Int) (r : ByteArray) (w : World) (h : contangoref10_Print.f k a0_0 a0_1 a0_2 a0_3 = some r) :
    Calls Tryd.prog 18 #[.agg #[.string a0_0, .int .i64 a0_1, .int .i64 a0_2, .int .i64 a0_3]] w fun e w' => e = .returned (.string r) ∧ Below w.heap.size w w' := by
  have hu23 := Tryd.underlying23
  have HB := Aside0.mk (Below.refl w.heap.size w)
  have H : ((contangoref05_Split.f k a0_2).bind fun bt102 => (if bt102.2.2.2 = 0 then (if a0_1 < 1 then (contangoref10_Print.j0 k bt102.1 bt102.2.1 bt102.2.2.1 true a0_0 a0_1 a0_2 a0_3) else (contangoref10_Print.j0 k bt102.1 bt102.2.1 bt102.2.2.1 (decide (a0_1 > 3)) a0_0 a0_1 a0_2 a0_3)) else (contangoref10_Print.j0 k bt102.1 bt102.2.1 bt102.2.2.1 true a0_0 a0_1 a0_2 a0_3))) = some r := h
  clear h
  replace H := Option.bind_eq_some_iff.mp H
  obtain ⟨⟨t102, t103, t104, t105⟩, A20, H⟩ := H
  replace H : (if t105 = 0 then (if a0_1 < 1 then (contangoref10_Print.j0 k t102 t103 t104 true a0_0 a0_1 a0_2 a0_3) else (contangoref10_Print.j0 k t102 t103 t104 (decide (a0_1 > 3)) a0_0 a0_1 a0_2 a0_3)) else (contangoref10_Print.j0 k t102 t103 t104 true a0_0 a0_1 a0_2 a0_3)) = some r := H
  have A2 := Aside0.mk A20
  clear A20
  have HC3 := Aside0.mk H
  clear H
  go_enter Tryd.func18, Tryd.ntmps18
  go_upto_region 2 with (first | ((with_reducible refine gate_dst (N := 1) rfl ?_); refine box_event ?hg (N := 1) ?hd (cs := #[.string a0_0, .int .i64 a0_1, .int .i64 a0_2, .int .i64 a0_3]) (t := 23) ?hr ?_; (case hd => rfl); (case hg => rfl); (case hr => first | (go_simp; done) | (go_simp; rfl)); intro gb101 hg w4 hbox hb; have n0_ := Aside0.mk (below_step (by repeat (first | (with_reducible first | exact HB.out | apply below_alloc | apply pw_below_drewN | apply below_drew1) | exact HB.out)) hb); have n1_ := Aside0.mk (hbox); have n2_ := Aside0.mk ((by rw [hg]; exact (below_size (by repeat (first | (with_reducible first | exact HB.out | apply below_alloc | apply pw_below_drewN | apply below_drew1) | exact HB.out))) : w.heap.size ≤ gb101)); have n3_ := Aside0.mk ((by rw [hg]; exact (below_size (by repeat (first | (with_reducible first | exact HB.out | apply below_alloc | apply pw_below_drewN | apply below_drew1) | exact HB.out))) : w.heap.size ≤ gb101)); clear HB; have HB := n0_; have BK101 := n1_; have GW101 := n2_; have GE101 := n3_; clear n0_ n1_ n2_ n3_; clear hb hbox hg; have hcz5_0 : w4.cell? ⟨gb101, 0, none⟩ = some (.string a0_0) := (blk_cell BK101.out 0).trans rfl; have hcz5_1 : w4.cell? ⟨gb101, 1, none⟩ = some (.int .i64 a0_1) := (blk_cell BK101.out 1).trans rfl; have hcz5_2 : w4.cell? ⟨gb101, 2, none⟩ = some (.int .i64 a0_2) := (blk_cell BK101.out 2).trans rfl; have hcz5_3 : w4.cell? ⟨gb101, 3, none⟩ = some (.int .i64 a0_3) := (blk_cell BK101.out 3).trans rfl; have hfz5_0 := blk_frozen BK101.out 0; have hfz5_1 := blk_frozen BK101.out 1; have hfz5_2 := blk_frozen BK101.out 2; have hfz5_3 := blk_frozen BK101.out 3) | ((with_reducible refine gate_callee (f := 63) rfl ?_); refine goesL_ (some 11) rfl rfl Tryd.func63 (by kernel_rfl) rfl #[.int .i64 a0_2] rfl (by (try simp only [List.map_toArray, List.map_cons, List.map_nil]); first | done | rfl | (simp only [List.length_drop, List.length_take]; rfl)) ?_; (with_reducible refine (contangoref05_Split.calls k a0_2 t102 t103 t104 t105 _ A2.out).mono ?_); rintro e w' ⟨rfl, ⟨nd, rfl⟩⟩; refine ⟨_, rfl, ?_⟩))
  (try simp only [Act.put, List.setIfInBounds_toArray, List.set_cons_zero, List.set_cons_succ])
  go_cut [27] (fun v27 wc => ∃ (kq : Nat) (x27_2 : Bool), v27 = .bool x27_2 ∧ Aside0 (contangoref10_Print.j0 kq t102 t103 t104 x27_2 a0_0 a0_1 a0_2 a0_3 = some r) ∧ Aside0 (kq ≤ k) ∧ Aside0 (wc.heap[gb101]? = some (.cells #[.string a0_0, .int .i64 a0_1, .int .i64 a0_2, .int .i64 a0_3] 23 (0, 0))) ∧ Aside0 (Below w.heap.size w wc))
  case first =>
    have H := HC3.out
    clear HC3
    by_cases c6 : t105 = 0
    · rw [if_pos c6] at H
      have c6b0 : (t105 == 0) = true := beq_iff_eq.mpr c6
      have c6b1 : (t105 != 0) = false := bne_eq_false_iff_eq.mpr c6
      clear c6
      (first | rw [c6b0] | (simp only [i64_w, i32_w]; rw [c6b0]) | skip)
      by_cases c7 : a0_1 < 1
      · rw [if_pos c7] at H
        have c7b0 : decide (a0_1 < 1) = true := decide_eq_true c7
        clear c7
        have H' := Aside0.mk H
        clear H
        have hcz8_0 : w4.cell? ⟨gb101, 0, none⟩ = some (.string a0_0) := (blk_cell BK101.out 0).trans rfl
        have hcz8_1 : w4.cell? ⟨gb101, 1, none⟩ = some (.int .i64 a0_1) := (blk_cell BK101.out 1).trans rfl
        have hcz8_2 : w4.cell? ⟨gb101, 2, none⟩ = some (.int .i64 a0_2) := (blk_cell BK101.out 2).trans rfl
        have hcz8_3 : w4.cell? ⟨gb101, 3, none⟩ = some (.int .i64 a0_3) := (blk_cell BK101.out 3).trans rfl
        have hfz8_0 := blk_frozen BK101.out 0
        have hfz8_1 := blk_frozen BK101.out 1
        have hfz8_2 := blk_frozen BK101.out 2
        have hfz8_3 := blk_frozen BK101.out 3
        go_wp2
        go_meet
        case rel => exact ⟨_, (true), (by first | rfl | (simp; done) | (simp [*]; done)), H', ⟨by first | omega | exact Nat.le_refl _⟩, ⟨by (with_reducible repeat (first | refine blk_drewN ?_ _ | refine blk_drew ?_ | refine blk_alloc ?_ _)); exact BK101.out⟩, ⟨by repeat (first | (with_reducible first | exact HB.out | apply below_alloc | apply pw_below_drewN | apply below_drew1 | refine below_set ?_ GE101.out) | exact HB.out)⟩⟩
      · rw [if_neg c7] at H
        have c7b0 : decide (a0_1 < 1) = false := decide_eq_false c7
        clear c7
        have H' := Aside0.mk H
        clear H
        have hcz9_0 : w4.cell? ⟨gb101, 0, none⟩ = some (.string a0_0) := (blk_cell BK101.out 0).trans rfl
        have hcz9_1 : w4.cell? ⟨gb101, 1, none⟩ = some (.int .i64 a0_1) := (blk_cell BK101.out 1).trans rfl
        have hcz9_2 : w4.cell? ⟨gb101, 2, none⟩ = some (.int .i64 a0_2) := (blk_cell BK101.out 2).trans rfl
        have hcz9_3 : w4.cell? ⟨gb101, 3, none⟩ = some (.int .i64 a0_3) := (blk_cell BK101.out 3).trans rfl
        have hfz9_0 := blk_frozen BK101.out 0
        have hfz9_1 := blk_frozen BK101.out 1
        have hfz9_2 := blk_frozen BK101.out 2
        have hfz9_3 := blk_frozen BK101.out 3
        go_wp2
        go_meet
        case rel => exact ⟨_, (decide (a0_1 > 3)), (by first | rfl | (simp; done) | (simp [*]; done)), H', ⟨by first | omega | exact Nat.le_refl _⟩, ⟨by (with_reducible repeat (first | refine blk_drewN ?_ _ | refine blk_drew ?_ | refine blk_alloc ?_ _)); exact BK101.out⟩, ⟨by repeat (first | (with_reducible first | exact HB.out | apply below_alloc | apply pw_below_drewN | apply below_drew1 | refine below_set ?_ GE101.out) | exact HB.out)⟩⟩
    · rw [if_neg c6] at H
      have c6b0 : (t105 == 0) = false := beq_eq_false_iff_ne.mpr c6
      have c6b1 : (t105 != 0) = true := bne_iff_ne.mpr c6
      (first | rw [c6b0] | (simp only [i64_w, i32_w]; rw [c6b0]) | skip)
      have H' := Aside0.mk H
      clear H
      go_wp2
      go_meet
      case rel => exact ⟨_, (true), (by first | rfl | (simp; done) | (simp [*]; done)), H', ⟨by first | omega | exact Nat.le_refl _⟩, ⟨by (with_reducible repeat (first | refine blk_drewN ?_ _ | refine blk_drew ?_ | refine blk_alloc ?_ _)); exact BK101.out⟩, ⟨by repeat (first | (with_reducible first | exact HB.out | apply below_alloc | apply pw_below_drewN | apply below_drew1 | refine below_set ?_ GE101.out) | exact HB.out)⟩⟩
  case rest =>
    clear HC3
    try clear c1
    try clear p2
    try clear c6
    try clear c6b0
    try clear c6b1
    try clear c7
    try clear c7b0
    try clear hcz5_0
    try clear hcz5_1
    try clear hcz5_2
    try clear hcz5_3
    try clear hcz8_0
    try clear hcz8_1
    try clear hcz8_2
    try clear hcz8_3
    try clear hcz9_0
    try clear hcz9_1
    try clear hcz9_2
    try clear hcz9_3
    try clear hfz5_0
    try clear hfz5_1
    try clear hfz5_2
    try clear hfz5_3
    try clear hfz8_0
    try clear hfz8_1
    try clear hfz8_2
    try clear hfz8_3
    try clear hfz9_0
    try clear hfz9_1
    try clear hfz9_2
    try clear hfz9_3
    obtain ⟨kq, x27_2, rfl, HA, HJ2, BK101, HB⟩ := hcut
    cases kq with
    | zero => exact absurd HA.out (by simp [contangoref10_Print.j0])
    | succ kj2 =>
      have H := HA.out
      clear HA
      simp only [contangoref10_Print.j0] at H
      by_cases c10 : x27_2 = true
      · subst c10
        have H1 : (some (⟨#[]⟩ : ByteArray)) = some r := by rw [if_pos rfl] at H; exact H
        clear H
        have H := H1
        clear H1
        obtain rfl := Option.some.inj H
        go_wp2
        go_ret
        exact ⟨by first | rfl | (simp [errW_none, errW_some] <;> rfl) | (simp [*, errW_none, errW_some] <;> rfl), by repeat (first | (with_reducible first | exact HB.out | apply below_alloc | apply pw_below_drewN | apply below_drew1 | refine below_set ?_ GE101.out) | exact HB.out)⟩
      · replace c10 := Bool.eq_false_iff.mpr c10
        subst c10
        have H1 : (if a0_0.size + 1 ≤ 9223372036854775807 then ((contangoref10_digits.f kj2 t102 4).bind fun t106 => (if (a0_0 ++ (⟨#[46]⟩ : ByteArray)).size + t106.size ≤ 9223372036854775807 then ((contangoref10_digits.f kj2 t103 2).bind fun t107 => (if ((a0_0 ++ (⟨#[46]⟩ : ByteArray)) ++ t106).size + t107.size ≤ 9223372036854775807 then ((contangoref10_digits.f kj2 t104 2).bind fun t108 => (if (((a0_0 ++ (⟨#[46]⟩ : ByteArray)) ++ t106) ++ t107).size + t108.size ≤ 9223372036854775807 then (if ((((a0_0 ++ (⟨#[46]⟩ : ByteArray)) ++ t106) ++ t107) ++ t108).size + 1 ≤ 9223372036854775807 then (if a0_1 = 1 then (if (((((a0_0 ++ (⟨#[46]⟩ : ByteArray)) ++ t106) ++ t107) ++ t108) ++ (⟨#[46]⟩ : ByteArray)).size + 1 ≤ 9223372036854775807 then (some ((((((a0_0 ++ (⟨#[46]⟩ : ByteArray)) ++ t106) ++ t107) ++ t108) ++ (⟨#[46]⟩ : ByteArray)) ++ (⟨#[102]⟩ : ByteArray))) else (none)) else (if a0_1 = 2 then (if (((((a0_0 ++ (⟨#[46]⟩ : ByteArray)) ++ t106) ++ t107) ++ t108) ++ (⟨#[46]⟩ : ByteArray)).size + 1 ≤ 9223372036854775807 then ((contangoref03_Text.f kj2 a0_3).bind fun t109 => (if ((((((a0_0 ++ (⟨#[46]⟩ : ByteArray)) ++ t106) ++ t107) ++ t108) ++ (⟨#[46]⟩ : ByteArray)) ++ (⟨#[99]⟩ : ByteArray)).size + t109.size ≤ 9223372036854775807 then (some (((((((a0_0 ++ (⟨#[46]⟩ : ByteArray)) ++ t106) ++ t107) ++ t108) ++ (⟨#[46]⟩ : ByteArray)) ++ (⟨#[99]⟩ : ByteArray)) ++ t109)) else (none))) else (none)) else (if (((((a0_0 ++ (⟨#[46]⟩ : ByteArray)) ++ t106) ++ t107) ++ t108) ++ (⟨#[46]⟩ : ByteArray)).size + 1 ≤ 9223372036854775807 then ((contangoref03_Text.f kj2 a0_3).bind fun t110 => (if ((((((a0_0 ++ (⟨#[46]⟩ : ByteArray)) ++ t106) ++ t107) ++ t108) ++ (⟨#[46]⟩ : ByteArray)) ++ (⟨#[112]⟩ : ByteArray)).size + t110.size ≤ 9223372036854775807 then (some (((((((a0_0 ++ (⟨#[46]⟩ : ByteArray)) ++ t106) ++ t107) ++ t108) ++ (⟨#[46]⟩ : ByteArray)) ++ (⟨#[112]⟩ : ByteArray)) ++ t110)) else (none))) else (none)))) else (none)) else (none))) else (none))) else (none))) else (none)) = some r := by rw [if_neg (show ¬ (false = true) by decide)] at H; exact H
        clear H
        have H := H1
        clear H1
        by_cases c11 : a0_0.size + 1 ≤ 9223372036854775807
        · rw [if_pos c11] at H
          have c11b0 := eq_true c11
          have c11b1 : decide (a0_0.size + 1 ≤ 9223372036854775807) = true := decide_eq_true c11
          try have c11b2 : (9223372036854775807 < a0_0.size + 1) = False := eq_false (Nat.not_lt.2 c11)
          try (have c11b3 := c11; simp only [ByteArray.size_append, ByteArray.size_extract, Nat.min_self, Nat.zero_add] at c11b3; replace c11b3 := eq_false (Nat.not_lt.2 c11b3))
          replace H := Option.bind_eq_some_iff.mp H
          obtain ⟨t106, A120, H⟩ := H
          replace H : (if (a0_0 ++ (⟨#[46]⟩ : ByteArray)).size + t106.size ≤ 9223372036854775807 then ((contangoref10_digits.f kj2 t103 2).bind fun t107 => (if ((a0_0 ++ (⟨#[46]⟩ : ByteArray)) ++ t106).size + t107.size ≤ 9223372036854775807 then ((contangoref10_digits.f kj2 t104 2).bind fun t108 => (if (((a0_0 ++ (⟨#[46]⟩ : ByteArray)) ++ t106) ++ t107).size + t108.size ≤ 9223372036854775807 then (if ((((a0_0 ++ (⟨#[46]⟩ : ByteArray)) ++ t106) ++ t107) ++ t108).size + 1 ≤ 9223372036854775807 then (if a0_1 = 1 then (if (((((a0_0 ++ (⟨#[46]⟩ : ByteArray)) ++ t106) ++ t107) ++ t108) ++ (⟨#[46]⟩ : ByteArray)).size + 1 ≤ 9223372036854775807 then (some ((((((a0_0 ++ (⟨#[46]⟩ : ByteArray)) ++ t106) ++ t107) ++ t108) ++ (⟨#[46]⟩ : ByteArray)) ++ (⟨#[102]⟩ : ByteArray))) else (none)) else (if a0_1 = 2 then (if (((((a0_0 ++ (⟨#[46]⟩ : ByteArray)) ++ t106) ++ t107) ++ t108) ++ (⟨#[46]⟩ : ByteArray)).size + 1 ≤ 9223372036854775807 then ((contangoref03_Text.f kj2 a0_3).bind fun t109 => (if ((((((a0_0 ++ (⟨#[46]⟩ : ByteArray)) ++ t106) ++ t107) ++ t108) ++ (⟨#[46]⟩ : ByteArray)) ++ (⟨#[99]⟩ : ByteArray)).size + t109.size ≤ 9223372036854775807 then (some (((((((a0_0 ++ (⟨#[46]⟩ : ByteArray)) ++ t106) ++ t107) ++ t108) ++ (⟨#[46]⟩ : ByteArray)) ++ (⟨#[99]⟩ : ByteArray)) ++ t109)) else (none))) else (none)) else (if (((((a0_0 ++ (⟨#[46]⟩ : ByteArray)) ++ t106) ++ t107) ++ t108) ++ (⟨#[46]⟩ : ByteArray)).size + 1 ≤ 9223372036854775807 then ((contangoref03_Text.f kj2 a0_3).bind fun t110 => (if ((((((a0_0 ++ (⟨#[46]⟩ : ByteArray)) ++ t106) ++ t107) ++ t108) ++ (⟨#[46]⟩ : ByteArray)) ++ (⟨#[112]⟩ : ByteArray)).size + t110.size ≤ 9223372036854775807 then (some (((((((a0_0 ++ (⟨#[46]⟩ : ByteArray)) ++ t106) ++ t107) ++ t108) ++ (⟨#[46]⟩ : ByteArray)) ++ (⟨#[112]⟩ : ByteArray)) ++ t110)) else (none))) else (none)))) else (none)) else (none))) else (none))) else (none)) = some r := H
          have A12 := Aside0.mk A120
          clear A120
          by_cases c13 : (a0_0 ++ (⟨#[46]⟩ : ByteArray)).size + t106.size ≤ 9223372036854775807
          · rw [if_pos c13] at H
            have c13b0 := eq_true c13
            have c13b1 : decide ((a0_0 ++ (⟨#[46]⟩ : ByteArray)).size + t106.size ≤ 9223372036854775807) = true := decide_eq_true c13
            try have c13b2 : (9223372036854775807 < (a0_0 ++ (⟨#[46]⟩ : ByteArray)).size + t106.size) = False := eq_false (Nat.not_lt.2 c13)
            try (have c13b3 := c13; simp only [ByteArray.size_append, ByteArray.size_extract, Nat.min_self, Nat.zero_add, show (⟨#[46]⟩ : ByteArray).size = 1 from rfl] at c13b3; replace c13b3 := eq_false (Nat.not_lt.2 c13b3))
            replace H := Option.bind_eq_some_iff.mp H
            obtain ⟨t107, A140, H⟩ := H
            replace H : (if ((a0_0 ++ (⟨#[46]⟩ : ByteArray)) ++ t106).size + t107.size ≤ 9223372036854775807 then ((contangoref10_digits.f kj2 t104 2).bind fun t108 => (if (((a0_0 ++ (⟨#[46]⟩ : ByteArray)) ++ t106) ++ t107).size + t108.size ≤ 9223372036854775807 then (if ((((a0_0 ++ (⟨#[46]⟩ : ByteArray)) ++ t106) ++ t107) ++ t108).size + 1 ≤ 9223372036854775807 then (if a0_1 = 1 then (if (((((a0_0 ++ (⟨#[46]⟩ : ByteArray)) ++ t106) ++ t107) ++ t108) ++ (⟨#[46]⟩ : ByteArray)).size + 1 ≤ 9223372036854775807 then (some ((((((a0_0 ++ (⟨#[46]⟩ : ByteArray)) ++ t106) ++ t107) ++ t108) ++ (⟨#[46]⟩ : ByteArray)) ++ (⟨#[102]⟩ : ByteArray))) else (none)) else (if a0_1 = 2 then (if (((((a0_0 ++ (⟨#[46]⟩ : ByteArray)) ++ t106) ++ t107) ++ t108) ++ (⟨#[46]⟩ : ByteArray)).size + 1 ≤ 9223372036854775807 then ((contangoref03_Text.f kj2 a0_3).bind fun t109 => (if ((((((a0_0 ++ (⟨#[46]⟩ : ByteArray)) ++ t106) ++ t107) ++ t108) ++ (⟨#[46]⟩ : ByteArray)) ++ (⟨#[99]⟩ : ByteArray)).size + t109.size ≤ 9223372036854775807 then (some (((((((a0_0 ++ (⟨#[46]⟩ : ByteArray)) ++ t106) ++ t107) ++ t108) ++ (⟨#[46]⟩ : ByteArray)) ++ (⟨#[99]⟩ : ByteArray)) ++ t109)) else (none))) else (none)) else (if (((((a0_0 ++ (⟨#[46]⟩ : ByteArray)) ++ t106) ++ t107) ++ t108) ++ (⟨#[46]⟩ : ByteArray)).size + 1 ≤ 9223372036854775807 then ((contangoref03_Text.f kj2 a0_3).bind fun t110 => (if ((((((a0_0 ++ (⟨#[46]⟩ : ByteArray)) ++ t106) ++ t107) ++ t108) ++ (⟨#[46]⟩ : ByteArray)) ++ (⟨#[112]⟩ : ByteArray)).size + t110.size ≤ 9223372036854775807 then (some (((((((a0_0 ++ (⟨#[46]⟩ : ByteArray)) ++ t106) ++ t107) ++ t108) ++ (⟨#[46]⟩ : ByteArray)) ++ (⟨#[112]⟩ : ByteArray)) ++ t110)) else (none))) else (none)))) else (none)) else (none))) else (none)) = some r := H
            have A14 := Aside0.mk A140
            clear A140
            by_cases c15 : ((a0_0 ++ (⟨#[46]⟩ : ByteArray)) ++ t106).size + t107.size ≤ 9223372036854775807
            · rw [if_pos c15] at H
              have c15b0 := eq_true c15
              have c15b1 : decide (((a0_0 ++ (⟨#[46]⟩ : ByteArray)) ++ t106).size + t107.size ≤ 9223372036854775807) = true := decide_eq_true c15
              try have c15b2 : (9223372036854775807 < ((a0_0 ++ (⟨#[46]⟩ : ByteArray)) ++ t106).size + t107.size) = False := eq_false (Nat.not_lt.2 c15)
              try (have c15b3 := c15; simp only [ByteArray.size_append, ByteArray.size_extract, Nat.min_self, Nat.zero_add, show (⟨#[46]⟩ : ByteArray).size = 1 from rfl] at c15b3; replace c15b3 := eq_false (Nat.not_lt.2 c15b3))
              replace H := Option.bind_eq_some_iff.mp H
              obtain ⟨t108, A160, H⟩ := H
              replace H : (if (((a0_0 ++ (⟨#[46]⟩ : ByteArray)) ++ t106) ++ t107).size + t108.size ≤ 9223372036854775807 then (if ((((a0_0 ++ (⟨#[46]⟩ : ByteArray)) ++ t106) ++ t107) ++ t108).size + 1 ≤ 9223372036854775807 then (if a0_1 = 1 then (if (((((a0_0 ++ (⟨#[46]⟩ : ByteArray)) ++ t106) ++ t107) ++ t108) ++ (⟨#[46]⟩ : ByteArray)).size + 1 ≤ 9223372036854775807 then (some ((((((a0_0 ++ (⟨#[46]⟩ : ByteArray)) ++ t106) ++ t107) ++ t108) ++ (⟨#[46]⟩ : ByteArray)) ++ (⟨#[102]⟩ : ByteArray))) else (none)) else (if a0_1 = 2 then (if (((((a0_0 ++ (⟨#[46]⟩ : ByteArray)) ++ t106) ++ t107) ++ t108) ++ (⟨#[46]⟩ : ByteArray)).size + 1 ≤ 9223372036854775807 then ((contangoref03_Text.f kj2 a0_3).bind fun t109 => (if ((((((a0_0 ++ (⟨#[46]⟩ : ByteArray)) ++ t106) ++ t107) ++ t108) ++ (⟨#[46]⟩ : ByteArray)) ++ (⟨#[99]⟩ : ByteArray)).size + t109.size ≤ 9223372036854775807 then (some (((((((a0_0 ++ (⟨#[46]⟩ : ByteArray)) ++ t106) ++ t107) ++ t108) ++ (⟨#[46]⟩ : ByteArray)) ++ (⟨#[99]⟩ : ByteArray)) ++ t109)) else (none))) else (none)) else (if (((((a0_0 ++ (⟨#[46]⟩ : ByteArray)) ++ t106) ++ t107) ++ t108) ++ (⟨#[46]⟩ : ByteArray)).size + 1 ≤ 9223372036854775807 then ((contangoref03_Text.f kj2 a0_3).bind fun t110 => (if ((((((a0_0 ++ (⟨#[46]⟩ : ByteArray)) ++ t106) ++ t107) ++ t108) ++ (⟨#[46]⟩ : ByteArray)) ++ (⟨#[112]⟩ : ByteArray)).size + t110.size ≤ 9223372036854775807 then (some (((((((a0_0 ++ (⟨#[46]⟩ : ByteArray)) ++ t106) ++ t107) ++ t108) ++ (⟨#[46]⟩ : ByteArray)) ++ (⟨#[112]⟩ : ByteArray)) ++ t110)) else (none))) else (none)))) else (none)) else (none)) = some r := H
              have A16 := Aside0.mk A160
              clear A160
              by_cases c17 : (((a0_0 ++ (⟨#[46]⟩ : ByteArray)) ++ t106) ++ t107).size + t108.size ≤ 9223372036854775807
              · rw [if_pos c17] at H
                have c17b0 := eq_true c17
                have c17b1 : decide ((((a0_0 ++ (⟨#[46]⟩ : ByteArray)) ++ t106) ++ t107).size + t108.size ≤ 9223372036854775807) = true := decide_eq_true c17
                try have c17b2 : (9223372036854775807 < (((a0_0 ++ (⟨#[46]⟩ : ByteArray)) ++ t106) ++ t107).size + t108.size) = False := eq_false (Nat.not_lt.2 c17)
                try (have c17b3 := c17; simp only [ByteArray.size_append, ByteArray.size_extract, Nat.min_self, Nat.zero_add, show (⟨#[46]⟩ : ByteArray).size = 1 from rfl] at c17b3; replace c17b3 := eq_false (Nat.not_lt.2 c17b3))
                by_cases c18 : ((((a0_0 ++ (⟨#[46]⟩ : ByteArray)) ++ t106) ++ t107) ++ t108).size + 1 ≤ 9223372036854775807
                · rw [if_pos c18] at H
                  have c18b0 := eq_true c18
                  have c18b1 : decide (((((a0_0 ++ (⟨#[46]⟩ : ByteArray)) ++ t106) ++ t107) ++ t108).size + 1 ≤ 9223372036854775807) = true := decide_eq_true c18
                  try have c18b2 : (9223372036854775807 < ((((a0_0 ++ (⟨#[46]⟩ : ByteArray)) ++ t106) ++ t107) ++ t108).size + 1) = False := eq_false (Nat.not_lt.2 c18)
                  try (have c18b3 := c18; simp only [ByteArray.size_append, ByteArray.size_extract, Nat.min_self, Nat.zero_add, show (⟨#[46]⟩ : ByteArray).size = 1 from rfl] at c18b3; replace c18b3 := eq_false (Nat.not_lt.2 c18b3))
                  by_cases c19 : a0_1 = 1
                  · rw [if_pos c19] at H
                    have c19b0 : (a0_1 == 1) = true := beq_iff_eq.mpr c19
                    have c19b1 : (a0_1 != 1) = false := bne_eq_false_iff_eq.mpr c19
                    clear c19
                    by_cases c20 : (((((a0_0 ++ (⟨#[46]⟩ : ByteArray)) ++ t106) ++ t107) ++ t108) ++ (⟨#[46]⟩ : ByteArray)).size + 1 ≤ 9223372036854775807
                    · rw [if_pos c20] at H
                      have c20b0 := eq_true c20
                      have c20b1 : decide ((((((a0_0 ++ (⟨#[46]⟩ : ByteArray)) ++ t106) ++ t107) ++ t108) ++ (⟨#[46]⟩ : ByteArray)).size + 1 ≤ 9223372036854775807) = true := decide_eq_true c20
                      try have c20b2 : (9223372036854775807 < (((((a0_0 ++ (⟨#[46]⟩ : ByteArray)) ++ t106) ++ t107) ++ t108) ++ (⟨#[46]⟩ : ByteArray)).size + 1) = False := eq_false (Nat.not_lt.2 c20)
                      try (have c20b3 := c20; simp only [ByteArray.size_append, ByteArray.size_extract, Nat.min_self, Nat.zero_add, show (⟨#[46]⟩ : ByteArray).size = 1 from rfl] at c20b3; replace c20b3 := eq_false (Nat.not_lt.2 c20b3))
                      obtain rfl := Option.some.inj H
                      try go_wp2
                      have n0_ := Aside0.mk (blk_drew BK101.out)
                      have n1_ := Aside0.mk (below_drew1 HB.out)
                      clear BK101
                      clear HB
                      have BK101 := n0_
                      have HB := n1_
                      clear n0_ n1_
                      refine start_ (n := 14) (S := fun w' => w'.cell? ⟨gb101, 0, none⟩ = some (.string a0_0) ∧ w'.cell? ⟨gb101, 1, none⟩ = some (.int .i64 a0_1) ∧ w'.cell? ⟨gb101, 2, none⟩ = some (.int .i64 a0_2) ∧ w'.cell? ⟨gb101, 3, none⟩ = some (.int .i64 a0_3)) (ds := []) #[false, false, false, false, false, false, false, false, false, false, false, false, false, false] (by kernel_rfl) rfl rfl ⟨(blk_cell BK101.out 0).trans rfl, (blk_cell BK101.out 1).trans rfl, (blk_cell BK101.out 2).trans rfl, (blk_cell BK101.out 3).trans rfl⟩ (fun hHeld => ?_); refine with_tabW contangoref10_Print.tab4 contangoref10_Print.bits4 (fun HT_ HW_ => ?_)
                      generalize wc.drew = w21 at BK101 HB hHeld ⊢
                      refine pure_ (i := 0) (N := some 28) (v := ?_) (a' := ?_) #[true, false, false, false, false, false, false, false, false, false, false, false, false, false] rfl rfl (any_of HT_.out (by kernel_rfl)) (fun _ _ _ h => h) (Or.inl ⟨by rfl, ?_⟩) ?_ ?_
                      rotate_left
                      · intro w'
                        go_simp
                        with_reducible rfl
                      rotate_left
                      · simp only [Act.put, List.setIfInBounds_toArray, List.set_cons_zero, List.set_cons_succ, i64_w, i32_w]
                        rfl
                      refine pure_ (i := 3) (N := some 31) (v := ?_) (a' := ?_) #[true, false, false, true, false, false, false, false, false, false, false, false, false, false] rfl rfl (any_of HT_.out (by kernel_rfl)) (fun _ _ _ h => h) (Or.inl ⟨by rfl, ?_⟩) ?_ ?_
                      rotate_left
                      · intro w'
                        go_simp
                        with_reducible rfl
                      rotate_left
                      · simp only [Act.put, List.setIfInBounds_toArray, List.set_cons_zero, List.set_cons_succ, i64_w, i32_w]
                        rfl
                      refine pure_ (i := 6) (N := some 34) (v := ?_) (a' := ?_) #[true, false, false, true, false, false, true, false, false, false, false, false, false, false] rfl rfl (any_of HT_.out (by kernel_rfl)) (fun _ _ _ h => h) (Or.inl ⟨by rfl, ?_⟩) ?_ ?_
                      rotate_left
                      · intro w'
                        go_simp
                        with_reducible rfl
                      rotate_left
                      · simp only [Act.put, List.setIfInBounds_toArray, List.set_cons_zero, List.set_cons_succ, i64_w, i32_w]
                        rfl
                      refine pure_ (i := 9) (N := some 37) (v := ?_) (a' := ?_) #[true, false, false, true, false, false, true, false, false, true, false, false, false, false] rfl rfl (any_of HT_.out (by kernel_rfl)) (fun _ _ _ h => h) (Or.inl ⟨by rfl, ?_⟩) ?_ ?_
                      rotate_left
                      · intro w'
                        go_simp
                        with_reducible rfl
                      rotate_left
                      · simp only [Act.put, List.setIfInBounds_toArray, List.set_cons_zero, List.set_cons_succ, i64_w, i32_w]
                        rfl
                      refine take_ (i := 1) (N := some 29) (v := ?_) (a' := ?_) #[true, true, false, true, false, false, true, false, false, true, false, false, false, false] rfl rfl (take_ofW HT_.out HW_.out (by kernel_rfl)) (fun _ _ _ h => h) (Or.inl ⟨by rfl, ?_⟩) hHeld ?_ ?_
                      rotate_left
                      · rintro w' ⟨s0, s1, s2, s3⟩
                        go_simp
                        with_reducible rfl
                      rotate_left
                      · simp only [Act.put, List.setIfInBounds_toArray, List.set_cons_zero, List.set_cons_succ, i64_w, i32_w]
                        rfl
                      refine pure_ (i := 2) (N := some 30) (v := ?_) (a' := ?_) #[true, true, true, true, false, false, true, false, false, true, false, false, false, false] rfl rfl (any_of HT_.out (by kernel_rfl)) (fun _ _ _ h => h) (Or.inl ⟨by rfl, ?_⟩) ?_ ?_
                      rotate_left
                      · intro w'
                        go_simp
                        with_reducible rfl
                      rotate_left
                      · simp only [Act.put, List.setIfInBounds_toArray, List.set_cons_zero, List.set_cons_succ, i64_w, i32_w]
                        rfl
                      refine one_ (i := 4) (N := some 32) #[true, true, true, true, true, false, true, false, false, true, false, false, false, false] rfl rfl (one_of HT_.out (by kernel_rfl)) (by decide) (fun K hK => ?_)
                      refine goes_ Tryd.func64 (by kernel_rfl) rfl #[.int .i64 t102, .int .i64 4] (by rfl) rfl rfl (by (try simp only [List.map_toArray, List.map_cons, List.map_nil]); first | done | rfl | (simp only [List.length_drop, List.length_take]; rfl)) ?_
                      with_reducible refine (contangoref10_digits.calls kj2 t102 4 t106 _ A12.out).mono ?_
                      rintro e w22 ⟨rfl, hb⟩
                      refine ⟨_, rfl, ?_⟩
                      have n0_ := Aside0.mk (blk_below (g := gb101) (o := .cells #[.string a0_0, .int .i64 a0_1, .int .i64 a0_2, .int .i64 a0_3] 23 (0, 0)) (by (with_reducible repeat (first | refine blk_drewN ?_ _ | refine blk_drew ?_ | refine blk_alloc ?_ _)); exact BK101.out) hb)
                      have n1_ := Aside0.mk (below_step (by repeat (first | (with_reducible first | exact HB.out | apply below_alloc | apply pw_below_drewN | apply below_drew1 | refine below_set ?_ GE101.out) | exact HB.out)) hb)
                      clear BK101
                      clear HB
                      have BK101 := n0_
                      have HB := n1_
                      clear n0_ n1_
                      (try clear hb)
                      (try clear hb2)
                      (try clear hk)
                      (try clear hi)
                      refine hK.out _ _ ⟨(blk_cell BK101.out 0).trans rfl, (blk_cell BK101.out 1).trans rfl, (blk_cell BK101.out 2).trans rfl, (blk_cell BK101.out 3).trans rfl⟩ (fun hHeld => ?_)
                      clear hK K
                      refine norm_ (a' := ?_) ?_ ?_
                      rotate_left
                      · show Act.put _ (some 32) _ = _
                        simp only [Act.put, List.setIfInBounds_toArray, List.set_cons_zero, List.set_cons_succ, i64_w, i32_w]
                        rfl
                      refine pure_ (i := 5) (N := some 33) (v := ?_) (a' := ?_) #[true, true, true, true, true, true, true, false, false, true, false, false, false, false] rfl rfl (any_of HT_.out (by kernel_rfl)) (fun _ _ _ h => h) (Or.inl ⟨by rfl, ?_⟩) ?_ ?_
                      rotate_left
                      · intro w'
                        go_simp
                        with_reducible rfl
                      rotate_left
                      · simp only [Act.put, List.setIfInBounds_toArray, List.set_cons_zero, List.set_cons_succ, i64_w, i32_w]
                        rfl
                      refine one_ (i := 7) (N := some 35) #[true, true, true, true, true, true, true, true, false, true, false, false, false, false] rfl rfl (one_of HT_.out (by kernel_rfl)) (by decide) (fun K hK => ?_)
                      refine goes_ Tryd.func64 (by kernel_rfl) rfl #[.int .i64 t103, .int .i64 2] (by rfl) rfl rfl (by (try simp only [List.map_toArray, List.map_cons, List.map_nil]); first | done | rfl | (simp only [List.length_drop, List.length_take]; rfl)) ?_
                      with_reducible refine (contangoref10_digits.calls kj2 t103 2 t107 _ A14.out).mono ?_
                      rintro e w23 ⟨rfl, hb⟩
                      refine ⟨_, rfl, ?_⟩
                      have n0_ := Aside0.mk (blk_below (g := gb101) (o := .cells #[.string a0_0, .int .i64 a0_1, .int .i64 a0_2, .int .i64 a0_3] 23 (0, 0)) (by (with_reducible repeat (first | refine blk_drewN ?_ _ | refine blk_drew ?_ | refine blk_alloc ?_ _)); exact BK101.out) hb)
                      have n1_ := Aside0.mk (below_step (by repeat (first | (with_reducible first | exact HB.out | apply below_alloc | apply pw_below_drewN | apply below_drew1 | refine below_set ?_ GE101.out) | exact HB.out)) hb)
                      clear BK101
                      clear HB
                      have BK101 := n0_
                      have HB := n1_
                      clear n0_ n1_
                      (try clear hb)
                      (try clear hb2)
                      (try clear hk)
                      (try clear hi)
                      refine hK.out _ _ ⟨(blk_cell BK101.out 0).trans rfl, (blk_cell BK101.out 1).trans rfl, (blk_cell BK101.out 2).trans rfl, (blk_cell BK101.out 3).trans rfl⟩ (fun hHeld => ?_)
                      clear hK K
                      refine norm_ (a' := ?_) ?_ ?_
                      rotate_left
                      · show Act.put _ (some 35) _ = _
                        simp only [Act.put, List.setIfInBounds_toArray, List.set_cons_zero, List.set_cons_succ, i64_w, i32_w]
                        rfl
                      refine pure_ (i := 8) (N := some 36) (v := ?_) (a' := ?_) #[true, true, true, true, true, true, true, true, true, true, false, false, false, false] rfl rfl (any_of HT_.out (by kernel_rfl)) (fun _ _ _ h => h) (Or.inl ⟨by rfl, ?_⟩) ?_ ?_
                      rotate_left
                      · intro w'
                        go_simp
                        with_reducible rfl
                      rotate_left
                      · simp only [Act.put, List.setIfInBounds_toArray, List.set_cons_zero, List.set_cons_succ, i64_w, i32_w]
                        rfl
                      refine one_ (i := 10) (N := some 38) #[true, true, true, true, true, true, true, true, true, true, true, false, false, false] rfl rfl (one_of HT_.out (by kernel_rfl)) (by decide) (fun K hK => ?_)
                      refine goes_ Tryd.func64 (by kernel_rfl) rfl #[.int .i64 t104, .int .i64 2] (by rfl) rfl rfl (by (try simp only [List.map_toArray, List.map_cons, List.map_nil]); first | done | rfl | (simp only [List.length_drop, List.length_take]; rfl)) ?_
                      with_reducible refine (contangoref10_digits.calls kj2 t104 2 t108 _ A16.out).mono ?_
                      rintro e w24 ⟨rfl, hb⟩
                      refine ⟨_, rfl, ?_⟩
                      have n0_ := Aside0.mk (blk_below (g := gb101) (o := .cells #[.string a0_0, .int .i64 a0_1, .int .i64 a0_2, .int .i64 a0_3] 23 (0, 0)) (by (with_reducible repeat (first | refine blk_drewN ?_ _ | refine blk_drew ?_ | refine blk_alloc ?_ _)); exact BK101.out) hb)
                      have n1_ := Aside0.mk (below_step (by repeat (first | (with_reducible first | exact HB.out | apply below_alloc | apply pw_below_drewN | apply below_drew1 | refine below_set ?_ GE101.out) | exact HB.out)) hb)
                      clear BK101
                      clear HB
                      have BK101 := n0_
                      have HB := n1_
                      clear n0_ n1_
                      (try clear hb)
                      (try clear hb2)
                      (try clear hk)
                      (try clear hi)
                      refine hK.out _ _ ⟨(blk_cell BK101.out 0).trans rfl, (blk_cell BK101.out 1).trans rfl, (blk_cell BK101.out 2).trans rfl, (blk_cell BK101.out 3).trans rfl⟩ (fun hHeld => ?_)
                      clear hK K
                      refine norm_ (a' := ?_) ?_ ?_
                      rotate_left
                      · show Act.put _ (some 38) _ = _
                        simp only [Act.put, List.setIfInBounds_toArray, List.set_cons_zero, List.set_cons_succ, i64_w, i32_w]
                        rfl
                      refine pure_ (i := 11) (N := some 39) (v := ?_) (a' := ?_) #[true, true, true, true, true, true, true, true, true, true, true, true, false, false] rfl rfl (any_of HT_.out (by kernel_rfl)) (fun _ _ _ h => h) (Or.inl ⟨by rfl, ?_⟩) ?_ ?_
                      rotate_left
                      · intro w'
                        go_simp
                        with_reducible rfl
                      rotate_left
                      · simp only [Act.put, List.setIfInBounds_toArray, List.set_cons_zero, List.set_cons_succ, i64_w, i32_w]
                        rfl
                      refine pure_ (i := 12) (N := some 40) (v := ?_) (a' := ?_) #[true, true, true, true, true, true, true, true, true, true, true, true, true, false] rfl rfl (any_of HT_.out (by kernel_rfl)) (fun _ _ _ h => h) (Or.inl ⟨by rfl, ?_⟩) ?_ ?_
                      rotate_left
                      · intro w'
                        go_simp
                        with_reducible rfl
                      rotate_left
                      · simp only [Act.put, List.setIfInBounds_toArray, List.set_cons_zero, List.set_cons_succ, i64_w, i32_w]
                        rfl
                      refine pure_ (i := 13) (N := some 7) (v := ?_) (a' := ?_) #[true, true, true, true, true, true, true, true, true, true, true, true, true, true] rfl rfl (any_of HT_.out (by kernel_rfl)) (fun _ _ _ h => h) (Or.inl ⟨by rfl, ?_⟩) ?_ ?_
                      rotate_left
                      · intro w'
                        go_simp
                        with_reducible rfl
                      rotate_left
                      · simp only [Act.put, List.setIfInBounds_toArray, List.set_cons_zero, List.set_cons_succ, i64_w, i32_w]
                        rfl
                      refine done_ (done_of HT_.out (by kernel_rfl)) ?_
                      have hcz25_0 : w24.cell? ⟨gb101, 0, none⟩ = some (.string a0_0) := (blk_cell BK101.out 0).trans rfl
                      have hcz25_1 : w24.cell? ⟨gb101, 1, none⟩ = some (.int .i64 a0_1) := (blk_cell BK101.out 1).trans rfl
                      have hcz25_2 : w24.cell? ⟨gb101, 2, none⟩ = some (.int .i64 a0_2) := (blk_cell BK101.out 2).trans rfl
                      have hcz25_3 : w24.cell? ⟨gb101, 3, none⟩ = some (.int .i64 a0_3) := (blk_cell BK101.out 3).trans rfl
                      have hfz25_0 := blk_frozen BK101.out 0
                      have hfz25_1 := blk_frozen BK101.out 1
                      have hfz25_2 := blk_frozen BK101.out 2
                      have hfz25_3 := blk_frozen BK101.out 3
                      try go_wp2
                      go_ret
                      exact ⟨by first | rfl | (simp [errW_none, errW_some] <;> rfl) | (simp [*, errW_none, errW_some] <;> rfl), by repeat (first | (with_reducible first | exact HB.out | apply below_alloc | apply pw_below_drewN | apply below_drew1 | refine below_set ?_ GE101.out) | exact HB.out)⟩
                    · rw [if_neg c20] at H
                      exact absurd H (by simp)
                  · rw [if_neg c19] at H
                    have c19b0 : (a0_1 == 1) = false := beq_eq_false_iff_ne.mpr c19
                    have c19b1 : (a0_1 != 1) = true := bne_iff_ne.mpr c19
                    by_cases c26 : a0_1 = 2
                    · rw [if_pos c26] at H
                      have c26b0 : (a0_1 == 2) = true := beq_iff_eq.mpr c26
                      have c26b1 : (a0_1 != 2) = false := bne_eq_false_iff_eq.mpr c26
                      clear c26
                      by_cases c27 : (((((a0_0 ++ (⟨#[46]⟩ : ByteArray)) ++ t106) ++ t107) ++ t108) ++ (⟨#[46]⟩ : ByteArray)).size + 1 ≤ 9223372036854775807
                      · rw [if_pos c27] at H
                        have c27b0 := eq_true c27
                        have c27b1 : decide ((((((a0_0 ++ (⟨#[46]⟩ : ByteArray)) ++ t106) ++ t107) ++ t108) ++ (⟨#[46]⟩ : ByteArray)).size + 1 ≤ 9223372036854775807) = true := decide_eq_true c27
                        try have c27b2 : (9223372036854775807 < (((((a0_0 ++ (⟨#[46]⟩ : ByteArray)) ++ t106) ++ t107) ++ t108) ++ (⟨#[46]⟩ : ByteArray)).size + 1) = False := eq_false (Nat.not_lt.2 c27)
                        try (have c27b3 := c27; simp only [ByteArray.size_append, ByteArray.size_extract, Nat.min_self, Nat.zero_add, show (⟨#[46]⟩ : ByteArray).size = 1 from rfl] at c27b3; replace c27b3 := eq_false (Nat.not_lt.2 c27b3))
                        replace H := Option.bind_eq_some_iff.mp H
                        obtain ⟨t109, A280, H⟩ := H
                        replace H : (if ((((((a0_0 ++ (⟨#[46]⟩ : ByteArray)) ++ t106) ++ t107) ++ t108) ++ (⟨#[46]⟩ : ByteArray)) ++ (⟨#[99]⟩ : ByteArray)).size + t109.size ≤ 9223372036854775807 then (some (((((((a0_0 ++ (⟨#[46]⟩ : ByteArray)) ++ t106) ++ t107) ++ t108) ++ (⟨#[46]⟩ : ByteArray)) ++ (⟨#[99]⟩ : ByteArray)) ++ t109)) else (none)) = some r := H
                        have A28 := Aside0.mk A280
                        clear A280
                        by_cases c29 : ((((((a0_0 ++ (⟨#[46]⟩ : ByteArray)) ++ t106) ++ t107) ++ t108) ++ (⟨#[46]⟩ : ByteArray)) ++ (⟨#[99]⟩ : ByteArray)).size + t109.size ≤ 9223372036854775807
                        · rw [if_pos c29] at H
                          have c29b0 := eq_true c29
                          have c29b1 : decide (((((((a0_0 ++ (⟨#[46]⟩ : ByteArray)) ++ t106) ++ t107) ++ t108) ++ (⟨#[46]⟩ : ByteArray)) ++ (⟨#[99]⟩ : ByteArray)).size + t109.size ≤ 9223372036854775807) = true := decide_eq_true c29
                          try have c29b2 : (9223372036854775807 < ((((((a0_0 ++ (⟨#[46]⟩ : ByteArray)) ++ t106) ++ t107) ++ t108) ++ (⟨#[46]⟩ : ByteArray)) ++ (⟨#[99]⟩ : ByteArray)).size + t109.size) = False := eq_false (Nat.not_lt.2 c29)
                          try (have c29b3 := c29; simp only [ByteArray.size_append, ByteArray.size_extract, Nat.min_self, Nat.zero_add, show (⟨#[46]⟩ : ByteArray).size = 1 from rfl, show (⟨#[99]⟩ : ByteArray).size = 1 from rfl] at c29b3; replace c29b3 := eq_false (Nat.not_lt.2 c29b3))
                          obtain rfl := Option.some.inj H
                          try go_wp2
                          have n0_ := Aside0.mk (blk_drew BK101.out)
                          have n1_ := Aside0.mk (below_drew1 HB.out)
                          clear BK101
                          clear HB
                          have BK101 := n0_
                          have HB := n1_
                          clear n0_ n1_
                          refine start_ (n := 14) (S := fun w' => w'.cell? ⟨gb101, 0, none⟩ = some (.string a0_0) ∧ w'.cell? ⟨gb101, 1, none⟩ = some (.int .i64 a0_1) ∧ w'.cell? ⟨gb101, 2, none⟩ = some (.int .i64 a0_2) ∧ w'.cell? ⟨gb101, 3, none⟩ = some (.int .i64 a0_3)) (ds := []) #[false, false, false, false, false, false, false, false, false, false, false, false, false, false] (by kernel_rfl) rfl rfl ⟨(blk_cell BK101.out 0).trans rfl, (blk_cell BK101.out 1).trans rfl, (blk_cell BK101.out 2).trans rfl, (blk_cell BK101.out 3).trans rfl⟩ (fun hHeld => ?_); refine with_tabW contangoref10_Print.tab4 contangoref10_Print.bits4 (fun HT_ HW_ => ?_)
                          generalize wc.drew = w30 at BK101 HB hHeld ⊢
                          refine pure_ (i := 0) (N := some 28) (v := ?_) (a' := ?_) #[true, false, false, false, false, false, false, false, false, false, false, false, false, false] rfl rfl (any_of HT_.out (by kernel_rfl)) (fun _ _ _ h => h) (Or.inl ⟨by rfl, ?_⟩) ?_ ?_
                          rotate_left
                          · intro w'
                            go_simp
                            with_reducible rfl
                          rotate_left
                          · simp only [Act.put, List.setIfInBounds_toArray, List.set_cons_zero, List.set_cons_succ, i64_w, i32_w]
                            rfl
                          refine pure_ (i := 3) (N := some 31) (v := ?_) (a' := ?_) #[true, false, false, true, false, false, false, false, false, false, false, false, false, false] rfl rfl (any_of HT_.out (by kernel_rfl)) (fun _ _ _ h => h) (Or.inl ⟨by rfl, ?_⟩) ?_ ?_
                          rotate_left
                          · intro w'
                            go_simp
                            with_reducible rfl
                          rotate_left
                          · simp only [Act.put, List.setIfInBounds_toArray, List.set_cons_zero, List.set_cons_succ, i64_w, i32_w]
                            rfl
                          refine pure_ (i := 6) (N := some 34) (v := ?_) (a' := ?_) #[true, false, false, true, false, false, true, false, false, false, false, false, false, false] rfl rfl (any_of HT_.out (by kernel_rfl)) (fun _ _ _ h => h) (Or.inl ⟨by rfl, ?_⟩) ?_ ?_
                          rotate_left
                          · intro w'
                            go_simp
                            with_reducible rfl
                          rotate_left
                          · simp only [Act.put, List.setIfInBounds_toArray, List.set_cons_zero, List.set_cons_succ, i64_w, i32_w]
                            rfl
                          refine pure_ (i := 9) (N := some 37) (v := ?_) (a' := ?_) #[true, false, false, true, false, false, true, false, false, true, false, false, false, false] rfl rfl (any_of HT_.out (by kernel_rfl)) (fun _ _ _ h => h) (Or.inl ⟨by rfl, ?_⟩) ?_ ?_
                          rotate_left
                          · intro w'
                            go_simp
                            with_reducible rfl
                          rotate_left
                          · simp only [Act.put, List.setIfInBounds_toArray, List.set_cons_zero, List.set_cons_succ, i64_w, i32_w]
                            rfl
                          refine take_ (i := 1) (N := some 29) (v := ?_) (a' := ?_) #[true, true, false, true, false, false, true, false, false, true, false, false, false, false] rfl rfl (take_ofW HT_.out HW_.out (by kernel_rfl)) (fun _ _ _ h => h) (Or.inl ⟨by rfl, ?_⟩) hHeld ?_ ?_
                          rotate_left
                          · rintro w' ⟨s0, s1, s2, s3⟩
                            go_simp
                            with_reducible rfl
                          rotate_left
                          · simp only [Act.put, List.setIfInBounds_toArray, List.set_cons_zero, List.set_cons_succ, i64_w, i32_w]
                            rfl
                          refine pure_ (i := 2) (N := some 30) (v := ?_) (a' := ?_) #[true, true, true, true, false, false, true, false, false, true, false, false, false, false] rfl rfl (any_of HT_.out (by kernel_rfl)) (fun _ _ _ h => h) (Or.inl ⟨by rfl, ?_⟩) ?_ ?_
                          rotate_left
                          · intro w'
                            go_simp
                            with_reducible rfl
                          rotate_left
                          · simp only [Act.put, List.setIfInBounds_toArray, List.set_cons_zero, List.set_cons_succ, i64_w, i32_w]
                            rfl
                          refine one_ (i := 4) (N := some 32) #[true, true, true, true, true, false, true, false, false, true, false, false, false, false] rfl rfl (one_of HT_.out (by kernel_rfl)) (by decide) (fun K hK => ?_)
                          refine goes_ Tryd.func64 (by kernel_rfl) rfl #[.int .i64 t102, .int .i64 4] (by rfl) rfl rfl (by (try simp only [List.map_toArray, List.map_cons, List.map_nil]); first | done | rfl | (simp only [List.length_drop, List.length_take]; rfl)) ?_
                          with_reducible refine (contangoref10_digits.calls kj2 t102 4 t106 _ A12.out).mono ?_
                          rintro e w31 ⟨rfl, hb⟩
                          refine ⟨_, rfl, ?_⟩
                          have n0_ := Aside0.mk (blk_below (g := gb101) (o := .cells #[.string a0_0, .int .i64 a0_1, .int .i64 a0_2, .int .i64 a0_3] 23 (0, 0)) (by (with_reducible repeat (first | refine blk_drewN ?_ _ | refine blk_drew ?_ | refine blk_alloc ?_ _)); exact BK101.out) hb)
                          have n1_ := Aside0.mk (below_step (by repeat (first | (with_reducible first | exact HB.out | apply below_alloc | apply pw_below_drewN | apply below_drew1 | refine below_set ?_ GE101.out) | exact HB.out)) hb)
                          clear BK101
                          clear HB
                          have BK101 := n0_
                          have HB := n1_
                          clear n0_ n1_
                          (try clear hb)
                          (try clear hb2)
                          (try clear hk)
                          (try clear hi)
                          refine hK.out _ _ ⟨(blk_cell BK101.out 0).trans rfl, (blk_cell BK101.out 1).trans rfl, (blk_cell BK101.out 2).trans rfl, (blk_cell BK101.out 3).trans rfl⟩ (fun hHeld => ?_)
                          clear hK K
                          refine norm_ (a' := ?_) ?_ ?_
                          rotate_left
                          · show Act.put _ (some 32) _ = _
                            simp only [Act.put, List.setIfInBounds_toArray, List.set_cons_zero, List.set_cons_succ, i64_w, i32_w]
                            rfl
                          refine pure_ (i := 5) (N := some 33) (v := ?_) (a' := ?_) #[true, true, true, true, true, true, true, false, false, true, false, false, false, false] rfl rfl (any_of HT_.out (by kernel_rfl)) (fun _ _ _ h => h) (Or.inl ⟨by rfl, ?_⟩) ?_ ?_
                          rotate_left
                          · intro w'
                            go_simp
                            with_reducible rfl
                          rotate_left
                          · simp only [Act.put, List.setIfInBounds_toArray, List.set_cons_zero, List.set_cons_succ, i64_w, i32_w]
                            rfl
                          refine one_ (i := 7) (N := some 35) #[true, true, true, true, true, true, true, true, false, true, false, false, false, false] rfl rfl (one_of HT_.out (by kernel_rfl)) (by decide) (fun K hK => ?_)
                          refine goes_ Tryd.func64 (by kernel_rfl) rfl #[.int .i64 t103, .int .i64 2] (by rfl) rfl rfl (by (try simp only [List.map_toArray, List.map_cons, List.map_nil]); first | done | rfl | (simp only [List.length_drop, List.length_take]; rfl)) ?_
                          with_reducible refine (contangoref10_digits.calls kj2 t103 2 t107 _ A14.out).mono ?_
                          rintro e w32 ⟨rfl, hb⟩
                          refine ⟨_, rfl, ?_⟩
                          have n0_ := Aside0.mk (blk_below (g := gb101) (o := .cells #[.string a0_0, .int .i64 a0_1, .int .i64 a0_2, .int .i64 a0_3] 23 (0, 0)) (by (with_reducible repeat (first | refine blk_drewN ?_ _ | refine blk_drew ?_ | refine blk_alloc ?_ _)); exact BK101.out) hb)
                          have n1_ := Aside0.mk (below_step (by repeat (first | (with_reducible first | exact HB.out | apply below_alloc | apply pw_below_drewN | apply below_drew1 | refine below_set ?_ GE101.out) | exact HB.out)) hb)
                          clear BK101
                          clear HB
                          have BK101 := n0_
                          have HB := n1_
                          clear n0_ n1_
                          (try clear hb)
                          (try clear hb2)
                          (try clear hk)
                          (try clear hi)
                          refine hK.out _ _ ⟨(blk_cell BK101.out 0).trans rfl, (blk_cell BK101.out 1).trans rfl, (blk_cell BK101.out 2).trans rfl, (blk_cell BK101.out 3).trans rfl⟩ (fun hHeld => ?_)
                          clear hK K
                          refine norm_ (a' := ?_) ?_ ?_
                          rotate_left
                          · show Act.put _ (some 35) _ = _
                            simp only [Act.put, List.setIfInBounds_toArray, List.set_cons_zero, List.set_cons_succ, i64_w, i32_w]
                            rfl
                          refine pure_ (i := 8) (N := some 36) (v := ?_) (a' := ?_) #[true, true, true, true, true, true, true, true, true, true, false, false, false, false] rfl rfl (any_of HT_.out (by kernel_rfl)) (fun _ _ _ h => h) (Or.inl ⟨by rfl, ?_⟩) ?_ ?_
                          rotate_left
                          · intro w'
                            go_simp
                            with_reducible rfl
                          rotate_left
                          · simp only [Act.put, List.setIfInBounds_toArray, List.set_cons_zero, List.set_cons_succ, i64_w, i32_w]
                            rfl
                          refine one_ (i := 10) (N := some 38) #[true, true, true, true, true, true, true, true, true, true, true, false, false, false] rfl rfl (one_of HT_.out (by kernel_rfl)) (by decide) (fun K hK => ?_)
                          refine goes_ Tryd.func64 (by kernel_rfl) rfl #[.int .i64 t104, .int .i64 2] (by rfl) rfl rfl (by (try simp only [List.map_toArray, List.map_cons, List.map_nil]); first | done | rfl | (simp only [List.length_drop, List.length_take]; rfl)) ?_
                          with_reducible refine (contangoref10_digits.calls kj2 t104 2 t108 _ A16.out).mono ?_
                          rintro e w33 ⟨rfl, hb⟩
                          refine ⟨_, rfl, ?_⟩
                          have n0_ := Aside0.mk (blk_below (g := gb101) (o := .cells #[.string a0_0, .int .i64 a0_1, .int .i64 a0_2, .int .i64 a0_3] 23 (0, 0)) (by (with_reducible repeat (first | refine blk_drewN ?_ _ | refine blk_drew ?_ | refine blk_alloc ?_ _)); exact BK101.out) hb)
                          have n1_ := Aside0.mk (below_step (by repeat (first | (with_reducible first | exact HB.out | apply below_alloc | apply pw_below_drewN | apply below_drew1 | refine below_set ?_ GE101.out) | exact HB.out)) hb)
                          clear BK101
                          clear HB
                          have BK101 := n0_
                          have HB := n1_
                          clear n0_ n1_
                          (try clear hb)
                          (try clear hb2)
                          (try clear hk)
                          (try clear hi)
                          refine hK.out _ _ ⟨(blk_cell BK101.out 0).trans rfl, (blk_cell BK101.out 1).trans rfl, (blk_cell BK101.out 2).trans rfl, (blk_cell BK101.out 3).trans rfl⟩ (fun hHeld => ?_)
                          clear hK K
                          refine norm_ (a' := ?_) ?_ ?_
                          rotate_left
                          · show Act.put _ (some 38) _ = _
                            simp only [Act.put, List.setIfInBounds_toArray, List.set_cons_zero, List.set_cons_succ, i64_w, i32_w]
                            rfl
                          refine pure_ (i := 11) (N := some 39) (v := ?_) (a' := ?_) #[true, true, true, true, true, true, true, true, true, true, true, true, false, false] rfl rfl (any_of HT_.out (by kernel_rfl)) (fun _ _ _ h => h) (Or.inl ⟨by rfl, ?_⟩) ?_ ?_
                          rotate_left
                          · intro w'
                            go_simp
                            with_reducible rfl
                          rotate_left
                          · simp only [Act.put, List.setIfInBounds_toArray, List.set_cons_zero, List.set_cons_succ, i64_w, i32_w]
                            rfl
                          refine pure_ (i := 12) (N := some 40) (v := ?_) (a' := ?_) #[true, true, true, true, true, true, true, true, true, true, true, true, true, false] rfl rfl (any_of HT_.out (by kernel_rfl)) (fun _ _ _ h => h) (Or.inl ⟨by rfl, ?_⟩) ?_ ?_
                          rotate_left
                          · intro w'
                            go_simp
                            with_reducible rfl
                          rotate_left
                          · simp only [Act.put, List.setIfInBounds_toArray, List.set_cons_zero, List.set_cons_succ, i64_w, i32_w]
                            rfl
                          refine pure_ (i := 13) (N := some 7) (v := ?_) (a' := ?_) #[true, true, true, true, true, true, true, true, true, true, true, true, true, true] rfl rfl (any_of HT_.out (by kernel_rfl)) (fun _ _ _ h => h) (Or.inl ⟨by rfl, ?_⟩) ?_ ?_
                          rotate_left
                          · intro w'
                            go_simp
                            with_reducible rfl
                          rotate_left
                          · simp only [Act.put, List.setIfInBounds_toArray, List.set_cons_zero, List.set_cons_succ, i64_w, i32_w]
                            rfl
                          refine done_ (done_of HT_.out (by kernel_rfl)) ?_
                          have hcz34_0 : w33.cell? ⟨gb101, 0, none⟩ = some (.string a0_0) := (blk_cell BK101.out 0).trans rfl
                          have hcz34_1 : w33.cell? ⟨gb101, 1, none⟩ = some (.int .i64 a0_1) := (blk_cell BK101.out 1).trans rfl
                          have hcz34_2 : w33.cell? ⟨gb101, 2, none⟩ = some (.int .i64 a0_2) := (blk_cell BK101.out 2).trans rfl
                          have hcz34_3 : w33.cell? ⟨gb101, 3, none⟩ = some (.int .i64 a0_3) := (blk_cell BK101.out 3).trans rfl
                          have hfz34_0 := blk_frozen BK101.out 0
                          have hfz34_1 := blk_frozen BK101.out 1
                          have hfz34_2 := blk_frozen BK101.out 2
                          have hfz34_3 := blk_frozen BK101.out 3
                          try go_wp2_with (first | ((with_reducible refine gate_callee (f := 65) rfl ?_); refine goesL_ (some 53) rfl rfl Tryd.func65 (by kernel_rfl) rfl #[.int .i64 a0_3] rfl (by (try simp only [List.map_toArray, List.map_cons, List.map_nil]); first | done | rfl | (simp only [List.length_drop, List.length_take]; rfl)) ?_; (with_reducible refine (contangoref03_Text.calls kj2 a0_3 t109 _ A28.out).mono ?_); rintro e w35 ⟨rfl, hb⟩; refine ⟨_, rfl, ?_⟩; have n0_ := Aside0.mk (blk_below (g := gb101) (o := .cells #[.string a0_0, .int .i64 a0_1, .int .i64 a0_2, .int .i64 a0_3] 23 (0, 0)) (by (with_reducible repeat (first | refine blk_drewN ?_ _ | refine blk_drew ?_ | refine blk_alloc ?_ _)); exact BK101.out) hb); have n1_ := Aside0.mk (below_step (by repeat (first | (with_reducible first | exact HB.out | apply below_alloc | apply pw_below_drewN | apply below_drew1 | refine below_set ?_ GE101.out) | exact HB.out)) hb); clear BK101; clear HB; have BK101 := n0_; have HB := n1_; clear n0_ n1_; (try clear hb); (try clear hb2); (try clear hk); (try clear hi)))
                          go_ret
                          exact ⟨by first | rfl | (simp [errW_none, errW_some] <;> rfl) | (simp [*, errW_none, errW_some] <;> rfl), by repeat (first | (with_reducible first | exact HB.out | apply below_alloc | apply pw_below_drewN | apply below_drew1 | refine below_set ?_ GE101.out) | exact HB.out)⟩
                        · rw [if_neg c29] at H
                          exact absurd H (by simp)
                      · rw [if_neg c27] at H
                        exact absurd H (by simp)
                    · rw [if_neg c26] at H
                      have c26b0 : (a0_1 == 2) = false := beq_eq_false_iff_ne.mpr c26
                      have c26b1 : (a0_1 != 2) = true := bne_iff_ne.mpr c26
                      by_cases c36 : (((((a0_0 ++ (⟨#[46]⟩ : ByteArray)) ++ t106) ++ t107) ++ t108) ++ (⟨#[46]⟩ : ByteArray)).size + 1 ≤ 9223372036854775807
                      · rw [if_pos c36] at H
                        have c36b0 := eq_true c36
                        have c36b1 : decide ((((((a0_0 ++ (⟨#[46]⟩ : ByteArray)) ++ t106) ++ t107) ++ t108) ++ (⟨#[46]⟩ : ByteArray)).size + 1 ≤ 9223372036854775807) = true := decide_eq_true c36
                        try have c36b2 : (9223372036854775807 < (((((a0_0 ++ (⟨#[46]⟩ : ByteArray)) ++ t106) ++ t107) ++ t108) ++ (⟨#[46]⟩ : ByteArray)).size + 1) = False := eq_false (Nat.not_lt.2 c36)
                        try (have c36b3 := c36; simp only [ByteArray.size_append, ByteArray.size_extract, Nat.min_self, Nat.zero_add, show (⟨#[46]⟩ : ByteArray).size = 1 from rfl] at c36b3; replace c36b3 := eq_false (Nat.not_lt.2 c36b3))
                        replace H := Option.bind_eq_some_iff.mp H
                        obtain ⟨t110, A370, H⟩ := H
                        replace H : (if ((((((a0_0 ++ (⟨#[46]⟩ : ByteArray)) ++ t106) ++ t107) ++ t108) ++ (⟨#[46]⟩ : ByteArray)) ++ (⟨#[112]⟩ : ByteArray)).size + t110.size ≤ 9223372036854775807 then (some (((((((a0_0 ++ (⟨#[46]⟩ : ByteArray)) ++ t106) ++ t107) ++ t108) ++ (⟨#[46]⟩ : ByteArray)) ++ (⟨#[112]⟩ : ByteArray)) ++ t110)) else (none)) = some r := H
                        have A37 := Aside0.mk A370
                        clear A370
                        by_cases c38 : ((((((a0_0 ++ (⟨#[46]⟩ : ByteArray)) ++ t106) ++ t107) ++ t108) ++ (⟨#[46]⟩ : ByteArray)) ++ (⟨#[112]⟩ : ByteArray)).size + t110.size ≤ 9223372036854775807
                        · rw [if_pos c38] at H
                          have c38b0 := eq_true c38
                          have c38b1 : decide (((((((a0_0 ++ (⟨#[46]⟩ : ByteArray)) ++ t106) ++ t107) ++ t108) ++ (⟨#[46]⟩ : ByteArray)) ++ (⟨#[112]⟩ : ByteArray)).size + t110.size ≤ 9223372036854775807) = true := decide_eq_true c38
                          try have c38b2 : (9223372036854775807 < ((((((a0_0 ++ (⟨#[46]⟩ : ByteArray)) ++ t106) ++ t107) ++ t108) ++ (⟨#[46]⟩ : ByteArray)) ++ (⟨#[112]⟩ : ByteArray)).size + t110.size) = False := eq_false (Nat.not_lt.2 c38)
                          try (have c38b3 := c38; simp only [ByteArray.size_append, ByteArray.size_extract, Nat.min_self, Nat.zero_add, show (⟨#[112]⟩ : ByteArray).size = 1 from rfl, show (⟨#[46]⟩ : ByteArray).size = 1 from rfl] at c38b3; replace c38b3 := eq_false (Nat.not_lt.2 c38b3))
                          obtain rfl := Option.some.inj H
                          try go_wp2
                          have n0_ := Aside0.mk (blk_drew BK101.out)
                          have n1_ := Aside0.mk (below_drew1 HB.out)
                          clear BK101
                          clear HB
                          have BK101 := n0_
                          have HB := n1_
                          clear n0_ n1_
                          refine start_ (n := 14) (S := fun w' => w'.cell? ⟨gb101, 0, none⟩ = some (.string a0_0) ∧ w'.cell? ⟨gb101, 1, none⟩ = some (.int .i64 a0_1) ∧ w'.cell? ⟨gb101, 2, none⟩ = some (.int .i64 a0_2) ∧ w'.cell? ⟨gb101, 3, none⟩ = some (.int .i64 a0_3)) (ds := []) #[false, false, false, false, false, false, false, false, false, false, false, false, false, false] (by kernel_rfl) rfl rfl ⟨(blk_cell BK101.out 0).trans rfl, (blk_cell BK101.out 1).trans rfl, (blk_cell BK101.out 2).trans rfl, (blk_cell BK101.out 3).trans rfl⟩ (fun hHeld => ?_); refine with_tabW contangoref10_Print.tab4 contangoref10_Print.bits4 (fun HT_ HW_ => ?_)
                          generalize wc.drew = w39 at BK101 HB hHeld ⊢
                          refine pure_ (i := 0) (N := some 28) (v := ?_) (a' := ?_) #[true, false, false, false, false, false, false, false, false, false, false, false, false, false] rfl rfl (any_of HT_.out (by kernel_rfl)) (fun _ _ _ h => h) (Or.inl ⟨by rfl, ?_⟩) ?_ ?_
                          rotate_left
                          · intro w'
                            go_simp
                            with_reducible rfl
                          rotate_left
                          · simp only [Act.put, List.setIfInBounds_toArray, List.set_cons_zero, List.set_cons_succ, i64_w, i32_w]
                            rfl
                          refine pure_ (i := 3) (N := some 31) (v := ?_) (a' := ?_) #[true, false, false, true, false, false, false, false, false, false, false, false, false, false] rfl rfl (any_of HT_.out (by kernel_rfl)) (fun _ _ _ h => h) (Or.inl ⟨by rfl, ?_⟩) ?_ ?_
                          rotate_left
                          · intro w'
                            go_simp
                            with_reducible rfl
                          rotate_left
                          · simp only [Act.put, List.setIfInBounds_toArray, List.set_cons_zero, List.set_cons_succ, i64_w, i32_w]
                            rfl
                          refine pure_ (i := 6) (N := some 34) (v := ?_) (a' := ?_) #[true, false, false, true, false, false, true, false, false, false, false, false, false, false] rfl rfl (any_of HT_.out (by kernel_rfl)) (fun _ _ _ h => h) (Or.inl ⟨by rfl, ?_⟩) ?_ ?_
                          rotate_left
                          · intro w'
                            go_simp
                            with_reducible rfl
                          rotate_left
                          · simp only [Act.put, List.setIfInBounds_toArray, List.set_cons_zero, List.set_cons_succ, i64_w, i32_w]
                            rfl
                          refine pure_ (i := 9) (N := some 37) (v := ?_) (a' := ?_) #[true, false, false, true, false, false, true, false, false, true, false, false, false, false] rfl rfl (any_of HT_.out (by kernel_rfl)) (fun _ _ _ h => h) (Or.inl ⟨by rfl, ?_⟩) ?_ ?_
                          rotate_left
                          · intro w'
                            go_simp
                            with_reducible rfl
                          rotate_left
                          · simp only [Act.put, List.setIfInBounds_toArray, List.set_cons_zero, List.set_cons_succ, i64_w, i32_w]
                            rfl
                          refine take_ (i := 1) (N := some 29) (v := ?_) (a' := ?_) #[true, true, false, true, false, false, true, false, false, true, false, false, false, false] rfl rfl (take_ofW HT_.out HW_.out (by kernel_rfl)) (fun _ _ _ h => h) (Or.inl ⟨by rfl, ?_⟩) hHeld ?_ ?_
                          rotate_left
                          · rintro w' ⟨s0, s1, s2, s3⟩
                            go_simp
                            with_reducible rfl
                          rotate_left
                          · simp only [Act.put, List.setIfInBounds_toArray, List.set_cons_zero, List.set_cons_succ, i64_w, i32_w]
                            rfl
                          refine pure_ (i := 2) (N := some 30) (v := ?_) (a' := ?_) #[true, true, true, true, false, false, true, false, false, true, false, false, false, false] rfl rfl (any_of HT_.out (by kernel_rfl)) (fun _ _ _ h => h) (Or.inl ⟨by rfl, ?_⟩) ?_ ?_
                          rotate_left
                          · intro w'
                            go_simp
                            with_reducible rfl
                          rotate_left
                          · simp only [Act.put, List.setIfInBounds_toArray, List.set_cons_zero, List.set_cons_succ, i64_w, i32_w]
                            rfl
                          refine one_ (i := 4) (N := some 32) #[true, true, true, true, true, false, true, false, false, true, false, false, false, false] rfl rfl (one_of HT_.out (by kernel_rfl)) (by decide) (fun K hK => ?_)
                          refine goes_ Tryd.func64 (by kernel_rfl) rfl #[.int .i64 t102, .int .i64 4] (by rfl) rfl rfl (by (try simp only [List.map_toArray, List.map_cons, List.map_nil]); first | done | rfl | (simp only [List.length_drop, List.length_take]; rfl)) ?_
                          with_reducible refine (contangoref10_digits.calls kj2 t102 4 t106 _ A12.out).mono ?_
                          rintro e w40 ⟨rfl, hb⟩
                          refine ⟨_, rfl, ?_⟩
                          have n0_ := Aside0.mk (blk_below (g := gb101) (o := .cells #[.string a0_0, .int .i64 a0_1, .int .i64 a0_2, .int .i64 a0_3] 23 (0, 0)) (by (with_reducible repeat (first | refine blk_drewN ?_ _ | refine blk_drew ?_ | refine blk_alloc ?_ _)); exact BK101.out) hb)
                          have n1_ := Aside0.mk (below_step (by repeat (first | (with_reducible first | exact HB.out | apply below_alloc | apply pw_below_drewN | apply below_drew1 | refine below_set ?_ GE101.out) | exact HB.out)) hb)
                          clear BK101
                          clear HB
                          have BK101 := n0_
                          have HB := n1_
                          clear n0_ n1_
                          (try clear hb)
                          (try clear hb2)
                          (try clear hk)
                          (try clear hi)
                          refine hK.out _ _ ⟨(blk_cell BK101.out 0).trans rfl, (blk_cell BK101.out 1).trans rfl, (blk_cell BK101.out 2).trans rfl, (blk_cell BK101.out 3).trans rfl⟩ (fun hHeld => ?_)
                          clear hK K
                          refine norm_ (a' := ?_) ?_ ?_
                          rotate_left
                          · show Act.put _ (some 32) _ = _
                            simp only [Act.put, List.setIfInBounds_toArray, List.set_cons_zero, List.set_cons_succ, i64_w, i32_w]
                            rfl
                          refine pure_ (i := 5) (N := some 33) (v := ?_) (a' := ?_) #[true, true, true, true, true, true, true, false, false, true, false, false, false, false] rfl rfl (any_of HT_.out (by kernel_rfl)) (fun _ _ _ h => h) (Or.inl ⟨by rfl, ?_⟩) ?_ ?_
                          rotate_left
                          · intro w'
                            go_simp
                            with_reducible rfl
                          rotate_left
                          · simp only [Act.put, List.setIfInBounds_toArray, List.set_cons_zero, List.set_cons_succ, i64_w, i32_w]
                            rfl
                          refine one_ (i := 7) (N := some 35) #[true, true, true, true, true, true, true, true, false, true, false, false, false, false] rfl rfl (one_of HT_.out (by kernel_rfl)) (by decide) (fun K hK => ?_)
                          refine goes_ Tryd.func64 (by kernel_rfl) rfl #[.int .i64 t103, .int .i64 2] (by rfl) rfl rfl (by (try simp only [List.map_toArray, List.map_cons, List.map_nil]); first | done | rfl | (simp only [List.length_drop, List.length_take]; rfl)) ?_
                          with_reducible refine (contangoref10_digits.calls kj2 t103 2 t107 _ A14.out).mono ?_
                          rintro e w41 ⟨rfl, hb⟩
                          refine ⟨_, rfl, ?_⟩
                          have n0_ := Aside0.mk (blk_below (g := gb101) (o := .cells #[.string a0_0, .int .i64 a0_1, .int .i64 a0_2, .int .i64 a0_3] 23 (0, 0)) (by (with_reducible repeat (first | refine blk_drewN ?_ _ | refine blk_drew ?_ | refine blk_alloc ?_ _)); exact BK101.out) hb)
                          have n1_ := Aside0.mk (below_step (by repeat (first | (with_reducible first | exact HB.out | apply below_alloc | apply pw_below_drewN | apply below_drew1 | refine below_set ?_ GE101.out) | exact HB.out)) hb)
                          clear BK101
                          clear HB
                          have BK101 := n0_
                          have HB := n1_
                          clear n0_ n1_
                          (try clear hb)
                          (try clear hb2)
                          (try clear hk)
                          (try clear hi)
                          refine hK.out _ _ ⟨(blk_cell BK101.out 0).trans rfl, (blk_cell BK101.out 1).trans rfl, (blk_cell BK101.out 2).trans rfl, (blk_cell BK101.out 3).trans rfl⟩ (fun hHeld => ?_)
                          clear hK K
                          refine norm_ (a' := ?_) ?_ ?_
                          rotate_left
                          · show Act.put _ (some 35) _ = _
                            simp only [Act.put, List.setIfInBounds_toArray, List.set_cons_zero, List.set_cons_succ, i64_w, i32_w]
                            rfl
                          refine pure_ (i := 8) (N := some 36) (v := ?_) (a' := ?_) #[true, true, true, true, true, true, true, true, true, true, false, false, false, false] rfl rfl (any_of HT_.out (by kernel_rfl)) (fun _ _ _ h => h) (Or.inl ⟨by rfl, ?_⟩) ?_ ?_
                          rotate_left
                          · intro w'
                            go_simp
                            with_reducible rfl
                          rotate_left
                          · simp only [Act.put, List.setIfInBounds_toArray, List.set_cons_zero, List.set_cons_succ, i64_w, i32_w]
                            rfl
                          refine one_ (i := 10) (N := some 38) #[true, true, true, true, true, true, true, true, true, true, true, false, false, false] rfl rfl (one_of HT_.out (by kernel_rfl)) (by decide) (fun K hK => ?_)
                          refine goes_ Tryd.func64 (by kernel_rfl) rfl #[.int .i64 t104, .int .i64 2] (by rfl) rfl rfl (by (try simp only [List.map_toArray, List.map_cons, List.map_nil]); first | done | rfl | (simp only [List.length_drop, List.length_take]; rfl)) ?_
                          with_reducible refine (contangoref10_digits.calls kj2 t104 2 t108 _ A16.out).mono ?_
                          rintro e w42 ⟨rfl, hb⟩
                          refine ⟨_, rfl, ?_⟩
                          have n0_ := Aside0.mk (blk_below (g := gb101) (o := .cells #[.string a0_0, .int .i64 a0_1, .int .i64 a0_2, .int .i64 a0_3] 23 (0, 0)) (by (with_reducible repeat (first | refine blk_drewN ?_ _ | refine blk_drew ?_ | refine blk_alloc ?_ _)); exact BK101.out) hb)
                          have n1_ := Aside0.mk (below_step (by repeat (first | (with_reducible first | exact HB.out | apply below_alloc | apply pw_below_drewN | apply below_drew1 | refine below_set ?_ GE101.out) | exact HB.out)) hb)
                          clear BK101
                          clear HB
                          have BK101 := n0_
                          have HB := n1_
                          clear n0_ n1_
                          (try clear hb)
                          (try clear hb2)
                          (try clear hk)
                          (try clear hi)
                          refine hK.out _ _ ⟨(blk_cell BK101.out 0).trans rfl, (blk_cell BK101.out 1).trans rfl, (blk_cell BK101.out 2).trans rfl, (blk_cell BK101.out 3).trans rfl⟩ (fun hHeld => ?_)
                          clear hK K
                          refine norm_ (a' := ?_) ?_ ?_
                          rotate_left
                          · show Act.put _ (some 38) _ = _
                            simp only [Act.put, List.setIfInBounds_toArray, List.set_cons_zero, List.set_cons_succ, i64_w, i32_w]
                            rfl
                          refine pure_ (i := 11) (N := some 39) (v := ?_) (a' := ?_) #[true, true, true, true, true, true, true, true, true, true, true, true, false, false] rfl rfl (any_of HT_.out (by kernel_rfl)) (fun _ _ _ h => h) (Or.inl ⟨by rfl, ?_⟩) ?_ ?_
                          rotate_left
                          · intro w'
                            go_simp
                            with_reducible rfl
                          rotate_left
                          · simp only [Act.put, List.setIfInBounds_toArray, List.set_cons_zero, List.set_cons_succ, i64_w, i32_w]
                            rfl
                          refine pure_ (i := 12) (N := some 40) (v := ?_) (a' := ?_) #[true, true, true, true, true, true, true, true, true, true, true, true, true, false] rfl rfl (any_of HT_.out (by kernel_rfl)) (fun _ _ _ h => h) (Or.inl ⟨by rfl, ?_⟩) ?_ ?_
                          rotate_left
                          · intro w'
                            go_simp
                            with_reducible rfl
                          rotate_left
                          · simp only [Act.put, List.setIfInBounds_toArray, List.set_cons_zero, List.set_cons_succ, i64_w, i32_w]
                            rfl
                          refine pure_ (i := 13) (N := some 7) (v := ?_) (a' := ?_) #[true, true, true, true, true, true, true, true, true, true, true, true, true, true] rfl rfl (any_of HT_.out (by kernel_rfl)) (fun _ _ _ h => h) (Or.inl ⟨by rfl, ?_⟩) ?_ ?_
                          rotate_left
                          · intro w'
                            go_simp
                            with_reducible rfl
                          rotate_left
                          · simp only [Act.put, List.setIfInBounds_toArray, List.set_cons_zero, List.set_cons_succ, i64_w, i32_w]
                            rfl
                          refine done_ (done_of HT_.out (by kernel_rfl)) ?_
                          have hcz43_0 : w42.cell? ⟨gb101, 0, none⟩ = some (.string a0_0) := (blk_cell BK101.out 0).trans rfl
                          have hcz43_1 : w42.cell? ⟨gb101, 1, none⟩ = some (.int .i64 a0_1) := (blk_cell BK101.out 1).trans rfl
                          have hcz43_2 : w42.cell? ⟨gb101, 2, none⟩ = some (.int .i64 a0_2) := (blk_cell BK101.out 2).trans rfl
                          have hcz43_3 : w42.cell? ⟨gb101, 3, none⟩ = some (.int .i64 a0_3) := (blk_cell BK101.out 3).trans rfl
                          have hfz43_0 := blk_frozen BK101.out 0
                          have hfz43_1 := blk_frozen BK101.out 1
                          have hfz43_2 := blk_frozen BK101.out 2
                          have hfz43_3 := blk_frozen BK101.out 3
                          try go_wp2_with (first | ((with_reducible refine gate_callee (f := 65) rfl ?_); refine goesL_ (some 59) rfl rfl Tryd.func65 (by kernel_rfl) rfl #[.int .i64 a0_3] rfl (by (try simp only [List.map_toArray, List.map_cons, List.map_nil]); first | done | rfl | (simp only [List.length_drop, List.length_take]; rfl)) ?_; (with_reducible refine (contangoref03_Text.calls kj2 a0_3 t110 _ A37.out).mono ?_); rintro e w44 ⟨rfl, hb⟩; refine ⟨_, rfl, ?_⟩; have n0_ := Aside0.mk (blk_below (g := gb101) (o := .cells #[.string a0_0, .int .i64 a0_1, .int .i64 a0_2, .int .i64 a0_3] 23 (0, 0)) (by (with_reducible repeat (first | refine blk_drewN ?_ _ | refine blk_drew ?_ | refine blk_alloc ?_ _)); exact BK101.out) hb); have n1_ := Aside0.mk (below_step (by repeat (first | (with_reducible first | exact HB.out | apply below_alloc | apply pw_below_drewN | apply below_drew1 | refine below_set ?_ GE101.out) | exact HB.out)) hb); clear BK101; clear HB; have BK101 := n0_; have HB := n1_; clear n0_ n1_; (try clear hb); (try clear hb2); (try clear hk); (try clear hi)))
                          go_ret
                          exact ⟨by first | rfl | (simp [errW_none, errW_some] <;> rfl) | (simp [*, errW_none, errW_some] <;> rfl), by repeat (first | (with_reducible first | exact HB.out | apply below_alloc | apply pw_below_drewN | apply below_drew1 | refine below_set ?_ GE101.out) | exact HB.out)⟩
                        · rw [if_neg c38] at H
                          exact absurd H (by simp)
                      · rw [if_neg c36] at H
                        exact absurd H (by simp)
                · rw [if_neg c18] at H
                  exact absurd H (by simp)
              · rw [if_neg c17] at H
                exact absurd H (by simp)
            · rw [if_neg c15] at H
              exact absurd H (by simp)
          · rw [if_neg c13] at H
            exact absurd H (by simp)
        · rw [if_neg c11] at H
          exact absurd H (by simp)
end Go.Proofs.YtieifncibojciaaDoor.X
end
section
namespace Go.Proofs.YtieifncibojciaaDoor.X
open Go.RowKit Go.Proofs.YtieifncibojciaaDoorW.PrintWords Go.Proofs.YtieifncibojciaaDoorW.PrintLast Go.Proofs.YtieifncibojciaaDoorW.PrintMore
attribute [local go_sem] max2_int min2_int max_two min_two max_three min_three max_four min_four
set_option linter.unusedVariables false
set_option linter.unusedSimpArgs false
attribute [local go_sem high] eqA23
def contangolaw10_SeriesTexts.j0 : Nat → ByteArray → Bool → ByteArray → Int → Int → Int → Option (Bool)
  | 0, _, _, _, _, _, _ => none
  | k + 1, x1, x17, x102000, x102001, x102002, x102003 => if x17 = true then ((contangolaw10_goes.f k).bind fun t102 => (some t102)) else ((series_Parse.f k x1).bind fun bt103 => ((contangoref10_Parse.f k x1).bind fun bt109 => ((series_Print.f k x102000 x102001 x102002 x102003).bind fun t115 => ((contangoref10_Print.f k x102000 x102001 x102002 x102003).bind fun t116 => (if t115.toList = t116.toList then (if (bt103.1.toList == bt109.1.toList && (bt103.2.1 == bt109.2.1 && (bt103.2.2.1 == bt109.2.2.1 && (bt103.2.2.2.1 == bt109.2.2.2.1)))) = true then (if bt103.2.2.2.2 = bt109.2.2.2.2 then ((contangolaw10_goes.f k).bind fun t117 => (some t117)) else (none)) else (none)) else (none))))))
def contangolaw10_SeriesTexts.f (k : Nat) (a0_0 : ByteArray) (a0_1 : Int) (a0_2 : Int) (a0_3 : Int) (a1 : ByteArray) : Option (Bool) := if (a1.size : Int) > 300 then (contangolaw10_SeriesTexts.j0 k a1 true a0_0 a0_1 a0_2 a0_3) else (contangolaw10_SeriesTexts.j0 k a1 (decide ((a0_0.size : Int) > 300)) a0_0 a0_1 a0_2 a0_3)
def contangolaw10_SeriesTexts.T5 : Bool × List (List Nat × List Nat) := (true, [([], []), ([0], [0]), ([], []), ([2, 1], [2]), ([1, 3], [1, 3]), ([4, 3], [4]), ([5], [5]), ([5], [5]), ([6, 7, 5], [5, 6, 7]), ([5, 8], [5, 8]), ([9, 5], [9]), ([10], [10]), ([10], [10]), ([11, 12, 10], [10, 11, 12]), ([10, 13], [10, 13]), ([14, 10], [14]), ([15, 15], [15]), ([15, 16], [15, 16]), ([17, 16, 0, 1, 2, 3, 4, 5, 6, 7, 8, 9, 10, 11, 12, 13, 14, 15, 16, 17], [17])])
def contangolaw10_SeriesTexts.B5 : List Nat := [0, 1, 0, 7, 15, 31, 63, 63, 255, 511, 1023, 2047, 2047, 8191, 16383, 32767, 65535, 131071, 262143]
theorem contangolaw10_SeriesTexts.tab5 : rtab .any (opsOf Tryd.f3 5) = contangolaw10_SeriesTexts.T5 := by kernel_rfl
theorem contangolaw10_SeriesTexts.bits5 : waitsOk contangolaw10_SeriesTexts.T5.2 contangolaw10_SeriesTexts.B5 = true := by kernel_rfl
set_option maxHeartbeats 8000000 in
set_option maxRecDepth 100000 in
theorem contangolaw10_SeriesTexts.calls (k : Nat) (a0_0 : ByteArray) (a0_1 : Int) (a0_2 : Int) (a0_3 : Int) (a1 : ByteArray) (r : Bool) (w : World) (h : contangolaw10_SeriesTexts.f k a0_0 a0_1 a0_2 a0_3 a1 = some r) (hGL : GlobD w) :
    Calls Tryd.prog 3 #[.agg #[.string a0_0, .int .i64 a0_1, .int .i64 a0_2, .int .i64 a0_3], .string a1] w fun e w' => e = .returned (.bool r) ∧ Below w.heap.size w w' := by
  have hu23 := Tryd.underlying23
  have HB := Aside0.mk (Below.refl w.heap.size w)
  have HGL := Aside0.mk hGL
  clear hGL
  have H : (if (a1.size : Int) > 300 then (contangolaw10_SeriesTexts.j0 k a1 true a0_0 a0_1 a0_2 a0_3) else (contangolaw10_SeriesTexts.j0 k a1 (decide ((a0_0.size : Int) > 300)) a0_0 a0_1 a0_2 a0_3)) = some r := h
  clear h
  have HC3 := Aside0.mk H
  clear H
  go_enter Tryd.func3, Tryd.ntmps3
  go_upto_region 1 with (first | ((with_reducible refine gate_dst (N := 2) rfl ?_); (try (refine gate_guard (by rfl) ?_; dsimp only)); refine box_event ?hg (N := 2) ?hd (cs := #[.string a0_0, .int .i64 a0_1, .int .i64 a0_2, .int .i64 a0_3]) (t := 23) ?hr ?_; (case hd => rfl); (case hg => rfl); (case hr => first | (go_simp; done) | (go_simp; rfl)); intro gb101 hg w4 hbox hb; have n0_ := Aside0.mk (below_step (by repeat (first | (with_reducible first | exact HB.out | apply below_alloc | apply pw_below_drewN | apply below_drew1) | exact HB.out)) hb); have n1_ := Aside0.mk (hbox); have n2_ := Aside0.mk ((by rw [hg]; exact (below_size (by repeat (first | (with_reducible first | exact HB.out | apply below_alloc | apply pw_below_drewN | apply below_drew1) | exact HB.out))) : w.heap.size ≤ gb101)); have n3_ := Aside0.mk ((by rw [hg]; exact (below_size (by repeat (first | (with_reducible first | exact HB.out | apply below_alloc | apply pw_below_drewN | apply below_drew1) | exact HB.out))) : w.heap.size ≤ gb101)); clear HB; have HB := n0_; have BK101 := n1_; have GW101 := n2_; have GE101 := n3_; clear n0_ n1_ n2_ n3_; clear hb hbox hg))
  (try simp only [Act.put, List.setIfInBounds_toArray, List.set_cons_zero, List.set_cons_succ])
  go_cut [17] (fun v17 wc => ∃ (kq : Nat) (x17_2 : Bool), v17 = .bool x17_2 ∧ Aside0 (contangolaw10_SeriesTexts.j0 kq a1 x17_2 a0_0 a0_1 a0_2 a0_3 = some r) ∧ Aside0 (kq ≤ k) ∧ Aside0 (wc.heap[gb101]? = some (.cells #[.string a0_0, .int .i64 a0_1, .int .i64 a0_2, .int .i64 a0_3] 23 (0, 0))) ∧ Aside0 (Below w.heap.size w wc))
  case first =>
    have H := HC3.out
    clear HC3
    by_cases c5 : (a1.size : Int) > 300
    · rw [if_pos c5] at H
      have c5b0 : decide (300 < (a1.size : Int)) = true := decide_eq_true c5
      have c5b1 : decide (300 < a1.size) = true := decide_eq_true (by omega)
      clear c5
      (first | rw [c5b0] | (simp only [i64_w, i32_w]; rw [c5b0]) | skip)
      have H' := Aside0.mk H
      clear H
      go_wp2
      go_meet
      case rel => exact ⟨_, (true), (by first | rfl | (simp; done) | (simp [*]; done)), H', ⟨by first | omega | exact Nat.le_refl _⟩, ⟨by (with_reducible repeat (first | refine blk_drewN ?_ _ | refine blk_drew ?_ | refine blk_alloc ?_ _)); exact BK101.out⟩, ⟨by repeat (first | (with_reducible first | exact HB.out | apply below_alloc | apply pw_below_drewN | apply below_drew1 | refine below_set ?_ GE101.out) | exact HB.out)⟩⟩
    · rw [if_neg c5] at H
      have c5b0 : decide (300 < (a1.size : Int)) = false := decide_eq_false c5
      have c5b1 : decide (300 < a1.size) = false := decide_eq_false (by omega)
      clear c5
      (first | rw [c5b0] | (simp only [i64_w, i32_w]; rw [c5b0]) | skip)
      have H' := Aside0.mk H
      clear H
      have hcz6_0 : w4.cell? ⟨gb101, 0, none⟩ = some (.string a0_0) := (blk_cell BK101.out 0).trans rfl
      have hcz6_1 : w4.cell? ⟨gb101, 1, none⟩ = some (.int .i64 a0_1) := (blk_cell BK101.out 1).trans rfl
      have hcz6_2 : w4.cell? ⟨gb101, 2, none⟩ = some (.int .i64 a0_2) := (blk_cell BK101.out 2).trans rfl
      have hcz6_3 : w4.cell? ⟨gb101, 3, none⟩ = some (.int .i64 a0_3) := (blk_cell BK101.out 3).trans rfl
      have hfz6_0 := blk_frozen BK101.out 0
      have hfz6_1 := blk_frozen BK101.out 1
      have hfz6_2 := blk_frozen BK101.out 2
      have hfz6_3 := blk_frozen BK101.out 3
      go_wp2
      go_meet
      case rel => exact ⟨_, (decide ((a0_0.size : Int) > 300)), (by first | rfl | (simp; done) | (simp [*]; done)), H', ⟨by first | omega | exact Nat.le_refl _⟩, ⟨by (with_reducible repeat (first | refine blk_drewN ?_ _ | refine blk_drew ?_ | refine blk_alloc ?_ _)); exact BK101.out⟩, ⟨by repeat (first | (with_reducible first | exact HB.out | apply below_alloc | apply pw_below_drewN | apply below_drew1 | refine below_set ?_ GE101.out) | exact HB.out)⟩⟩
  case rest =>
    clear HC3
    try clear p2
    try clear c3
    try clear c5
    try clear c5b0
    try clear c5b1
    try clear hcz6_0
    try clear hcz6_1
    try clear hcz6_2
    try clear hcz6_3
    try clear hfz6_0
    try clear hfz6_1
    try clear hfz6_2
    try clear hfz6_3
    obtain ⟨kq, x17_2, rfl, HA, HJ2, BK101, HB⟩ := hcut
    cases kq with
    | zero => exact absurd HA.out (by simp [contangolaw10_SeriesTexts.j0])
    | succ kj2 =>
      have H := HA.out
      clear HA
      simp only [contangolaw10_SeriesTexts.j0] at H
      by_cases c7 : x17_2 = true
      · subst c7
        have H1 : ((contangolaw10_goes.f kj2).bind fun t102 => (some t102)) = some r := by rw [if_pos rfl] at H; exact H
        clear H
        have H := H1
        clear H1
        replace H := Option.bind_eq_some_iff.mp H
        obtain ⟨t102, A80, H⟩ := H
        replace H : (some t102) = some r := H
        have A8 := Aside0.mk A80
        clear A80
        obtain rfl := Option.some.inj H
        go_wp2_with (first | ((with_reducible refine gate_callee (f := 14) rfl ?_); refine goesL_ (some 18) rfl rfl Tryd.func14 (by kernel_rfl) rfl #[] rfl (by (try simp only [List.map_toArray, List.map_cons, List.map_nil]); first | done | rfl | (simp only [List.length_drop, List.length_take]; rfl)) ?_; (with_reducible refine (contangolaw10_goes.calls kj2  t102 _ A8.out (glob_of HGL.out (by repeat (first | (with_reducible first | exact HB.out | apply below_alloc | apply pw_below_drewN | apply below_drew1 | refine below_set ?_ GE101.out | refine below_set ?_ GE108.out | refine below_set ?_ GE114.out) | exact HB.out)))).mono ?_); rintro e w9 ⟨rfl, hb⟩; refine ⟨_, rfl, ?_⟩; have n0_ := Aside0.mk (blk_below (g := gb101) (o := .cells #[.string a0_0, .int .i64 a0_1, .int .i64 a0_2, .int .i64 a0_3] 23 (0, 0)) (by (with_reducible repeat (first | refine blk_drewN ?_ _ | refine blk_drew ?_ | refine blk_alloc ?_ _)); exact BK101.out) hb); have n1_ := Aside0.mk (below_step (by repeat (first | (with_reducible first | exact HB.out | apply below_alloc | apply pw_below_drewN | apply below_drew1 | refine below_set ?_ GE101.out) | exact HB.out)) hb); clear BK101; clear HB; have BK101 := n0_; have HB := n1_; clear n0_ n1_; (try clear hb); (try clear hb2); (try clear hk); (try clear hi)))
        go_ret
        exact ⟨by first | rfl | (simp [errW_none, errW_some] <;> rfl) | (simp [*, errW_none, errW_some] <;> rfl), by repeat (first | (with_reducible first | exact HB.out | apply below_alloc | apply pw_below_drewN | apply below_drew1 | refine below_set ?_ GE101.out) | exact HB.out)⟩
      · replace c7 := Bool.eq_false_iff.mpr c7
        subst c7
        have H1 : ((series_Parse.f kj2 a1).bind fun bt103 => ((contangoref10_Parse.f kj2 a1).bind fun bt109 => ((series_Print.f kj2 a0_0 a0_1 a0_2 a0_3).bind fun t115 => ((contangoref10_Print.f kj2 a0_0 a0_1 a0_2 a0_3).bind fun t116 => (if t115.toList = t116.toList then (if (bt103.1.toList == bt109.1.toList && (bt103.2.1 == bt109.2.1 && (bt103.2.2.1 == bt109.2.2.1 && (bt103.2.2.2.1 == bt109.2.2.2.1)))) = true then (if bt103.2.2.2.2 = bt109.2.2.2.2 then ((contangolaw10_goes.f kj2).bind fun t117 => (some t117)) else (none)) else (none)) else (none)))))) = some r := by rw [if_neg (show ¬ (false = true) by decide)] at H; exact H
        clear H
        have H := H1
        clear H1
        replace H := Option.bind_eq_some_iff.mp H
        obtain ⟨⟨t103, t104, t105, t106, t107⟩, A100, H⟩ := H
        replace H : ((contangoref10_Parse.f kj2 a1).bind fun bt109 => ((series_Print.f kj2 a0_0 a0_1 a0_2 a0_3).bind fun t115 => ((contangoref10_Print.f kj2 a0_0 a0_1 a0_2 a0_3).bind fun t116 => (if t115.toList = t116.toList then (if (t103.toList == bt109.1.toList && (t104 == bt109.2.1 && (t105 == bt109.2.2.1 && (t106 == bt109.2.2.2.1)))) = true then (if t107 = bt109.2.2.2.2 then ((contangolaw10_goes.f kj2).bind fun t117 => (some t117)) else (none)) else (none)) else (none))))) = some r := H
        have A10 := Aside0.mk A100
        clear A100
        replace H := Option.bind_eq_some_iff.mp H
        obtain ⟨⟨t109, t110, t111, t112, t113⟩, A110, H⟩ := H
        replace H : ((series_Print.f kj2 a0_0 a0_1 a0_2 a0_3).bind fun t115 => ((contangoref10_Print.f kj2 a0_0 a0_1 a0_2 a0_3).bind fun t116 => (if t115.toList = t116.toList then (if (t103.toList == t109.toList && (t104 == t110 && (t105 == t111 && (t106 == t112)))) = true then (if t107 = t113 then ((contangolaw10_goes.f kj2).bind fun t117 => (some t117)) else (none)) else (none)) else (none)))) = some r := H
        have A11 := Aside0.mk A110
        clear A110
        replace H := Option.bind_eq_some_iff.mp H
        obtain ⟨t115, A120, H⟩ := H
        replace H : ((contangoref10_Print.f kj2 a0_0 a0_1 a0_2 a0_3).bind fun t116 => (if t115.toList = t116.toList then (if (t103.toList == t109.toList && (t104 == t110 && (t105 == t111 && (t106 == t112)))) = true then (if t107 = t113 then ((contangolaw10_goes.f kj2).bind fun t117 => (some t117)) else (none)) else (none)) else (none))) = some r := H
        have A12 := Aside0.mk A120
        clear A120
        replace H := Option.bind_eq_some_iff.mp H
        obtain ⟨t116, A130, H⟩ := H
        replace H : (if t115.toList = t116.toList then (if (t103.toList == t109.toList && (t104 == t110 && (t105 == t111 && (t106 == t112)))) = true then (if t107 = t113 then ((contangolaw10_goes.f kj2).bind fun t117 => (some t117)) else (none)) else (none)) else (none)) = some r := H
        have A13 := Aside0.mk A130
        clear A130
        by_cases c14 : t115.toList = t116.toList
        · rw [if_pos c14] at H
          have c14b0 : (t115.toList == t116.toList) = true := beq_iff_eq.mpr c14
          have c14b1 : (t115.toList != t116.toList) = false := bne_eq_false_iff_eq.mpr c14
          clear c14
          by_cases c15 : (t103.toList == t109.toList && (t104 == t110 && (t105 == t111 && (t106 == t112)))) = true
          · rw [if_pos c15] at H
            have c15b0 : (t103.toList == t109.toList && (t104 == t110 && (t105 == t111 && (t106 == t112)))) = true := c15
            (try (have c15b1 : decide (t103.toList = t109.toList && (t104 == t110 && (t105 == t111 && (t106 == t112)))) = true := by simpa using c15))
            (try (have c15b2 : (t103.toList == t109.toList && (t104 == t110 && (t105 == t111 && (t106 == t112)))) = true := by simpa using c15))
            clear c15
            by_cases c16 : t107 = t113
            · rw [if_pos c16] at H
              have c16b0 : (t107 == t113) = true := beq_iff_eq.mpr c16
              have c16b1 : (t107 != t113) = false := bne_eq_false_iff_eq.mpr c16
              clear c16
              replace H := Option.bind_eq_some_iff.mp H
              obtain ⟨t117, A170, H⟩ := H
              replace H : (some t117) = some r := H
              have A17 := Aside0.mk A170
              clear A170
              obtain rfl := Option.some.inj H
              try go_wp2_with (first | ((with_reducible refine gate_callee (f := 15) rfl ?_); refine goesL_ (some 21) rfl rfl Tryd.func15 (by kernel_rfl) rfl #[.string a1] rfl (by (try simp only [List.map_toArray, List.map_cons, List.map_nil]); first | done | rfl | (simp only [List.length_drop, List.length_take]; rfl)) ?_; (with_reducible refine (series_Parse.calls kj2 a1 t103 t104 t105 t106 t107 _ A10.out (glob_of HGL.out (by repeat (first | (with_reducible first | exact HB.out | apply below_alloc | apply pw_below_drewN | apply below_drew1 | refine below_set ?_ GE101.out | refine below_set ?_ GE108.out | refine below_set ?_ GE114.out) | exact HB.out)))).mono ?_); rintro e w18 ⟨rfl, hb⟩; refine ⟨_, rfl, ?_⟩; have n0_ := Aside0.mk (blk_below (g := gb101) (o := .cells #[.string a0_0, .int .i64 a0_1, .int .i64 a0_2, .int .i64 a0_3] 23 (0, 0)) (by (with_reducible repeat (first | refine blk_drewN ?_ _ | refine blk_drew ?_ | refine blk_alloc ?_ _)); exact BK101.out) hb); have n1_ := Aside0.mk (below_step (by repeat (first | (with_reducible first | exact HB.out | apply below_alloc | apply pw_below_drewN | apply below_drew1 | refine below_set ?_ GE101.out) | exact HB.out)) hb); clear BK101; clear HB; have BK101 := n0_; have HB := n1_; clear n0_ n1_; (try clear hb); (try clear hb2); (try clear hk); (try clear hi)) | ((with_reducible refine gate_dst (N := 5) rfl ?_); (try (refine gate_guard (by rfl) ?_; dsimp only)); refine box_event ?hg (N := 5) ?hd (cs := #[.string (⟨#[]⟩ : ByteArray), .int .i64 0, .int .i64 0, .int .i64 0]) (t := 23) ?hr ?_; (case hd => rfl); (case hg => rfl); (case hr => first | (go_simp; done) | (go_simp; rfl)); intro gb108 hg w19 hbox hb; have n0_ := Aside0.mk (blk_below (g := gb101) (o := .cells #[.string a0_0, .int .i64 a0_1, .int .i64 a0_2, .int .i64 a0_3] 23 (0, 0)) (by (with_reducible repeat (first | refine blk_drewN ?_ _ | refine blk_drew ?_ | refine blk_alloc ?_ _)); exact BK101.out) hb); have n1_ := Aside0.mk (below_step (by repeat (first | (with_reducible first | exact HB.out | apply below_alloc | apply pw_below_drewN | apply below_drew1 | refine below_set ?_ GE101.out) | exact HB.out)) hb); have n2_ := Aside0.mk (hbox); have n3_ := Aside0.mk ((by rw [hg]; exact (below_size (by repeat (first | (with_reducible first | exact HB.out | apply below_alloc | apply pw_below_drewN | apply below_drew1 | refine below_set ?_ GE101.out) | exact HB.out))) : w.heap.size ≤ gb108)); have n4_ := Aside0.mk ((by rw [hg]; exact (below_size (by repeat (first | (with_reducible first | exact HB.out | apply below_alloc | apply pw_below_drewN | apply below_drew1 | refine below_set ?_ GE101.out) | exact HB.out))) : w.heap.size ≤ gb108)); have n5_ := Aside0.mk ((by rw [hg]; exact Nat.ne_of_lt (blk_lt (g := gb101) (o := .cells #[.string a0_0, .int .i64 a0_1, .int .i64 a0_2, .int .i64 a0_3] 23 (0, 0)) (by (with_reducible repeat (first | refine blk_drewN ?_ _ | refine blk_drew ?_ | refine blk_alloc ?_ _)); exact BK101.out)) : gb101 ≠ gb108)); have n6_ := Aside0.mk ((by rw [hg]; exact Nat.ne_of_gt (blk_lt (g := gb101) (o := .cells #[.string a0_0, .int .i64 a0_1, .int .i64 a0_2, .int .i64 a0_3] 23 (0, 0)) (by (with_reducible repeat (first | refine blk_drewN ?_ _ | refine blk_drew ?_ | refine blk_alloc ?_ _)); exact BK101.out)) : gb108 ≠ gb101)); clear BK101; clear HB; have BK101 := n0_; have HB := n1_; have BK108 := n2_; have GW108 := n3_; have GE108 := n4_; have NB101_108 := n5_; have NB108_101 := n6_; clear n0_ n1_ n2_ n3_ n4_ n5_ n6_; clear hb hbox hg; have hnb20 := NB108_101.out; have hnc20 := NB101_108.out; have hcz21_0 : w19.cell? ⟨gb108, 0, none⟩ = some (.string (⟨#[]⟩ : ByteArray)) := (blk_cell BK108.out 0).trans rfl; have hcz21_1 : w19.cell? ⟨gb108, 1, none⟩ = some (.int .i64 0) := (blk_cell BK108.out 1).trans rfl; have hcz21_2 : w19.cell? ⟨gb108, 2, none⟩ = some (.int .i64 0) := (blk_cell BK108.out 2).trans rfl; have hcz21_3 : w19.cell? ⟨gb108, 3, none⟩ = some (.int .i64 0) := (blk_cell BK108.out 3).trans rfl; have hfz21_0 := blk_frozen BK108.out 0; have hfz21_1 := blk_frozen BK108.out 1; have hfz21_2 := blk_frozen BK108.out 2; have hfz21_3 := blk_frozen BK108.out 3) | ((with_reducible refine gate_callee (f := 16) rfl ?_); refine goesL_ (some 26) rfl rfl Tryd.func16 (by kernel_rfl) rfl #[.string a1] rfl (by (try simp only [List.map_toArray, List.map_cons, List.map_nil]); first | done | rfl | (simp only [List.length_drop, List.length_take]; rfl)) ?_; (with_reducible refine (contangoref10_Parse.calls kj2 a1 t109 t110 t111 t112 t113 _ A11.out).mono ?_); rintro e w22 ⟨rfl, hb⟩; refine ⟨_, rfl, ?_⟩; have n0_ := Aside0.mk (blk_below (g := gb101) (o := .cells #[.string a0_0, .int .i64 a0_1, .int .i64 a0_2, .int .i64 a0_3] 23 (0, 0)) (by (with_reducible repeat (first | refine blk_drewN ?_ _ | refine blk_drew ?_ | refine blk_alloc ?_ _)); refine blk_far ?_ NB101_108.out _; (with_reducible repeat (first | refine blk_drewN ?_ _ | refine blk_drew ?_ | refine blk_alloc ?_ _)); refine blk_far ?_ NB101_108.out _; (with_reducible repeat (first | refine blk_drewN ?_ _ | refine blk_drew ?_ | refine blk_alloc ?_ _)); refine blk_far ?_ NB101_108.out _; (with_reducible repeat (first | refine blk_drewN ?_ _ | refine blk_drew ?_ | refine blk_alloc ?_ _)); refine blk_far ?_ NB101_108.out _; (with_reducible repeat (first | refine blk_drewN ?_ _ | refine blk_drew ?_ | refine blk_alloc ?_ _)); exact BK101.out) hb); have n1_ := Aside0.mk (blk_below (g := gb108) (o := .cells #[.string t103, .int .i64 t104, .int .i64 t105, .int .i64 t106] 23 (0, 0)) (by (with_reducible repeat (first | refine blk_drewN ?_ _ | refine blk_drew ?_ | refine blk_alloc ?_ _)); refine blk_put (cs := #[.string t103, .int .i64 t104, .int .i64 t105, .int .i64 0]) ?_ 3 _ rfl; (with_reducible repeat (first | refine blk_drewN ?_ _ | refine blk_drew ?_ | refine blk_alloc ?_ _)); refine blk_put (cs := #[.string t103, .int .i64 t104, .int .i64 0, .int .i64 0]) ?_ 2 _ rfl; (with_reducible repeat (first | refine blk_drewN ?_ _ | refine blk_drew ?_ | refine blk_alloc ?_ _)); refine blk_put (cs := #[.string t103, .int .i64 0, .int .i64 0, .int .i64 0]) ?_ 1 _ rfl; (with_reducible repeat (first | refine blk_drewN ?_ _ | refine blk_drew ?_ | refine blk_alloc ?_ _)); refine blk_put (cs := #[.string (⟨#[]⟩ : ByteArray), .int .i64 0, .int .i64 0, .int .i64 0]) ?_ 0 _ rfl; (with_reducible repeat (first | refine blk_drewN ?_ _ | refine blk_drew ?_ | refine blk_alloc ?_ _)); exact BK108.out) hb); have n2_ := Aside0.mk (below_step (by repeat (first | (with_reducible first | exact HB.out | apply below_alloc | apply pw_below_drewN | apply below_drew1 | refine below_set ?_ GE101.out | refine below_set ?_ GE108.out) | exact HB.out)) hb); clear BK101; clear BK108; clear HB; have BK101 := n0_; have BK108 := n1_; have HB := n2_; clear n0_ n1_ n2_; (try clear hb); (try clear hb2); (try clear hk); (try clear hi)) | ((with_reducible refine gate_dst (N := 7) rfl ?_); (try (refine gate_guard (by rfl) ?_; dsimp only)); refine box_event ?hg (N := 7) ?hd (cs := #[.string (⟨#[]⟩ : ByteArray), .int .i64 0, .int .i64 0, .int .i64 0]) (t := 23) ?hr ?_; (case hd => rfl); (case hg => rfl); (case hr => first | (go_simp; done) | (go_simp; rfl)); intro gb114 hg w23 hbox hb; have n0_ := Aside0.mk (blk_below (g := gb101) (o := .cells #[.string a0_0, .int .i64 a0_1, .int .i64 a0_2, .int .i64 a0_3] 23 (0, 0)) (by (with_reducible repeat (first | refine blk_drewN ?_ _ | refine blk_drew ?_ | refine blk_alloc ?_ _)); exact BK101.out) hb); have n1_ := Aside0.mk (blk_below (g := gb108) (o := .cells #[.string t103, .int .i64 t104, .int .i64 t105, .int .i64 t106] 23 (0, 0)) (by (with_reducible repeat (first | refine blk_drewN ?_ _ | refine blk_drew ?_ | refine blk_alloc ?_ _)); exact BK108.out) hb); have n2_ := Aside0.mk (below_step (by repeat (first | (with_reducible first | exact HB.out | apply below_alloc | apply pw_below_drewN | apply below_drew1 | refine below_set ?_ GE101.out | refine below_set ?_ GE108.out) | exact HB.out)) hb); have n3_ := Aside0.mk (hbox); have n4_ := Aside0.mk ((by rw [hg]; exact (below_size (by repeat (first | (with_reducible first | exact HB.out | apply below_alloc | apply pw_below_drewN | apply below_drew1 | refine below_set ?_ GE101.out | refine below_set ?_ GE108.out) | exact HB.out))) : w.heap.size ≤ gb114)); have n5_ := Aside0.mk ((by rw [hg]; exact (below_size (by repeat (first | (with_reducible first | exact HB.out | apply below_alloc | apply pw_below_drewN | apply below_drew1 | refine below_set ?_ GE101.out | refine below_set ?_ GE108.out) | exact HB.out))) : w.heap.size ≤ gb114)); have n6_ := Aside0.mk ((by rw [hg]; exact Nat.ne_of_lt (blk_lt (g := gb101) (o := .cells #[.string a0_0, .int .i64 a0_1, .int .i64 a0_2, .int .i64 a0_3] 23 (0, 0)) (by (with_reducible repeat (first | refine blk_drewN ?_ _ | refine blk_drew ?_ | refine blk_alloc ?_ _)); exact BK101.out)) : gb101 ≠ gb114)); have n7_ := Aside0.mk ((by rw [hg]; exact Nat.ne_of_gt (blk_lt (g := gb101) (o := .cells #[.string a0_0, .int .i64 a0_1, .int .i64 a0_2, .int .i64 a0_3] 23 (0, 0)) (by (with_reducible repeat (first | refine blk_drewN ?_ _ | refine blk_drew ?_ | refine blk_alloc ?_ _)); exact BK101.out)) : gb114 ≠ gb101)); have n8_ := Aside0.mk ((by rw [hg]; exact Nat.ne_of_lt (blk_lt (g := gb108) (o := .cells #[.string t103, .int .i64 t104, .int .i64 t105, .int .i64 t106] 23 (0, 0)) (by (with_reducible repeat (first | refine blk_drewN ?_ _ | refine blk_drew ?_ | refine blk_alloc ?_ _)); exact BK108.out)) : gb108 ≠ gb114)); have n9_ := Aside0.mk ((by rw [hg]; exact Nat.ne_of_gt (blk_lt (g := gb108) (o := .cells #[.string t103, .int .i64 t104, .int .i64 t105, .int .i64 t106] 23 (0, 0)) (by (with_reducible repeat (first | refine blk_drewN ?_ _ | refine blk_drew ?_ | refine blk_alloc ?_ _)); exact BK108.out)) : gb114 ≠ gb108)); clear BK101; clear BK108; clear HB; have BK101 := n0_; have BK108 := n1_; have HB := n2_; have BK114 := n3_; have GW114 := n4_; have GE114 := n5_; have NB101_114 := n6_; have NB114_101 := n7_; have NB108_114 := n8_; have NB114_108 := n9_; clear n0_ n1_ n2_ n3_ n4_ n5_ n6_ n7_ n8_ n9_; clear hb hbox hg; have hnb24 := NB114_101.out; have hnc24 := NB101_114.out; have hnb25 := NB114_108.out; have hnc25 := NB108_114.out; have hcz26_0 : w23.cell? ⟨gb114, 0, none⟩ = some (.string (⟨#[]⟩ : ByteArray)) := (blk_cell BK114.out 0).trans rfl; have hcz26_1 : w23.cell? ⟨gb114, 1, none⟩ = some (.int .i64 0) := (blk_cell BK114.out 1).trans rfl; have hcz26_2 : w23.cell? ⟨gb114, 2, none⟩ = some (.int .i64 0) := (blk_cell BK114.out 2).trans rfl; have hcz26_3 : w23.cell? ⟨gb114, 3, none⟩ = some (.int .i64 0) := (blk_cell BK114.out 3).trans rfl; have hfz26_0 := blk_frozen BK114.out 0; have hfz26_1 := blk_frozen BK114.out 1; have hfz26_2 := blk_frozen BK114.out 2; have hfz26_3 := blk_frozen BK114.out 3))
              have n0_ : Aside0 (((((w23.setCell ⟨gb114, 0, none⟩ (.string t109)).setCell ⟨gb114, 1, none⟩ (.int .i64 t110)).setCell ⟨gb114, 2, none⟩ (.int .i64 t111)).setCell ⟨gb114, 3, none⟩ (.int .i64 t112)).heap[gb101]? = some (.cells #[.string a0_0, .int .i64 a0_1, .int .i64 a0_2, .int .i64 a0_3] 23 (0, 0))) := ⟨by (with_reducible repeat (first | refine blk_drewN ?_ _ | refine blk_drew ?_ | refine blk_alloc ?_ _)); refine blk_far ?_ NB101_114.out _; (with_reducible repeat (first | refine blk_drewN ?_ _ | refine blk_drew ?_ | refine blk_alloc ?_ _)); refine blk_far ?_ NB101_114.out _; (with_reducible repeat (first | refine blk_drewN ?_ _ | refine blk_drew ?_ | refine blk_alloc ?_ _)); refine blk_far ?_ NB101_114.out _; (with_reducible repeat (first | refine blk_drewN ?_ _ | refine blk_drew ?_ | refine blk_alloc ?_ _)); refine blk_far ?_ NB101_114.out _; (with_reducible repeat (first | refine blk_drewN ?_ _ | refine blk_drew ?_ | refine blk_alloc ?_ _)); exact BK101.out⟩
              have n1_ : Aside0 (((((w23.setCell ⟨gb114, 0, none⟩ (.string t109)).setCell ⟨gb114, 1, none⟩ (.int .i64 t110)).setCell ⟨gb114, 2, none⟩ (.int .i64 t111)).setCell ⟨gb114, 3, none⟩ (.int .i64 t112)).heap[gb108]? = some (.cells #[.string t103, .int .i64 t104, .int .i64 t105, .int .i64 t106] 23 (0, 0))) := ⟨by (with_reducible repeat (first | refine blk_drewN ?_ _ | refine blk_drew ?_ | refine blk_alloc ?_ _)); refine blk_far ?_ NB108_114.out _; (with_reducible repeat (first | refine blk_drewN ?_ _ | refine blk_drew ?_ | refine blk_alloc ?_ _)); refine blk_far ?_ NB108_114.out _; (with_reducible repeat (first | refine blk_drewN ?_ _ | refine blk_drew ?_ | refine blk_alloc ?_ _)); refine blk_far ?_ NB108_114.out _; (with_reducible repeat (first | refine blk_drewN ?_ _ | refine blk_drew ?_ | refine blk_alloc ?_ _)); refine blk_far ?_ NB108_114.out _; (with_reducible repeat (first | refine blk_drewN ?_ _ | refine blk_drew ?_ | refine blk_alloc ?_ _)); exact BK108.out⟩
              have n2_ : Aside0 (((((w23.setCell ⟨gb114, 0, none⟩ (.string t109)).setCell ⟨gb114, 1, none⟩ (.int .i64 t110)).setCell ⟨gb114, 2, none⟩ (.int .i64 t111)).setCell ⟨gb114, 3, none⟩ (.int .i64 t112)).heap[gb114]? = some (.cells #[.string t109, .int .i64 t110, .int .i64 t111, .int .i64 t112] 23 (0, 0))) := ⟨by (with_reducible repeat (first | refine blk_drewN ?_ _ | refine blk_drew ?_ | refine blk_alloc ?_ _)); refine blk_put (cs := #[.string t109, .int .i64 t110, .int .i64 t111, .int .i64 0]) ?_ 3 _ rfl; (with_reducible repeat (first | refine blk_drewN ?_ _ | refine blk_drew ?_ | refine blk_alloc ?_ _)); refine blk_put (cs := #[.string t109, .int .i64 t110, .int .i64 0, .int .i64 0]) ?_ 2 _ rfl; (with_reducible repeat (first | refine blk_drewN ?_ _ | refine blk_drew ?_ | refine blk_alloc ?_ _)); refine blk_put (cs := #[.string t109, .int .i64 0, .int .i64 0, .int .i64 0]) ?_ 1 _ rfl; (with_reducible repeat (first | refine blk_drewN ?_ _ | refine blk_drew ?_ | refine blk_alloc ?_ _)); refine blk_put (cs := #[.string (⟨#[]⟩ : ByteArray), .int .i64 0, .int .i64 0, .int .i64 0]) ?_ 0 _ rfl; (with_reducible repeat (first | refine blk_drewN ?_ _ | refine blk_drew ?_ | refine blk_alloc ?_ _)); exact BK114.out⟩
              have n3_ : Aside0 (Below w.heap.size w ((((w23.setCell ⟨gb114, 0, none⟩ (.string t109)).setCell ⟨gb114, 1, none⟩ (.int .i64 t110)).setCell ⟨gb114, 2, none⟩ (.int .i64 t111)).setCell ⟨gb114, 3, none⟩ (.int .i64 t112))) := ⟨by repeat (first | (with_reducible first | exact HB.out | apply below_alloc | apply pw_below_drewN | apply below_drew1 | refine below_set ?_ GE101.out | refine below_set ?_ GE108.out | refine below_set ?_ GE114.out) | exact HB.out)⟩
              (try clear BK101)
              (try clear BK108)
              (try clear BK114)
              (try clear HB)
              generalize ((((w23.setCell ⟨gb114, 0, none⟩ (.string t109)).setCell ⟨gb114, 1, none⟩ (.int .i64 t110)).setCell ⟨gb114, 2, none⟩ (.int .i64 t111)).setCell ⟨gb114, 3, none⟩ (.int .i64 t112)) = w27 at n0_ n1_ n2_ n3_ ⊢
              have BK101 := n0_
              have BK108 := n1_
              have BK114 := n2_
              have HB := n3_
              clear n0_ n1_ n2_ n3_
              have n0_ := Aside0.mk (blk_drew BK101.out)
              have n1_ := Aside0.mk (blk_drew BK108.out)
              have n2_ := Aside0.mk (blk_drew BK114.out)
              have n3_ := Aside0.mk (below_drew1 HB.out)
              clear BK101
              clear BK108
              clear BK114
              clear HB
              have BK101 := n0_
              have BK108 := n1_
              have BK114 := n2_
              have HB := n3_
              clear n0_ n1_ n2_ n3_
              refine start_ (n := 19) (S := fun w' => w'.cell? ⟨gb101, 0, none⟩ = some (.string a0_0) ∧ w'.cell? ⟨gb101, 1, none⟩ = some (.int .i64 a0_1) ∧ w'.cell? ⟨gb101, 2, none⟩ = some (.int .i64 a0_2) ∧ w'.cell? ⟨gb101, 3, none⟩ = some (.int .i64 a0_3) ∧ w'.cell? ⟨gb108, 0, none⟩ = some (.string t103) ∧ w'.cell? ⟨gb108, 1, none⟩ = some (.int .i64 t104) ∧ w'.cell? ⟨gb108, 2, none⟩ = some (.int .i64 t105) ∧ w'.cell? ⟨gb108, 3, none⟩ = some (.int .i64 t106) ∧ w'.cell? ⟨gb114, 0, none⟩ = some (.string t109) ∧ w'.cell? ⟨gb114, 1, none⟩ = some (.int .i64 t110) ∧ w'.cell? ⟨gb114, 2, none⟩ = some (.int .i64 t111) ∧ w'.cell? ⟨gb114, 3, none⟩ = some (.int .i64 t112)) (ds := []) #[false, false, false, false, false, false, false, false, false, false, false, false, false, false, false, false, false, false, false] (by kernel_rfl) rfl rfl ⟨(blk_cell BK101.out 0).trans rfl, (blk_cell BK101.out 1).trans rfl, (blk_cell BK101.out 2).trans rfl, (blk_cell BK101.out 3).trans rfl, (blk_cell BK108.out 0).trans rfl, (blk_cell BK108.out 1).trans rfl, (blk_cell BK108.out 2).trans rfl, (blk_cell BK108.out 3).trans rfl, (blk_cell BK114.out 0).trans rfl, (blk_cell BK114.out 1).trans rfl, (blk_cell BK114.out 2).trans rfl, (blk_cell BK114.out 3).trans rfl⟩ (fun hHeld => ?_); refine with_tabW contangolaw10_SeriesTexts.tab5 contangolaw10_SeriesTexts.bits5 (fun HT_ HW_ => ?_)
              generalize w27.drew = w28 at BK101 BK108 BK114 HB hHeld ⊢
              refine take_ (i := 0) (N := some 29) (v := ?_) (a' := ?_) #[true, false, false, false, false, false, false, false, false, false, false, false, false, false, false, false, false, false, false] rfl rfl (take_ofW HT_.out HW_.out (by kernel_rfl)) (fun _ _ _ h => h) (Or.inl ⟨by rfl, ?_⟩) hHeld ?_ ?_
              rotate_left
              · rintro w' ⟨s0, s1, s2, s3, s4, s5, s6, s7, s8, s9, s10, s11⟩
                go_simp
                with_reducible rfl
              rotate_left
              · simp only [Act.put, List.setIfInBounds_toArray, List.set_cons_zero, List.set_cons_succ, i64_w, i32_w]
                rfl
              refine take_ (i := 2) (N := some 31) (v := ?_) (a' := ?_) #[true, false, true, false, false, false, false, false, false, false, false, false, false, false, false, false, false, false, false] rfl rfl (take_ofW HT_.out HW_.out (by kernel_rfl)) (fun _ _ _ h => h) (Or.inl ⟨by rfl, ?_⟩) hHeld ?_ ?_
              rotate_left
              · rintro w' ⟨s0, s1, s2, s3, s4, s5, s6, s7, s8, s9, s10, s11⟩
                go_simp
                with_reducible rfl
              rotate_left
              · simp only [Act.put, List.setIfInBounds_toArray, List.set_cons_zero, List.set_cons_succ, i64_w, i32_w]
                rfl
              refine one_ (i := 1) (N := some 30) #[true, true, true, false, false, false, false, false, false, false, false, false, false, false, false, false, false, false, false] rfl rfl (one_of HT_.out (by kernel_rfl)) (by decide) (fun K hK => ?_)
              refine goes_ Tryd.func17 (by kernel_rfl) rfl #[.agg #[.string a0_0, .int .i64 a0_1, .int .i64 a0_2, .int .i64 a0_3]] (by rfl) rfl rfl (by (try simp only [List.map_toArray, List.map_cons, List.map_nil]); first | done | rfl | (simp only [List.length_drop, List.length_take]; rfl)) ?_
              with_reducible refine (series_Print.calls kj2 a0_0 a0_1 a0_2 a0_3 t115 _ A12.out (glob_of HGL.out (by repeat (first | (with_reducible first | exact HB.out | apply below_alloc | apply pw_below_drewN | apply below_drew1 | refine below_set ?_ GE101.out | refine below_set ?_ GE108.out | refine below_set ?_ GE114.out) | exact HB.out)))).mono ?_
              rintro e w29 ⟨rfl, hb⟩
              refine ⟨_, rfl, ?_⟩
              have n0_ := Aside0.mk (blk_below (g := gb101) (o := .cells #[.string a0_0, .int .i64 a0_1, .int .i64 a0_2, .int .i64 a0_3] 23 (0, 0)) (by (with_reducible repeat (first | refine blk_drewN ?_ _ | refine blk_drew ?_ | refine blk_alloc ?_ _)); exact BK101.out) hb)
              have n1_ := Aside0.mk (blk_below (g := gb108) (o := .cells #[.string t103, .int .i64 t104, .int .i64 t105, .int .i64 t106] 23 (0, 0)) (by (with_reducible repeat (first | refine blk_drewN ?_ _ | refine blk_drew ?_ | refine blk_alloc ?_ _)); exact BK108.out) hb)
              have n2_ := Aside0.mk (blk_below (g := gb114) (o := .cells #[.string t109, .int .i64 t110, .int .i64 t111, .int .i64 t112] 23 (0, 0)) (by (with_reducible repeat (first | refine blk_drewN ?_ _ | refine blk_drew ?_ | refine blk_alloc ?_ _)); exact BK114.out) hb)
              have n3_ := Aside0.mk (below_step (by repeat (first | (with_reducible first | exact HB.out | apply below_alloc | apply pw_below_drewN | apply below_drew1 | refine below_set ?_ GE101.out | refine below_set ?_ GE108.out | refine below_set ?_ GE114.out) | exact HB.out)) hb)
              clear BK101
              clear BK108
              clear BK114
              clear HB
              have BK101 := n0_
              have BK108 := n1_
              have BK114 := n2_
              have HB := n3_
              clear n0_ n1_ n2_ n3_
              (try clear hb)
              (try clear hb2)
              (try clear hk)
              (try clear hi)
              refine hK.out _ _ ⟨(blk_cell BK101.out 0).trans rfl, (blk_cell BK101.out 1).trans rfl, (blk_cell BK101.out 2).trans rfl, (blk_cell BK101.out 3).trans rfl, (blk_cell BK108.out 0).trans rfl, (blk_cell BK108.out 1).trans rfl, (blk_cell BK108.out 2).trans rfl, (blk_cell BK108.out 3).trans rfl, (blk_cell BK114.out 0).trans rfl, (blk_cell BK114.out 1).trans rfl, (blk_cell BK114.out 2).trans rfl, (blk_cell BK114.out 3).trans rfl⟩ (fun hHeld => ?_)
              clear hK K
              refine norm_ (a' := ?_) ?_ ?_
              rotate_left
              · show Act.put _ (some 30) _ = _
                simp only [Act.put, List.setIfInBounds_toArray, List.set_cons_zero, List.set_cons_succ, i64_w, i32_w]
                rfl
              refine one_ (i := 3) (N := some 32) #[true, true, true, true, false, false, false, false, false, false, false, false, false, false, false, false, false, false, false] rfl rfl (one_of HT_.out (by kernel_rfl)) (by decide) (fun K hK => ?_)
              refine goes_ Tryd.func18 (by kernel_rfl) rfl #[.agg #[.string a0_0, .int .i64 a0_1, .int .i64 a0_2, .int .i64 a0_3]] (by rfl) rfl rfl (by (try simp only [List.map_toArray, List.map_cons, List.map_nil]); first | done | rfl | (simp only [List.length_drop, List.length_take]; rfl)) ?_
              with_reducible refine (contangoref10_Print.calls kj2 a0_0 a0_1 a0_2 a0_3 t116 _ A13.out).mono ?_
              rintro e w30 ⟨rfl, hb⟩
              refine ⟨_, rfl, ?_⟩
              have n0_ := Aside0.mk (blk_below (g := gb101) (o := .cells #[.string a0_0, .int .i64 a0_1, .int .i64 a0_2, .int .i64 a0_3] 23 (0, 0)) (by (with_reducible repeat (first | refine blk_drewN ?_ _ | refine blk_drew ?_ | refine blk_alloc ?_ _)); exact BK101.out) hb)
              have n1_ := Aside0.mk (blk_below (g := gb108) (o := .cells #[.string t103, .int .i64 t104, .int .i64 t105, .int .i64 t106] 23 (0, 0)) (by (with_reducible repeat (first | refine blk_drewN ?_ _ | refine blk_drew ?_ | refine blk_alloc ?_ _)); exact BK108.out) hb)
              have n2_ := Aside0.mk (blk_below (g := gb114) (o := .cells #[.string t109, .int .i64 t110, .int .i64 t111, .int .i64 t112] 23 (0, 0)) (by (with_reducible repeat (first | refine blk_drewN ?_ _ | refine blk_drew ?_ | refine blk_alloc ?_ _)); exact BK114.out) hb)
              have n3_ := Aside0.mk (below_step (by repeat (first | (with_reducible first | exact HB.out | apply below_alloc | apply pw_below_drewN | apply below_drew1 | refine below_set ?_ GE101.out | refine below_set ?_ GE108.out | refine below_set ?_ GE114.out) | exact HB.out)) hb)
              clear BK101
              clear BK108
              clear BK114
              clear HB
              have BK101 := n0_
              have BK108 := n1_
              have BK114 := n2_
              have HB := n3_
              clear n0_ n1_ n2_ n3_
              (try clear hb)
              (try clear hb2)
              (try clear hk)
              (try clear hi)
              refine hK.out _ _ ⟨(blk_cell BK101.out 0).trans rfl, (blk_cell BK101.out 1).trans rfl, (blk_cell BK101.out 2).trans rfl, (blk_cell BK101.out 3).trans rfl, (blk_cell BK108.out 0).trans rfl, (blk_cell BK108.out 1).trans rfl, (blk_cell BK108.out 2).trans rfl, (blk_cell BK108.out 3).trans rfl, (blk_cell BK114.out 0).trans rfl, (blk_cell BK114.out 1).trans rfl, (blk_cell BK114.out 2).trans rfl, (blk_cell BK114.out 3).trans rfl⟩ (fun hHeld => ?_)
              clear hK K
              refine norm_ (a' := ?_) ?_ ?_
              rotate_left
              · show Act.put _ (some 32) _ = _
                simp only [Act.put, List.setIfInBounds_toArray, List.set_cons_zero, List.set_cons_succ, i64_w, i32_w]
                rfl
              refine pure_ (i := 4) (N := some 33) (v := ?_) (a' := ?_) #[true, true, true, true, true, false, false, false, false, false, false, false, false, false, false, false, false, false, false] rfl rfl (any_of HT_.out (by kernel_rfl)) (fun _ _ _ h => h) (Or.inl ⟨by rfl, ?_⟩) ?_ ?_
              rotate_left
              · intro w'
                go_simp
                with_reducible rfl
              rotate_left
              · simp only [Act.put, List.setIfInBounds_toArray, List.set_cons_zero, List.set_cons_succ, i64_w, i32_w]
                rfl
              refine pure_ (i := 5) (N := some 34) (v := ?_) (a' := ?_) #[true, true, true, true, true, true, false, false, false, false, false, false, false, false, false, false, false, false, false] rfl rfl (any_of HT_.out (by kernel_rfl)) (fun _ _ _ h => h) (Or.inl ⟨by rfl, ?_⟩) ?_ ?_
              rotate_left
              · intro w'
                go_simp
                with_reducible rfl
              rotate_left
              · simp only [Act.put, List.setIfInBounds_toArray, List.set_cons_zero, List.set_cons_succ, i64_w, i32_w]
                rfl
              refine take_ (i := 6) (N := some 35) (v := ?_) (a' := ?_) #[true, true, true, true, true, true, true, false, false, false, false, false, false, false, false, false, false, false, false] rfl rfl (take_ofW HT_.out HW_.out (by kernel_rfl)) (fun _ _ _ h => h) (Or.inl ⟨by rfl, ?_⟩) hHeld ?_ ?_
              rotate_left
              · rintro w' ⟨s0, s1, s2, s3, s4, s5, s6, s7, s8, s9, s10, s11⟩
                go_simp
                with_reducible rfl
              rotate_left
              · simp only [Act.put, List.setIfInBounds_toArray, List.set_cons_zero, List.set_cons_succ, i64_w, i32_w]
                rfl
              refine take_ (i := 7) (N := some 36) (v := ?_) (a' := ?_) #[true, true, true, true, true, true, true, true, false, false, false, false, false, false, false, false, false, false, false] rfl rfl (take_ofW HT_.out HW_.out (by kernel_rfl)) (fun _ _ _ h => h) (Or.inl ⟨by rfl, ?_⟩) hHeld ?_ ?_
              rotate_left
              · rintro w' ⟨s0, s1, s2, s3, s4, s5, s6, s7, s8, s9, s10, s11⟩
                go_simp
                with_reducible rfl
              rotate_left
              · simp only [Act.put, List.setIfInBounds_toArray, List.set_cons_zero, List.set_cons_succ, i64_w, i32_w]
                rfl
              refine pure_ (i := 8) (N := some 37) (v := ?_) (a' := ?_) #[true, true, true, true, true, true, true, true, true, false, false, false, false, false, false, false, false, false, false] rfl rfl (any_of HT_.out (by kernel_rfl)) (fun _ _ _ h => h) (Or.inl ⟨by rfl, ?_⟩) ?_ ?_
              rotate_left
              · intro w'
                go_simp
                with_reducible rfl
              rotate_left
              · simp only [Act.put, List.setIfInBounds_toArray, List.set_cons_zero, List.set_cons_succ, i64_w, i32_w]
                rfl
              refine pure_ (i := 9) (N := some 38) (v := ?_) (a' := ?_) #[true, true, true, true, true, true, true, true, true, true, false, false, false, false, false, false, false, false, false] rfl rfl (any_of HT_.out (by kernel_rfl)) (fun _ _ _ h => h) (Or.inl ⟨by rfl, ?_⟩) ?_ ?_
              rotate_left
              · intro w'
                go_simp
                with_reducible rfl
              rotate_left
              · simp only [Act.put, List.setIfInBounds_toArray, List.set_cons_zero, List.set_cons_succ, i64_w, i32_w]
                rfl
              refine pure_ (i := 10) (N := some 39) (v := ?_) (a' := ?_) #[true, true, true, true, true, true, true, true, true, true, true, false, false, false, false, false, false, false, false] rfl rfl (any_of HT_.out (by kernel_rfl)) (fun _ _ _ h => h) (Or.inl ⟨by rfl, ?_⟩) ?_ ?_
              rotate_left
              · intro w'
                go_simp
                with_reducible rfl
              rotate_left
              · simp only [Act.put, List.setIfInBounds_toArray, List.set_cons_zero, List.set_cons_succ, i64_w, i32_w]
                rfl
              refine pure_ (i := 11) (N := some 40) (v := ?_) (a' := ?_) #[true, true, true, true, true, true, true, true, true, true, true, true, false, false, false, false, false, false, false] rfl rfl (any_of HT_.out (by kernel_rfl)) (fun _ _ _ h => h) (Or.inl ⟨by rfl, ?_⟩) ?_ ?_
              rotate_left
              · intro w'
                go_simp
                with_reducible rfl
              rotate_left
              · simp only [Act.put, List.setIfInBounds_toArray, List.set_cons_zero, List.set_cons_succ, i64_w, i32_w]
                rfl
              refine pure_ (i := 12) (N := some 41) (v := ?_) (a' := ?_) #[true, true, true, true, true, true, true, true, true, true, true, true, true, false, false, false, false, false, false] rfl rfl (any_of HT_.out (by kernel_rfl)) (fun _ _ _ h => h) (Or.inl ⟨by rfl, ?_⟩) ?_ ?_
              rotate_left
              · intro w'
                go_simp
                with_reducible rfl
              rotate_left
              · simp only [Act.put, List.setIfInBounds_toArray, List.set_cons_zero, List.set_cons_succ, i64_w, i32_w]
                rfl
              refine pure_ (i := 13) (N := some 42) (v := ?_) (a' := ?_) #[true, true, true, true, true, true, true, true, true, true, true, true, true, true, false, false, false, false, false] rfl rfl (any_of HT_.out (by kernel_rfl)) (fun _ _ _ h => h) (Or.inl ⟨by rfl, ?_⟩) ?_ ?_
              rotate_left
              · intro w'
                go_simp
                with_reducible rfl
              rotate_left
              · simp only [Act.put, List.setIfInBounds_toArray, List.set_cons_zero, List.set_cons_succ, i64_w, i32_w]
                rfl
              refine pure_ (i := 14) (N := some 43) (v := ?_) (a' := ?_) #[true, true, true, true, true, true, true, true, true, true, true, true, true, true, true, false, false, false, false] rfl rfl (any_of HT_.out (by kernel_rfl)) (fun _ _ _ h => h) (Or.inl ⟨by rfl, ?_⟩) ?_ ?_
              rotate_left
              · intro w'
                go_simp
                with_reducible rfl
              rotate_left
              · simp only [Act.put, List.setIfInBounds_toArray, List.set_cons_zero, List.set_cons_succ, i64_w, i32_w]
                rfl
              refine pure_ (i := 15) (N := some 44) (v := ?_) (a' := ?_) #[true, true, true, true, true, true, true, true, true, true, true, true, true, true, true, true, false, false, false] rfl rfl (any_of HT_.out (by kernel_rfl)) (fun _ _ _ h => h) (Or.inl ⟨by rfl, ?_⟩) ?_ ?_
              rotate_left
              · intro w'
                go_simp
                with_reducible rfl
              rotate_left
              · simp only [Act.put, List.setIfInBounds_toArray, List.set_cons_zero, List.set_cons_succ, i64_w, i32_w]
                rfl
              refine one_ (i := 16) (N := some 45) #[true, true, true, true, true, true, true, true, true, true, true, true, true, true, true, true, true, false, false] rfl rfl (one_of HT_.out (by kernel_rfl)) (by decide) (fun K hK => ?_)
              refine goes_ Tryd.func14 (by kernel_rfl) rfl #[] (by rfl) rfl rfl (by (try simp only [List.map_toArray, List.map_cons, List.map_nil]); first | done | rfl | (simp only [List.length_drop, List.length_take]; rfl)) ?_
              with_reducible refine (contangolaw10_goes.calls kj2  t117 _ A17.out (glob_of HGL.out (by repeat (first | (with_reducible first | exact HB.out | apply below_alloc | apply pw_below_drewN | apply below_drew1 | refine below_set ?_ GE101.out | refine below_set ?_ GE108.out | refine below_set ?_ GE114.out) | exact HB.out)))).mono ?_
              rintro e w31 ⟨rfl, hb⟩
              refine ⟨_, rfl, ?_⟩
              have n0_ := Aside0.mk (blk_below (g := gb101) (o := .cells #[.string a0_0, .int .i64 a0_1, .int .i64 a0_2, .int .i64 a0_3] 23 (0, 0)) (by (with_reducible repeat (first | refine blk_drewN ?_ _ | refine blk_drew ?_ | refine blk_alloc ?_ _)); exact BK101.out) hb)
              have n1_ := Aside0.mk (blk_below (g := gb108) (o := .cells #[.string t103, .int .i64 t104, .int .i64 t105, .int .i64 t106] 23 (0, 0)) (by (with_reducible repeat (first | refine blk_drewN ?_ _ | refine blk_drew ?_ | refine blk_alloc ?_ _)); exact BK108.out) hb)
              have n2_ := Aside0.mk (blk_below (g := gb114) (o := .cells #[.string t109, .int .i64 t110, .int .i64 t111, .int .i64 t112] 23 (0, 0)) (by (with_reducible repeat (first | refine blk_drewN ?_ _ | refine blk_drew ?_ | refine blk_alloc ?_ _)); exact BK114.out) hb)
              have n3_ := Aside0.mk (below_step (by repeat (first | (with_reducible first | exact HB.out | apply below_alloc | apply pw_below_drewN | apply below_drew1 | refine below_set ?_ GE101.out | refine below_set ?_ GE108.out | refine below_set ?_ GE114.out) | exact HB.out)) hb)
              clear BK101
              clear BK108
              clear BK114
              clear HB
              have BK101 := n0_
              have BK108 := n1_
              have BK114 := n2_
              have HB := n3_
              clear n0_ n1_ n2_ n3_
              (try clear hb)
              (try clear hb2)
              (try clear hk)
              (try clear hi)
              refine hK.out _ _ ⟨(blk_cell BK101.out 0).trans rfl, (blk_cell BK101.out 1).trans rfl, (blk_cell BK101.out 2).trans rfl, (blk_cell BK101.out 3).trans rfl, (blk_cell BK108.out 0).trans rfl, (blk_cell BK108.out 1).trans rfl, (blk_cell BK108.out 2).trans rfl, (blk_cell BK108.out 3).trans rfl, (blk_cell BK114.out 0).trans rfl, (blk_cell BK114.out 1).trans rfl, (blk_cell BK114.out 2).trans rfl, (blk_cell BK114.out 3).trans rfl⟩ (fun hHeld => ?_)
              clear hK K
              refine norm_ (a' := ?_) ?_ ?_
              rotate_left
              · show Act.put _ (some 45) _ = _
                simp only [Act.put, List.setIfInBounds_toArray, List.set_cons_zero, List.set_cons_succ, i64_w, i32_w]
                rfl
              refine pure_ (i := 17) (N := some 46) (v := ?_) (a' := ?_) #[true, true, true, true, true, true, true, true, true, true, true, true, true, true, true, true, true, true, false] rfl rfl (any_of HT_.out (by kernel_rfl)) (fun _ _ _ h => h) (Or.inl ⟨by rfl, ?_⟩) ?_ ?_
              rotate_left
              · intro w'
                go_simp
                with_reducible rfl
              rotate_left
              · simp only [Act.put, List.setIfInBounds_toArray, List.set_cons_zero, List.set_cons_succ, i64_w, i32_w]
                rfl
              refine pure_ (i := 18) (N := some 4) (v := ?_) (a' := ?_) #[true, true, true, true, true, true, true, true, true, true, true, true, true, true, true, true, true, true, true] rfl rfl (any_of HT_.out (by kernel_rfl)) (fun _ _ _ h => h) (Or.inl ⟨by rfl, ?_⟩) ?_ ?_
              rotate_left
              · intro w'
                go_simp
                with_reducible rfl
              rotate_left
              · simp only [Act.put, List.setIfInBounds_toArray, List.set_cons_zero, List.set_cons_succ, i64_w, i32_w]
                rfl
              refine done_ (done_of HT_.out (by kernel_rfl)) ?_
              try go_wp2
              go_ret
              exact ⟨by first | rfl | (simp [errW_none, errW_some] <;> rfl) | (simp [*, errW_none, errW_some] <;> rfl), by repeat (first | (with_reducible first | exact HB.out | apply below_alloc | apply pw_below_drewN | apply below_drew1 | refine below_set ?_ GE101.out | refine below_set ?_ GE108.out | refine below_set ?_ GE114.out) | exact HB.out)⟩
            · rw [if_neg c16] at H
              have c16b0 : (t107 == t113) = false := beq_eq_false_iff_ne.mpr c16
              have c16b1 : (t107 != t113) = true := bne_iff_ne.mpr c16
              exact absurd H (by simp)
          · rw [if_neg c15] at H
            have c15b0 : (t103.toList == t109.toList && (t104 == t110 && (t105 == t111 && (t106 == t112)))) = false := by simpa using c15
            (try (have c15b1 : decide (t103.toList = t109.toList && (t104 == t110 && (t105 == t111 && (t106 == t112)))) = false := by simpa using c15))
            (try (have c15b2 : (t103.toList == t109.toList && (t104 == t110 && (t105 == t111 && (t106 == t112)))) = false := by simpa using c15))
            (try (have c15b3 : ¬ (t103.toList = t109.toList && (t104 == t110 && (t105 == t111 && (t106 == t112)))) := by simpa using c15))
            clear c15
            exact absurd H (by simp)
        · rw [if_neg c14] at H
          have c14b0 : (t115.toList == t116.toList) = false := beq_eq_false_iff_ne.mpr c14
          have c14b1 : (t115.toList != t116.toList) = true := bne_iff_ne.mpr c14
          exact absurd H (by simp)
end Go.Proofs.YtieifncibojciaaDoor.X
end
section
namespace Go.Proofs.YtieifncibojciaaDoor.Opn
open Go.ChangeShapes Go.WideShapes Go.Proofs.YtieifncibojciaaDoorW.PrintWords
set_option linter.unusedVariables false
set_option linter.unusedSimpArgs false
structure Opens (P : Program) (t : TypeId) {α : Type} (d : Kd α) (Ok : α → Prop) : Prop where
  sz : d.sz = P.cellsOf t
  opens : ∀ {H : Type} {enc : TypeId × Value → H} {w : World} {base : Nat} {spare : Nat → Bool} {held : Bool} {fuel : Nat} {cs : List Value} {x : DataW H × List MemPlace},
    DataW.trod enc P w base spare held fuel t cs = some x → (∀ n ∈ x.1.weights P t, n ≤ reachBytes) → ∃ v, d.K w v cs ∧ Ok v
theorem opens_int {P : Program} {t : TypeId} {k : IntKind} (ht : P.underlying t = some (.int k)) (hc : P.cellsOf t = 1) : Opens P t (Kd.int k) (fun n => (Lit.int k n).wf = true) := by
  refine ⟨hc.symm, fun h _ => ?_⟩
  obtain ⟨n, rfl, _, hw⟩ := DataW.trod_int ht h
  exact ⟨n, rfl, hw⟩
theorem opens_string {P : Program} {t : TypeId} (ht : P.underlying t = some .string) (hc : P.cellsOf t = 1) : Opens P t Kd.string (fun s => s.size ≤ 140737488351232) := by
  refine ⟨hc.symm, fun h hw => ?_⟩
  obtain ⟨s, rfl, rfl, hs⟩ := DataW.trod_string ht h
  refine ⟨s, rfl, ?_⟩
  have := hw s.data.toList.length (by simp [DataW.weights])
  rw [Array.length_toList] at this
  exact this
structure OpensF (P : Program) (fs : List Field) (off : Nat) {α : Type} (d : Kd α) (Ok : α → Prop) : Prop where
  opens : ∀ {H : Type} {enc : TypeId × Value → H} {w : World} {base : Nat} {spare : Nat → Bool} {held : Bool} {n : Nat} {cs : List Value} {xs : List (DataW H × List MemPlace)},
    xs.length = fs.length → (∀ (i : Nat) (f : Field), fs[i]? = some f → DataW.trod enc P w base spare held n f.type ((cs.drop f.offset).take (P.cellsOf f.type)) = xs[i]?) →
    (∀ m ∈ DataW.weightsEach P (fs.map (·.type)) (xs.map (·.1)), m ≤ reachBytes) → ∃ v, d.K w v ((cs.drop off).take d.sz) ∧ Ok v
theorem opensF_one {P : Program} {f : Field} {off : Nat} {α : Type} {d : Kd α} {Ok : α → Prop} (h : Opens P f.type d Ok) (ho : f.offset = off) : OpensF P [f] off d Ok := by
  refine ⟨fun {H enc w base spare held n cs xs} hl hx hw => ?_⟩
  match xs, hl with
  | [x], _ =>
    have h1 := hx 0 f rfl
    obtain ⟨v, hv, hok⟩ := h.opens h1 (fun n hn => hw n (by simpa [DataW.weightsEach] using hn))
    refine ⟨v, ?_, hok⟩
    rw [h.sz, ← ho]
    exact hv
theorem opensF_cons {P : Program} {f : Field} {fs : List Field} {off : Nat} {α β : Type} {d : Kd α} {d' : Kd β} {Ok : α → Prop} {Ok' : β → Prop} (h : Opens P f.type d Ok) (ho : f.offset = off) (h' : OpensF P fs (off + d.sz) d' Ok') :
    OpensF P (f :: fs) off (Kd.pair d d') (fun p => Ok p.1 ∧ Ok' p.2) := by
  refine ⟨fun {H enc w base spare held n cs xs} hl hx hw => ?_⟩
  match xs, hl with
  | x :: xs, hl =>
    have h1 := hx 0 f rfl
    obtain ⟨v, hv, hok⟩ := h.opens h1 (fun n hn => hw n (by
      simp only [List.map_cons, DataW.weightsEach, List.mem_append]; exact Or.inl hn))
    obtain ⟨v', hv', hok'⟩ := h'.opens (cs := cs) (xs := xs) (by simpa using hl) (fun i g hg => by
      have := hx (i + 1) g (by simpa using hg)
      simpa using this) (fun m hm => hw m (by simp only [List.map_cons, DataW.weightsEach, List.mem_append]; exact Or.inr hm))
    refine ⟨(v, v'), ⟨(cs.drop off).take d.sz, (cs.drop (off + d.sz)).take d'.sz, ?_, ?_, hv'⟩, hok, hok'⟩
    · show (cs.drop off).take (d.sz + d'.sz) = _
      rw [List.take_add, List.drop_drop]
    · rw [h.sz, ← ho]; exact hv
theorem opens_struct {P : Program} {t : TypeId} {fs : Array Field} {α β : Type} {d : Kd α} {Ok : α → Prop} (h : OpensF P fs.toList 0 d Ok) (ht : P.underlying t = some (.struct fs)) (hc : d.sz = P.cellsOf t) (f : β → α) (mk : α → β) (hf : ∀ a, f (mk a) = a) :
    Opens P t (Kd.iso d f) (fun b => Ok (f b)) := by
  refine ⟨hc, fun {H enc w base spare held fuel cs x} hx hw => ?_⟩
  obtain ⟨xs, n, _, rfl, hlen, hsz, hall⟩ := DataW.trod_struct ht hx
  simp only [DataW.weights, ht] at hw
  obtain ⟨v, hv, hok⟩ := h.opens (cs := cs) (xs := xs) (by simpa using hsz) (fun i f hf => hall i f (by simpa using hf)) hw
  refine ⟨mk v, ?_, by rw [hf]; exact hok⟩
  show d.K w (f (mk v)) cs
  rw [hf]
  rw [List.drop_zero, hc, ← hlen, List.take_length] at hv
  exact hv
theorem opens_imp {P : Program} {t : TypeId} {α : Type} {d : Kd α} {Ok Ok' : α → Prop} (h : Opens P t d Ok) (hi : ∀ v, Ok v → Ok' v) : Opens P t d Ok' :=
  ⟨h.sz, fun hx hw => let ⟨v, hv, ho⟩ := h.opens hx hw; ⟨v, hv, hi v ho⟩⟩
end Go.Proofs.YtieifncibojciaaDoor.Opn
end
section
namespace Go.Proofs.YtieifncibojciaaDoor.X
open Go.RowKit Go.Proofs.YtieifncibojciaaDoorW.PrintWords Go.Proofs.YtieifncibojciaaDoorW.PrintLast Go.Proofs.YtieifncibojciaaDoorW.PrintMore
attribute [local go_sem] max2_int min2_int max_two min_two max_three min_three max_four min_four
set_option linter.unusedVariables false
set_option linter.unusedSimpArgs false
def ok23 (v : S23) : Prop := v.f0.size ≤ 140737488351232 ∧ ((Lit.int .i64 v.f1).wf = true ∧ ((Lit.int .i64 v.f2).wf = true ∧ ((Lit.int .i64 v.f3).wf = true)))
theorem opens23 : Opn.Opens Tryd.prog 23 k23 ok23 := by
  have hu := Tryd.underlying23
  refine Opn.opens_imp (Opn.opens_struct (Ok := fun (p : ByteArray × (Int × (Int × (Int)))) => p.1.size ≤ 140737488351232 ∧ ((Lit.int .i64 p.2.1).wf = true ∧ ((Lit.int .i64 p.2.2.1).wf = true ∧ ((Lit.int .i64 p.2.2.2).wf = true)))) ?hF hu (by kernel_rfl) (fun x : S23 => (x.f0, x.f1, x.f2, x.f3)) (fun a => ⟨a.1, a.2.1, a.2.2.1, a.2.2.2⟩) (fun _ => rfl)) ?hI
  case hF =>
    refine Opn.opensF_cons (Ok := fun (p : ByteArray) => p.size ≤ 140737488351232) (Ok' := fun (p : Int × (Int × (Int))) => (Lit.int .i64 p.1).wf = true ∧ ((Lit.int .i64 p.2.1).wf = true ∧ ((Lit.int .i64 p.2.2).wf = true))) (h := ?_) (ho := ?_) (h' := ?_)
    · exact Opn.opens_string Tryd.underlying9 (by kernel_rfl)
    · rfl
    · skip
      refine Opn.opensF_cons (Ok := fun (p : Int) => (Lit.int .i64 p).wf = true) (Ok' := fun (p : Int × (Int)) => (Lit.int .i64 p.1).wf = true ∧ ((Lit.int .i64 p.2).wf = true)) (h := ?_) (ho := ?_) (h' := ?_)
      · exact Opn.opens_int Tryd.underlying3 (by kernel_rfl)
      · rfl
      · skip
        refine Opn.opensF_cons (Ok := fun (p : Int) => (Lit.int .i64 p).wf = true) (Ok' := fun (p : Int) => (Lit.int .i64 p).wf = true) (h := ?_) (ho := ?_) (h' := ?_)
        · exact Opn.opens_int Tryd.underlying3 (by kernel_rfl)
        · rfl
        · skip
          refine Opn.opensF_one (Ok := fun (p : Int) => (Lit.int .i64 p).wf = true) (h := ?_) (ho := ?_)
          · exact Opn.opens_int Tryd.underlying3 (by kernel_rfl)
          · rfl
  case hI => exact fun v h => h
end Go.Proofs.YtieifncibojciaaDoor.X
end
section
namespace Go.Proofs.YtieifncibojciaaDoor.P
open Go.RowKit Go.Proofs.YtieifncibojciaaDoorW.PrintWords Go.Proofs.YtieifncibojciaaDoorW.PrintMore Go.Proofs.YtieifncibojciaaDoor.X
theorem Ev_succ {α : Type} {g : Nat → Option α} {r : α} (h : Ev (fun k => g (k + 1)) r) : Ev g r := Ev.step (fun _ => rfl) h
theorem Ev_all {α : Type} {g : Nat → Option α} {r : α} (h : ∀ k, g k = some r) : Ev g r := ⟨0, fun k _ => h k⟩
theorem Ev_bind {α β : Type} {g : Nat → Option α} {f : Nat → α → Option β} {a : α} {r : β} (h : Ev g a) (k : Ev (fun n => f n a) r) : Ev (fun n => (g n).bind (f n)) r := Ev.bind h k
theorem Ev_id {α : Type} {g : Nat → Option α} {r : α} (h : Ev g r) : Ev (fun n => (g n).bind fun x => some x) r := Ev.bind h (Ev.now _)
theorem w_id {x : Int} (h1 : -9223372036854775808 ≤ x) (h2 : x ≤ 9223372036854775807) : wrap64 x = x := by unfold wrap64; omega
theorem w_succ {i n : Nat} (h : i < n) (hn : n ≤ 9223372036854775807) : wrap64 ((i : Int) + 1) = ((i + 1 : Nat) : Int) := by rw [w_id (by omega) (by omega)]; omega
theorem wf_rng {a : Int} (h : (Lit.int .i64 a).wf = true) : -9223372036854775808 ≤ a ∧ a ≤ 9223372036854775807 := by
  simpa [Lit.wf, IntKind.min, IntKind.max, IntKind.signed, IntKind.bits] using h
theorem rd_nat (xs : List Int) (i : Nat) (h : i < xs.length) : rd xs (i : Int) = xs[i] := by simp [rd, h]
theorem rdOf_nat {α : Type} (d : α) (xs : List α) (i : Nat) (h : i < xs.length) : rdOf d xs (i : Int) = xs[i] := by simp [rdOf, h]
theorem drop_cons {α : Type} (l : List α) (i : Nat) (h : i < l.length) : l.drop i = l[i] :: l.drop (i + 1) := (List.getElem_cons_drop h).symm
theorem ba_ext {a b : ByteArray} (h : a.toList = b.toList) : a = b := by
  have e : ∀ c : ByteArray, c.toList = c.data.toList := fun c => ByteArray.toList_eq c
  rw [e, e] at h
  cases a; cases b
  congr 1
  exact Array.toList_inj.1 h
end Go.Proofs.YtieifncibojciaaDoor.P
end
section
namespace Go.Proofs.YtieifncibojciaaDoor.P
set_option linter.unusedVariables false
set_option linter.unusedSimpArgs false
open Go.RowKit Go.Proofs.YtieifncibojciaaDoorW.PrintWords Go.Proofs.YtieifncibojciaaDoorW.PrintMore Go.Proofs.YtieifncibojciaaDoor.X
theorem leapR_f (y : Int) : contangoref05_Leap.f y = some (leapB y) := by unfold contangoref05_Leap.f leapB; split <;> (try split) <;> rfl
theorem daysR_f (y m : Int) : Ev (fun k => contangoref05_Days.f k y m) (daysV y m) := by
  refine Ev_succ (Ev_succ ?_)
  by_cases h : 1 ≤ m ∧ m ≤ 12
  · have h' : m = 1 ∨ m = 2 ∨ m = 3 ∨ m = 4 ∨ m = 5 ∨ m = 6 ∨ m = 7 ∨ m = 8 ∨ m = 9 ∨ m = 10 ∨ m = 11 ∨ m = 12 := by omega
    rcases h' with rfl | rfl | rfl | rfl | rfl | rfl | rfl | rfl | rfl | rfl | rfl | rfl <;>
      (refine Ev_all fun k => ?_
       simp only [contangoref05_Days.f, contangoref05_Days.j0, contangoref05_Days.j1, leapR_f, daysV]
       cases leapB y <;> rfl)
  · refine Ev_all fun k => ?_
    have e : daysV y m = 0 := if_neg h
    rw [e]
    have n1 : m ≠ 1 := by omega
    have n2 : m ≠ 2 := by omega
    have n3 : m ≠ 3 := by omega
    have n4 : m ≠ 4 := by omega
    have n5 : m ≠ 5 := by omega
    have n6 : m ≠ 6 := by omega
    have n7 : m ≠ 7 := by omega
    have n8 : m ≠ 8 := by omega
    have n9 : m ≠ 9 := by omega
    have n10 : m ≠ 10 := by omega
    have n11 : m ≠ 11 := by omega
    have n12 : m ≠ 12 := by omega
    simp [contangoref05_Days.f, contangoref05_Days.j0, contangoref05_Days.j1, n1, n2, n3, n4, n5, n6, n7, n8, n9, n10, n11, n12]
theorem monSum_all (b : Bool) : monSum b 13 = if b = true then 366 else 365 := by cases b <;> decide
theorem startV_succ {c : Int} (h1 : 2000 ≤ c) (h2 : c ≤ 2199) : startV (c + 1) = startV c + (if leapB c = true then 366 else 365) := by
  have h := year_len (c - 2000).toNat (by omega)
  have e : (2000 : Int) + (((c - 2000).toNat : Nat) : Int) = c := by omega
  rw [e, monSum_all] at h
  omega
theorem startV_zero : startV 2000 = 0 := by decide
theorem startV_rng1 {y : Int} (h1 : 2000 ≤ y) (h2 : y ≤ 2200) : 0 ≤ startV y ∧ startV y ≤ 100000 := by unfold startV leapsV; omega
theorem ofR_years {y : Int} (hy : y ≤ 2199) : ∀ (d : Nat) (c n : Int), c + d = y → 2000 ≤ c → 0 ≤ n → n ≤ 1000 + startV c → Ev (fun k => contangoref05_Of.l1 k y n c) (n + (startV y - startV c), 0)
  | 0, c, n, hd, h1, h2, h3 => by
    obtain rfl : c = y := by omega
    refine Ev_succ (Ev_all fun k => ?_)
    simp only [contangoref05_Of.l1]
    rw [if_neg (by omega)]
    congr 2
    omega
  | d + 1, c, n, hd, h1, h2, h3 => by
    have hr := startV_rng1 h1 (y := c) (by omega)
    have hs := startV_succ h1 (by omega)
    have ih := ofR_years hy d (c + 1)
    refine Ev_succ ?_
    have hc : c < y := by omega
    have w1 : wrap64 (c + 1) = c + 1 := w_id (by omega) (by omega)
    have w2 : wrap64 (n + 365) = n + 365 := w_id (by omega) (by omega)
    have w3 : wrap64 (n + 365 + 1) = n + 366 := by rw [w_id (by omega) (by omega)]; omega
    simp only [contangoref05_Of.l1, if_pos hc, leapR_f, Option.bind_some, w1, w2, w3]
    cases hl : leapB c with
    | true =>
      rw [hl] at hs
      rw [if_pos rfl] at hs
      simp only [if_true]
      have := ih (n + 366) (by omega) (by omega) (by omega) (by omega)
      rw [show n + 366 + (startV y - startV (c + 1)) = n + (startV y - startV c) by omega] at this
      exact this
    | false =>
      rw [hl] at hs
      rw [if_neg (by decide)] at hs
      simp only [Bool.false_eq_true, if_false]
      have := ih (n + 365) (by omega) (by omega) (by omega) (by omega)
      rw [show n + 365 + (startV y - startV (c + 1)) = n + (startV y - startV c) by omega] at this
      exact this
theorem ofR_months {y : Int} (h0 : 2000 ≤ y) (hy : y ≤ 2199) {M : Nat} (hM : M ≤ 12) : ∀ (d c : Nat) (n : Int), c + d = M → 1 ≤ c → 0 ≤ n → n ≤ 50 + 31 * c → Ev (fun k => contangoref05_Of.l0 k y (M : Int) n (c : Int)) (n + (monSum (leapB y) M - monSum (leapB y) c) + startV y, 0)
  | 0, c, n, hd, h1, h2, h3 => by
    obtain rfl : c = M := by omega
    refine Ev_succ ?_
    have hn : ¬ (c : Int) < (c : Int) := by omega
    simp only [contangoref05_Of.l0, if_neg hn]
    have := ofR_years hy (y - 2000).toNat 2000 n (by omega) (by omega) h2 (by rw [startV_zero]; omega)
    rw [startV_zero] at this
    rw [show n + (monSum (leapB y) c - monSum (leapB y) c) + startV y = n + (startV y - 0) by omega]
    exact this
  | d + 1, c, n, hd, h1, h2, h3 => by
    have hl := monLen_rng (leapB y) c
    have hc : (c : Int) < (M : Int) := by omega
    have e : daysV y (c : Int) = monLen (leapB y) c := by unfold daysV; rw [if_pos (by omega)]; rfl
    refine Ev_succ ?_
    simp only [contangoref05_Of.l0, if_pos hc]
    refine Ev_bind (daysR_f y c) ?_
    have w1 : wrap64 ((c : Int) + 1) = ((c + 1 : Nat) : Int) := by rw [w_id (by omega) (by omega)]; omega
    have w2 : wrap64 (n + monLen (leapB y) c) = n + monLen (leapB y) c := w_id (by omega) (by omega)
    rw [e]
    simp only [w1, w2]
    have := ofR_months h0 hy hM d (c + 1) (n + monLen (leapB y) c) (by omega) (by omega) (by omega) (by omega)
    have es : monSum (leapB y) (c + 1) = monSum (leapB y) c + monLen (leapB y) c := rfl
    rw [es, show n + monLen (leapB y) c + (monSum (leapB y) M - (monSum (leapB y) c + monLen (leapB y) c)) + startV y = n + (monSum (leapB y) M - monSum (leapB y) c) + startV y by omega] at this
    exact this
theorem ofR_f (y m d : Int) : Ev (fun k => contangoref05_Of.f k y m d) (ofV y m d) := by
  unfold contangoref05_Of.f ofV
  have bad : Ev (fun k => contangoref05_Of.j0 k y m d true) ((0 : Int), (15 : Int)) := Ev_succ (Ev_all fun k => by simp only [contangoref05_Of.j0, if_true])
  by_cases c1 : y < 2000
  · rw [if_pos (Or.inl c1)]; simp only [if_pos c1]; exact bad
  simp only [if_neg c1]
  by_cases c2 : y > 2199
  · rw [if_pos (Or.inr (Or.inl c2))]; simp only [if_pos c2]; exact bad
  simp only [if_neg c2]
  by_cases c3 : d < 1
  · rw [if_pos (Or.inr (Or.inr (Or.inl c3)))]; simp only [if_pos c3]; exact bad
  simp only [if_neg c3]
  refine Ev_bind (daysR_f y m) ?_
  by_cases c4 : d > daysV y m
  · rw [if_pos (Or.inr (Or.inr (Or.inr c4)))]; simp only [c4, decide_true]; exact bad
  rw [if_neg (by omega)]
  simp only [c4, decide_false]
  refine Ev_succ ?_
  obtain ⟨m1, m2, m3⟩ := days_pos (by omega : 1 ≤ d) (by omega : d ≤ daysV y m)
  have w1 : wrap64 (d - 1) = d - 1 := w_id (by omega) (by omega)
  simp only [contangoref05_Of.j0, Bool.false_eq_true, if_false, w1]
  have := ofR_months (y := y) (by omega) (by omega) (M := m.toNat) (by omega) (m.toNat - 1) 1 (d - 1) (by omega) (by omega) (by omega) (by omega)
  rw [monSum_one, show ((m.toNat : Nat) : Int) = m by omega, show d - 1 + (monSum (leapB y) m.toNat - 0) + startV y = startV y + d - 1 + monSum (leapB y) m.toNat by omega] at this
  exact this
theorem splitR_months {y D : Int} (h0 : 0 ≤ D) (h1 : D < monSum (leapB y) 13) : ∀ (f m : Nat), m + f = 13 → 1 ≤ m → m ≤ 12 → monSum (leapB y) m ≤ D → Ev (fun k => contangoref05_Split.l1 k (D - monSum (leapB y) m) y (m : Int)) (y, (monAt (leapB y) D f m : Int), D - monSum (leapB y) (monAt (leapB y) D f m) + 1, 0)
  | 0, m, hf, a1, a2, hm => by omega
  | f + 1, m, hf, a1, a2, hm => by
    have hD : D < 400 := by have := monSum_all (leapB y); split at this <;> omega
    have hs := monSum_rng (leapB y) m
    have e : daysV y (m : Int) = monLen (leapB y) m := by unfold daysV; rw [if_pos (by omega)]; rfl
    have es : monSum (leapB y) (m + 1) = monSum (leapB y) m + monLen (leapB y) m := rfl
    have hl := monLen_rng (leapB y) m
    refine Ev_succ ?_
    simp only [contangoref05_Split.l1]
    have hd := daysR_f y m
    rw [e] at hd
    refine Ev_bind hd ?_
    unfold monAt
    by_cases c : monLen (leapB y) m ≤ D - monSum (leapB y) m
    · have c' : D - monSum (leapB y) m ≥ monLen (leapB y) m := c
      simp only [if_pos c', if_pos c]
      refine Ev_bind hd ?_
      have hm12 : m + 1 ≤ 12 := by
        by_cases x : m = 12
        · subst x
          rw [es] at h1
          omega
        · omega
      have w1 : wrap64 ((m : Int) + 1) = ((m + 1 : Nat) : Int) := by rw [w_id (by omega) (by omega)]; omega
      have w2 : wrap64 (D - monSum (leapB y) m - monLen (leapB y) m) = D - monSum (leapB y) (m + 1) := by rw [w_id (by omega) (by omega), es]; omega
      simp only [w1, w2]
      exact splitR_months h0 h1 f (m + 1) (by omega) (by omega) hm12 (by rw [es]; omega)
    · have c' : ¬ D - monSum (leapB y) m ≥ monLen (leapB y) m := c
      have w1 : wrap64 (D - monSum (leapB y) m + 1) = D - monSum (leapB y) m + 1 := w_id (by omega) (by omega)
      simp only [if_neg c', if_neg c, w1]
      exact Ev.now _
theorem startV_mono {a b : Int} (h1 : 2000 ≤ a) (h2 : a ≤ b) : startV a ≤ startV b := by unfold startV leapsV; omega
theorem splitR_years {day : Int} (h : 0 ≤ day ∧ day ≤ 73048) : ∀ (d k : Nat), k + d = yearK day → Ev (fun n => contangoref05_Split.l0 n (day - startV (2000 + (k : Int))) (2000 + (k : Int))) (splitV day)
  | 0, k, hd => by
    obtain ⟨y1, y2, y3⟩ := year_ok h
    obtain rfl : k = yearK day := by omega
    have hr := startV_rng1 (y := 2000 + (yearK day : Int)) (by omega) (by omega)
    have main : Ev (fun n => contangoref05_Split.j2 n (day - startV (2000 + (yearK day : Int))) (2000 + (yearK day : Int))) (splitV day) := by
      refine Ev_succ ?_
      have := splitR_months (y := 2000 + (yearK day : Int)) (D := day - startV (2000 + (yearK day : Int))) y2 y3 12 1 (by omega) (by omega) (by omega) (by rw [monSum_one]; exact y2)
      rw [monSum_one, show day - startV (2000 + (yearK day : Int)) - 0 = day - startV (2000 + (yearK day : Int)) by omega] at this
      unfold splitV
      rw [if_pos h]
      simp only [contangoref05_Split.j2]
      exact this
    refine Ev_succ ?_
    rw [monSum_all] at y3
    simp only [contangoref05_Split.l0, leapR_f, Option.bind_some]
    cases hl : leapB (2000 + (yearK day : Int)) with
    | true =>
      rw [hl, if_pos rfl] at y3
      simp only [if_true, if_pos y3]
      exact main
    | false =>
      rw [hl, if_neg (by decide)] at y3
      simp only [Bool.false_eq_true, if_false, if_pos y3]
      exact main
  | d + 1, k, hd => by
    obtain ⟨y1, y2, y3⟩ := year_ok h
    have hs := startV_succ (c := 2000 + (k : Int)) (by omega) (by omega)
    have hm := startV_mono (a := 2000 + (k : Int) + 1) (b := 2000 + (yearK day : Int)) (by omega) (by omega)
    have hr := startV_rng1 (y := 2000 + (k : Int)) (by omega) (by omega)
    have ih := splitR_years h d (k + 1) (by omega)
    rw [show (2000 : Int) + ((k + 1 : Nat) : Int) = 2000 + (k : Int) + 1 by omega] at ih
    have w1 : wrap64 (2000 + (k : Int) + 1) = 2000 + (k : Int) + 1 := w_id (by omega) (by omega)
    refine Ev_succ ?_
    simp only [contangoref05_Split.l0, leapR_f, Option.bind_some, w1]
    cases hl : leapB (2000 + (k : Int)) with
    | true =>
      rw [hl, if_pos rfl] at hs
      have n1 : ¬ day - startV (2000 + (k : Int)) < 366 := by omega
      have w2 : wrap64 (day - startV (2000 + (k : Int)) - 366) = day - startV (2000 + (k : Int) + 1) := by rw [w_id (by omega) (by omega)]; omega
      simp only [if_true, if_neg n1, w2]
      exact ih
    | false =>
      rw [hl, if_neg (by decide)] at hs
      have n1 : ¬ day - startV (2000 + (k : Int)) < 365 := by omega
      have w2 : wrap64 (day - startV (2000 + (k : Int)) - 365) = day - startV (2000 + (k : Int) + 1) := by rw [w_id (by omega) (by omega)]; omega
      simp only [Bool.false_eq_true, if_false, if_neg n1, w2]
      exact ih
theorem splitR_f (day : Int) : Ev (fun k => contangoref05_Split.f k day) (splitV day) := by
  unfold contangoref05_Split.f
  have bad : (¬ (0 ≤ day ∧ day ≤ 73048)) → Ev (fun k => contangoref05_Split.j0 k day true) (splitV day) := fun h => Ev_succ (Ev_all fun k => by unfold splitV; rw [if_neg h]; simp only [contangoref05_Split.j0, if_true])
  by_cases c1 : day < 0
  · simp only [if_pos c1]; exact bad (by omega)
  simp only [if_neg c1]
  by_cases c2 : day > 73048
  · simp only [c2, decide_true]; exact bad (by omega)
  simp only [c2, decide_false]
  refine Ev_succ ?_
  simp only [contangoref05_Split.j0, Bool.false_eq_true, if_false]
  have := splitR_years (day := day) ⟨by omega, by omega⟩ (yearK day) 0 (by omega)
  rw [show (2000 : Int) + ((0 : Nat) : Int) = 2000 from rfl, startV_zero, show day - 0 = day by omega] at this
  exact this
end Go.Proofs.YtieifncibojciaaDoor.P
end
section
namespace Go.Proofs.YtieifncibojciaaDoor.P
set_option linter.unusedVariables false
set_option linter.unusedSimpArgs false
open Go.RowKit Go.Proofs.YtieifncibojciaaDoorW.PrintWords Go.Proofs.YtieifncibojciaaDoorW.PrintMore Go.Proofs.YtieifncibojciaaDoor.X
theorem by_rng (s : ByteArray) : ∀ x ∈ bytesOf s, 0 ≤ x ∧ x < 256 := by
  intro x hx
  unfold bytesOf at hx
  obtain ⟨b, hb, rfl⟩ := List.mem_map.1 hx
  have := b.toNat_lt
  omega
theorem by_len (s : ByteArray) : (bytesOf s).length = s.size := bytesOf_length s
theorem by_str (L : List Int) (h : ∀ x ∈ L, 0 ≤ x ∧ x < 256) : bytesOf (strOfNums L) = L := by
  unfold bytesOf
  rw [strOfNums_data, List.map_map]
  conv => rhs; rw [← List.map_id L]
  refine List.map_congr_left fun x hx => ?_
  have := h x hx
  simp only [Function.comp, id, UInt8.toNat_ofNat']
  omega
theorem by_data (s : ByteArray) : s.data.toList = (bytesOf s).map fun n => UInt8.ofNat n.toNat := by
  unfold bytesOf
  rw [List.map_map]
  conv => lhs; rw [← List.map_id s.data.toList]
  refine List.map_congr_left fun x hx => ?_
  simp only [Function.comp, id, Int.toNat_natCast, UInt8.ofNat_toNat]
theorem str_by (s : ByteArray) : strOfNums (bytesOf s) = s := by
  cases s with
  | mk d =>
    unfold strOfNums
    rw [← by_data]
theorem by_inj {a b : ByteArray} (h : bytesOf a = bytesOf b) : a = b := by rw [← str_by a, ← str_by b, h]
theorem by_app (a b : ByteArray) : bytesOf (a ++ b) = bytesOf a ++ bytesOf b := by
  unfold bytesOf
  rw [show (a ++ b).data = a.data ++ b.data from ByteArray.data_append, Array.toList_append, List.map_append]
theorem by_ext (s : ByteArray) (i j : Nat) : bytesOf (s.extract i j) = ((bytesOf s).take j).drop i := by
  unfold bytesOf
  rw [ByteArray.data_extract, Array.toList_extract, ← List.map_take, ← List.map_drop]
  congr 1
  rw [List.extract_eq_take_drop, List.drop_take]
theorem by_toList (s : ByteArray) (l : List UInt8) : s.toList = l ↔ bytesOf s = l.map fun b => (b.toNat : Int) := by
  rw [ByteArray.toList_eq]
  unfold bytesOf
  constructor
  · intro h
    rw [h]
  · intro h
    have e := congrArg (List.map fun n : Int => UInt8.ofNat n.toNat) h
    simpa [List.map_map, Function.comp_def] using e
theorem by_eq (a b : ByteArray) : a.toList = b.toList ↔ a = b := ⟨ba_ext, fun h => h ▸ rfl⟩
theorem by_emp (s : ByteArray) : s.toList = ([] : List UInt8) ↔ bytesOf s = [] := by rw [by_toList]; simp
theorem by_bt (s : ByteArray) (i : Nat) (h : i < (bytesOf s).length) : bt s (i : Int) = (bytesOf s)[i] := by
  rw [← rd_bytesOf, rd_nat _ _ h]
theorem by_drop (s : ByteArray) (i : Nat) (h : i < s.size) : (bytesOf s).drop i = bt s (i : Int) :: (bytesOf s).drop (i + 1) := by
  have h' : i < (bytesOf s).length := by rw [by_len]; exact h
  rw [drop_cons _ _ h', by_bt s i h']
theorem by_end (s : ByteArray) (i : Nat) (h : s.size ≤ i) : (bytesOf s).drop i = [] := List.drop_of_length_le (by rw [by_len]; exact h)
theorem str_app (a b : List Int) : strOfNums (a ++ b) = strOfNums a ++ strOfNums b := by
  apply by_inj
  rw [by_app]
  unfold bytesOf
  simp only [strOfNums_data, List.map_append]
def idxL : List Int → Int → Option Nat
  | [], _ => none
  | x :: r, c => if x = c then some 0 else (idxL r c).map (· + 1)
theorem idx_byte (l : List UInt8) (c : UInt8) : Lib.indexByte l c = match idxL (l.map fun b => (b.toNat : Int)) (c.toNat : Int) with | some i => (i : Int) | none => -1 := by
  induction l with
  | nil => rfl
  | cons x r ih =>
    unfold Lib.indexByte
    simp only [List.map_cons, idxL]
    by_cases h : x = c
    · subst h
      simp
    · have h1 : (x == c) = false := by simpa using h
      have h2 : ¬ ((x.toNat : Int) = (c.toNat : Int)) := fun e => h (UInt8.toNat_inj.1 (by omega))
      rw [h1, if_neg h2]
      simp only [Bool.false_eq_true, if_false]
      rw [ih]
      cases hI : idxL (r.map fun b => (b.toNat : Int)) (c.toNat : Int) with
      | none => simp
      | some i =>
        have h3 : ((i : Int) == -1) = false := by
          rw [beq_eq_false_iff_ne]
          omega
        simp [h3]
theorem idx_some {L : List Int} {c : Int} {i : Nat} (h : idxL L c = some i) : i < L.length ∧ L[i]? = some c ∧ c ∉ L.take i ∧ L = L.take i ++ c :: L.drop (i + 1) := by
  induction L generalizing i with
  | nil => cases h
  | cons x r ih =>
    simp only [idxL] at h
    by_cases hx : x = c
    · rw [if_pos hx] at h
      obtain rfl := Option.some.inj h
      subst hx
      simp
    · rw [if_neg hx] at h
      obtain ⟨j, hj, rfl⟩ := Option.map_eq_some_iff.1 h
      obtain ⟨h1, h2, h3, h4⟩ := ih hj
      refine ⟨by simpa using h1, by simpa using h2, ?_, ?_⟩
      · simp only [List.take_succ_cons, List.mem_cons, not_or]
        exact ⟨fun e => hx e.symm, h3⟩
      · simp only [List.take_succ_cons, List.drop_succ_cons, List.cons_append]
        rw [← h4]
theorem idx_none {L : List Int} {c : Int} (h : idxL L c = none) : c ∉ L := by
  induction L with
  | nil => simp
  | cons x r ih =>
    simp only [idxL] at h
    by_cases hx : x = c
    · rw [if_pos hx] at h; cases h
    · rw [if_neg hx] at h
      have h' : idxL r c = none := by simpa using h
      simp only [List.mem_cons, not_or]
      exact ⟨fun e => hx e.symm, ih h'⟩
end Go.Proofs.YtieifncibojciaaDoor.P
end
section
namespace Go.Proofs.YtieifncibojciaaDoor.P
set_option linter.unusedVariables false
set_option linter.unusedSimpArgs false
open Go.RowKit Go.Proofs.YtieifncibojciaaDoorW.PrintWords Go.Proofs.YtieifncibojciaaDoorW.PrintMore Go.Proofs.YtieifncibojciaaDoor.X
theorem ib_cases (c : UInt8) : ∀ s : List UInt8, (Lib.indexByte s c = -1 ∧ c ∉ s) ∨ ∃ A R, c ∉ A ∧ s = A ++ c :: R ∧ Lib.indexByte s c = (A.length : Int)
  | [] => Or.inl ⟨rfl, by simp⟩
  | x :: r => by
    by_cases h : x = c
    · subst h
      exact Or.inr ⟨[], r, by simp, rfl, by simp [Lib.indexByte]⟩
    · have h1 : (x == c) = false := by simpa using h
      rcases ib_cases c r with ⟨h2, h3⟩ | ⟨A, R, h2, h3, h4⟩
      · refine Or.inl ⟨by simp [Lib.indexByte, h1, h2], ?_⟩
        simp only [List.mem_cons, not_or]
        exact ⟨fun e => h e.symm, h3⟩
      · refine Or.inr ⟨x :: A, R, ?_, by rw [h3]; rfl, ?_⟩
        · simp only [List.mem_cons, not_or]
          exact ⟨fun e => h e.symm, h2⟩
        · have h5 : ((A.length : Int) == -1) = false := by rw [beq_eq_false_iff_ne]; omega
          simp [Lib.indexByte, h1, h4, h5]
theorem filter_no {c : UInt8} {A : List UInt8} (h : c ∉ A) : A.filter (fun x => x != c) = A := List.filter_eq_self.2 fun a ha => by
  simp only [bne_iff_ne, ne_eq]
  intro e
  exact h (e ▸ ha)
theorem repl_out (c : UInt8) : ∀ (n : Nat) (s : List UInt8), s.length ≤ n → Lib.replaceK [c] [] (Lib.count s [c]) s = s.filter (fun x => x != c) := by
  intro n
  induction n with
  | zero =>
    intro s hs
    obtain rfl : s = [] := List.length_eq_zero_iff.1 (by omega)
    rcases ib_cases c [] with ⟨h, _⟩ | ⟨A, R, _, h, _⟩
    · rw [Lib.count_miss (by rw [Lib.index_one]; exact h)]; rfl
    · cases A <;> cases h
  | succ n ih =>
    intro s hs
    rcases ib_cases c s with ⟨h, h2⟩ | ⟨A, R, h2, h3, h4⟩
    · rw [Lib.count_miss (by rw [Lib.index_one]; exact h), filter_no h2]; rfl
    · have hi : Lib.index s [c] = (A.length : Int) := by rw [Lib.index_one]; exact h4
      have hd : s.drop (A.length + [c].length) = R := by
        rw [h3, show A ++ c :: R = (A ++ [c]) ++ R by simp]
        exact List.drop_left' (by simp)
      have ht : s.take A.length = A := by rw [h3]; exact List.take_left' rfl
      rw [Lib.count_hit (by simp) hi, Nat.add_comm 1, Lib.replaceK_hit [c] [] _ s A.length hi, hd, ht, ih R (by rw [h3] at hs; simp at hs; omega)]
      rw [h3, List.filter_append, filter_no h2]
      simp
theorem replaceAll_out (s : List UInt8) (c : UInt8) : Lib.replaceAll s [c] [] = s.filter (fun x => x != c) := by
  have e : ([c] == ([] : List UInt8)) = false := rfl
  have m : Lib.replaceNum s [c] (-1) = Lib.count s [c] := by unfold Lib.replaceNum; rw [if_pos (Or.inl (by decide))]
  unfold Lib.replaceAll Lib.replace
  rw [e, m]
  exact repl_out c s.length s (Nat.le_refl _)
theorem day_out {a b c d e f g h : Int} (ha : 48 ≤ a ∧ a ≤ 57) (hb : 48 ≤ b ∧ b ≤ 57) (hc : 48 ≤ c ∧ c ≤ 57) (hd : 48 ≤ d ∧ d ≤ 57) (he : 48 ≤ e ∧ e ≤ 57) (hf : 48 ≤ f ∧ f ≤ 57) (hg : 48 ≤ g ∧ g ≤ 57) (hh : 48 ≤ h ∧ h ≤ 57) :
    (⟨(Lib.replaceAll (strOfNums [a, b, c, d, 45, e, f, 45, g, h]).data.toList [45] []).toArray⟩ : ByteArray) = strOfNums [a, b, c, d, e, f, g, h] := by
  have key : ∀ x : Int, 48 ≤ x ∧ x ≤ 57 → (UInt8.ofNat x.toNat != 45) = true := by
    intro x hx
    simp only [bne_iff_ne, ne_eq]
    intro e
    have := congrArg UInt8.toNat e
    rw [UInt8.toNat_ofNat'] at this
    have e2 : (45 : UInt8).toNat = 45 := rfl
    omega
  rw [replaceAll_out, strOfNums_data]
  simp only [List.map_cons, List.map_nil, List.filter_cons, key a ha, key b hb, key c hc, key d hd, key e he, key f hf, key g hg, key h hh, if_true, show (UInt8.ofNat (45 : Int).toNat != 45) = false from rfl, Bool.false_eq_true, if_false, List.filter_nil]
  rfl
end Go.Proofs.YtieifncibojciaaDoor.P
end
section
namespace Go.Proofs.YtieifncibojciaaDoor.P
set_option linter.unusedVariables false
set_option linter.unusedSimpArgs false
open Go.RowKit Go.Proofs.YtieifncibojciaaDoorW.PrintWords Go.Proofs.YtieifncibojciaaDoorW.PrintMore Go.Proofs.YtieifncibojciaaDoor.X
def splitI (c : Int) : List Int → List (List Int)
  | [] => [[]]
  | x :: r => if x = c then [] :: splitI c r else (match splitI c r with | p :: q => (x :: p) :: q | [] => [[x]])
theorem splitI_none {c : Int} : ∀ {L : List Int}, c ∉ L → splitI c L = [L]
  | [], _ => rfl
  | x :: r, h => by
    simp only [List.mem_cons, not_or] at h
    unfold splitI
    rw [if_neg (fun e => h.1 e.symm), splitI_none h.2]
theorem splitI_app {c : Int} : ∀ {A : List Int} (R : List Int), c ∉ A → splitI c (A ++ c :: R) = A :: splitI c R
  | [], R, _ => by rw [List.nil_append, splitI, if_pos rfl]
  | x :: r, R, h => by
    simp only [List.mem_cons, not_or] at h
    rw [List.cons_append, splitI, if_neg (fun e => h.1 e.symm), splitI_app R h.2]
theorem splitB_step (c : UInt8) (s : ByteArray) (ih : ∀ t : ByteArray, t.size < s.size → (Lib.splitB ⟨#[c]⟩ 0 (Lib.countB t ⟨#[c]⟩) t).map bytesOf = splitI (c.toNat : Int) (bytesOf t)) : (Lib.splitB ⟨#[c]⟩ 0 (Lib.countB s ⟨#[c]⟩) s).map bytesOf = splitI (c.toNat : Int) (bytesOf s) := by
  have hix : Lib.indexB s ⟨#[c]⟩ = match idxL (bytesOf s) (c.toNat : Int) with | some i => (i : Int) | none => -1 := by
    have := idx_byte s.data.toList c
    rw [← Lib.index_one] at this
    exact this
  cases hI : idxL (bytesOf s) (c.toNat : Int) with
  | none =>
    rw [hI] at hix
    rw [Lib.countB_miss s _ hix, splitI_none (idx_none hI)]
    rfl
  | some i =>
    rw [hI] at hix
    obtain ⟨h1, h2, h3, h4⟩ := idx_some hI
    have hc := Lib.countB_hit s ⟨#[c]⟩ i (Nat.le_refl _) hix
    have e1 : (⟨#[c]⟩ : ByteArray).size = 1 := rfl
    rw [e1] at hc
    have hsz : (s.extract (i + 1) s.size).size < s.size := by
      rw [by_len] at h1
      rw [ByteArray.size_extract]
      omega
    have ih := ih (s.extract (i + 1) s.size) hsz
    rw [show Lib.countB s ⟨#[c]⟩ = Lib.countB (s.extract (i + 1) s.size) ⟨#[c]⟩ + 1 by omega, Lib.splitB_hit _ _ _ _ i hix, List.map_cons, e1, ih]
    have e2 : bytesOf (s.extract 0 (i + 0)) = (bytesOf s).take i := by rw [by_ext, List.drop_zero, Nat.add_zero]
    have e3 : bytesOf (s.extract (i + 1) s.size) = (bytesOf s).drop (i + 1) := by rw [by_ext, ← by_len, List.take_length]
    rw [e2, e3]
    conv => rhs; rw [h4]
    rw [splitI_app _ h3]
theorem splitB_map (c : UInt8) (n : Nat) : ∀ s : ByteArray, s.size ≤ n → (Lib.splitB ⟨#[c]⟩ 0 (Lib.countB s ⟨#[c]⟩) s).map bytesOf = splitI (c.toNat : Int) (bytesOf s) := by
  induction n with
  | zero => exact fun s hs => splitB_step c s fun t ht => absurd ht (by omega)
  | succ n ih => exact fun s hs => splitB_step c s fun t ht => ih t (by omega)
theorem split_f (s : ByteArray) (c : UInt8) (hs : s.size < 4294967281) : ∃ l, strings_Split.f s (⟨#[c]⟩ : ByteArray) = some l ∧ l.map bytesOf = splitI (c.toNat : Int) (bytesOf s) := by
  refine ⟨_, ?_, splitB_map c s.size s (Nat.le_refl _)⟩
  unfold strings_Split.f
  rw [if_pos ⟨rfl, hs⟩]
theorem map_str (l : List ByteArray) : (l.map bytesOf).map strOfNums = l := by
  rw [List.map_map]
  conv => rhs; rw [← List.map_id l]
  exact List.map_congr_left fun x _ => str_by x
end Go.Proofs.YtieifncibojciaaDoor.P
end
section
namespace Go.Proofs.YtieifncibojciaaDoor.P
set_option linter.unusedVariables false
set_option linter.unusedSimpArgs false
open Go.RowKit Go.Proofs.YtieifncibojciaaDoorW.PrintWords Go.Proofs.YtieifncibojciaaDoorW.PrintMore Go.Proofs.YtieifncibojciaaDoor.X
def letterB (n : Int) : Bool := decide (97 ≤ n) && decide (n ≤ 122)
def digitB (n : Int) : Bool := decide (48 ≤ n) && decide (n ≤ 57)
theorem letter_f (n : Int) : words_letter.f n = some (letterB n) := by
  unfold words_letter.f letterB
  by_cases h : 97 ≤ n
  · rw [if_pos h, decide_eq_true h, Bool.true_and]
  · rw [if_neg h, decide_eq_false h, Bool.false_and]
theorem digit_f (n : Int) : words_digit.f n = some (digitB n) := by
  unfold words_digit.f digitB
  by_cases h : 48 ≤ n
  · rw [if_pos h, decide_eq_true h, Bool.true_and]
  · rw [if_neg h, decide_eq_false h, Bool.false_and]
def chB (s : ByteArray) (i : Nat) : Bool := letterB (bt s (i : Int)) || (!(i == 0) && digitB (bt s (i : Int)))
def nameFrom (s : ByteArray) : Nat → Nat → Bool
  | 0, _ => true
  | d + 1, i => chB s i && nameFrom s d (i + 1)
def nameB (s : ByteArray) : Bool := decide (0 < s.size) && decide (s.size ≤ 12) && nameFrom s s.size 0
theorem nameLoop (s : ByteArray) (hs : s.size ≤ 12) (h0 : letterB (bt s 0) = true) : ∀ (d i : Nat), i + d = s.size → Ev (fun k => words_Name.l0 k s s.size i) (nameFrom s d i)
  | 0, i, hd => by
    refine Ev_succ ?_
    simp only [words_Name.l0, if_neg (show ¬ ((i : Int) < (s.size : Int)) by omega)]
    exact Ev.now _
  | d + 1, i, hd => by
    have hi : i < s.size := by omega
    have ih := nameLoop s hs h0 d (i + 1) (by omega)
    refine Ev_succ ?_
    simp only [words_Name.l0, if_pos (show (i : Int) < (s.size : Int) by omega), if_pos (show 0 ≤ (i : Int) by omega), letter_f, digit_f, Option.bind_some, w_succ hi (by omega), nameFrom, chB]
    cases h1 : letterB (bt s (i : Int)) with
    | true => simp only [if_true, Bool.true_or, Bool.true_and]; exact ih
    | false =>
      simp only [Bool.false_eq_true, if_false, Bool.false_or]
      have hi0 : (i == 0) = false := by
        rw [← Bool.not_eq_true, beq_iff_eq]
        rintro rfl
        rw [show ((0 : Nat) : Int) = 0 from rfl, h0] at h1
        cases h1
      simp only [hi0, Bool.not_false, Bool.true_and]
      cases h2 : digitB (bt s (i : Int)) with
      | true => simp only [if_true, Bool.true_and]; exact ih
      | false => simp only [Bool.false_eq_true, if_false, Bool.false_and]; exact Ev.now _
theorem name_f (s : ByteArray) : Ev (fun k => words_Name.f k s) (nameB s) := by
  have hj : nameB s = false → Ev (fun k => words_Name.j0 k s true) (nameB s) := by
    intro h
    rw [h]
    refine Ev_succ ?_
    simp only [words_Name.j0, if_true]
    exact Ev.now _
  unfold words_Name.f
  by_cases c0 : s.toList = []
  · simp only [if_pos c0]
    refine hj ?_
    have : s.size = 0 := by
      have e : s.toList = s.data.toList := ByteArray.toList_eq s
      rw [e] at c0
      have := congrArg List.length c0
      simpa using this
    simp [nameB, this]
  · simp only [if_neg c0]
    by_cases c1 : (s.size : Int) > 12
    · simp only [if_pos c1]
      exact hj (by simp [nameB]; omega)
    · have hp : 0 < s.size := by
        rcases Nat.eq_zero_or_pos s.size with h | h
        · exfalso
          apply c0
          have e : s.toList = s.data.toList := ByteArray.toList_eq s
          rw [e]
          exact List.length_eq_zero_iff.1 (by simpa using h)
        · exact h
      simp only [if_neg c1, if_pos (show 0 < (s.size : Int) by omega), letter_f, Option.bind_some]
      have hn : nameB s = nameFrom s s.size 0 := by
        unfold nameB
        rw [decide_eq_true hp, decide_eq_true (show s.size ≤ 12 by omega)]
        simp
      cases h1 : letterB (bt s 0) with
      | false =>
        refine hj ?_
        rw [hn]
        obtain ⟨d, hd⟩ : ∃ d, s.size = d + 1 := ⟨s.size - 1, by omega⟩
        rw [hd]
        simp [nameFrom, chB, h1]
      | true =>
        refine Ev_succ ?_
        simp only [words_Name.j0, Bool.not_true, Bool.false_eq_true, if_false]
        rw [hn]
        exact nameLoop s (by omega) h1 s.size 0 (by omega)
theorem nameRLoop (s : ByteArray) (hs : s.size ≤ 4611686018427387904) : ∀ (d i : Nat), i + d = s.size → Ev (fun k => contangoref03_Name.l0 k s i) (nameFrom s d i && (decide (0 < s.size) && decide (s.size ≤ 12)))
  | 0, i, hd => by
    refine Ev_succ ?_
    simp only [contangoref03_Name.l0, if_neg (show ¬ ((i : Int) < (s.size : Int)) by omega), nameFrom, Bool.true_and]
    by_cases c : (s.size : Int) > 0
    · simp only [if_pos c, decide_eq_true (show 0 < s.size by omega), Bool.true_and]
      have : decide ((s.size : Int) ≤ 12) = decide (s.size ≤ 12) := by rw [decide_eq_decide]; omega
      rw [this]
      exact Ev.now _
    · simp only [if_neg c, decide_eq_false (show ¬ 0 < s.size by omega), Bool.false_and]
      exact Ev.now _
  | d + 1, i, hd => by
    have hi : i < s.size := by omega
    have ih := nameRLoop s hs d (i + 1) (by omega)
    rw [← w_succ hi (by omega)] at ih
    refine Ev_succ ?_
    simp only [contangoref03_Name.l0, if_pos (show (i : Int) < (s.size : Int) by omega), if_pos (show 0 ≤ (i : Int) by omega), nameFrom]
    have step : chB s i = true → Ev (fun k => contangoref03_Name.l0 k s (wrap64 ((i : Int) + 1))) (chB s i && nameFrom s d (i + 1) && (decide (0 < s.size) && decide (s.size ≤ 12))) := by
      intro h
      rw [h, Bool.true_and]
      exact ih
    have stop : chB s i = false → Ev (fun _ => (some false : Option Bool)) (chB s i && nameFrom s d (i + 1) && (decide (0 < s.size) && decide (s.size ≤ 12))) := by
      intro h
      rw [h, Bool.false_and, Bool.false_and]
      exact Ev.now _
    have rest : letterB (bt s (i : Int)) = false → Ev (fun k => if (i : Int) = 0 then some false else if bt s (i : Int) < 48 then some false else if bt s (i : Int) > 57 then some false else contangoref03_Name.l0 k s (wrap64 ((i : Int) + 1))) (chB s i && nameFrom s d (i + 1) && (decide (0 < s.size) && decide (s.size ≤ 12))) := by
      intro hl
      by_cases c0 : (i : Int) = 0
      · have hi0 : (i == 0) = true := by rw [beq_iff_eq]; omega
        simp only [if_pos c0]
        exact stop (by unfold chB; rw [hl, hi0]; rfl)
      · by_cases c1 : bt s (i : Int) < 48
        · simp only [if_neg c0, if_pos c1]; exact stop (by simp [chB, hl, digitB]; omega)
        · by_cases c2 : bt s (i : Int) > 57
          · simp only [if_neg c0, if_neg c1, if_pos c2]; exact stop (by simp [chB, hl, digitB]; omega)
          · simp only [if_neg c0, if_neg c1, if_neg c2]; exact step (by simp [chB, hl, digitB]; omega)
    by_cases g1 : bt s (i : Int) ≥ 97
    · by_cases g2 : bt s (i : Int) ≤ 122
      · simp only [if_pos g1, if_pos g2]; exact step (by simp [chB, letterB]; omega)
      · simp only [if_pos g1, if_neg g2]; exact rest (by simp [letterB]; omega)
    · simp only [if_neg g1]; exact rest (by simp [letterB]; omega)
theorem nameR_f (s : ByteArray) (hs : s.size ≤ 4611686018427387904) : Ev (fun k => contangoref03_Name.f k s) (nameB s) := by
  have h := nameRLoop s hs s.size 0 (by omega)
  have e : nameB s = (nameFrom s s.size 0 && (decide (0 < s.size) && decide (s.size ≤ 12))) := by
    unfold nameB
    rw [Bool.and_comm]
  rw [e]
  exact h
end Go.Proofs.YtieifncibojciaaDoor.P
end
section
namespace Go.Proofs.YtieifncibojciaaDoor.P
set_option linter.unusedVariables false
set_option linter.unusedSimpArgs false
open Go.RowKit Go.Proofs.YtieifncibojciaaDoorW.PrintWords Go.Proofs.YtieifncibojciaaDoorW.PrintMore Go.Proofs.YtieifncibojciaaDoor.X
def plainL (L : List Int) : Bool := !L.isEmpty && !(decide (1 < L.length) && L.head? == some 48) && L.all digitB
def numV (n : Int) (L : List Int) : Int := L.foldl (fun n b => 10 * n + (b - 48)) n
def numR (n : Int) (L : List Int) (minus : Bool) : Int × Int := if 1152921504606846976 < numV n L then (0, 3) else (if minus then -(numV n L) else numV n L, 0)
def unsign (L : List Int) : List Int × Bool := if L.head? = some 45 then (L.tail, true) else (L, false)
def intL (L : List Int) : Int × Int := if plainL (unsign L).1 = true ∧ ¬((unsign L).2 = true ∧ (unsign L).1 = [48]) then numR 0 (unsign L).1 (unsign L).2 else (0, 5)
theorem dig_rng {x : Int} (h : digitB x = true) : 48 ≤ x ∧ x ≤ 57 := by
  unfold digitB at h
  simp only [Bool.and_eq_true, decide_eq_true_eq] at h
  exact h
theorem numV_mono : ∀ (L : List Int) (n : Int), 0 ≤ n → (∀ x ∈ L, digitB x = true) → n ≤ numV n L
  | [], n, _, _ => Int.le_refl _
  | x :: L, n, h, hd => by
    have h1 := dig_rng (hd x (by simp))
    have := numV_mono L (10 * n + (x - 48)) (by omega) fun y hy => hd y (by simp [hy])
    unfold numV at this ⊢
    rw [List.foldl_cons]
    omega
theorem num_step (n d : Int) (h0 : 0 ≤ n) (h1 : n ≤ 1152921504606846976) (h2 : 0 ≤ d) (h3 : d ≤ 9) : (10 * n + d ≤ 9223372036854775807 ∧ wrap64 (wrap64 (10 * n) + d) = 10 * n + d) ∨ (9223372036854775807 < 10 * n + d ∧ wrap64 (wrap64 (10 * n) + d) < 0) := by
  unfold wrap64
  omega
theorem neg_w (n : Int) (h0 : 0 ≤ n) (h1 : n ≤ 1152921504606846976) : wrap64 (-n) = -n := w_id (by omega) (by omega)
theorem digits_loop (s : ByteArray) (hs : s.size ≤ 4611686018427387904) : ∀ (d i : Nat), i + d = s.size → Ev (fun k => words_digits.l0 k s s.size i) (((bytesOf s).drop i).all digitB)
  | 0, i, hd => by
    refine Ev_succ ?_
    simp only [words_digits.l0, if_neg (show ¬ ((i : Int) < (s.size : Int)) by omega)]
    rw [by_end s i (by omega)]
    exact Ev.now _
  | d + 1, i, hd => by
    have hi : i < s.size := by omega
    have ih := digits_loop s hs d (i + 1) (by omega)
    refine Ev_succ ?_
    simp only [words_digits.l0, if_pos (show (i : Int) < (s.size : Int) by omega), if_pos (show 0 ≤ (i : Int) by omega), digit_f, Option.bind_some, w_succ hi (by omega)]
    rw [by_drop s i hi, List.all_cons]
    cases h : digitB (bt s (i : Int)) with
    | true => simp only [if_true, Bool.true_and]; exact ih
    | false => simp only [Bool.false_eq_true, if_false, Bool.false_and]; exact Ev.now _
theorem digits_f (s : ByteArray) (hs : s.size ≤ 4611686018427387904) : Ev (fun k => words_digits.f k s) ((bytesOf s).all digitB) := by
  unfold words_digits.f
  exact digits_loop s hs s.size 0 (by omega)
theorem number_loop (s : ByteArray) (minus : Bool) (hs : s.size ≤ 4611686018427387904) (hall : ∀ x ∈ bytesOf s, digitB x = true) : ∀ (d i : Nat) (n : Int), i + d = s.size → 0 ≤ n → n ≤ 1152921504606846976 → Ev (fun k => words_number.l0 k s minus n s.size i) (numR n ((bytesOf s).drop i) minus)
  | 0, i, n, hd, h0, h1 => by
    refine Ev_succ ?_
    simp only [words_number.l0, if_neg (show ¬ ((i : Int) < (s.size : Int)) by omega)]
    rw [by_end s i (by omega)]
    have hc : numR n [] minus = (if minus then -n else n, 0) := by
      unfold numR numV
      rw [List.foldl_nil, if_neg (show ¬ 1152921504606846976 < n by omega)]
    rw [hc]
    cases minus with
    | true => simp only [if_true, neg_w n h0 h1]; exact Ev.now _
    | false => simp only [Bool.false_eq_true, if_false]; exact Ev.now _
  | d + 1, i, n, hd, h0, h1 => by
    have hi : i < s.size := by omega
    have hb : digitB (bt s (i : Int)) = true := hall _ (by
      have h' : i < (bytesOf s).length := by rw [by_len]; exact hi
      rw [by_bt s i h']
      exact List.getElem_mem h')
    have hb2 := dig_rng hb
    refine Ev_succ ?_
    simp only [words_number.l0, if_pos (show (i : Int) < (s.size : Int) by omega), if_pos (show 0 ≤ (i : Int) by omega), w_succ hi (by omega), Int.emod_eq_of_lt (show 0 ≤ bt s (i : Int) - 48 by omega) (show bt s (i : Int) - 48 < 256 by omega)]
    rw [by_drop s i hi]
    have hr : ∀ x ∈ (bytesOf s).drop (i + 1), digitB x = true := fun x hx => hall x (List.mem_of_mem_drop hx)
    have hm := numV_mono ((bytesOf s).drop (i + 1)) (10 * n + (bt s (i : Int) - 48)) (by omega) hr
    have hc : numR n (bt s (i : Int) :: (bytesOf s).drop (i + 1)) minus = numR (10 * n + (bt s (i : Int) - 48)) ((bytesOf s).drop (i + 1)) minus := by
      unfold numR numV
      rw [List.foldl_cons]
    rw [hc]
    rcases num_step n (bt s (i : Int) - 48) h0 h1 (by omega) (by omega) with ⟨h2, h3⟩ | ⟨h2, h3⟩
    · simp only [h3, if_neg (show ¬ 10 * n + (bt s (i : Int) - 48) < 0 by omega)]
      by_cases h4 : 10 * n + (bt s (i : Int) - 48) > 1152921504606846976
      · simp only [if_pos h4]
        have : numR (10 * n + (bt s (i : Int) - 48)) ((bytesOf s).drop (i + 1)) minus = (0, 3) := by
          unfold numR
          rw [if_pos (by omega)]
        rw [this]
        exact Ev.now _
      · simp only [if_neg h4]
        exact number_loop s minus hs hall d (i + 1) _ (by omega) (by omega) (by omega)
    · simp only [if_pos h3]
      have : numR (10 * n + (bt s (i : Int) - 48)) ((bytesOf s).drop (i + 1)) minus = (0, 3) := by
        unfold numR
        rw [if_pos (by omega)]
      rw [this]
      exact Ev.now _
theorem number_f (s : ByteArray) (minus : Bool) (hs : s.size ≤ 4611686018427387904) (hall : ∀ x ∈ bytesOf s, digitB x = true) : Ev (fun k => words_number.f k s minus) (numR 0 (bytesOf s) minus) := by
  unfold words_number.f
  exact number_loop s minus hs hall s.size 0 0 (by omega) (by omega) (by omega)
theorem plain_all {L : List Int} (h : plainL L = true) : ∀ x ∈ L, digitB x = true := by
  unfold plainL at h
  simp only [Bool.and_eq_true] at h
  exact List.all_eq_true.1 h.2
theorem bt_head (s : ByteArray) (h : 0 < s.size) : (bytesOf s).head? = some (bt s 0) := by
  have := by_drop s 0 h
  rw [List.drop_zero] at this
  rw [this]
  rfl
theorem plain_f (s : ByteArray) (hs : s.size ≤ 4611686018427387904) : Ev (fun k => words_plain.f k s) (plainL (bytesOf s)) := by
  unfold words_plain.f plainL
  have hd := digits_f s hs
  by_cases c0 : s.toList = []
  · simp only [if_pos c0]
    rw [(by_emp s).1 c0]
    exact Ev.now _
  · simp only [if_neg c0]
    have h1 : bytesOf s ≠ [] := fun h => c0 ((by_emp s).2 h)
    have h2 : (bytesOf s).isEmpty = false := by simpa using h1
    have h3 : 0 < s.size := by
      rw [← by_len]
      exact List.length_pos_iff.2 h1
    rw [h2]
    simp only [Bool.not_false, Bool.true_and]
    by_cases c1 : (s.size : Int) > 1
    · simp only [if_pos c1, if_pos (show 0 < (s.size : Int) by omega)]
      have h4 : decide (1 < (bytesOf s).length) = true := by
        rw [by_len]
        exact decide_eq_true (by omega)
      rw [h4, bt_head s h3]
      simp only [Bool.true_and]
      by_cases c2 : bt s 0 = 48
      · simp only [if_pos c2, c2]
        simp
        exact Ev.now _
      · have h5 : (some (bt s 0) == some (48 : Int)) = false := by simpa using c2
        simp only [if_neg c2, h5, Bool.not_false, Bool.true_and]
        exact Ev_id hd
    · simp only [if_neg c1]
      have h4 : decide (1 < (bytesOf s).length) = false := by
        rw [by_len]
        exact decide_eq_false (by omega)
      rw [h4]
      simp only [Bool.false_and, Bool.not_false, Bool.true_and]
      exact Ev_id hd
theorem cutp_f (s : ByteArray) : strings_CutPrefix.f s (⟨#[45]⟩ : ByteArray) = some (strOfNums (unsign (bytesOf s)).1, (unsign (bytesOf s)).2) := by
  have hsz : (⟨#[45]⟩ : ByteArray).size = 1 := rfl
  have hl : bytesOf (⟨#[45]⟩ : ByteArray) = [45] := rfl
  have h0 : stringslite_HasPrefix.f s (⟨#[45]⟩ : ByteArray) = some (decide ((bytesOf s).head? = some 45)) := by
    unfold stringslite_HasPrefix.f
    rw [hsz]
    by_cases c : (s.size : Int) ≥ ((1 : Nat) : Int)
    · rw [if_pos c, if_pos (by omega), if_pos (by omega)]
      congr 1
      have h3 : 0 < s.size := by omega
      have hd := by_drop s 0 h3
      rw [List.drop_zero] at hd
      have he : bytesOf (s.extract 0 1) = [bt s 0] := by rw [by_ext, hd]; rfl
      rw [bt_head s h3]
      rw [Bool.eq_iff_iff, beq_iff_eq, decide_eq_true_eq, by_eq]
      constructor
      · intro h
        have := congrArg bytesOf h
        rw [show (((1 : Nat) : Int)).toNat = 1 from rfl, he, hl] at this
        simpa using this
      · intro h
        apply by_inj
        rw [show (((1 : Nat) : Int)).toNat = 1 from rfl, he, hl]
        simpa using h
    · rw [if_neg c]
      have h4 : bytesOf s = [] := List.length_eq_zero_iff.1 (by rw [by_len]; omega)
      rw [h4]
      simp
  unfold strings_CutPrefix.f stringslite_CutPrefix.f
  rw [h0]
  simp only [Option.bind_some]
  unfold unsign
  by_cases c : (bytesOf s).head? = some 45
  · have h3 : 0 < s.size := by
      rw [← by_len]
      rcases hb : bytesOf s with _ | ⟨x, r⟩
      · rw [hb] at c; simp at c
      · simp
    rw [if_pos (decide_eq_true c), if_pos c, hsz, if_pos (by omega), if_pos (by omega)]
    simp only [Option.bind_some]
    congr 2
    apply by_inj
    rw [by_ext, by_str _ fun x hx => by_rng s x (List.mem_of_mem_tail hx), show (((1 : Nat) : Int)).toNat = 1 from rfl, ← by_len, List.take_length, List.drop_one]
  · rw [if_neg (by simpa using c), if_neg c]
    simp only [Option.bind_some]
    rw [str_by]
theorem unsign_rng {L : List Int} (h : ∀ x ∈ L, 0 ≤ x ∧ x < 256) : ∀ x ∈ (unsign L).1, 0 ≤ x ∧ x < 256 := by
  unfold unsign
  split
  · exact fun x hx => h x (List.mem_of_mem_tail hx)
  · exact h
theorem unsign_len (L : List Int) : (unsign L).1.length ≤ L.length := by
  unfold unsign
  split
  · simp
  · exact Nat.le_refl _
theorem int_f (s : ByteArray) (hs : s.size ≤ 4611686018427387904) : Ev (fun k => words_Int.f k s) (intL (bytesOf s)) := by
  unfold words_Int.f intL
  rw [cutp_f]
  simp only [Option.bind_some]
  have hb := by_str (unsign (bytesOf s)).1 (unsign_rng (by_rng s))
  have hsz : (strOfNums (unsign (bytesOf s)).1).size ≤ 4611686018427387904 := by
    rw [strOfNums_size]
    have := unsign_len (bytesOf s)
    rw [by_len] at this
    omega
  refine Ev_bind (plain_f _ hsz) ?_
  rw [hb]
  generalize (unsign (bytesOf s)).2 = m
  generalize hT : (unsign (bytesOf s)).1 = T at hb hsz
  by_cases c0 : plainL T = true
  · simp only [if_pos c0]
    have hn := number_f (strOfNums T) m hsz (by rw [hb]; exact plain_all c0)
    rw [hb] at hn
    cases m with
    | false =>
      simp only [Bool.false_eq_true, if_false, false_and, not_false_eq_true, and_true, if_pos c0]
      exact Ev_bind hn (Ev.now _)
    | true =>
      simp only [if_true, true_and]
      by_cases c1 : (strOfNums T).toList = ([48] : List UInt8)
      · have c2 : T = [48] := by
          have := (by_toList (strOfNums T) [48]).1 c1
          rw [hb] at this
          exact this
        simp only [if_pos c1]
        rw [if_neg (by rintro ⟨_, h⟩; exact h c2)]
        exact Ev.now _
      · have c2 : ¬ T = [48] := by
          intro h
          apply c1
          rw [by_toList, hb, h]
          rfl
        simp only [if_neg c1]
        rw [if_pos ⟨c0, c2⟩]
        exact Ev_bind hn (Ev.now _)
  · simp only [if_neg c0]
    rw [if_neg (fun h => c0 h.1)]
    exact Ev.now _
theorem plain_zero {w : List Int} (h : plainL w = true) (h0 : numV 0 w = 0) : w = [48] := by
  have ha := plain_all h
  unfold plainL at h
  rcases w with _ | ⟨x, r⟩
  · simp at h
  · have hx := dig_rng (ha x (by simp))
    have hm := numV_mono r (x - 48) (by omega) fun y hy => ha y (by simp [hy])
    have he : numV 0 (x :: r) = numV (x - 48) r := by
      unfold numV
      rw [List.foldl_cons]
      congr 1
      omega
    rw [he] at h0
    obtain rfl : x = 48 := by omega
    rcases r with _ | ⟨y, r⟩
    · rfl
    · simp at h
end Go.Proofs.YtieifncibojciaaDoor.P
end
section
namespace Go.Proofs.YtieifncibojciaaDoor.P
set_option linter.unusedVariables false
set_option linter.unusedSimpArgs false
open Go.RowKit Go.Proofs.YtieifncibojciaaDoorW.PrintWords Go.Proofs.YtieifncibojciaaDoorW.PrintMore Go.Proofs.YtieifncibojciaaDoor.X
def digs (n : Nat) : List Int := if n < 10 then [48 + (n : Int)] else digs (n / 10) ++ [48 + ((n % 10 : Nat) : Int)]
termination_by n
decreasing_by omega
theorem digs_lt {n : Nat} (h : n < 10) : digs n = [48 + (n : Int)] := by rw [digs, if_pos h]
theorem digs_ge {n : Nat} (h : 10 ≤ n) : digs n = digs (n / 10) ++ [48 + ((n % 10 : Nat) : Int)] := by rw [digs, if_neg (by omega)]
theorem digs_ind {p : Nat → Prop} (h0 : ∀ n, n < 10 → p n) (h1 : ∀ n, 10 ≤ n → p (n / 10) → p n) (n : Nat) : p n := by
  induction n using Nat.strongRecOn with
  | _ n ih =>
    by_cases h : n < 10
    · exact h0 n h
    · exact h1 n (by omega) (ih _ (by omega))
theorem digitB_of {x : Int} (h1 : 48 ≤ x) (h2 : x ≤ 57) : digitB x = true := by
  unfold digitB
  rw [decide_eq_true h1, decide_eq_true h2, Bool.and_true]
theorem digs_all (n : Nat) : ∀ x ∈ digs n, digitB x = true := by
  induction n using digs_ind with
  | h0 n h =>
    rw [digs_lt h]
    intro x hx
    obtain rfl := List.mem_singleton.1 hx
    exact digitB_of (by omega) (by omega)
  | h1 n h ih =>
    rw [digs_ge h]
    intro x hx
    rcases List.mem_append.1 hx with h2 | h2
    · exact ih x h2
    · obtain rfl := List.mem_singleton.1 h2
      exact digitB_of (by omega) (by omega)
theorem digs_rng (n : Nat) : ∀ x ∈ digs n, 0 ≤ x ∧ x < 256 := fun x hx => by have := dig_rng (digs_all n x hx); omega
theorem digs_len : ∀ (k n : Nat), 0 < k → n < 10 ^ k → (digs n).length ≤ k
  | 0, n, h, _ => absurd h (by decide)
  | k + 1, n, _, h => by
    by_cases h2 : n < 10
    · rw [digs_lt h2]; simp
    · rw [digs_ge (by omega)]
      have hk : 0 < k := by
        rcases Nat.eq_zero_or_pos k with rfl | h3
        · simp at h; omega
        · exact h3
      have := digs_len k (n / 10) hk (by rw [Nat.pow_succ] at h; omega)
      simp only [List.length_append, List.length_cons, List.length_nil]
      omega
theorem decL_digs : ∀ (k : Nat) (u : Int) (acc : List Int), 0 < k → 0 ≤ u → u < 10 ^ k → decL k u acc = digs u.toNat ++ acc
  | 0, u, acc, h, _, _ => absurd h (by decide)
  | k + 1, u, acc, _, h0, h1 => by
    unfold decL
    by_cases c : u / 10 = 0
    · rw [if_pos c, digs_lt (by omega), show 48 + u % 10 = 48 + (u.toNat : Int) by omega]
      rfl
    · rw [if_neg c, digs_ge (by omega)]
      have hk : 0 < k := by
        rcases Nat.eq_zero_or_pos k with rfl | h3
        · simp at h1; omega
        · exact h3
      rw [decL_digs k (u / 10) _ hk (by omega) (by rw [Int.pow_succ] at h1; omega), show (u / 10).toNat = u.toNat / 10 by omega, show 48 + u % 10 = 48 + ((u.toNat % 10 : Nat) : Int) by omega, List.append_assoc]
      rfl
theorem decimal_f (u : Int) (h0 : 0 ≤ u) (h1 : u < 18446744073709551616) : words_decimal.f u = some (strOfNums (digs u.toNat)) := by
  unfold words_decimal.f
  rw [if_pos ⟨h0, h1⟩, decL_digs 20 u [] (by decide) h0 (by omega), List.append_nil]
def sgnL (n : Int) : List Int := if n < 0 then [45] else []
theorem len20 (n : Nat) (h : n < 18446744073709551616) : (digs n).length ≤ 20 := digs_len 20 n (by decide) (by omega)
def textL (n : Int) : List Int := sgnL n ++ digs n.natAbs
theorem wsize_f (n : Int) (h1 : -9223372036854775808 ≤ n) (h2 : n ≤ 9223372036854775807) : words_size.f n = some ((n.natAbs : Int), strOfNums (sgnL n)) := by
  unfold words_size.f sgnL
  by_cases c : n < 0
  · rw [if_pos c, if_pos c]
    have : IntKind.u64.wrap (-(IntKind.u64.wrap n)) = (n.natAbs : Int) := by
      simp only [IntKind.wrap, IntKind.bits, IntKind.signed, Bool.false_and, Bool.false_eq_true, if_false]
      omega
    rw [this]
    rfl
  · rw [if_neg c, if_neg c]
    have : IntKind.u64.wrap n = (n.natAbs : Int) := by
      simp only [IntKind.wrap, IntKind.bits, IntKind.signed, Bool.false_and, Bool.false_eq_true, if_false]
      omega
    rw [this]
    rfl
theorem flat_join (l : List ByteArray) : bytesOf ⟨(Lib.join (l.map (·.data.toList)) (⟨#[]⟩ : ByteArray).data.toList).toArray⟩ = (l.map bytesOf).flatten := by
  unfold bytesOf
  show ((Lib.join (l.map (·.data.toList)) []).toArray.toList).map _ = _
  rw [List.toList_toArray]
  unfold Lib.join
  rw [List.intercalate]
  have e : ∀ m : List (List UInt8), (List.intersperse [] m).flatten = m.flatten := by
    intro m
    induction m with
    | nil => rfl
    | cons x r ih =>
      cases r with
      | nil => rfl
      | cons y r =>
        simp only [List.intersperse_cons_cons, List.flatten_cons, List.nil_append] at ih ⊢
        rw [ih]
  rw [e, List.map_flatten, List.map_map]
  rfl
theorem join0_f (l : List ByteArray) (h : (l.map bytesOf).flatten.length ≤ 140737488355328) (h2 : l.length ≤ 140737488355328) : strings_Join.f l (⟨#[]⟩ : ByteArray) = some (strOfNums (l.map bytesOf).flatten) := by
  unfold strings_Join.f
  have e := flat_join l
  have hl : (Lib.join (l.map (·.data.toList)) (⟨#[]⟩ : ByteArray).data.toList).length = (l.map bytesOf).flatten.length := by
    rw [← e, by_len]
    rfl
  rw [if_pos ⟨by rw [hl]; exact h, h2⟩]
  congr 1
  apply by_inj
  rw [e, by_str]
  intro x hx
  obtain ⟨y, hy, hx⟩ := List.mem_flatten.1 hx
  obtain ⟨s, _, rfl⟩ := List.mem_map.1 hy
  exact by_rng s x hx
theorem sgn_rng (n : Int) : ∀ x ∈ sgnL n, 0 ≤ x ∧ x < 256 := by
  unfold sgnL
  intro x hx
  split at hx
  · obtain rfl := List.mem_singleton.1 hx; omega
  · cases hx
theorem sgn_len (n : Int) : (sgnL n).length ≤ 1 := by
  unfold sgnL
  split <;> simp
theorem bnd {α β : Type} {x : Option α} {a : α} {f : α → Option β} {r : Option β} (h : x = some a) (k : f a = r) : x.bind f = r := by rw [h]; exact k
theorem dec_nat (n : Nat) (h : n < 18446744073709551616) : words_decimal.f (n : Int) = some (strOfNums (digs n)) := by
  have := decimal_f (n : Int) (by omega) (by omega)
  rwa [Int.toNat_natCast] at this
theorem text_join (n : Int) (h1 : -9223372036854775808 ≤ n) (h2 : n ≤ 9223372036854775807) : strings_Join.f [strOfNums (sgnL n), strOfNums (digs n.natAbs)] (⟨#[]⟩ : ByteArray) = some (strOfNums (textL n)) := by
  have e : ([strOfNums (sgnL n), strOfNums (digs n.natAbs)].map bytesOf).flatten = textL n := by
    simp only [List.map_cons, List.map_nil, List.flatten_cons, List.flatten_nil, List.append_nil]
    rw [by_str _ (sgn_rng n), by_str _ (digs_rng _), textL]
  have hl : (textL n).length ≤ 140737488355328 := by
    unfold textL
    rw [List.length_append]
    have := sgn_len n
    have := len20 n.natAbs (by omega)
    omega
  rw [join0_f _ (by rw [e]; exact hl) (by simp), e]
theorem text_f (n : Int) (h1 : -9223372036854775808 ≤ n) (h2 : n ≤ 9223372036854775807) : words_Text.f n = some (strOfNums (textL n)) := by
  unfold words_Text.f words_together.f
  refine bnd (wsize_f n h1 h2) ?_
  refine bnd (dec_nat n.natAbs (by omega)) ?_
  exact bnd (bnd (text_join n h1 h2) (Eq.refl _)) (Eq.refl _)
theorem digs_size (n : Nat) (h : n < 18446744073709551616) : (strOfNums (digs n)).size ≤ 20 := by
  rw [strOfNums_size]
  exact digs_len 20 n (by decide) (by omega)
end Go.Proofs.YtieifncibojciaaDoor.P
end
section
namespace Go.Proofs.YtieifncibojciaaDoor.P
set_option linter.unusedVariables false
set_option linter.unusedSimpArgs false
open Go.RowKit Go.Proofs.YtieifncibojciaaDoorW.PrintWords Go.Proofs.YtieifncibojciaaDoorW.PrintMore Go.Proofs.YtieifncibojciaaDoor.X
def textS (n : Int) : ByteArray := strOfNums (textL n)
theorem textS_size (n : Int) (h1 : -9223372036854775808 ≤ n) (h2 : n ≤ 9223372036854775807) : (textS n).size ≤ 21 := by
  unfold textS
  rw [strOfNums_size]
  unfold textL
  rw [List.length_append]
  have := sgn_len n
  have := len20 n.natAbs (by omega)
  omega
def I64 (n : Int) : Prop := -9223372036854775808 ≤ n ∧ n ≤ 9223372036854775807
end Go.Proofs.YtieifncibojciaaDoor.P
end
section
namespace Go.Proofs.YtieifncibojciaaDoor.P
set_option linter.unusedVariables false
set_option linter.unusedSimpArgs false
open Go.RowKit Go.Proofs.YtieifncibojciaaDoorW.PrintWords Go.Proofs.YtieifncibojciaaDoorW.PrintMore Go.Proofs.YtieifncibojciaaDoor.X
theorem rdigits_loop (s : ByteArray) (hs : s.size ≤ 4611686018427387904) : ∀ (d i : Nat), i + d = s.size → Ev (fun k => contangoref03_digits.l0 k s i) (((bytesOf s).drop i).all digitB && (decide (s.size = 1) || (decide (1 < s.size) && bt s 0 != 48)))
  | 0, i, hd => by
    refine Ev_succ ?_
    simp only [contangoref03_digits.l0, if_neg (show ¬ ((i : Int) < (s.size : Int)) by omega)]
    rw [by_end s i (by omega)]
    simp only [List.all_nil, Bool.true_and]
    by_cases c : (s.size : Int) = 1
    · simp only [if_pos c, decide_eq_true (show s.size = 1 by omega), Bool.true_or]
      exact Ev.now _
    · simp only [if_neg c, decide_eq_false (show ¬ s.size = 1 by omega), Bool.false_or]
      by_cases c2 : (s.size : Int) > 1
      · simp only [if_pos c2, if_pos (show 0 < (s.size : Int) by omega), decide_eq_true (show 1 < s.size by omega), Bool.true_and]
        exact Ev.now _
      · simp only [if_neg c2, decide_eq_false (show ¬ 1 < s.size by omega), Bool.false_and]
        exact Ev.now _
  | d + 1, i, hd => by
    have hi : i < s.size := by omega
    have ih := rdigits_loop s hs d (i + 1) (by omega)
    refine Ev_succ ?_
    simp only [contangoref03_digits.l0, if_pos (show (i : Int) < (s.size : Int) by omega), if_pos (show 0 ≤ (i : Int) by omega), w_succ hi (by omega)]
    rw [by_drop s i hi, List.all_cons]
    by_cases c1 : bt s (i : Int) < 48
    · have : digitB (bt s (i : Int)) = false := by
        unfold digitB
        rw [decide_eq_false (by omega), Bool.false_and]
      simp only [if_pos c1, this, Bool.false_and]
      exact Ev.now _
    · simp only [if_neg c1]
      by_cases c2 : bt s (i : Int) > 57
      · have : digitB (bt s (i : Int)) = false := by
          unfold digitB
          rw [decide_eq_false (show ¬ bt s (i : Int) ≤ 57 by omega), Bool.and_false]
        simp only [if_pos c2, this, Bool.false_and]
        exact Ev.now _
      · have : digitB (bt s (i : Int)) = true := by
          unfold digitB
          rw [decide_eq_true (by omega), decide_eq_true (by omega), Bool.true_and]
        simp only [if_neg c2, this, Bool.true_and]
        exact ih
theorem rdigits_f (s : ByteArray) (hs : s.size ≤ 4611686018427387904) : Ev (fun k => contangoref03_digits.f k s) (plainL (bytesOf s)) := by
  have h := rdigits_loop s hs s.size 0 (by omega)
  have e : (((bytesOf s).drop 0).all digitB && (decide (s.size = 1) || (decide (1 < s.size) && bt s 0 != 48))) = plainL (bytesOf s) := by
    rw [List.drop_zero]
    unfold plainL
    rcases Nat.eq_zero_or_pos s.size with h0 | h0
    · have h4 : bytesOf s = [] := List.length_eq_zero_iff.1 (by rw [by_len]; omega)
      rw [h4, h0]
      rfl
    · have h2 : (bytesOf s).isEmpty = false := by
        have : bytesOf s ≠ [] := by
          intro h
          have := congrArg List.length h
          rw [by_len] at this
          have h5 : s.size = 0 := this
          omega
        simpa using this
      rw [h2, bt_head s h0, by_len, Bool.and_comm]
      simp only [Bool.not_false, Bool.true_and]
      congr 1
      by_cases c : s.size = 1
      · rw [c]; simp
      · rw [decide_eq_false c, decide_eq_true (show 1 < s.size by omega)]
        simp [bne]
  rw [← e]
  unfold contangoref03_digits.f
  exact h
theorem value_loop (s : ByteArray) (hs : s.size ≤ 4611686018427387904) (hall : ∀ x ∈ bytesOf s, digitB x = true) : ∀ (d i : Nat) (n : Int), i + d = s.size → 0 ≤ n → n ≤ 1152921504606846979 → ∃ r, Ev (fun k => contangoref03_value.l0 k s n i) r ∧ ((numV n ((bytesOf s).drop i) ≤ 1152921504606846976 ∧ r = numV n ((bytesOf s).drop i)) ∨ (1152921504606846976 < numV n ((bytesOf s).drop i) ∧ 1152921504606846976 < r))
  | 0, i, n, hd, h0, h1 => by
    refine ⟨n, Ev_succ ?_, ?_⟩
    · simp only [contangoref03_value.l0, if_neg (show ¬ ((i : Int) < (s.size : Int)) by omega)]
      exact Ev.now _
    · rw [by_end s i (by omega)]
      show (n ≤ 1152921504606846976 ∧ n = n) ∨ (1152921504606846976 < n ∧ 1152921504606846976 < n)
      rcases Int.lt_or_le 1152921504606846976 n with h | h
      · exact Or.inr ⟨h, h⟩
      · exact Or.inl ⟨h, rfl⟩
  | d + 1, i, n, hd, h0, h1 => by
    have hi : i < s.size := by omega
    have hb : digitB (bt s (i : Int)) = true := hall _ (by
      have h' : i < (bytesOf s).length := by rw [by_len]; exact hi
      rw [by_bt s i h']
      exact List.getElem_mem h')
    have hb2 := dig_rng hb
    have hr : ∀ x ∈ (bytesOf s).drop (i + 1), digitB x = true := fun x hx => hall x (List.mem_of_mem_drop hx)
    have hm := numV_mono ((bytesOf s).drop (i + 1)) (10 * n + (bt s (i : Int) - 48)) (by omega) hr
    have hc : numV n (bt s (i : Int) :: (bytesOf s).drop (i + 1)) = numV (10 * n + (bt s (i : Int) - 48)) ((bytesOf s).drop (i + 1)) := rfl
    rw [by_drop s i hi, hc]
    by_cases c : n > 115292150460684697
    · refine ⟨1152921504606846977, Ev_succ ?_, ?_⟩
      · simp only [contangoref03_value.l0, if_pos (show (i : Int) < (s.size : Int) by omega), if_pos c]
        exact Ev.now _
      · omega
    · have hw : wrap64 (wrap64 (10 * n) + (bt s (i : Int) - 48)) = 10 * n + (bt s (i : Int) - 48) := by
        rw [w_id (x := 10 * n) (by omega) (by omega), w_id (by omega) (by omega)]
      obtain ⟨r, h2, h3⟩ := value_loop s hs hall d (i + 1) (10 * n + (bt s (i : Int) - 48)) (by omega) (by omega) (by omega)
      refine ⟨r, Ev_succ ?_, h3⟩
      simp only [contangoref03_value.l0, if_pos (show (i : Int) < (s.size : Int) by omega), if_neg c, if_pos (show 0 ≤ (i : Int) by omega), w_succ hi (by omega), Int.emod_eq_of_lt (show 0 ≤ bt s (i : Int) - 48 by omega) (show bt s (i : Int) - 48 < 256 by omega), hw]
      exact h2
def sgnR (v : Int) (m : Bool) : Int × Int := if m = true ∧ v = 0 then (0, 5) else if 1152921504606846976 < v then (0, 3) else (if m then -v else v, 0)
theorem rsigned_f (v : Int) (m : Bool) (h0 : 0 ≤ v) : Ev (fun k => contangoref03_signed.f k v m) (sgnR v m) := by
  have hj : ∀ b : Bool, b = (m && v == 0) → Ev (fun k => contangoref03_signed.j0 k v m b) (sgnR v m) := by
    intro b hb
    refine Ev_succ ?_
    unfold sgnR
    subst hb
    cases m with
    | false =>
      simp only [contangoref03_signed.j0, Bool.false_and, Bool.false_eq_true, if_false, false_and]
      by_cases c2 : v > 1152921504606846976
      · simp only [if_pos c2]
        exact Ev.now _
      · simp only [if_neg c2]
        exact Ev.now _
    | true =>
      by_cases c : v = 0
      · simp only [contangoref03_signed.j0, c, beq_self_eq_true, Bool.and_self, if_true, and_self]
        exact Ev.now _
      · have c' : (v == 0) = false := by simpa using c
        simp only [contangoref03_signed.j0, c', Bool.and_false, Bool.false_eq_true, if_false, c, and_false, if_true]
        by_cases c2 : v > 1152921504606846976
        · simp only [if_pos c2]
          exact Ev.now _
        · simp only [if_neg c2, neg_w v h0 (show v ≤ 1152921504606846976 by omega)]
          exact Ev.now _
  unfold contangoref03_signed.f
  cases m with
  | false => simp only [Bool.false_eq_true, if_false]; exact hj _ (by simp)
  | true => simp only [if_true]; exact hj _ (by simp)
theorem vs_f (s : ByteArray) (m : Bool) (hs : s.size ≤ 4611686018427387904) (hall : ∀ x ∈ bytesOf s, digitB x = true) : Ev (fun k => (contangoref03_value.f k s).bind fun t102 => ((contangoref03_signed.f k t102 m).bind fun bt103 => (some (bt103.1, bt103.2)))) (sgnR (numV 0 (bytesOf s)) m) := by
  obtain ⟨r, h1, h2⟩ := value_loop s hs hall s.size 0 0 (by omega) (by omega) (by omega)
  rw [List.drop_zero] at h2
  have hv := numV_mono (bytesOf s) 0 (by omega) hall
  have hr0 : 0 ≤ r := by omega
  have he : sgnR r m = sgnR (numV 0 (bytesOf s)) m := by
    rcases h2 with ⟨h2, rfl⟩ | ⟨h2, h3⟩
    · rfl
    · unfold sgnR
      rw [if_neg (show ¬ (m = true ∧ r = 0) from fun h => by have := h.2; omega), if_neg (show ¬ (m = true ∧ numV 0 (bytesOf s) = 0) from fun h => by have := h.2; omega), if_pos h3, if_pos h2]
  rw [← he]
  refine Ev_bind (f := fun k t102 => ((contangoref03_signed.f k t102 m).bind fun bt103 => (some (bt103.1, bt103.2)))) h1 ?_
  exact Ev_bind (rsigned_f r m hr0) (Ev.now _)
def rintT (T : List Int) (m : Bool) : Int × Int := if plainL T = true then sgnR (numV 0 T) m else (0, 5)
theorem rint_j1 (s : ByteArray) (m : Bool) (hs : s.size ≤ 4611686018427387904) : Ev (fun k => contangoref03_Int.j1 k s m) (rintT (bytesOf s) m) := by
  refine Ev_succ ?_
  simp only [contangoref03_Int.j1]
  refine Ev_bind (rdigits_f s hs) ?_
  unfold rintT
  by_cases c : plainL (bytesOf s) = true
  · simp only [if_pos c]
    exact vs_f s m hs (plain_all c)
  · simp only [if_neg c]
    exact Ev.now _
theorem unsign_ext (s : ByteArray) (h : (bytesOf s).head? = some 45) : bytesOf (s.extract 1 s.size) = (bytesOf s).tail := by
  rw [by_ext, ← by_len, List.take_length, List.drop_one]
theorem rint_f (s : ByteArray) (hs : s.size ≤ 4611686018427387904) : Ev (fun k => contangoref03_Int.f k s) (rintT (unsign (bytesOf s)).1 (unsign (bytesOf s)).2) := by
  have hj : ∀ b : Bool, b = decide ((bytesOf s).head? = some 45) → Ev (fun k => contangoref03_Int.j0 k s b) (rintT (unsign (bytesOf s)).1 (unsign (bytesOf s)).2) := by
    intro b hb
    refine Ev_succ ?_
    unfold unsign
    by_cases c : (bytesOf s).head? = some 45
    · rw [decide_eq_true c] at hb
      subst hb
      rw [if_pos c]
      have h3 : 0 < s.size := by
        rw [← by_len]
        rcases hb : bytesOf s with _ | ⟨x, r⟩
        · rw [hb] at c; simp at c
        · simp
      simp only [contangoref03_Int.j0, if_true, if_pos (show 1 ≤ (s.size : Int) by omega)]
      have := rint_j1 (s.extract 1 s.size) true (by rw [ByteArray.size_extract]; omega)
      rw [unsign_ext s c] at this
      exact this
    · rw [decide_eq_false c] at hb
      subst hb
      rw [if_neg c]
      simp only [contangoref03_Int.j0, Bool.false_eq_true, if_false]
      exact rint_j1 s false hs
  unfold contangoref03_Int.f
  by_cases c : (s.size : Int) > 0
  · simp only [if_pos c, if_pos (show 0 < (s.size : Int) by omega)]
    refine hj _ ?_
    rw [bt_head s (by omega)]
    rw [Bool.eq_iff_iff]
    simp
  · simp only [if_neg c]
    refine hj _ ?_
    have h4 : bytesOf s = [] := List.length_eq_zero_iff.1 (by rw [by_len]; omega)
    rw [h4]
    rfl
theorem int_same (L : List Int) : intL L = rintT (unsign L).1 (unsign L).2 := by
  unfold intL rintT sgnR numR
  generalize (unsign L).2 = m
  generalize (unsign L).1 = T
  by_cases c : plainL T = true
  · rw [if_pos c]
    by_cases c2 : m = true ∧ T = [48]
    · rw [if_neg (fun h => h.2 c2), if_pos ⟨c2.1, by rw [c2.2]; rfl⟩]
    · rw [if_pos ⟨c, c2⟩, if_neg (show ¬ (m = true ∧ numV 0 T = 0) from fun h => c2 ⟨h.1, plain_zero c h.2⟩)]
  · rw [if_neg (fun h => c h.1), if_neg c]
end Go.Proofs.YtieifncibojciaaDoor.P
end
section
namespace Go.Proofs.YtieifncibojciaaDoor.P
set_option linter.unusedVariables false
set_option linter.unusedSimpArgs false
open Go.RowKit Go.Proofs.YtieifncibojciaaDoorW.PrintWords Go.Proofs.YtieifncibojciaaDoorW.PrintMore Go.Proofs.YtieifncibojciaaDoor.X
theorem rtext_step (n : Int) (h0 : n ≤ 0) (h1 : -9223372036854775808 ≤ n) (ih : ¬ n > -10 → Ev (fun k => contangoref03_text.f k (-((-n) / 10))) (strOfNums (digs ((-n).toNat / 10)))) : Ev (fun k => contangoref03_text.f k n) (strOfNums (digs (-n).toNat)) := by
  refine Ev_succ ?_
  have hm : Int.tmod n 10 = -((-n) % 10) := by
    have := Int.neg_tmod (a := -n) (b := 10)
    rw [Int.neg_neg] at this
    rw [this, Int.tmod_eq_emod_of_nonneg (by omega)]
  have hq : Int.tdiv n 10 = -((-n) / 10) := by
    have := Int.neg_tdiv (-n) 10
    rw [Int.neg_neg] at this
    rw [this, Int.tdiv_eq_ediv_of_nonneg (by omega)]
  have hw : wrap64 (48 - Int.tmod n 10) % 256 = 48 + (-n) % 10 := by rw [hm, w_id (by omega) (by omega)]; omega
  have hw2 : wrap64 (Int.tdiv n 10) = -((-n) / 10) := by rw [hq, w_id (by omega) (by omega)]
  simp only [contangoref03_text.f, Option.bind_some, hw, hw2]
  by_cases c : n > -10
  · simp only [if_pos c]
    rw [digs_lt (by omega), show (48 + (((-n).toNat : Nat) : Int)) = 48 + (-n) % 10 by omega]
    exact Ev.now _
  · simp only [if_neg c]
    refine Ev_bind (ih c) ?_
    have hp : (-n).toNat / 10 < 10 ^ 20 := by omega
    have hsz := digs_len 20 ((-n).toNat / 10) (by decide) hp
    have hs1 : (strOfNums (digs ((-n).toNat / 10))).size + (strOfNums [48 + (-n) % 10]).size ≤ 9223372036854775807 := by
      rw [strOfNums_size, strOfNums_size]
      simp only [List.length_cons, List.length_nil]
      omega
    have he : digs (-n).toNat = digs ((-n).toNat / 10) ++ [48 + (-n) % 10] := by
      rw [digs_ge (n := (-n).toNat) (by omega), show (48 + (((-n).toNat % 10 : Nat) : Int)) = 48 + (-n) % 10 by omega]
    rw [if_pos hs1, he, str_app]
    exact Ev.now _
theorem rtext_all : ∀ (d : Nat) (n : Int), n ≤ 0 → -9223372036854775808 ≤ n → (-n).toNat < 10 ^ (d + 1) → Ev (fun k => contangoref03_text.f k n) (strOfNums (digs (-n).toNat))
  | 0, n, h0, h1, h2 => rtext_step n h0 h1 fun c => by rw [Nat.zero_add, Nat.pow_one] at h2; omega
  | d + 1, n, h0, h1, h2 => rtext_step n h0 h1 fun c => by
    have hp : (- -((-n) / 10)).toNat < 10 ^ (d + 1) := by rw [Nat.pow_succ] at h2; omega
    have := rtext_all d (-((-n) / 10)) (by omega) (by omega) hp
    rwa [show (- -((-n) / 10)).toNat = (-n).toNat / 10 by omega] at this
theorem rtext_f (n : Int) (h0 : n ≤ 0) (h1 : -9223372036854775808 ≤ n) : Ev (fun k => contangoref03_text.f k n) (strOfNums (digs (-n).toNat)) := rtext_all 19 n h0 h1 (by omega)
theorem rText_f (n : Int) (h1 : -9223372036854775808 ≤ n) (h2 : n ≤ 9223372036854775807) : Ev (fun k => contangoref03_Text.f k n) (strOfNums (textL n)) := by
  unfold contangoref03_Text.f textL sgnL
  rw [str_app]
  by_cases c : n < 0
  · simp only [if_pos c]
    refine Ev_bind (rtext_f n (by omega) h1) ?_
    have e : (-n).toNat = n.natAbs := by omega
    rw [e]
    have := digs_size n.natAbs (by omega)
    rw [if_pos (by omega)]
    exact Ev.now _
  · simp only [if_neg c]
    rw [w_id (x := -n) (by omega) (by omega)]
    refine Ev_bind (rtext_f (-n) (by omega) (by omega)) ?_
    have e : (- -n).toNat = n.natAbs := by omega
    rw [e, show strOfNums [] ++ strOfNums (digs n.natAbs) = strOfNums (digs n.natAbs) by rw [← str_app]; rfl]
    exact Ev.now _
end Go.Proofs.YtieifncibojciaaDoor.P
end
section
namespace Go.Proofs.YtieifncibojciaaDoor.P
set_option linter.unusedVariables false
set_option linter.unusedSimpArgs false
open Go.RowKit Go.Proofs.YtieifncibojciaaDoorW.PrintWords Go.Proofs.YtieifncibojciaaDoorW.PrintMore Go.Proofs.YtieifncibojciaaDoor.X
theorem ext_cur (s : ByteArray) (a b : Nat) : s.extract a b = strOfNums (((bytesOf s).take b).drop a) := by
  apply by_inj
  rw [by_ext, by_str]
  intro x hx
  exact by_rng s x (List.mem_of_mem_take (List.mem_of_mem_drop hx))
theorem cur_drop (s : ByteArray) (a i : Nat) (h : a ≤ i) (hi : i ≤ s.size) : (bytesOf s).drop a = ((bytesOf s).take i).drop a ++ (bytesOf s).drop i := by
  conv => lhs; rw [← List.take_append_drop i (bytesOf s)]
  rw [List.drop_append_of_le_length]
  rw [List.length_take, by_len]
  omega
theorem cur_succ (s : ByteArray) (a i : Nat) (h : a ≤ i) (hi : i < s.size) : ((bytesOf s).take (i + 1)).drop a = ((bytesOf s).take i).drop a ++ [bt s (i : Int)] := by
  have hl : i < (bytesOf s).length := by rw [by_len]; exact hi
  rw [by_bt s i hl, ← List.take_append_getElem hl, List.drop_append_of_le_length]
  rw [List.length_take]
  omega
end Go.Proofs.YtieifncibojciaaDoor.P
end
section
namespace Go.Proofs.YtieifncibojciaaDoor.P
set_option linter.unusedVariables false
set_option linter.unusedSimpArgs false
open Go.RowKit Go.Proofs.YtieifncibojciaaDoorW.PrintWords Go.Proofs.YtieifncibojciaaDoorW.PrintMore Go.Proofs.YtieifncibojciaaDoor.X
abbrev Ser := S23
end Go.Proofs.YtieifncibojciaaDoor.P
end
section
namespace Go.Proofs.YtieifncibojciaaDoor.P
set_option linter.unusedVariables false
set_option linter.unusedSimpArgs false
open Go.RowKit Go.Proofs.YtieifncibojciaaDoorW.PrintWords Go.Proofs.YtieifncibojciaaDoorW.PrintMore Go.Proofs.YtieifncibojciaaDoor.X
def piecesS (s : ByteArray) : List ByteArray := (splitI 46 (bytesOf s)).map strOfNums
theorem split_pieces (s : ByteArray) (hs : s.size < 4294967281) : strings_Split.f s (⟨#[46]⟩ : ByteArray) = some (piecesS s) := by
  obtain ⟨l, h1, h2⟩ := split_f s 46 hs
  rw [h1]
  unfold piecesS
  have e : ((46 : UInt8).toNat : Int) = 46 := rfl
  rw [e] at h2
  rw [← h2, map_str]
theorem split_le (c : Int) : ∀ (L : List Int), ∀ q ∈ splitI c L, q.length ≤ L.length ∧ ∀ x ∈ q, x ∈ L := by
  intro L
  induction L with
  | nil => intro q hq; simp [splitI] at hq; subst hq; simp
  | cons x r ih =>
    intro q hq
    unfold splitI at hq
    split at hq
    · rcases List.mem_cons.1 hq with h | h
      · subst h; simp
      · have := ih q h
        exact ⟨by have := this.1; simp; omega, fun y hy => List.mem_cons_of_mem _ (this.2 y hy)⟩
    · split at hq
      · rename_i p1 q1 he
        rcases List.mem_cons.1 hq with h | h
        · subst h
          have := ih p1 (by rw [he]; simp)
          refine ⟨by have := this.1; simp; omega, fun y hy => ?_⟩
          rcases List.mem_cons.1 hy with e | e
          · subst e; simp
          · exact List.mem_cons_of_mem _ (this.2 y e)
        · have := ih q (by rw [he]; simp [h])
          exact ⟨by have := this.1; simp; omega, fun y hy => List.mem_cons_of_mem _ (this.2 y hy)⟩
      · simp at hq; subst hq; simp
theorem pieces_sz {s : ByteArray} {x : ByteArray} (h : x ∈ piecesS s) : x.size ≤ s.size := by
  unfold piecesS at h
  obtain ⟨p, hp, rfl⟩ := List.mem_map.1 h
  rw [strOfNums_size, ← by_len s]
  exact (split_le 46 _ p hp).1
theorem rpieces_loop (s : ByteArray) (hs : s.size ≤ 4294967280) : ∀ (d i a : Nat) (acc : List ByteArray), i + d = s.size → a ≤ i → (46 : Int) ∉ ((bytesOf s).take i).drop a → acc.length ≤ i → Ev (fun k => contangoref10_Pieces.l0 k s acc a i) (acc ++ (splitI 46 ((bytesOf s).drop a)).map strOfNums)
  | 0, i, a, acc, hd, ha, hno, hac => by
    have hcur := cur_drop s a i ha (by omega)
    rw [by_end s i (by omega), List.append_nil] at hcur
    refine Ev_succ (Ev_succ ?_)
    have w1 : wrap64 ((i : Int) + 1) = (i : Int) + 1 := w_id (by omega) (by omega)
    have n1 : ¬ (i : Int) + 1 ≤ (s.size : Int) := by omega
    simp only [contangoref10_Pieces.l0, if_pos (show (i : Int) ≤ (s.size : Int) by omega), if_pos (show (i : Int) = (s.size : Int) by omega), if_pos (show 0 ≤ (a : Int) by omega), if_pos (show (a : Int) ≤ (i : Int) by omega), if_pos (show (a : Int) ≤ (s.size : Int) by omega), if_pos (show acc.length < 8796093022208 by omega), Int.toNat_natCast, w1, if_neg n1]
    rw [hcur, splitI_none hno, ext_cur]
    have e : i = s.size := by omega
    subst e
    simp only [Int.toNat_natCast, if_pos (show acc.length < 8796093022208 by omega), w1, if_neg n1, List.map_cons, List.map_nil]
    first | exact Ev.now _ | (rw [if_neg n1]; exact Ev.now _)
  | d + 1, i, a, acc, hd, ha, hno, hac => by
    have hi : i < s.size := by omega
    have hcur := cur_drop s a i ha (by omega)
    rw [by_drop s i hi] at hcur
    refine Ev_succ ?_
    have w1 : wrap64 ((i : Int) + 1) = ((i + 1 : Nat) : Int) := w_succ hi (by omega)
    simp only [contangoref10_Pieces.l0, if_pos (show (i : Int) ≤ (s.size : Int) by omega), if_neg (show ¬ (i : Int) = (s.size : Int) by omega), if_pos (show 0 ≤ (i : Int) by omega), if_pos (show (i : Int) < (s.size : Int) by omega)]
    by_cases c : bt s (i : Int) = 46
    · simp only [if_pos c, if_pos (show 0 ≤ (a : Int) by omega), if_pos (show (a : Int) ≤ (i : Int) by omega), if_pos (show acc.length < 8796093022208 by omega), Int.toNat_natCast, w1]
      rw [hcur, c, splitI_app _ hno, ext_cur]
      have ih := rpieces_loop s hs d (i + 1) (i + 1) (acc ++ [strOfNums (((bytesOf s).take i).drop a)]) (by omega) (by omega) (by rw [List.drop_of_length_le (by rw [List.length_take]; omega)]; simp) (by simp; omega)
      rw [List.append_assoc] at ih
      exact ih
    · simp only [if_neg c, w1]
      refine rpieces_loop s hs d (i + 1) a acc (by omega) (by omega) ?_ (by omega)
      rw [cur_succ s a i ha hi]
      simp only [List.mem_append, List.mem_singleton, not_or]
      exact ⟨hno, fun e => c e.symm⟩
theorem rpieces_f (s : ByteArray) (hs : s.size ≤ 4294967280) : Ev (fun k => contangoref10_Pieces.f k s) (piecesS s) := by
  have := rpieces_loop s hs s.size 0 0 [] (by omega) (by omega) (by simp) (by simp)
  unfold contangoref10_Pieces.f piecesS
  simpa using this
theorem numV_cons (n x : Int) (L : List Int) : numV n (x :: L) = numV (10 * n + (x - 48)) L := by unfold numV; rw [List.foldl_cons]
theorem sdig_bad (s : ByteArray) (hs : s.size ≤ 4611686018427387904) : ∀ (d i : Nat) (n : Int), i + d = s.size → ((bytesOf s).drop i).all digitB = false → Ev (fun k => series_digits.l0 k s n s.size i) (0, false)
  | 0, i, n, hd, h => by rw [by_end s i (by omega)] at h; exact absurd h (by decide)
  | d + 1, i, n, hd, h => by
    have hi : i < s.size := by omega
    rw [by_drop s i hi, List.all_cons] at h
    have w1 : wrap64 ((i : Int) + 1) = ((i + 1 : Nat) : Int) := w_succ hi (by omega)
    refine Ev_succ ?_
    simp only [series_digits.l0, if_pos (show (i : Int) < (s.size : Int) by omega), if_pos (show 0 ≤ (i : Int) by omega)]
    by_cases c1 : bt s (i : Int) < 48
    · simp only [if_pos c1]; exact Ev.now _
    by_cases c2 : bt s (i : Int) > 57
    · simp only [if_neg c1, if_pos c2]; exact Ev.now _
    have hb : digitB (bt s (i : Int)) = true := by unfold digitB; simp; omega
    rw [hb, Bool.true_and] at h
    simp only [if_neg c1, if_neg c2, w1]
    exact sdig_bad s hs d (i + 1) _ (by omega) h
theorem sdig_ok (s : ByteArray) (hs : s.size ≤ 4611686018427387904) (hall : ∀ x ∈ bytesOf s, digitB x = true) : ∀ (d i : Nat) (n : Int), i + d = s.size → 0 ≤ n → numV n ((bytesOf s).drop i) ≤ 1000000000 → Ev (fun k => series_digits.l0 k s n s.size i) (numV n ((bytesOf s).drop i), true)
  | 0, i, n, hd, h0, h1 => by
    refine Ev_succ ?_
    rw [by_end s i (by omega)]
    simp only [series_digits.l0, if_neg (show ¬ (i : Int) < (s.size : Int) by omega)]
    exact Ev.now _
  | d + 1, i, n, hd, h0, h1 => by
    have hi : i < s.size := by omega
    have hr := by_drop s i hi
    have hm : ∀ x ∈ (bytesOf s).drop i, digitB x = true := fun x hx => hall x (List.mem_of_mem_drop hx)
    rw [hr] at hm h1 ⊢
    have hb := dig_rng (hm (bt s (i : Int)) (by simp))
    rw [numV_cons] at h1 ⊢
    have hm2 := numV_mono ((bytesOf s).drop (i + 1)) (10 * n + (bt s (i : Int) - 48)) (by omega) fun x hx => hm x (by simp [hx])
    have w1 : wrap64 ((i : Int) + 1) = ((i + 1 : Nat) : Int) := w_succ hi (by omega)
    have w2 : wrap64 (wrap64 (10 * n) + (bt s (i : Int) - 48) % 256) = 10 * n + (bt s (i : Int) - 48) := by
      rw [w_id (x := 10 * n) (by omega) (by omega), show (bt s (i : Int) - 48) % 256 = bt s (i : Int) - 48 by omega]
      exact w_id (by omega) (by omega)
    refine Ev_succ ?_
    simp only [series_digits.l0, if_pos (show (i : Int) < (s.size : Int) by omega), if_pos (show 0 ≤ (i : Int) by omega), if_neg (show ¬ bt s (i : Int) < 48 by omega), if_neg (show ¬ bt s (i : Int) > 57 by omega), w1, w2]
    exact sdig_ok s hs hall d (i + 1) _ (by omega) (by omega) h1
theorem rnum_bad (s : ByteArray) (hs : s.size ≤ 4611686018427387904) : ∀ (d i : Nat) (n : Int), i + d = s.size → ((bytesOf s).drop i).all digitB = false → Ev (fun k => contangoref10_number.l0 k s n i) (-1)
  | 0, i, n, hd, h => by rw [by_end s i (by omega)] at h; exact absurd h (by decide)
  | d + 1, i, n, hd, h => by
    have hi : i < s.size := by omega
    rw [by_drop s i hi, List.all_cons] at h
    have w1 : wrap64 ((i : Int) + 1) = ((i + 1 : Nat) : Int) := w_succ hi (by omega)
    refine Ev_succ ?_
    simp only [contangoref10_number.l0, if_pos (show (i : Int) < (s.size : Int) by omega), if_pos (show 0 ≤ (i : Int) by omega)]
    by_cases c1 : bt s (i : Int) < 48
    · simp only [if_pos c1]; exact Ev.now _
    by_cases c2 : bt s (i : Int) > 57
    · simp only [if_neg c1, if_pos c2]; exact Ev.now _
    have hb : digitB (bt s (i : Int)) = true := by unfold digitB; simp; omega
    rw [hb, Bool.true_and] at h
    simp only [if_neg c1, if_neg c2, w1]
    exact rnum_bad s hs d (i + 1) _ (by omega) h
theorem rnum_ok (s : ByteArray) (hs : s.size ≤ 4611686018427387904) (hall : ∀ x ∈ bytesOf s, digitB x = true) : ∀ (d i : Nat) (n : Int), i + d = s.size → 0 ≤ n → numV n ((bytesOf s).drop i) ≤ 1000000000 → Ev (fun k => contangoref10_number.l0 k s n i) (numV n ((bytesOf s).drop i))
  | 0, i, n, hd, h0, h1 => by
    refine Ev_succ ?_
    rw [by_end s i (by omega)]
    simp only [contangoref10_number.l0, if_neg (show ¬ (i : Int) < (s.size : Int) by omega)]
    exact Ev.now _
  | d + 1, i, n, hd, h0, h1 => by
    have hi : i < s.size := by omega
    have hr := by_drop s i hi
    have hm : ∀ x ∈ (bytesOf s).drop i, digitB x = true := fun x hx => hall x (List.mem_of_mem_drop hx)
    rw [hr] at hm h1 ⊢
    have hb := dig_rng (hm (bt s (i : Int)) (by simp))
    rw [numV_cons] at h1 ⊢
    have hm2 := numV_mono ((bytesOf s).drop (i + 1)) (10 * n + (bt s (i : Int) - 48)) (by omega) fun x hx => hm x (by simp [hx])
    have w1 : wrap64 ((i : Int) + 1) = ((i + 1 : Nat) : Int) := w_succ hi (by omega)
    have w2 : wrap64 (wrap64 (wrap64 (10 * n) + wrap64 (bt s (i : Int))) - 48) = 10 * n + (bt s (i : Int) - 48) := by
      rw [w_id (x := 10 * n) (by omega) (by omega), w_id (x := bt s (i : Int)) (by omega) (by omega), w_id (x := 10 * n + bt s (i : Int)) (by omega) (by omega), w_id (by omega) (by omega)]
      omega
    refine Ev_succ ?_
    simp only [contangoref10_number.l0, if_pos (show (i : Int) < (s.size : Int) by omega), if_pos (show 0 ≤ (i : Int) by omega), if_neg (show ¬ bt s (i : Int) < 48 by omega), if_neg (show ¬ bt s (i : Int) > 57 by omega), w1, w2]
    exact rnum_ok s hs hall d (i + 1) _ (by omega) (by omega) h1
theorem num8 {L : List Int} (h8 : L.length = 8) (hd : ∀ x ∈ L, digitB x = true) : 0 ≤ numV 0 L ∧ numV 0 L ≤ 99999999 := by
  rcases L with _ | ⟨a, _ | ⟨b, _ | ⟨c, _ | ⟨d, _ | ⟨e, _ | ⟨f, _ | ⟨g, _ | ⟨h, _ | ⟨i, r⟩⟩⟩⟩⟩⟩⟩⟩⟩
  case cons.cons.cons.cons.cons.cons.cons.cons.nil =>
    have ha := dig_rng (hd a (by simp)); have hb := dig_rng (hd b (by simp)); have hc := dig_rng (hd c (by simp)); have hd' := dig_rng (hd d (by simp))
    have he := dig_rng (hd e (by simp)); have hf := dig_rng (hd f (by simp)); have hg := dig_rng (hd g (by simp)); have hh := dig_rng (hd h (by simp))
    simp only [numV, List.foldl_cons, List.foldl_nil]
    omega
  all_goals (simp at h8)
theorem sdig_f (s : ByteArray) (h8 : s.size = 8) : Ev (fun k => series_digits.f k s) (if (bytesOf s).all digitB = true then (numV 0 (bytesOf s), true) else (0, false)) := by
  unfold series_digits.f
  by_cases c : (bytesOf s).all digitB = true
  · rw [if_pos c]
    have hall := List.all_eq_true.1 c
    have hb := num8 (by rw [by_len, h8]) hall
    have := sdig_ok s (by omega) hall s.size 0 0 (by omega) (by omega) (by rw [List.drop_zero]; omega)
    rw [List.drop_zero] at this
    exact this
  · rw [if_neg c]
    exact sdig_bad s (by omega) s.size 0 0 (by omega) (by rw [List.drop_zero]; simpa using c)
theorem rnum_f (s : ByteArray) (h8 : s.size = 8) : Ev (fun k => contangoref10_number.f k s) (if (bytesOf s).all digitB = true then numV 0 (bytesOf s) else -1) := by
  unfold contangoref10_number.f
  by_cases c : (bytesOf s).all digitB = true
  · rw [if_pos c]
    have hall := List.all_eq_true.1 c
    have hb := num8 (by rw [by_len, h8]) hall
    have := rnum_ok s (by omega) hall s.size 0 0 (by omega) (by omega) (by rw [List.drop_zero]; omega)
    rw [List.drop_zero] at this
    exact this
  · rw [if_neg c]
    exact rnum_bad s (by omega) s.size 0 0 (by omega) (by rw [List.drop_zero]; simpa using c)
theorem one_byte (s : ByteArray) (c : UInt8) : s.toList = [c] ↔ bytesOf s = [(c.toNat : Int)] := by rw [by_toList]; simp
theorem ext_one (s : ByteArray) (c : UInt8) : (s.extract 0 1).toList = [c] ↔ (bytesOf s).head? = some (c.toNat : Int) := by
  rw [one_byte, by_ext, List.drop_zero]
  cases bytesOf s with
  | nil => simp
  | cons x r => simp
theorem pre_f (s : ByteArray) (c : UInt8) : strings_HasPrefix.f s (⟨#[c]⟩ : ByteArray) = some (decide ((bytesOf s).head? = some (c.toNat : Int))) := by
  unfold strings_HasPrefix.f stringslite_HasPrefix.f
  have e1 : (⟨#[c]⟩ : ByteArray).size = 1 := rfl
  have e2 : (⟨#[c]⟩ : ByteArray).toList = [c] := by rw [ByteArray.toList_eq]
  rw [e1, e2]
  by_cases h : 1 ≤ s.size
  · rw [if_pos (show (s.size : Int) ≥ ((1 : Nat) : Int) by omega), if_pos (by omega), if_pos (show ((1 : Nat) : Int) ≤ (s.size : Int) by omega)]
    have e3 : (((1 : Nat) : Int)).toNat = 1 := rfl
    simp only [e3, Option.bind_some]
    congr 1
    rw [Bool.eq_iff_iff, beq_iff_eq, ext_one, decide_eq_true_iff]
  · rw [if_neg (show ¬ (s.size : Int) ≥ ((1 : Nat) : Int) by omega)]
    have : bytesOf s = [] := List.length_eq_zero_iff.1 (by rw [by_len]; omega)
    rw [this]
    rfl
def kindI (C : List Int) : Int := if C = [102] then 1 else if C.head? = some 99 then 2 else if C.head? = some 112 then 3 else 0
theorem what_f (s : ByteArray) : series_what.f s = some (if kindI (bytesOf s) = 1 then (1, (⟨#[]⟩ : ByteArray), true) else if kindI (bytesOf s) = 0 then (0, (⟨#[]⟩ : ByteArray), false) else (kindI (bytesOf s), s.extract 1 s.size, true)) := by
  unfold series_what.f kindI
  have hs : ∀ c : Int, (bytesOf s).head? = some c → 1 ≤ (s.size : Int) := by
    intro c hc
    have : bytesOf s ≠ [] := fun e => by rw [e] at hc; cases hc
    have := List.length_pos_iff.2 this
    rw [by_len] at this
    omega
  by_cases c1 : s.toList = [102]
  · have c1' : bytesOf s = [102] := (one_byte s 102).1 c1
    rw [if_pos c1, if_pos c1', if_pos rfl]
  · have c1' : ¬ bytesOf s = [102] := fun e => c1 ((one_byte s 102).2 e)
    rw [if_neg c1, if_neg c1', pre_f]
    simp only [Option.bind_some]
    have e99 : ((99 : UInt8).toNat : Int) = 99 := rfl
    have e112 : ((112 : UInt8).toNat : Int) = 112 := rfl
    rw [e99]
    by_cases c2 : (bytesOf s).head? = some 99
    · rw [if_pos c2, if_pos (decide_eq_true c2), if_pos (hs _ c2)]
      rfl
    · rw [if_neg c2, if_neg (by simpa using c2), pre_f, e112]
      simp only [Option.bind_some]
      by_cases c3 : (bytesOf s).head? = some 112
      · rw [if_pos c3, if_pos (decide_eq_true c3), if_pos (hs _ c3)]
        rfl
      · rw [if_neg c3, if_neg (by simpa using c3)]
        rfl
def zS : Ser := ⟨(⟨#[]⟩ : ByteArray), 0, 0, 0⟩
def tS (q : Ser × Int) : ByteArray × Int × Int × Int × Int := (q.1.f0, q.1.f1, q.1.f2, q.1.f3, q.2)
def dayOf (n : Int) : Int × Int := ofV (n / 10000) (n / 100 % 100) (n % 100)
def okForm (a b c : ByteArray) : Prop := nameB a = true ∧ b.size = 8 ∧ (bytesOf b).all digitB = true ∧ kindI (bytesOf c) ≠ 0
instance (a b c : ByteArray) : Decidable (okForm a b c) := inferInstanceAs (Decidable (_ ∧ _ ∧ _ ∧ _))
def parse3 (a b c : ByteArray) : Ser × Int :=
  if okForm a b c then
    (if (dayOf (numV 0 (bytesOf b))).2 = 0 then
      (if kindI (bytesOf c) = 1 then (⟨a, 1, (dayOf (numV 0 (bytesOf b))).1, 0⟩, 0) else
        (if (intL (bytesOf c).tail).2 = 0 then (if (intL (bytesOf c).tail).1 < -16777216 ∨ (intL (bytesOf c).tail).1 > 16777216 then (zS, 17) else (⟨a, kindI (bytesOf c), (dayOf (numV 0 (bytesOf b))).1, (intL (bytesOf c).tail).1⟩, 0)) else (zS, (intL (bytesOf c).tail).2)))
    else (zS, 15))
  else (zS, 5)
def parseL (l : List ByteArray) : Ser × Int := if l.length = 3 then parse3 (rdOf ByteArray.empty l 0) (rdOf ByteArray.empty l 1) (rdOf ByteArray.empty l 2) else (zS, 5)
def parseS (s : ByteArray) : Ser × Int := parseL (piecesS s)
theorem tail_ext (s : ByteArray) : bytesOf (s.extract 1 s.size) = (bytesOf s).tail := by rw [by_ext, ← by_len, List.take_length, List.drop_one]
theorem sparse_j1 (l : List ByteArray) (hl : l.length = 3) (hz : ∀ x ∈ l, x.size ≤ 4611686018427387904) (hf : okForm (rdOf ByteArray.empty l 0) (rdOf ByteArray.empty l 1) (rdOf ByteArray.empty l 2)) (x8 : ByteArray) (h8 : kindI (bytesOf (rdOf ByteArray.empty l 2)) ≠ 1 → x8 = (rdOf ByteArray.empty l 2).extract 1 (rdOf ByteArray.empty l 2).size) :
    Ev (fun k => series_Parse.j1 k l (numV 0 (bytesOf (rdOf ByteArray.empty l 1))) (kindI (bytesOf (rdOf ByteArray.empty l 2))) x8 false (⟨#[]⟩ : ByteArray) 0 0 0) (tS (parse3 (rdOf ByteArray.empty l 0) (rdOf ByteArray.empty l 1) (rdOf ByteArray.empty l 2))) := by
  have hz2 : (rdOf ByteArray.empty l 2).size ≤ 4611686018427387904 := by
    have e : rdOf ByteArray.empty l 2 = l[2]'(by omega) := rdOf_nat _ _ 2 _
    rw [e]; exact hz _ (List.getElem_mem _)
  generalize rdOf ByteArray.empty l 2 = c at *
  generalize rdOf ByteArray.empty l 1 = b at *
  obtain ⟨f1, f2, f3, f4⟩ := hf
  have hn := num8 (by rw [by_len, f2]) (List.all_eq_true.1 f3)
  have hok : okForm (rdOf ByteArray.empty l 0) b c := ⟨f1, f2, f3, f4⟩
  refine Ev_succ ?_
  unfold parse3
  rw [if_pos hok]
  generalize numV 0 (bytesOf b) = n at *
  have q1 : wrap64 (Int.tdiv n 10000) = n / 10000 := by rw [Int.tdiv_eq_ediv_of_nonneg (by omega)]; exact w_id (by omega) (by omega)
  have q2 : wrap64 (Int.tdiv n 100) = n / 100 := by rw [Int.tdiv_eq_ediv_of_nonneg (by omega)]; exact w_id (by omega) (by omega)
  have q3 : Int.tmod (n / 100) 100 = n / 100 % 100 := Int.tmod_eq_emod_of_nonneg (by omega)
  have q4 : Int.tmod n 100 = n % 100 := Int.tmod_eq_emod_of_nonneg (by omega)
  have qd : date_Of.f (n / 10000) (n / 100 % 100) (n % 100) = some (dayOf n) := rfl
  simp only [series_Parse.j1, Bool.false_eq_true, if_false, q1, q2, q3, q4, qd, Option.bind_some]
  by_cases c1 : (dayOf n).2 = 0
  case neg => simp only [if_neg c1]; exact Ev.now _
  simp only [if_pos c1]
  have hl0 : (0 : Int) < (l.length : Int) := by omega
  by_cases c2 : kindI (bytesOf c) = 1
  · simp only [if_pos c2, if_pos hl0]
    rw [c2]
    exact Ev.now _
  · simp only [if_neg c2, h8 c2]
    have hi := int_f (c.extract 1 c.size) (by rw [ByteArray.size_extract]; omega)
    rw [tail_ext] at hi
    refine Ev_bind hi ?_
    by_cases c3 : (intL (bytesOf c).tail).2 = 0
    case neg => simp only [if_neg c3]; exact Ev.now _
    simp only [if_pos c3]
    by_cases c4 : (intL (bytesOf c).tail).1 < -16777216
    · simp only [if_pos c4, if_pos (Or.inl c4 : (intL (bytesOf c).tail).1 < -16777216 ∨ (intL (bytesOf c).tail).1 > 16777216)]; exact Ev.now _
    by_cases c5 : (intL (bytesOf c).tail).1 > 16777216
    · simp only [if_neg c4, if_pos c5, if_pos (Or.inr c5 : (intL (bytesOf c).tail).1 < -16777216 ∨ (intL (bytesOf c).tail).1 > 16777216)]; exact Ev.now _
    have c6 : ¬ ((intL (bytesOf c).tail).1 < -16777216 ∨ (intL (bytesOf c).tail).1 > 16777216) := by omega
    simp only [if_neg c4, if_neg c5, if_neg c6, if_pos hl0]
    exact Ev.now _
theorem parse_f10 (s : ByteArray) (hs : s.size ≤ 4294967280) : Ev (fun k => series_Parse.f k s) (tS (parseS s)) := by
  unfold series_Parse.f parseS
  rw [split_pieces s (by omega)]
  have hz : ∀ x ∈ piecesS s, x.size ≤ 4611686018427387904 := fun x hx => by have := pieces_sz hx; omega
  generalize piecesS s = l at *
  simp only [Option.bind_some]
  have bad : Ev (fun k => series_Parse.j0 k l true (⟨#[]⟩ : ByteArray) 0 0 0) (tS (zS, 5)) := Ev_succ (by simp only [series_Parse.j0, if_true]; exact Ev.now _)
  unfold parseL
  by_cases c0 : l.length = 3
  case neg =>
    rw [if_neg c0]
    simp only [if_neg (show ¬ (l.length : Int) = 3 by omega)]
    exact bad
  rw [if_pos c0]
  simp only [if_pos (show (l.length : Int) = 3 by omega), if_pos (show (0 : Int) < (l.length : Int) by omega)]
  refine Ev_bind (name_f (rdOf ByteArray.empty l 0)) ?_
  have no : ¬ okForm (rdOf ByteArray.empty l 0) (rdOf ByteArray.empty l 1) (rdOf ByteArray.empty l 2) → parse3 (rdOf ByteArray.empty l 0) (rdOf ByteArray.empty l 1) (rdOf ByteArray.empty l 2) = (zS, 5) := fun h => by unfold parse3; rw [if_neg h]
  by_cases c1 : nameB (rdOf ByteArray.empty l 0) = true
  case neg => simp only [if_neg c1]; rw [no fun h => c1 h.1]; exact bad
  simp only [if_pos c1, if_pos (show (1 : Int) < (l.length : Int) by omega)]
  by_cases c2 : (rdOf ByteArray.empty l 1).size = 8
  case neg =>
    have e : (((rdOf ByteArray.empty l 1).size : Int) != 8) = true := by rw [bne_iff_ne]; omega
    rw [no fun h => c2 h.2.1]
    simp only [e]
    exact bad
  have e : (((rdOf ByteArray.empty l 1).size : Int) != 8) = false := by rw [bne_eq_false_iff_eq]; omega
  simp only [e]
  refine Ev_succ ?_
  simp only [series_Parse.j0, Bool.false_eq_true, if_false, if_pos (show (1 : Int) < (l.length : Int) by omega), if_pos (show (2 : Int) < (l.length : Int) by omega)]
  refine Ev_bind (sdig_f _ c2) ?_
  rw [what_f]
  simp only [Option.bind_some]
  have bad1 : ∀ n b q, Ev (fun k => series_Parse.j1 k l n b q true (⟨#[]⟩ : ByteArray) 0 0 0) (tS (zS, 5)) := fun n b q => Ev_succ (by simp only [series_Parse.j1, if_true]; exact Ev.now _)
  by_cases c3 : (bytesOf (rdOf ByteArray.empty l 1)).all digitB = true
  case neg =>
    rw [no fun h => c3 h.2.2.1]
    simp only [if_neg c3, Bool.false_eq_true, if_false]
    exact bad1 _ _ _
  simp only [if_pos c3, if_true]
  by_cases c4 : kindI (bytesOf (rdOf ByteArray.empty l 2)) = 0
  · rw [no fun h => h.2.2.2 c4]
    have c5 : ¬ kindI (bytesOf (rdOf ByteArray.empty l 2)) = 1 := by omega
    simp only [if_neg c5, if_pos c4, Bool.not_false]
    exact bad1 _ _ _
  · have hf : okForm (rdOf ByteArray.empty l 0) (rdOf ByteArray.empty l 1) (rdOf ByteArray.empty l 2) := ⟨c1, c2, c3, c4⟩
    by_cases c5 : kindI (bytesOf (rdOf ByteArray.empty l 2)) = 1
    · simp only [if_pos c5, Bool.not_true]
      have := sparse_j1 l c0 hz hf (⟨#[]⟩ : ByteArray) (fun h => absurd c5 h)
      rw [c5] at this
      exact this
    · simp only [if_neg c5, if_neg c4, Bool.not_true]
      exact sparse_j1 l c0 hz hf _ (fun _ => rfl)
end Go.Proofs.YtieifncibojciaaDoor.P
end
