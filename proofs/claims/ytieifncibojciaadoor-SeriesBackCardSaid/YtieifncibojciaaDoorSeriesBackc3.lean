/- For SeriesBack: contracts, and facts on lists and numbers, that it uses (part 3). -/
import Derived.ChangeArms
import Derived.Deep.Slices
import Derived.Laws.BitsLemmas
import Derived.Laws.Strings
import Derived.Lib.Bytealg
import Derived.Lib.IndexBytes
import Derived.Lib.Replace
import Derived.Lib.SplitLaws
import Derived.OpenShut
import Derived.SizedLaws
import Derived.Test.YtieifncibojciaaDoorSeriesBackc2
import Derived.WideShapes
section
namespace Go.Proofs.YtieifncibojciaaDoor.X
open Go.RowKit Go.Proofs.YtieifncibojciaaDoorW.PrintWords Go.Proofs.YtieifncibojciaaDoorW.PrintLast Go.Proofs.YtieifncibojciaaDoorW.PrintMore
attribute [local go_sem] max2_int min2_int max_two min_two max_three min_three max_four min_four
set_option linter.unusedVariables false
set_option linter.unusedSimpArgs false
attribute [local go_sem high] eqA23
mutual
def contangolaw10_SeriesBack.j0 : Nat → ByteArray → Bool → ByteArray → Int → Int → Int → Option (Bool)
  | 0, _, _, _, _, _, _ => none
  | k + 1, x1, x19, x102000, x102001, x102002, x102003 => if x19 = true then ((contangolaw10_goes.f k).bind fun t102 => (some t102)) else ((series_Parse.f k x1).bind fun bt103 => (if bt103.2.2.2.2 = 0 then ((series_Print.f k bt103.1 bt103.2.1 bt103.2.2.1 bt103.2.2.2.1).bind fun t109 => (contangolaw10_SeriesBack.j1 k (t109.toList != x1.toList) x102000 x102001 x102002 x102003)) else (contangolaw10_SeriesBack.j1 k false x102000 x102001 x102002 x102003)))
def contangolaw10_SeriesBack.j1 : Nat → Bool → ByteArray → Int → Int → Int → Option (Bool)
  | 0, _, _, _, _, _ => none
  | k + 1, x33, x102000, x102001, x102002, x102003 => if x33 = true then (none) else ((series_Print.f k x102000 x102001 x102002 x102003).bind fun t110 => (if x102001 ≥ 1 then (if x102001 ≤ 3 then (if x102002 ≥ 0 then (contangolaw10_SeriesBack.j2 k t110 (decide (x102002 ≤ 73048)) x102000 x102001 x102002 x102003) else (contangolaw10_SeriesBack.j2 k t110 false x102000 x102001 x102002 x102003)) else (contangolaw10_SeriesBack.j2 k t110 false x102000 x102001 x102002 x102003)) else (contangolaw10_SeriesBack.j2 k t110 false x102000 x102001 x102002 x102003)))
def contangolaw10_SeriesBack.j2 : Nat → ByteArray → Bool → ByteArray → Int → Int → Int → Option (Bool)
  | 0, _, _, _, _, _, _ => none
  | k + 1, x7, x8, x102000, x102001, x102002, x102003 => if x8 = true then (contangolaw10_SeriesBack.j3 k x7 x8 ((x7.toList == ([] : List UInt8)) == x8) x102000 x102001 x102002 x102003) else (contangolaw10_SeriesBack.j3 k x7 x8 true x102000 x102001 x102002 x102003)
def contangolaw10_SeriesBack.j3 : Nat → ByteArray → Bool → Bool → ByteArray → Int → Int → Int → Option (Bool)
  | 0, _, _, _, _, _, _, _ => none
  | k + 1, x7, x8, x61, x102000, x102001, x102002, x102003 => if x61 = true then (if x8 = true then (none) else (if x7.toList = ([] : List UInt8) then ((contangolaw10_goes.f k).bind fun t111 => (some t111)) else (none))) else ((contangoref03_Name.f k x102000).bind fun t112 => (if t112 = true then (if x102003 < (-16777216) then (contangolaw10_SeriesBack.j4 k x7 true x102000 x102001 x102002 x102003) else (if x102003 > 16777216 then (contangolaw10_SeriesBack.j4 k x7 true x102000 x102001 x102002 x102003) else (if x102001 = 1 then (contangolaw10_SeriesBack.j4 k x7 (x102003 != 0) x102000 x102001 x102002 x102003) else (contangolaw10_SeriesBack.j4 k x7 false x102000 x102001 x102002 x102003)))) else (contangolaw10_SeriesBack.j4 k x7 true x102000 x102001 x102002 x102003)))
def contangolaw10_SeriesBack.j4 : Nat → ByteArray → Bool → ByteArray → Int → Int → Int → Option (Bool)
  | 0, _, _, _, _, _, _ => none
  | k + 1, x7, x94, x102000, x102001, x102002, x102003 => if x94 = true then ((contangolaw10_goes.f k).bind fun t113 => (some t113)) else ((series_Parse.f k x7).bind fun bt114 => (if (bt114.1.toList == x102000.toList && (bt114.2.1 == x102001 && (bt114.2.2.1 == x102002 && (bt114.2.2.2.1 == x102003)))) = true then (if bt114.2.2.2.2 = 0 then ((contangolaw10_goes.f k).bind fun t120 => (some t120)) else (none)) else (none)))
end
def contangolaw10_SeriesBack.f (k : Nat) (a0_0 : ByteArray) (a0_1 : Int) (a0_2 : Int) (a0_3 : Int) (a1 : ByteArray) : Option (Bool) := if (a1.size : Int) > 300 then (contangolaw10_SeriesBack.j0 k a1 true a0_0 a0_1 a0_2 a0_3) else (contangolaw10_SeriesBack.j0 k a1 (decide ((a0_0.size : Int) > 300)) a0_0 a0_1 a0_2 a0_3)
set_option maxHeartbeats 8000000 in
set_option maxRecDepth 100000 in
theorem contangolaw10_SeriesBack.calls (k : Nat) (a0_0 : ByteArray) (a0_1 : Int) (a0_2 : Int) (a0_3 : Int) (a1 : ByteArray) (r : Bool) (w : World) (h : contangolaw10_SeriesBack.f k a0_0 a0_1 a0_2 a0_3 a1 = some r) (hGL : GlobD w) :
    Calls Tryd.prog 4 #[.agg #[.string a0_0, .int .i64 a0_1, .int .i64 a0_2, .int .i64 a0_3], .string a1] w fun e w' => e = .returned (.bool r) ∧ Below w.heap.size w w' := by
  have hu23 := Tryd.underlying23
  have HB := Aside0.mk (Below.refl w.heap.size w)
  have HGL := Aside0.mk hGL
  clear hGL
  have H : (if (a1.size : Int) > 300 then (contangolaw10_SeriesBack.j0 k a1 true a0_0 a0_1 a0_2 a0_3) else (contangolaw10_SeriesBack.j0 k a1 (decide ((a0_0.size : Int) > 300)) a0_0 a0_1 a0_2 a0_3)) = some r := h
  clear h
  have HC3 := Aside0.mk H
  clear H
  go_enter Tryd.func4, Tryd.ntmps4
  go_upto_region 1 with (first | ((with_reducible refine gate_dst (N := 2) rfl ?_); (try (refine gate_guard (by rfl) ?_; dsimp only)); refine box_event ?hg (N := 2) ?hd (cs := #[.string a0_0, .int .i64 a0_1, .int .i64 a0_2, .int .i64 a0_3]) (t := 23) ?hr ?_; (case hd => rfl); (case hg => rfl); (case hr => first | (go_simp; done) | (go_simp; rfl)); intro gb101 hg w4 hbox hb; have n0_ := Aside0.mk (below_step (by repeat (first | (with_reducible first | exact HB.out | apply below_alloc | apply pw_below_drewN | apply below_drew1) | exact HB.out)) hb); have n1_ := Aside0.mk (hbox); have n2_ := Aside0.mk ((by rw [hg]; exact (below_size (by repeat (first | (with_reducible first | exact HB.out | apply below_alloc | apply pw_below_drewN | apply below_drew1) | exact HB.out))) : w.heap.size ≤ gb101)); have n3_ := Aside0.mk ((by rw [hg]; exact (below_size (by repeat (first | (with_reducible first | exact HB.out | apply below_alloc | apply pw_below_drewN | apply below_drew1) | exact HB.out))) : w.heap.size ≤ gb101)); clear HB; have HB := n0_; have BK101 := n1_; have GW101 := n2_; have GE101 := n3_; clear n0_ n1_ n2_ n3_; clear hb hbox hg))
  (try simp only [Act.put, List.setIfInBounds_toArray, List.set_cons_zero, List.set_cons_succ])
  go_cut [19] (fun v19 wc => ∃ (kq : Nat) (x19_2 : Bool), v19 = .bool x19_2 ∧ Aside0 (contangolaw10_SeriesBack.j0 kq a1 x19_2 a0_0 a0_1 a0_2 a0_3 = some r) ∧ Aside0 (kq ≤ k) ∧ Aside0 (wc.heap[gb101]? = some (.cells #[.string a0_0, .int .i64 a0_1, .int .i64 a0_2, .int .i64 a0_3] 23 (0, 0))) ∧ Aside0 (Below w.heap.size w wc))
  case first =>
    have H := HC3.out
    clear HC3
    by_cases c5 : (a1.size : Int) > 300
    · rw [if_pos c5] at H
      have c5b0 : decide (300 < (a1.size : Int)) = true := decide_eq_true c5
      have c5b1 : decide (300 < a1.size) = true := decide_eq_true (by omega)
      clear c5
      (first | rw [c5b0] | (simp only [i64_w, i32_w]; rw [c5b0]) | skip)
      have H' := Aside0.mk H
      clear H
      go_wp2
      go_meet
      case rel => exact ⟨_, (true), (by first | rfl | (simp; done) | (simp [*]; done)), H', ⟨by first | omega | exact Nat.le_refl _⟩, ⟨by (with_reducible repeat (first | refine blk_drewN ?_ _ | refine blk_drew ?_ | refine blk_alloc ?_ _)); exact BK101.out⟩, ⟨by repeat (first | (with_reducible first | exact HB.out | apply below_alloc | apply pw_below_drewN | apply below_drew1 | refine below_set ?_ GE101.out) | exact HB.out)⟩⟩
    · rw [if_neg c5] at H
      have c5b0 : decide (300 < (a1.size : Int)) = false := decide_eq_false c5
      have c5b1 : decide (300 < a1.size) = false := decide_eq_false (by omega)
      clear c5
      (first | rw [c5b0] | (simp only [i64_w, i32_w]; rw [c5b0]) | skip)
      have H' := Aside0.mk H
      clear H
      have hcz6_0 : w4.cell? ⟨gb101, 0, none⟩ = some (.string a0_0) := (blk_cell BK101.out 0).trans rfl
      have hcz6_1 : w4.cell? ⟨gb101, 1, none⟩ = some (.int .i64 a0_1) := (blk_cell BK101.out 1).trans rfl
      have hcz6_2 : w4.cell? ⟨gb101, 2, none⟩ = some (.int .i64 a0_2) := (blk_cell BK101.out 2).trans rfl
      have hcz6_3 : w4.cell? ⟨gb101, 3, none⟩ = some (.int .i64 a0_3) := (blk_cell BK101.out 3).trans rfl
      have hfz6_0 := blk_frozen BK101.out 0
      have hfz6_1 := blk_frozen BK101.out 1
      have hfz6_2 := blk_frozen BK101.out 2
      have hfz6_3 := blk_frozen BK101.out 3
      go_wp2
      go_meet
      case rel => exact ⟨_, (decide ((a0_0.size : Int) > 300)), (by first | rfl | (simp; done) | (simp [*]; done)), H', ⟨by first | omega | exact Nat.le_refl _⟩, ⟨by (with_reducible repeat (first | refine blk_drewN ?_ _ | refine blk_drew ?_ | refine blk_alloc ?_ _)); exact BK101.out⟩, ⟨by repeat (first | (with_reducible first | exact HB.out | apply below_alloc | apply pw_below_drewN | apply below_drew1 | refine below_set ?_ GE101.out) | exact HB.out)⟩⟩
  case rest =>
    clear HC3
    try clear p2
    try clear c4
    try clear c5
    try clear c5b0
    try clear c5b1
    try clear hcz6_0
    try clear hcz6_1
    try clear hcz6_2
    try clear hcz6_3
    try clear hfz6_0
    try clear hfz6_1
    try clear hfz6_2
    try clear hfz6_3
    obtain ⟨kq, x19_2, rfl, HA, HJ2, BK101, HB⟩ := hcut
    cases kq with
    | zero => exact absurd HA.out (by simp [contangolaw10_SeriesBack.j0])
    | succ kj2 =>
      have H := HA.out
      clear HA
      simp only [contangolaw10_SeriesBack.j0] at H
      by_cases c7 : x19_2 = true
      · subst c7
        have H1 : ((contangolaw10_goes.f kj2).bind fun t102 => (some t102)) = some r := by rw [if_pos rfl] at H; exact H
        clear H
        have H := H1
        clear H1
        replace H := Option.bind_eq_some_iff.mp H
        obtain ⟨t102, A80, H⟩ := H
        replace H : (some t102) = some r := H
        have A8 := Aside0.mk A80
        clear A80
        obtain rfl := Option.some.inj H
        go_wp2_with (first | ((with_reducible refine gate_callee (f := 14) rfl ?_); refine goesL_ (some 20) rfl rfl Tryd.func14 (by kernel_rfl) rfl #[] rfl (by (try simp only [List.map_toArray, List.map_cons, List.map_nil]); first | done | rfl | (simp only [List.length_drop, List.length_take]; rfl)) ?_; (with_reducible refine (contangolaw10_goes.calls kj2  t102 _ A8.out (glob_of HGL.out (by repeat (first | (with_reducible first | exact HB.out | apply below_alloc | apply pw_below_drewN | apply below_drew1 | refine below_set ?_ GE101.out | refine below_set ?_ GE108.out | refine below_set ?_ GE119.out) | exact HB.out)))).mono ?_); rintro e w9 ⟨rfl, hb⟩; refine ⟨_, rfl, ?_⟩; have n0_ := Aside0.mk (blk_below (g := gb101) (o := .cells #[.string a0_0, .int .i64 a0_1, .int .i64 a0_2, .int .i64 a0_3] 23 (0, 0)) (by (with_reducible repeat (first | refine blk_drewN ?_ _ | refine blk_drew ?_ | refine blk_alloc ?_ _)); exact BK101.out) hb); have n1_ := Aside0.mk (below_step (by repeat (first | (with_reducible first | exact HB.out | apply below_alloc | apply pw_below_drewN | apply below_drew1 | refine below_set ?_ GE101.out) | exact HB.out)) hb); clear BK101; clear HB; have BK101 := n0_; have HB := n1_; clear n0_ n1_; (try clear hb); (try clear hb2); (try clear hk); (try clear hi)))
        go_ret
        exact ⟨by first | rfl | (simp [errW_none, errW_some] <;> rfl) | (simp [*, errW_none, errW_some] <;> rfl), by repeat (first | (with_reducible first | exact HB.out | apply below_alloc | apply pw_below_drewN | apply below_drew1 | refine below_set ?_ GE101.out) | exact HB.out)⟩
      · replace c7 := Bool.eq_false_iff.mpr c7
        subst c7
        have H1 : ((series_Parse.f kj2 a1).bind fun bt103 => (if bt103.2.2.2.2 = 0 then ((series_Print.f kj2 bt103.1 bt103.2.1 bt103.2.2.1 bt103.2.2.2.1).bind fun t109 => (contangolaw10_SeriesBack.j1 kj2 (t109.toList != a1.toList) a0_0 a0_1 a0_2 a0_3)) else (contangolaw10_SeriesBack.j1 kj2 false a0_0 a0_1 a0_2 a0_3))) = some r := by rw [if_neg (show ¬ (false = true) by decide)] at H; exact H
        clear H
        have H := H1
        clear H1
        replace H := Option.bind_eq_some_iff.mp H
        obtain ⟨⟨t103, t104, t105, t106, t107⟩, A100, H⟩ := H
        replace H : (if t107 = 0 then ((series_Print.f kj2 t103 t104 t105 t106).bind fun t109 => (contangolaw10_SeriesBack.j1 kj2 (t109.toList != a1.toList) a0_0 a0_1 a0_2 a0_3)) else (contangolaw10_SeriesBack.j1 kj2 false a0_0 a0_1 a0_2 a0_3)) = some r := H
        have A10 := Aside0.mk A100
        clear A100
        have HC11 := Aside0.mk H
        clear H
        go_upto_region 4 with (first | ((with_reducible refine gate_callee (f := 15) rfl ?_); refine goesL_ (some 23) rfl rfl Tryd.func15 (by kernel_rfl) rfl #[.string a1] rfl (by (try simp only [List.map_toArray, List.map_cons, List.map_nil]); first | done | rfl | (simp only [List.length_drop, List.length_take]; rfl)) ?_; (with_reducible refine (series_Parse.calls kj2 a1 t103 t104 t105 t106 t107 _ A10.out (glob_of HGL.out (by repeat (first | (with_reducible first | exact HB.out | apply below_alloc | apply pw_below_drewN | apply below_drew1 | refine below_set ?_ GE101.out | refine below_set ?_ GE108.out | refine below_set ?_ GE119.out) | exact HB.out)))).mono ?_); rintro e w12 ⟨rfl, hb⟩; refine ⟨_, rfl, ?_⟩; have n0_ := Aside0.mk (blk_below (g := gb101) (o := .cells #[.string a0_0, .int .i64 a0_1, .int .i64 a0_2, .int .i64 a0_3] 23 (0, 0)) (by (with_reducible repeat (first | refine blk_drewN ?_ _ | refine blk_drew ?_ | refine blk_alloc ?_ _)); exact BK101.out) hb); have n1_ := Aside0.mk (below_step (by repeat (first | (with_reducible first | exact HB.out | apply below_alloc | apply pw_below_drewN | apply below_drew1 | refine below_set ?_ GE101.out) | exact HB.out)) hb); clear BK101; clear HB; have BK101 := n0_; have HB := n1_; clear n0_ n1_; (try clear hb); (try clear hb2); (try clear hk); (try clear hi)) | ((with_reducible refine gate_dst (N := 5) rfl ?_); (try (refine gate_guard (by rfl) ?_; dsimp only)); refine box_event ?hg (N := 5) ?hd (cs := #[.string (⟨#[]⟩ : ByteArray), .int .i64 0, .int .i64 0, .int .i64 0]) (t := 23) ?hr ?_; (case hd => rfl); (case hg => rfl); (case hr => first | (go_simp; done) | (go_simp; rfl)); intro gb108 hg w13 hbox hb; have n0_ := Aside0.mk (blk_below (g := gb101) (o := .cells #[.string a0_0, .int .i64 a0_1, .int .i64 a0_2, .int .i64 a0_3] 23 (0, 0)) (by (with_reducible repeat (first | refine blk_drewN ?_ _ | refine blk_drew ?_ | refine blk_alloc ?_ _)); exact BK101.out) hb); have n1_ := Aside0.mk (below_step (by repeat (first | (with_reducible first | exact HB.out | apply below_alloc | apply pw_below_drewN | apply below_drew1 | refine below_set ?_ GE101.out) | exact HB.out)) hb); have n2_ := Aside0.mk (hbox); have n3_ := Aside0.mk ((by rw [hg]; exact (below_size (by repeat (first | (with_reducible first | exact HB.out | apply below_alloc | apply pw_below_drewN | apply below_drew1 | refine below_set ?_ GE101.out) | exact HB.out))) : w.heap.size ≤ gb108)); have n4_ := Aside0.mk ((by rw [hg]; exact (below_size (by repeat (first | (with_reducible first | exact HB.out | apply below_alloc | apply pw_below_drewN | apply below_drew1 | refine below_set ?_ GE101.out) | exact HB.out))) : w.heap.size ≤ gb108)); have n5_ := Aside0.mk ((by rw [hg]; exact Nat.ne_of_lt (blk_lt (g := gb101) (o := .cells #[.string a0_0, .int .i64 a0_1, .int .i64 a0_2, .int .i64 a0_3] 23 (0, 0)) (by (with_reducible repeat (first | refine blk_drewN ?_ _ | refine blk_drew ?_ | refine blk_alloc ?_ _)); exact BK101.out)) : gb101 ≠ gb108)); have n6_ := Aside0.mk ((by rw [hg]; exact Nat.ne_of_gt (blk_lt (g := gb101) (o := .cells #[.string a0_0, .int .i64 a0_1, .int .i64 a0_2, .int .i64 a0_3] 23 (0, 0)) (by (with_reducible repeat (first | refine blk_drewN ?_ _ | refine blk_drew ?_ | refine blk_alloc ?_ _)); exact BK101.out)) : gb108 ≠ gb101)); clear BK101; clear HB; have BK101 := n0_; have HB := n1_; have BK108 := n2_; have GW108 := n3_; have GE108 := n4_; have NB101_108 := n5_; have NB108_101 := n6_; clear n0_ n1_ n2_ n3_ n4_ n5_ n6_; clear hb hbox hg; have hnb14 := NB108_101.out; have hnc14 := NB101_108.out; have hcz15_0 : w13.cell? ⟨gb108, 0, none⟩ = some (.string (⟨#[]⟩ : ByteArray)) := (blk_cell BK108.out 0).trans rfl; have hcz15_1 : w13.cell? ⟨gb108, 1, none⟩ = some (.int .i64 0) := (blk_cell BK108.out 1).trans rfl; have hcz15_2 : w13.cell? ⟨gb108, 2, none⟩ = some (.int .i64 0) := (blk_cell BK108.out 2).trans rfl; have hcz15_3 : w13.cell? ⟨gb108, 3, none⟩ = some (.int .i64 0) := (blk_cell BK108.out 3).trans rfl; have hfz15_0 := blk_frozen BK108.out 0; have hfz15_1 := blk_frozen BK108.out 1; have hfz15_2 := blk_frozen BK108.out 2; have hfz15_3 := blk_frozen BK108.out 3))
        (try simp only [Act.put, List.setIfInBounds_toArray, List.set_cons_zero, List.set_cons_succ])
        go_cut [33] (fun v33 wc => ∃ (kq : Nat) (x33_10 : Bool), v33 = .bool x33_10 ∧ Aside0 (contangolaw10_SeriesBack.j1 kq x33_10 a0_0 a0_1 a0_2 a0_3 = some r) ∧ Aside0 (kq ≤ kj2) ∧ Aside0 (wc.heap[gb101]? = some (.cells #[.string a0_0, .int .i64 a0_1, .int .i64 a0_2, .int .i64 a0_3] 23 (0, 0))) ∧ Aside0 (wc.heap[gb108]? = some (.cells #[.string t103, .int .i64 t104, .int .i64 t105, .int .i64 t106] 23 (0, 0))) ∧ Aside0 (Below w.heap.size w wc))
        case first =>
          have H := HC11.out
          clear HC11
          by_cases c16 : t107 = 0
          · rw [if_pos c16] at H
            have c16b0 : (t107 == 0) = true := beq_iff_eq.mpr c16
            have c16b1 : (t107 != 0) = false := bne_eq_false_iff_eq.mpr c16
            clear c16
            (first | rw [c16b0] | (simp only [i64_w, i32_w]; rw [c16b0]) | skip)
            replace H := Option.bind_eq_some_iff.mp H
            obtain ⟨t109, A170, H⟩ := H
            replace H : (contangolaw10_SeriesBack.j1 kj2 (t109.toList != a1.toList) a0_0 a0_1 a0_2 a0_3) = some r := H
            have A17 := Aside0.mk A170
            clear A170
            have H' := Aside0.mk H
            clear H
            have hnb18 := NB108_101.out
            have hnc18 := NB101_108.out
            have hcz19_0 : w13.cell? ⟨gb108, 0, none⟩ = some (.string (⟨#[]⟩ : ByteArray)) := (blk_cell BK108.out 0).trans rfl
            have hcz19_1 : w13.cell? ⟨gb108, 1, none⟩ = some (.int .i64 0) := (blk_cell BK108.out 1).trans rfl
            have hcz19_2 : w13.cell? ⟨gb108, 2, none⟩ = some (.int .i64 0) := (blk_cell BK108.out 2).trans rfl
            have hcz19_3 : w13.cell? ⟨gb108, 3, none⟩ = some (.int .i64 0) := (blk_cell BK108.out 3).trans rfl
            have hfz19_0 := blk_frozen BK108.out 0
            have hfz19_1 := blk_frozen BK108.out 1
            have hfz19_2 := blk_frozen BK108.out 2
            have hfz19_3 := blk_frozen BK108.out 3
            go_wp2_with (first | (go_at_call 17; (with_reducible refine (series_Print.calls kj2 t103 t104 t105 t106 t109 _ A17.out (glob_of HGL.out (by repeat (first | (with_reducible first | exact HB.out | apply below_alloc | apply pw_below_drewN | apply below_drew1 | refine below_set ?_ GE101.out | refine below_set ?_ GE108.out | refine below_set ?_ GE119.out) | exact HB.out)))).mono ?_); rintro e w20 ⟨rfl, hb⟩; have n0_ := Aside0.mk (blk_below (g := gb101) (o := .cells #[.string a0_0, .int .i64 a0_1, .int .i64 a0_2, .int .i64 a0_3] 23 (0, 0)) (by (with_reducible repeat (first | refine blk_drewN ?_ _ | refine blk_drew ?_ | refine blk_alloc ?_ _)); refine blk_far ?_ NB101_108.out _; (with_reducible repeat (first | refine blk_drewN ?_ _ | refine blk_drew ?_ | refine blk_alloc ?_ _)); refine blk_far ?_ NB101_108.out _; (with_reducible repeat (first | refine blk_drewN ?_ _ | refine blk_drew ?_ | refine blk_alloc ?_ _)); refine blk_far ?_ NB101_108.out _; (with_reducible repeat (first | refine blk_drewN ?_ _ | refine blk_drew ?_ | refine blk_alloc ?_ _)); refine blk_far ?_ NB101_108.out _; (with_reducible repeat (first | refine blk_drewN ?_ _ | refine blk_drew ?_ | refine blk_alloc ?_ _)); exact BK101.out) hb); have n1_ := Aside0.mk (blk_below (g := gb108) (o := .cells #[.string t103, .int .i64 t104, .int .i64 t105, .int .i64 t106] 23 (0, 0)) (by (with_reducible repeat (first | refine blk_drewN ?_ _ | refine blk_drew ?_ | refine blk_alloc ?_ _)); refine blk_put (cs := #[.string t103, .int .i64 t104, .int .i64 t105, .int .i64 0]) ?_ 3 _ rfl; (with_reducible repeat (first | refine blk_drewN ?_ _ | refine blk_drew ?_ | refine blk_alloc ?_ _)); refine blk_put (cs := #[.string t103, .int .i64 t104, .int .i64 0, .int .i64 0]) ?_ 2 _ rfl; (with_reducible repeat (first | refine blk_drewN ?_ _ | refine blk_drew ?_ | refine blk_alloc ?_ _)); refine blk_put (cs := #[.string t103, .int .i64 0, .int .i64 0, .int .i64 0]) ?_ 1 _ rfl; (with_reducible repeat (first | refine blk_drewN ?_ _ | refine blk_drew ?_ | refine blk_alloc ?_ _)); refine blk_put (cs := #[.string (⟨#[]⟩ : ByteArray), .int .i64 0, .int .i64 0, .int .i64 0]) ?_ 0 _ rfl; (with_reducible repeat (first | refine blk_drewN ?_ _ | refine blk_drew ?_ | refine blk_alloc ?_ _)); exact BK108.out) hb); have n2_ := Aside0.mk (below_step (by repeat (first | (with_reducible first | exact HB.out | apply below_alloc | apply pw_below_drewN | apply below_drew1 | refine below_set ?_ GE101.out | refine below_set ?_ GE108.out) | exact HB.out)) hb); clear BK101; clear BK108; clear HB; have BK101 := n0_; have BK108 := n1_; have HB := n2_; clear n0_ n1_ n2_; (try clear hb); (try clear hb2); (try clear hk); (try clear hi)))
            go_meet
            case rel => exact ⟨_, ((t109.toList != a1.toList)), (by first | rfl | (simp; done) | (simp [*]; done)), H', ⟨by have := HJ2.out; first | omega | exact Nat.le_refl _⟩, ⟨by (with_reducible repeat (first | refine blk_drewN ?_ _ | refine blk_drew ?_ | refine blk_alloc ?_ _)); exact BK101.out⟩, ⟨by (with_reducible repeat (first | refine blk_drewN ?_ _ | refine blk_drew ?_ | refine blk_alloc ?_ _)); exact BK108.out⟩, ⟨by repeat (first | (with_reducible first | exact HB.out | apply below_alloc | apply pw_below_drewN | apply below_drew1 | refine below_set ?_ GE101.out | refine below_set ?_ GE108.out) | exact HB.out)⟩⟩
          · rw [if_neg c16] at H
            have c16b0 : (t107 == 0) = false := beq_eq_false_iff_ne.mpr c16
            have c16b1 : (t107 != 0) = true := bne_iff_ne.mpr c16
            (first | rw [c16b0] | (simp only [i64_w, i32_w]; rw [c16b0]) | skip)
            have H' := Aside0.mk H
            clear H
            go_wp2
            go_meet
            case rel => exact ⟨_, (false), (by first | rfl | (simp; done) | (simp [*]; done)), H', ⟨by have := HJ2.out; first | omega | exact Nat.le_refl _⟩, ⟨by (with_reducible repeat (first | refine blk_drewN ?_ _ | refine blk_drew ?_ | refine blk_alloc ?_ _)); refine blk_far ?_ NB101_108.out _; (with_reducible repeat (first | refine blk_drewN ?_ _ | refine blk_drew ?_ | refine blk_alloc ?_ _)); refine blk_far ?_ NB101_108.out _; (with_reducible repeat (first | refine blk_drewN ?_ _ | refine blk_drew ?_ | refine blk_alloc ?_ _)); refine blk_far ?_ NB101_108.out _; (with_reducible repeat (first | refine blk_drewN ?_ _ | refine blk_drew ?_ | refine blk_alloc ?_ _)); refine blk_far ?_ NB101_108.out _; (with_reducible repeat (first | refine blk_drewN ?_ _ | refine blk_drew ?_ | refine blk_alloc ?_ _)); exact BK101.out⟩, ⟨by (with_reducible repeat (first | refine blk_drewN ?_ _ | refine blk_drew ?_ | refine blk_alloc ?_ _)); refine blk_put (cs := #[.string t103, .int .i64 t104, .int .i64 t105, .int .i64 0]) ?_ 3 _ rfl; (with_reducible repeat (first | refine blk_drewN ?_ _ | refine blk_drew ?_ | refine blk_alloc ?_ _)); refine blk_put (cs := #[.string t103, .int .i64 t104, .int .i64 0, .int .i64 0]) ?_ 2 _ rfl; (with_reducible repeat (first | refine blk_drewN ?_ _ | refine blk_drew ?_ | refine blk_alloc ?_ _)); refine blk_put (cs := #[.string t103, .int .i64 0, .int .i64 0, .int .i64 0]) ?_ 1 _ rfl; (with_reducible repeat (first | refine blk_drewN ?_ _ | refine blk_drew ?_ | refine blk_alloc ?_ _)); refine blk_put (cs := #[.string (⟨#[]⟩ : ByteArray), .int .i64 0, .int .i64 0, .int .i64 0]) ?_ 0 _ rfl; (with_reducible repeat (first | refine blk_drewN ?_ _ | refine blk_drew ?_ | refine blk_alloc ?_ _)); exact BK108.out⟩, ⟨by repeat (first | (with_reducible first | exact HB.out | apply below_alloc | apply pw_below_drewN | apply below_drew1 | refine below_set ?_ GE101.out | refine below_set ?_ GE108.out) | exact HB.out)⟩⟩
        case rest =>
          clear HC11
          try clear c1
          try clear p2
          try clear c4
          try clear c5
          try clear c5b0
          try clear c5b1
          try clear c7
          try clear c14
          try clear c15
          try clear c16
          try clear c16b0
          try clear c16b1
          try clear c18
          try clear hcz15_0
          try clear hcz15_1
          try clear hcz15_2
          try clear hcz15_3
          try clear hcz19_0
          try clear hcz19_1
          try clear hcz19_2
          try clear hcz19_3
          try clear hcz6_0
          try clear hcz6_1
          try clear hcz6_2
          try clear hcz6_3
          try clear hfz15_0
          try clear hfz15_1
          try clear hfz15_2
          try clear hfz15_3
          try clear hfz19_0
          try clear hfz19_1
          try clear hfz19_2
          try clear hfz19_3
          try clear hfz6_0
          try clear hfz6_1
          try clear hfz6_2
          try clear hfz6_3
          try clear p2
          obtain ⟨kq, x33_10, rfl, HA, HJ10, BK101, BK108, HB⟩ := hcut
          cases kq with
          | zero => exact absurd HA.out (by simp [contangolaw10_SeriesBack.j1])
          | succ kj10 =>
            have H := HA.out
            clear HA
            simp only [contangolaw10_SeriesBack.j1] at H
            by_cases c21 : x33_10 = true
            · subst c21
              have H1 : (none) = some r := by rw [if_pos rfl] at H; exact H
              clear H
              have H := H1
              clear H1
              exact absurd H (by simp)
            · replace c21 := Bool.eq_false_iff.mpr c21
              subst c21
              have H1 : ((series_Print.f kj10 a0_0 a0_1 a0_2 a0_3).bind fun t110 => (if a0_1 ≥ 1 then (if a0_1 ≤ 3 then (if a0_2 ≥ 0 then (contangolaw10_SeriesBack.j2 kj10 t110 (decide (a0_2 ≤ 73048)) a0_0 a0_1 a0_2 a0_3) else (contangolaw10_SeriesBack.j2 kj10 t110 false a0_0 a0_1 a0_2 a0_3)) else (contangolaw10_SeriesBack.j2 kj10 t110 false a0_0 a0_1 a0_2 a0_3)) else (contangolaw10_SeriesBack.j2 kj10 t110 false a0_0 a0_1 a0_2 a0_3))) = some r := by rw [if_neg (show ¬ (false = true) by decide)] at H; exact H
              clear H
              have H := H1
              clear H1
              replace H := Option.bind_eq_some_iff.mp H
              obtain ⟨t110, A220, H⟩ := H
              replace H : (if a0_1 ≥ 1 then (if a0_1 ≤ 3 then (if a0_2 ≥ 0 then (contangolaw10_SeriesBack.j2 kj10 t110 (decide (a0_2 ≤ 73048)) a0_0 a0_1 a0_2 a0_3) else (contangolaw10_SeriesBack.j2 kj10 t110 false a0_0 a0_1 a0_2 a0_3)) else (contangolaw10_SeriesBack.j2 kj10 t110 false a0_0 a0_1 a0_2 a0_3)) else (contangolaw10_SeriesBack.j2 kj10 t110 false a0_0 a0_1 a0_2 a0_3)) = some r := H
              have A22 := Aside0.mk A220
              clear A220
              have HC23 := Aside0.mk H
              clear H
              have hnb24 := NB101_108.out
              have hnc24 := NB108_101.out
              have hcz25_0 : wc.cell? ⟨gb101, 0, none⟩ = some (.string a0_0) := (blk_cell BK101.out 0).trans rfl
              have hcz25_1 : wc.cell? ⟨gb101, 1, none⟩ = some (.int .i64 a0_1) := (blk_cell BK101.out 1).trans rfl
              have hcz25_2 : wc.cell? ⟨gb101, 2, none⟩ = some (.int .i64 a0_2) := (blk_cell BK101.out 2).trans rfl
              have hcz25_3 : wc.cell? ⟨gb101, 3, none⟩ = some (.int .i64 a0_3) := (blk_cell BK101.out 3).trans rfl
              have hfz25_0 := blk_frozen BK101.out 0
              have hfz25_1 := blk_frozen BK101.out 1
              have hfz25_2 := blk_frozen BK101.out 2
              have hfz25_3 := blk_frozen BK101.out 3
              go_upto_region 7 with (first | ((with_reducible refine gate_callee (f := 17) rfl ?_); refine goesL_ (some 35) rfl rfl Tryd.func17 (by kernel_rfl) rfl #[.agg #[.string a0_0, .int .i64 a0_1, .int .i64 a0_2, .int .i64 a0_3]] rfl (by (try simp only [List.map_toArray, List.map_cons, List.map_nil]); first | done | rfl | (simp only [List.length_drop, List.length_take]; rfl)) ?_; (with_reducible refine (series_Print.calls kj10 a0_0 a0_1 a0_2 a0_3 t110 _ A22.out (glob_of HGL.out (by repeat (first | (with_reducible first | exact HB.out | apply below_alloc | apply pw_below_drewN | apply below_drew1 | refine below_set ?_ GE101.out | refine below_set ?_ GE108.out | refine below_set ?_ GE119.out) | exact HB.out)))).mono ?_); rintro e w26 ⟨rfl, hb⟩; refine ⟨_, rfl, ?_⟩; have n0_ := Aside0.mk (blk_below (g := gb101) (o := .cells #[.string a0_0, .int .i64 a0_1, .int .i64 a0_2, .int .i64 a0_3] 23 (0, 0)) (by (with_reducible repeat (first | refine blk_drewN ?_ _ | refine blk_drew ?_ | refine blk_alloc ?_ _)); exact BK101.out) hb); have n1_ := Aside0.mk (blk_below (g := gb108) (o := .cells #[.string t103, .int .i64 t104, .int .i64 t105, .int .i64 t106] 23 (0, 0)) (by (with_reducible repeat (first | refine blk_drewN ?_ _ | refine blk_drew ?_ | refine blk_alloc ?_ _)); exact BK108.out) hb); have n2_ := Aside0.mk (below_step (by repeat (first | (with_reducible first | exact HB.out | apply below_alloc | apply pw_below_drewN | apply below_drew1 | refine below_set ?_ GE101.out | refine below_set ?_ GE108.out) | exact HB.out)) hb); clear BK101; clear BK108; clear HB; have BK101 := n0_; have BK108 := n1_; have HB := n2_; clear n0_ n1_ n2_; (try clear hb); (try clear hb2); (try clear hk); (try clear hi)))
              (try simp only [Act.put, List.setIfInBounds_toArray, List.set_cons_zero, List.set_cons_succ])
              go_cut [8] (fun v8 wc => ∃ (kq : Nat) (x8_22 : Bool), v8 = .bool x8_22 ∧ Aside0 (contangolaw10_SeriesBack.j2 kq t110 x8_22 a0_0 a0_1 a0_2 a0_3 = some r) ∧ Aside0 (kq ≤ kj10) ∧ Aside0 (wc.heap[gb101]? = some (.cells #[.string a0_0, .int .i64 a0_1, .int .i64 a0_2, .int .i64 a0_3] 23 (0, 0))) ∧ Aside0 (wc.heap[gb108]? = some (.cells #[.string t103, .int .i64 t104, .int .i64 t105, .int .i64 t106] 23 (0, 0))) ∧ Aside0 (Below w.heap.size w wc))
              case first =>
                have H := HC23.out
                clear HC23
                by_cases c27 : a0_1 ≥ 1
                · rw [if_pos c27] at H
                  have c27b0 : decide (1 ≤ a0_1) = true := decide_eq_true c27
                  clear c27
                  (first | rw [c27b0] | (simp only [i64_w, i32_w]; rw [c27b0]) | skip)
                  by_cases c28 : a0_1 ≤ 3
                  · rw [if_pos c28] at H
                    have c28b0 : decide (a0_1 ≤ 3) = true := decide_eq_true c28
                    clear c28
                    by_cases c29 : a0_2 ≥ 0
                    · rw [if_pos c29] at H
                      have c29b0 : decide (0 ≤ a0_2) = true := decide_eq_true c29
                      clear c29
                      have H' := Aside0.mk H
                      clear H
                      have hnb30 := NB101_108.out
                      have hnc30 := NB108_101.out
                      have hcz31_0 : w26.cell? ⟨gb101, 0, none⟩ = some (.string a0_0) := (blk_cell BK101.out 0).trans rfl
                      have hcz31_1 : w26.cell? ⟨gb101, 1, none⟩ = some (.int .i64 a0_1) := (blk_cell BK101.out 1).trans rfl
                      have hcz31_2 : w26.cell? ⟨gb101, 2, none⟩ = some (.int .i64 a0_2) := (blk_cell BK101.out 2).trans rfl
                      have hcz31_3 : w26.cell? ⟨gb101, 3, none⟩ = some (.int .i64 a0_3) := (blk_cell BK101.out 3).trans rfl
                      have hfz31_0 := blk_frozen BK101.out 0
                      have hfz31_1 := blk_frozen BK101.out 1
                      have hfz31_2 := blk_frozen BK101.out 2
                      have hfz31_3 := blk_frozen BK101.out 3
                      go_wp2
                      go_meet
                      case rel => exact ⟨_, (decide (a0_2 ≤ 73048)), (by first | rfl | (simp; done) | (simp [*]; done)), H', ⟨by have := HJ2.out; have := HJ10.out; first | omega | exact Nat.le_refl _⟩, ⟨by (with_reducible repeat (first | refine blk_drewN ?_ _ | refine blk_drew ?_ | refine blk_alloc ?_ _)); exact BK101.out⟩, ⟨by (with_reducible repeat (first | refine blk_drewN ?_ _ | refine blk_drew ?_ | refine blk_alloc ?_ _)); exact BK108.out⟩, ⟨by repeat (first | (with_reducible first | exact HB.out | apply below_alloc | apply pw_below_drewN | apply below_drew1 | refine below_set ?_ GE101.out | refine below_set ?_ GE108.out) | exact HB.out)⟩⟩
                    · rw [if_neg c29] at H
                      have c29b0 : decide (0 ≤ a0_2) = false := decide_eq_false c29
                      clear c29
                      have H' := Aside0.mk H
                      clear H
                      have hnb32 := NB101_108.out
                      have hnc32 := NB108_101.out
                      have hcz33_0 : w26.cell? ⟨gb101, 0, none⟩ = some (.string a0_0) := (blk_cell BK101.out 0).trans rfl
                      have hcz33_1 : w26.cell? ⟨gb101, 1, none⟩ = some (.int .i64 a0_1) := (blk_cell BK101.out 1).trans rfl
                      have hcz33_2 : w26.cell? ⟨gb101, 2, none⟩ = some (.int .i64 a0_2) := (blk_cell BK101.out 2).trans rfl
                      have hcz33_3 : w26.cell? ⟨gb101, 3, none⟩ = some (.int .i64 a0_3) := (blk_cell BK101.out 3).trans rfl
                      have hfz33_0 := blk_frozen BK101.out 0
                      have hfz33_1 := blk_frozen BK101.out 1
                      have hfz33_2 := blk_frozen BK101.out 2
                      have hfz33_3 := blk_frozen BK101.out 3
                      go_wp2
                      go_meet
                      case rel => exact ⟨_, (false), (by first | rfl | (simp; done) | (simp [*]; done)), H', ⟨by have := HJ2.out; have := HJ10.out; first | omega | exact Nat.le_refl _⟩, ⟨by (with_reducible repeat (first | refine blk_drewN ?_ _ | refine blk_drew ?_ | refine blk_alloc ?_ _)); exact BK101.out⟩, ⟨by (with_reducible repeat (first | refine blk_drewN ?_ _ | refine blk_drew ?_ | refine blk_alloc ?_ _)); exact BK108.out⟩, ⟨by repeat (first | (with_reducible first | exact HB.out | apply below_alloc | apply pw_below_drewN | apply below_drew1 | refine below_set ?_ GE101.out | refine below_set ?_ GE108.out) | exact HB.out)⟩⟩
                  · rw [if_neg c28] at H
                    have c28b0 : decide (a0_1 ≤ 3) = false := decide_eq_false c28
                    clear c28
                    have H' := Aside0.mk H
                    clear H
                    have hnb34 := NB101_108.out
                    have hnc34 := NB108_101.out
                    have hcz35_0 : w26.cell? ⟨gb101, 0, none⟩ = some (.string a0_0) := (blk_cell BK101.out 0).trans rfl
                    have hcz35_1 : w26.cell? ⟨gb101, 1, none⟩ = some (.int .i64 a0_1) := (blk_cell BK101.out 1).trans rfl
                    have hcz35_2 : w26.cell? ⟨gb101, 2, none⟩ = some (.int .i64 a0_2) := (blk_cell BK101.out 2).trans rfl
                    have hcz35_3 : w26.cell? ⟨gb101, 3, none⟩ = some (.int .i64 a0_3) := (blk_cell BK101.out 3).trans rfl
                    have hfz35_0 := blk_frozen BK101.out 0
                    have hfz35_1 := blk_frozen BK101.out 1
                    have hfz35_2 := blk_frozen BK101.out 2
                    have hfz35_3 := blk_frozen BK101.out 3
                    go_wp2
                    go_meet
                    case rel => exact ⟨_, (false), (by first | rfl | (simp; done) | (simp [*]; done)), H', ⟨by have := HJ2.out; have := HJ10.out; first | omega | exact Nat.le_refl _⟩, ⟨by (with_reducible repeat (first | refine blk_drewN ?_ _ | refine blk_drew ?_ | refine blk_alloc ?_ _)); exact BK101.out⟩, ⟨by (with_reducible repeat (first | refine blk_drewN ?_ _ | refine blk_drew ?_ | refine blk_alloc ?_ _)); exact BK108.out⟩, ⟨by repeat (first | (with_reducible first | exact HB.out | apply below_alloc | apply pw_below_drewN | apply below_drew1 | refine below_set ?_ GE101.out | refine below_set ?_ GE108.out) | exact HB.out)⟩⟩
                · rw [if_neg c27] at H
                  have c27b0 : decide (1 ≤ a0_1) = false := decide_eq_false c27
                  clear c27
                  (first | rw [c27b0] | (simp only [i64_w, i32_w]; rw [c27b0]) | skip)
                  have H' := Aside0.mk H
                  clear H
                  have hnb36 := NB101_108.out
                  have hnc36 := NB108_101.out
                  have hcz37_0 : w26.cell? ⟨gb101, 0, none⟩ = some (.string a0_0) := (blk_cell BK101.out 0).trans rfl
                  have hcz37_1 : w26.cell? ⟨gb101, 1, none⟩ = some (.int .i64 a0_1) := (blk_cell BK101.out 1).trans rfl
                  have hcz37_2 : w26.cell? ⟨gb101, 2, none⟩ = some (.int .i64 a0_2) := (blk_cell BK101.out 2).trans rfl
                  have hcz37_3 : w26.cell? ⟨gb101, 3, none⟩ = some (.int .i64 a0_3) := (blk_cell BK101.out 3).trans rfl
                  have hfz37_0 := blk_frozen BK101.out 0
                  have hfz37_1 := blk_frozen BK101.out 1
                  have hfz37_2 := blk_frozen BK101.out 2
                  have hfz37_3 := blk_frozen BK101.out 3
                  go_wp2
                  go_meet
                  case rel => exact ⟨_, (false), (by first | rfl | (simp; done) | (simp [*]; done)), H', ⟨by have := HJ2.out; have := HJ10.out; first | omega | exact Nat.le_refl _⟩, ⟨by (with_reducible repeat (first | refine blk_drewN ?_ _ | refine blk_drew ?_ | refine blk_alloc ?_ _)); exact BK101.out⟩, ⟨by (with_reducible repeat (first | refine blk_drewN ?_ _ | refine blk_drew ?_ | refine blk_alloc ?_ _)); exact BK108.out⟩, ⟨by repeat (first | (with_reducible first | exact HB.out | apply below_alloc | apply pw_below_drewN | apply below_drew1 | refine below_set ?_ GE101.out | refine below_set ?_ GE108.out) | exact HB.out)⟩⟩
              case rest =>
                clear HC23
                try clear c1
                try clear c2
                try clear p2
                try clear c3
                try clear c4
                try clear c5
                try clear c5b0
                try clear c5b1
                try clear c7
                try clear c14
                try clear c15
                try clear c16
                try clear c16b0
                try clear c16b1
                try clear c17
                try clear c18
                try clear c21
                try clear c24
                try clear c27
                try clear c27b0
                try clear c28
                try clear c28b0
                try clear c29
                try clear c29b0
                try clear c30
                try clear c32
                try clear c34
                try clear c36
                try clear hcz15_0
                try clear hcz15_1
                try clear hcz15_2
                try clear hcz15_3
                try clear hcz19_0
                try clear hcz19_1
                try clear hcz19_2
                try clear hcz19_3
                try clear hcz25_0
                try clear hcz25_1
                try clear hcz25_2
                try clear hcz25_3
                try clear hcz31_0
                try clear hcz31_1
                try clear hcz31_2
                try clear hcz31_3
                try clear hcz33_0
                try clear hcz33_1
                try clear hcz33_2
                try clear hcz33_3
                try clear hcz35_0
                try clear hcz35_1
                try clear hcz35_2
                try clear hcz35_3
                try clear hcz37_0
                try clear hcz37_1
                try clear hcz37_2
                try clear hcz37_3
                try clear hcz6_0
                try clear hcz6_1
                try clear hcz6_2
                try clear hcz6_3
                try clear hfz15_0
                try clear hfz15_1
                try clear hfz15_2
                try clear hfz15_3
                try clear hfz19_0
                try clear hfz19_1
                try clear hfz19_2
                try clear hfz19_3
                try clear hfz25_0
                try clear hfz25_1
                try clear hfz25_2
                try clear hfz25_3
                try clear hfz31_0
                try clear hfz31_1
                try clear hfz31_2
                try clear hfz31_3
                try clear hfz33_0
                try clear hfz33_1
                try clear hfz33_2
                try clear hfz33_3
                try clear hfz35_0
                try clear hfz35_1
                try clear hfz35_2
                try clear hfz35_3
                try clear hfz37_0
                try clear hfz37_1
                try clear hfz37_2
                try clear hfz37_3
                try clear hfz6_0
                try clear hfz6_1
                try clear hfz6_2
                try clear hfz6_3
                try clear p2
                obtain ⟨kq, x8_22, rfl, HA, HJ22, BK101, BK108, HB⟩ := hcut
                cases kq with
                | zero => exact absurd HA.out (by simp [contangolaw10_SeriesBack.j2])
                | succ kj22 =>
                  have H := HA.out
                  clear HA
                  simp only [contangolaw10_SeriesBack.j2] at H
                  have HC38 := Aside0.mk H
                  clear H
                  go_upto_region 8 with (fail)
                  go_cut [61] (fun v61 wc => ∃ (kq : Nat) (x61_37 : Bool), v61 = .bool x61_37 ∧ Aside0 (contangolaw10_SeriesBack.j3 kq t110 x8_22 x61_37 a0_0 a0_1 a0_2 a0_3 = some r) ∧ Aside0 (kq ≤ kj22) ∧ Aside0 (wc.heap[gb101]? = some (.cells #[.string a0_0, .int .i64 a0_1, .int .i64 a0_2, .int .i64 a0_3] 23 (0, 0))) ∧ Aside0 (wc.heap[gb108]? = some (.cells #[.string t103, .int .i64 t104, .int .i64 t105, .int .i64 t106] 23 (0, 0))) ∧ Aside0 (Below w.heap.size w wc))
                  case first =>
                    have H := HC38.out
                    clear HC38
                    by_cases c39 : x8_22 = true
                    · subst c39
                      have H1 : (contangolaw10_SeriesBack.j3 kj22 t110 true ((t110.toList == ([] : List UInt8)) == true) a0_0 a0_1 a0_2 a0_3) = some r := by rw [if_pos rfl] at H; exact H
                      clear H
                      have H := H1
                      clear H1
                      have H' := Aside0.mk H
                      clear H
                      go_wp2
                      go_meet
                      case rel => exact ⟨_, (((t110.toList == ([] : List UInt8)) == true)), (by first | rfl | (simp; done) | (simp [*]; done)), H', ⟨by have := HJ2.out; have := HJ10.out; have := HJ22.out; first | omega | exact Nat.le_refl _⟩, ⟨by (with_reducible repeat (first | refine blk_drewN ?_ _ | refine blk_drew ?_ | refine blk_alloc ?_ _)); exact BK101.out⟩, ⟨by (with_reducible repeat (first | refine blk_drewN ?_ _ | refine blk_drew ?_ | refine blk_alloc ?_ _)); exact BK108.out⟩, ⟨by repeat (first | (with_reducible first | exact HB.out | apply below_alloc | apply pw_below_drewN | apply below_drew1 | refine below_set ?_ GE101.out | refine below_set ?_ GE108.out) | exact HB.out)⟩⟩
                    · replace c39 := Bool.eq_false_iff.mpr c39
                      subst c39
                      have H1 : (contangolaw10_SeriesBack.j3 kj22 t110 false true a0_0 a0_1 a0_2 a0_3) = some r := by rw [if_neg (show ¬ (false = true) by decide)] at H; exact H
                      clear H
                      have H := H1
                      clear H1
                      have H' := Aside0.mk H
                      clear H
                      go_wp2
                      go_meet
                      case rel => exact ⟨_, (true), (by first | rfl | (simp; done) | (simp [*]; done)), H', ⟨by have := HJ2.out; have := HJ10.out; have := HJ22.out; first | omega | exact Nat.le_refl _⟩, ⟨by (with_reducible repeat (first | refine blk_drewN ?_ _ | refine blk_drew ?_ | refine blk_alloc ?_ _)); exact BK101.out⟩, ⟨by (with_reducible repeat (first | refine blk_drewN ?_ _ | refine blk_drew ?_ | refine blk_alloc ?_ _)); exact BK108.out⟩, ⟨by repeat (first | (with_reducible first | exact HB.out | apply below_alloc | apply pw_below_drewN | apply below_drew1 | refine below_set ?_ GE101.out | refine below_set ?_ GE108.out) | exact HB.out)⟩⟩
                  case rest =>
                    clear HC38
                    try clear c1
                    try clear c2
                    try clear p2
                    try clear c3
                    try clear c4
                    try clear c5
                    try clear c5b0
                    try clear c5b1
                    try clear c7
                    try clear c14
                    try clear c15
                    try clear c16
                    try clear c16b0
                    try clear c16b1
                    try clear c17
                    try clear c18
                    try clear c21
                    try clear c24
                    try clear c27
                    try clear c27b0
                    try clear c28
                    try clear c28b0
                    try clear c29
                    try clear c29b0
                    try clear c30
                    try clear c32
                    try clear c34
                    try clear c36
                    try clear c39
                    try clear hcz15_0
                    try clear hcz15_1
                    try clear hcz15_2
                    try clear hcz15_3
                    try clear hcz19_0
                    try clear hcz19_1
                    try clear hcz19_2
                    try clear hcz19_3
                    try clear hcz25_0
                    try clear hcz25_1
                    try clear hcz25_2
                    try clear hcz25_3
                    try clear hcz31_0
                    try clear hcz31_1
                    try clear hcz31_2
                    try clear hcz31_3
                    try clear hcz33_0
                    try clear hcz33_1
                    try clear hcz33_2
                    try clear hcz33_3
                    try clear hcz35_0
                    try clear hcz35_1
                    try clear hcz35_2
                    try clear hcz35_3
                    try clear hcz37_0
                    try clear hcz37_1
                    try clear hcz37_2
                    try clear hcz37_3
                    try clear hcz6_0
                    try clear hcz6_1
                    try clear hcz6_2
                    try clear hcz6_3
                    try clear hfz15_0
                    try clear hfz15_1
                    try clear hfz15_2
                    try clear hfz15_3
                    try clear hfz19_0
                    try clear hfz19_1
                    try clear hfz19_2
                    try clear hfz19_3
                    try clear hfz25_0
                    try clear hfz25_1
                    try clear hfz25_2
                    try clear hfz25_3
                    try clear hfz31_0
                    try clear hfz31_1
                    try clear hfz31_2
                    try clear hfz31_3
                    try clear hfz33_0
                    try clear hfz33_1
                    try clear hfz33_2
                    try clear hfz33_3
                    try clear hfz35_0
                    try clear hfz35_1
                    try clear hfz35_2
                    try clear hfz35_3
                    try clear hfz37_0
                    try clear hfz37_1
                    try clear hfz37_2
                    try clear hfz37_3
                    try clear hfz6_0
                    try clear hfz6_1
                    try clear hfz6_2
                    try clear hfz6_3
                    try clear p2
                    obtain ⟨kq, x61_37, rfl, HA, HJ37, BK101, BK108, HB⟩ := hcut
                    cases kq with
                    | zero => exact absurd HA.out (by simp [contangolaw10_SeriesBack.j3])
                    | succ kj37 =>
                      have H := HA.out
                      clear HA
                      simp only [contangolaw10_SeriesBack.j3] at H
                      by_cases c40 : x61_37 = true
                      · subst c40
                        have H1 : (if x8_22 = true then (none) else (if t110.toList = ([] : List UInt8) then ((contangolaw10_goes.f kj37).bind fun t111 => (some t111)) else (none))) = some r := by rw [if_pos rfl] at H; exact H
                        clear H
                        have H := H1
                        clear H1
                        by_cases c41 : x8_22 = true
                        · subst c41
                          have H1 : (none) = some r := by rw [if_pos rfl] at H; exact H
                          clear H
                          have H := H1
                          clear H1
                          exact absurd H (by simp)
                        · replace c41 := Bool.eq_false_iff.mpr c41
                          subst c41
                          have H1 : (if t110.toList = ([] : List UInt8) then ((contangolaw10_goes.f kj37).bind fun t111 => (some t111)) else (none)) = some r := by rw [if_neg (show ¬ (false = true) by decide)] at H; exact H
                          clear H
                          have H := H1
                          clear H1
                          by_cases c42 : t110.toList = ([] : List UInt8)
                          · rw [if_pos c42] at H
                            have c42b0 : (t110.toList == ([] : List UInt8)) = true := beq_iff_eq.mpr c42
                            have c42b1 : (t110.toList != ([] : List UInt8)) = false := bne_eq_false_iff_eq.mpr c42
                            clear c42
                            replace H := Option.bind_eq_some_iff.mp H
                            obtain ⟨t111, A430, H⟩ := H
                            replace H : (some t111) = some r := H
                            have A43 := Aside0.mk A430
                            clear A430
                            obtain rfl := Option.some.inj H
                            go_wp2_with (first | (go_at_call 14; (with_reducible refine (contangolaw10_goes.calls kj37  t111 _ A43.out (glob_of HGL.out (by repeat (first | (with_reducible first | exact HB.out | apply below_alloc | apply pw_below_drewN | apply below_drew1 | refine below_set ?_ GE101.out | refine below_set ?_ GE108.out | refine below_set ?_ GE119.out) | exact HB.out)))).mono ?_); rintro e w44 ⟨rfl, hb⟩; have n0_ := Aside0.mk (blk_below (g := gb101) (o := .cells #[.string a0_0, .int .i64 a0_1, .int .i64 a0_2, .int .i64 a0_3] 23 (0, 0)) (by (with_reducible repeat (first | refine blk_drewN ?_ _ | refine blk_drew ?_ | refine blk_alloc ?_ _)); exact BK101.out) hb); have n1_ := Aside0.mk (blk_below (g := gb108) (o := .cells #[.string t103, .int .i64 t104, .int .i64 t105, .int .i64 t106] 23 (0, 0)) (by (with_reducible repeat (first | refine blk_drewN ?_ _ | refine blk_drew ?_ | refine blk_alloc ?_ _)); exact BK108.out) hb); have n2_ := Aside0.mk (below_step (by repeat (first | (with_reducible first | exact HB.out | apply below_alloc | apply pw_below_drewN | apply below_drew1 | refine below_set ?_ GE101.out | refine below_set ?_ GE108.out) | exact HB.out)) hb); clear BK101; clear BK108; clear HB; have BK101 := n0_; have BK108 := n1_; have HB := n2_; clear n0_ n1_ n2_; (try clear hb); (try clear hb2); (try clear hk); (try clear hi)))
                            go_ret
                            exact ⟨by first | rfl | (simp [errW_none, errW_some] <;> rfl) | (simp [*, errW_none, errW_some] <;> rfl), by repeat (first | (with_reducible first | exact HB.out | apply below_alloc | apply pw_below_drewN | apply below_drew1 | refine below_set ?_ GE101.out | refine below_set ?_ GE108.out) | exact HB.out)⟩
                          · rw [if_neg c42] at H
                            exact absurd H (by simp)
                      · replace c40 := Bool.eq_false_iff.mpr c40
                        subst c40
                        have H1 : ((contangoref03_Name.f kj37 a0_0).bind fun t112 => (if t112 = true then (if a0_3 < (-16777216) then (contangolaw10_SeriesBack.j4 kj37 t110 true a0_0 a0_1 a0_2 a0_3) else (if a0_3 > 16777216 then (contangolaw10_SeriesBack.j4 kj37 t110 true a0_0 a0_1 a0_2 a0_3) else (if a0_1 = 1 then (contangolaw10_SeriesBack.j4 kj37 t110 (a0_3 != 0) a0_0 a0_1 a0_2 a0_3) else (contangolaw10_SeriesBack.j4 kj37 t110 false a0_0 a0_1 a0_2 a0_3)))) else (contangolaw10_SeriesBack.j4 kj37 t110 true a0_0 a0_1 a0_2 a0_3))) = some r := by rw [if_neg (show ¬ (false = true) by decide)] at H; exact H
                        clear H
                        have H := H1
                        clear H1
                        have HC45 := Aside0.mk H
                        clear H
                        go_upto_region 10 with (fail)
                        go_cut [94] (fun v94 wc => ∃ (kq : Nat) (x94_44 : Bool), v94 = .bool x94_44 ∧ Aside0 (contangolaw10_SeriesBack.j4 kq t110 x94_44 a0_0 a0_1 a0_2 a0_3 = some r) ∧ Aside0 (kq ≤ kj37) ∧ Aside0 (wc.heap[gb101]? = some (.cells #[.string a0_0, .int .i64 a0_1, .int .i64 a0_2, .int .i64 a0_3] 23 (0, 0))) ∧ Aside0 (wc.heap[gb108]? = some (.cells #[.string t103, .int .i64 t104, .int .i64 t105, .int .i64 t106] 23 (0, 0))) ∧ Aside0 (Below w.heap.size w wc))
                        case first =>
                          have H := HC45.out
                          clear HC45
                          replace H := Option.bind_eq_some_iff.mp H
                          obtain ⟨t112, A460, H⟩ := H
                          replace H : (if t112 = true then (if a0_3 < (-16777216) then (contangolaw10_SeriesBack.j4 kj37 t110 true a0_0 a0_1 a0_2 a0_3) else (if a0_3 > 16777216 then (contangolaw10_SeriesBack.j4 kj37 t110 true a0_0 a0_1 a0_2 a0_3) else (if a0_1 = 1 then (contangolaw10_SeriesBack.j4 kj37 t110 (a0_3 != 0) a0_0 a0_1 a0_2 a0_3) else (contangolaw10_SeriesBack.j4 kj37 t110 false a0_0 a0_1 a0_2 a0_3)))) else (contangolaw10_SeriesBack.j4 kj37 t110 true a0_0 a0_1 a0_2 a0_3)) = some r := H
                          have A46 := Aside0.mk A460
                          clear A460
                          by_cases c47 : t112 = true
                          · subst c47
                            have H1 : (if a0_3 < (-16777216) then (contangolaw10_SeriesBack.j4 kj37 t110 true a0_0 a0_1 a0_2 a0_3) else (if a0_3 > 16777216 then (contangolaw10_SeriesBack.j4 kj37 t110 true a0_0 a0_1 a0_2 a0_3) else (if a0_1 = 1 then (contangolaw10_SeriesBack.j4 kj37 t110 (a0_3 != 0) a0_0 a0_1 a0_2 a0_3) else (contangolaw10_SeriesBack.j4 kj37 t110 false a0_0 a0_1 a0_2 a0_3)))) = some r := by rw [if_pos rfl] at H; exact H
                            clear H
                            have H := H1
                            clear H1
                            by_cases c48 : a0_3 < (-16777216)
                            · rw [if_pos c48] at H
                              have c48b0 : decide (a0_3 < (-16777216)) = true := decide_eq_true c48
                              clear c48
                              (first | rw [c48b0] | (simp only [i64_w, i32_w]; rw [c48b0]) | skip)
                              have H' := Aside0.mk H
                              clear H
                              have hnb49 := NB101_108.out
                              have hnc49 := NB108_101.out
                              have hcz50_0 : wc.cell? ⟨gb101, 0, none⟩ = some (.string a0_0) := (blk_cell BK101.out 0).trans rfl
                              have hcz50_1 : wc.cell? ⟨gb101, 1, none⟩ = some (.int .i64 a0_1) := (blk_cell BK101.out 1).trans rfl
                              have hcz50_2 : wc.cell? ⟨gb101, 2, none⟩ = some (.int .i64 a0_2) := (blk_cell BK101.out 2).trans rfl
                              have hcz50_3 : wc.cell? ⟨gb101, 3, none⟩ = some (.int .i64 a0_3) := (blk_cell BK101.out 3).trans rfl
                              have hfz50_0 := blk_frozen BK101.out 0
                              have hfz50_1 := blk_frozen BK101.out 1
                              have hfz50_2 := blk_frozen BK101.out 2
                              have hfz50_3 := blk_frozen BK101.out 3
                              go_wp2_with (first | ((with_reducible refine gate_callee (f := 19) rfl ?_); refine goesL_ (some 73) rfl rfl Tryd.func19 (by kernel_rfl) rfl #[.string a0_0] rfl (by (try simp only [List.map_toArray, List.map_cons, List.map_nil]); first | done | rfl | (simp only [List.length_drop, List.length_take]; rfl)) ?_; (with_reducible refine (contangoref03_Name.calls kj37 a0_0 true _ A46.out).mono ?_); rintro e w' ⟨rfl, ⟨nd, rfl⟩⟩; refine ⟨_, rfl, ?_⟩))
                              go_meet
                              case rel => exact ⟨_, (true), (by first | rfl | (simp; done) | (simp [*]; done)), H', ⟨by have := HJ2.out; have := HJ10.out; have := HJ22.out; have := HJ37.out; first | omega | exact Nat.le_refl _⟩, ⟨by (with_reducible repeat (first | refine blk_drewN ?_ _ | refine blk_drew ?_ | refine blk_alloc ?_ _)); exact BK101.out⟩, ⟨by (with_reducible repeat (first | refine blk_drewN ?_ _ | refine blk_drew ?_ | refine blk_alloc ?_ _)); exact BK108.out⟩, ⟨by repeat (first | (with_reducible first | exact HB.out | apply below_alloc | apply pw_below_drewN | apply below_drew1 | refine below_set ?_ GE101.out | refine below_set ?_ GE108.out) | exact HB.out)⟩⟩
                            · rw [if_neg c48] at H
                              have c48b0 : decide (a0_3 < (-16777216)) = false := decide_eq_false c48
                              clear c48
                              (first | rw [c48b0] | (simp only [i64_w, i32_w]; rw [c48b0]) | skip)
                              by_cases c51 : a0_3 > 16777216
                              · rw [if_pos c51] at H
                                have c51b0 : decide (16777216 < a0_3) = true := decide_eq_true c51
                                clear c51
                                have H' := Aside0.mk H
                                clear H
                                have hnb52 := NB101_108.out
                                have hnc52 := NB108_101.out
                                have hcz53_0 : wc.cell? ⟨gb101, 0, none⟩ = some (.string a0_0) := (blk_cell BK101.out 0).trans rfl
                                have hcz53_1 : wc.cell? ⟨gb101, 1, none⟩ = some (.int .i64 a0_1) := (blk_cell BK101.out 1).trans rfl
                                have hcz53_2 : wc.cell? ⟨gb101, 2, none⟩ = some (.int .i64 a0_2) := (blk_cell BK101.out 2).trans rfl
                                have hcz53_3 : wc.cell? ⟨gb101, 3, none⟩ = some (.int .i64 a0_3) := (blk_cell BK101.out 3).trans rfl
                                have hfz53_0 := blk_frozen BK101.out 0
                                have hfz53_1 := blk_frozen BK101.out 1
                                have hfz53_2 := blk_frozen BK101.out 2
                                have hfz53_3 := blk_frozen BK101.out 3
                                go_wp2_with (first | ((with_reducible refine gate_callee (f := 19) rfl ?_); refine goesL_ (some 73) rfl rfl Tryd.func19 (by kernel_rfl) rfl #[.string a0_0] rfl (by (try simp only [List.map_toArray, List.map_cons, List.map_nil]); first | done | rfl | (simp only [List.length_drop, List.length_take]; rfl)) ?_; (with_reducible refine (contangoref03_Name.calls kj37 a0_0 true _ A46.out).mono ?_); rintro e w' ⟨rfl, ⟨nd, rfl⟩⟩; refine ⟨_, rfl, ?_⟩))
                                go_meet
                                case rel => exact ⟨_, (true), (by first | rfl | (simp; done) | (simp [*]; done)), H', ⟨by have := HJ2.out; have := HJ10.out; have := HJ22.out; have := HJ37.out; first | omega | exact Nat.le_refl _⟩, ⟨by (with_reducible repeat (first | refine blk_drewN ?_ _ | refine blk_drew ?_ | refine blk_alloc ?_ _)); exact BK101.out⟩, ⟨by (with_reducible repeat (first | refine blk_drewN ?_ _ | refine blk_drew ?_ | refine blk_alloc ?_ _)); exact BK108.out⟩, ⟨by repeat (first | (with_reducible first | exact HB.out | apply below_alloc | apply pw_below_drewN | apply below_drew1 | refine below_set ?_ GE101.out | refine below_set ?_ GE108.out) | exact HB.out)⟩⟩
                              · rw [if_neg c51] at H
                                have c51b0 : decide (16777216 < a0_3) = false := decide_eq_false c51
                                clear c51
                                by_cases c54 : a0_1 = 1
                                · rw [if_pos c54] at H
                                  have c54b0 : (a0_1 == 1) = true := beq_iff_eq.mpr c54
                                  have c54b1 : (a0_1 != 1) = false := bne_eq_false_iff_eq.mpr c54
                                  clear c54
                                  have H' := Aside0.mk H
                                  clear H
                                  have hnb55 := NB101_108.out
                                  have hnc55 := NB108_101.out
                                  have hcz56_0 : wc.cell? ⟨gb101, 0, none⟩ = some (.string a0_0) := (blk_cell BK101.out 0).trans rfl
                                  have hcz56_1 : wc.cell? ⟨gb101, 1, none⟩ = some (.int .i64 a0_1) := (blk_cell BK101.out 1).trans rfl
                                  have hcz56_2 : wc.cell? ⟨gb101, 2, none⟩ = some (.int .i64 a0_2) := (blk_cell BK101.out 2).trans rfl
                                  have hcz56_3 : wc.cell? ⟨gb101, 3, none⟩ = some (.int .i64 a0_3) := (blk_cell BK101.out 3).trans rfl
                                  have hfz56_0 := blk_frozen BK101.out 0
                                  have hfz56_1 := blk_frozen BK101.out 1
                                  have hfz56_2 := blk_frozen BK101.out 2
                                  have hfz56_3 := blk_frozen BK101.out 3
                                  go_wp2_with (first | ((with_reducible refine gate_callee (f := 19) rfl ?_); refine goesL_ (some 73) rfl rfl Tryd.func19 (by kernel_rfl) rfl #[.string a0_0] rfl (by (try simp only [List.map_toArray, List.map_cons, List.map_nil]); first | done | rfl | (simp only [List.length_drop, List.length_take]; rfl)) ?_; (with_reducible refine (contangoref03_Name.calls kj37 a0_0 true _ A46.out).mono ?_); rintro e w' ⟨rfl, ⟨nd, rfl⟩⟩; refine ⟨_, rfl, ?_⟩))
                                  go_meet
                                  case rel => exact ⟨_, ((a0_3 != 0)), (by first | rfl | (simp; done) | (simp [*]; done)), H', ⟨by have := HJ2.out; have := HJ10.out; have := HJ22.out; have := HJ37.out; first | omega | exact Nat.le_refl _⟩, ⟨by (with_reducible repeat (first | refine blk_drewN ?_ _ | refine blk_drew ?_ | refine blk_alloc ?_ _)); exact BK101.out⟩, ⟨by (with_reducible repeat (first | refine blk_drewN ?_ _ | refine blk_drew ?_ | refine blk_alloc ?_ _)); exact BK108.out⟩, ⟨by repeat (first | (with_reducible first | exact HB.out | apply below_alloc | apply pw_below_drewN | apply below_drew1 | refine below_set ?_ GE101.out | refine below_set ?_ GE108.out) | exact HB.out)⟩⟩
                                · rw [if_neg c54] at H
                                  have c54b0 : (a0_1 == 1) = false := beq_eq_false_iff_ne.mpr c54
                                  have c54b1 : (a0_1 != 1) = true := bne_iff_ne.mpr c54
                                  have H' := Aside0.mk H
                                  clear H
                                  have hnb57 := NB101_108.out
                                  have hnc57 := NB108_101.out
                                  have hcz58_0 : wc.cell? ⟨gb101, 0, none⟩ = some (.string a0_0) := (blk_cell BK101.out 0).trans rfl
                                  have hcz58_1 : wc.cell? ⟨gb101, 1, none⟩ = some (.int .i64 a0_1) := (blk_cell BK101.out 1).trans rfl
                                  have hcz58_2 : wc.cell? ⟨gb101, 2, none⟩ = some (.int .i64 a0_2) := (blk_cell BK101.out 2).trans rfl
                                  have hcz58_3 : wc.cell? ⟨gb101, 3, none⟩ = some (.int .i64 a0_3) := (blk_cell BK101.out 3).trans rfl
                                  have hfz58_0 := blk_frozen BK101.out 0
                                  have hfz58_1 := blk_frozen BK101.out 1
                                  have hfz58_2 := blk_frozen BK101.out 2
                                  have hfz58_3 := blk_frozen BK101.out 3
                                  go_wp2_with (first | ((with_reducible refine gate_callee (f := 19) rfl ?_); refine goesL_ (some 73) rfl rfl Tryd.func19 (by kernel_rfl) rfl #[.string a0_0] rfl (by (try simp only [List.map_toArray, List.map_cons, List.map_nil]); first | done | rfl | (simp only [List.length_drop, List.length_take]; rfl)) ?_; (with_reducible refine (contangoref03_Name.calls kj37 a0_0 true _ A46.out).mono ?_); rintro e w' ⟨rfl, ⟨nd, rfl⟩⟩; refine ⟨_, rfl, ?_⟩))
                                  go_meet
                                  case rel => exact ⟨_, (false), (by first | rfl | (simp; done) | (simp [*]; done)), H', ⟨by have := HJ2.out; have := HJ10.out; have := HJ22.out; have := HJ37.out; first | omega | exact Nat.le_refl _⟩, ⟨by (with_reducible repeat (first | refine blk_drewN ?_ _ | refine blk_drew ?_ | refine blk_alloc ?_ _)); exact BK101.out⟩, ⟨by (with_reducible repeat (first | refine blk_drewN ?_ _ | refine blk_drew ?_ | refine blk_alloc ?_ _)); exact BK108.out⟩, ⟨by repeat (first | (with_reducible first | exact HB.out | apply below_alloc | apply pw_below_drewN | apply below_drew1 | refine below_set ?_ GE101.out | refine below_set ?_ GE108.out) | exact HB.out)⟩⟩
                          · replace c47 := Bool.eq_false_iff.mpr c47
                            subst c47
                            have H1 : (contangolaw10_SeriesBack.j4 kj37 t110 true a0_0 a0_1 a0_2 a0_3) = some r := by rw [if_neg (show ¬ (false = true) by decide)] at H; exact H
                            clear H
                            have H := H1
                            clear H1
                            have H' := Aside0.mk H
                            clear H
                            have hnb59 := NB101_108.out
                            have hnc59 := NB108_101.out
                            have hcz60_0 : wc.cell? ⟨gb101, 0, none⟩ = some (.string a0_0) := (blk_cell BK101.out 0).trans rfl
                            have hcz60_1 : wc.cell? ⟨gb101, 1, none⟩ = some (.int .i64 a0_1) := (blk_cell BK101.out 1).trans rfl
                            have hcz60_2 : wc.cell? ⟨gb101, 2, none⟩ = some (.int .i64 a0_2) := (blk_cell BK101.out 2).trans rfl
                            have hcz60_3 : wc.cell? ⟨gb101, 3, none⟩ = some (.int .i64 a0_3) := (blk_cell BK101.out 3).trans rfl
                            have hfz60_0 := blk_frozen BK101.out 0
                            have hfz60_1 := blk_frozen BK101.out 1
                            have hfz60_2 := blk_frozen BK101.out 2
                            have hfz60_3 := blk_frozen BK101.out 3
                            go_wp2_with (first | ((with_reducible refine gate_callee (f := 19) rfl ?_); refine goesL_ (some 73) rfl rfl Tryd.func19 (by kernel_rfl) rfl #[.string a0_0] rfl (by (try simp only [List.map_toArray, List.map_cons, List.map_nil]); first | done | rfl | (simp only [List.length_drop, List.length_take]; rfl)) ?_; (with_reducible refine (contangoref03_Name.calls kj37 a0_0 false _ A46.out).mono ?_); rintro e w' ⟨rfl, ⟨nd, rfl⟩⟩; refine ⟨_, rfl, ?_⟩))
                            go_meet
                            case rel => exact ⟨_, (true), (by first | rfl | (simp; done) | (simp [*]; done)), H', ⟨by have := HJ2.out; have := HJ10.out; have := HJ22.out; have := HJ37.out; first | omega | exact Nat.le_refl _⟩, ⟨by (with_reducible repeat (first | refine blk_drewN ?_ _ | refine blk_drew ?_ | refine blk_alloc ?_ _)); exact BK101.out⟩, ⟨by (with_reducible repeat (first | refine blk_drewN ?_ _ | refine blk_drew ?_ | refine blk_alloc ?_ _)); exact BK108.out⟩, ⟨by repeat (first | (with_reducible first | exact HB.out | apply below_alloc | apply pw_below_drewN | apply below_drew1 | refine below_set ?_ GE101.out | refine below_set ?_ GE108.out) | exact HB.out)⟩⟩
                        case rest =>
                          clear HC45
                          try clear c1
                          try clear c2
                          try clear p2
                          try clear c3
                          try clear c4
                          try clear c5
                          try clear c5b0
                          try clear c5b1
                          try clear c7
                          try clear c14
                          try clear c15
                          try clear c16
                          try clear c16b0
                          try clear c16b1
                          try clear c17
                          try clear c18
                          try clear c19
                          try clear c21
                          try clear c24
                          try clear c27
                          try clear c27b0
                          try clear c28
                          try clear c28b0
                          try clear c29
                          try clear c29b0
                          try clear c30
                          try clear c32
                          try clear c34
                          try clear c36
                          try clear c39
                          try clear c40
                          try clear c41
                          try clear c42
                          try clear c42b0
                          try clear c42b1
                          try clear c47
                          try clear c48
                          try clear c48b0
                          try clear c49
                          try clear c51
                          try clear c51b0
                          try clear c52
                          try clear c54
                          try clear c54b0
                          try clear c54b1
                          try clear c55
                          try clear c57
                          try clear c59
                          try clear hcz15_0
                          try clear hcz15_1
                          try clear hcz15_2
                          try clear hcz15_3
                          try clear hcz19_0
                          try clear hcz19_1
                          try clear hcz19_2
                          try clear hcz19_3
                          try clear hcz25_0
                          try clear hcz25_1
                          try clear hcz25_2
                          try clear hcz25_3
                          try clear hcz31_0
                          try clear hcz31_1
                          try clear hcz31_2
                          try clear hcz31_3
                          try clear hcz33_0
                          try clear hcz33_1
                          try clear hcz33_2
                          try clear hcz33_3
                          try clear hcz35_0
                          try clear hcz35_1
                          try clear hcz35_2
                          try clear hcz35_3
                          try clear hcz37_0
                          try clear hcz37_1
                          try clear hcz37_2
                          try clear hcz37_3
                          try clear hcz50_0
                          try clear hcz50_1
                          try clear hcz50_2
                          try clear hcz50_3
                          try clear hcz53_0
                          try clear hcz53_1
                          try clear hcz53_2
                          try clear hcz53_3
                          try clear hcz56_0
                          try clear hcz56_1
                          try clear hcz56_2
                          try clear hcz56_3
                          try clear hcz58_0
                          try clear hcz58_1
                          try clear hcz58_2
                          try clear hcz58_3
                          try clear hcz60_0
                          try clear hcz60_1
                          try clear hcz60_2
                          try clear hcz60_3
                          try clear hcz6_0
                          try clear hcz6_1
                          try clear hcz6_2
                          try clear hcz6_3
                          try clear hfz15_0
                          try clear hfz15_1
                          try clear hfz15_2
                          try clear hfz15_3
                          try clear hfz19_0
                          try clear hfz19_1
                          try clear hfz19_2
                          try clear hfz19_3
                          try clear hfz25_0
                          try clear hfz25_1
                          try clear hfz25_2
                          try clear hfz25_3
                          try clear hfz31_0
                          try clear hfz31_1
                          try clear hfz31_2
                          try clear hfz31_3
                          try clear hfz33_0
                          try clear hfz33_1
                          try clear hfz33_2
                          try clear hfz33_3
                          try clear hfz35_0
                          try clear hfz35_1
                          try clear hfz35_2
                          try clear hfz35_3
                          try clear hfz37_0
                          try clear hfz37_1
                          try clear hfz37_2
                          try clear hfz37_3
                          try clear hfz50_0
                          try clear hfz50_1
                          try clear hfz50_2
                          try clear hfz50_3
                          try clear hfz53_0
                          try clear hfz53_1
                          try clear hfz53_2
                          try clear hfz53_3
                          try clear hfz56_0
                          try clear hfz56_1
                          try clear hfz56_2
                          try clear hfz56_3
                          try clear hfz58_0
                          try clear hfz58_1
                          try clear hfz58_2
                          try clear hfz58_3
                          try clear hfz60_0
                          try clear hfz60_1
                          try clear hfz60_2
                          try clear hfz60_3
                          try clear hfz6_0
                          try clear hfz6_1
                          try clear hfz6_2
                          try clear hfz6_3
                          try clear p2
                          obtain ⟨kq, x94_44, rfl, HA, HJ44, BK101, BK108, HB⟩ := hcut
                          cases kq with
                          | zero => exact absurd HA.out (by simp [contangolaw10_SeriesBack.j4])
                          | succ kj44 =>
                            have H := HA.out
                            clear HA
                            simp only [contangolaw10_SeriesBack.j4] at H
                            by_cases c61 : x94_44 = true
                            · subst c61
                              have H1 : ((contangolaw10_goes.f kj44).bind fun t113 => (some t113)) = some r := by rw [if_pos rfl] at H; exact H
                              clear H
                              have H := H1
                              clear H1
                              replace H := Option.bind_eq_some_iff.mp H
                              obtain ⟨t113, A620, H⟩ := H
                              replace H : (some t113) = some r := H
                              have A62 := Aside0.mk A620
                              clear A620
                              obtain rfl := Option.some.inj H
                              go_wp2_with (first | ((with_reducible refine gate_callee (f := 14) rfl ?_); refine goesL_ (some 95) rfl rfl Tryd.func14 (by kernel_rfl) rfl #[] rfl (by (try simp only [List.map_toArray, List.map_cons, List.map_nil]); first | done | rfl | (simp only [List.length_drop, List.length_take]; rfl)) ?_; (with_reducible refine (contangolaw10_goes.calls kj44  t113 _ A62.out (glob_of HGL.out (by repeat (first | (with_reducible first | exact HB.out | apply below_alloc | apply pw_below_drewN | apply below_drew1 | refine below_set ?_ GE101.out | refine below_set ?_ GE108.out | refine below_set ?_ GE119.out) | exact HB.out)))).mono ?_); rintro e w63 ⟨rfl, hb⟩; refine ⟨_, rfl, ?_⟩; have n0_ := Aside0.mk (blk_below (g := gb101) (o := .cells #[.string a0_0, .int .i64 a0_1, .int .i64 a0_2, .int .i64 a0_3] 23 (0, 0)) (by (with_reducible repeat (first | refine blk_drewN ?_ _ | refine blk_drew ?_ | refine blk_alloc ?_ _)); exact BK101.out) hb); have n1_ := Aside0.mk (blk_below (g := gb108) (o := .cells #[.string t103, .int .i64 t104, .int .i64 t105, .int .i64 t106] 23 (0, 0)) (by (with_reducible repeat (first | refine blk_drewN ?_ _ | refine blk_drew ?_ | refine blk_alloc ?_ _)); exact BK108.out) hb); have n2_ := Aside0.mk (below_step (by repeat (first | (with_reducible first | exact HB.out | apply below_alloc | apply pw_below_drewN | apply below_drew1 | refine below_set ?_ GE101.out | refine below_set ?_ GE108.out) | exact HB.out)) hb); clear BK101; clear BK108; clear HB; have BK101 := n0_; have BK108 := n1_; have HB := n2_; clear n0_ n1_ n2_; (try clear hb); (try clear hb2); (try clear hk); (try clear hi)))
                              go_ret
                              exact ⟨by first | rfl | (simp [errW_none, errW_some] <;> rfl) | (simp [*, errW_none, errW_some] <;> rfl), by repeat (first | (with_reducible first | exact HB.out | apply below_alloc | apply pw_below_drewN | apply below_drew1 | refine below_set ?_ GE101.out | refine below_set ?_ GE108.out) | exact HB.out)⟩
                            · replace c61 := Bool.eq_false_iff.mpr c61
                              subst c61
                              have H1 : ((series_Parse.f kj44 t110).bind fun bt114 => (if (bt114.1.toList == a0_0.toList && (bt114.2.1 == a0_1 && (bt114.2.2.1 == a0_2 && (bt114.2.2.2.1 == a0_3)))) = true then (if bt114.2.2.2.2 = 0 then ((contangolaw10_goes.f kj44).bind fun t120 => (some t120)) else (none)) else (none))) = some r := by rw [if_neg (show ¬ (false = true) by decide)] at H; exact H
                              clear H
                              have H := H1
                              clear H1
                              replace H := Option.bind_eq_some_iff.mp H
                              obtain ⟨⟨t114, t115, t116, t117, t118⟩, A640, H⟩ := H
                              replace H : (if (t114.toList == a0_0.toList && (t115 == a0_1 && (t116 == a0_2 && (t117 == a0_3)))) = true then (if t118 = 0 then ((contangolaw10_goes.f kj44).bind fun t120 => (some t120)) else (none)) else (none)) = some r := H
                              have A64 := Aside0.mk A640
                              clear A640
                              by_cases c65 : (t114.toList == a0_0.toList && (t115 == a0_1 && (t116 == a0_2 && (t117 == a0_3)))) = true
                              · rw [if_pos c65] at H
                                have c65b0 : (t114.toList == a0_0.toList && (t115 == a0_1 && (t116 == a0_2 && (t117 == a0_3)))) = true := c65
                                (try (have c65b1 : decide (t114.toList = a0_0.toList && (t115 == a0_1 && (t116 == a0_2 && (t117 == a0_3)))) = true := by simpa using c65))
                                (try (have c65b2 : (t114.toList == a0_0.toList && (t115 == a0_1 && (t116 == a0_2 && (t117 == a0_3)))) = true := by simpa using c65))
                                clear c65
                                by_cases c66 : t118 = 0
                                · rw [if_pos c66] at H
                                  have c66b0 : (t118 == 0) = true := beq_iff_eq.mpr c66
                                  have c66b1 : (t118 != 0) = false := bne_eq_false_iff_eq.mpr c66
                                  clear c66
                                  replace H := Option.bind_eq_some_iff.mp H
                                  obtain ⟨t120, A670, H⟩ := H
                                  replace H : (some t120) = some r := H
                                  have A67 := Aside0.mk A670
                                  clear A670
                                  obtain rfl := Option.some.inj H
                                  go_wp2_with (first | ((with_reducible refine gate_callee (f := 15) rfl ?_); refine goesL_ (some 98) rfl rfl Tryd.func15 (by kernel_rfl) rfl #[.string t110] rfl (by (try simp only [List.map_toArray, List.map_cons, List.map_nil]); first | done | rfl | (simp only [List.length_drop, List.length_take]; rfl)) ?_; (with_reducible refine (series_Parse.calls kj44 t110 t114 t115 t116 t117 t118 _ A64.out (glob_of HGL.out (by repeat (first | (with_reducible first | exact HB.out | apply below_alloc | apply pw_below_drewN | apply below_drew1 | refine below_set ?_ GE101.out | refine below_set ?_ GE108.out | refine below_set ?_ GE119.out) | exact HB.out)))).mono ?_); rintro e w68 ⟨rfl, hb⟩; refine ⟨_, rfl, ?_⟩; have n0_ := Aside0.mk (blk_below (g := gb101) (o := .cells #[.string a0_0, .int .i64 a0_1, .int .i64 a0_2, .int .i64 a0_3] 23 (0, 0)) (by (with_reducible repeat (first | refine blk_drewN ?_ _ | refine blk_drew ?_ | refine blk_alloc ?_ _)); exact BK101.out) hb); have n1_ := Aside0.mk (blk_below (g := gb108) (o := .cells #[.string t103, .int .i64 t104, .int .i64 t105, .int .i64 t106] 23 (0, 0)) (by (with_reducible repeat (first | refine blk_drewN ?_ _ | refine blk_drew ?_ | refine blk_alloc ?_ _)); exact BK108.out) hb); have n2_ := Aside0.mk (below_step (by repeat (first | (with_reducible first | exact HB.out | apply below_alloc | apply pw_below_drewN | apply below_drew1 | refine below_set ?_ GE101.out | refine below_set ?_ GE108.out) | exact HB.out)) hb); clear BK101; clear BK108; clear HB; have BK101 := n0_; have BK108 := n1_; have HB := n2_; clear n0_ n1_ n2_; (try clear hb); (try clear hb2); (try clear hk); (try clear hi)) | ((with_reducible refine gate_dst (N := 9) rfl ?_); (try (refine gate_guard (by rfl) ?_; dsimp only)); refine box_event ?hg (N := 9) ?hd (cs := #[.string (⟨#[]⟩ : ByteArray), .int .i64 0, .int .i64 0, .int .i64 0]) (t := 23) ?hr ?_; (case hd => rfl); (case hg => rfl); (case hr => first | (go_simp; done) | (go_simp; rfl)); intro gb119 hg w69 hbox hb; have n0_ := Aside0.mk (blk_below (g := gb101) (o := .cells #[.string a0_0, .int .i64 a0_1, .int .i64 a0_2, .int .i64 a0_3] 23 (0, 0)) (by (with_reducible repeat (first | refine blk_drewN ?_ _ | refine blk_drew ?_ | refine blk_alloc ?_ _)); exact BK101.out) hb); have n1_ := Aside0.mk (blk_below (g := gb108) (o := .cells #[.string t103, .int .i64 t104, .int .i64 t105, .int .i64 t106] 23 (0, 0)) (by (with_reducible repeat (first | refine blk_drewN ?_ _ | refine blk_drew ?_ | refine blk_alloc ?_ _)); exact BK108.out) hb); have n2_ := Aside0.mk (below_step (by repeat (first | (with_reducible first | exact HB.out | apply below_alloc | apply pw_below_drewN | apply below_drew1 | refine below_set ?_ GE101.out | refine below_set ?_ GE108.out) | exact HB.out)) hb); have n3_ := Aside0.mk (hbox); have n4_ := Aside0.mk ((by rw [hg]; exact (below_size (by repeat (first | (with_reducible first | exact HB.out | apply below_alloc | apply pw_below_drewN | apply below_drew1 | refine below_set ?_ GE101.out | refine below_set ?_ GE108.out) | exact HB.out))) : w.heap.size ≤ gb119)); have n5_ := Aside0.mk ((by rw [hg]; exact (below_size (by repeat (first | (with_reducible first | exact HB.out | apply below_alloc | apply pw_below_drewN | apply below_drew1 | refine below_set ?_ GE101.out | refine below_set ?_ GE108.out) | exact HB.out))) : w.heap.size ≤ gb119)); have n6_ := Aside0.mk ((by rw [hg]; exact Nat.ne_of_lt (blk_lt (g := gb101) (o := .cells #[.string a0_0, .int .i64 a0_1, .int .i64 a0_2, .int .i64 a0_3] 23 (0, 0)) (by (with_reducible repeat (first | refine blk_drewN ?_ _ | refine blk_drew ?_ | refine blk_alloc ?_ _)); exact BK101.out)) : gb101 ≠ gb119)); have n7_ := Aside0.mk ((by rw [hg]; exact Nat.ne_of_gt (blk_lt (g := gb101) (o := .cells #[.string a0_0, .int .i64 a0_1, .int .i64 a0_2, .int .i64 a0_3] 23 (0, 0)) (by (with_reducible repeat (first | refine blk_drewN ?_ _ | refine blk_drew ?_ | refine blk_alloc ?_ _)); exact BK101.out)) : gb119 ≠ gb101)); have n8_ := Aside0.mk ((by rw [hg]; exact Nat.ne_of_lt (blk_lt (g := gb108) (o := .cells #[.string t103, .int .i64 t104, .int .i64 t105, .int .i64 t106] 23 (0, 0)) (by (with_reducible repeat (first | refine blk_drewN ?_ _ | refine blk_drew ?_ | refine blk_alloc ?_ _)); exact BK108.out)) : gb108 ≠ gb119)); have n9_ := Aside0.mk ((by rw [hg]; exact Nat.ne_of_gt (blk_lt (g := gb108) (o := .cells #[.string t103, .int .i64 t104, .int .i64 t105, .int .i64 t106] 23 (0, 0)) (by (with_reducible repeat (first | refine blk_drewN ?_ _ | refine blk_drew ?_ | refine blk_alloc ?_ _)); exact BK108.out)) : gb119 ≠ gb108)); clear BK101; clear BK108; clear HB; have BK101 := n0_; have BK108 := n1_; have HB := n2_; have BK119 := n3_; have GW119 := n4_; have GE119 := n5_; have NB101_119 := n6_; have NB119_101 := n7_; have NB108_119 := n8_; have NB119_108 := n9_; clear n0_ n1_ n2_ n3_ n4_ n5_ n6_ n7_ n8_ n9_; clear hb hbox hg; have hnb70 := NB119_101.out; have hnc70 := NB101_119.out; have hnb71 := NB119_108.out; have hnc71 := NB108_119.out; have hcz72_0 : w69.cell? ⟨gb119, 0, none⟩ = some (.string (⟨#[]⟩ : ByteArray)) := (blk_cell BK119.out 0).trans rfl; have hcz72_1 : w69.cell? ⟨gb119, 1, none⟩ = some (.int .i64 0) := (blk_cell BK119.out 1).trans rfl; have hcz72_2 : w69.cell? ⟨gb119, 2, none⟩ = some (.int .i64 0) := (blk_cell BK119.out 2).trans rfl; have hcz72_3 : w69.cell? ⟨gb119, 3, none⟩ = some (.int .i64 0) := (blk_cell BK119.out 3).trans rfl; have hfz72_0 := blk_frozen BK119.out 0; have hfz72_1 := blk_frozen BK119.out 1; have hfz72_2 := blk_frozen BK119.out 2; have hfz72_3 := blk_frozen BK119.out 3; have hnb73 := NB101_108.out; have hnc73 := NB108_101.out; have hcz74_0 : w69.cell? ⟨gb101, 0, none⟩ = some (.string a0_0) := (blk_cell BK101.out 0).trans rfl; have hcz74_1 : w69.cell? ⟨gb101, 1, none⟩ = some (.int .i64 a0_1) := (blk_cell BK101.out 1).trans rfl; have hcz74_2 : w69.cell? ⟨gb101, 2, none⟩ = some (.int .i64 a0_2) := (blk_cell BK101.out 2).trans rfl; have hcz74_3 : w69.cell? ⟨gb101, 3, none⟩ = some (.int .i64 a0_3) := (blk_cell BK101.out 3).trans rfl; have hfz74_0 := blk_frozen BK101.out 0; have hfz74_1 := blk_frozen BK101.out 1; have hfz74_2 := blk_frozen BK101.out 2; have hfz74_3 := blk_frozen BK101.out 3) | (go_at_call 14; (with_reducible refine (contangolaw10_goes.calls kj44  t120 _ A67.out (glob_of HGL.out (by repeat (first | (with_reducible first | exact HB.out | apply below_alloc | apply pw_below_drewN | apply below_drew1 | refine below_set ?_ GE101.out | refine below_set ?_ GE108.out | refine below_set ?_ GE119.out) | exact HB.out)))).mono ?_); rintro e w75 ⟨rfl, hb⟩; have n0_ := Aside0.mk (blk_below (g := gb101) (o := .cells #[.string a0_0, .int .i64 a0_1, .int .i64 a0_2, .int .i64 a0_3] 23 (0, 0)) (by (with_reducible repeat (first | refine blk_drewN ?_ _ | refine blk_drew ?_ | refine blk_alloc ?_ _)); refine blk_far ?_ NB101_119.out _; (with_reducible repeat (first | refine blk_drewN ?_ _ | refine blk_drew ?_ | refine blk_alloc ?_ _)); refine blk_far ?_ NB101_119.out _; (with_reducible repeat (first | refine blk_drewN ?_ _ | refine blk_drew ?_ | refine blk_alloc ?_ _)); refine blk_far ?_ NB101_119.out _; (with_reducible repeat (first | refine blk_drewN ?_ _ | refine blk_drew ?_ | refine blk_alloc ?_ _)); refine blk_far ?_ NB101_119.out _; (with_reducible repeat (first | refine blk_drewN ?_ _ | refine blk_drew ?_ | refine blk_alloc ?_ _)); exact BK101.out) hb); have n1_ := Aside0.mk (blk_below (g := gb108) (o := .cells #[.string t103, .int .i64 t104, .int .i64 t105, .int .i64 t106] 23 (0, 0)) (by (with_reducible repeat (first | refine blk_drewN ?_ _ | refine blk_drew ?_ | refine blk_alloc ?_ _)); refine blk_far ?_ NB108_119.out _; (with_reducible repeat (first | refine blk_drewN ?_ _ | refine blk_drew ?_ | refine blk_alloc ?_ _)); refine blk_far ?_ NB108_119.out _; (with_reducible repeat (first | refine blk_drewN ?_ _ | refine blk_drew ?_ | refine blk_alloc ?_ _)); refine blk_far ?_ NB108_119.out _; (with_reducible repeat (first | refine blk_drewN ?_ _ | refine blk_drew ?_ | refine blk_alloc ?_ _)); refine blk_far ?_ NB108_119.out _; (with_reducible repeat (first | refine blk_drewN ?_ _ | refine blk_drew ?_ | refine blk_alloc ?_ _)); exact BK108.out) hb); have n2_ := Aside0.mk (blk_below (g := gb119) (o := .cells #[.string t114, .int .i64 t115, .int .i64 t116, .int .i64 t117] 23 (0, 0)) (by (with_reducible repeat (first | refine blk_drewN ?_ _ | refine blk_drew ?_ | refine blk_alloc ?_ _)); refine blk_put (cs := #[.string t114, .int .i64 t115, .int .i64 t116, .int .i64 0]) ?_ 3 _ rfl; (with_reducible repeat (first | refine blk_drewN ?_ _ | refine blk_drew ?_ | refine blk_alloc ?_ _)); refine blk_put (cs := #[.string t114, .int .i64 t115, .int .i64 0, .int .i64 0]) ?_ 2 _ rfl; (with_reducible repeat (first | refine blk_drewN ?_ _ | refine blk_drew ?_ | refine blk_alloc ?_ _)); refine blk_put (cs := #[.string t114, .int .i64 0, .int .i64 0, .int .i64 0]) ?_ 1 _ rfl; (with_reducible repeat (first | refine blk_drewN ?_ _ | refine blk_drew ?_ | refine blk_alloc ?_ _)); refine blk_put (cs := #[.string (⟨#[]⟩ : ByteArray), .int .i64 0, .int .i64 0, .int .i64 0]) ?_ 0 _ rfl; (with_reducible repeat (first | refine blk_drewN ?_ _ | refine blk_drew ?_ | refine blk_alloc ?_ _)); exact BK119.out) hb); have n3_ := Aside0.mk (below_step (by repeat (first | (with_reducible first | exact HB.out | apply below_alloc | apply pw_below_drewN | apply below_drew1 | refine below_set ?_ GE101.out | refine below_set ?_ GE108.out | refine below_set ?_ GE119.out) | exact HB.out)) hb); clear BK101; clear BK108; clear BK119; clear HB; have BK101 := n0_; have BK108 := n1_; have BK119 := n2_; have HB := n3_; clear n0_ n1_ n2_ n3_; (try clear hb); (try clear hb2); (try clear hk); (try clear hi)))
                                  go_ret
                                  exact ⟨by first | rfl | (simp [errW_none, errW_some] <;> rfl) | (simp [*, errW_none, errW_some] <;> rfl), by repeat (first | (with_reducible first | exact HB.out | apply below_alloc | apply pw_below_drewN | apply below_drew1 | refine below_set ?_ GE101.out | refine below_set ?_ GE108.out | refine below_set ?_ GE119.out) | exact HB.out)⟩
                                · rw [if_neg c66] at H
                                  exact absurd H (by simp)
                              · rw [if_neg c65] at H
                                exact absurd H (by simp)
end Go.Proofs.YtieifncibojciaaDoor.X
end
section
namespace Go.Proofs.YtieifncibojciaaDoor.Opn
open Go.ChangeShapes Go.WideShapes Go.Proofs.YtieifncibojciaaDoorW.PrintWords
set_option linter.unusedVariables false
set_option linter.unusedSimpArgs false
structure Opens (P : Program) (t : TypeId) {α : Type} (d : Kd α) (Ok : α → Prop) : Prop where
  sz : d.sz = P.cellsOf t
  opens : ∀ {H : Type} {enc : TypeId × Value → H} {w : World} {base : Nat} {spare : Nat → Bool} {held : Bool} {fuel : Nat} {cs : List Value} {x : DataW H × List MemPlace},
    DataW.trod enc P w base spare held fuel t cs = some x → (∀ n ∈ x.1.weights P t, n ≤ reachBytes) → ∃ v, d.K w v cs ∧ Ok v
theorem opens_int {P : Program} {t : TypeId} {k : IntKind} (ht : P.underlying t = some (.int k)) (hc : P.cellsOf t = 1) : Opens P t (Kd.int k) (fun n => (Lit.int k n).wf = true) := by
  refine ⟨hc.symm, fun h _ => ?_⟩
  obtain ⟨n, rfl, _, hw⟩ := DataW.trod_int ht h
  exact ⟨n, rfl, hw⟩
theorem opens_string {P : Program} {t : TypeId} (ht : P.underlying t = some .string) (hc : P.cellsOf t = 1) : Opens P t Kd.string (fun s => s.size ≤ 140737488351232) := by
  refine ⟨hc.symm, fun h hw => ?_⟩
  obtain ⟨s, rfl, rfl, hs⟩ := DataW.trod_string ht h
  refine ⟨s, rfl, ?_⟩
  have := hw s.data.toList.length (by simp [DataW.weights])
  rw [Array.length_toList] at this
  exact this
structure OpensF (P : Program) (fs : List Field) (off : Nat) {α : Type} (d : Kd α) (Ok : α → Prop) : Prop where
  opens : ∀ {H : Type} {enc : TypeId × Value → H} {w : World} {base : Nat} {spare : Nat → Bool} {held : Bool} {n : Nat} {cs : List Value} {xs : List (DataW H × List MemPlace)},
    xs.length = fs.length → (∀ (i : Nat) (f : Field), fs[i]? = some f → DataW.trod enc P w base spare held n f.type ((cs.drop f.offset).take (P.cellsOf f.type)) = xs[i]?) →
    (∀ m ∈ DataW.weightsEach P (fs.map (·.type)) (xs.map (·.1)), m ≤ reachBytes) → ∃ v, d.K w v ((cs.drop off).take d.sz) ∧ Ok v
theorem opensF_one {P : Program} {f : Field} {off : Nat} {α : Type} {d : Kd α} {Ok : α → Prop} (h : Opens P f.type d Ok) (ho : f.offset = off) : OpensF P [f] off d Ok := by
  refine ⟨fun {H enc w base spare held n cs xs} hl hx hw => ?_⟩
  match xs, hl with
  | [x], _ =>
    have h1 := hx 0 f rfl
    obtain ⟨v, hv, hok⟩ := h.opens h1 (fun n hn => hw n (by simpa [DataW.weightsEach] using hn))
    refine ⟨v, ?_, hok⟩
    rw [h.sz, ← ho]
    exact hv
theorem opensF_cons {P : Program} {f : Field} {fs : List Field} {off : Nat} {α β : Type} {d : Kd α} {d' : Kd β} {Ok : α → Prop} {Ok' : β → Prop} (h : Opens P f.type d Ok) (ho : f.offset = off) (h' : OpensF P fs (off + d.sz) d' Ok') :
    OpensF P (f :: fs) off (Kd.pair d d') (fun p => Ok p.1 ∧ Ok' p.2) := by
  refine ⟨fun {H enc w base spare held n cs xs} hl hx hw => ?_⟩
  match xs, hl with
  | x :: xs, hl =>
    have h1 := hx 0 f rfl
    obtain ⟨v, hv, hok⟩ := h.opens h1 (fun n hn => hw n (by
      simp only [List.map_cons, DataW.weightsEach, List.mem_append]; exact Or.inl hn))
    obtain ⟨v', hv', hok'⟩ := h'.opens (cs := cs) (xs := xs) (by simpa using hl) (fun i g hg => by
      have := hx (i + 1) g (by simpa using hg)
      simpa using this) (fun m hm => hw m (by simp only [List.map_cons, DataW.weightsEach, List.mem_append]; exact Or.inr hm))
    refine ⟨(v, v'), ⟨(cs.drop off).take d.sz, (cs.drop (off + d.sz)).take d'.sz, ?_, ?_, hv'⟩, hok, hok'⟩
    · show (cs.drop off).take (d.sz + d'.sz) = _
      rw [List.take_add, List.drop_drop]
    · rw [h.sz, ← ho]; exact hv
theorem opens_struct {P : Program} {t : TypeId} {fs : Array Field} {α β : Type} {d : Kd α} {Ok : α → Prop} (h : OpensF P fs.toList 0 d Ok) (ht : P.underlying t = some (.struct fs)) (hc : d.sz = P.cellsOf t) (f : β → α) (mk : α → β) (hf : ∀ a, f (mk a) = a) :
    Opens P t (Kd.iso d f) (fun b => Ok (f b)) := by
  refine ⟨hc, fun {H enc w base spare held fuel cs x} hx hw => ?_⟩
  obtain ⟨xs, n, _, rfl, hlen, hsz, hall⟩ := DataW.trod_struct ht hx
  simp only [DataW.weights, ht] at hw
  obtain ⟨v, hv, hok⟩ := h.opens (cs := cs) (xs := xs) (by simpa using hsz) (fun i f hf => hall i f (by simpa using hf)) hw
  refine ⟨mk v, ?_, by rw [hf]; exact hok⟩
  show d.K w (f (mk v)) cs
  rw [hf]
  rw [List.drop_zero, hc, ← hlen, List.take_length] at hv
  exact hv
theorem opens_imp {P : Program} {t : TypeId} {α : Type} {d : Kd α} {Ok Ok' : α → Prop} (h : Opens P t d Ok) (hi : ∀ v, Ok v → Ok' v) : Opens P t d Ok' :=
  ⟨h.sz, fun hx hw => let ⟨v, hv, ho⟩ := h.opens hx hw; ⟨v, hv, hi v ho⟩⟩
end Go.Proofs.YtieifncibojciaaDoor.Opn
end
section
namespace Go.Proofs.YtieifncibojciaaDoor.X
open Go.RowKit Go.Proofs.YtieifncibojciaaDoorW.PrintWords Go.Proofs.YtieifncibojciaaDoorW.PrintLast Go.Proofs.YtieifncibojciaaDoorW.PrintMore
attribute [local go_sem] max2_int min2_int max_two min_two max_three min_three max_four min_four
set_option linter.unusedVariables false
set_option linter.unusedSimpArgs false
def ok23 (v : S23) : Prop := v.f0.size ≤ 140737488351232 ∧ ((Lit.int .i64 v.f1).wf = true ∧ ((Lit.int .i64 v.f2).wf = true ∧ ((Lit.int .i64 v.f3).wf = true)))
theorem opens23 : Opn.Opens Tryd.prog 23 k23 ok23 := by
  have hu := Tryd.underlying23
  refine Opn.opens_imp (Opn.opens_struct (Ok := fun (p : ByteArray × (Int × (Int × (Int)))) => p.1.size ≤ 140737488351232 ∧ ((Lit.int .i64 p.2.1).wf = true ∧ ((Lit.int .i64 p.2.2.1).wf = true ∧ ((Lit.int .i64 p.2.2.2).wf = true)))) ?hF hu (by kernel_rfl) (fun x : S23 => (x.f0, x.f1, x.f2, x.f3)) (fun a => ⟨a.1, a.2.1, a.2.2.1, a.2.2.2⟩) (fun _ => rfl)) ?hI
  case hF =>
    refine Opn.opensF_cons (Ok := fun (p : ByteArray) => p.size ≤ 140737488351232) (Ok' := fun (p : Int × (Int × (Int))) => (Lit.int .i64 p.1).wf = true ∧ ((Lit.int .i64 p.2.1).wf = true ∧ ((Lit.int .i64 p.2.2).wf = true))) (h := ?_) (ho := ?_) (h' := ?_)
    · exact Opn.opens_string Tryd.underlying9 (by kernel_rfl)
    · rfl
    · skip
      refine Opn.opensF_cons (Ok := fun (p : Int) => (Lit.int .i64 p).wf = true) (Ok' := fun (p : Int × (Int)) => (Lit.int .i64 p.1).wf = true ∧ ((Lit.int .i64 p.2).wf = true)) (h := ?_) (ho := ?_) (h' := ?_)
      · exact Opn.opens_int Tryd.underlying3 (by kernel_rfl)
      · rfl
      · skip
        refine Opn.opensF_cons (Ok := fun (p : Int) => (Lit.int .i64 p).wf = true) (Ok' := fun (p : Int) => (Lit.int .i64 p).wf = true) (h := ?_) (ho := ?_) (h' := ?_)
        · exact Opn.opens_int Tryd.underlying3 (by kernel_rfl)
        · rfl
        · skip
          refine Opn.opensF_one (Ok := fun (p : Int) => (Lit.int .i64 p).wf = true) (h := ?_) (ho := ?_)
          · exact Opn.opens_int Tryd.underlying3 (by kernel_rfl)
          · rfl
  case hI => exact fun v h => h
end Go.Proofs.YtieifncibojciaaDoor.X
end
section
namespace Go.Proofs.YtieifncibojciaaDoor.P
open Go.RowKit Go.Proofs.YtieifncibojciaaDoorW.PrintWords Go.Proofs.YtieifncibojciaaDoorW.PrintMore Go.Proofs.YtieifncibojciaaDoor.X
theorem Ev_succ {α : Type} {g : Nat → Option α} {r : α} (h : Ev (fun k => g (k + 1)) r) : Ev g r := Ev.step (fun _ => rfl) h
theorem Ev_bind {α β : Type} {g : Nat → Option α} {f : Nat → α → Option β} {a : α} {r : β} (h : Ev g a) (k : Ev (fun n => f n a) r) : Ev (fun n => (g n).bind (f n)) r := Ev.bind h k
theorem Ev_id {α : Type} {g : Nat → Option α} {r : α} (h : Ev g r) : Ev (fun n => (g n).bind fun x => some x) r := Ev.bind h (Ev.now _)
theorem w_id {x : Int} (h1 : -9223372036854775808 ≤ x) (h2 : x ≤ 9223372036854775807) : wrap64 x = x := by unfold wrap64; omega
theorem w_succ {i n : Nat} (h : i < n) (hn : n ≤ 9223372036854775807) : wrap64 ((i : Int) + 1) = ((i + 1 : Nat) : Int) := by rw [w_id (by omega) (by omega)]; omega
theorem wf_rng {a : Int} (h : (Lit.int .i64 a).wf = true) : -9223372036854775808 ≤ a ∧ a ≤ 9223372036854775807 := by
  simpa [Lit.wf, IntKind.min, IntKind.max, IntKind.signed, IntKind.bits] using h
theorem rd_nat (xs : List Int) (i : Nat) (h : i < xs.length) : rd xs (i : Int) = xs[i] := by simp [rd, h]
theorem rdOf_nat {α : Type} (d : α) (xs : List α) (i : Nat) (h : i < xs.length) : rdOf d xs (i : Int) = xs[i] := by simp [rdOf, h]
theorem drop_cons {α : Type} (l : List α) (i : Nat) (h : i < l.length) : l.drop i = l[i] :: l.drop (i + 1) := (List.getElem_cons_drop h).symm
theorem ba_ext {a b : ByteArray} (h : a.toList = b.toList) : a = b := by
  have e : ∀ c : ByteArray, c.toList = c.data.toList := fun c => ByteArray.toList_eq c
  rw [e, e] at h
  cases a; cases b
  congr 1
  exact Array.toList_inj.1 h
end Go.Proofs.YtieifncibojciaaDoor.P
end
section
namespace Go.Proofs.YtieifncibojciaaDoor.P
set_option linter.unusedVariables false
set_option linter.unusedSimpArgs false
open Go.RowKit Go.Proofs.YtieifncibojciaaDoorW.PrintWords Go.Proofs.YtieifncibojciaaDoorW.PrintMore Go.Proofs.YtieifncibojciaaDoor.X
theorem monSum_all (b : Bool) : monSum b 13 = if b = true then 366 else 365 := by cases b <;> decide
theorem startV_succ {c : Int} (h1 : 2000 ≤ c) (h2 : c ≤ 2199) : startV (c + 1) = startV c + (if leapB c = true then 366 else 365) := by
  have h := year_len (c - 2000).toNat (by omega)
  have e : (2000 : Int) + (((c - 2000).toNat : Nat) : Int) = c := by omega
  rw [e, monSum_all] at h
  omega
theorem startV_rng1 {y : Int} (h1 : 2000 ≤ y) (h2 : y ≤ 2200) : 0 ≤ startV y ∧ startV y ≤ 100000 := by unfold startV leapsV; omega
theorem startV_mono {a b : Int} (h1 : 2000 ≤ a) (h2 : a ≤ b) : startV a ≤ startV b := by unfold startV leapsV; omega
end Go.Proofs.YtieifncibojciaaDoor.P
end
section
namespace Go.Proofs.YtieifncibojciaaDoor.P
set_option linter.unusedVariables false
set_option linter.unusedSimpArgs false
open Go.RowKit Go.Proofs.YtieifncibojciaaDoorW.PrintWords Go.Proofs.YtieifncibojciaaDoorW.PrintMore Go.Proofs.YtieifncibojciaaDoor.X
theorem by_rng (s : ByteArray) : ∀ x ∈ bytesOf s, 0 ≤ x ∧ x < 256 := by
  intro x hx
  unfold bytesOf at hx
  obtain ⟨b, hb, rfl⟩ := List.mem_map.1 hx
  have := b.toNat_lt
  omega
theorem by_len (s : ByteArray) : (bytesOf s).length = s.size := bytesOf_length s
theorem by_str (L : List Int) (h : ∀ x ∈ L, 0 ≤ x ∧ x < 256) : bytesOf (strOfNums L) = L := by
  unfold bytesOf
  rw [strOfNums_data, List.map_map]
  conv => rhs; rw [← List.map_id L]
  refine List.map_congr_left fun x hx => ?_
  have := h x hx
  simp only [Function.comp, id, UInt8.toNat_ofNat']
  omega
theorem by_data (s : ByteArray) : s.data.toList = (bytesOf s).map fun n => UInt8.ofNat n.toNat := by
  unfold bytesOf
  rw [List.map_map]
  conv => lhs; rw [← List.map_id s.data.toList]
  refine List.map_congr_left fun x hx => ?_
  simp only [Function.comp, id, Int.toNat_natCast, UInt8.ofNat_toNat]
theorem str_by (s : ByteArray) : strOfNums (bytesOf s) = s := by
  cases s with
  | mk d =>
    unfold strOfNums
    rw [← by_data]
theorem by_inj {a b : ByteArray} (h : bytesOf a = bytesOf b) : a = b := by rw [← str_by a, ← str_by b, h]
theorem by_app (a b : ByteArray) : bytesOf (a ++ b) = bytesOf a ++ bytesOf b := by
  unfold bytesOf
  rw [show (a ++ b).data = a.data ++ b.data from ByteArray.data_append, Array.toList_append, List.map_append]
theorem by_ext (s : ByteArray) (i j : Nat) : bytesOf (s.extract i j) = ((bytesOf s).take j).drop i := by
  unfold bytesOf
  rw [ByteArray.data_extract, Array.toList_extract, ← List.map_take, ← List.map_drop]
  congr 1
  rw [List.extract_eq_take_drop, List.drop_take]
theorem by_toList (s : ByteArray) (l : List UInt8) : s.toList = l ↔ bytesOf s = l.map fun b => (b.toNat : Int) := by
  rw [ByteArray.toList_eq]
  unfold bytesOf
  constructor
  · intro h
    rw [h]
  · intro h
    have e := congrArg (List.map fun n : Int => UInt8.ofNat n.toNat) h
    simpa [List.map_map, Function.comp_def] using e
theorem by_eq (a b : ByteArray) : a.toList = b.toList ↔ a = b := ⟨ba_ext, fun h => h ▸ rfl⟩
theorem by_emp (s : ByteArray) : s.toList = ([] : List UInt8) ↔ bytesOf s = [] := by rw [by_toList]; simp
theorem by_bt (s : ByteArray) (i : Nat) (h : i < (bytesOf s).length) : bt s (i : Int) = (bytesOf s)[i] := by
  rw [← rd_bytesOf, rd_nat _ _ h]
theorem by_drop (s : ByteArray) (i : Nat) (h : i < s.size) : (bytesOf s).drop i = bt s (i : Int) :: (bytesOf s).drop (i + 1) := by
  have h' : i < (bytesOf s).length := by rw [by_len]; exact h
  rw [drop_cons _ _ h', by_bt s i h']
theorem by_end (s : ByteArray) (i : Nat) (h : s.size ≤ i) : (bytesOf s).drop i = [] := List.drop_of_length_le (by rw [by_len]; exact h)
def idxL : List Int → Int → Option Nat
  | [], _ => none
  | x :: r, c => if x = c then some 0 else (idxL r c).map (· + 1)
theorem idx_byte (l : List UInt8) (c : UInt8) : Lib.indexByte l c = match idxL (l.map fun b => (b.toNat : Int)) (c.toNat : Int) with | some i => (i : Int) | none => -1 := by
  induction l with
  | nil => rfl
  | cons x r ih =>
    unfold Lib.indexByte
    simp only [List.map_cons, idxL]
    by_cases h : x = c
    · subst h
      simp
    · have h1 : (x == c) = false := by simpa using h
      have h2 : ¬ ((x.toNat : Int) = (c.toNat : Int)) := fun e => h (UInt8.toNat_inj.1 (by omega))
      rw [h1, if_neg h2]
      simp only [Bool.false_eq_true, if_false]
      rw [ih]
      cases hI : idxL (r.map fun b => (b.toNat : Int)) (c.toNat : Int) with
      | none => simp
      | some i =>
        have h3 : ((i : Int) == -1) = false := by
          rw [beq_eq_false_iff_ne]
          omega
        simp [h3]
theorem idx_some {L : List Int} {c : Int} {i : Nat} (h : idxL L c = some i) : i < L.length ∧ L[i]? = some c ∧ c ∉ L.take i ∧ L = L.take i ++ c :: L.drop (i + 1) := by
  induction L generalizing i with
  | nil => cases h
  | cons x r ih =>
    simp only [idxL] at h
    by_cases hx : x = c
    · rw [if_pos hx] at h
      obtain rfl := Option.some.inj h
      subst hx
      simp
    · rw [if_neg hx] at h
      obtain ⟨j, hj, rfl⟩ := Option.map_eq_some_iff.1 h
      obtain ⟨h1, h2, h3, h4⟩ := ih hj
      refine ⟨by simpa using h1, by simpa using h2, ?_, ?_⟩
      · simp only [List.take_succ_cons, List.mem_cons, not_or]
        exact ⟨fun e => hx e.symm, h3⟩
      · simp only [List.take_succ_cons, List.drop_succ_cons, List.cons_append]
        rw [← h4]
theorem idx_none {L : List Int} {c : Int} (h : idxL L c = none) : c ∉ L := by
  induction L with
  | nil => simp
  | cons x r ih =>
    simp only [idxL] at h
    by_cases hx : x = c
    · rw [if_pos hx] at h; cases h
    · rw [if_neg hx] at h
      have h' : idxL r c = none := by simpa using h
      simp only [List.mem_cons, not_or]
      exact ⟨fun e => hx e.symm, ih h'⟩
end Go.Proofs.YtieifncibojciaaDoor.P
end
section
namespace Go.Proofs.YtieifncibojciaaDoor.P
set_option linter.unusedVariables false
set_option linter.unusedSimpArgs false
open Go.RowKit Go.Proofs.YtieifncibojciaaDoorW.PrintWords Go.Proofs.YtieifncibojciaaDoorW.PrintMore Go.Proofs.YtieifncibojciaaDoor.X
theorem ib_cases (c : UInt8) : ∀ s : List UInt8, (Lib.indexByte s c = -1 ∧ c ∉ s) ∨ ∃ A R, c ∉ A ∧ s = A ++ c :: R ∧ Lib.indexByte s c = (A.length : Int)
  | [] => Or.inl ⟨rfl, by simp⟩
  | x :: r => by
    by_cases h : x = c
    · subst h
      exact Or.inr ⟨[], r, by simp, rfl, by simp [Lib.indexByte]⟩
    · have h1 : (x == c) = false := by simpa using h
      rcases ib_cases c r with ⟨h2, h3⟩ | ⟨A, R, h2, h3, h4⟩
      · refine Or.inl ⟨by simp [Lib.indexByte, h1, h2], ?_⟩
        simp only [List.mem_cons, not_or]
        exact ⟨fun e => h e.symm, h3⟩
      · refine Or.inr ⟨x :: A, R, ?_, by rw [h3]; rfl, ?_⟩
        · simp only [List.mem_cons, not_or]
          exact ⟨fun e => h e.symm, h2⟩
        · have h5 : ((A.length : Int) == -1) = false := by rw [beq_eq_false_iff_ne]; omega
          simp [Lib.indexByte, h1, h4, h5]
theorem filter_no {c : UInt8} {A : List UInt8} (h : c ∉ A) : A.filter (fun x => x != c) = A := List.filter_eq_self.2 fun a ha => by
  simp only [bne_iff_ne, ne_eq]
  intro e
  exact h (e ▸ ha)
theorem repl_out (c : UInt8) : ∀ (n : Nat) (s : List UInt8), s.length ≤ n → Lib.replaceK [c] [] (Lib.count s [c]) s = s.filter (fun x => x != c) := by
  intro n
  induction n with
  | zero =>
    intro s hs
    obtain rfl : s = [] := List.length_eq_zero_iff.1 (by omega)
    rcases ib_cases c [] with ⟨h, _⟩ | ⟨A, R, _, h, _⟩
    · rw [Lib.count_miss (by rw [Lib.index_one]; exact h)]; rfl
    · cases A <;> cases h
  | succ n ih =>
    intro s hs
    rcases ib_cases c s with ⟨h, h2⟩ | ⟨A, R, h2, h3, h4⟩
    · rw [Lib.count_miss (by rw [Lib.index_one]; exact h), filter_no h2]; rfl
    · have hi : Lib.index s [c] = (A.length : Int) := by rw [Lib.index_one]; exact h4
      have hd : s.drop (A.length + [c].length) = R := by
        rw [h3, show A ++ c :: R = (A ++ [c]) ++ R by simp]
        exact List.drop_left' (by simp)
      have ht : s.take A.length = A := by rw [h3]; exact List.take_left' rfl
      rw [Lib.count_hit (by simp) hi, Nat.add_comm 1, Lib.replaceK_hit [c] [] _ s A.length hi, hd, ht, ih R (by rw [h3] at hs; simp at hs; omega)]
      rw [h3, List.filter_append, filter_no h2]
      simp
theorem replaceAll_out (s : List UInt8) (c : UInt8) : Lib.replaceAll s [c] [] = s.filter (fun x => x != c) := by
  have e : ([c] == ([] : List UInt8)) = false := rfl
  have m : Lib.replaceNum s [c] (-1) = Lib.count s [c] := by unfold Lib.replaceNum; rw [if_pos (Or.inl (by decide))]
  unfold Lib.replaceAll Lib.replace
  rw [e, m]
  exact repl_out c s.length s (Nat.le_refl _)
theorem day_out {a b c d e f g h : Int} (ha : 48 ≤ a ∧ a ≤ 57) (hb : 48 ≤ b ∧ b ≤ 57) (hc : 48 ≤ c ∧ c ≤ 57) (hd : 48 ≤ d ∧ d ≤ 57) (he : 48 ≤ e ∧ e ≤ 57) (hf : 48 ≤ f ∧ f ≤ 57) (hg : 48 ≤ g ∧ g ≤ 57) (hh : 48 ≤ h ∧ h ≤ 57) :
    (⟨(Lib.replaceAll (strOfNums [a, b, c, d, 45, e, f, 45, g, h]).data.toList [45] []).toArray⟩ : ByteArray) = strOfNums [a, b, c, d, e, f, g, h] := by
  have key : ∀ x : Int, 48 ≤ x ∧ x ≤ 57 → (UInt8.ofNat x.toNat != 45) = true := by
    intro x hx
    simp only [bne_iff_ne, ne_eq]
    intro e
    have := congrArg UInt8.toNat e
    rw [UInt8.toNat_ofNat'] at this
    have e2 : (45 : UInt8).toNat = 45 := rfl
    omega
  rw [replaceAll_out, strOfNums_data]
  simp only [List.map_cons, List.map_nil, List.filter_cons, key a ha, key b hb, key c hc, key d hd, key e he, key f hf, key g hg, key h hh, if_true, show (UInt8.ofNat (45 : Int).toNat != 45) = false from rfl, Bool.false_eq_true, if_false, List.filter_nil]
  rfl
end Go.Proofs.YtieifncibojciaaDoor.P
end
section
namespace Go.Proofs.YtieifncibojciaaDoor.P
set_option linter.unusedVariables false
set_option linter.unusedSimpArgs false
open Go.RowKit Go.Proofs.YtieifncibojciaaDoorW.PrintWords Go.Proofs.YtieifncibojciaaDoorW.PrintMore Go.Proofs.YtieifncibojciaaDoor.X
def splitI (c : Int) : List Int → List (List Int)
  | [] => [[]]
  | x :: r => if x = c then [] :: splitI c r else (match splitI c r with | p :: q => (x :: p) :: q | [] => [[x]])
theorem splitI_ne (c : Int) (L : List Int) : splitI c L ≠ [] := by
  cases L with
  | nil => simp [splitI]
  | cons x r =>
    unfold splitI
    split
    · simp
    · split <;> simp
theorem splitI_none {c : Int} : ∀ {L : List Int}, c ∉ L → splitI c L = [L]
  | [], _ => rfl
  | x :: r, h => by
    simp only [List.mem_cons, not_or] at h
    unfold splitI
    rw [if_neg (fun e => h.1 e.symm), splitI_none h.2]
theorem splitI_app {c : Int} : ∀ {A : List Int} (R : List Int), c ∉ A → splitI c (A ++ c :: R) = A :: splitI c R
  | [], R, _ => by rw [List.nil_append, splitI, if_pos rfl]
  | x :: r, R, h => by
    simp only [List.mem_cons, not_or] at h
    rw [List.cons_append, splitI, if_neg (fun e => h.1 e.symm), splitI_app R h.2]
theorem splitB_step (c : UInt8) (s : ByteArray) (ih : ∀ t : ByteArray, t.size < s.size → (Lib.splitB ⟨#[c]⟩ 0 (Lib.countB t ⟨#[c]⟩) t).map bytesOf = splitI (c.toNat : Int) (bytesOf t)) : (Lib.splitB ⟨#[c]⟩ 0 (Lib.countB s ⟨#[c]⟩) s).map bytesOf = splitI (c.toNat : Int) (bytesOf s) := by
  have hix : Lib.indexB s ⟨#[c]⟩ = match idxL (bytesOf s) (c.toNat : Int) with | some i => (i : Int) | none => -1 := by
    have := idx_byte s.data.toList c
    rw [← Lib.index_one] at this
    exact this
  cases hI : idxL (bytesOf s) (c.toNat : Int) with
  | none =>
    rw [hI] at hix
    rw [Lib.countB_miss s _ hix, splitI_none (idx_none hI)]
    rfl
  | some i =>
    rw [hI] at hix
    obtain ⟨h1, h2, h3, h4⟩ := idx_some hI
    have hc := Lib.countB_hit s ⟨#[c]⟩ i (Nat.le_refl _) hix
    have e1 : (⟨#[c]⟩ : ByteArray).size = 1 := rfl
    rw [e1] at hc
    have hsz : (s.extract (i + 1) s.size).size < s.size := by
      rw [by_len] at h1
      rw [ByteArray.size_extract]
      omega
    have ih := ih (s.extract (i + 1) s.size) hsz
    rw [show Lib.countB s ⟨#[c]⟩ = Lib.countB (s.extract (i + 1) s.size) ⟨#[c]⟩ + 1 by omega, Lib.splitB_hit _ _ _ _ i hix, List.map_cons, e1, ih]
    have e2 : bytesOf (s.extract 0 (i + 0)) = (bytesOf s).take i := by rw [by_ext, List.drop_zero, Nat.add_zero]
    have e3 : bytesOf (s.extract (i + 1) s.size) = (bytesOf s).drop (i + 1) := by rw [by_ext, ← by_len, List.take_length]
    rw [e2, e3]
    conv => rhs; rw [h4]
    rw [splitI_app _ h3]
theorem splitB_map (c : UInt8) (n : Nat) : ∀ s : ByteArray, s.size ≤ n → (Lib.splitB ⟨#[c]⟩ 0 (Lib.countB s ⟨#[c]⟩) s).map bytesOf = splitI (c.toNat : Int) (bytesOf s) := by
  induction n with
  | zero => exact fun s hs => splitB_step c s fun t ht => absurd ht (by omega)
  | succ n ih => exact fun s hs => splitB_step c s fun t ht => ih t (by omega)
theorem split_f (s : ByteArray) (c : UInt8) (hs : s.size < 4294967281) : ∃ l, strings_Split.f s (⟨#[c]⟩ : ByteArray) = some l ∧ l.map bytesOf = splitI (c.toNat : Int) (bytesOf s) := by
  refine ⟨_, ?_, splitB_map c s.size s (Nat.le_refl _)⟩
  unfold strings_Split.f
  rw [if_pos ⟨rfl, hs⟩]
def okB (b : Int) : Bool := decide (32 < b) && decide (b ≤ 126)
theorem map_str (l : List ByteArray) : (l.map bytesOf).map strOfNums = l := by
  rw [List.map_map]
  conv => rhs; rw [← List.map_id l]
  exact List.map_congr_left fun x _ => str_by x
end Go.Proofs.YtieifncibojciaaDoor.P
end
section
namespace Go.Proofs.YtieifncibojciaaDoor.P
set_option linter.unusedVariables false
set_option linter.unusedSimpArgs false
open Go.RowKit Go.Proofs.YtieifncibojciaaDoorW.PrintWords Go.Proofs.YtieifncibojciaaDoorW.PrintMore Go.Proofs.YtieifncibojciaaDoor.X
def letterB (n : Int) : Bool := decide (97 ≤ n) && decide (n ≤ 122)
def digitB (n : Int) : Bool := decide (48 ≤ n) && decide (n ≤ 57)
theorem letter_f (n : Int) : words_letter.f n = some (letterB n) := by
  unfold words_letter.f letterB
  by_cases h : 97 ≤ n
  · rw [if_pos h, decide_eq_true h, Bool.true_and]
  · rw [if_neg h, decide_eq_false h, Bool.false_and]
theorem digit_f (n : Int) : words_digit.f n = some (digitB n) := by
  unfold words_digit.f digitB
  by_cases h : 48 ≤ n
  · rw [if_pos h, decide_eq_true h, Bool.true_and]
  · rw [if_neg h, decide_eq_false h, Bool.false_and]
def chB (s : ByteArray) (i : Nat) : Bool := letterB (bt s (i : Int)) || (!(i == 0) && digitB (bt s (i : Int)))
def nameFrom (s : ByteArray) : Nat → Nat → Bool
  | 0, _ => true
  | d + 1, i => chB s i && nameFrom s d (i + 1)
def nameB (s : ByteArray) : Bool := decide (0 < s.size) && decide (s.size ≤ 12) && nameFrom s s.size 0
theorem nameLoop (s : ByteArray) (hs : s.size ≤ 12) (h0 : letterB (bt s 0) = true) : ∀ (d i : Nat), i + d = s.size → Ev (fun k => words_Name.l0 k s s.size i) (nameFrom s d i)
  | 0, i, hd => by
    refine Ev_succ ?_
    simp only [words_Name.l0, if_neg (show ¬ ((i : Int) < (s.size : Int)) by omega)]
    exact Ev.now _
  | d + 1, i, hd => by
    have hi : i < s.size := by omega
    have ih := nameLoop s hs h0 d (i + 1) (by omega)
    refine Ev_succ ?_
    simp only [words_Name.l0, if_pos (show (i : Int) < (s.size : Int) by omega), if_pos (show 0 ≤ (i : Int) by omega), letter_f, digit_f, Option.bind_some, w_succ hi (by omega), nameFrom, chB]
    cases h1 : letterB (bt s (i : Int)) with
    | true => simp only [if_true, Bool.true_or, Bool.true_and]; exact ih
    | false =>
      simp only [Bool.false_eq_true, if_false, Bool.false_or]
      have hi0 : (i == 0) = false := by
        rw [← Bool.not_eq_true, beq_iff_eq]
        rintro rfl
        rw [show ((0 : Nat) : Int) = 0 from rfl, h0] at h1
        cases h1
      simp only [hi0, Bool.not_false, Bool.true_and]
      cases h2 : digitB (bt s (i : Int)) with
      | true => simp only [if_true, Bool.true_and]; exact ih
      | false => simp only [Bool.false_eq_true, if_false, Bool.false_and]; exact Ev.now _
theorem name_f (s : ByteArray) : Ev (fun k => words_Name.f k s) (nameB s) := by
  have hj : nameB s = false → Ev (fun k => words_Name.j0 k s true) (nameB s) := by
    intro h
    rw [h]
    refine Ev_succ ?_
    simp only [words_Name.j0, if_true]
    exact Ev.now _
  unfold words_Name.f
  by_cases c0 : s.toList = []
  · simp only [if_pos c0]
    refine hj ?_
    have : s.size = 0 := by
      have e : s.toList = s.data.toList := ByteArray.toList_eq s
      rw [e] at c0
      have := congrArg List.length c0
      simpa using this
    simp [nameB, this]
  · simp only [if_neg c0]
    by_cases c1 : (s.size : Int) > 12
    · simp only [if_pos c1]
      exact hj (by simp [nameB]; omega)
    · have hp : 0 < s.size := by
        rcases Nat.eq_zero_or_pos s.size with h | h
        · exfalso
          apply c0
          have e : s.toList = s.data.toList := ByteArray.toList_eq s
          rw [e]
          exact List.length_eq_zero_iff.1 (by simpa using h)
        · exact h
      simp only [if_neg c1, if_pos (show 0 < (s.size : Int) by omega), letter_f, Option.bind_some]
      have hn : nameB s = nameFrom s s.size 0 := by
        unfold nameB
        rw [decide_eq_true hp, decide_eq_true (show s.size ≤ 12 by omega)]
        simp
      cases h1 : letterB (bt s 0) with
      | false =>
        refine hj ?_
        rw [hn]
        obtain ⟨d, hd⟩ : ∃ d, s.size = d + 1 := ⟨s.size - 1, by omega⟩
        rw [hd]
        simp [nameFrom, chB, h1]
      | true =>
        refine Ev_succ ?_
        simp only [words_Name.j0, Bool.not_true, Bool.false_eq_true, if_false]
        rw [hn]
        exact nameLoop s (by omega) h1 s.size 0 (by omega)
theorem nameRLoop (s : ByteArray) (hs : s.size ≤ 4611686018427387904) : ∀ (d i : Nat), i + d = s.size → Ev (fun k => contangoref03_Name.l0 k s i) (nameFrom s d i && (decide (0 < s.size) && decide (s.size ≤ 12)))
  | 0, i, hd => by
    refine Ev_succ ?_
    simp only [contangoref03_Name.l0, if_neg (show ¬ ((i : Int) < (s.size : Int)) by omega), nameFrom, Bool.true_and]
    by_cases c : (s.size : Int) > 0
    · simp only [if_pos c, decide_eq_true (show 0 < s.size by omega), Bool.true_and]
      have : decide ((s.size : Int) ≤ 12) = decide (s.size ≤ 12) := by rw [decide_eq_decide]; omega
      rw [this]
      exact Ev.now _
    · simp only [if_neg c, decide_eq_false (show ¬ 0 < s.size by omega), Bool.false_and]
      exact Ev.now _
  | d + 1, i, hd => by
    have hi : i < s.size := by omega
    have ih := nameRLoop s hs d (i + 1) (by omega)
    rw [← w_succ hi (by omega)] at ih
    refine Ev_succ ?_
    simp only [contangoref03_Name.l0, if_pos (show (i : Int) < (s.size : Int) by omega), if_pos (show 0 ≤ (i : Int) by omega), nameFrom]
    have step : chB s i = true → Ev (fun k => contangoref03_Name.l0 k s (wrap64 ((i : Int) + 1))) (chB s i && nameFrom s d (i + 1) && (decide (0 < s.size) && decide (s.size ≤ 12))) := by
      intro h
      rw [h, Bool.true_and]
      exact ih
    have stop : chB s i = false → Ev (fun _ => (some false : Option Bool)) (chB s i && nameFrom s d (i + 1) && (decide (0 < s.size) && decide (s.size ≤ 12))) := by
      intro h
      rw [h, Bool.false_and, Bool.false_and]
      exact Ev.now _
    have rest : letterB (bt s (i : Int)) = false → Ev (fun k => if (i : Int) = 0 then some false else if bt s (i : Int) < 48 then some false else if bt s (i : Int) > 57 then some false else contangoref03_Name.l0 k s (wrap64 ((i : Int) + 1))) (chB s i && nameFrom s d (i + 1) && (decide (0 < s.size) && decide (s.size ≤ 12))) := by
      intro hl
      by_cases c0 : (i : Int) = 0
      · have hi0 : (i == 0) = true := by rw [beq_iff_eq]; omega
        simp only [if_pos c0]
        exact stop (by unfold chB; rw [hl, hi0]; rfl)
      · by_cases c1 : bt s (i : Int) < 48
        · simp only [if_neg c0, if_pos c1]; exact stop (by simp [chB, hl, digitB]; omega)
        · by_cases c2 : bt s (i : Int) > 57
          · simp only [if_neg c0, if_neg c1, if_pos c2]; exact stop (by simp [chB, hl, digitB]; omega)
          · simp only [if_neg c0, if_neg c1, if_neg c2]; exact step (by simp [chB, hl, digitB]; omega)
    by_cases g1 : bt s (i : Int) ≥ 97
    · by_cases g2 : bt s (i : Int) ≤ 122
      · simp only [if_pos g1, if_pos g2]; exact step (by simp [chB, letterB]; omega)
      · simp only [if_pos g1, if_neg g2]; exact rest (by simp [letterB]; omega)
    · simp only [if_neg g1]; exact rest (by simp [letterB]; omega)
theorem nameR_f (s : ByteArray) (hs : s.size ≤ 4611686018427387904) : Ev (fun k => contangoref03_Name.f k s) (nameB s) := by
  have h := nameRLoop s hs s.size 0 (by omega)
  have e : nameB s = (nameFrom s s.size 0 && (decide (0 < s.size) && decide (s.size ≤ 12))) := by
    unfold nameB
    rw [Bool.and_comm]
  rw [e]
  exact h
end Go.Proofs.YtieifncibojciaaDoor.P
end
section
namespace Go.Proofs.YtieifncibojciaaDoor.P
set_option linter.unusedVariables false
set_option linter.unusedSimpArgs false
open Go.RowKit Go.Proofs.YtieifncibojciaaDoorW.PrintWords Go.Proofs.YtieifncibojciaaDoorW.PrintMore Go.Proofs.YtieifncibojciaaDoor.X
def plainL (L : List Int) : Bool := !L.isEmpty && !(decide (1 < L.length) && L.head? == some 48) && L.all digitB
def numV (n : Int) (L : List Int) : Int := L.foldl (fun n b => 10 * n + (b - 48)) n
def numR (n : Int) (L : List Int) (minus : Bool) : Int × Int := if 1152921504606846976 < numV n L then (0, 3) else (if minus then -(numV n L) else numV n L, 0)
def unsign (L : List Int) : List Int × Bool := if L.head? = some 45 then (L.tail, true) else (L, false)
def intL (L : List Int) : Int × Int := if plainL (unsign L).1 = true ∧ ¬((unsign L).2 = true ∧ (unsign L).1 = [48]) then numR 0 (unsign L).1 (unsign L).2 else (0, 5)
theorem dig_rng {x : Int} (h : digitB x = true) : 48 ≤ x ∧ x ≤ 57 := by
  unfold digitB at h
  simp only [Bool.and_eq_true, decide_eq_true_eq] at h
  exact h
theorem numV_mono : ∀ (L : List Int) (n : Int), 0 ≤ n → (∀ x ∈ L, digitB x = true) → n ≤ numV n L
  | [], n, _, _ => Int.le_refl _
  | x :: L, n, h, hd => by
    have h1 := dig_rng (hd x (by simp))
    have := numV_mono L (10 * n + (x - 48)) (by omega) fun y hy => hd y (by simp [hy])
    unfold numV at this ⊢
    rw [List.foldl_cons]
    omega
theorem num_step (n d : Int) (h0 : 0 ≤ n) (h1 : n ≤ 1152921504606846976) (h2 : 0 ≤ d) (h3 : d ≤ 9) : (10 * n + d ≤ 9223372036854775807 ∧ wrap64 (wrap64 (10 * n) + d) = 10 * n + d) ∨ (9223372036854775807 < 10 * n + d ∧ wrap64 (wrap64 (10 * n) + d) < 0) := by
  unfold wrap64
  omega
theorem neg_w (n : Int) (h0 : 0 ≤ n) (h1 : n ≤ 1152921504606846976) : wrap64 (-n) = -n := w_id (by omega) (by omega)
theorem digits_loop (s : ByteArray) (hs : s.size ≤ 4611686018427387904) : ∀ (d i : Nat), i + d = s.size → Ev (fun k => words_digits.l0 k s s.size i) (((bytesOf s).drop i).all digitB)
  | 0, i, hd => by
    refine Ev_succ ?_
    simp only [words_digits.l0, if_neg (show ¬ ((i : Int) < (s.size : Int)) by omega)]
    rw [by_end s i (by omega)]
    exact Ev.now _
  | d + 1, i, hd => by
    have hi : i < s.size := by omega
    have ih := digits_loop s hs d (i + 1) (by omega)
    refine Ev_succ ?_
    simp only [words_digits.l0, if_pos (show (i : Int) < (s.size : Int) by omega), if_pos (show 0 ≤ (i : Int) by omega), digit_f, Option.bind_some, w_succ hi (by omega)]
    rw [by_drop s i hi, List.all_cons]
    cases h : digitB (bt s (i : Int)) with
    | true => simp only [if_true, Bool.true_and]; exact ih
    | false => simp only [Bool.false_eq_true, if_false, Bool.false_and]; exact Ev.now _
theorem digits_f (s : ByteArray) (hs : s.size ≤ 4611686018427387904) : Ev (fun k => words_digits.f k s) ((bytesOf s).all digitB) := by
  unfold words_digits.f
  exact digits_loop s hs s.size 0 (by omega)
theorem number_loop (s : ByteArray) (minus : Bool) (hs : s.size ≤ 4611686018427387904) (hall : ∀ x ∈ bytesOf s, digitB x = true) : ∀ (d i : Nat) (n : Int), i + d = s.size → 0 ≤ n → n ≤ 1152921504606846976 → Ev (fun k => words_number.l0 k s minus n s.size i) (numR n ((bytesOf s).drop i) minus)
  | 0, i, n, hd, h0, h1 => by
    refine Ev_succ ?_
    simp only [words_number.l0, if_neg (show ¬ ((i : Int) < (s.size : Int)) by omega)]
    rw [by_end s i (by omega)]
    have hc : numR n [] minus = (if minus then -n else n, 0) := by
      unfold numR numV
      rw [List.foldl_nil, if_neg (show ¬ 1152921504606846976 < n by omega)]
    rw [hc]
    cases minus with
    | true => simp only [if_true, neg_w n h0 h1]; exact Ev.now _
    | false => simp only [Bool.false_eq_true, if_false]; exact Ev.now _
  | d + 1, i, n, hd, h0, h1 => by
    have hi : i < s.size := by omega
    have hb : digitB (bt s (i : Int)) = true := hall _ (by
      have h' : i < (bytesOf s).length := by rw [by_len]; exact hi
      rw [by_bt s i h']
      exact List.getElem_mem h')
    have hb2 := dig_rng hb
    refine Ev_succ ?_
    simp only [words_number.l0, if_pos (show (i : Int) < (s.size : Int) by omega), if_pos (show 0 ≤ (i : Int) by omega), w_succ hi (by omega), Int.emod_eq_of_lt (show 0 ≤ bt s (i : Int) - 48 by omega) (show bt s (i : Int) - 48 < 256 by omega)]
    rw [by_drop s i hi]
    have hr : ∀ x ∈ (bytesOf s).drop (i + 1), digitB x = true := fun x hx => hall x (List.mem_of_mem_drop hx)
    have hm := numV_mono ((bytesOf s).drop (i + 1)) (10 * n + (bt s (i : Int) - 48)) (by omega) hr
    have hc : numR n (bt s (i : Int) :: (bytesOf s).drop (i + 1)) minus = numR (10 * n + (bt s (i : Int) - 48)) ((bytesOf s).drop (i + 1)) minus := by
      unfold numR numV
      rw [List.foldl_cons]
    rw [hc]
    rcases num_step n (bt s (i : Int) - 48) h0 h1 (by omega) (by omega) with ⟨h2, h3⟩ | ⟨h2, h3⟩
    · simp only [h3, if_neg (show ¬ 10 * n + (bt s (i : Int) - 48) < 0 by omega)]
      by_cases h4 : 10 * n + (bt s (i : Int) - 48) > 1152921504606846976
      · simp only [if_pos h4]
        have : numR (10 * n + (bt s (i : Int) - 48)) ((bytesOf s).drop (i + 1)) minus = (0, 3) := by
          unfold numR
          rw [if_pos (by omega)]
        rw [this]
        exact Ev.now _
      · simp only [if_neg h4]
        exact number_loop s minus hs hall d (i + 1) _ (by omega) (by omega) (by omega)
    · simp only [if_pos h3]
      have : numR (10 * n + (bt s (i : Int) - 48)) ((bytesOf s).drop (i + 1)) minus = (0, 3) := by
        unfold numR
        rw [if_pos (by omega)]
      rw [this]
      exact Ev.now _
theorem number_f (s : ByteArray) (minus : Bool) (hs : s.size ≤ 4611686018427387904) (hall : ∀ x ∈ bytesOf s, digitB x = true) : Ev (fun k => words_number.f k s minus) (numR 0 (bytesOf s) minus) := by
  unfold words_number.f
  exact number_loop s minus hs hall s.size 0 0 (by omega) (by omega) (by omega)
theorem plain_all {L : List Int} (h : plainL L = true) : ∀ x ∈ L, digitB x = true := by
  unfold plainL at h
  simp only [Bool.and_eq_true] at h
  exact List.all_eq_true.1 h.2
theorem bt_head (s : ByteArray) (h : 0 < s.size) : (bytesOf s).head? = some (bt s 0) := by
  have := by_drop s 0 h
  rw [List.drop_zero] at this
  rw [this]
  rfl
theorem plain_f (s : ByteArray) (hs : s.size ≤ 4611686018427387904) : Ev (fun k => words_plain.f k s) (plainL (bytesOf s)) := by
  unfold words_plain.f plainL
  have hd := digits_f s hs
  by_cases c0 : s.toList = []
  · simp only [if_pos c0]
    rw [(by_emp s).1 c0]
    exact Ev.now _
  · simp only [if_neg c0]
    have h1 : bytesOf s ≠ [] := fun h => c0 ((by_emp s).2 h)
    have h2 : (bytesOf s).isEmpty = false := by simpa using h1
    have h3 : 0 < s.size := by
      rw [← by_len]
      exact List.length_pos_iff.2 h1
    rw [h2]
    simp only [Bool.not_false, Bool.true_and]
    by_cases c1 : (s.size : Int) > 1
    · simp only [if_pos c1, if_pos (show 0 < (s.size : Int) by omega)]
      have h4 : decide (1 < (bytesOf s).length) = true := by
        rw [by_len]
        exact decide_eq_true (by omega)
      rw [h4, bt_head s h3]
      simp only [Bool.true_and]
      by_cases c2 : bt s 0 = 48
      · simp only [if_pos c2, c2]
        simp
        exact Ev.now _
      · have h5 : (some (bt s 0) == some (48 : Int)) = false := by simpa using c2
        simp only [if_neg c2, h5, Bool.not_false, Bool.true_and]
        exact Ev_id hd
    · simp only [if_neg c1]
      have h4 : decide (1 < (bytesOf s).length) = false := by
        rw [by_len]
        exact decide_eq_false (by omega)
      rw [h4]
      simp only [Bool.false_and, Bool.not_false, Bool.true_and]
      exact Ev_id hd
theorem cutp_f (s : ByteArray) : strings_CutPrefix.f s (⟨#[45]⟩ : ByteArray) = some (strOfNums (unsign (bytesOf s)).1, (unsign (bytesOf s)).2) := by
  have hsz : (⟨#[45]⟩ : ByteArray).size = 1 := rfl
  have hl : bytesOf (⟨#[45]⟩ : ByteArray) = [45] := rfl
  have h0 : stringslite_HasPrefix.f s (⟨#[45]⟩ : ByteArray) = some (decide ((bytesOf s).head? = some 45)) := by
    unfold stringslite_HasPrefix.f
    rw [hsz]
    by_cases c : (s.size : Int) ≥ ((1 : Nat) : Int)
    · rw [if_pos c, if_pos (by omega), if_pos (by omega)]
      congr 1
      have h3 : 0 < s.size := by omega
      have hd := by_drop s 0 h3
      rw [List.drop_zero] at hd
      have he : bytesOf (s.extract 0 1) = [bt s 0] := by rw [by_ext, hd]; rfl
      rw [bt_head s h3]
      rw [Bool.eq_iff_iff, beq_iff_eq, decide_eq_true_eq, by_eq]
      constructor
      · intro h
        have := congrArg bytesOf h
        rw [show (((1 : Nat) : Int)).toNat = 1 from rfl, he, hl] at this
        simpa using this
      · intro h
        apply by_inj
        rw [show (((1 : Nat) : Int)).toNat = 1 from rfl, he, hl]
        simpa using h
    · rw [if_neg c]
      have h4 : bytesOf s = [] := List.length_eq_zero_iff.1 (by rw [by_len]; omega)
      rw [h4]
      simp
  unfold strings_CutPrefix.f stringslite_CutPrefix.f
  rw [h0]
  simp only [Option.bind_some]
  unfold unsign
  by_cases c : (bytesOf s).head? = some 45
  · have h3 : 0 < s.size := by
      rw [← by_len]
      rcases hb : bytesOf s with _ | ⟨x, r⟩
      · rw [hb] at c; simp at c
      · simp
    rw [if_pos (decide_eq_true c), if_pos c, hsz, if_pos (by omega), if_pos (by omega)]
    simp only [Option.bind_some]
    congr 2
    apply by_inj
    rw [by_ext, by_str _ fun x hx => by_rng s x (List.mem_of_mem_tail hx), show (((1 : Nat) : Int)).toNat = 1 from rfl, ← by_len, List.take_length, List.drop_one]
  · rw [if_neg (by simpa using c), if_neg c]
    simp only [Option.bind_some]
    rw [str_by]
theorem unsign_rng {L : List Int} (h : ∀ x ∈ L, 0 ≤ x ∧ x < 256) : ∀ x ∈ (unsign L).1, 0 ≤ x ∧ x < 256 := by
  unfold unsign
  split
  · exact fun x hx => h x (List.mem_of_mem_tail hx)
  · exact h
theorem unsign_len (L : List Int) : (unsign L).1.length ≤ L.length := by
  unfold unsign
  split
  · simp
  · exact Nat.le_refl _
theorem int_f (s : ByteArray) (hs : s.size ≤ 4611686018427387904) : Ev (fun k => words_Int.f k s) (intL (bytesOf s)) := by
  unfold words_Int.f intL
  rw [cutp_f]
  simp only [Option.bind_some]
  have hb := by_str (unsign (bytesOf s)).1 (unsign_rng (by_rng s))
  have hsz : (strOfNums (unsign (bytesOf s)).1).size ≤ 4611686018427387904 := by
    rw [strOfNums_size]
    have := unsign_len (bytesOf s)
    rw [by_len] at this
    omega
  refine Ev_bind (plain_f _ hsz) ?_
  rw [hb]
  generalize (unsign (bytesOf s)).2 = m
  generalize hT : (unsign (bytesOf s)).1 = T at hb hsz
  by_cases c0 : plainL T = true
  · simp only [if_pos c0]
    have hn := number_f (strOfNums T) m hsz (by rw [hb]; exact plain_all c0)
    rw [hb] at hn
    cases m with
    | false =>
      simp only [Bool.false_eq_true, if_false, false_and, not_false_eq_true, and_true, if_pos c0]
      exact Ev_bind hn (Ev.now _)
    | true =>
      simp only [if_true, true_and]
      by_cases c1 : (strOfNums T).toList = ([48] : List UInt8)
      · have c2 : T = [48] := by
          have := (by_toList (strOfNums T) [48]).1 c1
          rw [hb] at this
          exact this
        simp only [if_pos c1]
        rw [if_neg (by rintro ⟨_, h⟩; exact h c2)]
        exact Ev.now _
      · have c2 : ¬ T = [48] := by
          intro h
          apply c1
          rw [by_toList, hb, h]
          rfl
        simp only [if_neg c1]
        rw [if_pos ⟨c0, c2⟩]
        exact Ev_bind hn (Ev.now _)
  · simp only [if_neg c0]
    rw [if_neg (fun h => c0 h.1)]
    exact Ev.now _
theorem plain_zero {w : List Int} (h : plainL w = true) (h0 : numV 0 w = 0) : w = [48] := by
  have ha := plain_all h
  unfold plainL at h
  rcases w with _ | ⟨x, r⟩
  · simp at h
  · have hx := dig_rng (ha x (by simp))
    have hm := numV_mono r (x - 48) (by omega) fun y hy => ha y (by simp [hy])
    have he : numV 0 (x :: r) = numV (x - 48) r := by
      unfold numV
      rw [List.foldl_cons]
      congr 1
      omega
    rw [he] at h0
    obtain rfl : x = 48 := by omega
    rcases r with _ | ⟨y, r⟩
    · rfl
    · simp at h
theorem numV_app (n : Int) (A B : List Int) : numV n (A ++ B) = numV (numV n A) B := by
  unfold numV
  rw [List.foldl_append]
end Go.Proofs.YtieifncibojciaaDoor.P
end
section
namespace Go.Proofs.YtieifncibojciaaDoor.P
set_option linter.unusedVariables false
set_option linter.unusedSimpArgs false
open Go.RowKit Go.Proofs.YtieifncibojciaaDoorW.PrintWords Go.Proofs.YtieifncibojciaaDoorW.PrintMore Go.Proofs.YtieifncibojciaaDoor.X
def digs (n : Nat) : List Int := if n < 10 then [48 + (n : Int)] else digs (n / 10) ++ [48 + ((n % 10 : Nat) : Int)]
termination_by n
decreasing_by omega
theorem digs_lt {n : Nat} (h : n < 10) : digs n = [48 + (n : Int)] := by rw [digs, if_pos h]
theorem digs_ge {n : Nat} (h : 10 ≤ n) : digs n = digs (n / 10) ++ [48 + ((n % 10 : Nat) : Int)] := by rw [digs, if_neg (by omega)]
theorem digs_ind {p : Nat → Prop} (h0 : ∀ n, n < 10 → p n) (h1 : ∀ n, 10 ≤ n → p (n / 10) → p n) (n : Nat) : p n := by
  induction n using Nat.strongRecOn with
  | _ n ih =>
    by_cases h : n < 10
    · exact h0 n h
    · exact h1 n (by omega) (ih _ (by omega))
theorem numV_digs (n : Nat) : numV 0 (digs n) = (n : Int) := by
  induction n using digs_ind with
  | h0 n h => rw [digs_lt h]; show 10 * 0 + (48 + (n : Int) - 48) = n; omega
  | h1 n h ih =>
    rw [digs_ge h, numV_app, ih]
    show 10 * ((n / 10 : Nat) : Int) + (48 + ((n % 10 : Nat) : Int) - 48) = n
    omega
theorem digitB_of {x : Int} (h1 : 48 ≤ x) (h2 : x ≤ 57) : digitB x = true := by
  unfold digitB
  rw [decide_eq_true h1, decide_eq_true h2, Bool.and_true]
theorem digs_all (n : Nat) : ∀ x ∈ digs n, digitB x = true := by
  induction n using digs_ind with
  | h0 n h =>
    rw [digs_lt h]
    intro x hx
    obtain rfl := List.mem_singleton.1 hx
    exact digitB_of (by omega) (by omega)
  | h1 n h ih =>
    rw [digs_ge h]
    intro x hx
    rcases List.mem_append.1 hx with h2 | h2
    · exact ih x h2
    · obtain rfl := List.mem_singleton.1 h2
      exact digitB_of (by omega) (by omega)
theorem digs_ne (n : Nat) : digs n ≠ [] := by
  by_cases h : n < 10
  · rw [digs_lt h]; simp
  · rw [digs_ge (by omega)]; simp
theorem digs_rng (n : Nat) : ∀ x ∈ digs n, 0 ≤ x ∧ x < 256 := fun x hx => by have := dig_rng (digs_all n x hx); omega
theorem head_app {A B : List Int} (h : A ≠ []) : (A ++ B).head? = A.head? := by
  cases A with
  | nil => exact absurd rfl h
  | cons x r => rfl
theorem digs_head (n : Nat) (h : 0 < n) : (digs n).head? ≠ some 48 := by
  induction n using digs_ind with
  | h0 n h2 => rw [digs_lt h2]; simp; omega
  | h1 n h2 ih =>
    rw [digs_ge h2, head_app (digs_ne _)]
    exact ih (by omega)
theorem plain_digs (n : Nat) : plainL (digs n) = true := by
  unfold plainL
  have h1 : (digs n).isEmpty = false := by simpa using digs_ne n
  have h2 : (digs n).all digitB = true := List.all_eq_true.2 (digs_all n)
  rw [h1, h2]
  simp only [Bool.not_false, Bool.true_and, Bool.and_true]
  by_cases h : n < 10
  · rw [digs_lt h]; rfl
  · have := digs_head n (by omega)
    have h3 : ((digs n).head? == some 48) = false := by simpa using this
    rw [h3, Bool.and_false]
    rfl
theorem digs_len : ∀ (k n : Nat), 0 < k → n < 10 ^ k → (digs n).length ≤ k
  | 0, n, h, _ => absurd h (by decide)
  | k + 1, n, _, h => by
    by_cases h2 : n < 10
    · rw [digs_lt h2]; simp
    · rw [digs_ge (by omega)]
      have hk : 0 < k := by
        rcases Nat.eq_zero_or_pos k with rfl | h3
        · simp at h; omega
        · exact h3
      have := digs_len k (n / 10) hk (by rw [Nat.pow_succ] at h; omega)
      simp only [List.length_append, List.length_cons, List.length_nil]
      omega
theorem digs_back : ∀ (k : Nat) (L : List Int), L.length = k → plainL L = true → digs (numV 0 L).toNat = L
  | k, L, hk, h => by
    rcases List.eq_nil_or_concat L with rfl | ⟨A, x, rfl⟩
    · exact absurd h (by decide)
    have hall := plain_all h
    have hx := dig_rng (hall x (by simp))
    rw [List.concat_eq_append] at h hk hall ⊢
    rw [numV_app]
    rcases hA : A with _ | ⟨a, r⟩
    · rw [List.nil_append]
      have e : numV (numV 0 []) [x] = 10 * 0 + (x - 48) := rfl
      rw [e, digs_lt (by omega)]
      congr 1
      omega
    · rw [← hA]
      have hAn : A ≠ [] := by rw [hA]; simp
      have hhead : (A ++ [x]).head? = A.head? := head_app hAn
      have hlen : 0 < A.length := List.length_pos_iff.2 hAn
      have h48 : A.head? ≠ some 48 := by
        intro h2
        unfold plainL at h
        rw [hhead, h2] at h
        have : decide (1 < (A ++ [x]).length) = true := decide_eq_true (by simp only [List.length_append, List.length_cons, List.length_nil]; omega)
        rw [this] at h
        simp at h
      have hpA : plainL A = true := by
        unfold plainL
        have h1 : A.isEmpty = false := by simpa using hAn
        have h2 : A.all digitB = true := List.all_eq_true.2 fun y hy => hall y (by simp [hy])
        have h3 : (A.head? == some 48) = false := by simpa using h48
        rw [h1, h2, h3]
        simp
      have hpos := numV_mono A 0 (by omega) (plain_all hpA)
      have hne : numV 0 A ≠ 0 := by
        intro h0
        have := plain_zero hpA h0
        rw [this] at h48
        simp at h48
      have ih := digs_back A.length A rfl hpA
      have e : numV (numV 0 A) [x] = 10 * numV 0 A + (x - 48) := rfl
      rw [e, digs_ge (by omega), show (10 * numV 0 A + (x - 48)).toNat / 10 = (numV 0 A).toNat by omega, ih, show (48 + (((10 * numV 0 A + (x - 48)).toNat % 10 : Nat) : Int)) = x by omega]
termination_by k _ _ _ => k
decreasing_by
  subst hA
  simp only [List.length_append, List.length_cons, List.length_nil, List.concat_eq_append] at hk ⊢
  omega
theorem decL_digs : ∀ (k : Nat) (u : Int) (acc : List Int), 0 < k → 0 ≤ u → u < 10 ^ k → decL k u acc = digs u.toNat ++ acc
  | 0, u, acc, h, _, _ => absurd h (by decide)
  | k + 1, u, acc, _, h0, h1 => by
    unfold decL
    by_cases c : u / 10 = 0
    · rw [if_pos c, digs_lt (by omega), show 48 + u % 10 = 48 + (u.toNat : Int) by omega]
      rfl
    · rw [if_neg c, digs_ge (by omega)]
      have hk : 0 < k := by
        rcases Nat.eq_zero_or_pos k with rfl | h3
        · simp at h1; omega
        · exact h3
      rw [decL_digs k (u / 10) _ hk (by omega) (by rw [Int.pow_succ] at h1; omega), show (u / 10).toNat = u.toNat / 10 by omega, show 48 + u % 10 = 48 + ((u.toNat % 10 : Nat) : Int) by omega, List.append_assoc]
      rfl
theorem decimal_f (u : Int) (h0 : 0 ≤ u) (h1 : u < 18446744073709551616) : words_decimal.f u = some (strOfNums (digs u.toNat)) := by
  unfold words_decimal.f
  rw [if_pos ⟨h0, h1⟩, decL_digs 20 u [] (by decide) h0 (by omega), List.append_nil]
def sgnL (n : Int) : List Int := if n < 0 then [45] else []
theorem len20 (n : Nat) (h : n < 18446744073709551616) : (digs n).length ≤ 20 := digs_len 20 n (by decide) (by omega)
def textL (n : Int) : List Int := sgnL n ++ digs n.natAbs
theorem wsize_f (n : Int) (h1 : -9223372036854775808 ≤ n) (h2 : n ≤ 9223372036854775807) : words_size.f n = some ((n.natAbs : Int), strOfNums (sgnL n)) := by
  unfold words_size.f sgnL
  by_cases c : n < 0
  · rw [if_pos c, if_pos c]
    have : IntKind.u64.wrap (-(IntKind.u64.wrap n)) = (n.natAbs : Int) := by
      simp only [IntKind.wrap, IntKind.bits, IntKind.signed, Bool.false_and, Bool.false_eq_true, if_false]
      omega
    rw [this]
    rfl
  · rw [if_neg c, if_neg c]
    have : IntKind.u64.wrap n = (n.natAbs : Int) := by
      simp only [IntKind.wrap, IntKind.bits, IntKind.signed, Bool.false_and, Bool.false_eq_true, if_false]
      omega
    rw [this]
    rfl
theorem flat_join (l : List ByteArray) : bytesOf ⟨(Lib.join (l.map (·.data.toList)) (⟨#[]⟩ : ByteArray).data.toList).toArray⟩ = (l.map bytesOf).flatten := by
  unfold bytesOf
  show ((Lib.join (l.map (·.data.toList)) []).toArray.toList).map _ = _
  rw [List.toList_toArray]
  unfold Lib.join
  rw [List.intercalate]
  have e : ∀ m : List (List UInt8), (List.intersperse [] m).flatten = m.flatten := by
    intro m
    induction m with
    | nil => rfl
    | cons x r ih =>
      cases r with
      | nil => rfl
      | cons y r =>
        simp only [List.intersperse_cons_cons, List.flatten_cons, List.nil_append] at ih ⊢
        rw [ih]
  rw [e, List.map_flatten, List.map_map]
  rfl
theorem join0_f (l : List ByteArray) (h : (l.map bytesOf).flatten.length ≤ 140737488355328) (h2 : l.length ≤ 140737488355328) : strings_Join.f l (⟨#[]⟩ : ByteArray) = some (strOfNums (l.map bytesOf).flatten) := by
  unfold strings_Join.f
  have e := flat_join l
  have hl : (Lib.join (l.map (·.data.toList)) (⟨#[]⟩ : ByteArray).data.toList).length = (l.map bytesOf).flatten.length := by
    rw [← e, by_len]
    rfl
  rw [if_pos ⟨by rw [hl]; exact h, h2⟩]
  congr 1
  apply by_inj
  rw [e, by_str]
  intro x hx
  obtain ⟨y, hy, hx⟩ := List.mem_flatten.1 hx
  obtain ⟨s, _, rfl⟩ := List.mem_map.1 hy
  exact by_rng s x hx
theorem sgn_rng (n : Int) : ∀ x ∈ sgnL n, 0 ≤ x ∧ x < 256 := by
  unfold sgnL
  intro x hx
  split at hx
  · obtain rfl := List.mem_singleton.1 hx; omega
  · cases hx
theorem sgn_len (n : Int) : (sgnL n).length ≤ 1 := by
  unfold sgnL
  split <;> simp
theorem bnd {α β : Type} {x : Option α} {a : α} {f : α → Option β} {r : Option β} (h : x = some a) (k : f a = r) : x.bind f = r := by rw [h]; exact k
theorem dec_nat (n : Nat) (h : n < 18446744073709551616) : words_decimal.f (n : Int) = some (strOfNums (digs n)) := by
  have := decimal_f (n : Int) (by omega) (by omega)
  rwa [Int.toNat_natCast] at this
theorem text_join (n : Int) (h1 : -9223372036854775808 ≤ n) (h2 : n ≤ 9223372036854775807) : strings_Join.f [strOfNums (sgnL n), strOfNums (digs n.natAbs)] (⟨#[]⟩ : ByteArray) = some (strOfNums (textL n)) := by
  have e : ([strOfNums (sgnL n), strOfNums (digs n.natAbs)].map bytesOf).flatten = textL n := by
    simp only [List.map_cons, List.map_nil, List.flatten_cons, List.flatten_nil, List.append_nil]
    rw [by_str _ (sgn_rng n), by_str _ (digs_rng _), textL]
  have hl : (textL n).length ≤ 140737488355328 := by
    unfold textL
    rw [List.length_append]
    have := sgn_len n
    have := len20 n.natAbs (by omega)
    omega
  rw [join0_f _ (by rw [e]; exact hl) (by simp), e]
theorem text_f (n : Int) (h1 : -9223372036854775808 ≤ n) (h2 : n ≤ 9223372036854775807) : words_Text.f n = some (strOfNums (textL n)) := by
  unfold words_Text.f words_together.f
  refine bnd (wsize_f n h1 h2) ?_
  refine bnd (dec_nat n.natAbs (by omega)) ?_
  exact bnd (bnd (text_join n h1 h2) (Eq.refl _)) (Eq.refl _)
end Go.Proofs.YtieifncibojciaaDoor.P
end
section
namespace Go.Proofs.YtieifncibojciaaDoor.P
set_option linter.unusedVariables false
set_option linter.unusedSimpArgs false
open Go.RowKit Go.Proofs.YtieifncibojciaaDoorW.PrintWords Go.Proofs.YtieifncibojciaaDoorW.PrintMore Go.Proofs.YtieifncibojciaaDoor.X
theorem unsign_sgn (n : Int) (T : List Int) (h : T.head? ≠ some 45) : unsign (sgnL n ++ T) = (T, decide (n < 0)) := by
  unfold unsign sgnL
  by_cases c : n < 0
  · rw [if_pos c, decide_eq_true c, List.singleton_append, List.head?_cons, if_pos rfl, List.tail_cons]
  · rw [if_neg c, decide_eq_false c, List.nil_append, if_neg h]
theorem dig_head {T : List Int} (h : ∀ x ∈ T, digitB x = true) : T.head? ≠ some 45 := by
  intro e
  have hm : (45 : Int) ∈ T := List.mem_of_head? e
  have := dig_rng (h _ hm)
  omega
theorem digs_zero {n : Nat} (h : digs n = [48]) : n = 0 := by
  have := numV_digs n
  rw [h] at this
  have e : numV 0 [48] = 0 := rfl
  omega
theorem int_text (n : Int) : intL (textL n) = if n.natAbs ≤ 1152921504606846976 then (n, 0) else (0, 3) := by
  unfold intL textL
  rw [unsign_sgn n _ (dig_head (digs_all _))]
  have hz : ¬ (decide (n < 0) = true ∧ digs n.natAbs = [48]) := by
    rintro ⟨h1, h2⟩
    have := digs_zero h2
    have := of_decide_eq_true h1
    omega
  rw [if_pos ⟨plain_digs _, hz⟩]
  unfold numR
  rw [numV_digs]
  by_cases c : n.natAbs ≤ 1152921504606846976
  · rw [if_neg (by omega), if_pos c]
    by_cases c2 : n < 0
    · rw [decide_eq_true c2, if_pos rfl]
      congr 1
      omega
    · rw [decide_eq_false c2, if_neg (by simp)]
      congr 1
      omega
  · rw [if_pos (by omega), if_neg c]
theorem text_int {L : List Int} (h : (intL L).2 = 0) : textL (intL L).1 = L ∧ -1152921504606846976 ≤ (intL L).1 ∧ (intL L).1 ≤ 1152921504606846976 ∧ plainL (unsign L).1 = true := by
  unfold intL at h ⊢
  by_cases c : plainL (unsign L).1 = true ∧ ¬((unsign L).2 = true ∧ (unsign L).1 = [48])
  case neg => rw [if_neg c] at h; exact absurd h (by decide)
  rw [if_pos c] at h ⊢
  unfold numR at h ⊢
  by_cases c2 : 1152921504606846976 < numV 0 (unsign L).1
  · rw [if_pos c2] at h; exact absurd h (by decide)
  rw [if_neg c2]
  have h0 := numV_mono (unsign L).1 0 (by omega) (plain_all c.1)
  have hb := digs_back _ (unsign L).1 rfl c.1
  unfold unsign at c c2 h0 hb ⊢
  by_cases c3 : L.head? = some 45
  · rw [if_pos c3] at c c2 h0 hb ⊢
    simp only [if_true]
    simp only [] at c c2 h0 hb
    have hne : numV 0 L.tail ≠ 0 := fun e => c.2 ⟨by trivial, plain_zero c.1 e⟩
    refine ⟨?_, by omega, by omega, c.1⟩
    unfold textL sgnL
    rw [if_pos (by omega), show (-(numV 0 L.tail)).natAbs = (numV 0 L.tail).toNat by omega, hb, List.singleton_append]
    cases L with
    | nil => cases c3
    | cons x r =>
      rw [List.head?_cons] at c3
      obtain rfl := Option.some.inj c3
      rfl
  · rw [if_neg c3] at c c2 h0 hb ⊢
    simp only [Bool.false_eq_true, if_false]
    simp only [] at c c2 h0 hb
    refine ⟨?_, by omega, by omega, c.1⟩
    unfold textL sgnL
    rw [if_neg (by omega), show (numV 0 L).natAbs = (numV 0 L).toNat by omega, hb, List.nil_append]
end Go.Proofs.YtieifncibojciaaDoor.P
end
section
namespace Go.Proofs.YtieifncibojciaaDoor.P
set_option linter.unusedVariables false
set_option linter.unusedSimpArgs false
open Go.RowKit Go.Proofs.YtieifncibojciaaDoorW.PrintWords Go.Proofs.YtieifncibojciaaDoorW.PrintMore Go.Proofs.YtieifncibojciaaDoor.X
theorem okb_iff (b : Int) : okB b = true ↔ 32 < b ∧ b ≤ 126 := by unfold okB; simp
theorem text_rng9 (n : Int) : ∀ x ∈ textL n, okB x = true := by
  unfold textL sgnL
  intro x hx
  rw [okb_iff]
  rcases List.mem_append.1 hx with h | h
  · split at h
    · obtain rfl := List.mem_singleton.1 h; omega
    · cases h
  · have := dig_rng (digs_all _ x h); omega
def textS (n : Int) : ByteArray := strOfNums (textL n)
theorem textS_by (n : Int) : bytesOf (textS n) = textL n := by_str _ fun x hx => by have := (okb_iff x).1 (text_rng9 n x hx); omega
theorem textS_size (n : Int) (h1 : -9223372036854775808 ≤ n) (h2 : n ≤ 9223372036854775807) : (textS n).size ≤ 21 := by
  unfold textS
  rw [strOfNums_size]
  unfold textL
  rw [List.length_append]
  have := sgn_len n
  have := len20 n.natAbs (by omega)
  omega
def I64 (n : Int) : Prop := -9223372036854775808 ≤ n ∧ n ≤ 9223372036854775807
end Go.Proofs.YtieifncibojciaaDoor.P
end
section
namespace Go.Proofs.YtieifncibojciaaDoor.P
set_option linter.unusedVariables false
set_option linter.unusedSimpArgs false
open Go.RowKit Go.Proofs.YtieifncibojciaaDoorW.PrintWords Go.Proofs.YtieifncibojciaaDoorW.PrintMore Go.Proofs.YtieifncibojciaaDoor.X
abbrev Ser := S23
end Go.Proofs.YtieifncibojciaaDoor.P
end
section
namespace Go.Proofs.YtieifncibojciaaDoor.P
set_option linter.unusedVariables false
set_option linter.unusedSimpArgs false
open Go.RowKit Go.Proofs.YtieifncibojciaaDoorW.PrintWords Go.Proofs.YtieifncibojciaaDoorW.PrintMore Go.Proofs.YtieifncibojciaaDoor.X
def piecesS (s : ByteArray) : List ByteArray := (splitI 46 (bytesOf s)).map strOfNums
theorem split_pieces (s : ByteArray) (hs : s.size < 4294967281) : strings_Split.f s (⟨#[46]⟩ : ByteArray) = some (piecesS s) := by
  obtain ⟨l, h1, h2⟩ := split_f s 46 hs
  rw [h1]
  unfold piecesS
  have e : ((46 : UInt8).toNat : Int) = 46 := rfl
  rw [e] at h2
  rw [← h2, map_str]
theorem split_le (c : Int) : ∀ (L : List Int), ∀ q ∈ splitI c L, q.length ≤ L.length ∧ ∀ x ∈ q, x ∈ L := by
  intro L
  induction L with
  | nil => intro q hq; simp [splitI] at hq; subst hq; simp
  | cons x r ih =>
    intro q hq
    unfold splitI at hq
    split at hq
    · rcases List.mem_cons.1 hq with h | h
      · subst h; simp
      · have := ih q h
        exact ⟨by have := this.1; simp; omega, fun y hy => List.mem_cons_of_mem _ (this.2 y hy)⟩
    · split at hq
      · rename_i p1 q1 he
        rcases List.mem_cons.1 hq with h | h
        · subst h
          have := ih p1 (by rw [he]; simp)
          refine ⟨by have := this.1; simp; omega, fun y hy => ?_⟩
          rcases List.mem_cons.1 hy with e | e
          · subst e; simp
          · exact List.mem_cons_of_mem _ (this.2 y e)
        · have := ih q (by rw [he]; simp [h])
          exact ⟨by have := this.1; simp; omega, fun y hy => List.mem_cons_of_mem _ (this.2 y hy)⟩
      · simp at hq; subst hq; simp
theorem pieces_sz {s : ByteArray} {x : ByteArray} (h : x ∈ piecesS s) : x.size ≤ s.size := by
  unfold piecesS at h
  obtain ⟨p, hp, rfl⟩ := List.mem_map.1 h
  rw [strOfNums_size, ← by_len s]
  exact (split_le 46 _ p hp).1
theorem numV_cons (n x : Int) (L : List Int) : numV n (x :: L) = numV (10 * n + (x - 48)) L := by unfold numV; rw [List.foldl_cons]
theorem sdig_bad (s : ByteArray) (hs : s.size ≤ 4611686018427387904) : ∀ (d i : Nat) (n : Int), i + d = s.size → ((bytesOf s).drop i).all digitB = false → Ev (fun k => series_digits.l0 k s n s.size i) (0, false)
  | 0, i, n, hd, h => by rw [by_end s i (by omega)] at h; exact absurd h (by decide)
  | d + 1, i, n, hd, h => by
    have hi : i < s.size := by omega
    rw [by_drop s i hi, List.all_cons] at h
    have w1 : wrap64 ((i : Int) + 1) = ((i + 1 : Nat) : Int) := w_succ hi (by omega)
    refine Ev_succ ?_
    simp only [series_digits.l0, if_pos (show (i : Int) < (s.size : Int) by omega), if_pos (show 0 ≤ (i : Int) by omega)]
    by_cases c1 : bt s (i : Int) < 48
    · simp only [if_pos c1]; exact Ev.now _
    by_cases c2 : bt s (i : Int) > 57
    · simp only [if_neg c1, if_pos c2]; exact Ev.now _
    have hb : digitB (bt s (i : Int)) = true := by unfold digitB; simp; omega
    rw [hb, Bool.true_and] at h
    simp only [if_neg c1, if_neg c2, w1]
    exact sdig_bad s hs d (i + 1) _ (by omega) h
theorem sdig_ok (s : ByteArray) (hs : s.size ≤ 4611686018427387904) (hall : ∀ x ∈ bytesOf s, digitB x = true) : ∀ (d i : Nat) (n : Int), i + d = s.size → 0 ≤ n → numV n ((bytesOf s).drop i) ≤ 1000000000 → Ev (fun k => series_digits.l0 k s n s.size i) (numV n ((bytesOf s).drop i), true)
  | 0, i, n, hd, h0, h1 => by
    refine Ev_succ ?_
    rw [by_end s i (by omega)]
    simp only [series_digits.l0, if_neg (show ¬ (i : Int) < (s.size : Int) by omega)]
    exact Ev.now _
  | d + 1, i, n, hd, h0, h1 => by
    have hi : i < s.size := by omega
    have hr := by_drop s i hi
    have hm : ∀ x ∈ (bytesOf s).drop i, digitB x = true := fun x hx => hall x (List.mem_of_mem_drop hx)
    rw [hr] at hm h1 ⊢
    have hb := dig_rng (hm (bt s (i : Int)) (by simp))
    rw [numV_cons] at h1 ⊢
    have hm2 := numV_mono ((bytesOf s).drop (i + 1)) (10 * n + (bt s (i : Int) - 48)) (by omega) fun x hx => hm x (by simp [hx])
    have w1 : wrap64 ((i : Int) + 1) = ((i + 1 : Nat) : Int) := w_succ hi (by omega)
    have w2 : wrap64 (wrap64 (10 * n) + (bt s (i : Int) - 48) % 256) = 10 * n + (bt s (i : Int) - 48) := by
      rw [w_id (x := 10 * n) (by omega) (by omega), show (bt s (i : Int) - 48) % 256 = bt s (i : Int) - 48 by omega]
      exact w_id (by omega) (by omega)
    refine Ev_succ ?_
    simp only [series_digits.l0, if_pos (show (i : Int) < (s.size : Int) by omega), if_pos (show 0 ≤ (i : Int) by omega), if_neg (show ¬ bt s (i : Int) < 48 by omega), if_neg (show ¬ bt s (i : Int) > 57 by omega), w1, w2]
    exact sdig_ok s hs hall d (i + 1) _ (by omega) (by omega) h1
theorem num8 {L : List Int} (h8 : L.length = 8) (hd : ∀ x ∈ L, digitB x = true) : 0 ≤ numV 0 L ∧ numV 0 L ≤ 99999999 := by
  rcases L with _ | ⟨a, _ | ⟨b, _ | ⟨c, _ | ⟨d, _ | ⟨e, _ | ⟨f, _ | ⟨g, _ | ⟨h, _ | ⟨i, r⟩⟩⟩⟩⟩⟩⟩⟩⟩
  case cons.cons.cons.cons.cons.cons.cons.cons.nil =>
    have ha := dig_rng (hd a (by simp)); have hb := dig_rng (hd b (by simp)); have hc := dig_rng (hd c (by simp)); have hd' := dig_rng (hd d (by simp))
    have he := dig_rng (hd e (by simp)); have hf := dig_rng (hd f (by simp)); have hg := dig_rng (hd g (by simp)); have hh := dig_rng (hd h (by simp))
    simp only [numV, List.foldl_cons, List.foldl_nil]
    omega
  all_goals (simp at h8)
theorem sdig_f (s : ByteArray) (h8 : s.size = 8) : Ev (fun k => series_digits.f k s) (if (bytesOf s).all digitB = true then (numV 0 (bytesOf s), true) else (0, false)) := by
  unfold series_digits.f
  by_cases c : (bytesOf s).all digitB = true
  · rw [if_pos c]
    have hall := List.all_eq_true.1 c
    have hb := num8 (by rw [by_len, h8]) hall
    have := sdig_ok s (by omega) hall s.size 0 0 (by omega) (by omega) (by rw [List.drop_zero]; omega)
    rw [List.drop_zero] at this
    exact this
  · rw [if_neg c]
    exact sdig_bad s (by omega) s.size 0 0 (by omega) (by rw [List.drop_zero]; simpa using c)
theorem one_byte (s : ByteArray) (c : UInt8) : s.toList = [c] ↔ bytesOf s = [(c.toNat : Int)] := by rw [by_toList]; simp
theorem ext_one (s : ByteArray) (c : UInt8) : (s.extract 0 1).toList = [c] ↔ (bytesOf s).head? = some (c.toNat : Int) := by
  rw [one_byte, by_ext, List.drop_zero]
  cases bytesOf s with
  | nil => simp
  | cons x r => simp
theorem pre_f (s : ByteArray) (c : UInt8) : strings_HasPrefix.f s (⟨#[c]⟩ : ByteArray) = some (decide ((bytesOf s).head? = some (c.toNat : Int))) := by
  unfold strings_HasPrefix.f stringslite_HasPrefix.f
  have e1 : (⟨#[c]⟩ : ByteArray).size = 1 := rfl
  have e2 : (⟨#[c]⟩ : ByteArray).toList = [c] := by rw [ByteArray.toList_eq]
  rw [e1, e2]
  by_cases h : 1 ≤ s.size
  · rw [if_pos (show (s.size : Int) ≥ ((1 : Nat) : Int) by omega), if_pos (by omega), if_pos (show ((1 : Nat) : Int) ≤ (s.size : Int) by omega)]
    have e3 : (((1 : Nat) : Int)).toNat = 1 := rfl
    simp only [e3, Option.bind_some]
    congr 1
    rw [Bool.eq_iff_iff, beq_iff_eq, ext_one, decide_eq_true_iff]
  · rw [if_neg (show ¬ (s.size : Int) ≥ ((1 : Nat) : Int) by omega)]
    have : bytesOf s = [] := List.length_eq_zero_iff.1 (by rw [by_len]; omega)
    rw [this]
    rfl
def kindI (C : List Int) : Int := if C = [102] then 1 else if C.head? = some 99 then 2 else if C.head? = some 112 then 3 else 0
theorem what_f (s : ByteArray) : series_what.f s = some (if kindI (bytesOf s) = 1 then (1, (⟨#[]⟩ : ByteArray), true) else if kindI (bytesOf s) = 0 then (0, (⟨#[]⟩ : ByteArray), false) else (kindI (bytesOf s), s.extract 1 s.size, true)) := by
  unfold series_what.f kindI
  have hs : ∀ c : Int, (bytesOf s).head? = some c → 1 ≤ (s.size : Int) := by
    intro c hc
    have : bytesOf s ≠ [] := fun e => by rw [e] at hc; cases hc
    have := List.length_pos_iff.2 this
    rw [by_len] at this
    omega
  by_cases c1 : s.toList = [102]
  · have c1' : bytesOf s = [102] := (one_byte s 102).1 c1
    rw [if_pos c1, if_pos c1', if_pos rfl]
  · have c1' : ¬ bytesOf s = [102] := fun e => c1 ((one_byte s 102).2 e)
    rw [if_neg c1, if_neg c1', pre_f]
    simp only [Option.bind_some]
    have e99 : ((99 : UInt8).toNat : Int) = 99 := rfl
    have e112 : ((112 : UInt8).toNat : Int) = 112 := rfl
    rw [e99]
    by_cases c2 : (bytesOf s).head? = some 99
    · rw [if_pos c2, if_pos (decide_eq_true c2), if_pos (hs _ c2)]
      rfl
    · rw [if_neg c2, if_neg (by simpa using c2), pre_f, e112]
      simp only [Option.bind_some]
      by_cases c3 : (bytesOf s).head? = some 112
      · rw [if_pos c3, if_pos (decide_eq_true c3), if_pos (hs _ c3)]
        rfl
      · rw [if_neg c3, if_neg (by simpa using c3)]
        rfl
def zS : Ser := ⟨(⟨#[]⟩ : ByteArray), 0, 0, 0⟩
def tS (q : Ser × Int) : ByteArray × Int × Int × Int × Int := (q.1.f0, q.1.f1, q.1.f2, q.1.f3, q.2)
def dayOf (n : Int) : Int × Int := ofV (n / 10000) (n / 100 % 100) (n % 100)
def okForm (a b c : ByteArray) : Prop := nameB a = true ∧ b.size = 8 ∧ (bytesOf b).all digitB = true ∧ kindI (bytesOf c) ≠ 0
instance (a b c : ByteArray) : Decidable (okForm a b c) := inferInstanceAs (Decidable (_ ∧ _ ∧ _ ∧ _))
def parse3 (a b c : ByteArray) : Ser × Int :=
  if okForm a b c then
    (if (dayOf (numV 0 (bytesOf b))).2 = 0 then
      (if kindI (bytesOf c) = 1 then (⟨a, 1, (dayOf (numV 0 (bytesOf b))).1, 0⟩, 0) else
        (if (intL (bytesOf c).tail).2 = 0 then (if (intL (bytesOf c).tail).1 < -16777216 ∨ (intL (bytesOf c).tail).1 > 16777216 then (zS, 17) else (⟨a, kindI (bytesOf c), (dayOf (numV 0 (bytesOf b))).1, (intL (bytesOf c).tail).1⟩, 0)) else (zS, (intL (bytesOf c).tail).2)))
    else (zS, 15))
  else (zS, 5)
def parseL (l : List ByteArray) : Ser × Int := if l.length = 3 then parse3 (rdOf ByteArray.empty l 0) (rdOf ByteArray.empty l 1) (rdOf ByteArray.empty l 2) else (zS, 5)
def parseS (s : ByteArray) : Ser × Int := parseL (piecesS s)
theorem tail_ext (s : ByteArray) : bytesOf (s.extract 1 s.size) = (bytesOf s).tail := by rw [by_ext, ← by_len, List.take_length, List.drop_one]
theorem kind_cases (C : List Int) : kindI C = 0 ∨ kindI C = 1 ∨ kindI C = 2 ∨ kindI C = 3 := by unfold kindI; repeat' first | split | omega
theorem sparse_j1 (l : List ByteArray) (hl : l.length = 3) (hz : ∀ x ∈ l, x.size ≤ 4611686018427387904) (hf : okForm (rdOf ByteArray.empty l 0) (rdOf ByteArray.empty l 1) (rdOf ByteArray.empty l 2)) (x8 : ByteArray) (h8 : kindI (bytesOf (rdOf ByteArray.empty l 2)) ≠ 1 → x8 = (rdOf ByteArray.empty l 2).extract 1 (rdOf ByteArray.empty l 2).size) :
    Ev (fun k => series_Parse.j1 k l (numV 0 (bytesOf (rdOf ByteArray.empty l 1))) (kindI (bytesOf (rdOf ByteArray.empty l 2))) x8 false (⟨#[]⟩ : ByteArray) 0 0 0) (tS (parse3 (rdOf ByteArray.empty l 0) (rdOf ByteArray.empty l 1) (rdOf ByteArray.empty l 2))) := by
  have hz2 : (rdOf ByteArray.empty l 2).size ≤ 4611686018427387904 := by
    have e : rdOf ByteArray.empty l 2 = l[2]'(by omega) := rdOf_nat _ _ 2 _
    rw [e]; exact hz _ (List.getElem_mem _)
  generalize rdOf ByteArray.empty l 2 = c at *
  generalize rdOf ByteArray.empty l 1 = b at *
  obtain ⟨f1, f2, f3, f4⟩ := hf
  have hn := num8 (by rw [by_len, f2]) (List.all_eq_true.1 f3)
  have hok : okForm (rdOf ByteArray.empty l 0) b c := ⟨f1, f2, f3, f4⟩
  refine Ev_succ ?_
  unfold parse3
  rw [if_pos hok]
  generalize numV 0 (bytesOf b) = n at *
  have q1 : wrap64 (Int.tdiv n 10000) = n / 10000 := by rw [Int.tdiv_eq_ediv_of_nonneg (by omega)]; exact w_id (by omega) (by omega)
  have q2 : wrap64 (Int.tdiv n 100) = n / 100 := by rw [Int.tdiv_eq_ediv_of_nonneg (by omega)]; exact w_id (by omega) (by omega)
  have q3 : Int.tmod (n / 100) 100 = n / 100 % 100 := Int.tmod_eq_emod_of_nonneg (by omega)
  have q4 : Int.tmod n 100 = n % 100 := Int.tmod_eq_emod_of_nonneg (by omega)
  have qd : date_Of.f (n / 10000) (n / 100 % 100) (n % 100) = some (dayOf n) := rfl
  simp only [series_Parse.j1, Bool.false_eq_true, if_false, q1, q2, q3, q4, qd, Option.bind_some]
  by_cases c1 : (dayOf n).2 = 0
  case neg => simp only [if_neg c1]; exact Ev.now _
  simp only [if_pos c1]
  have hl0 : (0 : Int) < (l.length : Int) := by omega
  by_cases c2 : kindI (bytesOf c) = 1
  · simp only [if_pos c2, if_pos hl0]
    rw [c2]
    exact Ev.now _
  · simp only [if_neg c2, h8 c2]
    have hi := int_f (c.extract 1 c.size) (by rw [ByteArray.size_extract]; omega)
    rw [tail_ext] at hi
    refine Ev_bind hi ?_
    by_cases c3 : (intL (bytesOf c).tail).2 = 0
    case neg => simp only [if_neg c3]; exact Ev.now _
    simp only [if_pos c3]
    by_cases c4 : (intL (bytesOf c).tail).1 < -16777216
    · simp only [if_pos c4, if_pos (Or.inl c4 : (intL (bytesOf c).tail).1 < -16777216 ∨ (intL (bytesOf c).tail).1 > 16777216)]; exact Ev.now _
    by_cases c5 : (intL (bytesOf c).tail).1 > 16777216
    · simp only [if_neg c4, if_pos c5, if_pos (Or.inr c5 : (intL (bytesOf c).tail).1 < -16777216 ∨ (intL (bytesOf c).tail).1 > 16777216)]; exact Ev.now _
    have c6 : ¬ ((intL (bytesOf c).tail).1 < -16777216 ∨ (intL (bytesOf c).tail).1 > 16777216) := by omega
    simp only [if_neg c4, if_neg c5, if_neg c6, if_pos hl0]
    exact Ev.now _
theorem parse_f10 (s : ByteArray) (hs : s.size ≤ 4294967280) : Ev (fun k => series_Parse.f k s) (tS (parseS s)) := by
  unfold series_Parse.f parseS
  rw [split_pieces s (by omega)]
  have hz : ∀ x ∈ piecesS s, x.size ≤ 4611686018427387904 := fun x hx => by have := pieces_sz hx; omega
  generalize piecesS s = l at *
  simp only [Option.bind_some]
  have bad : Ev (fun k => series_Parse.j0 k l true (⟨#[]⟩ : ByteArray) 0 0 0) (tS (zS, 5)) := Ev_succ (by simp only [series_Parse.j0, if_true]; exact Ev.now _)
  unfold parseL
  by_cases c0 : l.length = 3
  case neg =>
    rw [if_neg c0]
    simp only [if_neg (show ¬ (l.length : Int) = 3 by omega)]
    exact bad
  rw [if_pos c0]
  simp only [if_pos (show (l.length : Int) = 3 by omega), if_pos (show (0 : Int) < (l.length : Int) by omega)]
  refine Ev_bind (name_f (rdOf ByteArray.empty l 0)) ?_
  have no : ¬ okForm (rdOf ByteArray.empty l 0) (rdOf ByteArray.empty l 1) (rdOf ByteArray.empty l 2) → parse3 (rdOf ByteArray.empty l 0) (rdOf ByteArray.empty l 1) (rdOf ByteArray.empty l 2) = (zS, 5) := fun h => by unfold parse3; rw [if_neg h]
  by_cases c1 : nameB (rdOf ByteArray.empty l 0) = true
  case neg => simp only [if_neg c1]; rw [no fun h => c1 h.1]; exact bad
  simp only [if_pos c1, if_pos (show (1 : Int) < (l.length : Int) by omega)]
  by_cases c2 : (rdOf ByteArray.empty l 1).size = 8
  case neg =>
    have e : (((rdOf ByteArray.empty l 1).size : Int) != 8) = true := by rw [bne_iff_ne]; omega
    rw [no fun h => c2 h.2.1]
    simp only [e]
    exact bad
  have e : (((rdOf ByteArray.empty l 1).size : Int) != 8) = false := by rw [bne_eq_false_iff_eq]; omega
  simp only [e]
  refine Ev_succ ?_
  simp only [series_Parse.j0, Bool.false_eq_true, if_false, if_pos (show (1 : Int) < (l.length : Int) by omega), if_pos (show (2 : Int) < (l.length : Int) by omega)]
  refine Ev_bind (sdig_f _ c2) ?_
  rw [what_f]
  simp only [Option.bind_some]
  have bad1 : ∀ n b q, Ev (fun k => series_Parse.j1 k l n b q true (⟨#[]⟩ : ByteArray) 0 0 0) (tS (zS, 5)) := fun n b q => Ev_succ (by simp only [series_Parse.j1, if_true]; exact Ev.now _)
  by_cases c3 : (bytesOf (rdOf ByteArray.empty l 1)).all digitB = true
  case neg =>
    rw [no fun h => c3 h.2.2.1]
    simp only [if_neg c3, Bool.false_eq_true, if_false]
    exact bad1 _ _ _
  simp only [if_pos c3, if_true]
  by_cases c4 : kindI (bytesOf (rdOf ByteArray.empty l 2)) = 0
  · rw [no fun h => h.2.2.2 c4]
    have c5 : ¬ kindI (bytesOf (rdOf ByteArray.empty l 2)) = 1 := by omega
    simp only [if_neg c5, if_pos c4, Bool.not_false]
    exact bad1 _ _ _
  · have hf : okForm (rdOf ByteArray.empty l 0) (rdOf ByteArray.empty l 1) (rdOf ByteArray.empty l 2) := ⟨c1, c2, c3, c4⟩
    by_cases c5 : kindI (bytesOf (rdOf ByteArray.empty l 2)) = 1
    · simp only [if_pos c5, Bool.not_true]
      have := sparse_j1 l c0 hz hf (⟨#[]⟩ : ByteArray) (fun h => absurd c5 h)
      rw [c5] at this
      exact this
    · simp only [if_neg c5, if_neg c4, Bool.not_true]
      exact sparse_j1 l c0 hz hf _ (fun _ => rfl)
end Go.Proofs.YtieifncibojciaaDoor.P
end
section
namespace Go.Proofs.YtieifncibojciaaDoor.P
set_option linter.unusedVariables false
set_option linter.unusedSimpArgs false
open Go.RowKit Go.Proofs.YtieifncibojciaaDoorW.PrintWords Go.Proofs.YtieifncibojciaaDoorW.PrintMore Go.Proofs.YtieifncibojciaaDoor.X
def digsF : Int → Nat → List Int
  | _, 0 => []
  | n, d + 1 => digsF (n / 10) d ++ [48 + n % 10]
def dayL (day : Int) : List Int := digsF (splitV day).1 4 ++ digsF (splitV day).2.1 2 ++ digsF (splitV day).2.2.1 2
def dayS (day : Int) : ByteArray := strOfNums (dayL day)
def okPrint (s : Ser) : Prop := 1 ≤ s.f1 ∧ s.f1 ≤ 3 ∧ 0 ≤ s.f2 ∧ s.f2 ≤ 73048
instance (s : Ser) : Decidable (okPrint s) := inferInstanceAs (Decidable (_ ∧ _ ∧ _ ∧ _))
def frontS (s : Ser) : ByteArray := ((s.f0 ++ (⟨#[46]⟩ : ByteArray)) ++ dayS s.f2) ++ (⟨#[46]⟩ : ByteArray)
def printS (s : Ser) : ByteArray := if okPrint s then (if s.f1 = 2 then (frontS s ++ (⟨#[99]⟩ : ByteArray)) ++ textS s.f3 else if s.f1 = 3 then (frontS s ++ (⟨#[112]⟩ : ByteArray)) ++ textS s.f3 else frontS s ++ (⟨#[102]⟩ : ByteArray)) else (⟨#[]⟩ : ByteArray)
theorem dayS_size (day : Int) : (dayS day).size = 8 := by unfold dayS; rw [strOfNums_size]; rfl
theorem day_print {day : Int} (h : 0 ≤ day ∧ day ≤ 73048) : strings_ReplaceAll.f (strOfNums (dateC (splitV day).1 (splitV day).2.1 (splitV day).2.2.1 false false false)) (⟨#[45]⟩ : ByteArray) (⟨#[]⟩ : ByteArray) = some (dayS day) := by
  obtain ⟨r1, r2, r3, r4, r5, r6⟩ := split_rng h
  have r7 := split_day h
  unfold strings_ReplaceAll.f
  rw [if_pos]
  · have := day_out (a := 48 + (splitV day).1 / 1000 % 10) (b := 48 + (splitV day).1 / 100 % 10) (c := 48 + (splitV day).1 / 10 % 10) (d := 48 + (splitV day).1 % 10) (e := 48 + (splitV day).2.1 / 10 % 10) (f := 48 + (splitV day).2.1 % 10) (g := 48 + (splitV day).2.2.1 / 10 % 10) (h := 48 + (splitV day).2.2.1 % 10) (by omega) (by omega) (by omega) (by omega) (by omega) (by omega) (by omega) (by omega)
    rw [show strOfNums (dateC (splitV day).1 (splitV day).2.1 (splitV day).2.2.1 false false false) = strOfNums [48 + (splitV day).1 / 1000 % 10, 48 + (splitV day).1 / 100 % 10, 48 + (splitV day).1 / 10 % 10, 48 + (splitV day).1 % 10, 45, 48 + (splitV day).2.1 / 10 % 10, 48 + (splitV day).2.1 % 10, 45, 48 + (splitV day).2.2.1 / 10 % 10, 48 + (splitV day).2.2.1 % 10] from rfl]
    show some (⟨(Lib.replaceAll _ [45] []).toArray⟩ : ByteArray) = _
    rw [this]
    unfold dayS dayL
    congr 2
    show _ = [48 + (splitV day).1 / 10 / 10 / 10 % 10, 48 + (splitV day).1 / 10 / 10 % 10, 48 + (splitV day).1 / 10 % 10, 48 + (splitV day).1 % 10, 48 + (splitV day).2.1 / 10 % 10, 48 + (splitV day).2.1 % 10, 48 + (splitV day).2.2.1 / 10 % 10, 48 + (splitV day).2.2.1 % 10]
    rw [show (splitV day).1 / 10 / 10 / 10 = (splitV day).1 / 1000 by omega, show (splitV day).1 / 10 / 10 = (splitV day).1 / 100 by omega]
  · refine ⟨?_, by decide, ?_⟩
    · rw [strOfNums_size]; show 10 < 4294967281; decide
    · rw [strOfNums_size]; show 10 + _ * 0 ≤ 140737488355328; omega
theorem print_f10 (s : Ser) (h0 : s.f0.size ≤ 140737488351232) (h3 : I64 s.f3) : Ev (fun k => series_Print.f k s.f0 s.f1 s.f2 s.f3) (printS s) := by
  unfold series_Print.f date_Print.f printS
  simp only [Option.bind_some]
  have bad : ∀ t, ¬ okPrint s → Ev (fun k => series_Print.j0 k t true s.f0 s.f1 s.f2 s.f3) (if okPrint s then (if s.f1 = 2 then (frontS s ++ (⟨#[99]⟩ : ByteArray)) ++ textS s.f3 else if s.f1 = 3 then (frontS s ++ (⟨#[112]⟩ : ByteArray)) ++ textS s.f3 else frontS s ++ (⟨#[102]⟩ : ByteArray)) else (⟨#[]⟩ : ByteArray)) := fun t h => by
    rw [if_neg h]
    refine Ev_succ ?_
    simp only [series_Print.j0, if_true]
    exact Ev.now _
  by_cases c1 : s.f1 < 1
  · simp only [if_pos c1]; exact bad _ fun h => by have := h.1; omega
  by_cases c2 : s.f1 > 3
  · simp only [if_neg c1, if_pos c2]; exact bad _ fun h => by have := h.2.1; omega
  simp only [if_neg c1, if_neg c2]
  by_cases c3 : 0 ≤ s.f2 ∧ s.f2 ≤ 73048
  case neg =>
    simp only [if_neg c3]
    have e : ((⟨#[]⟩ : ByteArray).toList == ([] : List UInt8)) = true := by rw [beq_iff_eq, by_emp]; rfl
    rw [e]
    exact bad _ fun h => c3 h.2.2
  simp only [if_pos c3]
  have hok : okPrint s := ⟨by omega, by omega, c3⟩
  rw [if_pos hok]
  have hne : ((strOfNums (dateC (splitV s.f2).1 (splitV s.f2).2.1 (splitV s.f2).2.2.1 false false false)).toList == ([] : List UInt8)) = false := by
    rw [beq_eq_false_iff_ne]
    intro h
    have := congrArg List.length ((by_emp _).1 h)
    rw [by_len, strOfNums_size] at this
    exact absurd this (by show ¬ (10 : Nat) = 0; decide)
  rw [hne]
  refine Ev_succ ?_
  have z := dayS_size s.f2
  have zt := textS_size s.f3 h3.1 h3.2
  have z46 : (⟨#[46]⟩ : ByteArray).size = 1 := rfl
  have z99 : (⟨#[99]⟩ : ByteArray).size = 1 := rfl
  have z112 : (⟨#[112]⟩ : ByteArray).size = 1 := rfl
  have ht : words_Text.f s.f3 = some (textS s.f3) := text_f s.f3 h3.1 h3.2
  simp only [series_Print.j0, Bool.false_eq_true, if_false, day_print c3, Option.bind_some, ByteArray.size_append, z, z46, z99, z112, ht, if_pos (show s.f0.size + 1 ≤ 9223372036854775807 by omega), if_pos (show s.f0.size + 1 + 8 ≤ 9223372036854775807 by omega), if_pos (show s.f0.size + 1 + 8 + 1 ≤ 9223372036854775807 by omega), if_pos (show s.f0.size + 1 + 8 + 1 + 1 ≤ 9223372036854775807 by omega), if_pos (show s.f0.size + 1 + 8 + 1 + 1 + (textS s.f3).size ≤ 9223372036854775807 by omega)]
  unfold frontS
  by_cases d2 : s.f1 = 2
  · simp only [if_pos d2]; exact Ev.now _
  by_cases d3 : s.f1 = 3
  · simp only [if_neg d2, if_pos d3]; exact Ev.now _
  · simp only [if_neg d2, if_neg d3]; exact Ev.now _
end Go.Proofs.YtieifncibojciaaDoor.P
end
section
namespace Go.Proofs.YtieifncibojciaaDoor.P
set_option linter.unusedVariables false
set_option linter.unusedSimpArgs false
open Go.RowKit Go.Proofs.YtieifncibojciaaDoorW.PrintWords Go.Proofs.YtieifncibojciaaDoorW.PrintMore Go.Proofs.YtieifncibojciaaDoor.X
theorem monSum_mono (b : Bool) : ∀ (d m : Nat), monSum b m ≤ monSum b (m + d)
  | 0, m => Int.le_refl _
  | d + 1, m => by
    have h1 := monSum_mono b d m
    have h2 := monLen_rng b (m + d)
    have e : monSum b (m + (d + 1)) = monSum b (m + d) + monLen b (m + d) := rfl
    omega
theorem monAt_stop (b : Bool) (D : Int) (h1 : D < monSum b 13) : ∀ (f m : Nat), m + f = 13 → monSum b m ≤ D → D - monSum b (monAt b D f m) < monLen b (monAt b D f m) ∧ monSum b (monAt b D f m) ≤ D
  | 0, m, hf, hs => by obtain rfl : m = 13 := by omega
                       omega
  | f + 1, m, hf, hs => by
    unfold monAt
    by_cases c : monLen b m ≤ D - monSum b m
    · rw [if_pos c]
      have e : monSum b (m + 1) = monSum b m + monLen b m := rfl
      exact monAt_stop b D h1 f (m + 1) (by omega) (by omega)
    · rw [if_neg c]; omega
theorem monAt_eq (b : Bool) (D : Int) (m : Nat) (hm : m ≤ 12) (h0 : monSum b m ≤ D) (h1 : D < monSum b (m + 1)) : ∀ (f c : Nat), c + f = 13 → c ≤ m → monAt b D f c = m
  | 0, c, hf, hc => by omega
  | f + 1, c, hf, hc => by
    have e : monSum b (m + 1) = monSum b m + monLen b m := rfl
    have e2 : monSum b (c + 1) = monSum b c + monLen b c := rfl
    unfold monAt
    by_cases x : c = m
    · subst x
      rw [if_neg (by omega)]
    · have h2 := monSum_mono b (m - (c + 1)) (c + 1)
      rw [show c + 1 + (m - (c + 1)) = m by omega] at h2
      rw [if_pos (by omega)]
      exact monAt_eq b D m hm h0 h1 f (c + 1) (by omega) (by omega)
theorem of_split {day : Int} (h : 0 ≤ day ∧ day ≤ 73048) : ofV (splitV day).1 (splitV day).2.1 (splitV day).2.2.1 = (day, 0) := by
  obtain ⟨r1, r2, r3, r4, r5, r6⟩ := split_rng h
  obtain ⟨y1, y2, y3⟩ := year_ok h
  have hst := monAt_stop (leapB (2000 + (yearK day : Int))) (day - startV (2000 + (yearK day : Int))) y3 12 1 (by omega) (by rw [monSum_one]; exact y2)
  unfold splitV at r1 r2 r3 r4 r5 r6 ⊢
  rw [if_pos h] at r1 r2 r3 r4 r5 r6 ⊢
  simp only at r1 r2 r3 r4 r5 r6 ⊢
  have hd : daysV (2000 + (yearK day : Int)) ((monAt (leapB (2000 + (yearK day : Int))) (day - startV (2000 + (yearK day : Int))) 12 1 : Nat) : Int) = monLen (leapB (2000 + (yearK day : Int))) (monAt (leapB (2000 + (yearK day : Int))) (day - startV (2000 + (yearK day : Int))) 12 1) := by
    unfold daysV
    rw [if_pos ⟨r3, r4⟩, Int.toNat_natCast]
  unfold ofV
  rw [hd, if_neg (by omega), Int.toNat_natCast]
  congr 1
  omega
theorem split_of {y m d : Int} (h1 : 2000 ≤ y) (h2 : y ≤ 2199) (h3 : 1 ≤ d) (h4 : d ≤ daysV y m) : (0 ≤ (ofV y m d).1 ∧ (ofV y m d).1 ≤ 73048) ∧ splitV (ofV y m d).1 = (y, m, d, 0) ∧ (ofV y m d).2 = 0 := by
  obtain ⟨m1, m2, m3⟩ := days_pos h3 h4
  have e : ofV y m d = (startV y + d - 1 + monSum (leapB y) m.toNat, 0) := by unfold ofV; rw [if_neg (by omega)]
  rw [e]
  show (0 ≤ startV y + d - 1 + monSum (leapB y) m.toNat ∧ startV y + d - 1 + monSum (leapB y) m.toNat ≤ 73048) ∧ splitV (startV y + d - 1 + monSum (leapB y) m.toNat) = (y, m, d, 0) ∧ (0 : Int) = 0
  obtain ⟨M, rfl⟩ : ∃ M : Nat, m = (M : Int) := ⟨m.toNat, by omega⟩
  rw [Int.toNat_natCast]
  have hdv : daysV y (M : Int) = monLen (leapB y) M := by unfold daysV; rw [if_pos ⟨m1, m2⟩, Int.toNat_natCast]
  rw [hdv] at h4
  have hs := monSum_rng (leapB y) M
  have hy := startV_rng1 (y := y) (by omega) (by omega)
  have hsu := startV_succ h1 h2
  have e1 : monSum (leapB y) (M + 1) = monSum (leapB y) M + monLen (leapB y) M := rfl
  have hmo := monSum_mono (leapB y) (13 - (M + 1)) (M + 1)
  rw [show M + 1 + (13 - (M + 1)) = 13 by omega, monSum_all] at hmo
  have hend : startV (y + 1) ≤ 73049 := by
    have := startV_mono (a := y + 1) (b := 2200) (by omega) (by omega)
    have e2 : startV 2200 = 73049 := by decide
    omega
  have hlt : startV y + d - 1 + monSum (leapB y) M < startV (y + 1) := by omega
  have hday : 0 ≤ startV y + d - 1 + monSum (leapB y) M ∧ startV y + d - 1 + monSum (leapB y) M ≤ 73048 := by omega
  refine ⟨hday, ?_, rfl⟩
  obtain ⟨y1, y2, y3⟩ := year_ok hday
  generalize hD : startV y + d - 1 + monSum (leapB y) M = day at *
  have hsk := startV_succ (c := 2000 + (yearK day : Int)) (by omega) (by omega)
  rw [monSum_all] at y3
  have hk : 2000 + (yearK day : Int) = y := by
    by_cases a : 2000 + (yearK day : Int) < y
    · have := startV_mono (a := 2000 + (yearK day : Int) + 1) (b := y) (by omega) (by omega)
      omega
    · by_cases b : y < 2000 + (yearK day : Int)
      · have := startV_mono (a := y + 1) (b := 2000 + (yearK day : Int)) (by omega) (by omega)
        omega
      · omega
  unfold splitV
  rw [if_pos hday, hk]
  have hma := monAt_eq (leapB y) (day - startV y) M (by omega) (by omega) (by omega) 12 1 (by omega) (by omega)
  rw [hma]
  congr 3
  omega
theorem name_ch {s : ByteArray} (h : nameB s = true) : ∀ x ∈ bytesOf s, letterB x = true ∨ digitB x = true := by
  unfold nameB at h
  simp only [Bool.and_eq_true, decide_eq_true_eq] at h
  have key : ∀ (d i : Nat), i + d = s.size → nameFrom s d i = true → ∀ b ∈ (bytesOf s).drop i, letterB b = true ∨ digitB b = true := by
    intro d
    induction d with
    | zero => intro i hd _ b hb; rw [by_end s i (by omega)] at hb; cases hb
    | succ d ih =>
      intro i hd h b hb
      unfold nameFrom at h
      simp only [Bool.and_eq_true] at h
      rw [by_drop s i (by omega)] at hb
      rcases List.mem_cons.1 hb with e | e
      · subst e
        have h1 := h.1
        unfold chB at h1
        simp only [Bool.or_eq_true, Bool.and_eq_true] at h1
        rcases h1 with h1 | h1
        · exact Or.inl h1
        · exact Or.inr h1.2
      · exact ih (i + 1) (by omega) h.2 b e
  have := key s.size 0 (by omega) h.2
  rwa [List.drop_zero] at this
theorem name_no {s : ByteArray} (h : nameB s = true) : (46 : Int) ∉ bytesOf s := fun hm => by
  rcases name_ch h _ hm with h | h <;> exact absurd h (by decide)
theorem digsF_dig : ∀ (d : Nat) (n : Int), ∀ x ∈ digsF n d, digitB x = true
  | 0, n, x, hx => by cases hx
  | d + 1, n, x, hx => by
    rcases List.mem_append.1 hx with h | h
    · exact digsF_dig d (n / 10) x h
    · obtain rfl := List.mem_singleton.1 h
      unfold digitB
      simp only [Bool.and_eq_true, decide_eq_true_eq]
      omega
theorem dayL_dig (day : Int) : ∀ x ∈ dayL day, digitB x = true := by
  unfold dayL
  intro x hx
  rcases List.mem_append.1 hx with h | h
  · rcases List.mem_append.1 h with h | h
    · exact digsF_dig _ _ x h
    · exact digsF_dig _ _ x h
  · exact digsF_dig _ _ x h
theorem dig_no {L : List Int} (h : ∀ x ∈ L, digitB x = true) : (46 : Int) ∉ L := fun hm => absurd (h _ hm) (by decide)
theorem dayS_by (day : Int) : bytesOf (dayS day) = dayL day := by_str _ fun x hx => by have := dig_rng (dayL_dig day x hx); omega
theorem text_no (n : Int) : (46 : Int) ∉ textL n := by
  unfold textL sgnL
  intro hm
  rcases List.mem_append.1 hm with h | h
  · split at h
    · have := List.mem_singleton.1 h; omega
    · cases h
  · exact absurd (digs_all _ _ h) (by decide)
theorem join3 {L A B C : List Int} (h : splitI 46 L = [A, B, C]) : L = A ++ 46 :: (B ++ 46 :: C) := by
  have key : ∀ (L : List Int) (p : List Int) (q : List (List Int)), splitI 46 L = p :: q → (q = [] ∧ L = p) ∨ (∃ R, L = p ++ 46 :: R ∧ splitI 46 R = q) := by
    intro L
    induction L with
    | nil => intro p q h; simp only [splitI, List.cons.injEq] at h; exact Or.inl ⟨h.2.symm, h.1⟩
    | cons x r ih =>
      intro p q h
      unfold splitI at h
      by_cases c : x = 46
      · rw [if_pos c] at h
        simp only [List.cons.injEq] at h
        refine Or.inr ⟨r, ?_, h.2⟩
        rw [← h.1, c]
        rfl
      · rw [if_neg c] at h
        cases hs : splitI 46 r with
        | nil => exact absurd hs (splitI_ne 46 r)
        | cons p1 q1 =>
          rw [hs] at h
          simp only [List.cons.injEq] at h
          obtain ⟨h1, h2⟩ := h
          subst h1 h2
          rcases ih p1 q1 hs with ⟨a, b⟩ | ⟨R, a, b⟩
          · exact Or.inl ⟨a, by rw [b]⟩
          · exact Or.inr ⟨R, by rw [a]; rfl, b⟩
  rcases key L A [B, C] h with ⟨a, _⟩ | ⟨R, a, b⟩
  · cases a
  rcases key R B [C] b with ⟨c, _⟩ | ⟨R2, c, d⟩
  · cases c
  rcases key R2 C [] d with ⟨_, e⟩ | ⟨R3, _, f⟩
  · rw [a, c, e]
  · exact absurd f (splitI_ne 46 R3)
theorem split3 {A B C : List Int} (hA : (46 : Int) ∉ A) (hB : (46 : Int) ∉ B) (hC : (46 : Int) ∉ C) : splitI 46 (A ++ 46 :: (B ++ 46 :: C)) = [A, B, C] := by
  rw [splitI_app _ hA, splitI_app _ hB, splitI_none hC]
theorem dayL_eq (day : Int) : dayL day = [48 + (splitV day).1 / 10 / 10 / 10 % 10, 48 + (splitV day).1 / 10 / 10 % 10, 48 + (splitV day).1 / 10 % 10, 48 + (splitV day).1 % 10, 48 + (splitV day).2.1 / 10 % 10, 48 + (splitV day).2.1 % 10, 48 + (splitV day).2.2.1 / 10 % 10, 48 + (splitV day).2.2.1 % 10] := rfl
theorem day_num {day : Int} (h : 0 ≤ day ∧ day ≤ 73048) : dayOf (numV 0 (dayL day)) = (day, 0) := by
  obtain ⟨r1, r2, r3, r4, r5, r6⟩ := split_rng h
  have r7 := split_day h
  have e := of_split h
  rw [dayL_eq]
  simp only [numV, List.foldl_cons, List.foldl_nil]
  unfold dayOf
  generalize (splitV day).1 = y at *
  generalize (splitV day).2.1 = m at *
  generalize (splitV day).2.2.1 = d at *
  rw [← e]
  congr 1 <;> omega
def lastL (s : Ser) : List Int := if s.f1 = 2 then 99 :: textL s.f3 else if s.f1 = 3 then 112 :: textL s.f3 else [102]
theorem print_by {s : Ser} (h : okPrint s) : bytesOf (printS s) = bytesOf s.f0 ++ 46 :: (dayL s.f2 ++ 46 :: lastL s) := by
  unfold printS lastL
  rw [if_pos h]
  have e46 : bytesOf (⟨#[46]⟩ : ByteArray) = [46] := rfl
  have e99 : bytesOf (⟨#[99]⟩ : ByteArray) = [99] := rfl
  have e112 : bytesOf (⟨#[112]⟩ : ByteArray) = [112] := rfl
  have e102 : bytesOf (⟨#[102]⟩ : ByteArray) = [102] := rfl
  by_cases c2 : s.f1 = 2
  · rw [if_pos c2, if_pos c2]
    unfold frontS
    simp only [by_app, e46, e99, dayS_by, textS_by, List.append_assoc, List.singleton_append, List.cons_append, List.nil_append]
  · rw [if_neg c2, if_neg c2]
    by_cases c3 : s.f1 = 3
    · rw [if_pos c3, if_pos c3]
      unfold frontS
      simp only [by_app, e46, e112, dayS_by, textS_by, List.append_assoc, List.singleton_append, List.cons_append, List.nil_append]
    · rw [if_neg c3, if_neg c3]
      unfold frontS
      simp only [by_app, e46, e102, dayS_by, textS_by, List.append_assoc, List.singleton_append, List.cons_append, List.nil_append]
theorem last_rng (s : Ser) : ∀ x ∈ lastL s, 0 ≤ x ∧ x < 256 := by
  unfold lastL
  have ht : ∀ x ∈ textL s.f3, 0 ≤ x ∧ x < 256 := fun x hx => by have := (okb_iff x).1 (text_rng9 s.f3 x hx); omega
  intro x hx
  split at hx
  · rcases List.mem_cons.1 hx with e | e
    · omega
    · exact ht x e
  · split at hx
    · rcases List.mem_cons.1 hx with e | e
      · omega
      · exact ht x e
    · have := List.mem_singleton.1 hx; omega
theorem last_no (s : Ser) : (46 : Int) ∉ lastL s := by
  unfold lastL
  have ht := text_no s.f3
  intro hx
  split at hx
  · rcases List.mem_cons.1 hx with e | e
    · omega
    · exact ht e
  · split at hx
    · rcases List.mem_cons.1 hx with e | e
      · omega
      · exact ht e
    · have := List.mem_singleton.1 hx; omega
theorem parse_print10 {s : Ser} (h : okPrint s) (hn : nameB s.f0 = true) (h3 : -16777216 ≤ s.f3 ∧ s.f3 ≤ 16777216) (h1 : s.f1 = 1 → s.f3 = 0) : parseS (printS s) = (s, 0) := by
  unfold parseS piecesS
  rw [print_by h, split3 (name_no hn) (dig_no (dayL_dig _)) (last_no s)]
  unfold parseL
  simp only [List.map_cons, List.map_nil]
  rw [if_pos (by rfl)]
  have e0 : rdOf ByteArray.empty [strOfNums (bytesOf s.f0), strOfNums (dayL s.f2), strOfNums (lastL s)] 0 = s.f0 := str_by s.f0
  have e1 : rdOf ByteArray.empty [strOfNums (bytesOf s.f0), strOfNums (dayL s.f2), strOfNums (lastL s)] 1 = dayS s.f2 := rfl
  have e2 : rdOf ByteArray.empty [strOfNums (bytesOf s.f0), strOfNums (dayL s.f2), strOfNums (lastL s)] 2 = strOfNums (lastL s) := rfl
  rw [e0, e1, e2]
  have hl : bytesOf (strOfNums (lastL s)) = lastL s := by_str _ (last_rng s)
  obtain ⟨g1, g2, g3⟩ := h
  have hk : kindI (lastL s) = s.f1 := by
    unfold lastL
    by_cases c2 : s.f1 = 2
    · rw [if_pos c2, c2]
      unfold kindI
      rw [if_neg (by simp), if_pos (by rfl)]
    · rw [if_neg c2]
      by_cases c3 : s.f1 = 3
      · rw [if_pos c3, c3]
        unfold kindI
        rw [if_neg (by simp), if_neg (by simp), if_pos (by rfl)]
      · rw [if_neg c3]
        show (1 : Int) = s.f1
        omega
  unfold parse3
  rw [dayS_by, hl, hk, day_num g3]
  have hok : okForm s.f0 (dayS s.f2) (strOfNums (lastL s)) := by
    refine ⟨hn, dayS_size _, ?_, ?_⟩
    · rw [dayS_by]; exact List.all_eq_true.2 (dayL_dig _)
    · rw [hl, hk]; omega
  rw [if_pos hok]
  simp only [if_true]
  by_cases c1 : s.f1 = 1
  · rw [if_pos c1]
    have := h1 c1
    cases s
    simp_all
  · rw [if_neg c1]
    have ht : (lastL s).tail = textL s.f3 := by
      unfold lastL
      by_cases c2 : s.f1 = 2
      · rw [if_pos c2]; rfl
      · rw [if_neg c2, if_pos (by omega)]; rfl
    have hi : intL (textL s.f3) = (s.f3, 0) := by rw [int_text, if_pos (by omega)]
    rw [ht, hi]
    have hb : ¬ (s.f3 < -16777216 ∨ s.f3 > 16777216) := by omega
    simp only [if_true, if_neg hb]
theorem print_parse10 {t : ByteArray} (h : (parseS t).2 = 0) : printS (parseS t).1 = t := by
  have hpc : ∀ p ∈ splitI 46 (bytesOf t), bytesOf (strOfNums p) = p := fun p hp => by_str _ fun x hx => by_rng t x ((split_le 46 _ p hp).2 x hx)
  unfold parseS parseL at h ⊢
  by_cases c0 : (piecesS t).length = 3
  case neg => rw [if_neg c0] at h; exact absurd h (by decide)
  rw [if_pos c0] at h ⊢
  unfold piecesS at c0 h ⊢
  rw [List.length_map] at c0
  rcases hs : splitI 46 (bytesOf t) with _ | ⟨A, _ | ⟨B, _ | ⟨C, _ | ⟨X, r⟩⟩⟩⟩
  case cons.cons.cons.nil =>
    rw [hs] at h hpc
    have hA := hpc A (by simp)
    have hB := hpc B (by simp)
    have hC := hpc C (by simp)
    have hj := join3 hs
    simp only [List.map_cons, List.map_nil] at h ⊢
    have e0 : rdOf ByteArray.empty [strOfNums A, strOfNums B, strOfNums C] 0 = strOfNums A := rfl
    have e1 : rdOf ByteArray.empty [strOfNums A, strOfNums B, strOfNums C] 1 = strOfNums B := rfl
    have e2 : rdOf ByteArray.empty [strOfNums A, strOfNums B, strOfNums C] 2 = strOfNums C := rfl
    rw [e0, e1, e2] at h ⊢
    unfold parse3 at h ⊢
    by_cases c1 : okForm (strOfNums A) (strOfNums B) (strOfNums C)
    case neg => rw [if_neg c1] at h; exact absurd h (by decide)
    rw [if_pos c1] at h ⊢
    obtain ⟨f1, f2, f3, f4⟩ := c1
    rw [hB] at f3 h ⊢
    rw [hC] at f4 h ⊢
    rw [strOfNums_size] at f2
    by_cases c2 : (dayOf (numV 0 B)).2 = 0
    case neg => rw [if_neg c2] at h; exact absurd h (by decide)
    rw [if_pos c2] at h ⊢

    have hday : (0 ≤ (dayOf (numV 0 B)).1 ∧ (dayOf (numV 0 B)).1 ≤ 73048) ∧ dayL (dayOf (numV 0 B)).1 = B := by
      have hv : ¬ (numV 0 B / 10000 < 2000 ∨ numV 0 B / 10000 > 2199 ∨ numV 0 B % 100 < 1 ∨ numV 0 B % 100 > daysV (numV 0 B / 10000) (numV 0 B / 100 % 100)) := by
        intro hb
        unfold dayOf ofV at c2
        rw [if_pos hb] at c2
        exact absurd c2 (by decide)
      have hsp := split_of (y := numV 0 B / 10000) (m := numV 0 B / 100 % 100) (d := numV 0 B % 100) (by omega) (by omega) (by omega) (by omega)
      refine ⟨hsp.1, ?_⟩
      have hsp2 : splitV (dayOf (numV 0 B)).1 = (numV 0 B / 10000, numV 0 B / 100 % 100, numV 0 B % 100, 0) := hsp.2.1
      rw [dayL_eq, hsp2]
      have hall := List.all_eq_true.1 f3
      clear hsp hsp2 hv c2 h hj hpc hs
      rcases B with _ | ⟨a, _ | ⟨b, _ | ⟨c, _ | ⟨d, _ | ⟨e, _ | ⟨f, _ | ⟨g, _ | ⟨k, _ | ⟨i, r⟩⟩⟩⟩⟩⟩⟩⟩⟩
      case cons.cons.cons.cons.cons.cons.cons.cons.nil =>
        have ha := dig_rng (hall a (by simp)); have hb := dig_rng (hall b (by simp)); have hc := dig_rng (hall c (by simp)); have hd' := dig_rng (hall d (by simp))
        have he := dig_rng (hall e (by simp)); have hf := dig_rng (hall f (by simp)); have hg := dig_rng (hall g (by simp)); have hh := dig_rng (hall k (by simp))
        simp only [numV, List.foldl_cons, List.foldl_nil, List.cons.injEq, and_true]
        refine ⟨?_, ?_, ?_, ?_, ?_, ?_, ?_, ?_⟩ <;> omega
      all_goals (simp at f2)
    obtain ⟨hd1, hd2⟩ := hday
    generalize (dayOf (numV 0 B)).1 = day at *
    apply by_inj
    by_cases c3 : kindI C = 1
    · rw [if_pos c3]
      have hC1 : C = [102] := by
        unfold kindI at c3
        by_cases x : C = [102]
        · exact x
        · rw [if_neg x] at c3
          split at c3
          · exact absurd c3 (by decide)
          · split at c3 <;> exact absurd c3 (by decide)
      have hok : okPrint ⟨strOfNums A, 1, day, 0⟩ := ⟨by show (1 : Int) ≤ 1; decide, by show (1 : Int) ≤ 3; decide, hd1⟩
      rw [print_by hok, hj, hA, hd2, hC1]
      rfl
    · rw [if_neg c3] at h ⊢
      by_cases c4 : (intL C.tail).2 = 0
      case neg => rw [if_neg c4] at h; exact absurd h c4
      rw [if_pos c4] at h ⊢
      by_cases c5 : (intL C.tail).1 < -16777216 ∨ (intL C.tail).1 > 16777216
      · rw [if_pos c5] at h; exact absurd h (by decide)
      rw [if_neg c5]
      have ht := (text_int c4).1
      have hok : okPrint ⟨strOfNums A, kindI C, day, (intL C.tail).1⟩ := by
        refine ⟨?_, ?_, hd1⟩
        · show 1 ≤ kindI C
          have := kind_cases C
          omega
        · show kindI C ≤ 3
          have := kind_cases C
          omega
      rw [print_by hok, hj, hA, hd2]
      have hlast : lastL ⟨strOfNums A, kindI C, day, (intL C.tail).1⟩ = C := by
        unfold lastL
        show (if kindI C = 2 then 99 :: textL (intL C.tail).1 else if kindI C = 3 then 112 :: textL (intL C.tail).1 else [102]) = C
        rw [ht]
        unfold kindI at c3 f4 ⊢
        by_cases x : C = [102]
        · rw [if_pos x] at c3; exact absurd rfl c3
        rw [if_neg x] at c3 f4 ⊢
        cases C with
        | nil => exact absurd rfl f4
        | cons z T =>
          simp only [List.head?_cons, Option.some.injEq, List.tail_cons] at *
          by_cases x1 : z = 99
          · rw [if_pos x1, if_pos rfl, x1]
          · rw [if_neg x1] at f4 ⊢
            by_cases x2 : z = 112
            · rw [if_pos x2, if_neg (by decide), if_pos rfl, x2]
            · rw [if_neg x2] at f4; exact absurd rfl f4
      rw [hlast]
  all_goals (rw [hs] at c0; simp at c0)
end Go.Proofs.YtieifncibojciaaDoor.P
end
section
namespace Go.Proofs.YtieifncibojciaaDoor.P
open Go.RowKit Go.Proofs.YtieifncibojciaaDoorW.PrintWords Go.Proofs.YtieifncibojciaaDoorW.PrintMore Go.Proofs.YtieifncibojciaaDoor.X
set_option maxRecDepth 100000 in
theorem goes10 : Ev (fun k => contangolaw10_goes.f k) true := Ev.of (k := 60) (contangolaw10_goes.mono) (by decide +kernel)
end Go.Proofs.YtieifncibojciaaDoor.P
end
section
namespace Go.Proofs.YtieifncibojciaaDoor.Pure
set_option linter.unusedVariables false
set_option linter.unusedSimpArgs false
open Go.RowKit Go.Proofs.YtieifncibojciaaDoorW.PrintWords Go.Proofs.YtieifncibojciaaDoorW.PrintMore Go.Proofs.YtieifncibojciaaDoor.X Go.Proofs.YtieifncibojciaaDoor.P
theorem parse_rng (t : ByteArray) : (parseS t).1.f0.size ≤ t.size ∧ I64 (parseS t).1.f3 := by
  have hz : zS.f0.size ≤ t.size ∧ I64 zS.f3 := ⟨Nat.zero_le _, by show (-9223372036854775808 : Int) ≤ 0 ∧ (0 : Int) ≤ 9223372036854775807; omega⟩
  unfold parseS parseL
  by_cases c0 : (piecesS t).length = 3
  case neg => rw [if_neg c0]; exact hz
  rw [if_pos c0]
  have h0 : (rdOf ByteArray.empty (piecesS t) 0).size ≤ t.size := by
    have e : rdOf ByteArray.empty (piecesS t) 0 = (piecesS t)[0]'(by omega) := rdOf_nat _ _ 0 _
    rw [e]; exact pieces_sz (List.getElem_mem _)
  generalize rdOf ByteArray.empty (piecesS t) 0 = a at *
  generalize rdOf ByteArray.empty (piecesS t) 1 = b at *
  generalize rdOf ByteArray.empty (piecesS t) 2 = c at *
  unfold parse3
  by_cases c1 : okForm a b c
  case neg => rw [if_neg c1]; exact hz
  rw [if_pos c1]
  by_cases c2 : (dayOf (numV 0 (bytesOf b))).2 = 0
  case neg => rw [if_neg c2]; exact hz
  rw [if_pos c2]
  by_cases c3 : kindI (bytesOf c) = 1
  · rw [if_pos c3]; exact ⟨h0, hz.2⟩
  rw [if_neg c3]
  by_cases c4 : (intL (bytesOf c).tail).2 = 0
  case neg => rw [if_neg c4]; exact hz
  rw [if_pos c4]
  by_cases c5 : (intL (bytesOf c).tail).1 < -16777216 ∨ (intL (bytesOf c).tail).1 > 16777216
  · rw [if_pos c5]; exact hz
  rw [if_neg c5]
  refine ⟨h0, ?_⟩
  show (-9223372036854775808 : Int) ≤ (intL (bytesOf c).tail).1 ∧ (intL (bytesOf c).tail).1 ≤ 9223372036854775807
  omega
theorem back_j2 (s : S23) (h0 : s.f0.size ≤ 300) (h3 : I64 s.f3) (b : Bool) (hb : b = true ↔ okPrint s) : Ev (fun k => contangolaw10_SeriesBack.j2 k (printS s) b s.f0 s.f1 s.f2 s.f3) true := by
  have hne : okPrint s → ((printS s).toList == ([] : List UInt8)) = false := by
    intro h
    rw [beq_eq_false_iff_ne]
    intro e
    have := (by_emp _).1 e
    rw [print_by h] at this
    simp at this
  refine Ev_succ ?_
  have j4 : ∀ c, (c = false → okPrint s ∧ nameB s.f0 = true ∧ (-16777216 ≤ s.f3 ∧ s.f3 ≤ 16777216) ∧ (s.f1 = 1 → s.f3 = 0)) → Ev (fun k => contangolaw10_SeriesBack.j4 k (printS s) c s.f0 s.f1 s.f2 s.f3) true := by
    intro c hc
    refine Ev_succ ?_
    cases c with
    | true => simp only [contangolaw10_SeriesBack.j4, if_true]; exact Ev_id goes10
    | false =>
      obtain ⟨a1, a2, a3, a4⟩ := hc rfl
      simp only [contangolaw10_SeriesBack.j4, Bool.false_eq_true, if_false]
      have hsz : (printS s).size ≤ 4294967280 := by
        rw [← by_len, print_by a1]
        have hl : (lastL s).length ≤ 22 := by
          have zt := textS_size s.f3 h3.1 h3.2
          rw [← by_len, textS_by] at zt
          unfold lastL
          split
          · simp only [List.length_cons]; omega
          · split
            · simp only [List.length_cons]; omega
            · simp
        have hd : (dayL s.f2).length = 8 := rfl
        simp only [List.length_append, List.length_cons, by_len, hd]
        omega
      refine Ev_bind (parse_f10 (printS s) hsz) ?_
      rw [parse_print10 a1 a2 a3 a4]
      have e : ((tS (s, 0)).1.toList == s.f0.toList && ((tS (s, 0)).2.1 == s.f1 && ((tS (s, 0)).2.2.1 == s.f2 && ((tS (s, 0)).2.2.2.1 == s.f3)))) = true := by
        show (s.f0.toList == s.f0.toList && (s.f1 == s.f1 && (s.f2 == s.f2 && (s.f3 == s.f3)))) = true
        simp
      simp only [if_pos e, if_pos (show (tS (s, 0)).2.2.2.2 = 0 from rfl)]
      exact Ev_id goes10
  cases b with
  | true =>
    have hok := hb.1 rfl
    simp only [contangolaw10_SeriesBack.j2, if_true, hne hok]
    refine Ev_succ ?_
    simp only [contangolaw10_SeriesBack.j3, show ((false : Bool) == true) = false from rfl, Bool.false_eq_true, if_false]
    refine Ev_bind (nameR_f s.f0 (by omega)) ?_
    by_cases c1 : nameB s.f0 = true
    case neg => simp only [if_neg c1]; exact j4 true fun h => by cases h
    simp only [if_pos c1]
    by_cases c2 : s.f3 < -16777216
    · simp only [if_pos c2]; exact j4 true fun h => by cases h
    by_cases c3 : s.f3 > 16777216
    · simp only [if_neg c2, if_pos c3]; exact j4 true fun h => by cases h
    simp only [if_neg c2, if_neg c3]
    by_cases c4 : s.f1 = 1
    · simp only [if_pos c4]
      refine j4 _ fun h => ⟨hok, c1, ⟨by omega, by omega⟩, fun _ => ?_⟩
      rwa [bne_eq_false_iff_eq] at h
    · simp only [if_neg c4]
      exact j4 false fun _ => ⟨hok, c1, ⟨by omega, by omega⟩, fun h => absurd h c4⟩
  | false =>
    have hno : ¬ okPrint s := fun h => by have := hb.2 h; cases this
    have he : (printS s).toList = [] := by rw [by_emp]; unfold printS; rw [if_neg hno]; rfl
    simp only [contangolaw10_SeriesBack.j2, Bool.false_eq_true, if_false]
    refine Ev_succ ?_
    simp only [contangolaw10_SeriesBack.j3, if_true, Bool.false_eq_true, if_false, if_pos he]
    exact Ev_id goes10
theorem SeriesBack : ∀ (x0 : S23) (a1 : ByteArray), ok23 x0 → a1.size ≤ 140737488351232 → ∃ k, X.contangolaw10_SeriesBack.f k x0.f0 x0.f1 x0.f2 x0.f3 a1 = some true := by
  intro s t h0 h1
  obtain ⟨o0, o1, o2, o3⟩ := h0
  refine Ev.rounds ?_
  unfold contangolaw10_SeriesBack.f
  have easy : Ev (fun k => contangolaw10_SeriesBack.j0 k t true s.f0 s.f1 s.f2 s.f3) true := Ev_succ (by simp only [contangolaw10_SeriesBack.j0, if_true]; exact Ev_id goes10)
  by_cases c1 : (t.size : Int) > 300
  · simp only [if_pos c1]; exact easy
  simp only [if_neg c1]
  by_cases c2 : (s.f0.size : Int) > 300
  · simp only [decide_eq_true c2]; exact easy
  simp only [decide_eq_false c2]
  have j1 : Ev (fun k => contangolaw10_SeriesBack.j1 k false s.f0 s.f1 s.f2 s.f3) true := by
    refine Ev_succ ?_
    simp only [contangolaw10_SeriesBack.j1, Bool.false_eq_true, if_false]
    refine Ev_bind (print_f10 s o0 (wf_rng o3)) ?_
    have no : ¬ okPrint s → Ev (fun k => contangolaw10_SeriesBack.j2 k (printS s) false s.f0 s.f1 s.f2 s.f3) true := fun h => back_j2 s (by omega) (wf_rng o3) false ⟨fun x => (by cases x), fun x => absurd x h⟩
    by_cases d1 : s.f1 ≥ 1
    case neg => simp only [if_neg d1]; exact no fun h => d1 h.1
    by_cases d2 : s.f1 ≤ 3
    case neg => simp only [if_pos d1, if_neg d2]; exact no fun h => d2 h.2.1
    by_cases d3 : s.f2 ≥ 0
    case neg => simp only [if_pos d1, if_pos d2, if_neg d3]; exact no fun h => d3 h.2.2.1
    simp only [if_pos d1, if_pos d2, if_pos d3]
    refine back_j2 s (by omega) (wf_rng o3) _ ?_
    rw [decide_eq_true_iff]
    exact ⟨fun h => ⟨d1, d2, d3, h⟩, fun h => h.2.2.2⟩
  refine Ev_succ ?_
  simp only [contangolaw10_SeriesBack.j0, Bool.false_eq_true, if_false]
  refine Ev_bind (parse_f10 t (by omega)) ?_
  have hr := parse_rng t
  by_cases c3 : (parseS t).2 = 0
  · simp only [if_pos (show (tS (parseS t)).2.2.2.2 = 0 from c3)]
    refine Ev_bind (print_f10 (parseS t).1 (by omega) hr.2) ?_
    have e : ((printS (parseS t).1).toList != t.toList) = false := by rw [print_parse10 c3]; simp
    simp only [e]
    exact j1
  · simp only [if_neg (show ¬ (tS (parseS t)).2.2.2.2 = 0 from c3)]
    exact j1
end Go.Proofs.YtieifncibojciaaDoor.Pure
end
