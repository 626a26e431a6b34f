/- For SeriesOnce: contracts, and facts on lists and numbers, that it uses (part 4). -/
import Derived.ChangeArms
import Derived.Deep.Slices
import Derived.Laws.BitsLemmas
import Derived.Laws.Strings
import Derived.Lib.Bytealg
import Derived.OpenShut
import Derived.SizedLaws
import Derived.Test.YtieifncibojciaaDoorSeriesOncec3
import Derived.WideShapes
section
namespace Go.Proofs.YtieifncibojciaaDoor.X
open Go.RowKit Go.Proofs.YtieifncibojciaaDoorW.PrintWords Go.Proofs.YtieifncibojciaaDoorW.PrintLast Go.Proofs.YtieifncibojciaaDoorW.PrintMore
attribute [local go_sem] max2_int min2_int max_two min_two max_three min_three max_four min_four
set_option linter.unusedVariables false
set_option linter.unusedSimpArgs false
attribute [local go_sem high] eqA23
mutual
def contangolaw10_SeriesOnce.l0 : Nat → List (S23) → List (S23) → Int → Int → Option (Bool)
  | 0, _, _, _, _ => none
  | k + 1, x0, x3, x17, x18 => if x18 < x17 then (if 0 ≤ x18 then (if x18 < (x3.length : Int) then ((series_Place.f x0 ((rd_T23 x3 x18).f0) ((rd_T23 x3 x18).f1) ((rd_T23 x3 x18).f2) ((rd_T23 x3 x18).f3)).bind fun bt107 => (if bt107.2 = true then (if x18 > 0 then (if 0 ≤ (wrap64 (x18 - 1)) then (if (wrap64 (x18 - 1)) < (x3.length : Int) then ((series_Compare.f ((rd_T23 x3 (wrap64 (x18 - 1))).f0) ((rd_T23 x3 (wrap64 (x18 - 1))).f1) ((rd_T23 x3 (wrap64 (x18 - 1))).f2) ((rd_T23 x3 (wrap64 (x18 - 1))).f3) ((rd_T23 x3 x18).f0) ((rd_T23 x3 x18).f1) ((rd_T23 x3 x18).f2) ((rd_T23 x3 x18).f3)).bind fun t111 => (if t111 = (-1) then (contangolaw10_SeriesOnce.l0 k x0 x3 x17 (wrap64 (x18 + 1))) else (none))) else (none)) else (none)) else (contangolaw10_SeriesOnce.l0 k x0 x3 x17 (wrap64 (x18 + 1)))) else (none))) else (none)) else (none)) else (contangolaw10_SeriesOnce.l1 k x0 x3 (x0.length : Int) 0)
def contangolaw10_SeriesOnce.l1 : Nat → List (S23) → List (S23) → Int → Int → Option (Bool)
  | 0, _, _, _, _ => none
  | k + 1, x0, x3, x51, x52 => if x52 < x51 then (if 0 ≤ x52 then (if x52 < (x0.length : Int) then ((series_Place.f x3 ((rd_T23 x0 x52).f0) ((rd_T23 x0 x52).f1) ((rd_T23 x0 x52).f2) ((rd_T23 x0 x52).f3)).bind fun bt113 => (if bt113.2 = true then (if bt113.1 < 0 then (none) else (if bt113.1 ≥ (x3.length : Int) then (none) else (if 0 ≤ bt113.1 then (if bt113.1 < (x3.length : Int) then (if (!((((rd_T23 x3 bt113.1).f0).toList) == (((rd_T23 x0 x52).f0).toList)) || (!(((rd_T23 x3 bt113.1).f1) == ((rd_T23 x0 x52).f1)) || (!(((rd_T23 x3 bt113.1).f2) == ((rd_T23 x0 x52).f2)) || (!(((rd_T23 x3 bt113.1).f3) == ((rd_T23 x0 x52).f3)))))) = true then (none) else (contangolaw10_SeriesOnce.l1 k x0 x3 x51 (wrap64 (x52 + 1)))) else (none)) else (none)))) else (none))) else (none)) else (none)) else ((series_Sort.f k x3).bind fun t117 => ((contangoref10_Same.f k t117 x3).bind fun t120 => (if t120 = true then ((contangolaw10_goes.f k).bind fun t121 => (some t121)) else (none))))
end
def contangolaw10_SeriesOnce.f (k : Nat) (l0 : List (S23)) : Option (Bool) := (contangolaw10_few.f l0).bind fun t101 => (if t101 = true then ((series_Sort.f k l0).bind fun t103 => (contangolaw10_SeriesOnce.l0 k l0 t103 (t103.length : Int) 0)) else ((contangolaw10_goes.f k).bind fun t102 => (some t102)))
def contangolaw10_SeriesOnce.T8 : Bool × List (List Nat × List Nat) := (true, [([], []), ([0], [0]), ([1], [1]), ([2], [2]), ([3, 2], [2, 3]), ([4, 2, 2], [2, 4]), ([5], [5]), ([5], [5]), ([7, 5], [5, 7]), ([6, 8, 5], [5, 6, 8]), ([9, 5], [5, 9]), ([5], [5]), ([5], [5]), ([11, 12, 5], [5, 11, 12]), ([13, 5], [5, 13]), ([10, 14, 5, 5], [5, 10, 14]), ([15, 5], [5, 15]), ([5, 16, 2], [2, 5, 16]), ([2, 17], [2, 17])])
def contangolaw10_SeriesOnce.B8 : List Nat := [0, 1, 3, 7, 15, 31, 63, 63, 191, 511, 1023, 63, 63, 6207, 14399, 32767, 65535, 131071, 262143]
theorem contangolaw10_SeriesOnce.tab8 : rtab .any (opsOf Tryd.f6 8) = contangolaw10_SeriesOnce.T8 := by kernel_rfl
theorem contangolaw10_SeriesOnce.bits8 : waitsOk contangolaw10_SeriesOnce.T8.2 contangolaw10_SeriesOnce.B8 = true := by kernel_rfl
def contangolaw10_SeriesOnce.T15 : Bool × List (List Nat × List Nat) := (true, [([], []), ([0], [0]), ([1], [1]), ([2], [2]), ([3, 2], [2, 3]), ([2, 4], [2, 4]), ([5, 2], [5]), ([6], [6]), ([6], [6]), ([8, 6], [6, 8]), ([7, 9, 6], [6, 7, 9]), ([6, 10], [6, 10]), ([11, 6], [11]), ([12], [12]), ([12], [12]), ([13, 14, 12], [12, 13, 14]), ([15, 12], [12, 15]), ([12], [12]), ([12], [12]), ([17, 18, 12], [12, 17, 18]), ([19, 12], [12, 19]), ([16, 20, 12], [12, 16, 20]), ([12, 21], [12, 21])])
def contangolaw10_SeriesOnce.B15 : List Nat := [0, 1, 3, 7, 15, 31, 63, 127, 127, 383, 1023, 2047, 4095, 8191, 8191, 32767, 65535, 8191, 8191, 401407, 925695, 2097151, 4194303]
theorem contangolaw10_SeriesOnce.tab15 : rtab .any (opsOf Tryd.f6 15) = contangolaw10_SeriesOnce.T15 := by kernel_rfl
theorem contangolaw10_SeriesOnce.bits15 : waitsOk contangolaw10_SeriesOnce.T15.2 contangolaw10_SeriesOnce.B15 = true := by kernel_rfl
set_option maxHeartbeats 8000000 in
set_option maxRecDepth 100000 in
theorem contangolaw10_SeriesOnce.calls (k : Nat) (A0 : Option Addr) (c0 : Nat) (l0 : List (S23)) (r : Bool) (w : World) (hr0 : Kd.C k23 w A0 l0.length l0) (hc0 : l0.length ≤ c0) (h : contangolaw10_SeriesOnce.f k l0 = some r) (hGL : GlobD w) :
    Calls Tryd.prog 6 #[.slice A0 l0.length c0] w fun e w' => e = .returned (.bool r) ∧ Below w.heap.size w w' := by
  have hu23 := Tryd.underlying23
  have HR0 := Aside0.mk hr0
  have HC0 := Aside0.mk hc0
  clear hr0 hc0
  have HB := Aside0.mk (Below.refl w.heap.size w)
  have HGL := Aside0.mk hGL
  clear hGL
  have H : ((contangolaw10_few.f l0).bind fun t101 => (if t101 = true then ((series_Sort.f k l0).bind fun t103 => (contangolaw10_SeriesOnce.l0 k l0 t103 (t103.length : Int) 0)) else ((contangolaw10_goes.f k).bind fun t102 => (some t102)))) = some r := h
  clear h
  replace H := Option.bind_eq_some_iff.mp H
  obtain ⟨t101, A20, H⟩ := H
  replace H : (if t101 = true then ((series_Sort.f k l0).bind fun t103 => (contangolaw10_SeriesOnce.l0 k l0 t103 (t103.length : Int) 0)) else ((contangolaw10_goes.f k).bind fun t102 => (some t102))) = some r := H
  have A2 := Aside0.mk A20
  clear A20
  by_cases c3 : t101 = true
  · subst c3
    have H1 : ((series_Sort.f k l0).bind fun t103 => (contangolaw10_SeriesOnce.l0 k l0 t103 (t103.length : Int) 0)) = some r := by rw [if_pos rfl] at H; exact H
    clear H
    have H := H1
    clear H1
    replace H := Option.bind_eq_some_iff.mp H
    obtain ⟨t103, A40, H⟩ := H
    replace H : (contangolaw10_SeriesOnce.l0 k l0 t103 (t103.length : Int) 0) = some r := H
    have A4 := Aside0.mk A40
    clear A40
    have H' := Aside0.mk H
    clear H
    go_enter Tryd.func6, Tryd.ntmps6
    go_wp2_with (first | ((with_reducible refine gate_callee (f := 21) rfl ?_); refine goesL_ (some 11) rfl rfl Tryd.func21 (by kernel_rfl) rfl #[.slice A0 l0.length c0] rfl (by (try simp only [List.map_toArray, List.map_cons, List.map_nil]); first | done | rfl | (simp only [List.length_drop, List.length_take]; rfl)) ?_; (with_reducible refine (contangolaw10_few.calls _ _ l0 true _ ?side1 ?side2 A2.out).mono ?_); (case side1 => repeat (first | exact HR0.out | (with_reducible refine Kd.C_alloc ?_ _) | (with_reducible refine Kd.C_drewN ?_ _) | (with_reducible refine Kd.C_drew ?_))); (case side2 => exact HC0.out); rintro e w' ⟨rfl, ⟨nd, rfl⟩⟩; refine ⟨_, rfl, ?_⟩) | ((with_reducible refine gate_callee (f := 22) rfl ?_); refine goesL_ (some 15) rfl rfl Tryd.func22 (by kernel_rfl) rfl #[.slice A0 l0.length c0] rfl (by (try simp only [List.map_toArray, List.map_cons, List.map_nil]); first | done | rfl | (simp only [List.length_drop, List.length_take]; rfl)) ?_; (with_reducible refine (series_Sort.calls k _ _ l0 t103 _ ?side1 ?side2 A4.out).mono ?_); (case side1 => repeat (first | exact HR0.out | (with_reducible refine Kd.C_alloc ?_ _) | (with_reducible refine Kd.C_drewN ?_ _) | (with_reducible refine Kd.C_drew ?_))); (case side2 => exact HC0.out); rintro e w5 ⟨v104, rfl, ho0, hb⟩; refine ⟨_, rfl, ?_⟩; have n0_ := Aside0.mk (Kd.R_lower ho0 (below_size (by repeat (first | (with_reducible first | exact HB.out | apply below_alloc | apply pw_below_drewN | apply below_drew1) | exact HB.out)))); have n1_ := Aside0.mk (below_step (by repeat (first | (with_reducible first | exact HB.out | apply below_alloc | apply pw_below_drewN | apply below_drew1) | exact HB.out)) hb); clear HB; have HO105 := n0_; have HB := n1_; clear n0_ n1_; (try clear hb); (try clear hb2); (try clear hk); (try clear hi); (try clear ho0); obtain ⟨Ao6, co6, eo6⟩ := Kd.R_slice HO105.out; subst eo6))
    go_loopg [18] k (fun kq v18 w' => ∃ (x18_1 : Int), v18 = .int .i64 x18_1 ∧ Aside0 (contangolaw10_SeriesOnce.l0 kq l0 t103 (t103.length : Int) x18_1 = some r) ∧ Aside0 (kq ≤ k) ∧ Aside0 (Kd.R k23 23 w' w.heap.size (fun _ => True) (.slice Ao6 t103.length co6) t103) ∧ Aside0 (Below w.heap.size w w'))
    case atStart => exact ⟨(0), (by first | rfl | (simp; done) | (simp [*]; done)), H', ⟨Nat.le_refl _⟩, ⟨by (with_reducible repeat (first | apply Kd.R_alloc | apply Kd.R_drewN | apply Kd.R_drew)); exact HO105.out⟩, ⟨by repeat (first | (with_reducible first | exact HB.out | apply below_alloc | apply pw_below_drewN | apply below_drew1) | exact HB.out)⟩⟩
    case round =>
      clear H'
      try clear c2
      try clear p2
      try clear c3
      try clear c6
      obtain ⟨x18_1, rfl, HA, HK1, HO_3, HB⟩ := hrel
      cases gk with
      | zero => exact absurd HA.out (by simp [contangolaw10_SeriesOnce.l0])
      | succ k1 =>
        have H := HA.out
        clear HA
        simp only [contangolaw10_SeriesOnce.l0] at H
        by_cases c7 : x18_1 < (t103.length : Int)
        · rw [if_pos c7] at H
          have c7b0 : decide (x18_1 < (t103.length : Int)) = true := decide_eq_true c7
          clear c7
          by_cases c8 : 0 ≤ x18_1
          · rw [if_pos c8] at H
            have c8b0 : decide (0 ≤ x18_1) = true := decide_eq_true c8
            clear c8
            by_cases c9 : x18_1 < (t103.length : Int)
            · rw [if_pos c9] at H
              have c9b0 : decide (x18_1 < (t103.length : Int)) = true := decide_eq_true c9
              clear c9
              replace H := Option.bind_eq_some_iff.mp H
              obtain ⟨⟨t107, t108⟩, A100, H⟩ := H
              replace H : (if t108 = true then (if x18_1 > 0 then (if 0 ≤ (wrap64 (x18_1 - 1)) then (if (wrap64 (x18_1 - 1)) < (t103.length : Int) then ((series_Compare.f ((rd_T23 t103 (wrap64 (x18_1 - 1))).f0) ((rd_T23 t103 (wrap64 (x18_1 - 1))).f1) ((rd_T23 t103 (wrap64 (x18_1 - 1))).f2) ((rd_T23 t103 (wrap64 (x18_1 - 1))).f3) ((rd_T23 t103 x18_1).f0) ((rd_T23 t103 x18_1).f1) ((rd_T23 t103 x18_1).f2) ((rd_T23 t103 x18_1).f3)).bind fun t111 => (if t111 = (-1) then (contangolaw10_SeriesOnce.l0 k1 l0 t103 (t103.length : Int) (wrap64 (x18_1 + 1))) else (none))) else (none)) else (none)) else (contangolaw10_SeriesOnce.l0 k1 l0 t103 (t103.length : Int) (wrap64 (x18_1 + 1)))) else (none)) = some r := H
              have A10 := Aside0.mk A100
              clear A100
              by_cases c11 : t108 = true
              · subst c11
                have H1 : (if x18_1 > 0 then (if 0 ≤ (wrap64 (x18_1 - 1)) then (if (wrap64 (x18_1 - 1)) < (t103.length : Int) then ((series_Compare.f ((rd_T23 t103 (wrap64 (x18_1 - 1))).f0) ((rd_T23 t103 (wrap64 (x18_1 - 1))).f1) ((rd_T23 t103 (wrap64 (x18_1 - 1))).f2) ((rd_T23 t103 (wrap64 (x18_1 - 1))).f3) ((rd_T23 t103 x18_1).f0) ((rd_T23 t103 x18_1).f1) ((rd_T23 t103 x18_1).f2) ((rd_T23 t103 x18_1).f3)).bind fun t111 => (if t111 = (-1) then (contangolaw10_SeriesOnce.l0 k1 l0 t103 (t103.length : Int) (wrap64 (x18_1 + 1))) else (none))) else (none)) else (none)) else (contangolaw10_SeriesOnce.l0 k1 l0 t103 (t103.length : Int) (wrap64 (x18_1 + 1)))) = some r := by rw [if_pos rfl] at H; exact H
                clear H
                have H := H1
                clear H1
                by_cases c12 : x18_1 > 0
                · rw [if_pos c12] at H
                  have c12b0 : decide (0 < x18_1) = true := decide_eq_true c12
                  clear c12
                  obtain ⟨ji13, hji13⟩ : ∃ j_ : Int, (wrap64 (x18_1 - 1)) = j_ := ⟨_, rfl⟩
                  replace H : (if 0 ≤ (ji13) then (if (ji13) < (t103.length : Int) then ((series_Compare.f ((rd_T23 t103 (ji13)).f0) ((rd_T23 t103 (ji13)).f1) ((rd_T23 t103 (ji13)).f2) ((rd_T23 t103 (ji13)).f3) ((rd_T23 t103 x18_1).f0) ((rd_T23 t103 x18_1).f1) ((rd_T23 t103 x18_1).f2) ((rd_T23 t103 x18_1).f3)).bind fun t111 => (if t111 = (-1) then (contangolaw10_SeriesOnce.l0 k1 l0 t103 (t103.length : Int) (wrap64 (x18_1 + 1))) else (none))) else (none)) else (none)) = some r := by first | (rw [hji13] at H; exact H) | (simp only [hji13] at H ⊢; exact H)
                  (try rw [hji13] at A10)
                  have hji13w : (IntKind.i64.wrap (x18_1 - 1)) = ji13 := (i64_w _).trans hji13
                  by_cases c14 : 0 ≤ (ji13)
                  · rw [if_pos c14] at H
                    have c14b0 : decide (0 ≤ (ji13)) = true := decide_eq_true c14
                    clear c14
                    by_cases c15 : (ji13) < (t103.length : Int)
                    · rw [if_pos c15] at H
                      have c15b0 : decide ((ji13) < (t103.length : Int)) = true := decide_eq_true c15
                      clear c15
                      replace H := Option.bind_eq_some_iff.mp H
                      obtain ⟨t111, A160, H⟩ := H
                      replace H : (if t111 = (-1) then (contangolaw10_SeriesOnce.l0 k1 l0 t103 (t103.length : Int) (wrap64 (x18_1 + 1))) else (none)) = some r := H
                      have A16 := Aside0.mk A160
                      clear A160
                      by_cases c17 : t111 = (-1)
                      · rw [if_pos c17] at H
                        have c17b0 : (t111 == (-1)) = true := beq_iff_eq.mpr c17
                        have c17b1 : (t111 != (-1)) = false := bne_eq_false_iff_eq.mpr c17
                        clear c17
                        have H' := Aside0.mk H
                        clear H
                        have p106 : 0 ≤ (x18_1 : Int) := of_decide_eq_true (by first | (with_reducible assumption) | assumption)
                        have q106 : x18_1 < (t103.length : Int) := of_decide_eq_true (by first | (with_reducible assumption) | assumption)
                        obtain ⟨ad106, e106, hx106_0, hx106_1, hx106_2, hx106_3⟩ := at_T23 (Kd.R_reads' HO_3.out).2.2 x18_1 p106 q106
                        cases e106
                        replace p106 := eq_true p106
                        replace q106 := eq_true q106
                        try go_wp2_with (first | ((with_reducible refine gate_callee (f := 23) rfl ?_); refine goesL_ (some 27) rfl rfl Tryd.func23 (by kernel_rfl) rfl #[.slice A0 l0.length c0, .agg #[.string ((rd_T23 t103 x18_1).f0), .int .i64 ((rd_T23 t103 x18_1).f1), .int .i64 ((rd_T23 t103 x18_1).f2), .int .i64 ((rd_T23 t103 x18_1).f3)]] rfl (by (try simp only [List.map_toArray, List.map_cons, List.map_nil]); first | done | rfl | (simp only [List.length_drop, List.length_take]; rfl)) ?_; (with_reducible refine (series_Place.calls _ _ l0 ((rd_T23 t103 x18_1).f0) ((rd_T23 t103 x18_1).f1) ((rd_T23 t103 x18_1).f2) ((rd_T23 t103 x18_1).f3) t107 true _ ?side1 ?side2 A10.out).mono ?_); (case side1 => repeat (first | exact (Kd.C_below HR0.out HB.out) | (with_reducible refine Kd.C_alloc ?_ _) | (with_reducible refine Kd.C_drewN ?_ _) | (with_reducible refine Kd.C_drew ?_))); (case side2 => exact HC0.out); rintro e w18 ⟨rfl, hb⟩; refine ⟨_, rfl, ?_⟩; have n0_ := Aside0.mk (Kd.R_below (by (with_reducible repeat (first | apply Kd.R_alloc | apply Kd.R_drewN | apply Kd.R_drew)); exact HO_3.out) hb); have n1_ := Aside0.mk (below_step (by repeat (first | (with_reducible first | exact HB.out | apply below_alloc | apply pw_below_drewN | apply below_drew1) | exact HB.out)) hb); clear HO_3; clear HB; have HO_3 := n0_; have HB := n1_; clear n0_ n1_; (try clear hb); (try clear hb2); (try clear hk); (try clear hi)))
                        have n0_ := Aside0.mk (Kd.R_drew HO_3.out)
                        have n1_ := Aside0.mk (below_drew1 HB.out)
                        clear HO_3
                        clear HB
                        have HO_3 := n0_
                        have HB := n1_
                        clear n0_ n1_
                        have p109 : 0 ≤ ((ji13) : Int) := of_decide_eq_true (by first | (with_reducible assumption) | assumption)
                        have q109 : (ji13) < (t103.length : Int) := of_decide_eq_true (by first | (with_reducible assumption) | assumption)
                        obtain ⟨ad109, e109, hx109_0, hx109_1, hx109_2, hx109_3⟩ := at_T23 (Kd.R_reads' HO_3.out).2.2 (ji13) p109 q109
                        obtain rfl : ad106 = ad109 := (by injection e109)
                        replace p109 := eq_true p109
                        replace q109 := eq_true q109
                        have p110 : 0 ≤ (x18_1 : Int) := of_decide_eq_true (by first | (with_reducible assumption) | assumption)
                        have q110 : x18_1 < (t103.length : Int) := of_decide_eq_true (by first | (with_reducible assumption) | assumption)
                        obtain ⟨ad110, e110, hx110_0, hx110_1, hx110_2, hx110_3⟩ := at_T23 (Kd.R_reads' HO_3.out).2.2 x18_1 p110 q110
                        obtain rfl : ad106 = ad110 := (by injection e110)
                        replace p110 := eq_true p110
                        replace q110 := eq_true q110
                        refine start_ (n := 19) (S := fun w' => w'.cell? (ad106.add (((ji13)).toNat * 4)) = some (.string ((rd_T23 t103 (ji13)).f0)) ∧ w'.cell? ⟨(ad106.add (((ji13)).toNat * 4)).block, (ad106.add (((ji13)).toNat * 4)).off + 1, none⟩ = some (.int .i64 ((rd_T23 t103 (ji13)).f1)) ∧ w'.cell? ⟨(ad106.add (((ji13)).toNat * 4)).block, (ad106.add (((ji13)).toNat * 4)).off + 2, none⟩ = some (.int .i64 ((rd_T23 t103 (ji13)).f2)) ∧ w'.cell? ⟨(ad106.add (((ji13)).toNat * 4)).block, (ad106.add (((ji13)).toNat * 4)).off + 3, none⟩ = some (.int .i64 ((rd_T23 t103 (ji13)).f3)) ∧ w'.cell? (ad106.add ((x18_1).toNat * 4)) = some (.string ((rd_T23 t103 x18_1).f0)) ∧ w'.cell? ⟨(ad106.add ((x18_1).toNat * 4)).block, (ad106.add ((x18_1).toNat * 4)).off + 1, none⟩ = some (.int .i64 ((rd_T23 t103 x18_1).f1)) ∧ w'.cell? ⟨(ad106.add ((x18_1).toNat * 4)).block, (ad106.add ((x18_1).toNat * 4)).off + 2, none⟩ = some (.int .i64 ((rd_T23 t103 x18_1).f2)) ∧ w'.cell? ⟨(ad106.add ((x18_1).toNat * 4)).block, (ad106.add ((x18_1).toNat * 4)).off + 3, none⟩ = some (.int .i64 ((rd_T23 t103 x18_1).f3))) (ds := []) #[false, false, false, false, false, false, false, false, false, false, false, false, false, false, false, false, false, false, false] (by kernel_rfl) rfl rfl ⟨hx109_0, hx109_1, hx109_2, hx109_3, hx110_0, hx110_1, hx110_2, hx110_3⟩ (fun hHeld => ?_); refine with_tabW contangolaw10_SeriesOnce.tab8 contangolaw10_SeriesOnce.bits8 (fun HT_ HW_ => ?_)
                        generalize w18.drew = w19 at HO_3 HB hx109_0 hx109_1 hx109_2 hx109_3 hx110_0 hx110_1 hx110_2 hx110_3 hHeld ⊢
                        refine pure_ (i := 0) (N := some 30) (v := ?_) (a' := ?_) #[true, false, false, false, false, false, false, false, false, false, false, false, false, false, false, false, false, false, false] rfl rfl (any_of HT_.out (by kernel_rfl)) (fun _ _ _ h => h) (Or.inl ⟨by rfl, ?_⟩) ?_ ?_
                        rotate_left
                        · intro w'
                          go_simp
                          with_reducible rfl
                        rotate_left
                        · simp only [Act.put, List.setIfInBounds_toArray, List.set_cons_zero, List.set_cons_succ, i64_w, i32_w]
                          rfl
                        refine pure_ (i := 1) (N := some 31) (v := ?_) (a' := ?_) #[true, true, false, false, false, false, false, false, false, false, false, false, false, false, false, false, false, false, false] rfl rfl (any_of HT_.out (by kernel_rfl)) (fun _ _ _ h => h) (Or.inl ⟨by rfl, ?_⟩) ?_ ?_
                        rotate_left
                        · intro w'
                          go_simp
                          with_reducible rfl
                        rotate_left
                        · simp only [Act.put, List.setIfInBounds_toArray, List.set_cons_zero, List.set_cons_succ, i64_w, i32_w]
                          rfl
                        refine pure_ (i := 2) (N := some 32) (v := ?_) (a' := ?_) #[true, true, true, false, false, false, false, false, false, false, false, false, false, false, false, false, false, false, false] rfl rfl (any_of HT_.out (by kernel_rfl)) (fun _ _ _ h => h) (Or.inl ⟨by rfl, ?_⟩) ?_ ?_
                        rotate_left
                        · intro w'
                          go_simp
                          with_reducible rfl
                        rotate_left
                        · simp only [Act.put, List.setIfInBounds_toArray, List.set_cons_zero, List.set_cons_succ, i64_w, i32_w]
                          rfl
                        refine pure_ (i := 3) (N := some 33) (v := ?_) (a' := ?_) #[true, true, true, true, false, false, false, false, false, false, false, false, false, false, false, false, false, false, false] rfl rfl (any_of HT_.out (by kernel_rfl)) (fun _ _ _ h => h) (Or.inl ⟨by rfl, ?_⟩) ?_ ?_
                        rotate_left
                        · intro w'
                          go_simp
                          with_reducible rfl
                        rotate_left
                        · simp only [Act.put, List.setIfInBounds_toArray, List.set_cons_zero, List.set_cons_succ, i64_w, i32_w]
                          rfl
                        refine pure_ (i := 4) (N := some 34) (v := ?_) (a' := ?_) #[true, true, true, true, true, false, false, false, false, false, false, false, false, false, false, false, false, false, false] rfl rfl (any_of HT_.out (by kernel_rfl)) (fun _ _ _ h => h) (Or.inl ⟨by rfl, ?_⟩) ?_ ?_
                        rotate_left
                        · intro w'
                          go_simp
                          with_reducible rfl
                        rotate_left
                        · simp only [Act.put, List.setIfInBounds_toArray, List.set_cons_zero, List.set_cons_succ, i64_w, i32_w]
                          rfl
                        refine pure_ (i := 5) (N := some 35) (v := ?_) (a' := ?_) #[true, true, true, true, true, true, false, false, false, false, false, false, false, false, false, false, false, false, false] rfl rfl (any_of HT_.out (by kernel_rfl)) (fun _ _ _ h => h) (Or.inl ⟨by rfl, ?_⟩) ?_ ?_
                        rotate_left
                        · intro w'
                          go_simp
                          with_reducible rfl
                        rotate_left
                        · simp only [Act.put, List.setIfInBounds_toArray, List.set_cons_zero, List.set_cons_succ, i64_w, i32_w]
                          rfl
                        refine pure_ (i := 6) (N := some 36) (v := ?_) (a' := ?_) #[true, true, true, true, true, true, true, false, false, false, false, false, false, false, false, false, false, false, false] rfl rfl (any_of HT_.out (by kernel_rfl)) (fun _ _ _ h => h) (Or.inl ⟨by rfl, ?_⟩) ?_ ?_
                        rotate_left
                        · intro w'
                          go_simp
                          with_reducible rfl
                        rotate_left
                        · simp only [Act.put, List.setIfInBounds_toArray, List.set_cons_zero, List.set_cons_succ, i64_w, i32_w]
                          rfl
                        refine pure_ (i := 7) (N := some 37) (v := ?_) (a' := ?_) #[true, true, true, true, true, true, true, true, false, false, false, false, false, false, false, false, false, false, false] rfl rfl (any_of HT_.out (by kernel_rfl)) (fun _ _ _ h => h) (Or.inl ⟨by rfl, ?_⟩) ?_ ?_
                        rotate_left
                        · intro w'
                          go_simp
                          with_reducible rfl
                        rotate_left
                        · simp only [Act.put, List.setIfInBounds_toArray, List.set_cons_zero, List.set_cons_succ, i64_w, i32_w]
                          rfl
                        refine pure_ (i := 8) (N := some 38) (v := ?_) (a' := ?_) #[true, true, true, true, true, true, true, true, true, false, false, false, false, false, false, false, false, false, false] rfl rfl (any_of HT_.out (by kernel_rfl)) (fun _ _ _ h => h) (Or.inl ⟨by rfl, ?_⟩) ?_ ?_
                        rotate_left
                        · intro w'
                          go_simp
                          with_reducible rfl
                        rotate_left
                        · simp only [Act.put, List.setIfInBounds_toArray, List.set_cons_zero, List.set_cons_succ, i64_w, i32_w]
                          rfl
                        refine pure_ (i := 9) (N := some 39) (v := ?_) (a' := ?_) #[true, true, true, true, true, true, true, true, true, true, false, false, false, false, false, false, false, false, false] rfl rfl (any_of HT_.out (by kernel_rfl)) (fun _ _ _ h => h) (Or.inl ⟨by rfl, ?_⟩) ?_ ?_
                        rotate_left
                        · intro w'
                          go_simp
                          with_reducible rfl
                        rotate_left
                        · simp only [Act.put, List.setIfInBounds_toArray, List.set_cons_zero, List.set_cons_succ, i64_w, i32_w]
                          rfl
                        refine pure_ (i := 11) (N := some 41) (v := ?_) (a' := ?_) #[true, true, true, true, true, true, true, true, true, true, false, true, false, false, false, false, false, false, false] rfl rfl (any_of HT_.out (by kernel_rfl)) (fun _ _ _ h => h) (Or.inl ⟨by rfl, ?_⟩) ?_ ?_
                        rotate_left
                        · intro w'
                          go_simp
                          with_reducible rfl
                        rotate_left
                        · simp only [Act.put, List.setIfInBounds_toArray, List.set_cons_zero, List.set_cons_succ, i64_w, i32_w]
                          rfl
                        refine pure_ (i := 12) (N := some 42) (v := ?_) (a' := ?_) #[true, true, true, true, true, true, true, true, true, true, false, true, true, false, false, false, false, false, false] rfl rfl (any_of HT_.out (by kernel_rfl)) (fun _ _ _ h => h) (Or.inl ⟨by rfl, ?_⟩) ?_ ?_
                        rotate_left
                        · intro w'
                          go_simp
                          with_reducible rfl
                        rotate_left
                        · simp only [Act.put, List.setIfInBounds_toArray, List.set_cons_zero, List.set_cons_succ, i64_w, i32_w]
                          rfl
                        refine pure_ (i := 13) (N := some 43) (v := ?_) (a' := ?_) #[true, true, true, true, true, true, true, true, true, true, false, true, true, true, false, false, false, false, false] rfl rfl (any_of HT_.out (by kernel_rfl)) (fun _ _ _ h => h) (Or.inl ⟨by rfl, ?_⟩) ?_ ?_
                        rotate_left
                        · intro w'
                          go_simp
                          with_reducible rfl
                        rotate_left
                        · simp only [Act.put, List.setIfInBounds_toArray, List.set_cons_zero, List.set_cons_succ, i64_w, i32_w]
                          rfl
                        refine take_ (i := 10) (N := some 40) (v := ?_) (a' := ?_) #[true, true, true, true, true, true, true, true, true, true, true, true, true, true, false, false, false, false, false] rfl rfl (take_ofW HT_.out HW_.out (by kernel_rfl)) (fun _ _ _ h => h) (Or.inl ⟨by rfl, ?_⟩) hHeld ?_ ?_
                        rotate_left
                        · rintro w' ⟨s0, s1, s2, s3, s4, s5, s6, s7⟩
                          go_simp
                          with_reducible rfl
                        rotate_left
                        · simp only [Act.put, List.setIfInBounds_toArray, List.set_cons_zero, List.set_cons_succ, i64_w, i32_w]
                          rfl
                        refine take_ (i := 14) (N := some 44) (v := ?_) (a' := ?_) #[true, true, true, true, true, true, true, true, true, true, true, true, true, true, true, false, false, false, false] rfl rfl (take_ofW HT_.out HW_.out (by kernel_rfl)) (fun _ _ _ h => h) (Or.inl ⟨by rfl, ?_⟩) hHeld ?_ ?_
                        rotate_left
                        · rintro w' ⟨s0, s1, s2, s3, s4, s5, s6, s7⟩
                          go_simp
                          with_reducible rfl
                        rotate_left
                        · simp only [Act.put, List.setIfInBounds_toArray, List.set_cons_zero, List.set_cons_succ, i64_w, i32_w]
                          rfl
                        refine one_ (i := 15) (N := some 45) #[true, true, true, true, true, true, true, true, true, true, true, true, true, true, true, true, false, false, false] rfl rfl (one_of HT_.out (by kernel_rfl)) (by decide) (fun K hK => ?_)
                        refine goes_ Tryd.func20 (by kernel_rfl) rfl #[.agg #[.string ((rd_T23 t103 (ji13)).f0), .int .i64 ((rd_T23 t103 (ji13)).f1), .int .i64 ((rd_T23 t103 (ji13)).f2), .int .i64 ((rd_T23 t103 (ji13)).f3)], .agg #[.string ((rd_T23 t103 x18_1).f0), .int .i64 ((rd_T23 t103 x18_1).f1), .int .i64 ((rd_T23 t103 x18_1).f2), .int .i64 ((rd_T23 t103 x18_1).f3)]] (by rfl) rfl rfl (by (try simp only [List.map_toArray, List.map_cons, List.map_nil]); first | done | (simp only [hji13]; rfl) | rfl | (simp only [List.length_drop, List.length_take]; rfl)) ?_
                        with_reducible refine (series_Compare.calls ((rd_T23 t103 (ji13)).f0) ((rd_T23 t103 (ji13)).f1) ((rd_T23 t103 (ji13)).f2) ((rd_T23 t103 (ji13)).f3) ((rd_T23 t103 x18_1).f0) ((rd_T23 t103 x18_1).f1) ((rd_T23 t103 x18_1).f2) ((rd_T23 t103 x18_1).f3) t111 _ A16.out).mono ?_
                        rintro e w20 ⟨rfl, hb⟩
                        have HS0_ := (hb.cell (World.block_lt_of_cell? _ _ (hHeld.1))).trans (hHeld.1)
                        have HS1_ := (hb.cell (World.block_lt_of_cell? _ _ (hHeld.2.1))).trans (hHeld.2.1)
                        have HS2_ := (hb.cell (World.block_lt_of_cell? _ _ (hHeld.2.2.1))).trans (hHeld.2.2.1)
                        have HS3_ := (hb.cell (World.block_lt_of_cell? _ _ (hHeld.2.2.2.1))).trans (hHeld.2.2.2.1)
                        have HS4_ := (hb.cell (World.block_lt_of_cell? _ _ (hHeld.2.2.2.2.1))).trans (hHeld.2.2.2.2.1)
                        have HS5_ := (hb.cell (World.block_lt_of_cell? _ _ (hHeld.2.2.2.2.2.1))).trans (hHeld.2.2.2.2.2.1)
                        have HS6_ := (hb.cell (World.block_lt_of_cell? _ _ (hHeld.2.2.2.2.2.2.1))).trans (hHeld.2.2.2.2.2.2.1)
                        have HS7_ := (hb.cell (World.block_lt_of_cell? _ _ (hHeld.2.2.2.2.2.2.2))).trans (hHeld.2.2.2.2.2.2.2)
                        refine ⟨_, rfl, ?_⟩
                        have n0_ := Aside0.mk (Kd.R_below (by (with_reducible repeat (first | apply Kd.R_alloc | apply Kd.R_drewN | apply Kd.R_drew)); exact HO_3.out) hb)
                        have n1_ := Aside0.mk (below_step (by repeat (first | (with_reducible first | exact HB.out | apply below_alloc | apply pw_below_drewN | apply below_drew1) | exact HB.out)) hb)
                        clear HO_3
                        clear HB
                        have HO_3 := n0_
                        have HB := n1_
                        clear n0_ n1_
                        (try clear hb)
                        (try clear hb2)
                        (try clear hk)
                        (try clear hi)
                        refine hK.out _ _ ⟨HS0_, HS1_, HS2_, HS3_, HS4_, HS5_, HS6_, HS7_⟩ (fun hHeld => ?_)
                        clear hK K
                        refine norm_ (a' := ?_) ?_ ?_
                        rotate_left
                        · show Act.put _ (some 45) _ = _
                          simp only [Act.put, List.setIfInBounds_toArray, List.set_cons_zero, List.set_cons_succ, i64_w, i32_w]
                          rfl
                        refine pure_ (i := 16) (N := some 46) (v := ?_) (a' := ?_) #[true, true, true, true, true, true, true, true, true, true, true, true, true, true, true, true, true, false, false] rfl rfl (any_of HT_.out (by kernel_rfl)) (fun _ _ _ h => h) (Or.inl ⟨by rfl, ?_⟩) ?_ ?_
                        rotate_left
                        · intro w'
                          go_simp
                          with_reducible rfl
                        rotate_left
                        · simp only [Act.put, List.setIfInBounds_toArray, List.set_cons_zero, List.set_cons_succ, i64_w, i32_w]
                          rfl
                        refine pure_ (i := 17) (N := some 47) (v := ?_) (a' := ?_) #[true, true, true, true, true, true, true, true, true, true, true, true, true, true, true, true, true, true, false] rfl rfl (any_of HT_.out (by kernel_rfl)) (fun _ _ _ h => h) (Or.inl ⟨by rfl, ?_⟩) ?_ ?_
                        rotate_left
                        · intro w'
                          go_simp
                          with_reducible rfl
                        rotate_left
                        · simp only [Act.put, List.setIfInBounds_toArray, List.set_cons_zero, List.set_cons_succ, i64_w, i32_w]
                          rfl
                        refine pure_ (i := 18) (N := some 48) (v := ?_) (a' := ?_) #[true, true, true, true, true, true, true, true, true, true, true, true, true, true, true, true, true, true, true] rfl rfl (any_of HT_.out (by kernel_rfl)) (fun _ _ _ h => h) (Or.inl ⟨by rfl, ?_⟩) ?_ ?_
                        rotate_left
                        · intro w'
                          go_simp
                          with_reducible rfl
                        rotate_left
                        · simp only [Act.put, List.setIfInBounds_toArray, List.set_cons_zero, List.set_cons_succ, i64_w, i32_w]
                          rfl
                        refine done_ (done_of HT_.out (by kernel_rfl)) ?_
                        try go_wp2
                        go_roundg k1
                        case measure => have := HK1.out; omega
                        case rel => exact ⟨(wrap64 (x18_1 + 1)), (by first | rfl | (simp; done) | (simp [*]; done)), H', ⟨by have := HK1.out; omega⟩, ⟨by (with_reducible repeat (first | apply Kd.R_alloc | apply Kd.R_drewN | apply Kd.R_drew)); exact HO_3.out⟩, ⟨by repeat (first | (with_reducible first | exact HB.out | apply below_alloc | apply pw_below_drewN | apply below_drew1) | exact HB.out)⟩⟩
                      · rw [if_neg c17] at H
                        exact absurd H (by simp)
                    · rw [if_neg c15] at H
                      exact absurd H (by simp)
                  · rw [if_neg c14] at H
                    exact absurd H (by simp)
                · rw [if_neg c12] at H
                  have c12b0 : decide (0 < x18_1) = false := decide_eq_false c12
                  clear c12
                  have H' := Aside0.mk H
                  clear H
                  have p106 : 0 ≤ (x18_1 : Int) := of_decide_eq_true (by first | (with_reducible assumption) | assumption)
                  have q106 : x18_1 < (t103.length : Int) := of_decide_eq_true (by first | (with_reducible assumption) | assumption)
                  obtain ⟨ad106, e106, hx106_0, hx106_1, hx106_2, hx106_3⟩ := at_T23 (Kd.R_reads' HO_3.out).2.2 x18_1 p106 q106
                  cases e106
                  replace p106 := eq_true p106
                  replace q106 := eq_true q106
                  try go_wp2_with (first | ((with_reducible refine gate_callee (f := 23) rfl ?_); refine goesL_ (some 27) rfl rfl Tryd.func23 (by kernel_rfl) rfl #[.slice A0 l0.length c0, .agg #[.string ((rd_T23 t103 x18_1).f0), .int .i64 ((rd_T23 t103 x18_1).f1), .int .i64 ((rd_T23 t103 x18_1).f2), .int .i64 ((rd_T23 t103 x18_1).f3)]] rfl (by (try simp only [List.map_toArray, List.map_cons, List.map_nil]); first | done | rfl | (simp only [List.length_drop, List.length_take]; rfl)) ?_; (with_reducible refine (series_Place.calls _ _ l0 ((rd_T23 t103 x18_1).f0) ((rd_T23 t103 x18_1).f1) ((rd_T23 t103 x18_1).f2) ((rd_T23 t103 x18_1).f3) t107 true _ ?side1 ?side2 A10.out).mono ?_); (case side1 => repeat (first | exact (Kd.C_below HR0.out HB.out) | (with_reducible refine Kd.C_alloc ?_ _) | (with_reducible refine Kd.C_drewN ?_ _) | (with_reducible refine Kd.C_drew ?_))); (case side2 => exact HC0.out); rintro e w21 ⟨rfl, hb⟩; refine ⟨_, rfl, ?_⟩; have n0_ := Aside0.mk (Kd.R_below (by (with_reducible repeat (first | apply Kd.R_alloc | apply Kd.R_drewN | apply Kd.R_drew)); exact HO_3.out) hb); have n1_ := Aside0.mk (below_step (by repeat (first | (with_reducible first | exact HB.out | apply below_alloc | apply pw_below_drewN | apply below_drew1) | exact HB.out)) hb); clear HO_3; clear HB; have HO_3 := n0_; have HB := n1_; clear n0_ n1_; (try clear hb); (try clear hb2); (try clear hk); (try clear hi)))
                  have n0_ := Aside0.mk (Kd.R_drew HO_3.out)
                  have n1_ := Aside0.mk (below_drew1 HB.out)
                  clear HO_3
                  clear HB
                  have HO_3 := n0_
                  have HB := n1_
                  clear n0_ n1_
                  refine start_ (n := 19) (S := fun w' => True) (ds := []) #[false, false, false, false, false, false, false, false, false, false, false, false, false, false, false, false, false, false, false] (by kernel_rfl) rfl rfl trivial (fun hHeld => ?_); refine with_tabW contangolaw10_SeriesOnce.tab8 contangolaw10_SeriesOnce.bits8 (fun HT_ HW_ => ?_)
                  generalize w21.drew = w22 at HO_3 HB hHeld ⊢
                  refine pure_ (i := 0) (N := some 30) (v := ?_) (a' := ?_) #[true, false, false, false, false, false, false, false, false, false, false, false, false, false, false, false, false, false, false] rfl rfl (any_of HT_.out (by kernel_rfl)) (fun _ _ _ h => h) (Or.inl ⟨by rfl, ?_⟩) ?_ ?_
                  rotate_left
                  · intro w'
                    go_simp
                    with_reducible rfl
                  rotate_left
                  · simp only [Act.put, List.setIfInBounds_toArray, List.set_cons_zero, List.set_cons_succ, i64_w, i32_w]
                    rfl
                  refine pure_ (i := 1) (N := some 31) (v := ?_) (a' := ?_) #[true, true, false, false, false, false, false, false, false, false, false, false, false, false, false, false, false, false, false] rfl rfl (any_of HT_.out (by kernel_rfl)) (fun _ _ _ h => h) (Or.inl ⟨by rfl, ?_⟩) ?_ ?_
                  rotate_left
                  · intro w'
                    go_simp
                    with_reducible rfl
                  rotate_left
                  · simp only [Act.put, List.setIfInBounds_toArray, List.set_cons_zero, List.set_cons_succ, i64_w, i32_w]
                    rfl
                  refine pure_ (i := 2) (N := some 32) (v := ?_) (a' := ?_) #[true, true, true, false, false, false, false, false, false, false, false, false, false, false, false, false, false, false, false] rfl rfl (any_of HT_.out (by kernel_rfl)) (fun _ _ _ h => h) (Or.inl ⟨by rfl, ?_⟩) ?_ ?_
                  rotate_left
                  · intro w'
                    go_simp
                    with_reducible rfl
                  rotate_left
                  · simp only [Act.put, List.setIfInBounds_toArray, List.set_cons_zero, List.set_cons_succ, i64_w, i32_w]
                    rfl
                  refine pure_ (i := 3) (N := some 33) (v := ?_) (a' := ?_) #[true, true, true, true, false, false, false, false, false, false, false, false, false, false, false, false, false, false, false] rfl rfl (any_of HT_.out (by kernel_rfl)) (fun _ _ _ h => h) (Or.inl ⟨by rfl, ?_⟩) ?_ ?_
                  rotate_left
                  · intro w'
                    go_simp
                    with_reducible rfl
                  rotate_left
                  · simp only [Act.put, List.setIfInBounds_toArray, List.set_cons_zero, List.set_cons_succ, i64_w, i32_w]
                    rfl
                  refine pure_ (i := 4) (N := some 34) (v := ?_) (a' := ?_) #[true, true, true, true, true, false, false, false, false, false, false, false, false, false, false, false, false, false, false] rfl rfl (any_of HT_.out (by kernel_rfl)) (fun _ _ _ h => h) (Or.inl ⟨by rfl, ?_⟩) ?_ ?_
                  rotate_left
                  · intro w'
                    go_simp
                    with_reducible rfl
                  rotate_left
                  · simp only [Act.put, List.setIfInBounds_toArray, List.set_cons_zero, List.set_cons_succ, i64_w, i32_w]
                    rfl
                  refine pure_ (i := 5) (N := some 35) (v := ?_) (a' := ?_) #[true, true, true, true, true, true, false, false, false, false, false, false, false, false, false, false, false, false, false] rfl rfl (any_of HT_.out (by kernel_rfl)) (fun _ _ _ h => h) (Or.inl ⟨by rfl, ?_⟩) ?_ ?_
                  rotate_left
                  · intro w'
                    go_simp
                    with_reducible rfl
                  rotate_left
                  · simp only [Act.put, List.setIfInBounds_toArray, List.set_cons_zero, List.set_cons_succ, i64_w, i32_w]
                    rfl
                  refine pure_ (i := 6) (N := some 36) (v := undef) (a' := ?_) #[true, true, true, true, true, true, true, false, false, false, false, false, false, false, false, false, false, false, false] rfl rfl (any_of HT_.out (by kernel_rfl)) (fun _ _ _ h => h) (Or.inr ⟨by rfl, rfl⟩) ?_ ?_
                  rotate_left
                  · simp only [Act.put, List.setIfInBounds_toArray, List.set_cons_zero, List.set_cons_succ, i64_w, i32_w]
                    rfl
                  refine pure_ (i := 7) (N := some 37) (v := undef) (a' := ?_) #[true, true, true, true, true, true, true, true, false, false, false, false, false, false, false, false, false, false, false] rfl rfl (any_of HT_.out (by kernel_rfl)) (fun _ _ _ h => h) (Or.inr ⟨by rfl, rfl⟩) ?_ ?_
                  rotate_left
                  · simp only [Act.put, List.setIfInBounds_toArray, List.set_cons_zero, List.set_cons_succ, i64_w, i32_w]
                    rfl
                  refine pure_ (i := 8) (N := some 38) (v := undef) (a' := ?_) #[true, true, true, true, true, true, true, true, true, false, false, false, false, false, false, false, false, false, false] rfl rfl (any_of HT_.out (by kernel_rfl)) (fun _ _ _ h => h) (Or.inr ⟨by rfl, rfl⟩) ?_ ?_
                  rotate_left
                  · simp only [Act.put, List.setIfInBounds_toArray, List.set_cons_zero, List.set_cons_succ, i64_w, i32_w]
                    rfl
                  refine pure_ (i := 9) (N := some 39) (v := undef) (a' := ?_) #[true, true, true, true, true, true, true, true, true, true, false, false, false, false, false, false, false, false, false] rfl rfl (any_of HT_.out (by kernel_rfl)) (fun _ _ _ h => h) (Or.inr ⟨by rfl, rfl⟩) ?_ ?_
                  rotate_left
                  · simp only [Act.put, List.setIfInBounds_toArray, List.set_cons_zero, List.set_cons_succ, i64_w, i32_w]
                    rfl
                  refine pure_ (i := 10) (N := some 40) (v := undef) (a' := ?_) #[true, true, true, true, true, true, true, true, true, true, true, false, false, false, false, false, false, false, false] rfl rfl (any_of HT_.out (by kernel_rfl)) (fun _ _ _ h => h) (Or.inr ⟨by rfl, rfl⟩) ?_ ?_
                  rotate_left
                  · simp only [Act.put, List.setIfInBounds_toArray, List.set_cons_zero, List.set_cons_succ, i64_w, i32_w]
                    rfl
                  refine pure_ (i := 11) (N := some 41) (v := undef) (a' := ?_) #[true, true, true, true, true, true, true, true, true, true, true, true, false, false, false, false, false, false, false] rfl rfl (any_of HT_.out (by kernel_rfl)) (fun _ _ _ h => h) (Or.inr ⟨by rfl, rfl⟩) ?_ ?_
                  rotate_left
                  · simp only [Act.put, List.setIfInBounds_toArray, List.set_cons_zero, List.set_cons_succ, i64_w, i32_w]
                    rfl
                  refine pure_ (i := 12) (N := some 42) (v := undef) (a' := ?_) #[true, true, true, true, true, true, true, true, true, true, true, true, true, false, false, false, false, false, false] rfl rfl (any_of HT_.out (by kernel_rfl)) (fun _ _ _ h => h) (Or.inr ⟨by rfl, rfl⟩) ?_ ?_
                  rotate_left
                  · simp only [Act.put, List.setIfInBounds_toArray, List.set_cons_zero, List.set_cons_succ, i64_w, i32_w]
                    rfl
                  refine pure_ (i := 13) (N := some 43) (v := undef) (a' := ?_) #[true, true, true, true, true, true, true, true, true, true, true, true, true, true, false, false, false, false, false] rfl rfl (any_of HT_.out (by kernel_rfl)) (fun _ _ _ h => h) (Or.inr ⟨by rfl, rfl⟩) ?_ ?_
                  rotate_left
                  · simp only [Act.put, List.setIfInBounds_toArray, List.set_cons_zero, List.set_cons_succ, i64_w, i32_w]
                    rfl
                  refine pure_ (i := 14) (N := some 44) (v := undef) (a' := ?_) #[true, true, true, true, true, true, true, true, true, true, true, true, true, true, true, false, false, false, false] rfl rfl (any_of HT_.out (by kernel_rfl)) (fun _ _ _ h => h) (Or.inr ⟨by rfl, rfl⟩) ?_ ?_
                  rotate_left
                  · simp only [Act.put, List.setIfInBounds_toArray, List.set_cons_zero, List.set_cons_succ, i64_w, i32_w]
                    rfl
                  refine pure_ (i := 15) (N := some 45) (v := undef) (a' := ?_) #[true, true, true, true, true, true, true, true, true, true, true, true, true, true, true, true, false, false, false] rfl rfl (any_of HT_.out (by kernel_rfl)) (fun _ _ _ h => h) (Or.inr ⟨by rfl, rfl⟩) ?_ ?_
                  rotate_left
                  · simp only [Act.put, List.setIfInBounds_toArray, List.set_cons_zero, List.set_cons_succ, i64_w, i32_w]
                    rfl
                  refine pure_ (i := 16) (N := some 46) (v := undef) (a' := ?_) #[true, true, true, true, true, true, true, true, true, true, true, true, true, true, true, true, true, false, false] rfl rfl (any_of HT_.out (by kernel_rfl)) (fun _ _ _ h => h) (Or.inr ⟨by rfl, rfl⟩) ?_ ?_
                  rotate_left
                  · simp only [Act.put, List.setIfInBounds_toArray, List.set_cons_zero, List.set_cons_succ, i64_w, i32_w]
                    rfl
                  refine pure_ (i := 17) (N := some 47) (v := ?_) (a' := ?_) #[true, true, true, true, true, true, true, true, true, true, true, true, true, true, true, true, true, true, false] rfl rfl (any_of HT_.out (by kernel_rfl)) (fun _ _ _ h => h) (Or.inl ⟨by rfl, ?_⟩) ?_ ?_
                  rotate_left
                  · intro w'
                    go_simp
                    with_reducible rfl
                  rotate_left
                  · simp only [Act.put, List.setIfInBounds_toArray, List.set_cons_zero, List.set_cons_succ, i64_w, i32_w]
                    rfl
                  refine pure_ (i := 18) (N := some 48) (v := ?_) (a' := ?_) #[true, true, true, true, true, true, true, true, true, true, true, true, true, true, true, true, true, true, true] rfl rfl (any_of HT_.out (by kernel_rfl)) (fun _ _ _ h => h) (Or.inl ⟨by rfl, ?_⟩) ?_ ?_
                  rotate_left
                  · intro w'
                    go_simp
                    with_reducible rfl
                  rotate_left
                  · simp only [Act.put, List.setIfInBounds_toArray, List.set_cons_zero, List.set_cons_succ, i64_w, i32_w]
                    rfl
                  refine done_ (done_of HT_.out (by kernel_rfl)) ?_
                  try go_wp2
                  go_roundg k1
                  case measure => have := HK1.out; omega
                  case rel => exact ⟨(wrap64 (x18_1 + 1)), (by first | rfl | (simp; done) | (simp [*]; done)), H', ⟨by have := HK1.out; omega⟩, ⟨by (with_reducible repeat (first | apply Kd.R_alloc | apply Kd.R_drewN | apply Kd.R_drew)); exact HO_3.out⟩, ⟨by repeat (first | (with_reducible first | exact HB.out | apply below_alloc | apply pw_below_drewN | apply below_drew1) | exact HB.out)⟩⟩
              · replace c11 := Bool.eq_false_iff.mpr c11
                subst c11
                have H1 : (none) = some r := by rw [if_neg (show ¬ (false = true) by decide)] at H; exact H
                clear H
                have H := H1
                clear H1
                exact absurd H (by simp)
            · rw [if_neg c9] at H
              exact absurd H (by simp)
          · rw [if_neg c8] at H
            exact absurd H (by simp)
        · rw [if_neg c7] at H
          have c7b0 : decide (x18_1 < (t103.length : Int)) = false := decide_eq_false c7
          clear c7
          have H' := Aside0.mk H
          clear H
          go_wp2
          go_loopg [52] k1 (fun kq v52 w' => ∃ (x52_2 : Int), v52 = .int .i64 x52_2 ∧ Aside0 (contangolaw10_SeriesOnce.l1 kq l0 t103 (l0.length : Int) x52_2 = some r) ∧ Aside0 (kq ≤ k1) ∧ Aside0 (Kd.R k23 23 w' w.heap.size (fun _ => True) (.slice Ao6 t103.length co6) t103) ∧ Aside0 (Below w.heap.size w w'))
          case atStart => exact ⟨(0), (by first | rfl | (simp; done) | (simp [*]; done)), H', ⟨Nat.le_refl _⟩, ⟨by (with_reducible repeat (first | apply Kd.R_alloc | apply Kd.R_drewN | apply Kd.R_drew)); exact HO_3.out⟩, ⟨by repeat (first | (with_reducible first | exact HB.out | apply below_alloc | apply pw_below_drewN | apply below_drew1) | exact HB.out)⟩⟩
          case round =>
            clear H'
            try clear c1
            try clear p1
            try clear q1
            try clear hx1
            try clear c2
            try clear p2
            try clear c3
            try clear c6
            try clear p6
            try clear c7
            try clear c7b0
            try clear c8
            try clear c8b0
            try clear c9
            try clear c9b0
            try clear p10
            try clear q10
            try clear hx10
            try clear c11
            try clear p11
            try clear q11
            try clear hx11
            try clear c12
            try clear c12b0
            try clear c14
            try clear c14b0
            try clear c15
            try clear c15b0
            try clear c17
            try clear c17b0
            try clear c17b1
            try clear c20
            try clear c21
            try clear c22
            try clear hx106_0
            try clear hx106_1
            try clear hx106_2
            try clear hx106_3
            try clear hx109_0
            try clear hx109_1
            try clear hx109_2
            try clear hx109_3
            try clear hx110_0
            try clear hx110_1
            try clear hx110_2
            try clear hx110_3
            try clear p106
            try clear p109
            try clear p110
            try clear p2
            try clear q106
            try clear q109
            try clear q110
            obtain ⟨x52_2, rfl, HA, HK2, HO_3, HB⟩ := hrel
            cases gk with
            | zero => exact absurd HA.out (by simp [contangolaw10_SeriesOnce.l1])
            | succ k2 =>
              have H := HA.out
              clear HA
              simp only [contangolaw10_SeriesOnce.l1] at H
              by_cases c23 : x52_2 < (l0.length : Int)
              · rw [if_pos c23] at H
                have c23b0 : decide (x52_2 < (l0.length : Int)) = true := decide_eq_true c23
                clear c23
                by_cases c24 : 0 ≤ x52_2
                · rw [if_pos c24] at H
                  have c24b0 : decide (0 ≤ x52_2) = true := decide_eq_true c24
                  clear c24
                  by_cases c25 : x52_2 < (l0.length : Int)
                  · rw [if_pos c25] at H
                    have c25b0 : decide (x52_2 < (l0.length : Int)) = true := decide_eq_true c25
                    clear c25
                    replace H := Option.bind_eq_some_iff.mp H
                    obtain ⟨⟨t113, t114⟩, A260, H⟩ := H
                    replace H : (if t114 = true then (if t113 < 0 then (none) else (if t113 ≥ (t103.length : Int) then (none) else (if 0 ≤ t113 then (if t113 < (t103.length : Int) then (if (!((((rd_T23 t103 t113).f0).toList) == (((rd_T23 l0 x52_2).f0).toList)) || (!(((rd_T23 t103 t113).f1) == ((rd_T23 l0 x52_2).f1)) || (!(((rd_T23 t103 t113).f2) == ((rd_T23 l0 x52_2).f2)) || (!(((rd_T23 t103 t113).f3) == ((rd_T23 l0 x52_2).f3)))))) = true then (none) else (contangolaw10_SeriesOnce.l1 k2 l0 t103 (l0.length : Int) (wrap64 (x52_2 + 1)))) else (none)) else (none)))) else (none)) = some r := H
                    have A26 := Aside0.mk A260
                    clear A260
                    by_cases c27 : t114 = true
                    · subst c27
                      have H1 : (if t113 < 0 then (none) else (if t113 ≥ (t103.length : Int) then (none) else (if 0 ≤ t113 then (if t113 < (t103.length : Int) then (if (!((((rd_T23 t103 t113).f0).toList) == (((rd_T23 l0 x52_2).f0).toList)) || (!(((rd_T23 t103 t113).f1) == ((rd_T23 l0 x52_2).f1)) || (!(((rd_T23 t103 t113).f2) == ((rd_T23 l0 x52_2).f2)) || (!(((rd_T23 t103 t113).f3) == ((rd_T23 l0 x52_2).f3)))))) = true then (none) else (contangolaw10_SeriesOnce.l1 k2 l0 t103 (l0.length : Int) (wrap64 (x52_2 + 1)))) else (none)) else (none)))) = some r := by rw [if_pos rfl] at H; exact H
                      clear H
                      have H := H1
                      clear H1
                      by_cases c28 : t113 < 0
                      · rw [if_pos c28] at H
                        have c28b0 : decide (t113 < 0) = true := decide_eq_true c28
                        clear c28
                        exact absurd H (by simp)
                      · rw [if_neg c28] at H
                        have c28b0 : decide (t113 < 0) = false := decide_eq_false c28
                        clear c28
                        by_cases c29 : t113 ≥ (t103.length : Int)
                        · rw [if_pos c29] at H
                          have c29b0 : decide ((t103.length : Int) ≤ t113) = true := decide_eq_true c29
                          clear c29
                          exact absurd H (by simp)
                        · rw [if_neg c29] at H
                          have c29b0 : decide ((t103.length : Int) ≤ t113) = false := decide_eq_false c29
                          clear c29
                          by_cases c30 : 0 ≤ t113
                          · rw [if_pos c30] at H
                            have c30b0 : decide (0 ≤ t113) = true := decide_eq_true c30
                            clear c30
                            by_cases c31 : t113 < (t103.length : Int)
                            · rw [if_pos c31] at H
                              have c31b0 : decide (t113 < (t103.length : Int)) = true := decide_eq_true c31
                              clear c31
                              by_cases c32 : (!((((rd_T23 t103 t113).f0).toList) == (((rd_T23 l0 x52_2).f0).toList)) || (!(((rd_T23 t103 t113).f1) == ((rd_T23 l0 x52_2).f1)) || (!(((rd_T23 t103 t113).f2) == ((rd_T23 l0 x52_2).f2)) || (!(((rd_T23 t103 t113).f3) == ((rd_T23 l0 x52_2).f3)))))) = true
                              · rw [if_pos c32] at H
                                exact absurd H (by simp)
                              · rw [if_neg c32] at H
                                have c32b0 : (!((((rd_T23 t103 t113).f0).toList) == (((rd_T23 l0 x52_2).f0).toList)) || (!(((rd_T23 t103 t113).f1) == ((rd_T23 l0 x52_2).f1)) || (!(((rd_T23 t103 t113).f2) == ((rd_T23 l0 x52_2).f2)) || (!(((rd_T23 t103 t113).f3) == ((rd_T23 l0 x52_2).f3)))))) = false := by simpa using c32
                                clear c32
                                have H' := Aside0.mk H
                                clear H
                                have p112 : 0 ≤ (x52_2 : Int) := of_decide_eq_true (by first | (with_reducible assumption) | assumption)
                                have q112 : x52_2 < (l0.length : Int) := of_decide_eq_true (by first | (with_reducible assumption) | assumption)
                                obtain ⟨ad112, e112, hx112_0, hx112_1, hx112_2, hx112_3⟩ := at_T23 HR0.out x52_2 p112 q112
                                cases e112
                                replace hx112_0 := (HB.out.cell (World.block_lt_of_cell? w _ hx112_0)).trans hx112_0
                                replace hx112_1 := (HB.out.cell (World.block_lt_of_cell? w _ hx112_1)).trans hx112_1
                                replace hx112_2 := (HB.out.cell (World.block_lt_of_cell? w _ hx112_2)).trans hx112_2
                                replace hx112_3 := (HB.out.cell (World.block_lt_of_cell? w _ hx112_3)).trans hx112_3
                                replace p112 := eq_true p112
                                replace q112 := eq_true q112
                                try go_wp2_with (first | ((with_reducible refine gate_callee (f := 23) rfl ?_); refine goesL_ (some 61) rfl rfl Tryd.func23 (by kernel_rfl) rfl #[.slice Ao6 t103.length co6, .agg #[.string ((rd_T23 l0 x52_2).f0), .int .i64 ((rd_T23 l0 x52_2).f1), .int .i64 ((rd_T23 l0 x52_2).f2), .int .i64 ((rd_T23 l0 x52_2).f3)]] rfl (by (try simp only [List.map_toArray, List.map_cons, List.map_nil]); first | done | rfl | (simp only [List.length_drop, List.length_take]; rfl)) ?_; (with_reducible refine (series_Place.calls _ _ t103 ((rd_T23 l0 x52_2).f0) ((rd_T23 l0 x52_2).f1) ((rd_T23 l0 x52_2).f2) ((rd_T23 l0 x52_2).f3) t113 true _ ?side1 ?side2 A26.out).mono ?_); (case side1 => repeat (first | exact (Kd.R_reads' HO_3.out).2.2 | (with_reducible refine Kd.C_alloc ?_ _) | (with_reducible refine Kd.C_drewN ?_ _) | (with_reducible refine Kd.C_drew ?_))); (case side2 => exact (Kd.R_reads' HO_3.out).2.1); rintro e w33 ⟨rfl, hb⟩; refine ⟨_, rfl, ?_⟩; have n0_ := Aside0.mk (Kd.R_below (by (with_reducible repeat (first | apply Kd.R_alloc | apply Kd.R_drewN | apply Kd.R_drew)); exact HO_3.out) hb); have n1_ := Aside0.mk (below_step (by repeat (first | (with_reducible first | exact HB.out | apply below_alloc | apply pw_below_drewN | apply below_drew1) | exact HB.out)) hb); clear HO_3; clear HB; have HO_3 := n0_; have HB := n1_; clear n0_ n1_; (try clear hb); (try clear hb2); (try clear hk); (try clear hi)))
                                have n0_ := Aside0.mk (Kd.R_drew HO_3.out)
                                have n1_ := Aside0.mk (below_drew1 HB.out)
                                clear HO_3
                                clear HB
                                have HO_3 := n0_
                                have HB := n1_
                                clear n0_ n1_
                                have p115 : 0 ≤ (t113 : Int) := of_decide_eq_true (by first | (with_reducible assumption) | assumption)
                                have q115 : t113 < (t103.length : Int) := of_decide_eq_true (by first | (with_reducible assumption) | assumption)
                                obtain ⟨ad115, e115, hx115_0, hx115_1, hx115_2, hx115_3⟩ := at_T23 (Kd.R_reads' HO_3.out).2.2 t113 p115 q115
                                cases e115
                                replace p115 := eq_true p115
                                replace q115 := eq_true q115
                                have p116 : 0 ≤ (x52_2 : Int) := of_decide_eq_true (by first | (with_reducible assumption) | assumption)
                                have q116 : x52_2 < (l0.length : Int) := of_decide_eq_true (by first | (with_reducible assumption) | assumption)
                                obtain ⟨ad116, e116, hx116_0, hx116_1, hx116_2, hx116_3⟩ := at_T23 HR0.out x52_2 p116 q116
                                have hw116_3 := hx116_3
                                have hw116_2 := hx116_2
                                have hw116_1 := hx116_1
                                have hw116_0 := hx116_0
                                obtain rfl : ad112 = ad116 := (by injection e116)
                                replace hx116_0 := (HB.out.cell (World.block_lt_of_cell? w _ hx116_0)).trans hx116_0
                                replace hx116_1 := (HB.out.cell (World.block_lt_of_cell? w _ hx116_1)).trans hx116_1
                                replace hx116_2 := (HB.out.cell (World.block_lt_of_cell? w _ hx116_2)).trans hx116_2
                                replace hx116_3 := (HB.out.cell (World.block_lt_of_cell? w _ hx116_3)).trans hx116_3
                                replace p116 := eq_true p116
                                replace q116 := eq_true q116
                                refine start_ (n := 23) (S := fun w' => w'.cell? (ad115.add ((t113).toNat * 4)) = some (.string ((rd_T23 t103 t113).f0)) ∧ w'.cell? ⟨(ad115.add ((t113).toNat * 4)).block, (ad115.add ((t113).toNat * 4)).off + 1, none⟩ = some (.int .i64 ((rd_T23 t103 t113).f1)) ∧ w'.cell? ⟨(ad115.add ((t113).toNat * 4)).block, (ad115.add ((t113).toNat * 4)).off + 2, none⟩ = some (.int .i64 ((rd_T23 t103 t113).f2)) ∧ w'.cell? ⟨(ad115.add ((t113).toNat * 4)).block, (ad115.add ((t113).toNat * 4)).off + 3, none⟩ = some (.int .i64 ((rd_T23 t103 t113).f3)) ∧ w'.cell? (ad112.add ((x52_2).toNat * 4)) = some (.string ((rd_T23 l0 x52_2).f0)) ∧ w'.cell? ⟨(ad112.add ((x52_2).toNat * 4)).block, (ad112.add ((x52_2).toNat * 4)).off + 1, none⟩ = some (.int .i64 ((rd_T23 l0 x52_2).f1)) ∧ w'.cell? ⟨(ad112.add ((x52_2).toNat * 4)).block, (ad112.add ((x52_2).toNat * 4)).off + 2, none⟩ = some (.int .i64 ((rd_T23 l0 x52_2).f2)) ∧ w'.cell? ⟨(ad112.add ((x52_2).toNat * 4)).block, (ad112.add ((x52_2).toNat * 4)).off + 3, none⟩ = some (.int .i64 ((rd_T23 l0 x52_2).f3))) (ds := []) #[false, false, false, false, false, false, false, false, false, false, false, false, false, false, false, false, false, false, false, false, false, false, false] (by kernel_rfl) rfl rfl ⟨hx115_0, hx115_1, hx115_2, hx115_3, ((HB.out.cell (World.block_lt_of_cell? w _ hw116_0)).trans hw116_0), ((HB.out.cell (World.block_lt_of_cell? w _ hw116_1)).trans hw116_1), ((HB.out.cell (World.block_lt_of_cell? w _ hw116_2)).trans hw116_2), ((HB.out.cell (World.block_lt_of_cell? w _ hw116_3)).trans hw116_3)⟩ (fun hHeld => ?_); refine with_tabW contangolaw10_SeriesOnce.tab15 contangolaw10_SeriesOnce.bits15 (fun HT_ HW_ => ?_)
                                generalize w33.drew = w34 at HO_3 HB hx115_0 hx115_1 hx115_2 hx115_3 hx116_0 hx116_1 hx116_2 hx116_3 hHeld ⊢
                                refine pure_ (i := 0) (N := some 64) (v := ?_) (a' := ?_) #[true, false, false, false, false, false, false, false, false, false, false, false, false, false, false, false, false, false, false, false, false, false, false] rfl rfl (any_of HT_.out (by kernel_rfl)) (fun _ _ _ h => h) (Or.inl ⟨by rfl, ?_⟩) ?_ ?_
                                rotate_left
                                · intro w'
                                  go_simp
                                  with_reducible rfl
                                rotate_left
                                · simp only [Act.put, List.setIfInBounds_toArray, List.set_cons_zero, List.set_cons_succ, i64_w, i32_w]
                                  rfl
                                refine pure_ (i := 1) (N := some 65) (v := ?_) (a' := ?_) #[true, true, false, false, false, false, false, false, false, false, false, false, false, false, false, false, false, false, false, false, false, false, false] rfl rfl (any_of HT_.out (by kernel_rfl)) (fun _ _ _ h => h) (Or.inl ⟨by rfl, ?_⟩) ?_ ?_
                                rotate_left
                                · intro w'
                                  go_simp
                                  with_reducible rfl
                                rotate_left
                                · simp only [Act.put, List.setIfInBounds_toArray, List.set_cons_zero, List.set_cons_succ, i64_w, i32_w]
                                  rfl
                                refine pure_ (i := 2) (N := some 66) (v := ?_) (a' := ?_) #[true, true, true, false, false, false, false, false, false, false, false, false, false, false, false, false, false, false, false, false, false, false, false] rfl rfl (any_of HT_.out (by kernel_rfl)) (fun _ _ _ h => h) (Or.inl ⟨by rfl, ?_⟩) ?_ ?_
                                rotate_left
                                · intro w'
                                  go_simp
                                  with_reducible rfl
                                rotate_left
                                · simp only [Act.put, List.setIfInBounds_toArray, List.set_cons_zero, List.set_cons_succ, i64_w, i32_w]
                                  rfl
                                refine pure_ (i := 3) (N := some 67) (v := ?_) (a' := ?_) #[true, true, true, true, false, false, false, false, false, false, false, false, false, false, false, false, false, false, false, false, false, false, false] rfl rfl (any_of HT_.out (by kernel_rfl)) (fun _ _ _ h => h) (Or.inl ⟨by rfl, ?_⟩) ?_ ?_
                                rotate_left
                                · intro w'
                                  go_simp
                                  with_reducible rfl
                                rotate_left
                                · simp only [Act.put, List.setIfInBounds_toArray, List.set_cons_zero, List.set_cons_succ, i64_w, i32_w]
                                  rfl
                                refine pure_ (i := 4) (N := some 68) (v := ?_) (a' := ?_) #[true, true, true, true, true, false, false, false, false, false, false, false, false, false, false, false, false, false, false, false, false, false, false] rfl rfl (any_of HT_.out (by kernel_rfl)) (fun _ _ _ h => h) (Or.inl ⟨by rfl, ?_⟩) ?_ ?_
                                rotate_left
                                · intro w'
                                  go_simp
                                  with_reducible rfl
                                rotate_left
                                · simp only [Act.put, List.setIfInBounds_toArray, List.set_cons_zero, List.set_cons_succ, i64_w, i32_w]
                                  rfl
                                refine pure_ (i := 5) (N := some 69) (v := ?_) (a' := ?_) #[true, true, true, true, true, true, false, false, false, false, false, false, false, false, false, false, false, false, false, false, false, false, false] rfl rfl (any_of HT_.out (by kernel_rfl)) (fun _ _ _ h => h) (Or.inl ⟨by rfl, ?_⟩) ?_ ?_
                                rotate_left
                                · intro w'
                                  go_simp
                                  with_reducible rfl
                                rotate_left
                                · simp only [Act.put, List.setIfInBounds_toArray, List.set_cons_zero, List.set_cons_succ, i64_w, i32_w]
                                  rfl
                                refine pure_ (i := 6) (N := some 70) (v := ?_) (a' := ?_) #[true, true, true, true, true, true, true, false, false, false, false, false, false, false, false, false, false, false, false, false, false, false, false] rfl rfl (any_of HT_.out (by kernel_rfl)) (fun _ _ _ h => h) (Or.inl ⟨by rfl, ?_⟩) ?_ ?_
                                rotate_left
                                · intro w'
                                  go_simp
                                  with_reducible rfl
                                rotate_left
                                · simp only [Act.put, List.setIfInBounds_toArray, List.set_cons_zero, List.set_cons_succ, i64_w, i32_w]
                                  rfl
                                refine pure_ (i := 7) (N := some 71) (v := ?_) (a' := ?_) #[true, true, true, true, true, true, true, true, false, false, false, false, false, false, false, false, false, false, false, false, false, false, false] rfl rfl (any_of HT_.out (by kernel_rfl)) (fun _ _ _ h => h) (Or.inl ⟨by rfl, ?_⟩) ?_ ?_
                                rotate_left
                                · intro w'
                                  go_simp
                                  with_reducible rfl
                                rotate_left
                                · simp only [Act.put, List.setIfInBounds_toArray, List.set_cons_zero, List.set_cons_succ, i64_w, i32_w]
                                  rfl
                                refine pure_ (i := 8) (N := some 72) (v := ?_) (a' := ?_) #[true, true, true, true, true, true, true, true, true, false, false, false, false, false, false, false, false, false, false, false, false, false, false] rfl rfl (any_of HT_.out (by kernel_rfl)) (fun _ _ _ h => h) (Or.inl ⟨by rfl, ?_⟩) ?_ ?_
                                rotate_left
                                · intro w'
                                  go_simp
                                  with_reducible rfl
                                rotate_left
                                · simp only [Act.put, List.setIfInBounds_toArray, List.set_cons_zero, List.set_cons_succ, i64_w, i32_w]
                                  rfl
                                refine pure_ (i := 9) (N := some 73) (v := ?_) (a' := ?_) #[true, true, true, true, true, true, true, true, true, true, false, false, false, false, false, false, false, false, false, false, false, false, false] rfl rfl (any_of HT_.out (by kernel_rfl)) (fun _ _ _ h => h) (Or.inl ⟨by rfl, ?_⟩) ?_ ?_
                                rotate_left
                                · intro w'
                                  go_simp
                                  with_reducible rfl
                                rotate_left
                                · simp only [Act.put, List.setIfInBounds_toArray, List.set_cons_zero, List.set_cons_succ, i64_w, i32_w]
                                  rfl
                                refine pure_ (i := 10) (N := some 74) (v := ?_) (a' := ?_) #[true, true, true, true, true, true, true, true, true, true, true, false, false, false, false, false, false, false, false, false, false, false, false] rfl rfl (any_of HT_.out (by kernel_rfl)) (fun _ _ _ h => h) (Or.inl ⟨by rfl, ?_⟩) ?_ ?_
                                rotate_left
                                · intro w'
                                  go_simp
                                  with_reducible rfl
                                rotate_left
                                · simp only [Act.put, List.setIfInBounds_toArray, List.set_cons_zero, List.set_cons_succ, i64_w, i32_w]
                                  rfl
                                refine pure_ (i := 11) (N := some 75) (v := ?_) (a' := ?_) #[true, true, true, true, true, true, true, true, true, true, true, true, false, false, false, false, false, false, false, false, false, false, false] rfl rfl (any_of HT_.out (by kernel_rfl)) (fun _ _ _ h => h) (Or.inl ⟨by rfl, ?_⟩) ?_ ?_
                                rotate_left
                                · intro w'
                                  go_simp
                                  with_reducible rfl
                                rotate_left
                                · simp only [Act.put, List.setIfInBounds_toArray, List.set_cons_zero, List.set_cons_succ, i64_w, i32_w]
                                  rfl
                                refine pure_ (i := 12) (N := some 76) (v := ?_) (a' := ?_) #[true, true, true, true, true, true, true, true, true, true, true, true, true, false, false, false, false, false, false, false, false, false, false] rfl rfl (any_of HT_.out (by kernel_rfl)) (fun _ _ _ h => h) (Or.inl ⟨by rfl, ?_⟩) ?_ ?_
                                rotate_left
                                · intro w'
                                  go_simp
                                  with_reducible rfl
                                rotate_left
                                · simp only [Act.put, List.setIfInBounds_toArray, List.set_cons_zero, List.set_cons_succ, i64_w, i32_w]
                                  rfl
                                refine pure_ (i := 13) (N := some 77) (v := ?_) (a' := ?_) #[true, true, true, true, true, true, true, true, true, true, true, true, true, true, false, false, false, false, false, false, false, false, false] rfl rfl (any_of HT_.out (by kernel_rfl)) (fun _ _ _ h => h) (Or.inl ⟨by rfl, ?_⟩) ?_ ?_
                                rotate_left
                                · intro w'
                                  go_simp
                                  with_reducible rfl
                                rotate_left
                                · simp only [Act.put, List.setIfInBounds_toArray, List.set_cons_zero, List.set_cons_succ, i64_w, i32_w]
                                  rfl
                                refine pure_ (i := 14) (N := some 78) (v := ?_) (a' := ?_) #[true, true, true, true, true, true, true, true, true, true, true, true, true, true, true, false, false, false, false, false, false, false, false] rfl rfl (any_of HT_.out (by kernel_rfl)) (fun _ _ _ h => h) (Or.inl ⟨by rfl, ?_⟩) ?_ ?_
                                rotate_left
                                · intro w'
                                  go_simp
                                  with_reducible rfl
                                rotate_left
                                · simp only [Act.put, List.setIfInBounds_toArray, List.set_cons_zero, List.set_cons_succ, i64_w, i32_w]
                                  rfl
                                refine pure_ (i := 15) (N := some 79) (v := ?_) (a' := ?_) #[true, true, true, true, true, true, true, true, true, true, true, true, true, true, true, true, false, false, false, false, false, false, false] rfl rfl (any_of HT_.out (by kernel_rfl)) (fun _ _ _ h => h) (Or.inl ⟨by rfl, ?_⟩) ?_ ?_
                                rotate_left
                                · intro w'
                                  go_simp
                                  with_reducible rfl
                                rotate_left
                                · simp only [Act.put, List.setIfInBounds_toArray, List.set_cons_zero, List.set_cons_succ, i64_w, i32_w]
                                  rfl
                                refine pure_ (i := 17) (N := some 81) (v := ?_) (a' := ?_) #[true, true, true, true, true, true, true, true, true, true, true, true, true, true, true, true, false, true, false, false, false, false, false] rfl rfl (any_of HT_.out (by kernel_rfl)) (fun _ _ _ h => h) (Or.inl ⟨by rfl, ?_⟩) ?_ ?_
                                rotate_left
                                · intro w'
                                  go_simp
                                  with_reducible rfl
                                rotate_left
                                · simp only [Act.put, List.setIfInBounds_toArray, List.set_cons_zero, List.set_cons_succ, i64_w, i32_w]
                                  rfl
                                refine pure_ (i := 18) (N := some 82) (v := ?_) (a' := ?_) #[true, true, true, true, true, true, true, true, true, true, true, true, true, true, true, true, false, true, true, false, false, false, false] rfl rfl (any_of HT_.out (by kernel_rfl)) (fun _ _ _ h => h) (Or.inl ⟨by rfl, ?_⟩) ?_ ?_
                                rotate_left
                                · intro w'
                                  go_simp
                                  with_reducible rfl
                                rotate_left
                                · simp only [Act.put, List.setIfInBounds_toArray, List.set_cons_zero, List.set_cons_succ, i64_w, i32_w]
                                  rfl
                                refine pure_ (i := 19) (N := some 83) (v := ?_) (a' := ?_) #[true, true, true, true, true, true, true, true, true, true, true, true, true, true, true, true, false, true, true, true, false, false, false] rfl rfl (any_of HT_.out (by kernel_rfl)) (fun _ _ _ h => h) (Or.inl ⟨by rfl, ?_⟩) ?_ ?_
                                rotate_left
                                · intro w'
                                  go_simp
                                  with_reducible rfl
                                rotate_left
                                · simp only [Act.put, List.setIfInBounds_toArray, List.set_cons_zero, List.set_cons_succ, i64_w, i32_w]
                                  rfl
                                refine take_ (i := 16) (N := some 80) (v := ?_) (a' := ?_) #[true, true, true, true, true, true, true, true, true, true, true, true, true, true, true, true, true, true, true, true, false, false, false] rfl rfl (take_ofW HT_.out HW_.out (by kernel_rfl)) (fun _ _ _ h => h) (Or.inl ⟨by rfl, ?_⟩) hHeld ?_ ?_
                                rotate_left
                                · rintro w' ⟨s0, s1, s2, s3, s4, s5, s6, s7⟩
                                  go_simp
                                  with_reducible rfl
                                rotate_left
                                · simp only [Act.put, List.setIfInBounds_toArray, List.set_cons_zero, List.set_cons_succ, i64_w, i32_w]
                                  rfl
                                refine take_ (i := 20) (N := some 84) (v := ?_) (a' := ?_) #[true, true, true, true, true, true, true, true, true, true, true, true, true, true, true, true, true, true, true, true, true, false, false] rfl rfl (take_ofW HT_.out HW_.out (by kernel_rfl)) (fun _ _ _ h => h) (Or.inl ⟨by rfl, ?_⟩) hHeld ?_ ?_
                                rotate_left
                                · rintro w' ⟨s0, s1, s2, s3, s4, s5, s6, s7⟩
                                  go_simp
                                  with_reducible rfl
                                rotate_left
                                · simp only [Act.put, List.setIfInBounds_toArray, List.set_cons_zero, List.set_cons_succ, i64_w, i32_w]
                                  rfl
                                refine pure_ (i := 21) (N := some 85) (v := ?_) (a' := ?_) #[true, true, true, true, true, true, true, true, true, true, true, true, true, true, true, true, true, true, true, true, true, true, false] rfl rfl (any_of HT_.out (by kernel_rfl)) (fun _ _ _ h => h) (Or.inl ⟨by rfl, ?_⟩) ?_ ?_
                                rotate_left
                                · intro w'
                                  go_simp
                                  with_reducible rfl
                                rotate_left
                                · simp only [Act.put, List.setIfInBounds_toArray, List.set_cons_zero, List.set_cons_succ, i64_w, i32_w]
                                  rfl
                                refine pure_ (i := 22) (N := some 86) (v := ?_) (a' := ?_) #[true, true, true, true, true, true, true, true, true, true, true, true, true, true, true, true, true, true, true, true, true, true, true] rfl rfl (any_of HT_.out (by kernel_rfl)) (fun _ _ _ h => h) (Or.inl ⟨by rfl, ?_⟩) ?_ ?_
                                rotate_left
                                · intro w'
                                  go_simp
                                  with_reducible rfl
                                rotate_left
                                · simp only [Act.put, List.setIfInBounds_toArray, List.set_cons_zero, List.set_cons_succ, i64_w, i32_w]
                                  rfl
                                refine done_ (done_of HT_.out (by kernel_rfl)) ?_
                                try go_wp2
                                go_roundg k2
                                case measure => have := HK1.out; have := HK2.out; omega
                                case rel => exact ⟨(wrap64 (x52_2 + 1)), (by first | rfl | (simp; done) | (simp [*]; done)), H', ⟨by have := HK1.out; have := HK2.out; omega⟩, ⟨by (with_reducible repeat (first | apply Kd.R_alloc | apply Kd.R_drewN | apply Kd.R_drew)); exact HO_3.out⟩, ⟨by repeat (first | (with_reducible first | exact HB.out | apply below_alloc | apply pw_below_drewN | apply below_drew1) | exact HB.out)⟩⟩
                            · rw [if_neg c31] at H
                              exact absurd H (by simp)
                          · rw [if_neg c30] at H
                            exact absurd H (by simp)
                    · replace c27 := Bool.eq_false_iff.mpr c27
                      subst c27
                      have H1 : (none) = some r := by rw [if_neg (show ¬ (false = true) by decide)] at H; exact H
                      clear H
                      have H := H1
                      clear H1
                      exact absurd H (by simp)
                  · rw [if_neg c25] at H
                    exact absurd H (by simp)
                · rw [if_neg c24] at H
                  exact absurd H (by simp)
              · rw [if_neg c23] at H
                have c23b0 : decide (x52_2 < (l0.length : Int)) = false := decide_eq_false c23
                clear c23
                replace H := Option.bind_eq_some_iff.mp H
                obtain ⟨t117, A350, H⟩ := H
                replace H : ((contangoref10_Same.f k2 t117 t103).bind fun t120 => (if t120 = true then ((contangolaw10_goes.f k2).bind fun t121 => (some t121)) else (none))) = some r := H
                have A35 := Aside0.mk A350
                clear A350
                replace H := Option.bind_eq_some_iff.mp H
                obtain ⟨t120, A360, H⟩ := H
                replace H : (if t120 = true then ((contangolaw10_goes.f k2).bind fun t121 => (some t121)) else (none)) = some r := H
                have A36 := Aside0.mk A360
                clear A360
                by_cases c37 : t120 = true
                · subst c37
                  have H1 : ((contangolaw10_goes.f k2).bind fun t121 => (some t121)) = some r := by rw [if_pos rfl] at H; exact H
                  clear H
                  have H := H1
                  clear H1
                  replace H := Option.bind_eq_some_iff.mp H
                  obtain ⟨t121, A380, H⟩ := H
                  replace H : (some t121) = some r := H
                  have A38 := Aside0.mk A380
                  clear A380
                  obtain rfl := Option.some.inj H
                  go_wp2_with (first | ((with_reducible refine gate_callee (f := 22) rfl ?_); refine goesL_ (some 89) rfl rfl Tryd.func22 (by kernel_rfl) rfl #[.slice Ao6 t103.length co6] rfl (by (try simp only [List.map_toArray, List.map_cons, List.map_nil]); first | done | rfl | (simp only [List.length_drop, List.length_take]; rfl)) ?_; (with_reducible refine (series_Sort.calls k2 _ _ t103 t117 _ ?side1 ?side2 A35.out).mono ?_); (case side1 => repeat (first | exact (Kd.R_reads' HO_3.out).2.2 | (with_reducible refine Kd.C_alloc ?_ _) | (with_reducible refine Kd.C_drewN ?_ _) | (with_reducible refine Kd.C_drew ?_))); (case side2 => exact (Kd.R_reads' HO_3.out).2.1); rintro e w39 ⟨v118, rfl, ho0, hb⟩; refine ⟨_, rfl, ?_⟩; have n0_ := Aside0.mk (Kd.R_elder' (by (with_reducible repeat (first | apply Kd.R_alloc | apply Kd.R_drewN | apply Kd.R_drew)); exact HO_3.out) (Kd.R_base ho0) hb); have n1_ := Aside0.mk (Kd.R_lower (Kd.R_new' ho0 (Kd.R_lt (by (with_reducible repeat (first | apply Kd.R_alloc | apply Kd.R_drewN | apply Kd.R_drew)); exact HO_3.out))) (below_size (by repeat (first | (with_reducible first | exact HB.out | apply below_alloc | apply pw_below_drewN | apply below_drew1) | exact HB.out)))); have n2_ := Aside0.mk (below_step (by repeat (first | (with_reducible first | exact HB.out | apply below_alloc | apply pw_below_drewN | apply below_drew1) | exact HB.out)) hb); clear HO_3; clear HB; have HO_3 := n0_; have HO119 := n1_; have HB := n2_; clear n0_ n1_ n2_; (try clear hb); (try clear hb2); (try clear hk); (try clear hi); (try clear ho0); obtain ⟨Ao40, co40, eo40⟩ := Kd.R_slice HO119.out; subst eo40) | ((with_reducible refine gate_callee (f := 24) rfl ?_); refine goesL_ (some 91) rfl rfl Tryd.func24 (by kernel_rfl) rfl #[.slice Ao40 t117.length co40, .slice Ao6 t103.length co6] rfl (by (try simp only [List.map_toArray, List.map_cons, List.map_nil]); first | done | rfl | (simp only [List.length_drop, List.length_take]; rfl)) ?_; (with_reducible refine (contangoref10_Same.calls k2 _ _ t117 _ _ t103 true _ ?side1 ?side2 ?side3 ?side4 A36.out).mono ?_); (case side1 => repeat (first | exact (Kd.R_reads' HO119.out).2.2 | (with_reducible refine Kd.C_alloc ?_ _) | (with_reducible refine Kd.C_drewN ?_ _) | (with_reducible refine Kd.C_drew ?_))); (case side2 => exact (Kd.R_reads' HO119.out).2.1); (case side3 => repeat (first | exact (Kd.R_reads' HO_3.out).2.2 | (with_reducible refine Kd.C_alloc ?_ _) | (with_reducible refine Kd.C_drewN ?_ _) | (with_reducible refine Kd.C_drew ?_))); (case side4 => exact (Kd.R_reads' HO_3.out).2.1); rintro e w' ⟨rfl, ⟨nd, rfl⟩⟩; refine ⟨_, rfl, ?_⟩) | (go_at_call 14; (with_reducible refine (contangolaw10_goes.calls k2  t121 _ A38.out (glob_of HGL.out (by repeat (first | (with_reducible first | exact HB.out | apply below_alloc | apply pw_below_drewN | apply below_drew1) | exact HB.out)))).mono ?_); rintro e w41 ⟨rfl, hb⟩; have n0_ := Aside0.mk (Kd.R_below (by (with_reducible repeat (first | apply Kd.R_alloc | apply Kd.R_drewN | apply Kd.R_drew)); exact HO_3.out) hb); have n1_ := Aside0.mk (Kd.R_below (by (with_reducible repeat (first | apply Kd.R_alloc | apply Kd.R_drewN | apply Kd.R_drew)); exact HO119.out) hb); have n2_ := Aside0.mk (below_step (by repeat (first | (with_reducible first | exact HB.out | apply below_alloc | apply pw_below_drewN | apply below_drew1) | exact HB.out)) hb); clear HO_3; clear HO119; clear HB; have HO_3 := n0_; have HO119 := n1_; have HB := n2_; clear n0_ n1_ n2_; (try clear hb); (try clear hb2); (try clear hk); (try clear hi)))
                  go_ret
                  exact ⟨by first | rfl | (simp [errW_none, errW_some] <;> rfl) | (simp [*, errW_none, errW_some] <;> rfl), by repeat (first | (with_reducible first | exact HB.out | apply below_alloc | apply pw_below_drewN | apply below_drew1) | exact HB.out)⟩
                · replace c37 := Bool.eq_false_iff.mpr c37
                  subst c37
                  have H1 : (none) = some r := by rw [if_neg (show ¬ (false = true) by decide)] at H; exact H
                  clear H
                  have H := H1
                  clear H1
                  exact absurd H (by simp)
  · replace c3 := Bool.eq_false_iff.mpr c3
    subst c3
    have H1 : ((contangolaw10_goes.f k).bind fun t102 => (some t102)) = some r := by rw [if_neg (show ¬ (false = true) by decide)] at H; exact H
    clear H
    have H := H1
    clear H1
    replace H := Option.bind_eq_some_iff.mp H
    obtain ⟨t102, A420, H⟩ := H
    replace H : (some t102) = some r := H
    have A42 := Aside0.mk A420
    clear A420
    obtain rfl := Option.some.inj H
    go_enter Tryd.func6, Tryd.ntmps6
    go_wp2_with (first | ((with_reducible refine gate_callee (f := 21) rfl ?_); refine goesL_ (some 11) rfl rfl Tryd.func21 (by kernel_rfl) rfl #[.slice A0 l0.length c0] rfl (by (try simp only [List.map_toArray, List.map_cons, List.map_nil]); first | done | rfl | (simp only [List.length_drop, List.length_take]; rfl)) ?_; (with_reducible refine (contangolaw10_few.calls _ _ l0 false _ ?side1 ?side2 A2.out).mono ?_); (case side1 => repeat (first | exact HR0.out | (with_reducible refine Kd.C_alloc ?_ _) | (with_reducible refine Kd.C_drewN ?_ _) | (with_reducible refine Kd.C_drew ?_))); (case side2 => exact HC0.out); rintro e w' ⟨rfl, ⟨nd, rfl⟩⟩; refine ⟨_, rfl, ?_⟩) | ((with_reducible refine gate_callee (f := 14) rfl ?_); refine goesL_ (some 13) rfl rfl Tryd.func14 (by kernel_rfl) rfl #[] rfl (by (try simp only [List.map_toArray, List.map_cons, List.map_nil]); first | done | rfl | (simp only [List.length_drop, List.length_take]; rfl)) ?_; (with_reducible refine (contangolaw10_goes.calls k  t102 _ A42.out (glob_of HGL.out (by repeat (first | (with_reducible first | exact HB.out | apply below_alloc | apply pw_below_drewN | apply below_drew1) | exact HB.out)))).mono ?_); rintro e w43 ⟨rfl, hb⟩; refine ⟨_, rfl, ?_⟩; have n0_ := Aside0.mk (below_step (by repeat (first | (with_reducible first | exact HB.out | apply below_alloc | apply pw_below_drewN | apply below_drew1) | exact HB.out)) hb); clear HB; have HB := n0_; clear n0_; (try clear hb); (try clear hb2); (try clear hk); (try clear hi)))
    go_ret
    exact ⟨by first | rfl | (simp [errW_none, errW_some] <;> rfl) | (simp [*, errW_none, errW_some] <;> rfl), by repeat (first | (with_reducible first | exact HB.out | apply below_alloc | apply pw_below_drewN | apply below_drew1) | exact HB.out)⟩
end Go.Proofs.YtieifncibojciaaDoor.X
end
section
namespace Go.Proofs.YtieifncibojciaaDoor.Opn
open Go.ChangeShapes Go.WideShapes Go.Proofs.YtieifncibojciaaDoorW.PrintWords
set_option linter.unusedVariables false
set_option linter.unusedSimpArgs false
structure Opens (P : Program) (t : TypeId) {α : Type} (d : Kd α) (Ok : α → Prop) : Prop where
  sz : d.sz = P.cellsOf t
  opens : ∀ {H : Type} {enc : TypeId × Value → H} {w : World} {base : Nat} {spare : Nat → Bool} {held : Bool} {fuel : Nat} {cs : List Value} {x : DataW H × List MemPlace},
    DataW.trod enc P w base spare held fuel t cs = some x → (∀ n ∈ x.1.weights P t, n ≤ reachBytes) → ∃ v, d.K w v cs ∧ Ok v
theorem opens_int {P : Program} {t : TypeId} {k : IntKind} (ht : P.underlying t = some (.int k)) (hc : P.cellsOf t = 1) : Opens P t (Kd.int k) (fun n => (Lit.int k n).wf = true) := by
  refine ⟨hc.symm, fun h _ => ?_⟩
  obtain ⟨n, rfl, _, hw⟩ := DataW.trod_int ht h
  exact ⟨n, rfl, hw⟩
theorem opens_string {P : Program} {t : TypeId} (ht : P.underlying t = some .string) (hc : P.cellsOf t = 1) : Opens P t Kd.string (fun s => s.size ≤ 140737488351232) := by
  refine ⟨hc.symm, fun h hw => ?_⟩
  obtain ⟨s, rfl, rfl, hs⟩ := DataW.trod_string ht h
  refine ⟨s, rfl, ?_⟩
  have := hw s.data.toList.length (by simp [DataW.weights])
  rw [Array.length_toList] at this
  exact this
theorem weights_all {H : Type} {P : Program} {e : TypeId} : ∀ {ds : List (DataW H)} {j : Nat} {d : DataW H}, ds[j]? = some d → ∀ n ∈ d.weights P e, n ∈ DataW.weightsAll P e ds
  | d0 :: ds, 0, d, hd, n, hn => by
    simp only [List.getElem?_cons_zero, Option.some.injEq] at hd
    subst hd
    simp only [DataW.weightsAll, List.mem_append]
    exact Or.inl hn
  | d0 :: ds, j + 1, d, hd, n, hn => by
    simp only [List.getElem?_cons_succ] at hd
    simp only [DataW.weightsAll, List.mem_append]
    exact Or.inr (weights_all hd n hn)
  | [], _, _, hd, _, _ => by simp at hd
theorem list_of {α : Type} {n : Nat} {p : Nat → α → Prop} (h : ∀ i, i < n → ∃ x, p i x) : ∃ l : List α, l.length = n ∧ ∀ i x, l[i]? = some x → p i x := by
  induction n with
  | zero => exact ⟨[], rfl, fun i x hx => by simp at hx⟩
  | succ n ih =>
    obtain ⟨l, hl, hp⟩ := ih (fun i hi => h i (by omega))
    obtain ⟨x, hx⟩ := h n (by omega)
    refine ⟨l ++ [x], by simp [hl], fun i y hy => ?_⟩
    by_cases hi : i < l.length
    · rw [List.getElem?_append_left hi] at hy
      exact hp i y hy
    · rw [List.getElem?_append_right (by omega)] at hy
      have : i - l.length = 0 := by
        cases hk : i - l.length with
        | zero => rfl
        | succ m => rw [hk] at hy; simp at hy
      rw [this] at hy
      simp at hy
      subst hy
      have : i = n := by omega
      subst this
      exact hx
theorem opens_slice {P : Program} {t e : TypeId} {α : Type} {d : Kd α} {Ok : α → Prop} (h : Opens P e d Ok) (ht : P.underlying t = some (.slice e)) (hc : P.cellsOf t = 1) {B : Nat} (hB : P.bytesOf e = B) :
    Opens P t (Kd.slice e d) (fun l => l.length ≤ maxLen ∧ l.length * B ≤ 140737488351232 ∧ ∀ x ∈ l, Ok x) := by
  subst hB
  refine ⟨hc.symm, fun {H enc w base spare held fuel cs x} hx hw => ?_⟩
  rcases DataW.trod_slice ht hx with ⟨rfl, rfl⟩ | ⟨a, len, cap, elems, rest, n, _, rfl, rfl, hb, hl, hm, hlen, hel, hsp, hns⟩
  · exact ⟨[], ⟨none, 0, rfl, Nat.le_refl _, Kd.C_nil _ _⟩, by simp⟩
  simp only [DataW.weights, ht] at hw
  have hw1 : (elems.length + rest.length) * P.bytesOf e ≤ reachBytes := by
    have := hw ((elems.length + rest.length) * P.bytesOf e) (by simp)
    exact this
  have hone : ∀ i, i < len → ∃ v : α, ∃ c, w.cells? base (a.add (i * P.cellsOf e)) (P.cellsOf e) = some c ∧ d.K w v c ∧ Ok v := by
    intro i hi
    have h1 := hel i hi
    rw [List.getElem?_eq_getElem (by omega)] at h1
    obtain ⟨c, hc1, hc2⟩ := Option.bind_eq_some_iff.1 h1
    obtain ⟨v, hv, hok⟩ := h.opens hc2 (fun n hn => hw n (by
      simp only [List.mem_cons, List.mem_append]
      right; left
      refine weights_all (j := i) ?_ n hn
      rw [List.getElem?_map, List.getElem?_eq_getElem (by omega)]
      rfl))
    exact ⟨v, c, hc1, hv, hok⟩
  obtain ⟨l, hl1, hl2⟩ := list_of hone
  subst hl1
  refine ⟨l, ⟨some a, cap, rfl, hl, rfl, ?_, fun _ => ⟨a, rfl, fun j p hj => ?_⟩⟩, ?_, ?_, ?_⟩
  · unfold maxLen at hm; omega
  · obtain ⟨c, hc1, hc2, _⟩ := hl2 j p hj
    obtain ⟨_, hlen2, hcell⟩ := World.cells?_some hc1
    refine ⟨c, by rw [h.sz]; exact hlen2, hc2, fun i u hu => ?_⟩
    have hi : i < P.cellsOf e := by
      have := (List.getElem?_eq_some_iff.1 hu).1
      omega
    have := hcell i hi
    rw [hu, ← Deep.add_add, h.sz] at *
    exact this
  · exact Nat.le_trans hl hm
  · have h2 : l.length * P.bytesOf e ≤ (elems.length + rest.length) * P.bytesOf e := Nat.mul_le_mul_right _ (by omega)
    exact Nat.le_trans h2 hw1
  · intro x hx
    obtain ⟨j, hj⟩ := List.getElem?_of_mem hx
    obtain ⟨c, _, _, ho⟩ := hl2 j x hj
    exact ho
structure OpensF (P : Program) (fs : List Field) (off : Nat) {α : Type} (d : Kd α) (Ok : α → Prop) : Prop where
  opens : ∀ {H : Type} {enc : TypeId × Value → H} {w : World} {base : Nat} {spare : Nat → Bool} {held : Bool} {n : Nat} {cs : List Value} {xs : List (DataW H × List MemPlace)},
    xs.length = fs.length → (∀ (i : Nat) (f : Field), fs[i]? = some f → DataW.trod enc P w base spare held n f.type ((cs.drop f.offset).take (P.cellsOf f.type)) = xs[i]?) →
    (∀ m ∈ DataW.weightsEach P (fs.map (·.type)) (xs.map (·.1)), m ≤ reachBytes) → ∃ v, d.K w v ((cs.drop off).take d.sz) ∧ Ok v
theorem opensF_one {P : Program} {f : Field} {off : Nat} {α : Type} {d : Kd α} {Ok : α → Prop} (h : Opens P f.type d Ok) (ho : f.offset = off) : OpensF P [f] off d Ok := by
  refine ⟨fun {H enc w base spare held n cs xs} hl hx hw => ?_⟩
  match xs, hl with
  | [x], _ =>
    have h1 := hx 0 f rfl
    obtain ⟨v, hv, hok⟩ := h.opens h1 (fun n hn => hw n (by simpa [DataW.weightsEach] using hn))
    refine ⟨v, ?_, hok⟩
    rw [h.sz, ← ho]
    exact hv
theorem opensF_cons {P : Program} {f : Field} {fs : List Field} {off : Nat} {α β : Type} {d : Kd α} {d' : Kd β} {Ok : α → Prop} {Ok' : β → Prop} (h : Opens P f.type d Ok) (ho : f.offset = off) (h' : OpensF P fs (off + d.sz) d' Ok') :
    OpensF P (f :: fs) off (Kd.pair d d') (fun p => Ok p.1 ∧ Ok' p.2) := by
  refine ⟨fun {H enc w base spare held n cs xs} hl hx hw => ?_⟩
  match xs, hl with
  | x :: xs, hl =>
    have h1 := hx 0 f rfl
    obtain ⟨v, hv, hok⟩ := h.opens h1 (fun n hn => hw n (by
      simp only [List.map_cons, DataW.weightsEach, List.mem_append]; exact Or.inl hn))
    obtain ⟨v', hv', hok'⟩ := h'.opens (cs := cs) (xs := xs) (by simpa using hl) (fun i g hg => by
      have := hx (i + 1) g (by simpa using hg)
      simpa using this) (fun m hm => hw m (by simp only [List.map_cons, DataW.weightsEach, List.mem_append]; exact Or.inr hm))
    refine ⟨(v, v'), ⟨(cs.drop off).take d.sz, (cs.drop (off + d.sz)).take d'.sz, ?_, ?_, hv'⟩, hok, hok'⟩
    · show (cs.drop off).take (d.sz + d'.sz) = _
      rw [List.take_add, List.drop_drop]
    · rw [h.sz, ← ho]; exact hv
theorem opens_struct {P : Program} {t : TypeId} {fs : Array Field} {α β : Type} {d : Kd α} {Ok : α → Prop} (h : OpensF P fs.toList 0 d Ok) (ht : P.underlying t = some (.struct fs)) (hc : d.sz = P.cellsOf t) (f : β → α) (mk : α → β) (hf : ∀ a, f (mk a) = a) :
    Opens P t (Kd.iso d f) (fun b => Ok (f b)) := by
  refine ⟨hc, fun {H enc w base spare held fuel cs x} hx hw => ?_⟩
  obtain ⟨xs, n, _, rfl, hlen, hsz, hall⟩ := DataW.trod_struct ht hx
  simp only [DataW.weights, ht] at hw
  obtain ⟨v, hv, hok⟩ := h.opens (cs := cs) (xs := xs) (by simpa using hsz) (fun i f hf => hall i f (by simpa using hf)) hw
  refine ⟨mk v, ?_, by rw [hf]; exact hok⟩
  show d.K w (f (mk v)) cs
  rw [hf]
  rw [List.drop_zero, hc, ← hlen, List.take_length] at hv
  exact hv
theorem opens_imp {P : Program} {t : TypeId} {α : Type} {d : Kd α} {Ok Ok' : α → Prop} (h : Opens P t d Ok) (hi : ∀ v, Ok v → Ok' v) : Opens P t d Ok' :=
  ⟨h.sz, fun hx hw => let ⟨v, hv, ho⟩ := h.opens hx hw; ⟨v, hv, hi v ho⟩⟩
end Go.Proofs.YtieifncibojciaaDoor.Opn
end
section
namespace Go.Proofs.YtieifncibojciaaDoor.X
open Go.RowKit Go.Proofs.YtieifncibojciaaDoorW.PrintWords Go.Proofs.YtieifncibojciaaDoorW.PrintLast Go.Proofs.YtieifncibojciaaDoorW.PrintMore
attribute [local go_sem] max2_int min2_int max_two min_two max_three min_three max_four min_four
set_option linter.unusedVariables false
set_option linter.unusedSimpArgs false
def ok23 (v : S23) : Prop := v.f0.size ≤ 140737488351232 ∧ ((Lit.int .i64 v.f1).wf = true ∧ ((Lit.int .i64 v.f2).wf = true ∧ ((Lit.int .i64 v.f3).wf = true)))
theorem opens23 : Opn.Opens Tryd.prog 23 k23 ok23 := by
  have hu := Tryd.underlying23
  refine Opn.opens_imp (Opn.opens_struct (Ok := fun (p : ByteArray × (Int × (Int × (Int)))) => p.1.size ≤ 140737488351232 ∧ ((Lit.int .i64 p.2.1).wf = true ∧ ((Lit.int .i64 p.2.2.1).wf = true ∧ ((Lit.int .i64 p.2.2.2).wf = true)))) ?hF hu (by kernel_rfl) (fun x : S23 => (x.f0, x.f1, x.f2, x.f3)) (fun a => ⟨a.1, a.2.1, a.2.2.1, a.2.2.2⟩) (fun _ => rfl)) ?hI
  case hF =>
    refine Opn.opensF_cons (Ok := fun (p : ByteArray) => p.size ≤ 140737488351232) (Ok' := fun (p : Int × (Int × (Int))) => (Lit.int .i64 p.1).wf = true ∧ ((Lit.int .i64 p.2.1).wf = true ∧ ((Lit.int .i64 p.2.2).wf = true))) (h := ?_) (ho := ?_) (h' := ?_)
    · exact Opn.opens_string Tryd.underlying9 (by kernel_rfl)
    · rfl
    · skip
      refine Opn.opensF_cons (Ok := fun (p : Int) => (Lit.int .i64 p).wf = true) (Ok' := fun (p : Int × (Int)) => (Lit.int .i64 p.1).wf = true ∧ ((Lit.int .i64 p.2).wf = true)) (h := ?_) (ho := ?_) (h' := ?_)
      · exact Opn.opens_int Tryd.underlying3 (by kernel_rfl)
      · rfl
      · skip
        refine Opn.opensF_cons (Ok := fun (p : Int) => (Lit.int .i64 p).wf = true) (Ok' := fun (p : Int) => (Lit.int .i64 p).wf = true) (h := ?_) (ho := ?_) (h' := ?_)
        · exact Opn.opens_int Tryd.underlying3 (by kernel_rfl)
        · rfl
        · skip
          refine Opn.opensF_one (Ok := fun (p : Int) => (Lit.int .i64 p).wf = true) (h := ?_) (ho := ?_)
          · exact Opn.opens_int Tryd.underlying3 (by kernel_rfl)
          · rfl
  case hI => exact fun v h => h
end Go.Proofs.YtieifncibojciaaDoor.X
end
section
namespace Go.Proofs.YtieifncibojciaaDoor.P
open Go.RowKit Go.Proofs.YtieifncibojciaaDoorW.PrintWords Go.Proofs.YtieifncibojciaaDoorW.PrintMore Go.Proofs.YtieifncibojciaaDoor.X
theorem Ev_succ {α : Type} {g : Nat → Option α} {r : α} (h : Ev (fun k => g (k + 1)) r) : Ev g r := Ev.step (fun _ => rfl) h
theorem Ev_bind {α β : Type} {g : Nat → Option α} {f : Nat → α → Option β} {a : α} {r : β} (h : Ev g a) (k : Ev (fun n => f n a) r) : Ev (fun n => (g n).bind (f n)) r := Ev.bind h k
theorem Ev_id {α : Type} {g : Nat → Option α} {r : α} (h : Ev g r) : Ev (fun n => (g n).bind fun x => some x) r := Ev.bind h (Ev.now _)
theorem w_id {x : Int} (h1 : -9223372036854775808 ≤ x) (h2 : x ≤ 9223372036854775807) : wrap64 x = x := by unfold wrap64; omega
theorem w_succ {i n : Nat} (h : i < n) (hn : n ≤ 9223372036854775807) : wrap64 ((i : Int) + 1) = ((i + 1 : Nat) : Int) := by rw [w_id (by omega) (by omega)]; omega
theorem w_pred {i : Nat} (h : 0 < i) (hn : i ≤ 9223372036854775807) : wrap64 ((i : Int) - 1) = ((i - 1 : Nat) : Int) := by rw [w_id (by omega) (by omega)]; omega
theorem ba_ext {a b : ByteArray} (h : a.toList = b.toList) : a = b := by
  have e : ∀ c : ByteArray, c.toList = c.data.toList := fun c => ByteArray.toList_eq c
  rw [e, e] at h
  cases a; cases b
  congr 1
  exact Array.toList_inj.1 h
end Go.Proofs.YtieifncibojciaaDoor.P
end
section
namespace Go.Proofs.YtieifncibojciaaDoor.P
set_option linter.unusedVariables false
set_option linter.unusedSimpArgs false
open Go.RowKit Go.Proofs.YtieifncibojciaaDoorW.PrintWords Go.Proofs.YtieifncibojciaaDoorW.PrintMore Go.Proofs.YtieifncibojciaaDoor.X
theorem bl_self : ∀ a : List UInt8, Op.bytesLess a a = false
  | [] => rfl
  | x :: a => by simp [Op.bytesLess, bl_self a]
theorem bl_not : ∀ a b : List UInt8, (!(Op.bytesLess a b || a == b)) = Op.bytesLess b a
  | [], [] => rfl
  | [], y :: b => by simp [Op.bytesLess]
  | x :: a, [] => by simp [Op.bytesLess]
  | x :: a, y :: b => by
    have ih := bl_not a b
    simp only [Op.bytesLess]
    by_cases h : x = y
    · subst h
      have : ¬ x < x := by simp
      simp only [this, decide_false, Bool.false_or, beq_self_eq_true, Bool.true_and, ← ih]
      congr 1
      simp
    · have h1 : (x == y) = false := by simpa using h
      have h2 : (y == x) = false := by simpa using fun e => h e.symm
      have h3 : (x :: a == y :: b) = false := by simp [h]
      rw [h1, h2, h3]
      simp only [Bool.false_and, Bool.or_false]
      have : decide (y < x) = !decide (x < y) := by
        rw [Bool.eq_iff_iff]
        simp only [decide_eq_true_eq, Bool.not_eq_true', decide_eq_false_iff_not, UInt8.lt_iff_toNat_lt]
        have : x.toNat ≠ y.toNat := fun e => h (UInt8.toNat_inj.1 e)
        omega
      rw [this]
theorem bl_eq {a b : List UInt8} (h : Op.bytesLess a b = false) (k : Op.bytesLess b a = false) : a = b := by
  have := bl_not a b
  rw [h, k] at this
  simpa using this
theorem bl_trans : ∀ a b c : List UInt8, Op.bytesLess a b = true → Op.bytesLess b c = true → Op.bytesLess a c = true
  | a, b, [], _, h => by cases b <;> simp [Op.bytesLess] at h
  | a, [], z :: c, h, _ => by cases a <;> simp [Op.bytesLess] at h
  | [], y :: b, z :: c, _, _ => by simp [Op.bytesLess]
  | x :: a, y :: b, z :: c, h, k => by
    simp only [Op.bytesLess, Bool.or_eq_true, Bool.and_eq_true, decide_eq_true_eq, beq_iff_eq] at h k ⊢
    rcases h with h | ⟨h, h'⟩ <;> rcases k with k | ⟨k, k'⟩
    · exact Or.inl (UInt8.lt_trans h k)
    · subst k; exact Or.inl h
    · subst h; exact Or.inl k
    · subst h k; exact Or.inr ⟨rfl, bl_trans a b c h' k'⟩
end Go.Proofs.YtieifncibojciaaDoor.P
end
section
namespace Go.Proofs.YtieifncibojciaaDoor.P
set_option linter.unusedVariables false
set_option linter.unusedSimpArgs false
open Go.RowKit Go.Proofs.YtieifncibojciaaDoorW.PrintWords Go.Proofs.YtieifncibojciaaDoorW.PrintMore Go.Proofs.YtieifncibojciaaDoor.X
abbrev Ser := S23
def cmpI (a b : Int) : Int := if a < b then -1 else if a > b then 1 else 0
def cmpB (a b : ByteArray) : Int := if (Op.bytesLess a.toList b.toList) = true then -1 else if (Op.bytesLess b.toList a.toList) = true then 1 else 0
def cmpS (a b : Ser) : Int :=
  if a.f0.toList = b.f0.toList then (if a.f2 = b.f2 then (if a.f1 = b.f1 then cmpI a.f3 b.f3 else cmpI a.f1 b.f1) else cmpI a.f2 b.f2) else cmpB a.f0 b.f0
theorem cmpI_f (a b : Int) : cmp_Compare_int.f a b = some (cmpI a b) := by
  unfold cmp_Compare_int.f cmp_isNaN_int.f cmpI
  simp only [bne_self_eq_false, Option.bind_some, Bool.false_eq_true, if_false]
  split
  · rfl
  · split <;> rfl
theorem cmpB_f (a b : ByteArray) : cmp_Compare_string.f a b = some (cmpB a b) := by
  unfold cmp_Compare_string.f cmp_isNaN_string.f cmpB
  simp only [bne_self_eq_false, Option.bind_some, Bool.false_eq_true, if_false]
  split
  · rfl
  · split <;> rfl
theorem cmpS_f (a b : Ser) : series_Compare.f a.f0 a.f1 a.f2 a.f3 b.f0 b.f1 b.f2 b.f3 = some (cmpS a b) := by
  unfold series_Compare.f cmpS
  simp only [cmpI_f, cmpB_f, Option.bind_some]
  by_cases h0 : a.f0.toList = b.f0.toList
  · by_cases h2 : a.f2 = b.f2
    · by_cases h1 : a.f1 = b.f1
      · by_cases h3 : a.f3 = b.f3
        · simp [h0, h1, h2, h3, cmpI]
        · simp [h0, h1, h2, h3]
      · simp [h0, h1, h2]
    · simp [h0, h2]
  · simp [h0]
def eqS (a b : Ser) : Bool := a.f0.toList == b.f0.toList && (a.f1 == b.f1 && (a.f2 == b.f2 && a.f3 == b.f3))
theorem eqS_iff (a b : Ser) : eqS a b = true ↔ a = b := by
  constructor
  · intro h
    simp only [eqS, Bool.and_eq_true, beq_iff_eq] at h
    obtain ⟨h0, h1, h2, h3⟩ := h
    cases a; cases b
    simp only at h0 h1 h2 h3
    have := ba_ext h0
    subst this h1 h2 h3
    rfl
  · rintro rfl
    simp [eqS]
theorem eqS_refl (a : Ser) : eqS a a = true := (eqS_iff a a).2 rfl
theorem eqS_ne {a b : Ser} (h : a ≠ b) : eqS a b = false := by
  cases c : eqS a b with
  | false => rfl
  | true => exact absurd ((eqS_iff a b).1 c) h
theorem neS (a b : Ser) : (!(a.f0.toList == b.f0.toList) || (!(a.f1 == b.f1) || (!(a.f2 == b.f2) || !(a.f3 == b.f3)))) = !eqS a b := by
  unfold eqS
  cases (a.f0.toList == b.f0.toList) <;> cases (a.f1 == b.f1) <;> cases (a.f2 == b.f2) <;> cases (a.f3 == b.f3) <;> rfl
theorem cmpS_lt (a b : Ser) : cmpS a b < 0 ↔ Op.bytesLess a.f0.toList b.f0.toList = true ∨ (a.f0.toList = b.f0.toList ∧ (a.f2 < b.f2 ∨ (a.f2 = b.f2 ∧ (a.f1 < b.f1 ∨ (a.f1 = b.f1 ∧ a.f3 < b.f3))))) := by
  by_cases h0 : a.f0.toList = b.f0.toList
  · have hb : Op.bytesLess a.f0.toList b.f0.toList = false := by rw [h0]; exact bl_self _
    have e : cmpS a b < 0 ↔ (a.f2 < b.f2 ∨ (a.f2 = b.f2 ∧ (a.f1 < b.f1 ∨ (a.f1 = b.f1 ∧ a.f3 < b.f3)))) := by
      unfold cmpS cmpI
      rw [if_pos h0]
      repeat' split
      all_goals omega
    rw [e, hb]
    exact ⟨fun h => Or.inr ⟨h0, h⟩, fun h => h.elim (fun x => by cases x) (fun x => x.2)⟩
  · have e : cmpS a b < 0 ↔ Op.bytesLess a.f0.toList b.f0.toList = true := by
      unfold cmpS cmpB
      rw [if_neg h0]
      by_cases h1 : Op.bytesLess a.f0.toList b.f0.toList = true
      · rw [if_pos h1]; exact ⟨fun _ => h1, fun _ => by omega⟩
      · rw [if_neg h1]
        refine ⟨fun h => ?_, fun h => absurd h h1⟩
        split at h <;> omega
    rw [e]
    exact ⟨Or.inl, fun h => h.elim id (fun x => absurd x.1 h0)⟩
theorem cmpS_zero {a b : Ser} (h : cmpS a b = 0) : a = b := by
  unfold cmpS at h
  by_cases h0 : a.f0.toList = b.f0.toList
  · rw [if_pos h0] at h
    unfold cmpI at h
    have : a.f2 = b.f2 ∧ a.f1 = b.f1 ∧ a.f3 = b.f3 := by
      by_cases h2 : a.f2 = b.f2
      · rw [if_pos h2] at h
        by_cases h1 : a.f1 = b.f1
        · rw [if_pos h1] at h
          refine ⟨h2, h1, ?_⟩
          split at h
          · omega
          · split at h <;> omega
        · rw [if_neg h1] at h
          split at h
          · omega
          · split at h <;> omega
      · rw [if_neg h2] at h
        split at h
        · omega
        · split at h <;> omega
    cases a; cases b
    simp only at h0 this
    have hb := ba_ext h0
    obtain ⟨e2, e1, e3⟩ := this
    subst hb e1 e2 e3
    rfl
  · rw [if_neg h0] at h
    unfold cmpB at h
    by_cases h1 : Op.bytesLess a.f0.toList b.f0.toList = true
    · rw [if_pos h1] at h; omega
    · rw [if_neg h1] at h
      by_cases h2 : Op.bytesLess b.f0.toList a.f0.toList = true
      · rw [if_pos h2] at h; omega
      · exact absurd (bl_eq (by simpa using h1) (by simpa using h2)) h0
theorem cmpS_self (a : Ser) : cmpS a a = 0 := by
  unfold cmpS cmpI
  rw [if_pos rfl, if_pos rfl, if_pos rfl, if_neg (by omega), if_neg (by omega)]
theorem cmpS_trans {a b c : Ser} (h1 : cmpS a b < 0) (h2 : cmpS b c < 0) : cmpS a c < 0 := by
  rw [cmpS_lt] at h1 h2 ⊢
  rcases h1 with h1 | ⟨e1, h1⟩
  · rcases h2 with h2 | ⟨e2, h2⟩
    · exact Or.inl (bl_trans _ _ _ h1 h2)
    · exact Or.inl (by rw [← e2]; exact h1)
  · rcases h2 with h2 | ⟨e2, h2⟩
    · exact Or.inl (by rw [e1]; exact h2)
    · exact Or.inr ⟨e1.trans e2, by omega⟩
theorem cmpS_asymm {a b : Ser} (h : cmpS a b < 0) : ¬ cmpS b a < 0 := fun h2 => by
  have := cmpS_trans h h2
  rw [cmpS_self] at this
  omega
theorem cmpS_total {a b : Ser} (h : ¬ cmpS a b < 0) (h2 : a ≠ b) : cmpS b a < 0 := by
  rw [cmpS_lt] at h ⊢
  by_cases h0 : a.f0.toList = b.f0.toList
  · refine Or.inr ⟨h0.symm, ?_⟩
    have hn : ¬ (a.f2 < b.f2 ∨ (a.f2 = b.f2 ∧ (a.f1 < b.f1 ∨ (a.f1 = b.f1 ∧ a.f3 < b.f3)))) := fun x => h (Or.inr ⟨h0, x⟩)
    have hne : ¬ (a.f2 = b.f2 ∧ a.f1 = b.f1 ∧ a.f3 = b.f3) := by
      rintro ⟨e2, e1, e3⟩
      apply h2
      cases a; cases b
      simp only at h0 e1 e2 e3
      have hb := ba_ext h0
      subst hb e1 e2 e3
      rfl
    omega
  · refine Or.inl ?_
    cases hb : Op.bytesLess b.f0.toList a.f0.toList with
    | true => rfl
    | false =>
      have ha : Op.bytesLess a.f0.toList b.f0.toList = false := by
        cases x : Op.bytesLess a.f0.toList b.f0.toList with
        | false => rfl
        | true => exact absurd (Or.inl x) h
      exact absurd (bl_eq ha hb) h0
end Go.Proofs.YtieifncibojciaaDoor.P
end
section
namespace Go.Proofs.YtieifncibojciaaDoor.P
set_option linter.unusedVariables false
set_option linter.unusedSimpArgs false
open Go.RowKit Go.Proofs.YtieifncibojciaaDoorW.PrintWords Go.Proofs.YtieifncibojciaaDoorW.PrintMore Go.Proofs.YtieifncibojciaaDoor.X
def ltS (a b : Ser) : Prop := cmpS a b < 0
def leS (a b : Ser) : Prop := ¬ cmpS b a < 0
theorem ltS_trans {a b c : Ser} (h1 : ltS a b) (h2 : ltS b c) : ltS a c := cmpS_trans h1 h2
theorem leS_of {a b : Ser} (h : ltS a b) : leS a b := cmpS_asymm h
theorem leS_refl (a : Ser) : leS a a := fun h => by rw [cmpS_self] at h; omega
theorem leS_cases {a b : Ser} (h : leS a b) : a = b ∨ ltS a b := by
  by_cases e : a = b
  · exact Or.inl e
  · exact Or.inr (cmpS_total h (fun x => e x.symm))
theorem leS_lt {a b c : Ser} (h1 : leS a b) (h2 : ltS b c) : ltS a c := by
  rcases leS_cases h1 with rfl | h
  · exact h2
  · exact ltS_trans h h2
theorem leS_trans {a b c : Ser} (h1 : leS a b) (h2 : leS b c) : leS a c := by
  rcases leS_cases h2 with rfl | h
  · exact h1
  · exact leS_of (leS_lt h1 h)
theorem ltS_irr (a : Ser) : ¬ ltS a a := fun h => by unfold ltS at h; rw [cmpS_self] at h; omega
theorem strict_unique : ∀ {a b : List Ser}, a.Pairwise ltS → b.Pairwise ltS → (∀ x, x ∈ a ↔ x ∈ b) → a = b
  | [], [], _, _, _ => rfl
  | [], y :: b, _, _, h => absurd ((h y).2 (by simp)) (by simp)
  | x :: a, [], _, _, h => absurd ((h x).1 (by simp)) (by simp)
  | x :: a, y :: b, ha, hb, h => by
    rw [List.pairwise_cons] at ha hb
    have e : x = y := by
      rcases List.mem_cons.1 ((h x).1 (by simp)) with e | e
      · exact e
      · rcases List.mem_cons.1 ((h y).2 (by simp)) with e2 | e2
        · exact e2.symm
        · exact absurd (ltS_trans (hb.1 x e) (ha.1 y e2)) (ltS_irr y)
    subst e
    congr 1
    refine strict_unique ha.2 hb.2 fun z => ⟨fun hz => ?_, fun hz => ?_⟩
    · rcases List.mem_cons.1 ((h z).1 (by simp [hz])) with e | e
      · subst e; exact absurd (ha.1 z hz) (ltS_irr z)
      · exact e
    · rcases List.mem_cons.1 ((h z).2 (by simp [hz])) with e | e
      · subst e; exact absurd (hb.1 z hz) (ltS_irr z)
      · exact e
def insS (s : Ser) : List Ser → List Ser
  | [] => [s]
  | y :: r => if cmpS s y < 0 then s :: y :: r else if cmpS s y = 0 then y :: r else y :: insS s r
theorem insS_mem (s : Ser) : ∀ (l : List Ser) (x : Ser), x ∈ insS s l ↔ x = s ∨ x ∈ l
  | [], x => by simp [insS]
  | y :: r, x => by
    unfold insS
    by_cases h : cmpS s y < 0
    · rw [if_pos h]; simp
    · rw [if_neg h]
      by_cases h0 : cmpS s y = 0
      · rw [if_pos h0]
        have := cmpS_zero h0
        subst this
        simp
      · rw [if_neg h0, List.mem_cons, insS_mem s r x, List.mem_cons]
        constructor
        · rintro (h | h | h)
          · exact Or.inr (Or.inl h)
          · exact Or.inl h
          · exact Or.inr (Or.inr h)
        · rintro (h | h | h)
          · exact Or.inr (Or.inl h)
          · exact Or.inl h
          · exact Or.inr (Or.inr h)
theorem insS_strict (s : Ser) : ∀ (l : List Ser), l.Pairwise ltS → (insS s l).Pairwise ltS
  | [], _ => by simp [insS]
  | y :: r, h => by
    rw [List.pairwise_cons] at h
    unfold insS
    by_cases h1 : cmpS s y < 0
    · rw [if_pos h1, List.pairwise_cons]
      refine ⟨fun z hz => ?_, List.pairwise_cons.2 h⟩
      rcases List.mem_cons.1 hz with rfl | hz
      · exact h1
      · exact ltS_trans h1 (h.1 z hz)
    · rw [if_neg h1]
      by_cases h0 : cmpS s y = 0
      · rw [if_pos h0]; exact List.pairwise_cons.2 h
      · rw [if_neg h0, List.pairwise_cons]
        refine ⟨fun z hz => ?_, insS_strict s r h.2⟩
        rcases (insS_mem s r z).1 hz with rfl | hz
        · exact cmpS_total h1 fun e => h0 (by rw [e, cmpS_self])
        · exact h.1 z hz
theorem insS_len (s : Ser) : ∀ l : List Ser, (insS s l).length ≤ l.length + 1
  | [] => by simp [insS]
  | y :: r => by
    have := insS_len s r
    unfold insS
    split
    · simp
    · split
      · simp
      · simp; omega
def sortV (l : List Ser) : List Ser := l.foldl (fun o s => insS s o) []
theorem fold_spec : ∀ (l o : List Ser), o.Pairwise ltS → (l.foldl (fun o s => insS s o) o).Pairwise ltS ∧ (∀ x, x ∈ l.foldl (fun o s => insS s o) o ↔ x ∈ o ∨ x ∈ l) ∧ (l.foldl (fun o s => insS s o) o).length ≤ o.length + l.length
  | [], o, h => ⟨h, fun x => by simp, by simp⟩
  | y :: l, o, h => by
    obtain ⟨h1, h2, h3⟩ := fold_spec l (insS y o) (insS_strict y o h)
    rw [List.foldl_cons]
    refine ⟨h1, fun x => ?_, ?_⟩
    · rw [h2, insS_mem, List.mem_cons]
      constructor
      · rintro ((h | h) | h)
        · exact Or.inr (Or.inl h)
        · exact Or.inl h
        · exact Or.inr (Or.inr h)
      · rintro (h | h | h)
        · exact Or.inl (Or.inr h)
        · exact Or.inl (Or.inl h)
        · exact Or.inr h
    · have := insS_len y o
      simp only [List.length_cons]
      omega
theorem sortV_strict (l : List Ser) : (sortV l).Pairwise ltS := (fold_spec l [] (by simp)).1
theorem sortV_mem (l : List Ser) (x : Ser) : x ∈ sortV l ↔ x ∈ l := by have := (fold_spec l [] (by simp)).2.1 x; simpa [sortV] using this
theorem sortV_len (l : List Ser) : (sortV l).length ≤ l.length := by have := (fold_spec l [] (by simp)).2.2; simpa [sortV] using this
theorem sortV_of {l r : List Ser} (h1 : r.Pairwise ltS) (h2 : ∀ x, x ∈ r ↔ x ∈ l) : r = sortV l := strict_unique h1 (sortV_strict l) fun x => (h2 x).trans (sortV_mem l x).symm
theorem rdS (l : List Ser) (i : Nat) (h : i < l.length) : rd_T23 l (i : Int) = l[i] := by simp [rd_T23, h]
theorem merge_loop : ∀ (n : Nat) (a b o : List Ser), a.length + b.length = n → o.length + n ≤ 200000 → a.Pairwise leS → b.Pairwise leS → o.Pairwise leS → (∀ x ∈ o, (∀ y ∈ a, leS x y) ∧ (∀ y ∈ b, leS x y)) → ∃ r, Ev (fun k => api_Series_68.l0 k a b o) r ∧ r.Pairwise leS ∧ (∀ x, x ∈ r ↔ x ∈ o ∨ x ∈ a ∨ x ∈ b) ∧ r.length = o.length + n := by
  have last : ∀ (a b o : List Ser), o.length + (a.length + b.length) ≤ 200000 → a.Pairwise leS → b.Pairwise leS → o.Pairwise leS → (∀ x ∈ o, (∀ y ∈ a, leS x y) ∧ (∀ y ∈ b, leS x y)) → (a = [] ∨ b = []) → ∃ r, Ev (fun k => api_Series_68.l0 k a b o) r ∧ r.Pairwise leS ∧ (∀ x, x ∈ r ↔ x ∈ o ∨ x ∈ a ∨ x ∈ b) ∧ r.length = o.length + (a.length + b.length) := by
    intro a b o hl ha hb ho hc he
    refine ⟨o ++ a ++ b, ?_, ?_, fun x => by simp, by simp⟩
    · refine Ev_succ ?_
      have hj : Ev (fun k => api_Series_68.j1 k a b o false) (o ++ a ++ b) := by
        refine Ev_succ ?_
        simp only [api_Series_68.j1, Bool.false_eq_true, if_false, if_pos (show o.length + a.length < 3518437208883 by omega), Option.bind_some, if_pos (show (o ++ a).length + b.length < 3518437208883 by simp; omega)]
        exact Ev.now _
      rcases he with rfl | rfl
      · simp only [api_Series_68.l0, if_neg (show ¬ ((([] : List Ser).length : Nat) : Int) > 0 by simp)]
        exact hj
      · by_cases c : (a.length : Int) > 0
        · simp only [api_Series_68.l0, if_pos c, decide_eq_false (show ¬ ((([] : List Ser).length : Nat) : Int) > 0 by simp)]
          exact hj
        · simp only [api_Series_68.l0, if_neg c]
          exact hj
    · rw [List.pairwise_append, List.pairwise_append]
      refine ⟨⟨ho, ha, fun x hx y hy => (hc x hx).1 y hy⟩, hb, fun x hx y hy => ?_⟩
      rcases List.mem_append.1 hx with h | h
      · exact (hc x h).2 y hy
      · rcases he with rfl | rfl
        · cases h
        · cases hy
  intro n
  induction n with
  | zero =>
    intro a b o hn hl ha hb ho hc
    have := last a b o (by omega) ha hb ho hc (Or.inl (List.length_eq_zero_iff.1 (by omega)))
    rw [hn] at this
    exact this
  | succ n ih =>
    intro a b o hn hl ha hb ho hc
    rcases a with _ | ⟨x, a⟩
    · have := last [] b o (by simp at hn ⊢; omega) ha hb ho hc (Or.inl rfl)
      rw [hn] at this
      exact this
    rcases b with _ | ⟨y, b⟩
    · have := last (x :: a) [] o (by simp at hn ⊢; omega) ha hb ho hc (Or.inr rfl)
      rw [hn] at this
      exact this
    have ha' := List.pairwise_cons.1 ha
    have hb' := List.pairwise_cons.1 hb
    simp only [List.length_cons] at hn
    have hpa : ((x :: a).length : Int) > 0 := by simp only [List.length_cons]; omega
    have hpb : ((y :: b).length : Int) > 0 := by simp only [List.length_cons]; omega
    have hpa1 : (1 : Int) ≤ ((x :: a).length : Int) := by omega
    have hpb1 : (1 : Int) ≤ ((y :: b).length : Int) := by omega
    have hcmp : series_Compare.f y.f0 y.f1 y.f2 y.f3 x.f0 x.f1 x.f2 x.f3 = some (cmpS y x) := cmpS_f y x
    have ex : rd_T23 (x :: a) 0 = x := rfl
    have ey : rd_T23 (y :: b) 0 = y := rfl
    have go : ∀ r, Ev (fun k => if cmpS y x < 0 then api_Series_68.l0 k (x :: a) b (o ++ [y]) else api_Series_68.l0 k a (y :: b) (o ++ [x])) r → Ev (fun k => api_Series_68.l0 k (x :: a) (y :: b) o) r := by
      intro r hr
      refine Ev_succ (Ev_succ ?_)
      simp only [api_Series_68.l0, api_Series_68.j1, if_pos hpa, decide_eq_true hpb, if_true, if_pos (show 0 < ((y :: b).length : Int) from hpb), if_pos (show 0 < ((x :: a).length : Int) from hpa), ex, ey, hcmp, Option.bind_some, if_pos (show o.length < 3518437208883 by omega), if_pos hpa1, if_pos hpb1]
      exact hr
    by_cases c : cmpS y x < 0
    · obtain ⟨r, h1, h2, h3, h4⟩ := ih (x :: a) b (o ++ [y]) (by simp only [List.length_cons]; omega) (by simp; omega) ha hb'.2
        (by rw [List.pairwise_append]; exact ⟨ho, by simp, fun z hz w hw => by obtain rfl := List.mem_singleton.1 hw; exact (hc z hz).2 w (by simp)⟩)
        (fun z hz => by
          rcases List.mem_append.1 hz with h | h
          · exact ⟨(hc z h).1, fun w hw => (hc z h).2 w (by simp [hw])⟩
          · obtain rfl := List.mem_singleton.1 h
            refine ⟨fun w hw => ?_, hb'.1⟩
            rcases List.mem_cons.1 hw with rfl | hw
            · exact leS_of c
            · exact leS_trans (leS_of c) (ha'.1 w hw))
      refine ⟨r, go r (by simp only [if_pos c]; exact h1), h2, fun z => ?_, by rw [h4]; simp; omega⟩
      rw [h3]
      simp only [List.mem_append, List.mem_cons, List.not_mem_nil, or_false]
      constructor
      · rintro ((h | h) | (h | h) | h)
        · exact Or.inl h
        · exact Or.inr (Or.inr (Or.inl h))
        · exact Or.inr (Or.inl (Or.inl h))
        · exact Or.inr (Or.inl (Or.inr h))
        · exact Or.inr (Or.inr (Or.inr h))
      · rintro (h | (h | h) | h | h)
        · exact Or.inl (Or.inl h)
        · exact Or.inr (Or.inl (Or.inl h))
        · exact Or.inr (Or.inl (Or.inr h))
        · exact Or.inl (Or.inr h)
        · exact Or.inr (Or.inr h)
    · obtain ⟨r, h1, h2, h3, h4⟩ := ih a (y :: b) (o ++ [x]) (by simp only [List.length_cons]; omega) (by simp; omega) ha'.2 hb
        (by rw [List.pairwise_append]; exact ⟨ho, by simp, fun z hz w hw => by obtain rfl := List.mem_singleton.1 hw; exact (hc z hz).1 w (by simp)⟩)
        (fun z hz => by
          rcases List.mem_append.1 hz with h | h
          · exact ⟨fun w hw => (hc z h).1 w (by simp [hw]), (hc z h).2⟩
          · obtain rfl := List.mem_singleton.1 h
            refine ⟨ha'.1, fun w hw => ?_⟩
            rcases List.mem_cons.1 hw with rfl | hw
            · exact c
            · exact leS_trans c (hb'.1 w hw))
      refine ⟨r, go r (by simp only [if_neg c]; exact h1), h2, fun z => ?_, by rw [h4]; simp; omega⟩
      rw [h3]
      simp only [List.mem_append, List.mem_cons, List.not_mem_nil, or_false]
      constructor
      · rintro ((h | h) | h | h | h)
        · exact Or.inl h
        · exact Or.inr (Or.inl (Or.inl h))
        · exact Or.inr (Or.inl (Or.inr h))
        · exact Or.inr (Or.inr (Or.inl h))
        · exact Or.inr (Or.inr (Or.inr h))
      · rintro (h | (h | h) | h | h)
        · exact Or.inl (Or.inl h)
        · exact Or.inl (Or.inr h)
        · exact Or.inr (Or.inl h)
        · exact Or.inr (Or.inr (Or.inl h))
        · exact Or.inr (Or.inr (Or.inr h))
theorem sorted_f : ∀ (n : Nat) (l : List Ser), l.length ≤ n → l.length ≤ 100000 → ∃ r, Ev (fun k => api_Series_68.f k l) r ∧ r.Pairwise leS ∧ (∀ x, x ∈ r ↔ x ∈ l) ∧ r.length = l.length := by
  intro n
  induction n with
  | zero =>
    intro l hn hl
    obtain rfl : l = [] := List.length_eq_zero_iff.1 (by omega)
    refine ⟨[], Ev_succ ?_, by simp, fun x => by simp, rfl⟩
    simp only [api_Series_68.f]
    exact Ev.now _
  | succ n ih =>
    intro l hn hl
    by_cases c : (l.length : Int) < 2
    · refine ⟨l, Ev_succ ?_, ?_, fun x => Iff.rfl, rfl⟩
      · simp only [api_Series_68.f, if_pos c, List.nil_append, if_pos (show ([] : List Ser).length + l.length < 3518437208883 by simp; omega)]
        exact Ev.now _
      · rcases l with _ | ⟨x, _ | ⟨y, r⟩⟩
        · simp
        · simp
        · simp at c; omega
    · have hw : wrap64 ((l.length : Int) / 2) = ((l.length / 2 : Nat) : Int) := by rw [w_id (by omega) (by omega)]; omega
      obtain ⟨a, a1, a2, a3, a4⟩ := ih (l.take (l.length / 2)) (by rw [List.length_take]; omega) (by rw [List.length_take]; omega)
      obtain ⟨b, b1, b2, b3, b4⟩ := ih (l.drop (l.length / 2)) (by rw [List.length_drop]; omega) (by rw [List.length_drop]; omega)
      rw [List.length_take] at a4
      rw [List.length_drop] at b4
      obtain ⟨r, r1, r2, r3, r4⟩ := merge_loop l.length a b [] (by omega) (by simp; omega) a2 b2 (by simp) (by simp)
      refine ⟨r, Ev_succ ?_, r2, fun x => ?_, by simpa using r4⟩
      · simp only [api_Series_68.f, if_neg c, hw, if_pos (show (0 : Int) ≤ ((l.length / 2 : Nat) : Int) by omega), if_pos (show ((l.length / 2 : Nat) : Int) ≤ (l.length : Int) by omega), Int.toNat_natCast, if_pos (show l.length ≤ 7036874417766 by omega)]
        exact Ev_bind a1 (Ev_bind b1 r1)
      · rw [r3, a3, b3]
        simp only [List.not_mem_nil, false_or]
        rw [← List.mem_append, List.take_append_drop]
theorem dedup_loop (l : List Ser) (hl : l.length ≤ 100000) (hs : l.Pairwise leS) : ∀ (d i : Nat) (o : List Ser), i + d = l.length → o.Pairwise ltS → (∀ x, x ∈ o ↔ x ∈ l.take i) → (i = 0 → o = []) → (∀ (h : 0 < i), ∃ p, o.getLast? = some p ∧ l[i - 1]? = some p) → o.length ≤ i → ∃ r, Ev (fun k => series_Sort.l0 k o l l.length (i : Int)) r ∧ r.Pairwise ltS ∧ (∀ x, x ∈ r ↔ x ∈ l)
  | 0, i, o, hd, h1, h2, h3, h4, h5 => by
    refine ⟨o, Ev_succ ?_, h1, fun x => ?_⟩
    · simp only [series_Sort.l0, if_neg (show ¬ (i : Int) < (l.length : Int) by omega)]
      exact Ev.now _
    · rw [h2, List.take_of_length_le (by omega)]
  | d + 1, i, o, hd, h1, h2, h3, h4, h5 => by
    have hi : i < l.length := by omega
    have hw := w_succ hi (by omega)
    have hmem : ∀ x, x ∈ l.take (i + 1) ↔ x ∈ l.take i ∨ x = l[i] := fun x => by rw [← List.take_append_getElem hi, List.mem_append, List.mem_singleton]

    have app : (∀ x ∈ o, ltS x l[i]) → ∃ r, Ev (fun k => series_Sort.l0 k (o ++ [l[i]]) l l.length ((i + 1 : Nat) : Int)) r ∧ r.Pairwise ltS ∧ (∀ x, x ∈ r ↔ x ∈ l) := fun hlt =>
      dedup_loop l hl hs d (i + 1) (o ++ [l[i]]) (by omega) (by rw [List.pairwise_append]; exact ⟨h1, by simp, fun x hx y hy => by obtain rfl := List.mem_singleton.1 hy; exact hlt x hx⟩)
        (fun x => by rw [hmem, List.mem_append, h2, List.mem_singleton]) (by omega) (fun _ => ⟨l[i], by simp, by simp [hi]⟩) (by simp; omega)
    by_cases c : (o.length : Int) = 0
    · have ho : o = [] := List.length_eq_zero_iff.1 (by omega)
      obtain ⟨r, r1, r2, r3⟩ := app (by rw [ho]; simp)
      refine ⟨r, Ev_succ ?_, r2, r3⟩
      simp only [series_Sort.l0, if_pos (show (i : Int) < (l.length : Int) by omega), if_pos (show 0 ≤ (i : Int) by omega), rdS l i hi, if_pos c, if_pos (show o.length < 3518437208883 by omega), hw]
      exact r1
    · have hi0 : 0 < i := by omega
      obtain ⟨p, p1, p2⟩ := h4 hi0
      have hon : o ≠ [] := fun e => c (by rw [e]; rfl)
      have hpl : rd_T23 o (wrap64 ((o.length : Int) - 1)) = p := by
        rw [w_pred (by omega) (by omega), rdS o (o.length - 1) (by omega)]
        rw [List.getLast?_eq_getElem?] at p1
        rw [List.getElem?_eq_getElem (by omega)] at p1
        exact Option.some.inj p1
      have hpo : p ∈ o := List.mem_of_getLast? p1
      have hwp : wrap64 ((o.length : Int) - 1) = ((o.length - 1 : Nat) : Int) := w_pred (by omega) (by omega)
      have hall : ∀ x ∈ o, leS x p := by
        intro x hx
        have hne := List.dropLast_concat_getLast hon
        have hlast : o.getLast hon = p := by
          rw [List.getLast?_eq_some_getLast hon] at p1
          exact Option.some.inj p1
        rw [← hne] at hx h1
        rw [List.pairwise_append] at h1
        rcases List.mem_append.1 hx with h | h
        · rw [← hlast]; exact leS_of (h1.2.2 x h _ (by simp))
        · rw [List.mem_singleton.1 h, hlast]; exact leS_refl p
      have hpi : leS p l[i] := by
        have h6 := List.pairwise_iff_getElem.1 hs (i - 1) i (by omega) hi (by omega)
        have h7 : l[i - 1]'(by omega) = p := by
          rw [List.getElem?_eq_getElem (by omega)] at p2
          exact Option.some.inj p2
        rw [h7] at h6
        exact h6
      by_cases e : p = l[i]
      · obtain ⟨r, r1, r2, r3⟩ := dedup_loop l hl hs d (i + 1) o (by omega) h1 (fun x => by
          rw [hmem, h2]
          constructor
          · exact Or.inl
          · rintro (h | h)
            · exact h
            · rw [h, ← e]; exact (h2 p).1 hpo) (by omega) (fun _ => ⟨p, p1, by rw [e]; simp [hi]⟩) (by omega)
        refine ⟨r, Ev_succ ?_, r2, r3⟩
        have hb : (!(p.f0.toList == l[i].f0.toList) || (!(p.f1 == l[i].f1) || (!(p.f2 == l[i].f2) || !(p.f3 == l[i].f3)))) = false := by rw [neS, e, eqS_refl]; rfl
        simp only [series_Sort.l0, if_pos (show (i : Int) < (l.length : Int) by omega), if_pos (show 0 ≤ (i : Int) by omega), rdS l i hi, if_neg c, hpl, hb, Bool.false_eq_true, if_false, hwp, if_pos (show (0 : Int) ≤ ((o.length - 1 : Nat) : Int) by omega), if_pos (show ((o.length - 1 : Nat) : Int) < (o.length : Int) by omega), hw]
        rw [← hwp, hpl]
        simp only [hb, Bool.false_eq_true, if_false]
        exact r1
      · have hlt : ltS p l[i] := (leS_cases hpi).resolve_left e
        obtain ⟨r, r1, r2, r3⟩ := app fun x hx => leS_lt (hall x hx) hlt
        refine ⟨r, Ev_succ ?_, r2, r3⟩
        have hb : (!(p.f0.toList == l[i].f0.toList) || (!(p.f1 == l[i].f1) || (!(p.f2 == l[i].f2) || !(p.f3 == l[i].f3)))) = true := by rw [neS, eqS_ne e]; rfl
        simp only [series_Sort.l0, if_pos (show (i : Int) < (l.length : Int) by omega), if_pos (show 0 ≤ (i : Int) by omega), rdS l i hi, if_neg c, hpl, hb, if_true, hwp, if_pos (show (0 : Int) ≤ ((o.length - 1 : Nat) : Int) by omega), if_pos (show ((o.length - 1 : Nat) : Int) < (o.length : Int) by omega), if_pos (show o.length < 3518437208883 by omega), hw]
        rw [← hwp, hpl]
        simp only [hb, if_true]
        exact r1
theorem sort_f (l : List Ser) (hl : l.length ≤ 40000) : Ev (fun k => series_Sort.f k l) (sortV l) := by
  unfold series_Sort.f
  obtain ⟨t, t1, t2, t3, t4⟩ := sorted_f l.length l (Nat.le_refl _) (by omega)
  refine Ev_bind t1 ?_
  obtain ⟨r, r1, r2, r3⟩ := dedup_loop t (by omega) t2 t.length 0 [] (by omega) (by simp) (by simp) (fun _ => rfl) (by omega) (by simp)
  rw [← sortV_of r2 fun x => (r3 x).trans (t3 x)]
  exact r1
theorem same_loopS (l : List Ser) (hl : l.length ≤ 100000) : ∀ (d i : Nat), i + d = l.length → Ev (fun k => contangoref10_Same.l0 k l l (i : Int)) true
  | 0, i, hd => by
    refine Ev_succ ?_
    simp only [contangoref10_Same.l0, if_neg (show ¬ (i : Int) < (l.length : Int) by omega)]
    exact Ev.now _
  | d + 1, i, hd => by
    have hi : i < l.length := by omega
    refine Ev_succ ?_
    simp only [contangoref10_Same.l0, if_pos (show (i : Int) < (l.length : Int) by omega), if_pos (show 0 ≤ (i : Int) by omega), beq_self_eq_true, Bool.not_true, Bool.or_self, Bool.false_eq_true, if_false, w_succ hi (by omega)]
    exact same_loopS l hl d (i + 1) (by omega)
theorem sameS_f (l : List Ser) (hl : l.length ≤ 100000) : Ev (fun k => contangoref10_Same.f k l l) true := by
  unfold contangoref10_Same.f
  simp only [if_true]
  exact same_loopS l hl l.length 0 (by omega)
end Go.Proofs.YtieifncibojciaaDoor.P
end
section
namespace Go.Proofs.YtieifncibojciaaDoor.P
set_option linter.unusedVariables false
set_option linter.unusedSimpArgs false
open Go.RowKit Go.Proofs.YtieifncibojciaaDoorW.PrintWords Go.Proofs.YtieifncibojciaaDoorW.PrintMore Go.Proofs.YtieifncibojciaaDoor.X
theorem sameB_eq (a b : Ser) : sameB a b = eqS a b := rfl
theorem posS_mem (s : Ser) : ∀ (l : List Ser) (i : Int), (posS s l i).2 = true ↔ s ∈ l
  | [], i => by simp [posS]
  | x :: r, i => by
    unfold posS
    rw [sameB_eq]
    by_cases h : eqS x s = true
    · rw [if_pos h, (eqS_iff x s).1 h]; simp
    · rw [if_neg h, posS_mem s r (i + 1), List.mem_cons]
      constructor
      · exact Or.inr
      · rintro (e | e)
        · exact absurd (by rw [e]; exact eqS_refl x) h
        · exact e
theorem posS_at (s : Ser) : ∀ (l : List Ser) (i : Nat), (posS s l (i : Int)).2 = true → ∃ j : Nat, ∃ h : j < l.length, (posS s l (i : Int)).1 = ((i + j : Nat) : Int) ∧ l[j] = s
  | [], i, h => by simp [posS] at h
  | x :: r, i, h => by
    unfold posS at h ⊢
    rw [sameB_eq] at h ⊢
    by_cases c : eqS x s = true
    · rw [if_pos c]
      exact ⟨0, by simp, rfl, (eqS_iff x s).1 c⟩
    · rw [if_neg c] at h ⊢
      have e : (i : Int) + 1 = ((i + 1 : Nat) : Int) := by omega
      rw [e] at h ⊢
      obtain ⟨j, hj, h1, h2⟩ := posS_at s r (i + 1) h
      exact ⟨j + 1, by simp; omega, by rw [h1]; congr 1; omega, by simpa using h2⟩
end Go.Proofs.YtieifncibojciaaDoor.P
end
section
namespace Go.Proofs.YtieifncibojciaaDoor.P
open Go.RowKit Go.Proofs.YtieifncibojciaaDoorW.PrintWords Go.Proofs.YtieifncibojciaaDoorW.PrintMore Go.Proofs.YtieifncibojciaaDoor.X
set_option maxRecDepth 100000 in
theorem goes10 : Ev (fun k => contangolaw10_goes.f k) true := Ev.of (k := 60) (contangolaw10_goes.mono) (by decide +kernel)
end Go.Proofs.YtieifncibojciaaDoor.P
end
section
namespace Go.Proofs.YtieifncibojciaaDoor.Pure
set_option linter.unusedVariables false
set_option linter.unusedSimpArgs false
open Go.RowKit Go.Proofs.YtieifncibojciaaDoorW.PrintWords Go.Proofs.YtieifncibojciaaDoorW.PrintMore Go.Proofs.YtieifncibojciaaDoor.X Go.Proofs.YtieifncibojciaaDoor.P
theorem once_end (l : List Ser) (hl : l.length ≤ 300) : Ev (fun k => (series_Sort.f k (sortV l)).bind fun t117 => ((contangoref10_Same.f k t117 (sortV l)).bind fun t120 => (if t120 = true then ((contangolaw10_goes.f k).bind fun t121 => (some t121)) else (none)))) true := by
  have hle := sortV_len l
  have h := sort_f (sortV l) (by omega)
  rw [← sortV_of (sortV_strict l) (fun x => Iff.rfl)] at h
  refine Ev_bind h ?_
  refine Ev_bind (sameS_f (sortV l) (by omega)) ?_
  simp only [if_true]
  exact Ev_id goes10
theorem once_l1 (l : List Ser) (hl : l.length ≤ 300) : ∀ (d i : Nat), i + d = l.length → Ev (fun k => contangolaw10_SeriesOnce.l1 k l (sortV l) l.length (i : Int)) true
  | 0, i, hd => by
    refine Ev_succ ?_
    simp only [contangolaw10_SeriesOnce.l1, if_neg (show ¬ (i : Int) < (l.length : Int) by omega)]
    exact once_end l hl
  | d + 1, i, hd => by
    have hi : i < l.length := by omega
    have hle := sortV_len l
    have hm : (posS l[i] (sortV l) 0).2 = true := (posS_mem _ _ _).2 ((sortV_mem l _).2 (List.getElem_mem hi))
    obtain ⟨j, hj, h1, h2⟩ := posS_at l[i] (sortV l) 0 hm
    rw [Nat.zero_add] at h1
    have h1' : (posS l[i] (sortV l) 0).1 = (j : Int) := h1
    have hp : series_Place.f (sortV l) l[i].f0 l[i].f1 l[i].f2 l[i].f3 = some (posS l[i] (sortV l) 0) := rfl
    have hb : (!(l[i].f0.toList == l[i].f0.toList) || (!(l[i].f1 == l[i].f1) || (!(l[i].f2 == l[i].f2) || !(l[i].f3 == l[i].f3)))) = false := by simp
    have hr : rd_T23 (sortV l) (j : Int) = l[i] := by rw [rdS _ j hj, h2]
    refine Ev_succ ?_
    simp only [contangolaw10_SeriesOnce.l1, if_pos (show (i : Int) < (l.length : Int) by omega), if_pos (show 0 ≤ (i : Int) by omega), rdS l i hi, hp, Option.bind_some, if_pos hm, h1', if_neg (show ¬ (j : Int) < 0 by omega), if_neg (show ¬ (j : Int) ≥ ((sortV l).length : Int) by omega), if_pos (show 0 ≤ (j : Int) by omega), if_pos (show (j : Int) < ((sortV l).length : Int) by omega), hr, hb, Bool.false_eq_true, if_false, w_succ hi (by omega)]
    exact once_l1 l hl d (i + 1) (by omega)
theorem once_l0 (l : List Ser) (hl : l.length ≤ 300) : ∀ (d i : Nat), i + d = (sortV l).length → Ev (fun k => contangolaw10_SeriesOnce.l0 k l (sortV l) (sortV l).length (i : Int)) true
  | 0, i, hd => by
    refine Ev_succ ?_
    simp only [contangolaw10_SeriesOnce.l0, if_neg (show ¬ (i : Int) < ((sortV l).length : Int) by omega)]
    exact once_l1 l hl l.length 0 (by omega)
  | d + 1, i, hd => by
    have hi : i < (sortV l).length := by omega
    have hle := sortV_len l
    have hm : (posS (sortV l)[i] l 0).2 = true := (posS_mem _ _ _).2 ((sortV_mem l _).1 (List.getElem_mem hi))
    have hp : series_Place.f l (sortV l)[i].f0 (sortV l)[i].f1 (sortV l)[i].f2 (sortV l)[i].f3 = some (posS (sortV l)[i] l 0) := rfl
    refine Ev_succ ?_
    by_cases c : (i : Int) > 0
    · have hwp : wrap64 ((i : Int) - 1) = ((i - 1 : Nat) : Int) := w_pred (by omega) (by omega)
      have hc := cmpS_f (sortV l)[i - 1] (sortV l)[i]
      have hlt := List.pairwise_iff_getElem.1 (sortV_strict l) (i - 1) i (by omega) hi (by omega)
      have h1 : cmpS (sortV l)[i - 1] (sortV l)[i] = -1 := by
        unfold ltS at hlt
        have : ∀ a b : Ser, cmpS a b = -1 ∨ cmpS a b = 0 ∨ cmpS a b = 1 := fun a b => by unfold cmpS cmpB cmpI; repeat' first | split | omega
        have := this (sortV l)[i - 1] (sortV l)[i]
        omega
      rw [h1] at hc
      simp only [contangolaw10_SeriesOnce.l0, if_pos (show (i : Int) < ((sortV l).length : Int) by omega), if_pos (show 0 ≤ (i : Int) by omega), rdS _ i hi, hp, Option.bind_some, if_pos hm, if_pos c, hwp, if_pos (show (0 : Int) ≤ ((i - 1 : Nat) : Int) by omega), if_pos (show ((i - 1 : Nat) : Int) < ((sortV l).length : Int) by omega), rdS (sortV l) (i - 1) (by omega), hc, if_true, w_succ hi (by omega)]
      exact once_l0 l hl d (i + 1) (by omega)
    · simp only [contangolaw10_SeriesOnce.l0, if_pos (show (i : Int) < ((sortV l).length : Int) by omega), if_pos (show 0 ≤ (i : Int) by omega), rdS _ i hi, hp, Option.bind_some, if_pos hm, if_neg c, w_succ hi (by omega)]
      exact once_l0 l hl d (i + 1) (by omega)
theorem SeriesOnce : ∀ (l0 : List (S23)), (l0.length ≤ maxLen ∧ l0.length * 40 ≤ 140737488351232 ∧ ∀ x ∈ l0, ok23 x) → ∃ k, X.contangolaw10_SeriesOnce.f k l0 = some true := by
  intro l h0
  refine Ev.rounds ?_
  unfold contangolaw10_SeriesOnce.f contangolaw10_few.f
  simp only [Option.bind_some]
  by_cases c : decide ((l.length : Int) ≤ 300) = true
  · have hl : l.length ≤ 300 := by have := of_decide_eq_true c; omega
    simp only [if_pos c]
    refine Ev_bind (sort_f l (by omega)) ?_
    exact once_l0 l hl (sortV l).length 0 (by omega)
  · simp only [if_neg c]
    exact Ev_id goes10
end Go.Proofs.YtieifncibojciaaDoor.Pure
end
