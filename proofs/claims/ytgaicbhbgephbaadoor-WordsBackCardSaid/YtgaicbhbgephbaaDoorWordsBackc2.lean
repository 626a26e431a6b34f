/- For WordsBack: contracts, and facts on lists and numbers, that it uses (part 2). -/
import Derived.ChangeArms
import Derived.Deep.Slices
import Derived.Laws.BitsLemmas
import Derived.Laws.Strings
import Derived.Lib.Bytealg
import Derived.OpenShut
import Derived.SizedLaws
import Derived.Test.YtgaicbhbgephbaaDoorWordsBackc1
import Derived.WideShapes
section
namespace Go.Proofs.YtgaicbhbgephbaaDoor.X
open Go.RowKit Go.Proofs.YtgaicbhbgephbaaDoorW.PrintWords Go.Proofs.YtgaicbhbgephbaaDoorW.PrintLast Go.Proofs.YtgaicbhbgephbaaDoorW.PrintMore
attribute [local go_sem] max2_int min2_int max_two min_two max_three min_three max_four min_four
set_option linter.unusedVariables false
set_option linter.unusedSimpArgs false
mutual
def contangolaw03_WordsBack.j0 : Nat → Int → ByteArray → Bool → Option (Bool)
  | 0, _, _, _ => none
  | k + 1, x0, x1, x5 => (words_Text.f x0).bind fun t101 => ((words_Int.f k t101).bind fun bt102 => ((words_Money.f x0).bind fun t104 => ((words_Cents.f k t104).bind fun bt105 => (if x5 = true then (if bt102.1 = x0 then (if bt102.2 = 0 then (if bt105.1 = x0 then (if bt105.2 = 0 then (contangolaw03_WordsBack.j1 k x1 false) else (contangolaw03_WordsBack.j1 k x1 true)) else (contangolaw03_WordsBack.j1 k x1 true)) else (contangolaw03_WordsBack.j1 k x1 true)) else (contangolaw03_WordsBack.j1 k x1 true)) else (if bt102.2 = 3 then (contangolaw03_WordsBack.j1 k x1 (bt105.2 != 3)) else (contangolaw03_WordsBack.j1 k x1 true))))))
def contangolaw03_WordsBack.j1 : Nat → ByteArray → Bool → Option (Bool)
  | 0, _, _ => none
  | k + 1, x1, x62 => if x62 = true then (none) else ((words_Int.f k x1).bind fun bt107 => ((words_Cents.f k x1).bind fun bt109 => (if bt107.2 = 0 then ((words_Text.f bt107.1).bind fun t111 => (if t111.toList = x1.toList then (if bt109.2 = 0 then ((words_Money.f bt109.1).bind fun t112 => (if t112.toList = x1.toList then (none) else (none))) else ((contangolaw03_goes.f k).bind fun t113 => (some t113))) else (none))) else (if bt109.2 = 0 then ((words_Money.f bt109.1).bind fun t114 => (if t114.toList = x1.toList then ((contangolaw03_goes.f k).bind fun t115 => (some t115)) else (none))) else ((contangolaw03_goes.f k).bind fun t116 => (some t116))))))
end
def contangolaw03_WordsBack.f (k : Nat) (a0 : Int) (a1 : ByteArray) : Option (Bool) := if a0 ≥ (-1152921504606846976) then (contangolaw03_WordsBack.j0 k a0 a1 (decide (a0 ≤ 1152921504606846976))) else (contangolaw03_WordsBack.j0 k a0 a1 false)
set_option maxHeartbeats 8000000 in
set_option maxRecDepth 100000 in
theorem contangolaw03_WordsBack.calls (k : Nat) (a0 : Int) (a1 : ByteArray) (r : Bool) (w : World) (h : contangolaw03_WordsBack.f k a0 a1 = some r) :
    Calls Tryd.prog 7 #[.int .i64 a0, .string a1] w fun e w' => e = .returned (.bool r) ∧ Below w.heap.size w w' := by
  have HB := Aside0.mk (Below.refl w.heap.size w)
  have H : (if a0 ≥ (-1152921504606846976) then (contangolaw03_WordsBack.j0 k a0 a1 (decide (a0 ≤ 1152921504606846976))) else (contangolaw03_WordsBack.j0 k a0 a1 false)) = some r := h
  clear h
  have HC3 := Aside0.mk H
  clear H
  go_enter Tryd.func7, Tryd.ntmps7
  go_upto_region 1 with (fail)
  go_cut [5] (fun v5 wc => ∃ (kq : Nat) (x5_2 : Bool), v5 = .bool x5_2 ∧ Aside0 (contangolaw03_WordsBack.j0 kq a0 a1 x5_2 = some r) ∧ Aside0 (kq ≤ k) ∧ Aside0 (Below w.heap.size w wc))
  case first =>
    have H := HC3.out
    clear HC3
    by_cases c4 : a0 ≥ (-1152921504606846976)
    · rw [if_pos c4] at H
      have c4b0 : decide ((-1152921504606846976) ≤ a0) = true := decide_eq_true c4
      clear c4
      (first | rw [c4b0] | (simp only [i64_w, i32_w]; rw [c4b0]) | skip)
      have H' := Aside0.mk H
      clear H
      go_wp2
      go_meet
      case rel => exact ⟨_, (decide (a0 ≤ 1152921504606846976)), (by first | rfl | (simp; done) | (simp [*]; done)), H', ⟨by first | omega | exact Nat.le_refl _⟩, ⟨by repeat (first | (with_reducible first | exact HB.out | apply below_alloc | apply pw_below_drewN | apply below_drew1) | exact HB.out)⟩⟩
    · rw [if_neg c4] at H
      have c4b0 : decide ((-1152921504606846976) ≤ a0) = false := decide_eq_false c4
      clear c4
      (first | rw [c4b0] | (simp only [i64_w, i32_w]; rw [c4b0]) | skip)
      have H' := Aside0.mk H
      clear H
      go_wp2
      go_meet
      case rel => exact ⟨_, (false), (by first | rfl | (simp; done) | (simp [*]; done)), H', ⟨by first | omega | exact Nat.le_refl _⟩, ⟨by repeat (first | (with_reducible first | exact HB.out | apply below_alloc | apply pw_below_drewN | apply below_drew1) | exact HB.out)⟩⟩
  case rest =>
    clear HC3
    try clear p2
    try clear c4
    try clear c4b0
    obtain ⟨kq, x5_2, rfl, HA, HJ2, HB⟩ := hcut
    cases kq with
    | zero => exact absurd HA.out (by simp [contangolaw03_WordsBack.j0])
    | succ kj2 =>
      have H := HA.out
      clear HA
      simp only [contangolaw03_WordsBack.j0] at H
      replace H := Option.bind_eq_some_iff.mp H
      obtain ⟨t101, A50, H⟩ := H
      replace H : ((words_Int.f kj2 t101).bind fun bt102 => ((words_Money.f a0).bind fun t104 => ((words_Cents.f kj2 t104).bind fun bt105 => (if x5_2 = true then (if bt102.1 = a0 then (if bt102.2 = 0 then (if bt105.1 = a0 then (if bt105.2 = 0 then (contangolaw03_WordsBack.j1 kj2 a1 false) else (contangolaw03_WordsBack.j1 kj2 a1 true)) else (contangolaw03_WordsBack.j1 kj2 a1 true)) else (contangolaw03_WordsBack.j1 kj2 a1 true)) else (contangolaw03_WordsBack.j1 kj2 a1 true)) else (if bt102.2 = 3 then (contangolaw03_WordsBack.j1 kj2 a1 (bt105.2 != 3)) else (contangolaw03_WordsBack.j1 kj2 a1 true)))))) = some r := H
      have A5 := Aside0.mk A50
      clear A50
      replace H := Option.bind_eq_some_iff.mp H
      obtain ⟨⟨t102, t103⟩, A60, H⟩ := H
      replace H : ((words_Money.f a0).bind fun t104 => ((words_Cents.f kj2 t104).bind fun bt105 => (if x5_2 = true then (if t102 = a0 then (if t103 = 0 then (if bt105.1 = a0 then (if bt105.2 = 0 then (contangolaw03_WordsBack.j1 kj2 a1 false) else (contangolaw03_WordsBack.j1 kj2 a1 true)) else (contangolaw03_WordsBack.j1 kj2 a1 true)) else (contangolaw03_WordsBack.j1 kj2 a1 true)) else (contangolaw03_WordsBack.j1 kj2 a1 true)) else (if t103 = 3 then (contangolaw03_WordsBack.j1 kj2 a1 (bt105.2 != 3)) else (contangolaw03_WordsBack.j1 kj2 a1 true))))) = some r := H
      have A6 := Aside0.mk A60
      clear A60
      replace H := Option.bind_eq_some_iff.mp H
      obtain ⟨t104, A70, H⟩ := H
      replace H : ((words_Cents.f kj2 t104).bind fun bt105 => (if x5_2 = true then (if t102 = a0 then (if t103 = 0 then (if bt105.1 = a0 then (if bt105.2 = 0 then (contangolaw03_WordsBack.j1 kj2 a1 false) else (contangolaw03_WordsBack.j1 kj2 a1 true)) else (contangolaw03_WordsBack.j1 kj2 a1 true)) else (contangolaw03_WordsBack.j1 kj2 a1 true)) else (contangolaw03_WordsBack.j1 kj2 a1 true)) else (if t103 = 3 then (contangolaw03_WordsBack.j1 kj2 a1 (bt105.2 != 3)) else (contangolaw03_WordsBack.j1 kj2 a1 true)))) = some r := H
      have A7 := Aside0.mk A70
      clear A70
      replace H := Option.bind_eq_some_iff.mp H
      obtain ⟨⟨t105, t106⟩, A80, H⟩ := H
      replace H : (if x5_2 = true then (if t102 = a0 then (if t103 = 0 then (if t105 = a0 then (if t106 = 0 then (contangolaw03_WordsBack.j1 kj2 a1 false) else (contangolaw03_WordsBack.j1 kj2 a1 true)) else (contangolaw03_WordsBack.j1 kj2 a1 true)) else (contangolaw03_WordsBack.j1 kj2 a1 true)) else (contangolaw03_WordsBack.j1 kj2 a1 true)) else (if t103 = 3 then (contangolaw03_WordsBack.j1 kj2 a1 (t106 != 3)) else (contangolaw03_WordsBack.j1 kj2 a1 true))) = some r := H
      have A8 := Aside0.mk A80
      clear A80
      have HC9 := Aside0.mk H
      clear H
      go_upto_region 4 with (first | ((with_reducible refine gate_callee (f := 22) rfl ?_); refine goesL_ (some 22) rfl rfl Tryd.func22 (by kernel_rfl) rfl #[.int .i64 a0] rfl (by (try simp only [List.map_toArray, List.map_cons, List.map_nil]); first | done | rfl | (simp only [List.length_drop, List.length_take]; rfl)) ?_; (with_reducible refine (words_Text.calls a0 t101 _ A5.out).mono ?_); rintro e w10 ⟨rfl, hb⟩; refine ⟨_, rfl, ?_⟩; have n0_ := Aside0.mk (below_step (by repeat (first | (with_reducible first | exact HB.out | apply below_alloc | apply pw_below_drewN | apply below_drew1) | exact HB.out)) hb); clear HB; have HB := n0_; clear n0_; (try clear hb); (try clear hb2); (try clear hk); (try clear hi)) | ((with_reducible refine gate_callee (f := 8) rfl ?_); refine goesL_ (some 23) rfl rfl Tryd.func8 (by kernel_rfl) rfl #[.string t101] rfl (by (try simp only [List.map_toArray, List.map_cons, List.map_nil]); first | done | rfl | (simp only [List.length_drop, List.length_take]; rfl)) ?_; (with_reducible refine (words_Int.calls kj2 t101 t102 t103 _ A6.out).mono ?_); rintro e w' ⟨rfl, ⟨nd, rfl⟩⟩; refine ⟨_, rfl, ?_⟩) | ((with_reducible refine gate_callee (f := 24) rfl ?_); refine goesL_ (some 28) rfl rfl Tryd.func24 (by kernel_rfl) rfl #[.int .i64 a0] rfl (by (try simp only [List.map_toArray, List.map_cons, List.map_nil]); first | done | rfl | (simp only [List.length_drop, List.length_take]; rfl)) ?_; (with_reducible refine (words_Money.calls a0 t104 _ A7.out).mono ?_); rintro e w11 ⟨rfl, hb⟩; refine ⟨_, rfl, ?_⟩; have n0_ := Aside0.mk (below_step (by repeat (first | (with_reducible first | exact HB.out | apply below_alloc | apply pw_below_drewN | apply below_drew1) | exact HB.out)) hb); clear HB; have HB := n0_; clear n0_; (try clear hb); (try clear hb2); (try clear hk); (try clear hi)) | ((with_reducible refine gate_callee (f := 10) rfl ?_); refine goesL_ (some 29) rfl rfl Tryd.func10 (by kernel_rfl) rfl #[.string t104] rfl (by (try simp only [List.map_toArray, List.map_cons, List.map_nil]); first | done | rfl | (simp only [List.length_drop, List.length_take]; rfl)) ?_; (with_reducible refine (words_Cents.calls kj2 t104 t105 t106 _ A8.out).mono ?_); rintro e w' ⟨rfl, ⟨nd, rfl⟩⟩; refine ⟨_, rfl, ?_⟩))
      (try simp only [Act.put, List.setIfInBounds_toArray, List.set_cons_zero, List.set_cons_succ])
      go_cut [62] (fun v62 wc => ∃ (kq : Nat) (x62_8 : Bool), v62 = .bool x62_8 ∧ Aside0 (contangolaw03_WordsBack.j1 kq a1 x62_8 = some r) ∧ Aside0 (kq ≤ kj2) ∧ Aside0 (Below w.heap.size w wc))
      case first =>
        have H := HC9.out
        clear HC9
        by_cases c12 : x5_2 = true
        · subst c12
          have H1 : (if t102 = a0 then (if t103 = 0 then (if t105 = a0 then (if t106 = 0 then (contangolaw03_WordsBack.j1 kj2 a1 false) else (contangolaw03_WordsBack.j1 kj2 a1 true)) else (contangolaw03_WordsBack.j1 kj2 a1 true)) else (contangolaw03_WordsBack.j1 kj2 a1 true)) else (contangolaw03_WordsBack.j1 kj2 a1 true)) = some r := by rw [if_pos rfl] at H; exact H
          clear H
          have H := H1
          clear H1
          by_cases c13 : t102 = a0
          · rw [if_pos c13] at H
            have c13b0 : (t102 == a0) = true := beq_iff_eq.mpr c13
            have c13b1 : (t102 != a0) = false := bne_eq_false_iff_eq.mpr c13
            clear c13
            (first | rw [c13b0] | (simp only [i64_w, i32_w]; rw [c13b0]) | skip)
            by_cases c14 : t103 = 0
            · rw [if_pos c14] at H
              have c14b0 : (t103 == 0) = true := beq_iff_eq.mpr c14
              have c14b1 : (t103 != 0) = false := bne_eq_false_iff_eq.mpr c14
              clear c14
              by_cases c15 : t105 = a0
              · rw [if_pos c15] at H
                have c15b0 : (t105 == a0) = true := beq_iff_eq.mpr c15
                have c15b1 : (t105 != a0) = false := bne_eq_false_iff_eq.mpr c15
                clear c15
                by_cases c16 : t106 = 0
                · rw [if_pos c16] at H
                  have c16b0 : (t106 == 0) = true := beq_iff_eq.mpr c16
                  have c16b1 : (t106 != 0) = false := bne_eq_false_iff_eq.mpr c16
                  clear c16
                  have H' := Aside0.mk H
                  clear H
                  go_wp2
                  go_meet
                  case rel => exact ⟨_, (false), (by first | rfl | (simp; done) | (simp [*]; done)), H', ⟨by have := HJ2.out; first | omega | exact Nat.le_refl _⟩, ⟨by repeat (first | (with_reducible first | exact HB.out | apply below_alloc | apply pw_below_drewN | apply below_drew1) | exact HB.out)⟩⟩
                · rw [if_neg c16] at H
                  have c16b0 : (t106 == 0) = false := beq_eq_false_iff_ne.mpr c16
                  have c16b1 : (t106 != 0) = true := bne_iff_ne.mpr c16
                  have H' := Aside0.mk H
                  clear H
                  go_wp2
                  go_meet
                  case rel => exact ⟨_, (true), (by first | rfl | (simp; done) | (simp [*]; done)), H', ⟨by have := HJ2.out; first | omega | exact Nat.le_refl _⟩, ⟨by repeat (first | (with_reducible first | exact HB.out | apply below_alloc | apply pw_below_drewN | apply below_drew1) | exact HB.out)⟩⟩
              · rw [if_neg c15] at H
                have c15b0 : (t105 == a0) = false := beq_eq_false_iff_ne.mpr c15
                have c15b1 : (t105 != a0) = true := bne_iff_ne.mpr c15
                have H' := Aside0.mk H
                clear H
                go_wp2
                go_meet
                case rel => exact ⟨_, (true), (by first | rfl | (simp; done) | (simp [*]; done)), H', ⟨by have := HJ2.out; first | omega | exact Nat.le_refl _⟩, ⟨by repeat (first | (with_reducible first | exact HB.out | apply below_alloc | apply pw_below_drewN | apply below_drew1) | exact HB.out)⟩⟩
            · rw [if_neg c14] at H
              have c14b0 : (t103 == 0) = false := beq_eq_false_iff_ne.mpr c14
              have c14b1 : (t103 != 0) = true := bne_iff_ne.mpr c14
              have H' := Aside0.mk H
              clear H
              go_wp2
              go_meet
              case rel => exact ⟨_, (true), (by first | rfl | (simp; done) | (simp [*]; done)), H', ⟨by have := HJ2.out; first | omega | exact Nat.le_refl _⟩, ⟨by repeat (first | (with_reducible first | exact HB.out | apply below_alloc | apply pw_below_drewN | apply below_drew1) | exact HB.out)⟩⟩
          · rw [if_neg c13] at H
            have c13b0 : (t102 == a0) = false := beq_eq_false_iff_ne.mpr c13
            have c13b1 : (t102 != a0) = true := bne_iff_ne.mpr c13
            (first | rw [c13b0] | (simp only [i64_w, i32_w]; rw [c13b0]) | skip)
            have H' := Aside0.mk H
            clear H
            go_wp2
            go_meet
            case rel => exact ⟨_, (true), (by first | rfl | (simp; done) | (simp [*]; done)), H', ⟨by have := HJ2.out; first | omega | exact Nat.le_refl _⟩, ⟨by repeat (first | (with_reducible first | exact HB.out | apply below_alloc | apply pw_below_drewN | apply below_drew1) | exact HB.out)⟩⟩
        · replace c12 := Bool.eq_false_iff.mpr c12
          subst c12
          have H1 : (if t103 = 3 then (contangolaw03_WordsBack.j1 kj2 a1 (t106 != 3)) else (contangolaw03_WordsBack.j1 kj2 a1 true)) = some r := by rw [if_neg (show ¬ (false = true) by decide)] at H; exact H
          clear H
          have H := H1
          clear H1
          by_cases c17 : t103 = 3
          · rw [if_pos c17] at H
            have c17b0 : (t103 == 3) = true := beq_iff_eq.mpr c17
            have c17b1 : (t103 != 3) = false := bne_eq_false_iff_eq.mpr c17
            clear c17
            have H' := Aside0.mk H
            clear H
            go_wp2
            go_meet
            case rel => exact ⟨_, ((t106 != 3)), (by first | rfl | (simp; done) | (simp [*]; done)), H', ⟨by have := HJ2.out; first | omega | exact Nat.le_refl _⟩, ⟨by repeat (first | (with_reducible first | exact HB.out | apply below_alloc | apply pw_below_drewN | apply below_drew1) | exact HB.out)⟩⟩
          · rw [if_neg c17] at H
            have c17b0 : (t103 == 3) = false := beq_eq_false_iff_ne.mpr c17
            have c17b1 : (t103 != 3) = true := bne_iff_ne.mpr c17
            have H' := Aside0.mk H
            clear H
            go_wp2
            go_meet
            case rel => exact ⟨_, (true), (by first | rfl | (simp; done) | (simp [*]; done)), H', ⟨by have := HJ2.out; first | omega | exact Nat.le_refl _⟩, ⟨by repeat (first | (with_reducible first | exact HB.out | apply below_alloc | apply pw_below_drewN | apply below_drew1) | exact HB.out)⟩⟩
      case rest =>
        clear HC9
        try clear c1
        try clear c2
        try clear p2
        try clear c4
        try clear c4b0
        try clear c7
        try clear c8
        try clear c10
        try clear c12
        try clear c13
        try clear c13b0
        try clear c13b1
        try clear c14
        try clear c14b0
        try clear c14b1
        try clear c15
        try clear c15b0
        try clear c15b1
        try clear c16
        try clear c16b0
        try clear c16b1
        try clear c17
        try clear c17b0
        try clear c17b1
        try clear p2
        obtain ⟨kq, x62_8, rfl, HA, HJ8, HB⟩ := hcut
        cases kq with
        | zero => exact absurd HA.out (by simp [contangolaw03_WordsBack.j1])
        | succ kj8 =>
          have H := HA.out
          clear HA
          simp only [contangolaw03_WordsBack.j1] at H
          by_cases c18 : x62_8 = true
          · subst c18
            have H1 : (none) = some r := by rw [if_pos rfl] at H; exact H
            clear H
            have H := H1
            clear H1
            exact absurd H (by simp)
          · replace c18 := Bool.eq_false_iff.mpr c18
            subst c18
            have H1 : ((words_Int.f kj8 a1).bind fun bt107 => ((words_Cents.f kj8 a1).bind fun bt109 => (if bt107.2 = 0 then ((words_Text.f bt107.1).bind fun t111 => (if t111.toList = a1.toList then (if bt109.2 = 0 then ((words_Money.f bt109.1).bind fun t112 => (if t112.toList = a1.toList then (none) else (none))) else ((contangolaw03_goes.f kj8).bind fun t113 => (some t113))) else (none))) else (if bt109.2 = 0 then ((words_Money.f bt109.1).bind fun t114 => (if t114.toList = a1.toList then ((contangolaw03_goes.f kj8).bind fun t115 => (some t115)) else (none))) else ((contangolaw03_goes.f kj8).bind fun t116 => (some t116)))))) = some r := by rw [if_neg (show ¬ (false = true) by decide)] at H; exact H
            clear H
            have H := H1
            clear H1
            replace H := Option.bind_eq_some_iff.mp H
            obtain ⟨⟨t107, t108⟩, A190, H⟩ := H
            replace H : ((words_Cents.f kj8 a1).bind fun bt109 => (if t108 = 0 then ((words_Text.f t107).bind fun t111 => (if t111.toList = a1.toList then (if bt109.2 = 0 then ((words_Money.f bt109.1).bind fun t112 => (if t112.toList = a1.toList then (none) else (none))) else ((contangolaw03_goes.f kj8).bind fun t113 => (some t113))) else (none))) else (if bt109.2 = 0 then ((words_Money.f bt109.1).bind fun t114 => (if t114.toList = a1.toList then ((contangolaw03_goes.f kj8).bind fun t115 => (some t115)) else (none))) else ((contangolaw03_goes.f kj8).bind fun t116 => (some t116))))) = some r := H
            have A19 := Aside0.mk A190
            clear A190
            replace H := Option.bind_eq_some_iff.mp H
            obtain ⟨⟨t109, t110⟩, A200, H⟩ := H
            replace H : (if t108 = 0 then ((words_Text.f t107).bind fun t111 => (if t111.toList = a1.toList then (if t110 = 0 then ((words_Money.f t109).bind fun t112 => (if t112.toList = a1.toList then (none) else (none))) else ((contangolaw03_goes.f kj8).bind fun t113 => (some t113))) else (none))) else (if t110 = 0 then ((words_Money.f t109).bind fun t114 => (if t114.toList = a1.toList then ((contangolaw03_goes.f kj8).bind fun t115 => (some t115)) else (none))) else ((contangolaw03_goes.f kj8).bind fun t116 => (some t116)))) = some r := H
            have A20 := Aside0.mk A200
            clear A200
            by_cases c21 : t108 = 0
            · rw [if_pos c21] at H
              have c21b0 : (t108 == 0) = true := beq_iff_eq.mpr c21
              have c21b1 : (t108 != 0) = false := bne_eq_false_iff_eq.mpr c21
              clear c21
              replace H := Option.bind_eq_some_iff.mp H
              obtain ⟨t111, A220, H⟩ := H
              replace H : (if t111.toList = a1.toList then (if t110 = 0 then ((words_Money.f t109).bind fun t112 => (if t112.toList = a1.toList then (none) else (none))) else ((contangolaw03_goes.f kj8).bind fun t113 => (some t113))) else (none)) = some r := H
              have A22 := Aside0.mk A220
              clear A220
              by_cases c23 : t111.toList = a1.toList
              · rw [if_pos c23] at H
                have c23b0 : (t111.toList == a1.toList) = true := beq_iff_eq.mpr c23
                have c23b1 : (t111.toList != a1.toList) = false := bne_eq_false_iff_eq.mpr c23
                clear c23
                by_cases c24 : t110 = 0
                · rw [if_pos c24] at H
                  have c24b0 : (t110 == 0) = true := beq_iff_eq.mpr c24
                  have c24b1 : (t110 != 0) = false := bne_eq_false_iff_eq.mpr c24
                  clear c24
                  replace H := Option.bind_eq_some_iff.mp H
                  obtain ⟨t112, A250, H⟩ := H
                  replace H : (if t112.toList = a1.toList then (none) else (none)) = some r := H
                  have A25 := Aside0.mk A250
                  clear A250
                  by_cases c26 : t112.toList = a1.toList
                  · rw [if_pos c26] at H
                    exact absurd H (by simp)
                  · rw [if_neg c26] at H
                    exact absurd H (by simp)
                · rw [if_neg c24] at H
                  have c24b0 : (t110 == 0) = false := beq_eq_false_iff_ne.mpr c24
                  have c24b1 : (t110 != 0) = true := bne_iff_ne.mpr c24
                  replace H := Option.bind_eq_some_iff.mp H
                  obtain ⟨t113, A270, H⟩ := H
                  replace H : (some t113) = some r := H
                  have A27 := Aside0.mk A270
                  clear A270
                  obtain rfl := Option.some.inj H
                  go_wp2_with (first | ((with_reducible refine gate_callee (f := 8) rfl ?_); refine goesL_ (some 65) rfl rfl Tryd.func8 (by kernel_rfl) rfl #[.string a1] rfl (by (try simp only [List.map_toArray, List.map_cons, List.map_nil]); first | done | rfl | (simp only [List.length_drop, List.length_take]; rfl)) ?_; (with_reducible refine (words_Int.calls kj8 a1 t107 t108 _ A19.out).mono ?_); rintro e w' ⟨rfl, ⟨nd, rfl⟩⟩; refine ⟨_, rfl, ?_⟩) | ((with_reducible refine gate_callee (f := 10) rfl ?_); refine goesL_ (some 70) rfl rfl Tryd.func10 (by kernel_rfl) rfl #[.string a1] rfl (by (try simp only [List.map_toArray, List.map_cons, List.map_nil]); first | done | rfl | (simp only [List.length_drop, List.length_take]; rfl)) ?_; (with_reducible refine (words_Cents.calls kj8 a1 t109 t110 _ A20.out).mono ?_); rintro e w' ⟨rfl, ⟨nd, rfl⟩⟩; refine ⟨_, rfl, ?_⟩) | (go_at_call 22; (with_reducible refine (words_Text.calls t107 t111 _ A22.out).mono ?_); rintro e w28 ⟨rfl, hb⟩; have n0_ := Aside0.mk (below_step (by repeat (first | (with_reducible first | exact HB.out | apply below_alloc | apply pw_below_drewN | apply below_drew1) | exact HB.out)) hb); clear HB; have HB := n0_; clear n0_; (try clear hb); (try clear hb2); (try clear hk); (try clear hi)) | (go_at_call 14; (with_reducible refine (contangolaw03_goes.calls kj8  t113 _ A27.out).mono ?_); rintro e w29 ⟨rfl, hb⟩; have n0_ := Aside0.mk (below_step (by repeat (first | (with_reducible first | exact HB.out | apply below_alloc | apply pw_below_drewN | apply below_drew1) | exact HB.out)) hb); clear HB; have HB := n0_; clear n0_; (try clear hb); (try clear hb2); (try clear hk); (try clear hi)))
                  go_ret
                  exact ⟨by first | rfl | (simp [errW_none, errW_some] <;> rfl) | (simp [*, errW_none, errW_some] <;> rfl), by repeat (first | (with_reducible first | exact HB.out | apply below_alloc | apply pw_below_drewN | apply below_drew1) | exact HB.out)⟩
              · rw [if_neg c23] at H
                exact absurd H (by simp)
            · rw [if_neg c21] at H
              have c21b0 : (t108 == 0) = false := beq_eq_false_iff_ne.mpr c21
              have c21b1 : (t108 != 0) = true := bne_iff_ne.mpr c21
              by_cases c30 : t110 = 0
              · rw [if_pos c30] at H
                have c30b0 : (t110 == 0) = true := beq_iff_eq.mpr c30
                have c30b1 : (t110 != 0) = false := bne_eq_false_iff_eq.mpr c30
                clear c30
                replace H := Option.bind_eq_some_iff.mp H
                obtain ⟨t114, A310, H⟩ := H
                replace H : (if t114.toList = a1.toList then ((contangolaw03_goes.f kj8).bind fun t115 => (some t115)) else (none)) = some r := H
                have A31 := Aside0.mk A310
                clear A310
                by_cases c32 : t114.toList = a1.toList
                · rw [if_pos c32] at H
                  have c32b0 : (t114.toList == a1.toList) = true := beq_iff_eq.mpr c32
                  have c32b1 : (t114.toList != a1.toList) = false := bne_eq_false_iff_eq.mpr c32
                  clear c32
                  replace H := Option.bind_eq_some_iff.mp H
                  obtain ⟨t115, A330, H⟩ := H
                  replace H : (some t115) = some r := H
                  have A33 := Aside0.mk A330
                  clear A330
                  obtain rfl := Option.some.inj H
                  go_wp2_with (first | ((with_reducible refine gate_callee (f := 8) rfl ?_); refine goesL_ (some 65) rfl rfl Tryd.func8 (by kernel_rfl) rfl #[.string a1] rfl (by (try simp only [List.map_toArray, List.map_cons, List.map_nil]); first | done | rfl | (simp only [List.length_drop, List.length_take]; rfl)) ?_; (with_reducible refine (words_Int.calls kj8 a1 t107 t108 _ A19.out).mono ?_); rintro e w' ⟨rfl, ⟨nd, rfl⟩⟩; refine ⟨_, rfl, ?_⟩) | ((with_reducible refine gate_callee (f := 10) rfl ?_); refine goesL_ (some 70) rfl rfl Tryd.func10 (by kernel_rfl) rfl #[.string a1] rfl (by (try simp only [List.map_toArray, List.map_cons, List.map_nil]); first | done | rfl | (simp only [List.length_drop, List.length_take]; rfl)) ?_; (with_reducible refine (words_Cents.calls kj8 a1 t109 t110 _ A20.out).mono ?_); rintro e w' ⟨rfl, ⟨nd, rfl⟩⟩; refine ⟨_, rfl, ?_⟩) | (go_at_call 24; (with_reducible refine (words_Money.calls t109 t114 _ A31.out).mono ?_); rintro e w34 ⟨rfl, hb⟩; have n0_ := Aside0.mk (below_step (by repeat (first | (with_reducible first | exact HB.out | apply below_alloc | apply pw_below_drewN | apply below_drew1) | exact HB.out)) hb); clear HB; have HB := n0_; clear n0_; (try clear hb); (try clear hb2); (try clear hk); (try clear hi)) | (go_at_call 14; (with_reducible refine (contangolaw03_goes.calls kj8  t115 _ A33.out).mono ?_); rintro e w35 ⟨rfl, hb⟩; have n0_ := Aside0.mk (below_step (by repeat (first | (with_reducible first | exact HB.out | apply below_alloc | apply pw_below_drewN | apply below_drew1) | exact HB.out)) hb); clear HB; have HB := n0_; clear n0_; (try clear hb); (try clear hb2); (try clear hk); (try clear hi)))
                  go_ret
                  exact ⟨by first | rfl | (simp [errW_none, errW_some] <;> rfl) | (simp [*, errW_none, errW_some] <;> rfl), by repeat (first | (with_reducible first | exact HB.out | apply below_alloc | apply pw_below_drewN | apply below_drew1) | exact HB.out)⟩
                · rw [if_neg c32] at H
                  exact absurd H (by simp)
              · rw [if_neg c30] at H
                have c30b0 : (t110 == 0) = false := beq_eq_false_iff_ne.mpr c30
                have c30b1 : (t110 != 0) = true := bne_iff_ne.mpr c30
                replace H := Option.bind_eq_some_iff.mp H
                obtain ⟨t116, A360, H⟩ := H
                replace H : (some t116) = some r := H
                have A36 := Aside0.mk A360
                clear A360
                obtain rfl := Option.some.inj H
                go_wp2_with (first | ((with_reducible refine gate_callee (f := 8) rfl ?_); refine goesL_ (some 65) rfl rfl Tryd.func8 (by kernel_rfl) rfl #[.string a1] rfl (by (try simp only [List.map_toArray, List.map_cons, List.map_nil]); first | done | rfl | (simp only [List.length_drop, List.length_take]; rfl)) ?_; (with_reducible refine (words_Int.calls kj8 a1 t107 t108 _ A19.out).mono ?_); rintro e w' ⟨rfl, ⟨nd, rfl⟩⟩; refine ⟨_, rfl, ?_⟩) | ((with_reducible refine gate_callee (f := 10) rfl ?_); refine goesL_ (some 70) rfl rfl Tryd.func10 (by kernel_rfl) rfl #[.string a1] rfl (by (try simp only [List.map_toArray, List.map_cons, List.map_nil]); first | done | rfl | (simp only [List.length_drop, List.length_take]; rfl)) ?_; (with_reducible refine (words_Cents.calls kj8 a1 t109 t110 _ A20.out).mono ?_); rintro e w' ⟨rfl, ⟨nd, rfl⟩⟩; refine ⟨_, rfl, ?_⟩) | (go_at_call 14; (with_reducible refine (contangolaw03_goes.calls kj8  t116 _ A36.out).mono ?_); rintro e w37 ⟨rfl, hb⟩; have n0_ := Aside0.mk (below_step (by repeat (first | (with_reducible first | exact HB.out | apply below_alloc | apply pw_below_drewN | apply below_drew1) | exact HB.out)) hb); clear HB; have HB := n0_; clear n0_; (try clear hb); (try clear hb2); (try clear hk); (try clear hi)))
                go_ret
                exact ⟨by first | rfl | (simp [errW_none, errW_some] <;> rfl) | (simp [*, errW_none, errW_some] <;> rfl), by repeat (first | (with_reducible first | exact HB.out | apply below_alloc | apply pw_below_drewN | apply below_drew1) | exact HB.out)⟩
end Go.Proofs.YtgaicbhbgephbaaDoor.X
end
section
namespace Go.Proofs.YtgaicbhbgephbaaDoor.Opn
open Go.ChangeShapes Go.WideShapes Go.Proofs.YtgaicbhbgephbaaDoorW.PrintWords
set_option linter.unusedVariables false
set_option linter.unusedSimpArgs false
structure Opens (P : Program) (t : TypeId) {α : Type} (d : Kd α) (Ok : α → Prop) : Prop where
  sz : d.sz = P.cellsOf t
  opens : ∀ {H : Type} {enc : TypeId × Value → H} {w : World} {base : Nat} {spare : Nat → Bool} {held : Bool} {fuel : Nat} {cs : List Value} {x : DataW H × List MemPlace},
    DataW.trod enc P w base spare held fuel t cs = some x → (∀ n ∈ x.1.weights P t, n ≤ reachBytes) → ∃ v, d.K w v cs ∧ Ok v
theorem opens_string {P : Program} {t : TypeId} (ht : P.underlying t = some .string) (hc : P.cellsOf t = 1) : Opens P t Kd.string (fun s => s.size ≤ 140737488351232) := by
  refine ⟨hc.symm, fun h hw => ?_⟩
  obtain ⟨s, rfl, rfl, hs⟩ := DataW.trod_string ht h
  refine ⟨s, rfl, ?_⟩
  have := hw s.data.toList.length (by simp [DataW.weights])
  rw [Array.length_toList] at this
  exact this
structure OpensF (P : Program) (fs : List Field) (off : Nat) {α : Type} (d : Kd α) (Ok : α → Prop) : Prop where
  opens : ∀ {H : Type} {enc : TypeId × Value → H} {w : World} {base : Nat} {spare : Nat → Bool} {held : Bool} {n : Nat} {cs : List Value} {xs : List (DataW H × List MemPlace)},
    xs.length = fs.length → (∀ (i : Nat) (f : Field), fs[i]? = some f → DataW.trod enc P w base spare held n f.type ((cs.drop f.offset).take (P.cellsOf f.type)) = xs[i]?) →
    (∀ m ∈ DataW.weightsEach P (fs.map (·.type)) (xs.map (·.1)), m ≤ reachBytes) → ∃ v, d.K w v ((cs.drop off).take d.sz) ∧ Ok v
end Go.Proofs.YtgaicbhbgephbaaDoor.Opn
end
section
namespace Go.Proofs.YtgaicbhbgephbaaDoor.P
open Go.RowKit Go.Proofs.YtgaicbhbgephbaaDoorW.PrintWords Go.Proofs.YtgaicbhbgephbaaDoorW.PrintMore Go.Proofs.YtgaicbhbgephbaaDoor.X
theorem Ev_succ {α : Type} {g : Nat → Option α} {r : α} (h : Ev (fun k => g (k + 1)) r) : Ev g r := Ev.step (fun _ => rfl) h
theorem Ev_bind {α β : Type} {g : Nat → Option α} {f : Nat → α → Option β} {a : α} {r : β} (h : Ev g a) (k : Ev (fun n => f n a) r) : Ev (fun n => (g n).bind (f n)) r := Ev.bind h k
theorem Ev_id {α : Type} {g : Nat → Option α} {r : α} (h : Ev g r) : Ev (fun n => (g n).bind fun x => some x) r := Ev.bind h (Ev.now _)
theorem w_id {x : Int} (h1 : -9223372036854775808 ≤ x) (h2 : x ≤ 9223372036854775807) : wrap64 x = x := by unfold wrap64; omega
theorem w_succ {i n : Nat} (h : i < n) (hn : n ≤ 9223372036854775807) : wrap64 ((i : Int) + 1) = ((i + 1 : Nat) : Int) := by rw [w_id (by omega) (by omega)]; omega
theorem wf_rng {a : Int} (h : (Lit.int .i64 a).wf = true) : -9223372036854775808 ≤ a ∧ a ≤ 9223372036854775807 := by
  simpa [Lit.wf, IntKind.min, IntKind.max, IntKind.signed, IntKind.bits] using h
theorem rd_nat (xs : List Int) (i : Nat) (h : i < xs.length) : rd xs (i : Int) = xs[i] := by simp [rd, h]
theorem drop_cons {α : Type} (l : List α) (i : Nat) (h : i < l.length) : l.drop i = l[i] :: l.drop (i + 1) := (List.getElem_cons_drop h).symm
theorem ba_ext {a b : ByteArray} (h : a.toList = b.toList) : a = b := by
  have e : ∀ c : ByteArray, c.toList = c.data.toList := fun c => ByteArray.toList_eq c
  rw [e, e] at h
  cases a; cases b
  congr 1
  exact Array.toList_inj.1 h
end Go.Proofs.YtgaicbhbgephbaaDoor.P
end
section
namespace Go.Proofs.YtgaicbhbgephbaaDoor.P
set_option linter.unusedVariables false
set_option linter.unusedSimpArgs false
open Go.RowKit Go.Proofs.YtgaicbhbgephbaaDoorW.PrintWords Go.Proofs.YtgaicbhbgephbaaDoorW.PrintMore Go.Proofs.YtgaicbhbgephbaaDoor.X
theorem by_rng (s : ByteArray) : ∀ x ∈ bytesOf s, 0 ≤ x ∧ x < 256 := by
  intro x hx
  unfold bytesOf at hx
  obtain ⟨b, hb, rfl⟩ := List.mem_map.1 hx
  have := b.toNat_lt
  omega
theorem by_len (s : ByteArray) : (bytesOf s).length = s.size := bytesOf_length s
theorem by_str (L : List Int) (h : ∀ x ∈ L, 0 ≤ x ∧ x < 256) : bytesOf (strOfNums L) = L := by
  unfold bytesOf
  rw [strOfNums_data, List.map_map]
  conv => rhs; rw [← List.map_id L]
  refine List.map_congr_left fun x hx => ?_
  have := h x hx
  simp only [Function.comp, id, UInt8.toNat_ofNat']
  omega
theorem by_data (s : ByteArray) : s.data.toList = (bytesOf s).map fun n => UInt8.ofNat n.toNat := by
  unfold bytesOf
  rw [List.map_map]
  conv => lhs; rw [← List.map_id s.data.toList]
  refine List.map_congr_left fun x hx => ?_
  simp only [Function.comp, id, Int.toNat_natCast, UInt8.ofNat_toNat]
theorem str_by (s : ByteArray) : strOfNums (bytesOf s) = s := by
  cases s with
  | mk d =>
    unfold strOfNums
    rw [← by_data]
theorem by_inj {a b : ByteArray} (h : bytesOf a = bytesOf b) : a = b := by rw [← str_by a, ← str_by b, h]
theorem by_app (a b : ByteArray) : bytesOf (a ++ b) = bytesOf a ++ bytesOf b := by
  unfold bytesOf
  rw [show (a ++ b).data = a.data ++ b.data from ByteArray.data_append, Array.toList_append, List.map_append]
theorem by_ext (s : ByteArray) (i j : Nat) : bytesOf (s.extract i j) = ((bytesOf s).take j).drop i := by
  unfold bytesOf
  rw [ByteArray.data_extract, Array.toList_extract, ← List.map_take, ← List.map_drop]
  congr 1
  rw [List.extract_eq_take_drop, List.drop_take]
theorem by_toList (s : ByteArray) (l : List UInt8) : s.toList = l ↔ bytesOf s = l.map fun b => (b.toNat : Int) := by
  rw [ByteArray.toList_eq]
  unfold bytesOf
  constructor
  · intro h
    rw [h]
  · intro h
    have e := congrArg (List.map fun n : Int => UInt8.ofNat n.toNat) h
    simpa [List.map_map, Function.comp_def] using e
theorem by_eq (a b : ByteArray) : a.toList = b.toList ↔ a = b := ⟨ba_ext, fun h => h ▸ rfl⟩
theorem by_emp (s : ByteArray) : s.toList = ([] : List UInt8) ↔ bytesOf s = [] := by rw [by_toList]; simp
theorem by_bt (s : ByteArray) (i : Nat) (h : i < (bytesOf s).length) : bt s (i : Int) = (bytesOf s)[i] := by
  rw [← rd_bytesOf, rd_nat _ _ h]
theorem by_drop (s : ByteArray) (i : Nat) (h : i < s.size) : (bytesOf s).drop i = bt s (i : Int) :: (bytesOf s).drop (i + 1) := by
  have h' : i < (bytesOf s).length := by rw [by_len]; exact h
  rw [drop_cons _ _ h', by_bt s i h']
theorem by_end (s : ByteArray) (i : Nat) (h : s.size ≤ i) : (bytesOf s).drop i = [] := List.drop_of_length_le (by rw [by_len]; exact h)
def idxL : List Int → Int → Option Nat
  | [], _ => none
  | x :: r, c => if x = c then some 0 else (idxL r c).map (· + 1)
theorem idx_byte (l : List UInt8) (c : UInt8) : Lib.indexByte l c = match idxL (l.map fun b => (b.toNat : Int)) (c.toNat : Int) with | some i => (i : Int) | none => -1 := by
  induction l with
  | nil => rfl
  | cons x r ih =>
    unfold Lib.indexByte
    simp only [List.map_cons, idxL]
    by_cases h : x = c
    · subst h
      simp
    · have h1 : (x == c) = false := by simpa using h
      have h2 : ¬ ((x.toNat : Int) = (c.toNat : Int)) := fun e => h (UInt8.toNat_inj.1 (by omega))
      rw [h1, if_neg h2]
      simp only [Bool.false_eq_true, if_false]
      rw [ih]
      cases hI : idxL (r.map fun b => (b.toNat : Int)) (c.toNat : Int) with
      | none => simp
      | some i =>
        have h3 : ((i : Int) == -1) = false := by
          rw [beq_eq_false_iff_ne]
          omega
        simp [h3]
theorem idx_some {L : List Int} {c : Int} {i : Nat} (h : idxL L c = some i) : i < L.length ∧ L[i]? = some c ∧ c ∉ L.take i ∧ L = L.take i ++ c :: L.drop (i + 1) := by
  induction L generalizing i with
  | nil => cases h
  | cons x r ih =>
    simp only [idxL] at h
    by_cases hx : x = c
    · rw [if_pos hx] at h
      obtain rfl := Option.some.inj h
      subst hx
      simp
    · rw [if_neg hx] at h
      obtain ⟨j, hj, rfl⟩ := Option.map_eq_some_iff.1 h
      obtain ⟨h1, h2, h3, h4⟩ := ih hj
      refine ⟨by simpa using h1, by simpa using h2, ?_, ?_⟩
      · simp only [List.take_succ_cons, List.mem_cons, not_or]
        exact ⟨fun e => hx e.symm, h3⟩
      · simp only [List.take_succ_cons, List.drop_succ_cons, List.cons_append]
        rw [← h4]
theorem idx_of {A R : List Int} {c : Int} (h : c ∉ A) : idxL (A ++ c :: R) c = some A.length := by
  induction A with
  | nil => simp [idxL]
  | cons x r ih =>
    simp only [List.mem_cons, not_or] at h
    simp only [List.cons_append, idxL, if_neg (fun e => h.1 (Eq.symm e)), ih h.2, Option.map_some, List.length_cons]
end Go.Proofs.YtgaicbhbgephbaaDoor.P
end
section
namespace Go.Proofs.YtgaicbhbgephbaaDoor.P
set_option linter.unusedVariables false
set_option linter.unusedSimpArgs false
open Go.RowKit Go.Proofs.YtgaicbhbgephbaaDoorW.PrintWords Go.Proofs.YtgaicbhbgephbaaDoorW.PrintMore Go.Proofs.YtgaicbhbgephbaaDoor.X
def digitB (n : Int) : Bool := decide (48 ≤ n) && decide (n ≤ 57)
theorem digit_f (n : Int) : words_digit.f n = some (digitB n) := by
  unfold words_digit.f digitB
  by_cases h : 48 ≤ n
  · rw [if_pos h, decide_eq_true h, Bool.true_and]
  · rw [if_neg h, decide_eq_false h, Bool.false_and]
end Go.Proofs.YtgaicbhbgephbaaDoor.P
end
section
namespace Go.Proofs.YtgaicbhbgephbaaDoor.P
set_option linter.unusedVariables false
set_option linter.unusedSimpArgs false
open Go.RowKit Go.Proofs.YtgaicbhbgephbaaDoorW.PrintWords Go.Proofs.YtgaicbhbgephbaaDoorW.PrintMore Go.Proofs.YtgaicbhbgephbaaDoor.X
def plainL (L : List Int) : Bool := !L.isEmpty && !(decide (1 < L.length) && L.head? == some 48) && L.all digitB
def numV (n : Int) (L : List Int) : Int := L.foldl (fun n b => 10 * n + (b - 48)) n
def numR (n : Int) (L : List Int) (minus : Bool) : Int × Int := if 1152921504606846976 < numV n L then (0, 3) else (if minus then -(numV n L) else numV n L, 0)
def unsign (L : List Int) : List Int × Bool := if L.head? = some 45 then (L.tail, true) else (L, false)
def intL (L : List Int) : Int × Int := if plainL (unsign L).1 = true ∧ ¬((unsign L).2 = true ∧ (unsign L).1 = [48]) then numR 0 (unsign L).1 (unsign L).2 else (0, 5)
theorem dig_rng {x : Int} (h : digitB x = true) : 48 ≤ x ∧ x ≤ 57 := by
  unfold digitB at h
  simp only [Bool.and_eq_true, decide_eq_true_eq] at h
  exact h
theorem numV_mono : ∀ (L : List Int) (n : Int), 0 ≤ n → (∀ x ∈ L, digitB x = true) → n ≤ numV n L
  | [], n, _, _ => Int.le_refl _
  | x :: L, n, h, hd => by
    have h1 := dig_rng (hd x (by simp))
    have := numV_mono L (10 * n + (x - 48)) (by omega) fun y hy => hd y (by simp [hy])
    unfold numV at this ⊢
    rw [List.foldl_cons]
    omega
theorem num_step (n d : Int) (h0 : 0 ≤ n) (h1 : n ≤ 1152921504606846976) (h2 : 0 ≤ d) (h3 : d ≤ 9) : (10 * n + d ≤ 9223372036854775807 ∧ wrap64 (wrap64 (10 * n) + d) = 10 * n + d) ∨ (9223372036854775807 < 10 * n + d ∧ wrap64 (wrap64 (10 * n) + d) < 0) := by
  unfold wrap64
  omega
theorem neg_w (n : Int) (h0 : 0 ≤ n) (h1 : n ≤ 1152921504606846976) : wrap64 (-n) = -n := w_id (by omega) (by omega)
theorem digits_loop (s : ByteArray) (hs : s.size ≤ 4611686018427387904) : ∀ (d i : Nat), i + d = s.size → Ev (fun k => words_digits.l0 k s s.size i) (((bytesOf s).drop i).all digitB)
  | 0, i, hd => by
    refine Ev_succ ?_
    simp only [words_digits.l0, if_neg (show ¬ ((i : Int) < (s.size : Int)) by omega)]
    rw [by_end s i (by omega)]
    exact Ev.now _
  | d + 1, i, hd => by
    have hi : i < s.size := by omega
    have ih := digits_loop s hs d (i + 1) (by omega)
    refine Ev_succ ?_
    simp only [words_digits.l0, if_pos (show (i : Int) < (s.size : Int) by omega), if_pos (show 0 ≤ (i : Int) by omega), digit_f, Option.bind_some, w_succ hi (by omega)]
    rw [by_drop s i hi, List.all_cons]
    cases h : digitB (bt s (i : Int)) with
    | true => simp only [if_true, Bool.true_and]; exact ih
    | false => simp only [Bool.false_eq_true, if_false, Bool.false_and]; exact Ev.now _
theorem digits_f (s : ByteArray) (hs : s.size ≤ 4611686018427387904) : Ev (fun k => words_digits.f k s) ((bytesOf s).all digitB) := by
  unfold words_digits.f
  exact digits_loop s hs s.size 0 (by omega)
theorem number_loop (s : ByteArray) (minus : Bool) (hs : s.size ≤ 4611686018427387904) (hall : ∀ x ∈ bytesOf s, digitB x = true) : ∀ (d i : Nat) (n : Int), i + d = s.size → 0 ≤ n → n ≤ 1152921504606846976 → Ev (fun k => words_number.l0 k s minus n s.size i) (numR n ((bytesOf s).drop i) minus)
  | 0, i, n, hd, h0, h1 => by
    refine Ev_succ ?_
    simp only [words_number.l0, if_neg (show ¬ ((i : Int) < (s.size : Int)) by omega)]
    rw [by_end s i (by omega)]
    have hc : numR n [] minus = (if minus then -n else n, 0) := by
      unfold numR numV
      rw [List.foldl_nil, if_neg (show ¬ 1152921504606846976 < n by omega)]
    rw [hc]
    cases minus with
    | true => simp only [if_true, neg_w n h0 h1]; exact Ev.now _
    | false => simp only [Bool.false_eq_true, if_false]; exact Ev.now _
  | d + 1, i, n, hd, h0, h1 => by
    have hi : i < s.size := by omega
    have hb : digitB (bt s (i : Int)) = true := hall _ (by
      have h' : i < (bytesOf s).length := by rw [by_len]; exact hi
      rw [by_bt s i h']
      exact List.getElem_mem h')
    have hb2 := dig_rng hb
    refine Ev_succ ?_
    simp only [words_number.l0, if_pos (show (i : Int) < (s.size : Int) by omega), if_pos (show 0 ≤ (i : Int) by omega), w_succ hi (by omega), Int.emod_eq_of_lt (show 0 ≤ bt s (i : Int) - 48 by omega) (show bt s (i : Int) - 48 < 256 by omega)]
    rw [by_drop s i hi]
    have hr : ∀ x ∈ (bytesOf s).drop (i + 1), digitB x = true := fun x hx => hall x (List.mem_of_mem_drop hx)
    have hm := numV_mono ((bytesOf s).drop (i + 1)) (10 * n + (bt s (i : Int) - 48)) (by omega) hr
    have hc : numR n (bt s (i : Int) :: (bytesOf s).drop (i + 1)) minus = numR (10 * n + (bt s (i : Int) - 48)) ((bytesOf s).drop (i + 1)) minus := by
      unfold numR numV
      rw [List.foldl_cons]
    rw [hc]
    rcases num_step n (bt s (i : Int) - 48) h0 h1 (by omega) (by omega) with ⟨h2, h3⟩ | ⟨h2, h3⟩
    · simp only [h3, if_neg (show ¬ 10 * n + (bt s (i : Int) - 48) < 0 by omega)]
      by_cases h4 : 10 * n + (bt s (i : Int) - 48) > 1152921504606846976
      · simp only [if_pos h4]
        have : numR (10 * n + (bt s (i : Int) - 48)) ((bytesOf s).drop (i + 1)) minus = (0, 3) := by
          unfold numR
          rw [if_pos (by omega)]
        rw [this]
        exact Ev.now _
      · simp only [if_neg h4]
        exact number_loop s minus hs hall d (i + 1) _ (by omega) (by omega) (by omega)
    · simp only [if_pos h3]
      have : numR (10 * n + (bt s (i : Int) - 48)) ((bytesOf s).drop (i + 1)) minus = (0, 3) := by
        unfold numR
        rw [if_pos (by omega)]
      rw [this]
      exact Ev.now _
theorem number_f (s : ByteArray) (minus : Bool) (hs : s.size ≤ 4611686018427387904) (hall : ∀ x ∈ bytesOf s, digitB x = true) : Ev (fun k => words_number.f k s minus) (numR 0 (bytesOf s) minus) := by
  unfold words_number.f
  exact number_loop s minus hs hall s.size 0 0 (by omega) (by omega) (by omega)
theorem plain_all {L : List Int} (h : plainL L = true) : ∀ x ∈ L, digitB x = true := by
  unfold plainL at h
  simp only [Bool.and_eq_true] at h
  exact List.all_eq_true.1 h.2
theorem bt_head (s : ByteArray) (h : 0 < s.size) : (bytesOf s).head? = some (bt s 0) := by
  have := by_drop s 0 h
  rw [List.drop_zero] at this
  rw [this]
  rfl
theorem plain_f (s : ByteArray) (hs : s.size ≤ 4611686018427387904) : Ev (fun k => words_plain.f k s) (plainL (bytesOf s)) := by
  unfold words_plain.f plainL
  have hd := digits_f s hs
  by_cases c0 : s.toList = []
  · simp only [if_pos c0]
    rw [(by_emp s).1 c0]
    exact Ev.now _
  · simp only [if_neg c0]
    have h1 : bytesOf s ≠ [] := fun h => c0 ((by_emp s).2 h)
    have h2 : (bytesOf s).isEmpty = false := by simpa using h1
    have h3 : 0 < s.size := by
      rw [← by_len]
      exact List.length_pos_iff.2 h1
    rw [h2]
    simp only [Bool.not_false, Bool.true_and]
    by_cases c1 : (s.size : Int) > 1
    · simp only [if_pos c1, if_pos (show 0 < (s.size : Int) by omega)]
      have h4 : decide (1 < (bytesOf s).length) = true := by
        rw [by_len]
        exact decide_eq_true (by omega)
      rw [h4, bt_head s h3]
      simp only [Bool.true_and]
      by_cases c2 : bt s 0 = 48
      · simp only [if_pos c2, c2]
        simp
        exact Ev.now _
      · have h5 : (some (bt s 0) == some (48 : Int)) = false := by simpa using c2
        simp only [if_neg c2, h5, Bool.not_false, Bool.true_and]
        exact Ev_id hd
    · simp only [if_neg c1]
      have h4 : decide (1 < (bytesOf s).length) = false := by
        rw [by_len]
        exact decide_eq_false (by omega)
      rw [h4]
      simp only [Bool.false_and, Bool.not_false, Bool.true_and]
      exact Ev_id hd
theorem cutp_f (s : ByteArray) : strings_CutPrefix.f s (⟨#[45]⟩ : ByteArray) = some (strOfNums (unsign (bytesOf s)).1, (unsign (bytesOf s)).2) := by
  have hsz : (⟨#[45]⟩ : ByteArray).size = 1 := rfl
  have hl : bytesOf (⟨#[45]⟩ : ByteArray) = [45] := rfl
  have h0 : stringslite_HasPrefix.f s (⟨#[45]⟩ : ByteArray) = some (decide ((bytesOf s).head? = some 45)) := by
    unfold stringslite_HasPrefix.f
    rw [hsz]
    by_cases c : (s.size : Int) ≥ ((1 : Nat) : Int)
    · rw [if_pos c, if_pos (by omega), if_pos (by omega)]
      congr 1
      have h3 : 0 < s.size := by omega
      have hd := by_drop s 0 h3
      rw [List.drop_zero] at hd
      have he : bytesOf (s.extract 0 1) = [bt s 0] := by rw [by_ext, hd]; rfl
      rw [bt_head s h3]
      rw [Bool.eq_iff_iff, beq_iff_eq, decide_eq_true_eq, by_eq]
      constructor
      · intro h
        have := congrArg bytesOf h
        rw [show (((1 : Nat) : Int)).toNat = 1 from rfl, he, hl] at this
        simpa using this
      · intro h
        apply by_inj
        rw [show (((1 : Nat) : Int)).toNat = 1 from rfl, he, hl]
        simpa using h
    · rw [if_neg c]
      have h4 : bytesOf s = [] := List.length_eq_zero_iff.1 (by rw [by_len]; omega)
      rw [h4]
      simp
  unfold strings_CutPrefix.f stringslite_CutPrefix.f
  rw [h0]
  simp only [Option.bind_some]
  unfold unsign
  by_cases c : (bytesOf s).head? = some 45
  · have h3 : 0 < s.size := by
      rw [← by_len]
      rcases hb : bytesOf s with _ | ⟨x, r⟩
      · rw [hb] at c; simp at c
      · simp
    rw [if_pos (decide_eq_true c), if_pos c, hsz, if_pos (by omega), if_pos (by omega)]
    simp only [Option.bind_some]
    congr 2
    apply by_inj
    rw [by_ext, by_str _ fun x hx => by_rng s x (List.mem_of_mem_tail hx), show (((1 : Nat) : Int)).toNat = 1 from rfl, ← by_len, List.take_length, List.drop_one]
  · rw [if_neg (by simpa using c), if_neg c]
    simp only [Option.bind_some]
    rw [str_by]
theorem unsign_rng {L : List Int} (h : ∀ x ∈ L, 0 ≤ x ∧ x < 256) : ∀ x ∈ (unsign L).1, 0 ≤ x ∧ x < 256 := by
  unfold unsign
  split
  · exact fun x hx => h x (List.mem_of_mem_tail hx)
  · exact h
theorem unsign_len (L : List Int) : (unsign L).1.length ≤ L.length := by
  unfold unsign
  split
  · simp
  · exact Nat.le_refl _
theorem int_f (s : ByteArray) (hs : s.size ≤ 4611686018427387904) : Ev (fun k => words_Int.f k s) (intL (bytesOf s)) := by
  unfold words_Int.f intL
  rw [cutp_f]
  simp only [Option.bind_some]
  have hb := by_str (unsign (bytesOf s)).1 (unsign_rng (by_rng s))
  have hsz : (strOfNums (unsign (bytesOf s)).1).size ≤ 4611686018427387904 := by
    rw [strOfNums_size]
    have := unsign_len (bytesOf s)
    rw [by_len] at this
    omega
  refine Ev_bind (plain_f _ hsz) ?_
  rw [hb]
  generalize (unsign (bytesOf s)).2 = m
  generalize hT : (unsign (bytesOf s)).1 = T at hb hsz
  by_cases c0 : plainL T = true
  · simp only [if_pos c0]
    have hn := number_f (strOfNums T) m hsz (by rw [hb]; exact plain_all c0)
    rw [hb] at hn
    cases m with
    | false =>
      simp only [Bool.false_eq_true, if_false, false_and, not_false_eq_true, and_true, if_pos c0]
      exact Ev_bind hn (Ev.now _)
    | true =>
      simp only [if_true, true_and]
      by_cases c1 : (strOfNums T).toList = ([48] : List UInt8)
      · have c2 : T = [48] := by
          have := (by_toList (strOfNums T) [48]).1 c1
          rw [hb] at this
          exact this
        simp only [if_pos c1]
        rw [if_neg (by rintro ⟨_, h⟩; exact h c2)]
        exact Ev.now _
      · have c2 : ¬ T = [48] := by
          intro h
          apply c1
          rw [by_toList, hb, h]
          rfl
        simp only [if_neg c1]
        rw [if_pos ⟨c0, c2⟩]
        exact Ev_bind hn (Ev.now _)
  · simp only [if_neg c0]
    rw [if_neg (fun h => c0 h.1)]
    exact Ev.now _
end Go.Proofs.YtgaicbhbgephbaaDoor.P
end
section
namespace Go.Proofs.YtgaicbhbgephbaaDoor.P
set_option linter.unusedVariables false
set_option linter.unusedSimpArgs false
open Go.RowKit Go.Proofs.YtgaicbhbgephbaaDoorW.PrintWords Go.Proofs.YtgaicbhbgephbaaDoorW.PrintMore Go.Proofs.YtgaicbhbgephbaaDoor.X
def cutL (L : List Int) (c : Int) : List Int × List Int × Bool := match idxL L c with
  | some i => (L.take i, L.drop (i + 1), true)
  | none => (L, [], false)
theorem cutL_none {L : List Int} {c : Int} (h : idxL L c = none) : cutL L c = (L, [], false) := by unfold cutL; rw [h]
theorem cutL_some {L : List Int} {c : Int} {i : Nat} (h : idxL L c = some i) : cutL L c = (L.take i, L.drop (i + 1), true) := by unfold cutL; rw [h]
theorem cut_f (s : ByteArray) (c : UInt8) (hs : s.size ≤ 4611686018427387904) : strings_Cut.f s (⟨#[c]⟩ : ByteArray) = some (strOfNums (cutL (bytesOf s) (c.toNat : Int)).1, strOfNums (cutL (bytesOf s) (c.toNat : Int)).2.1, (cutL (bytesOf s) (c.toNat : Int)).2.2) := by
  have hsz : (⟨#[c]⟩ : ByteArray).size = 1 := rfl
  unfold strings_Cut.f stringslite_Cut.f stringslite_Index.f
  rw [if_pos hsz]
  simp only [Option.bind_some]
  rw [show (⟨#[c]⟩ : ByteArray).data.getD 0 0 = c from rfl, idx_byte]
  rw [show s.data.toList.map (fun b => (b.toNat : Int)) = bytesOf s from rfl]
  cases hI : idxL (bytesOf s) (c.toNat : Int) with
  | none =>
    rw [cutL_none hI]
    simp only []
    rw [if_neg (by omega)]
    simp only [Option.bind_some]
    rw [str_by]
    rfl
  | some i =>
    have hi := (idx_some hI).1
    rw [by_len] at hi
    rw [cutL_some hI]
    simp only []
    have hw : wrap64 ((i : Int) + ((⟨#[c]⟩ : ByteArray).size : Int)) = ((i + 1 : Nat) : Int) := by
      rw [hsz, w_id (by omega) (by omega)]
      omega
    rw [hw, if_pos (by omega), if_pos (by omega), if_pos (by omega), if_pos (by omega), if_pos (by omega)]
    simp only [Option.bind_some, Int.toNat_natCast]
    have e1 : s.extract 0 i = strOfNums ((bytesOf s).take i) := by
      apply by_inj
      rw [by_ext, List.drop_zero, by_str _ fun x hx => by_rng s x (List.mem_of_mem_take hx)]
    have e2 : s.extract (i + 1) s.size = strOfNums ((bytesOf s).drop (i + 1)) := by
      apply by_inj
      rw [by_ext, by_str _ fun x hx => by_rng s x (List.mem_of_mem_drop hx), ← by_len, List.take_length]
    rw [e1, e2]
theorem cutL_rng {L : List Int} {c : Int} (h : ∀ x ∈ L, 0 ≤ x ∧ x < 256) : (∀ x ∈ (cutL L c).1, 0 ≤ x ∧ x < 256) ∧ ∀ x ∈ (cutL L c).2.1, 0 ≤ x ∧ x < 256 := by
  cases hI : idxL L c with
  | none => rw [cutL_none hI]; exact ⟨h, fun x hx => by cases hx⟩
  | some i => rw [cutL_some hI]; exact ⟨fun x hx => h x (List.mem_of_mem_take hx), fun x hx => h x (List.mem_of_mem_drop hx)⟩
theorem cutL_len (L : List Int) (c : Int) : (cutL L c).1.length + (cutL L c).2.1.length ≤ L.length := by
  cases hI : idxL L c with
  | none => rw [cutL_none hI]; simp
  | some i =>
    have := (idx_some hI).1
    rw [cutL_some hI]
    simp only [List.length_take, List.length_drop]
    omega
def centsT (T : List Int) (m : Bool) : Int × Int :=
  if (cutL T 46).2.2 = true ∧ plainL (cutL T 46).1 = true ∧ (cutL T 46).2.1.length = 2 ∧ (cutL T 46).2.1.all digitB = true ∧ ¬ (m = true ∧ T = [48, 46, 48, 48]) then numR 0 ((cutL T 46).1 ++ (cutL T 46).2.1) m else (0, 5)
def centsL (L : List Int) : Int × Int := centsT (unsign L).1 (unsign L).2
theorem cents_f (s : ByteArray) (hs : s.size ≤ 4611686018427387904) : Ev (fun k => words_Cents.f k s) (centsL (bytesOf s)) := by
  unfold words_Cents.f centsL
  rw [cutp_f]
  simp only [Option.bind_some]
  have hb := by_str (unsign (bytesOf s)).1 (unsign_rng (by_rng s))
  have hr := unsign_rng (by_rng s)
  have hsz : (strOfNums (unsign (bytesOf s)).1).size ≤ 4611686018427387904 := by
    rw [strOfNums_size]
    have := unsign_len (bytesOf s)
    rw [by_len] at this
    omega
  generalize (unsign (bytesOf s)).2 = m
  generalize (unsign (bytesOf s)).1 = T at hb hsz hr
  rw [cut_f _ _ hsz, hb]
  simp only [Option.bind_some]
  rw [show (((46 : UInt8).toNat : Nat) : Int) = 46 from rfl]
  have hc := cutL_rng (c := 46) hr
  have hl := cutL_len T 46
  rw [strOfNums_size] at hsz
  unfold centsT
  generalize (cutL T 46).1 = A at hc hl
  generalize (cutL T 46).2.1 = B at hc hl
  generalize (cutL T 46).2.2 = ok
  have hA := by_str A hc.1
  have hB := by_str B hc.2
  have sA : (strOfNums A).size ≤ 4611686018427387904 := by rw [strOfNums_size]; omega
  have sB : (strOfNums B).size ≤ 4611686018427387904 := by rw [strOfNums_size]; omega
  cases ok with
  | false =>
    simp only [Bool.false_eq_true, if_false, false_and]
    exact Ev.now _
  | true =>
    simp only [if_true, true_and]
    refine Ev_bind (plain_f _ sA) ?_
    rw [hA]
    by_cases c0 : plainL A = true
    case neg =>
      simp only [if_neg c0]
      rw [if_neg (fun h => c0 h.1)]
      exact Ev.now _
    simp only [if_pos c0]
    by_cases c1 : ((strOfNums B).size : Int) = 2
    case neg =>
      simp only [if_neg c1]
      rw [if_neg (fun h => c1 (by rw [strOfNums_size]; have := h.2.1; omega))]
      exact Ev.now _
    simp only [if_pos c1]
    have c1' : B.length = 2 := by rw [strOfNums_size] at c1; omega
    refine Ev_bind (digits_f _ sB) ?_
    rw [hB]
    by_cases c2 : B.all digitB = true
    case neg =>
      simp only [if_neg c2]
      rw [if_neg (fun h => c2 h.2.2.1)]
      exact Ev.now _
    simp only [if_pos c2]
    have hAB : bytesOf (strOfNums A ++ strOfNums B) = A ++ B := by rw [by_app, hA, hB]
    have hn := number_f (strOfNums A ++ strOfNums B) m (by rw [← by_len, hAB, List.length_append]; omega) (by
      rw [hAB]
      intro x hx
      rcases List.mem_append.1 hx with h | h
      · exact plain_all c0 x h
      · exact List.all_eq_true.1 c2 x h)
    rw [hAB] at hn
    have hsum : (strOfNums A).size + (strOfNums B).size ≤ 9223372036854775807 := by omega
    cases m with
    | false =>
      simp only [Bool.false_eq_true, if_false, false_and, not_false_eq_true, and_true, if_pos hsum]
      rw [if_pos ⟨c0, c1', c2⟩]
      exact Ev_bind hn (Ev.now _)
    | true =>
      simp only [if_true, true_and]
      by_cases c3 : (strOfNums T).toList = ([48, 46, 48, 48] : List UInt8)
      · have c4 : T = [48, 46, 48, 48] := by
          have := (by_toList (strOfNums T) [48, 46, 48, 48]).1 c3
          rw [hb] at this
          exact this
        simp only [if_pos c3]
        rw [if_neg (fun h => h.2.2.2 c4)]
        exact Ev.now _
      · have c4 : ¬ T = [48, 46, 48, 48] := by
          intro h
          apply c3
          rw [by_toList, hb, h]
          rfl
        simp only [if_neg c3, if_pos hsum]
        rw [if_pos ⟨c0, c1', c2, c4⟩]
        exact Ev_bind hn (Ev.now _)
theorem plain_zero {w : List Int} (h : plainL w = true) (h0 : numV 0 w = 0) : w = [48] := by
  have ha := plain_all h
  unfold plainL at h
  rcases w with _ | ⟨x, r⟩
  · simp at h
  · have hx := dig_rng (ha x (by simp))
    have hm := numV_mono r (x - 48) (by omega) fun y hy => ha y (by simp [hy])
    have he : numV 0 (x :: r) = numV (x - 48) r := by
      unfold numV
      rw [List.foldl_cons]
      congr 1
      omega
    rw [he] at h0
    obtain rfl : x = 48 := by omega
    rcases r with _ | ⟨y, r⟩
    · rfl
    · simp at h
theorem numV_app (n : Int) (A B : List Int) : numV n (A ++ B) = numV (numV n A) B := by
  unfold numV
  rw [List.foldl_append]
end Go.Proofs.YtgaicbhbgephbaaDoor.P
end
section
namespace Go.Proofs.YtgaicbhbgephbaaDoor.P
set_option linter.unusedVariables false
set_option linter.unusedSimpArgs false
open Go.RowKit Go.Proofs.YtgaicbhbgephbaaDoorW.PrintWords Go.Proofs.YtgaicbhbgephbaaDoorW.PrintMore Go.Proofs.YtgaicbhbgephbaaDoor.X
def sgnR (v : Int) (m : Bool) : Int × Int := if m = true ∧ v = 0 then (0, 5) else if 1152921504606846976 < v then (0, 3) else (if m then -v else v, 0)
def rcentsT (T : List Int) (m : Bool) : Int × Int := if 3 < T.length ∧ T[T.length - 3]? = some 46 ∧ plainL (T.take (T.length - 3)) = true ∧ plainL (49 :: T.drop (T.length - 2)) = true then sgnR (numV 0 (T.take (T.length - 3) ++ T.drop (T.length - 2))) m else (0, 5)
theorem plain_two {B : List Int} (h : B.length = 2) : plainL (49 :: B) = B.all digitB := by
  unfold plainL
  simp [show digitB 49 = true from rfl]
theorem dot_no {A : List Int} (h : ∀ x ∈ A, digitB x = true) : (46 : Int) ∉ A := fun hm => by
  have := dig_rng (h 46 hm)
  omega
theorem numV_two {A B : List Int} (hA : plainL A = true) (hB : B.length = 2) (hd : B.all digitB = true) : numV 0 (A ++ B) = 0 ↔ A = [48] ∧ B = [48, 48] := by
  constructor
  · intro h
    rw [numV_app] at h
    obtain ⟨x, y, rfl⟩ : ∃ x y, B = [x, y] := by
      rcases B with _ | ⟨x, _ | ⟨y, _ | ⟨z, r⟩⟩⟩
      · cases hB
      · cases hB
      · exact ⟨x, y, rfl⟩
      · simp at hB
    have hx := dig_rng (List.all_eq_true.1 hd x (by simp))
    have hy := dig_rng (List.all_eq_true.1 hd y (by simp))
    have h0 := numV_mono A 0 (by omega) (plain_all hA)
    have he : numV (numV 0 A) [x, y] = 10 * (10 * numV 0 A + (x - 48)) + (y - 48) := rfl
    rw [he] at h
    refine ⟨plain_zero hA (by omega), ?_⟩
    rw [show x = 48 by omega, show y = 48 by omega]
  · rintro ⟨rfl, rfl⟩
    rfl
theorem cents_same (T : List Int) (m : Bool) : centsT T m = rcentsT T m := by
  by_cases c : (cutL T 46).2.2 = true ∧ plainL (cutL T 46).1 = true ∧ (cutL T 46).2.1.length = 2 ∧ (cutL T 46).2.1.all digitB = true
  · unfold centsT rcentsT
    obtain ⟨h1, h2, h3, h4⟩ := c
    cases hI : idxL T 46 with
    | none => rw [cutL_none hI] at h1; cases h1
    | some i =>
      rw [cutL_some hI] at h1 h2 h3 h4 ⊢
      simp only [] at h1 h2 h3 h4 ⊢
      have hi := idx_some hI
      rw [List.length_drop] at h3
      have hlen : T.length = i + 3 := by omega
      have e3 : T.length - 3 = i := by omega
      have e2 : T.length - 2 = i + 1 := by omega
      have hp : 0 < i := by
        rcases Nat.eq_zero_or_pos i with h | h
        · subst h
          simp [plainL] at h2
        · exact h
      have hB : (T.drop (i + 1)).length = 2 := by rw [List.length_drop]; omega
      rw [e3, e2, if_pos (show 3 < T.length ∧ T[i]? = some 46 ∧ plainL (T.take i) = true ∧ plainL (49 :: T.drop (i + 1)) = true from ⟨by omega, hi.2.1, h2, by rw [plain_two hB]; exact h4⟩)]
      have hz := numV_two h2 hB h4
      have hT : (T.take i = [48] ∧ T.drop (i + 1) = [48, 48]) ↔ T = [48, 46, 48, 48] := by
        constructor
        · rintro ⟨a, b⟩
          rw [hi.2.2.2, a, b]
          rfl
        · intro h
          subst h
          simp at hlen
          obtain rfl : i = 1 := by omega
          exact ⟨rfl, rfl⟩
      rw [hT] at hz
      unfold sgnR numR
      by_cases c5 : m = true ∧ T = [48, 46, 48, 48]
      · rw [if_neg (fun h => h.2.2.2.2 c5), if_pos ⟨c5.1, hz.2 c5.2⟩]
      · rw [if_pos ⟨trivial, h2, hB, h4, c5⟩, if_neg (show ¬ (m = true ∧ numV 0 (T.take i ++ T.drop (i + 1)) = 0) from fun h => c5 ⟨h.1, hz.1 h.2⟩)]
  · have hl : centsT T m = (0, 5) := by
      unfold centsT
      rw [if_neg (fun h => c ⟨h.1, h.2.1, h.2.2.1, h.2.2.2.1⟩)]
    rw [hl]
    unfold rcentsT
    by_cases c2 : 3 < T.length ∧ T[T.length - 3]? = some 46 ∧ plainL (T.take (T.length - 3)) = true ∧ plainL (49 :: T.drop (T.length - 2)) = true
    · exfalso
      obtain ⟨g1, g2, g3, g4⟩ := c2
      apply c
      have hs : T = T.take (T.length - 3) ++ 46 :: T.drop (T.length - 2) := by
        have hlt : T.length - 3 < T.length := by omega
        have e : T[T.length - 3] = 46 := by
          rw [List.getElem?_eq_getElem hlt] at g2
          exact Option.some.inj g2
        have := List.take_append_drop (T.length - 3) T
        rw [drop_cons _ _ hlt, e, show T.length - 3 + 1 = T.length - 2 by omega] at this
        exact this.symm
      have hI : idxL T 46 = some (T.length - 3) := by
        have := idx_of (A := T.take (T.length - 3)) (R := T.drop (T.length - 2)) (dot_no (plain_all g3))
        rw [← hs, List.length_take] at this
        rw [this]
        congr 1
        omega
      have hB : (T.drop (T.length - 3 + 1)).length = 2 := by rw [List.length_drop]; omega
      rw [cutL_some hI]
      refine ⟨rfl, g3, hB, ?_⟩
      have := plain_two hB
      rw [show T.length - 3 + 1 = T.length - 2 by omega] at this ⊢
      rw [← this]
      exact g4
    · rw [if_neg c2]
end Go.Proofs.YtgaicbhbgephbaaDoor.P
end
section
namespace Go.Proofs.YtgaicbhbgephbaaDoor.P
set_option linter.unusedVariables false
set_option linter.unusedSimpArgs false
open Go.RowKit Go.Proofs.YtgaicbhbgephbaaDoorW.PrintWords Go.Proofs.YtgaicbhbgephbaaDoorW.PrintMore Go.Proofs.YtgaicbhbgephbaaDoor.X
def digs (n : Nat) : List Int := if n < 10 then [48 + (n : Int)] else digs (n / 10) ++ [48 + ((n % 10 : Nat) : Int)]
termination_by n
decreasing_by omega
theorem digs_lt {n : Nat} (h : n < 10) : digs n = [48 + (n : Int)] := by rw [digs, if_pos h]
theorem digs_ge {n : Nat} (h : 10 ≤ n) : digs n = digs (n / 10) ++ [48 + ((n % 10 : Nat) : Int)] := by rw [digs, if_neg (by omega)]
theorem digs_ind {p : Nat → Prop} (h0 : ∀ n, n < 10 → p n) (h1 : ∀ n, 10 ≤ n → p (n / 10) → p n) (n : Nat) : p n := by
  induction n using Nat.strongRecOn with
  | _ n ih =>
    by_cases h : n < 10
    · exact h0 n h
    · exact h1 n (by omega) (ih _ (by omega))
theorem numV_digs (n : Nat) : numV 0 (digs n) = (n : Int) := by
  induction n using digs_ind with
  | h0 n h => rw [digs_lt h]; show 10 * 0 + (48 + (n : Int) - 48) = n; omega
  | h1 n h ih =>
    rw [digs_ge h, numV_app, ih]
    show 10 * ((n / 10 : Nat) : Int) + (48 + ((n % 10 : Nat) : Int) - 48) = n
    omega
theorem digitB_of {x : Int} (h1 : 48 ≤ x) (h2 : x ≤ 57) : digitB x = true := by
  unfold digitB
  rw [decide_eq_true h1, decide_eq_true h2, Bool.and_true]
theorem digs_all (n : Nat) : ∀ x ∈ digs n, digitB x = true := by
  induction n using digs_ind with
  | h0 n h =>
    rw [digs_lt h]
    intro x hx
    obtain rfl := List.mem_singleton.1 hx
    exact digitB_of (by omega) (by omega)
  | h1 n h ih =>
    rw [digs_ge h]
    intro x hx
    rcases List.mem_append.1 hx with h2 | h2
    · exact ih x h2
    · obtain rfl := List.mem_singleton.1 h2
      exact digitB_of (by omega) (by omega)
theorem digs_ne (n : Nat) : digs n ≠ [] := by
  by_cases h : n < 10
  · rw [digs_lt h]; simp
  · rw [digs_ge (by omega)]; simp
theorem digs_rng (n : Nat) : ∀ x ∈ digs n, 0 ≤ x ∧ x < 256 := fun x hx => by have := dig_rng (digs_all n x hx); omega
theorem head_app {A B : List Int} (h : A ≠ []) : (A ++ B).head? = A.head? := by
  cases A with
  | nil => exact absurd rfl h
  | cons x r => rfl
theorem digs_head (n : Nat) (h : 0 < n) : (digs n).head? ≠ some 48 := by
  induction n using digs_ind with
  | h0 n h2 => rw [digs_lt h2]; simp; omega
  | h1 n h2 ih =>
    rw [digs_ge h2, head_app (digs_ne _)]
    exact ih (by omega)
theorem plain_digs (n : Nat) : plainL (digs n) = true := by
  unfold plainL
  have h1 : (digs n).isEmpty = false := by simpa using digs_ne n
  have h2 : (digs n).all digitB = true := List.all_eq_true.2 (digs_all n)
  rw [h1, h2]
  simp only [Bool.not_false, Bool.true_and, Bool.and_true]
  by_cases h : n < 10
  · rw [digs_lt h]; rfl
  · have := digs_head n (by omega)
    have h3 : ((digs n).head? == some 48) = false := by simpa using this
    rw [h3, Bool.and_false]
    rfl
theorem digs_len : ∀ (k n : Nat), 0 < k → n < 10 ^ k → (digs n).length ≤ k
  | 0, n, h, _ => absurd h (by decide)
  | k + 1, n, _, h => by
    by_cases h2 : n < 10
    · rw [digs_lt h2]; simp
    · rw [digs_ge (by omega)]
      have hk : 0 < k := by
        rcases Nat.eq_zero_or_pos k with rfl | h3
        · simp at h; omega
        · exact h3
      have := digs_len k (n / 10) hk (by rw [Nat.pow_succ] at h; omega)
      simp only [List.length_append, List.length_cons, List.length_nil]
      omega
theorem digs_back : ∀ (k : Nat) (L : List Int), L.length = k → plainL L = true → digs (numV 0 L).toNat = L
  | k, L, hk, h => by
    rcases List.eq_nil_or_concat L with rfl | ⟨A, x, rfl⟩
    · exact absurd h (by decide)
    have hall := plain_all h
    have hx := dig_rng (hall x (by simp))
    rw [List.concat_eq_append] at h hk hall ⊢
    rw [numV_app]
    rcases hA : A with _ | ⟨a, r⟩
    · rw [List.nil_append]
      have e : numV (numV 0 []) [x] = 10 * 0 + (x - 48) := rfl
      rw [e, digs_lt (by omega)]
      congr 1
      omega
    · rw [← hA]
      have hAn : A ≠ [] := by rw [hA]; simp
      have hhead : (A ++ [x]).head? = A.head? := head_app hAn
      have hlen : 0 < A.length := List.length_pos_iff.2 hAn
      have h48 : A.head? ≠ some 48 := by
        intro h2
        unfold plainL at h
        rw [hhead, h2] at h
        have : decide (1 < (A ++ [x]).length) = true := decide_eq_true (by simp only [List.length_append, List.length_cons, List.length_nil]; omega)
        rw [this] at h
        simp at h
      have hpA : plainL A = true := by
        unfold plainL
        have h1 : A.isEmpty = false := by simpa using hAn
        have h2 : A.all digitB = true := List.all_eq_true.2 fun y hy => hall y (by simp [hy])
        have h3 : (A.head? == some 48) = false := by simpa using h48
        rw [h1, h2, h3]
        simp
      have hpos := numV_mono A 0 (by omega) (plain_all hpA)
      have hne : numV 0 A ≠ 0 := by
        intro h0
        have := plain_zero hpA h0
        rw [this] at h48
        simp at h48
      have ih := digs_back A.length A rfl hpA
      have e : numV (numV 0 A) [x] = 10 * numV 0 A + (x - 48) := rfl
      rw [e, digs_ge (by omega), show (10 * numV 0 A + (x - 48)).toNat / 10 = (numV 0 A).toNat by omega, ih, show (48 + (((10 * numV 0 A + (x - 48)).toNat % 10 : Nat) : Int)) = x by omega]
termination_by k _ _ _ => k
decreasing_by
  subst hA
  simp only [List.length_append, List.length_cons, List.length_nil, List.concat_eq_append] at hk ⊢
  omega
theorem decL_digs : ∀ (k : Nat) (u : Int) (acc : List Int), 0 < k → 0 ≤ u → u < 10 ^ k → decL k u acc = digs u.toNat ++ acc
  | 0, u, acc, h, _, _ => absurd h (by decide)
  | k + 1, u, acc, _, h0, h1 => by
    unfold decL
    by_cases c : u / 10 = 0
    · rw [if_pos c, digs_lt (by omega), show 48 + u % 10 = 48 + (u.toNat : Int) by omega]
      rfl
    · rw [if_neg c, digs_ge (by omega)]
      have hk : 0 < k := by
        rcases Nat.eq_zero_or_pos k with rfl | h3
        · simp at h1; omega
        · exact h3
      rw [decL_digs k (u / 10) _ hk (by omega) (by rw [Int.pow_succ] at h1; omega), show (u / 10).toNat = u.toNat / 10 by omega, show 48 + u % 10 = 48 + ((u.toNat % 10 : Nat) : Int) by omega, List.append_assoc]
      rfl
theorem decimal_f (u : Int) (h0 : 0 ≤ u) (h1 : u < 18446744073709551616) : words_decimal.f u = some (strOfNums (digs u.toNat)) := by
  unfold words_decimal.f
  rw [if_pos ⟨h0, h1⟩, decL_digs 20 u [] (by decide) h0 (by omega), List.append_nil]
def sgnL (n : Int) : List Int := if n < 0 then [45] else []
theorem len20 (n : Nat) (h : n < 18446744073709551616) : (digs n).length ≤ 20 := digs_len 20 n (by decide) (by omega)
def textL (n : Int) : List Int := sgnL n ++ digs n.natAbs
def moneyL (n : Int) : List Int := sgnL n ++ (digs (n.natAbs / 100) ++ (46 :: (digs (n.natAbs / 10 % 10) ++ digs (n.natAbs % 10))))
theorem size_f (n : Int) (h1 : -9223372036854775808 ≤ n) (h2 : n ≤ 9223372036854775807) : words_size.f n = some ((n.natAbs : Int), strOfNums (sgnL n)) := by
  unfold words_size.f sgnL
  by_cases c : n < 0
  · rw [if_pos c, if_pos c]
    have : IntKind.u64.wrap (-(IntKind.u64.wrap n)) = (n.natAbs : Int) := by
      simp only [IntKind.wrap, IntKind.bits, IntKind.signed, Bool.false_and, Bool.false_eq_true, if_false]
      omega
    rw [this]
    rfl
  · rw [if_neg c, if_neg c]
    have : IntKind.u64.wrap n = (n.natAbs : Int) := by
      simp only [IntKind.wrap, IntKind.bits, IntKind.signed, Bool.false_and, Bool.false_eq_true, if_false]
      omega
    rw [this]
    rfl
theorem flat_join (l : List ByteArray) : bytesOf ⟨(Lib.join (l.map (·.data.toList)) (⟨#[]⟩ : ByteArray).data.toList).toArray⟩ = (l.map bytesOf).flatten := by
  unfold bytesOf
  show ((Lib.join (l.map (·.data.toList)) []).toArray.toList).map _ = _
  rw [List.toList_toArray]
  unfold Lib.join
  rw [List.intercalate]
  have e : ∀ m : List (List UInt8), (List.intersperse [] m).flatten = m.flatten := by
    intro m
    induction m with
    | nil => rfl
    | cons x r ih =>
      cases r with
      | nil => rfl
      | cons y r =>
        simp only [List.intersperse_cons_cons, List.flatten_cons, List.nil_append] at ih ⊢
        rw [ih]
  rw [e, List.map_flatten, List.map_map]
  rfl
theorem join0_f (l : List ByteArray) (h : (l.map bytesOf).flatten.length ≤ 140737488355328) (h2 : l.length ≤ 140737488355328) : strings_Join.f l (⟨#[]⟩ : ByteArray) = some (strOfNums (l.map bytesOf).flatten) := by
  unfold strings_Join.f
  have e := flat_join l
  have hl : (Lib.join (l.map (·.data.toList)) (⟨#[]⟩ : ByteArray).data.toList).length = (l.map bytesOf).flatten.length := by
    rw [← e, by_len]
    rfl
  rw [if_pos ⟨by rw [hl]; exact h, h2⟩]
  congr 1
  apply by_inj
  rw [e, by_str]
  intro x hx
  obtain ⟨y, hy, hx⟩ := List.mem_flatten.1 hx
  obtain ⟨s, _, rfl⟩ := List.mem_map.1 hy
  exact by_rng s x hx
theorem sgn_rng (n : Int) : ∀ x ∈ sgnL n, 0 ≤ x ∧ x < 256 := by
  unfold sgnL
  intro x hx
  split at hx
  · obtain rfl := List.mem_singleton.1 hx; omega
  · cases hx
theorem sgn_len (n : Int) : (sgnL n).length ≤ 1 := by
  unfold sgnL
  split <;> simp
theorem bnd {α β : Type} {x : Option α} {a : α} {f : α → Option β} {r : Option β} (h : x = some a) (k : f a = r) : x.bind f = r := by rw [h]; exact k
theorem dec_nat (n : Nat) (h : n < 18446744073709551616) : words_decimal.f (n : Int) = some (strOfNums (digs n)) := by
  have := decimal_f (n : Int) (by omega) (by omega)
  rwa [Int.toNat_natCast] at this
theorem text_join (n : Int) (h1 : -9223372036854775808 ≤ n) (h2 : n ≤ 9223372036854775807) : strings_Join.f [strOfNums (sgnL n), strOfNums (digs n.natAbs)] (⟨#[]⟩ : ByteArray) = some (strOfNums (textL n)) := by
  have e : ([strOfNums (sgnL n), strOfNums (digs n.natAbs)].map bytesOf).flatten = textL n := by
    simp only [List.map_cons, List.map_nil, List.flatten_cons, List.flatten_nil, List.append_nil]
    rw [by_str _ (sgn_rng n), by_str _ (digs_rng _), textL]
  have hl : (textL n).length ≤ 140737488355328 := by
    unfold textL
    rw [List.length_append]
    have := sgn_len n
    have := len20 n.natAbs (by omega)
    omega
  rw [join0_f _ (by rw [e]; exact hl) (by simp), e]
theorem text_f (n : Int) (h1 : -9223372036854775808 ≤ n) (h2 : n ≤ 9223372036854775807) : words_Text.f n = some (strOfNums (textL n)) := by
  unfold words_Text.f words_together.f
  refine bnd (size_f n h1 h2) ?_
  refine bnd (dec_nat n.natAbs (by omega)) ?_
  exact bnd (bnd (text_join n h1 h2) (Eq.refl _)) (Eq.refl _)
theorem money_join (n : Int) (h1 : -9223372036854775808 ≤ n) (h2 : n ≤ 9223372036854775807) : strings_Join.f [strOfNums (sgnL n), strOfNums (digs (n.natAbs / 100)), (⟨#[46]⟩ : ByteArray), strOfNums (digs (n.natAbs / 10 % 10)), strOfNums (digs (n.natAbs % 10))] (⟨#[]⟩ : ByteArray) = some (strOfNums (moneyL n)) := by
  have e : ([strOfNums (sgnL n), strOfNums (digs (n.natAbs / 100)), (⟨#[46]⟩ : ByteArray), strOfNums (digs (n.natAbs / 10 % 10)), strOfNums (digs (n.natAbs % 10))].map bytesOf).flatten = moneyL n := by
    simp only [List.map_cons, List.map_nil, List.flatten_cons, List.flatten_nil, List.append_nil]
    rw [by_str _ (sgn_rng n), by_str _ (digs_rng _), by_str _ (digs_rng _), by_str _ (digs_rng _), show bytesOf (⟨#[46]⟩ : ByteArray) = [46] from rfl, moneyL, List.singleton_append]
  have hl : (moneyL n).length ≤ 140737488355328 := by
    unfold moneyL
    simp only [List.length_append, List.length_cons]
    have := sgn_len n
    have := len20 (n.natAbs / 100) (by omega)
    have := len20 (n.natAbs / 10 % 10) (by omega)
    have := len20 (n.natAbs % 10) (by omega)
    omega
  rw [join0_f _ (by rw [e]; exact hl) (by simp), e]
theorem money_f (n : Int) (h1 : -9223372036854775808 ≤ n) (h2 : n ≤ 9223372036854775807) : words_Money.f n = some (strOfNums (moneyL n)) := by
  unfold words_Money.f words_together.f
  refine bnd (size_f n h1 h2) ?_
  have wu : ∀ x : Int, 0 ≤ x → x < 18446744073709551616 → IntKind.u64.wrap x = x := fun x a b => dec_u x a b
  have q1 : IntKind.u64.wrap (Int.tdiv (n.natAbs : Int) 100) = ((n.natAbs / 100 : Nat) : Int) := by
    rw [Int.tdiv_eq_ediv_of_nonneg (by omega), wu _ (by omega) (by omega)]; omega
  have q2 : Int.tmod (IntKind.u64.wrap (Int.tdiv (n.natAbs : Int) 10)) 10 = ((n.natAbs / 10 % 10 : Nat) : Int) := by
    rw [Int.tdiv_eq_ediv_of_nonneg (by omega), wu _ (by omega) (by omega), Int.tmod_eq_emod_of_nonneg (by omega)]; omega
  have q3 : Int.tmod (n.natAbs : Int) 10 = ((n.natAbs % 10 : Nat) : Int) := by
    rw [Int.tmod_eq_emod_of_nonneg (by omega)]; omega
  rw [q1, q2, q3]
  refine bnd (dec_nat _ (by omega)) ?_
  refine bnd (dec_nat _ (by omega)) ?_
  refine bnd (dec_nat _ (by omega)) ?_
  exact bnd (bnd (money_join n h1 h2) (Eq.refl _)) (Eq.refl _)
end Go.Proofs.YtgaicbhbgephbaaDoor.P
end
section
namespace Go.Proofs.YtgaicbhbgephbaaDoor.P
set_option linter.unusedVariables false
set_option linter.unusedSimpArgs false
open Go.RowKit Go.Proofs.YtgaicbhbgephbaaDoorW.PrintWords Go.Proofs.YtgaicbhbgephbaaDoorW.PrintMore Go.Proofs.YtgaicbhbgephbaaDoor.X
theorem unsign_sgn (n : Int) (T : List Int) (h : T.head? ≠ some 45) : unsign (sgnL n ++ T) = (T, decide (n < 0)) := by
  unfold unsign sgnL
  by_cases c : n < 0
  · rw [if_pos c, decide_eq_true c, List.singleton_append, List.head?_cons, if_pos rfl, List.tail_cons]
  · rw [if_neg c, decide_eq_false c, List.nil_append, if_neg h]
theorem dig_head {T : List Int} (h : ∀ x ∈ T, digitB x = true) : T.head? ≠ some 45 := by
  intro e
  have hm : (45 : Int) ∈ T := List.mem_of_head? e
  have := dig_rng (h _ hm)
  omega
theorem digs_zero {n : Nat} (h : digs n = [48]) : n = 0 := by
  have := numV_digs n
  rw [h] at this
  have e : numV 0 [48] = 0 := rfl
  omega
theorem int_text (n : Int) : intL (textL n) = if n.natAbs ≤ 1152921504606846976 then (n, 0) else (0, 3) := by
  unfold intL textL
  rw [unsign_sgn n _ (dig_head (digs_all _))]
  have hz : ¬ (decide (n < 0) = true ∧ digs n.natAbs = [48]) := by
    rintro ⟨h1, h2⟩
    have := digs_zero h2
    have := of_decide_eq_true h1
    omega
  rw [if_pos ⟨plain_digs _, hz⟩]
  unfold numR
  rw [numV_digs]
  by_cases c : n.natAbs ≤ 1152921504606846976
  · rw [if_neg (by omega), if_pos c]
    by_cases c2 : n < 0
    · rw [decide_eq_true c2, if_pos rfl]
      congr 1
      omega
    · rw [decide_eq_false c2, if_neg (by simp)]
      congr 1
      omega
  · rw [if_pos (by omega), if_neg c]
theorem text_int {L : List Int} (h : (intL L).2 = 0) : textL (intL L).1 = L ∧ -1152921504606846976 ≤ (intL L).1 ∧ (intL L).1 ≤ 1152921504606846976 ∧ plainL (unsign L).1 = true := by
  unfold intL at h ⊢
  by_cases c : plainL (unsign L).1 = true ∧ ¬((unsign L).2 = true ∧ (unsign L).1 = [48])
  case neg => rw [if_neg c] at h; exact absurd h (by decide)
  rw [if_pos c] at h ⊢
  unfold numR at h ⊢
  by_cases c2 : 1152921504606846976 < numV 0 (unsign L).1
  · rw [if_pos c2] at h; exact absurd h (by decide)
  rw [if_neg c2]
  have h0 := numV_mono (unsign L).1 0 (by omega) (plain_all c.1)
  have hb := digs_back _ (unsign L).1 rfl c.1
  unfold unsign at c c2 h0 hb ⊢
  by_cases c3 : L.head? = some 45
  · rw [if_pos c3] at c c2 h0 hb ⊢
    simp only [if_true]
    simp only [] at c c2 h0 hb
    have hne : numV 0 L.tail ≠ 0 := fun e => c.2 ⟨by trivial, plain_zero c.1 e⟩
    refine ⟨?_, by omega, by omega, c.1⟩
    unfold textL sgnL
    rw [if_pos (by omega), show (-(numV 0 L.tail)).natAbs = (numV 0 L.tail).toNat by omega, hb, List.singleton_append]
    cases L with
    | nil => cases c3
    | cons x r =>
      rw [List.head?_cons] at c3
      obtain rfl := Option.some.inj c3
      rfl
  · rw [if_neg c3] at c c2 h0 hb ⊢
    simp only [Bool.false_eq_true, if_false]
    simp only [] at c c2 h0 hb
    refine ⟨?_, by omega, by omega, c.1⟩
    unfold textL sgnL
    rw [if_neg (by omega), show (numV 0 L).natAbs = (numV 0 L).toNat by omega, hb, List.nil_append]
theorem digs_one {n : Nat} (h : n < 10) : digs n = [48 + (n : Int)] := digs_lt h
theorem rcents_parts (A : List Int) (x y : Int) (m : Bool) (hA : plainL A = true) (hx : digitB x = true) (hy : digitB y = true) : rcentsT (A ++ [46, x, y]) m = sgnR (numV 0 (A ++ [x, y])) m := by
  unfold rcentsT
  have hl : (A ++ [46, x, y]).length = A.length + 3 := by simp
  have ht : (A ++ [46, x, y]).take A.length = A := by simp
  have hd : (A ++ [46, x, y]).drop (A.length + 1) = [x, y] := by
    rw [List.drop_append]
    simp
  have hAn : 0 < A.length := by
    cases A with
    | nil => cases hA
    | cons a r => simp
  rw [hl, show A.length + 3 - 3 = A.length by omega, show A.length + 3 - 2 = A.length + 1 by omega, ht, hd]
  have h2 : plainL [49, x, y] = true := by
    rw [plain_two (B := [x, y]) rfl]
    simp [hx, hy]
  rw [if_pos ⟨by omega, by simp, hA, h2⟩]
theorem cents_money (n : Int) : centsL (moneyL n) = if n.natAbs ≤ 1152921504606846976 then (n, 0) else (0, 3) := by
  unfold centsL moneyL
  rw [digs_one (n := n.natAbs / 10 % 10) (by omega), digs_one (n := n.natAbs % 10) (by omega)]
  simp only [List.singleton_append]
  rw [unsign_sgn n _ (by
    rw [head_app (digs_ne _)]
    exact dig_head (digs_all _))]
  rw [cents_same, rcents_parts _ _ _ _ (plain_digs _) (digitB_of (by omega) (by omega)) (digitB_of (by omega) (by omega)), numV_app, numV_digs]
  have e : numV ((n.natAbs / 100 : Nat) : Int) [48 + ((n.natAbs / 10 % 10 : Nat) : Int), 48 + ((n.natAbs % 10 : Nat) : Int)] = (n.natAbs : Int) := by
    show 10 * (10 * ((n.natAbs / 100 : Nat) : Int) + (48 + ((n.natAbs / 10 % 10 : Nat) : Int) - 48)) + (48 + ((n.natAbs % 10 : Nat) : Int) - 48) = _
    omega
  rw [e]
  unfold sgnR
  rw [if_neg (by
    rintro ⟨h1, h2⟩
    have := of_decide_eq_true h1
    omega)]
  by_cases c : n.natAbs ≤ 1152921504606846976
  · rw [if_neg (by omega), if_pos c]
    by_cases c2 : n < 0
    · rw [decide_eq_true c2, if_pos rfl]
      congr 1
      omega
    · rw [decide_eq_false c2, if_neg (by simp)]
      congr 1
      omega
  · rw [if_pos (by omega), if_neg c]
theorem rcents_ok {T : List Int} {m : Bool} (h : (rcentsT T m).2 = 0) : ∃ A x y, T = A ++ [46, x, y] ∧ plainL A = true ∧ digitB x = true ∧ digitB y = true := by
  unfold rcentsT at h
  by_cases c : 3 < T.length ∧ T[T.length - 3]? = some 46 ∧ plainL (T.take (T.length - 3)) = true ∧ plainL (49 :: T.drop (T.length - 2)) = true
  case neg => rw [if_neg c] at h; exact absurd h (by decide)
  obtain ⟨c1, c2, c3, c4⟩ := c
  have hl : (T.drop (T.length - 2)).length = 2 := by rw [List.length_drop]; omega
  rw [plain_two hl] at c4
  obtain ⟨x, y, hxy⟩ : ∃ x y, T.drop (T.length - 2) = [x, y] := by
    rcases hT : T.drop (T.length - 2) with _ | ⟨x, _ | ⟨y, _ | ⟨z, r⟩⟩⟩
    · rw [hT] at hl; simp at hl
    · rw [hT] at hl; simp at hl
    · exact ⟨x, y, rfl⟩
    · rw [hT] at hl; simp at hl
  rw [hxy] at c4
  simp only [List.all_cons, List.all_nil, Bool.and_true, Bool.and_eq_true] at c4
  refine ⟨T.take (T.length - 3), x, y, ?_, c3, c4.1, c4.2⟩
  have hlt : T.length - 3 < T.length := by omega
  have e : T[T.length - 3] = 46 := by
    rw [List.getElem?_eq_getElem hlt] at c2
    exact Option.some.inj c2
  have := List.take_append_drop (T.length - 3) T
  rw [drop_cons _ _ hlt, e, show T.length - 3 + 1 = T.length - 2 by omega, hxy] at this
  exact this.symm
theorem money_cents {L : List Int} (h : (centsL L).2 = 0) : moneyL (centsL L).1 = L ∧ -1152921504606846976 ≤ (centsL L).1 ∧ (centsL L).1 ≤ 1152921504606846976 ∧ (46 : Int) ∈ (unsign L).1 := by
  unfold centsL at h ⊢
  rw [cents_same] at h ⊢
  obtain ⟨A, x, y, hT, hA, hx, hy⟩ := rcents_ok h
  rw [hT, rcents_parts A x y _ hA hx hy] at h ⊢
  have hx' := dig_rng hx
  have hy' := dig_rng hy
  have h0 := numV_mono A 0 (by omega) (plain_all hA)
  have e : numV 0 (A ++ [x, y]) = 100 * numV 0 A + (10 * (x - 48) + (y - 48)) := by
    rw [numV_app]
    show 10 * (10 * numV 0 A + (x - 48)) + (y - 48) = _
    omega
  have hb := digs_back _ A rfl hA
  unfold sgnR at h ⊢
  by_cases c1 : (unsign L).2 = true ∧ numV 0 (A ++ [x, y]) = 0
  · rw [if_pos c1] at h; exact absurd h (by decide)
  rw [if_neg c1] at h ⊢
  by_cases c2 : 1152921504606846976 < numV 0 (A ++ [x, y])
  · rw [if_pos c2] at h; exact absurd h (by decide)
  rw [if_neg c2]
  rw [e] at c1 c2 ⊢
  have key : ∀ n : Int, (n.natAbs : Int) = 100 * numV 0 A + (10 * (x - 48) + (y - 48)) → moneyL n = sgnL n ++ (A ++ [46, x, y]) := by
    intro n hn
    unfold moneyL
    rw [show n.natAbs / 100 = (numV 0 A).toNat by omega, hb, digs_one (n := n.natAbs / 10 % 10) (by omega), digs_one (n := n.natAbs % 10) (by omega), show (48 + ((n.natAbs / 10 % 10 : Nat) : Int)) = x by omega, show (48 + ((n.natAbs % 10 : Nat) : Int)) = y by omega]
    rfl
  refine ⟨?_, ?_, ?_, by simp⟩
  · unfold unsign at hT c1 ⊢
    by_cases c3 : L.head? = some 45
    · rw [if_pos c3] at hT c1 ⊢
      simp only [if_true]
      simp only [true_and] at hT c1
      rw [key _ (by omega)]
      unfold sgnL
      rw [if_pos (by omega), ← hT]
      cases L with
      | nil => cases c3
      | cons z r =>
        rw [List.head?_cons] at c3
        obtain rfl := Option.some.inj c3
        rfl
    · rw [if_neg c3] at hT ⊢
      simp only [Bool.false_eq_true, if_false]
      simp only [] at hT
      rw [key _ (by omega)]
      unfold sgnL
      rw [if_neg (by omega), hT, List.nil_append]
  · dsimp only
    by_cases c3 : (unsign L).2 = true
    · rw [if_pos c3]; omega
    · rw [if_neg c3]; omega
  · dsimp only
    by_cases c3 : (unsign L).2 = true
    · rw [if_pos c3]; omega
    · rw [if_neg c3]; omega
theorem not_both {L : List Int} (h1 : (intL L).2 = 0) (h2 : (centsL L).2 = 0) : False := by
  have a := (text_int h1).2.2.2
  have b := (money_cents h2).2.2.2
  have := dig_rng (plain_all a _ b)
  omega
end Go.Proofs.YtgaicbhbgephbaaDoor.P
end
section
namespace Go.Proofs.YtgaicbhbgephbaaDoor.P
open Go.RowKit Go.Proofs.YtgaicbhbgephbaaDoorW.PrintWords Go.Proofs.YtgaicbhbgephbaaDoorW.PrintMore Go.Proofs.YtgaicbhbgephbaaDoor.X
set_option maxRecDepth 100000 in
theorem goes03 : Ev (fun k => contangolaw03_goes.f k) true := Ev.of (k := 40) (contangolaw03_goes.mono) (by decide +kernel)
end Go.Proofs.YtgaicbhbgephbaaDoor.P
end
section
namespace Go.Proofs.YtgaicbhbgephbaaDoor.Pure
set_option linter.unusedVariables false
set_option linter.unusedSimpArgs false
open Go.RowKit Go.Proofs.YtgaicbhbgephbaaDoorW.PrintWords Go.Proofs.YtgaicbhbgephbaaDoorW.PrintMore Go.Proofs.YtgaicbhbgephbaaDoor.X Go.Proofs.YtgaicbhbgephbaaDoor.P
theorem text_sz (n : Int) (h1 : -9223372036854775808 ≤ n) (h2 : n ≤ 9223372036854775807) : (strOfNums (textL n)).size ≤ 4611686018427387904 := by
  rw [strOfNums_size]
  unfold textL
  rw [List.length_append]
  have := sgn_len n
  have := len20 n.natAbs (by omega)
  omega
theorem money_sz (n : Int) (h1 : -9223372036854775808 ≤ n) (h2 : n ≤ 9223372036854775807) : (strOfNums (moneyL n)).size ≤ 4611686018427387904 := by
  rw [strOfNums_size]
  unfold moneyL
  simp only [List.length_append, List.length_cons]
  have := sgn_len n
  have := len20 (n.natAbs / 100) (by omega)
  have := len20 (n.natAbs / 10 % 10) (by omega)
  have := len20 (n.natAbs % 10) (by omega)
  omega
theorem text_rng (n : Int) : ∀ x ∈ textL n, 0 ≤ x ∧ x < 256 := by
  unfold textL
  intro x hx
  rcases List.mem_append.1 hx with h | h
  · exact sgn_rng n x h
  · exact digs_rng _ x h
theorem money_rng (n : Int) : ∀ x ∈ moneyL n, 0 ≤ x ∧ x < 256 := by
  unfold moneyL
  intro x hx
  simp only [List.mem_append, List.mem_cons] at hx
  rcases hx with h | h | h | h | h
  · exact sgn_rng n x h
  · exact digs_rng _ x h
  · omega
  · exact digs_rng _ x h
  · exact digs_rng _ x h
theorem back_s (s : ByteArray) (hs : s.size ≤ 4611686018427387904) : Ev (fun k => contangolaw03_WordsBack.j1 k s false) true := by
  refine Ev_succ ?_
  simp only [contangolaw03_WordsBack.j1, Bool.false_eq_true, if_false]
  refine Ev_bind (int_f s hs) ?_
  refine Ev_bind (cents_f s hs) ?_
  by_cases c1 : (intL (bytesOf s)).2 = 0
  · have c2 : ¬ (centsL (bytesOf s)).2 = 0 := fun h => not_both c1 h
    obtain ⟨t1, t2, t3, _⟩ := text_int c1
    simp only [if_pos c1, if_neg c2]
    rw [text_f _ (by omega) (by omega), t1, str_by]
    simp only [Option.bind_some, if_true]
    exact Ev_id goes03
  · simp only [if_neg c1]
    by_cases c2 : (centsL (bytesOf s)).2 = 0
    · obtain ⟨t1, t2, t3, _⟩ := money_cents c2
      simp only [if_pos c2]
      rw [money_f _ (by omega) (by omega), t1, str_by]
      simp only [Option.bind_some, if_true]
      exact Ev_id goes03
    · simp only [if_neg c2]
      exact Ev_id goes03
theorem back_n (n : Int) (s : ByteArray) (h1 : -9223372036854775808 ≤ n) (h2 : n ≤ 9223372036854775807) (hs : s.size ≤ 4611686018427387904) (b : Bool) (hb : b = decide (n.natAbs ≤ 1152921504606846976)) : Ev (fun k => contangolaw03_WordsBack.j0 k n s b) true := by
  refine Ev_succ ?_
  simp only [contangolaw03_WordsBack.j0]
  rw [text_f n h1 h2, money_f n h1 h2]
  simp only [Option.bind_some]
  refine Ev_bind (int_f _ (text_sz n h1 h2)) ?_
  refine Ev_bind (cents_f _ (money_sz n h1 h2)) ?_
  rw [by_str _ (text_rng n), by_str _ (money_rng n), int_text, cents_money]
  by_cases c : n.natAbs ≤ 1152921504606846976
  · rw [decide_eq_true c] at hb
    subst hb
    simp only [if_pos c, if_true]
    exact back_s s hs
  · rw [decide_eq_false c] at hb
    subst hb
    simp only [if_neg c, Bool.false_eq_true, if_false, if_true, bne_self_eq_false]
    exact back_s s hs
theorem WordsBack : ∀ (a0 : Int) (a1 : ByteArray), (Lit.int .i64 a0).wf = true → a1.size ≤ 140737488351232 → ∃ k, X.contangolaw03_WordsBack.f k a0 a1 = some true := by
  intro a0 a1 h0 h3
  obtain ⟨h1, h2⟩ := wf_rng h0
  refine Ev.rounds ?_
  unfold contangolaw03_WordsBack.f
  by_cases c : a0 ≥ -1152921504606846976
  · simp only [if_pos c]
    refine back_n a0 a1 h1 h2 (by omega) _ ?_
    rw [decide_eq_decide]
    omega
  · simp only [if_neg c]
    refine back_n a0 a1 h1 h2 (by omega) _ ?_
    rw [eq_comm, decide_eq_false_iff_not]
    omega
end Go.Proofs.YtgaicbhbgephbaaDoor.Pure
end
