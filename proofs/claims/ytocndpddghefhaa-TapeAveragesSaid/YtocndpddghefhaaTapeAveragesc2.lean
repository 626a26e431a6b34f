/- For TapeAverages: contracts, and facts on lists and numbers, that it uses (part 2). -/
import Derived.ChangeArms
import Derived.Deep.Slices
import Derived.Laws.Bits64b
import Derived.Laws.BitsLemmas
import Derived.Laws.Strings
import Derived.Lib.Mul64
import Derived.SizedLaws
import Derived.Test.YtocndpddghefhaaTapeAveragesc1
import Derived.WideShapes
section
namespace Go.Proofs.Ytocndpddghefhaa.X
open Go.RowKit Go.Proofs.YtocndpddghefhaaW.PrintWords Go.Proofs.YtocndpddghefhaaW.PrintLast Go.Proofs.YtocndpddghefhaaW.PrintMore
attribute [local go_sem] max2_int min2_int max_two min_two max_three min_three max_four min_four
set_option linter.unusedVariables false
set_option linter.unusedSimpArgs false
def contangoref01_quotient.l0 : Nat → Int → Int → Int → Int → Int → Int → Option (Int × Int)
  | 0, _, _, _, _, _, _ => none
  | k + 1, x0, x1, x2, x8, x9, x10 => if x10 ≥ 0 then (if 0 ≤ (IntKind.u64.wrap (x10)) then (if (Int.tmod (shr .i64 x0 (IntKind.u64.wrap (x10))) 2) = 1 then (if x2 = 0 then (none) else (if (wrap64 ((wrap64 (2 * x8)) + (wrap64 (Int.tdiv (wrap64 ((wrap64 (2 * x9)) + x1)) x2)))) > 2305843009213693952 then (contangoref01_quotient.l0 k x0 x1 x2 2305843009213693952 (Int.tmod (wrap64 ((wrap64 (2 * x9)) + x1)) x2) (wrap64 (x10 - 1))) else (contangoref01_quotient.l0 k x0 x1 x2 (wrap64 ((wrap64 (2 * x8)) + (wrap64 (Int.tdiv (wrap64 ((wrap64 (2 * x9)) + x1)) x2)))) (Int.tmod (wrap64 ((wrap64 (2 * x9)) + x1)) x2) (wrap64 (x10 - 1))))) else (if x2 = 0 then (none) else (if (wrap64 ((wrap64 (2 * x8)) + (wrap64 (Int.tdiv (wrap64 (2 * x9)) x2)))) > 2305843009213693952 then (contangoref01_quotient.l0 k x0 x1 x2 2305843009213693952 (Int.tmod (wrap64 (2 * x9)) x2) (wrap64 (x10 - 1))) else (contangoref01_quotient.l0 k x0 x1 x2 (wrap64 ((wrap64 (2 * x8)) + (wrap64 (Int.tdiv (wrap64 (2 * x9)) x2)))) (Int.tmod (wrap64 (2 * x9)) x2) (wrap64 (x10 - 1)))))) else (none)) else (some (x8, x9))
def contangoref01_quotient.f (k : Nat) (a0 : Int) (a1 : Int) (a2 : Int) : Option (Int × Int) := contangoref01_quotient.l0 k a0 a1 a2 0 0 60
set_option maxHeartbeats 8000000 in
set_option maxRecDepth 100000 in
theorem contangoref01_quotient.calls (k : Nat) (a0 : Int) (a1 : Int) (a2 : Int) (r1 : Int) (r2 : Int) (w : World) (h : contangoref01_quotient.f k a0 a1 a2 = some (r1, r2)) :
    Calls Try.prog 75 #[.int .i64 a0, .int .i64 a1, .int .i64 a2] w fun e w' => e = .returned (.tuple #[.int .i64 r1, .int .i64 r2]) ∧ Drawn0 w w' := by
  have H : (contangoref01_quotient.l0 k a0 a1 a2 0 0 60) = some (r1, r2) := h
  clear h
  have H' := Aside0.mk H
  clear H
  go_enter Try.func75, Try.ntmps75
  go_wp2
  go_loopg [8, 9, 10] k (fun kq v8 v9 v10 w' => ∃ (x8_1 : Int) (x9_1 : Int) (x10_1 : Int), v8 = .int .i64 x8_1 ∧ v9 = .int .i64 x9_1 ∧ v10 = .int .i64 x10_1 ∧ Aside0 (contangoref01_quotient.l0 kq a0 a1 a2 x8_1 x9_1 x10_1 = some (r1, r2)) ∧ Aside0 (kq ≤ k) ∧ Drawn0 w w')
  case atStart => exact ⟨(0), (0), (60), (by first | rfl | (simp; done) | (simp [*]; done)), (by first | rfl | (simp; done) | (simp [*]; done)), (by first | rfl | (simp; done) | (simp [*]; done)), H', ⟨Nat.le_refl _⟩, by repeat (first | exact Drawn0.refl _ | apply Drawn0.step)⟩
  case round =>
    clear H'
    try clear p2
    obtain ⟨x8_1, x9_1, x10_1, rfl, rfl, rfl, HA, HK1, ⟨m1, rfl⟩⟩ := hrel
    cases gk with
    | zero => exact absurd HA.out (by simp [contangoref01_quotient.l0])
    | succ k1 =>
      have H := HA.out
      clear HA
      simp only [contangoref01_quotient.l0] at H
      by_cases c4 : x10_1 ≥ 0
      · rw [if_pos c4] at H
        have c4b0 : decide (0 ≤ x10_1) = true := decide_eq_true c4
        clear c4
        obtain ⟨ji5, hji5⟩ : ∃ j_ : Int, (IntKind.u64.wrap (x10_1)) = j_ := ⟨_, rfl⟩
        replace H : (if 0 ≤ (ji5) then (if (Int.tmod (shr .i64 a0 (ji5)) 2) = 1 then (if a2 = 0 then (none) else (if (wrap64 ((wrap64 (2 * x8_1)) + (wrap64 (Int.tdiv (wrap64 ((wrap64 (2 * x9_1)) + a1)) a2)))) > 2305843009213693952 then (contangoref01_quotient.l0 k1 a0 a1 a2 2305843009213693952 (Int.tmod (wrap64 ((wrap64 (2 * x9_1)) + a1)) a2) (wrap64 (x10_1 - 1))) else (contangoref01_quotient.l0 k1 a0 a1 a2 (wrap64 ((wrap64 (2 * x8_1)) + (wrap64 (Int.tdiv (wrap64 ((wrap64 (2 * x9_1)) + a1)) a2)))) (Int.tmod (wrap64 ((wrap64 (2 * x9_1)) + a1)) a2) (wrap64 (x10_1 - 1))))) else (if a2 = 0 then (none) else (if (wrap64 ((wrap64 (2 * x8_1)) + (wrap64 (Int.tdiv (wrap64 (2 * x9_1)) a2)))) > 2305843009213693952 then (contangoref01_quotient.l0 k1 a0 a1 a2 2305843009213693952 (Int.tmod (wrap64 (2 * x9_1)) a2) (wrap64 (x10_1 - 1))) else (contangoref01_quotient.l0 k1 a0 a1 a2 (wrap64 ((wrap64 (2 * x8_1)) + (wrap64 (Int.tdiv (wrap64 (2 * x9_1)) a2)))) (Int.tmod (wrap64 (2 * x9_1)) a2) (wrap64 (x10_1 - 1)))))) else (none)) = some (r1, r2) := by first | (rw [hji5] at H; exact H) | (simp only [hji5] at H ⊢; exact H)
        by_cases c6 : 0 ≤ (ji5)
        · rw [if_pos c6] at H
          have c6b0 := eq_true c6
          have c6b1 : decide (0 ≤ (ji5)) = true := decide_eq_true c6
          clear c6
          obtain ⟨ji7, hji7⟩ : ∃ j_ : Int, (shr .i64 a0 (ji5)) = j_ := ⟨_, rfl⟩
          replace H : (if (Int.tmod (ji7) 2) = 1 then (if a2 = 0 then (none) else (if (wrap64 ((wrap64 (2 * x8_1)) + (wrap64 (Int.tdiv (wrap64 ((wrap64 (2 * x9_1)) + a1)) a2)))) > 2305843009213693952 then (contangoref01_quotient.l0 k1 a0 a1 a2 2305843009213693952 (Int.tmod (wrap64 ((wrap64 (2 * x9_1)) + a1)) a2) (wrap64 (x10_1 - 1))) else (contangoref01_quotient.l0 k1 a0 a1 a2 (wrap64 ((wrap64 (2 * x8_1)) + (wrap64 (Int.tdiv (wrap64 ((wrap64 (2 * x9_1)) + a1)) a2)))) (Int.tmod (wrap64 ((wrap64 (2 * x9_1)) + a1)) a2) (wrap64 (x10_1 - 1))))) else (if a2 = 0 then (none) else (if (wrap64 ((wrap64 (2 * x8_1)) + (wrap64 (Int.tdiv (wrap64 (2 * x9_1)) a2)))) > 2305843009213693952 then (contangoref01_quotient.l0 k1 a0 a1 a2 2305843009213693952 (Int.tmod (wrap64 (2 * x9_1)) a2) (wrap64 (x10_1 - 1))) else (contangoref01_quotient.l0 k1 a0 a1 a2 (wrap64 ((wrap64 (2 * x8_1)) + (wrap64 (Int.tdiv (wrap64 (2 * x9_1)) a2)))) (Int.tmod (wrap64 (2 * x9_1)) a2) (wrap64 (x10_1 - 1)))))) = some (r1, r2) := by first | (rw [hji7] at H; exact H) | (simp only [hji7] at H ⊢; exact H)
          have hji7_ : (a0 / 2 ^ min (ji5).toNat 64) = ji7 := hji7
          have hji7z : (ji5) ≤ 64 → (a0 / 2 ^ (ji5).toNat) = ji7 := shr_small hji7
          by_cases c8 : (Int.tmod (ji7) 2) = 1
          · rw [if_pos c8] at H
            have c8b0 : ((Int.tmod (ji7) 2) == 1) = true := beq_iff_eq.mpr c8
            have c8b1 : ((Int.tmod (ji7) 2) != 1) = false := bne_eq_false_iff_eq.mpr c8
            clear c8
            by_cases c9 : a2 = 0
            · rw [if_pos c9] at H
              exact absurd H (by simp)
            · rw [if_neg c9] at H
              have c9b0 : (a2 == 0) = false := beq_eq_false_iff_ne.mpr c9
              have c9b1 : (a2 != 0) = true := bne_iff_ne.mpr c9
              by_cases c10 : (wrap64 ((wrap64 (2 * x8_1)) + (wrap64 (Int.tdiv (wrap64 ((wrap64 (2 * x9_1)) + a1)) a2)))) > 2305843009213693952
              · rw [if_pos c10] at H
                have c10b0 : decide (2305843009213693952 < (wrap64 ((wrap64 (2 * x8_1)) + (wrap64 (Int.tdiv (wrap64 ((wrap64 (2 * x9_1)) + a1)) a2))))) = true := decide_eq_true c10
                clear c10
                have H' := Aside0.mk H
                clear H
                go_wp2
                go_roundg k1
                case measure => have := HK1.out; omega
                case rel => exact ⟨(2305843009213693952), (Int.tmod (wrap64 ((wrap64 (2 * x9_1)) + a1)) a2), (wrap64 (x10_1 - 1)), (by first | rfl | (simp; done) | (simp [*]; done)), (by first | rfl | (simp; done) | (simp [*]; done)), (by first | rfl | (simp; done) | (simp [*]; done)), H', ⟨by have := HK1.out; omega⟩, by repeat (first | exact Drawn0.refl _ | apply Drawn0.step)⟩
              · rw [if_neg c10] at H
                have c10b0 : decide (2305843009213693952 < (wrap64 ((wrap64 (2 * x8_1)) + (wrap64 (Int.tdiv (wrap64 ((wrap64 (2 * x9_1)) + a1)) a2))))) = false := decide_eq_false c10
                clear c10
                have H' := Aside0.mk H
                clear H
                go_wp2
                go_roundg k1
                case measure => have := HK1.out; omega
                case rel => exact ⟨(wrap64 ((wrap64 (2 * x8_1)) + (wrap64 (Int.tdiv (wrap64 ((wrap64 (2 * x9_1)) + a1)) a2)))), (Int.tmod (wrap64 ((wrap64 (2 * x9_1)) + a1)) a2), (wrap64 (x10_1 - 1)), (by first | rfl | (simp; done) | (simp [*]; done)), (by first | rfl | (simp; done) | (simp [*]; done)), (by first | rfl | (simp; done) | (simp [*]; done)), H', ⟨by have := HK1.out; omega⟩, by repeat (first | exact Drawn0.refl _ | apply Drawn0.step)⟩
          · rw [if_neg c8] at H
            have c8b0 : ((Int.tmod (ji7) 2) == 1) = false := beq_eq_false_iff_ne.mpr c8
            have c8b1 : ((Int.tmod (ji7) 2) != 1) = true := bne_iff_ne.mpr c8
            by_cases c11 : a2 = 0
            · rw [if_pos c11] at H
              exact absurd H (by simp)
            · rw [if_neg c11] at H
              have c11b0 : (a2 == 0) = false := beq_eq_false_iff_ne.mpr c11
              have c11b1 : (a2 != 0) = true := bne_iff_ne.mpr c11
              by_cases c12 : (wrap64 ((wrap64 (2 * x8_1)) + (wrap64 (Int.tdiv (wrap64 (2 * x9_1)) a2)))) > 2305843009213693952
              · rw [if_pos c12] at H
                have c12b0 : decide (2305843009213693952 < (wrap64 ((wrap64 (2 * x8_1)) + (wrap64 (Int.tdiv (wrap64 (2 * x9_1)) a2))))) = true := decide_eq_true c12
                clear c12
                have H' := Aside0.mk H
                clear H
                go_wp2
                go_roundg k1
                case measure => have := HK1.out; omega
                case rel => exact ⟨(2305843009213693952), (Int.tmod (wrap64 (2 * x9_1)) a2), (wrap64 (x10_1 - 1)), (by first | rfl | (simp; done) | (simp [*]; done)), (by first | rfl | (simp; done) | (simp [*]; done)), (by first | rfl | (simp; done) | (simp [*]; done)), H', ⟨by have := HK1.out; omega⟩, by repeat (first | exact Drawn0.refl _ | apply Drawn0.step)⟩
              · rw [if_neg c12] at H
                have c12b0 : decide (2305843009213693952 < (wrap64 ((wrap64 (2 * x8_1)) + (wrap64 (Int.tdiv (wrap64 (2 * x9_1)) a2))))) = false := decide_eq_false c12
                clear c12
                have H' := Aside0.mk H
                clear H
                go_wp2
                go_roundg k1
                case measure => have := HK1.out; omega
                case rel => exact ⟨(wrap64 ((wrap64 (2 * x8_1)) + (wrap64 (Int.tdiv (wrap64 (2 * x9_1)) a2)))), (Int.tmod (wrap64 (2 * x9_1)) a2), (wrap64 (x10_1 - 1)), (by first | rfl | (simp; done) | (simp [*]; done)), (by first | rfl | (simp; done) | (simp [*]; done)), (by first | rfl | (simp; done) | (simp [*]; done)), H', ⟨by have := HK1.out; omega⟩, by repeat (first | exact Drawn0.refl _ | apply Drawn0.step)⟩
        · rw [if_neg c6] at H
          exact absurd H (by simp)
      · rw [if_neg c4] at H
        have c4b0 : decide (0 ≤ x10_1) = false := decide_eq_false c4
        clear c4
        simp only [Option.some.injEq, Prod.mk.injEq] at H
        obtain ⟨rfl, rfl⟩ := H
        go_wp2
        go_ret2
        exact ⟨by first | rfl | (simp; done) | (simp [*]; done), by repeat (first | exact Drawn0.refl _ | apply Drawn0.step)⟩
end Go.Proofs.Ytocndpddghefhaa.X
end
section
namespace Go.Proofs.Ytocndpddghefhaa.X
open Go.RowKit Go.Proofs.YtocndpddghefhaaW.PrintWords Go.Proofs.YtocndpddghefhaaW.PrintLast Go.Proofs.YtocndpddghefhaaW.PrintMore
attribute [local go_sem] max2_int min2_int max_two min_two max_three min_three max_four min_four
set_option linter.unusedVariables false
set_option linter.unusedSimpArgs false
def contangoref01_size.f (a0 : Int) : Option (Int) := if a0 < 0 then (some (wrap64 (-a0))) else (some a0)
set_option maxHeartbeats 8000000 in
set_option maxRecDepth 100000 in
theorem contangoref01_size.calls (a0 : Int) (r : Int) (w : World) (h : contangoref01_size.f a0 = some r) :
    Calls Try.prog 76 #[.int .i64 a0] w fun e w' => e = .returned (.int .i64 r) ∧ Drawn0 w w' := by
  have H : (if a0 < 0 then (some (wrap64 (-a0))) else (some a0)) = some r := h
  clear h
  by_cases c2 : a0 < 0
  · rw [if_pos c2] at H
    have c2b0 : decide (a0 < 0) = true := decide_eq_true c2
    clear c2
    obtain rfl := Option.some.inj H
    go_enter Try.func76, Try.ntmps76
    go_wp2
    go_ret
    exact ⟨by first | rfl | (simp; done) | (simp [*]; done), by repeat (first | exact Drawn0.refl _ | apply Drawn0.step)⟩
  · rw [if_neg c2] at H
    have c2b0 : decide (a0 < 0) = false := decide_eq_false c2
    clear c2
    obtain rfl := Option.some.inj H
    go_enter Try.func76, Try.ntmps76
    go_wp2
    go_ret
    exact ⟨by first | rfl | (simp; done) | (simp [*]; done), by repeat (first | exact Drawn0.refl _ | apply Drawn0.step)⟩
end Go.Proofs.Ytocndpddghefhaa.X
end
section
namespace Go.Proofs.Ytocndpddghefhaa.X
open Go.RowKit Go.Proofs.YtocndpddghefhaaW.PrintWords Go.Proofs.YtocndpddghefhaaW.PrintLast Go.Proofs.YtocndpddghefhaaW.PrintMore
attribute [local go_sem] max2_int min2_int max_two min_two max_three min_three max_four min_four
set_option linter.unusedVariables false
set_option linter.unusedSimpArgs false
mutual
def contangoref01_MulDiv.j0 : Nat → Int → Int → Int → Int → Bool → Option (Int × Int)
  | 0, _, _, _, _, _ => none
  | k + 1, x0, x1, x2, x3, x33 => if x33 = true then (some (0, 2)) else (if x2 = 0 then (some (0, 4)) else ((contangoref01_size.f x0).bind fun t104 => ((contangoref01_size.f x1).bind fun t105 => ((contangoref01_size.f x2).bind fun t106 => ((contangoref01_quotient.f k t104 t105 t106).bind fun bt107 => (if bt107.2 > 0 then ((contangoref01_size.f x2).bind fun t109 => ((contangoref01_away.f bt107.1 bt107.2 t109 x3 (!((!((decide (x0 < 0)) == (decide (x1 < 0)))) == (decide (x2 < 0))))).bind fun t110 => (contangoref01_MulDiv.j1 k bt107.1 (!((!((decide (x0 < 0)) == (decide (x1 < 0)))) == (decide (x2 < 0)))) t110))) else (contangoref01_MulDiv.j1 k bt107.1 (!((!((decide (x0 < 0)) == (decide (x1 < 0)))) == (decide (x2 < 0)))) false)))))))
def contangoref01_MulDiv.j1 : Nat → Int → Bool → Bool → Option (Int × Int)
  | 0, _, _, _ => none
  | k + 1, x10, x12, x64 => if x64 = true then (contangoref01_MulDiv.j2 k (wrap64 (x10 + 1)) x12) else (contangoref01_MulDiv.j2 k x10 x12)
def contangoref01_MulDiv.j2 : Nat → Int → Bool → Option (Int × Int)
  | 0, _, _ => none
  | k + 1, x10, x12 => if x10 > 1152921504606846976 then (some (0, 3)) else (if x12 = true then (some (wrap64 (-x10), 0)) else (some (x10, 0)))
end
def contangoref01_MulDiv.f (k : Nat) (a0 : Int) (a1 : Int) (a2 : Int) (a3 : Int) : Option (Int × Int) := (contangoref01_Fits.f a0).bind fun t101 => (if t101 = true then ((contangoref01_Fits.f a1).bind fun t102 => (if t102 = true then ((contangoref01_Fits.f a2).bind fun t103 => (if t103 = true then (if a3 < 1 then (contangoref01_MulDiv.j0 k a0 a1 a2 a3 true) else (contangoref01_MulDiv.j0 k a0 a1 a2 a3 (decide (a3 > 5)))) else (contangoref01_MulDiv.j0 k a0 a1 a2 a3 true))) else (contangoref01_MulDiv.j0 k a0 a1 a2 a3 true))) else (contangoref01_MulDiv.j0 k a0 a1 a2 a3 true))
set_option maxHeartbeats 8000000 in
set_option maxRecDepth 100000 in
theorem contangoref01_MulDiv.calls (k : Nat) (a0 : Int) (a1 : Int) (a2 : Int) (a3 : Int) (r1 : Int) (r2 : Int) (w : World) (h : contangoref01_MulDiv.f k a0 a1 a2 a3 = some (r1, r2)) :
    Calls Try.prog 40 #[.int .i64 a0, .int .i64 a1, .int .i64 a2, .int .i64 a3] w fun e w' => e = .returned (.tuple #[.int .i64 r1, .int .i64 r2]) ∧ Drawn0 w w' := by
  have H : ((contangoref01_Fits.f a0).bind fun t101 => (if t101 = true then ((contangoref01_Fits.f a1).bind fun t102 => (if t102 = true then ((contangoref01_Fits.f a2).bind fun t103 => (if t103 = true then (if a3 < 1 then (contangoref01_MulDiv.j0 k a0 a1 a2 a3 true) else (contangoref01_MulDiv.j0 k a0 a1 a2 a3 (decide (a3 > 5)))) else (contangoref01_MulDiv.j0 k a0 a1 a2 a3 true))) else (contangoref01_MulDiv.j0 k a0 a1 a2 a3 true))) else (contangoref01_MulDiv.j0 k a0 a1 a2 a3 true))) = some (r1, r2) := h
  clear h
  have HC5 := Aside0.mk H
  clear H
  go_enter Try.func40, Try.ntmps40
  go_upto_region 1 with (fail)
  go_cut [33] (fun v33 wc => ∃ (kq : Nat) (x33_4 : Bool), v33 = .bool x33_4 ∧ Aside0 (contangoref01_MulDiv.j0 kq a0 a1 a2 a3 x33_4 = some (r1, r2)) ∧ Aside0 (kq ≤ k) ∧ Drawn0 w wc)
  case first =>
    have H := HC5.out
    clear HC5
    replace H := Option.bind_eq_some_iff.mp H
    obtain ⟨t101, A60, H⟩ := H
    replace H : (if t101 = true then ((contangoref01_Fits.f a1).bind fun t102 => (if t102 = true then ((contangoref01_Fits.f a2).bind fun t103 => (if t103 = true then (if a3 < 1 then (contangoref01_MulDiv.j0 k a0 a1 a2 a3 true) else (contangoref01_MulDiv.j0 k a0 a1 a2 a3 (decide (a3 > 5)))) else (contangoref01_MulDiv.j0 k a0 a1 a2 a3 true))) else (contangoref01_MulDiv.j0 k a0 a1 a2 a3 true))) else (contangoref01_MulDiv.j0 k a0 a1 a2 a3 true)) = some (r1, r2) := H
    have A6 := Aside0.mk A60
    clear A60
    by_cases c7 : t101 = true
    · subst c7
      have H1 : ((contangoref01_Fits.f a1).bind fun t102 => (if t102 = true then ((contangoref01_Fits.f a2).bind fun t103 => (if t103 = true then (if a3 < 1 then (contangoref01_MulDiv.j0 k a0 a1 a2 a3 true) else (contangoref01_MulDiv.j0 k a0 a1 a2 a3 (decide (a3 > 5)))) else (contangoref01_MulDiv.j0 k a0 a1 a2 a3 true))) else (contangoref01_MulDiv.j0 k a0 a1 a2 a3 true))) = some (r1, r2) := by rw [if_pos rfl] at H; exact H
      clear H
      have H := H1
      clear H1
      replace H := Option.bind_eq_some_iff.mp H
      obtain ⟨t102, A80, H⟩ := H
      replace H : (if t102 = true then ((contangoref01_Fits.f a2).bind fun t103 => (if t103 = true then (if a3 < 1 then (contangoref01_MulDiv.j0 k a0 a1 a2 a3 true) else (contangoref01_MulDiv.j0 k a0 a1 a2 a3 (decide (a3 > 5)))) else (contangoref01_MulDiv.j0 k a0 a1 a2 a3 true))) else (contangoref01_MulDiv.j0 k a0 a1 a2 a3 true)) = some (r1, r2) := H
      have A8 := Aside0.mk A80
      clear A80
      by_cases c9 : t102 = true
      · subst c9
        have H1 : ((contangoref01_Fits.f a2).bind fun t103 => (if t103 = true then (if a3 < 1 then (contangoref01_MulDiv.j0 k a0 a1 a2 a3 true) else (contangoref01_MulDiv.j0 k a0 a1 a2 a3 (decide (a3 > 5)))) else (contangoref01_MulDiv.j0 k a0 a1 a2 a3 true))) = some (r1, r2) := by rw [if_pos rfl] at H; exact H
        clear H
        have H := H1
        clear H1
        replace H := Option.bind_eq_some_iff.mp H
        obtain ⟨t103, A100, H⟩ := H
        replace H : (if t103 = true then (if a3 < 1 then (contangoref01_MulDiv.j0 k a0 a1 a2 a3 true) else (contangoref01_MulDiv.j0 k a0 a1 a2 a3 (decide (a3 > 5)))) else (contangoref01_MulDiv.j0 k a0 a1 a2 a3 true)) = some (r1, r2) := H
        have A10 := Aside0.mk A100
        clear A100
        by_cases c11 : t103 = true
        · subst c11
          have H1 : (if a3 < 1 then (contangoref01_MulDiv.j0 k a0 a1 a2 a3 true) else (contangoref01_MulDiv.j0 k a0 a1 a2 a3 (decide (a3 > 5)))) = some (r1, r2) := by rw [if_pos rfl] at H; exact H
          clear H
          have H := H1
          clear H1
          by_cases c12 : a3 < 1
          · rw [if_pos c12] at H
            have c12b0 : decide (a3 < 1) = true := decide_eq_true c12
            clear c12
            (first | rw [c12b0] | (simp only [i64_w, i32_w]; rw [c12b0]) | skip)
            have H' := Aside0.mk H
            clear H
            go_wp2_with (first | ((with_reducible refine gate_callee (f := 74) rfl ?_); refine goesL_ (some 14) rfl rfl Try.func74 (by kernel_rfl) rfl #[.int .i64 a0] rfl (by (try simp only [List.map_toArray, List.map_cons, List.map_nil]); first | done | rfl | (simp only [List.length_drop, List.length_take]; rfl)) ?_; (with_reducible refine (contangoref01_Fits.calls a0 true _ A6.out).mono ?_); rintro e w' ⟨rfl, ⟨nd, rfl⟩⟩; refine ⟨_, rfl, ?_⟩) | (go_at_call 74; (with_reducible refine (contangoref01_Fits.calls a1 true _ A8.out).mono ?_); rintro e w' ⟨rfl, ⟨nd, rfl⟩⟩) | (go_at_call 74; (with_reducible refine (contangoref01_Fits.calls a2 true _ A10.out).mono ?_); rintro e w' ⟨rfl, ⟨nd, rfl⟩⟩))
            go_meet
            case rel => exact ⟨_, (true), (by first | rfl | (simp; done) | (simp [*]; done)), H', ⟨by first | omega | exact Nat.le_refl _⟩, by repeat (first | exact Drawn0.refl _ | apply Drawn0.step)⟩
          · rw [if_neg c12] at H
            have c12b0 : decide (a3 < 1) = false := decide_eq_false c12
            clear c12
            (first | rw [c12b0] | (simp only [i64_w, i32_w]; rw [c12b0]) | skip)
            have H' := Aside0.mk H
            clear H
            go_wp2_with (first | ((with_reducible refine gate_callee (f := 74) rfl ?_); refine goesL_ (some 14) rfl rfl Try.func74 (by kernel_rfl) rfl #[.int .i64 a0] rfl (by (try simp only [List.map_toArray, List.map_cons, List.map_nil]); first | done | rfl | (simp only [List.length_drop, List.length_take]; rfl)) ?_; (with_reducible refine (contangoref01_Fits.calls a0 true _ A6.out).mono ?_); rintro e w' ⟨rfl, ⟨nd, rfl⟩⟩; refine ⟨_, rfl, ?_⟩) | (go_at_call 74; (with_reducible refine (contangoref01_Fits.calls a1 true _ A8.out).mono ?_); rintro e w' ⟨rfl, ⟨nd, rfl⟩⟩) | (go_at_call 74; (with_reducible refine (contangoref01_Fits.calls a2 true _ A10.out).mono ?_); rintro e w' ⟨rfl, ⟨nd, rfl⟩⟩))
            go_meet
            case rel => exact ⟨_, (decide (a3 > 5)), (by first | rfl | (simp; done) | (simp [*]; done)), H', ⟨by first | omega | exact Nat.le_refl _⟩, by repeat (first | exact Drawn0.refl _ | apply Drawn0.step)⟩
        · replace c11 := Bool.eq_false_iff.mpr c11
          subst c11
          have H1 : (contangoref01_MulDiv.j0 k a0 a1 a2 a3 true) = some (r1, r2) := by rw [if_neg (show ¬ (false = true) by decide)] at H; exact H
          clear H
          have H := H1
          clear H1
          have H' := Aside0.mk H
          clear H
          go_wp2_with (first | ((with_reducible refine gate_callee (f := 74) rfl ?_); refine goesL_ (some 14) rfl rfl Try.func74 (by kernel_rfl) rfl #[.int .i64 a0] rfl (by (try simp only [List.map_toArray, List.map_cons, List.map_nil]); first | done | rfl | (simp only [List.length_drop, List.length_take]; rfl)) ?_; (with_reducible refine (contangoref01_Fits.calls a0 true _ A6.out).mono ?_); rintro e w' ⟨rfl, ⟨nd, rfl⟩⟩; refine ⟨_, rfl, ?_⟩) | (go_at_call 74; (with_reducible refine (contangoref01_Fits.calls a1 true _ A8.out).mono ?_); rintro e w' ⟨rfl, ⟨nd, rfl⟩⟩) | (go_at_call 74; (with_reducible refine (contangoref01_Fits.calls a2 false _ A10.out).mono ?_); rintro e w' ⟨rfl, ⟨nd, rfl⟩⟩))
          go_meet
          case rel => exact ⟨_, (true), (by first | rfl | (simp; done) | (simp [*]; done)), H', ⟨by first | omega | exact Nat.le_refl _⟩, by repeat (first | exact Drawn0.refl _ | apply Drawn0.step)⟩
      · replace c9 := Bool.eq_false_iff.mpr c9
        subst c9
        have H1 : (contangoref01_MulDiv.j0 k a0 a1 a2 a3 true) = some (r1, r2) := by rw [if_neg (show ¬ (false = true) by decide)] at H; exact H
        clear H
        have H := H1
        clear H1
        have H' := Aside0.mk H
        clear H
        go_wp2_with (first | ((with_reducible refine gate_callee (f := 74) rfl ?_); refine goesL_ (some 14) rfl rfl Try.func74 (by kernel_rfl) rfl #[.int .i64 a0] rfl (by (try simp only [List.map_toArray, List.map_cons, List.map_nil]); first | done | rfl | (simp only [List.length_drop, List.length_take]; rfl)) ?_; (with_reducible refine (contangoref01_Fits.calls a0 true _ A6.out).mono ?_); rintro e w' ⟨rfl, ⟨nd, rfl⟩⟩; refine ⟨_, rfl, ?_⟩) | (go_at_call 74; (with_reducible refine (contangoref01_Fits.calls a1 false _ A8.out).mono ?_); rintro e w' ⟨rfl, ⟨nd, rfl⟩⟩))
        go_meet
        case rel => exact ⟨_, (true), (by first | rfl | (simp; done) | (simp [*]; done)), H', ⟨by first | omega | exact Nat.le_refl _⟩, by repeat (first | exact Drawn0.refl _ | apply Drawn0.step)⟩
    · replace c7 := Bool.eq_false_iff.mpr c7
      subst c7
      have H1 : (contangoref01_MulDiv.j0 k a0 a1 a2 a3 true) = some (r1, r2) := by rw [if_neg (show ¬ (false = true) by decide)] at H; exact H
      clear H
      have H := H1
      clear H1
      have H' := Aside0.mk H
      clear H
      go_wp2_with (first | ((with_reducible refine gate_callee (f := 74) rfl ?_); refine goesL_ (some 14) rfl rfl Try.func74 (by kernel_rfl) rfl #[.int .i64 a0] rfl (by (try simp only [List.map_toArray, List.map_cons, List.map_nil]); first | done | rfl | (simp only [List.length_drop, List.length_take]; rfl)) ?_; (with_reducible refine (contangoref01_Fits.calls a0 false _ A6.out).mono ?_); rintro e w' ⟨rfl, ⟨nd, rfl⟩⟩; refine ⟨_, rfl, ?_⟩))
      go_meet
      case rel => exact ⟨_, (true), (by first | rfl | (simp; done) | (simp [*]; done)), H', ⟨by first | omega | exact Nat.le_refl _⟩, by repeat (first | exact Drawn0.refl _ | apply Drawn0.step)⟩
  case rest =>
    clear HC5
    try clear c1
    try clear p2
    try clear c4
    try clear c7
    try clear c9
    try clear c11
    try clear c12
    try clear c12b0
    obtain ⟨kq, x33_4, rfl, HA, HJ4, ⟨mc4, rfl⟩⟩ := hcut
    cases kq with
    | zero => exact absurd HA.out (by simp [contangoref01_MulDiv.j0])
    | succ kj4 =>
      have H := HA.out
      clear HA
      simp only [contangoref01_MulDiv.j0] at H
      by_cases c13 : x33_4 = true
      · subst c13
        have H1 : (some (0, 2)) = some (r1, r2) := by rw [if_pos rfl] at H; exact H
        clear H
        have H := H1
        clear H1
        simp only [Option.some.injEq, Prod.mk.injEq] at H
        obtain ⟨rfl, rfl⟩ := H
        go_wp2
        go_ret2
        exact ⟨by first | rfl | (simp; done) | (simp [*]; done), by repeat (first | exact Drawn0.refl _ | apply Drawn0.step)⟩
      · replace c13 := Bool.eq_false_iff.mpr c13
        subst c13
        have H1 : (if a2 = 0 then (some (0, 4)) else ((contangoref01_size.f a0).bind fun t104 => ((contangoref01_size.f a1).bind fun t105 => ((contangoref01_size.f a2).bind fun t106 => ((contangoref01_quotient.f kj4 t104 t105 t106).bind fun bt107 => (if bt107.2 > 0 then ((contangoref01_size.f a2).bind fun t109 => ((contangoref01_away.f bt107.1 bt107.2 t109 a3 (!((!((decide (a0 < 0)) == (decide (a1 < 0)))) == (decide (a2 < 0))))).bind fun t110 => (contangoref01_MulDiv.j1 kj4 bt107.1 (!((!((decide (a0 < 0)) == (decide (a1 < 0)))) == (decide (a2 < 0)))) t110))) else (contangoref01_MulDiv.j1 kj4 bt107.1 (!((!((decide (a0 < 0)) == (decide (a1 < 0)))) == (decide (a2 < 0)))) false))))))) = some (r1, r2) := by rw [if_neg (show ¬ (false = true) by decide)] at H; exact H
        clear H
        have H := H1
        clear H1
        by_cases c14 : a2 = 0
        · rw [if_pos c14] at H
          have c14b0 : (a2 == 0) = true := beq_iff_eq.mpr c14
          have c14b1 : (a2 != 0) = false := bne_eq_false_iff_eq.mpr c14
          clear c14
          simp only [Option.some.injEq, Prod.mk.injEq] at H
          obtain ⟨rfl, rfl⟩ := H
          go_wp2
          go_ret2
          exact ⟨by first | rfl | (simp; done) | (simp [*]; done), by repeat (first | exact Drawn0.refl _ | apply Drawn0.step)⟩
        · rw [if_neg c14] at H
          have c14b0 : (a2 == 0) = false := beq_eq_false_iff_ne.mpr c14
          have c14b1 : (a2 != 0) = true := bne_iff_ne.mpr c14
          replace H := Option.bind_eq_some_iff.mp H
          obtain ⟨t104, A150, H⟩ := H
          replace H : ((contangoref01_size.f a1).bind fun t105 => ((contangoref01_size.f a2).bind fun t106 => ((contangoref01_quotient.f kj4 t104 t105 t106).bind fun bt107 => (if bt107.2 > 0 then ((contangoref01_size.f a2).bind fun t109 => ((contangoref01_away.f bt107.1 bt107.2 t109 a3 (!((!((decide (a0 < 0)) == (decide (a1 < 0)))) == (decide (a2 < 0))))).bind fun t110 => (contangoref01_MulDiv.j1 kj4 bt107.1 (!((!((decide (a0 < 0)) == (decide (a1 < 0)))) == (decide (a2 < 0)))) t110))) else (contangoref01_MulDiv.j1 kj4 bt107.1 (!((!((decide (a0 < 0)) == (decide (a1 < 0)))) == (decide (a2 < 0)))) false))))) = some (r1, r2) := H
          have A15 := Aside0.mk A150
          clear A150
          replace H := Option.bind_eq_some_iff.mp H
          obtain ⟨t105, A160, H⟩ := H
          replace H : ((contangoref01_size.f a2).bind fun t106 => ((contangoref01_quotient.f kj4 t104 t105 t106).bind fun bt107 => (if bt107.2 > 0 then ((contangoref01_size.f a2).bind fun t109 => ((contangoref01_away.f bt107.1 bt107.2 t109 a3 (!((!((decide (a0 < 0)) == (decide (a1 < 0)))) == (decide (a2 < 0))))).bind fun t110 => (contangoref01_MulDiv.j1 kj4 bt107.1 (!((!((decide (a0 < 0)) == (decide (a1 < 0)))) == (decide (a2 < 0)))) t110))) else (contangoref01_MulDiv.j1 kj4 bt107.1 (!((!((decide (a0 < 0)) == (decide (a1 < 0)))) == (decide (a2 < 0)))) false)))) = some (r1, r2) := H
          have A16 := Aside0.mk A160
          clear A160
          replace H := Option.bind_eq_some_iff.mp H
          obtain ⟨t106, A170, H⟩ := H
          replace H : ((contangoref01_quotient.f kj4 t104 t105 t106).bind fun bt107 => (if bt107.2 > 0 then ((contangoref01_size.f a2).bind fun t109 => ((contangoref01_away.f bt107.1 bt107.2 t109 a3 (!((!((decide (a0 < 0)) == (decide (a1 < 0)))) == (decide (a2 < 0))))).bind fun t110 => (contangoref01_MulDiv.j1 kj4 bt107.1 (!((!((decide (a0 < 0)) == (decide (a1 < 0)))) == (decide (a2 < 0)))) t110))) else (contangoref01_MulDiv.j1 kj4 bt107.1 (!((!((decide (a0 < 0)) == (decide (a1 < 0)))) == (decide (a2 < 0)))) false))) = some (r1, r2) := H
          have A17 := Aside0.mk A170
          clear A170
          replace H := Option.bind_eq_some_iff.mp H
          obtain ⟨⟨t107, t108⟩, A180, H⟩ := H
          replace H : (if t108 > 0 then ((contangoref01_size.f a2).bind fun t109 => ((contangoref01_away.f t107 t108 t109 a3 (!((!((decide (a0 < 0)) == (decide (a1 < 0)))) == (decide (a2 < 0))))).bind fun t110 => (contangoref01_MulDiv.j1 kj4 t107 (!((!((decide (a0 < 0)) == (decide (a1 < 0)))) == (decide (a2 < 0)))) t110))) else (contangoref01_MulDiv.j1 kj4 t107 (!((!((decide (a0 < 0)) == (decide (a1 < 0)))) == (decide (a2 < 0)))) false)) = some (r1, r2) := H
          have A18 := Aside0.mk A180
          clear A180
          have HC19 := Aside0.mk H
          clear H
          go_upto_region 7 with (first | ((with_reducible refine gate_callee (f := 76) rfl ?_); refine goesL_ (some 38) rfl rfl Try.func76 (by kernel_rfl) rfl #[.int .i64 a0] rfl (by (try simp only [List.map_toArray, List.map_cons, List.map_nil]); first | done | rfl | (simp only [List.length_drop, List.length_take]; rfl)) ?_; (with_reducible refine (contangoref01_size.calls a0 t104 _ A15.out).mono ?_); rintro e w' ⟨rfl, ⟨nd, rfl⟩⟩; refine ⟨_, rfl, ?_⟩) | ((with_reducible refine gate_callee (f := 76) rfl ?_); refine goesL_ (some 40) rfl rfl Try.func76 (by kernel_rfl) rfl #[.int .i64 a1] rfl (by (try simp only [List.map_toArray, List.map_cons, List.map_nil]); first | done | rfl | (simp only [List.length_drop, List.length_take]; rfl)) ?_; (with_reducible refine (contangoref01_size.calls a1 t105 _ A16.out).mono ?_); rintro e w' ⟨rfl, ⟨nd, rfl⟩⟩; refine ⟨_, rfl, ?_⟩) | ((with_reducible refine gate_callee (f := 76) rfl ?_); refine goesL_ (some 42) rfl rfl Try.func76 (by kernel_rfl) rfl #[.int .i64 a2] rfl (by (try simp only [List.map_toArray, List.map_cons, List.map_nil]); first | done | rfl | (simp only [List.length_drop, List.length_take]; rfl)) ?_; (with_reducible refine (contangoref01_size.calls a2 t106 _ A17.out).mono ?_); rintro e w' ⟨rfl, ⟨nd, rfl⟩⟩; refine ⟨_, rfl, ?_⟩) | ((with_reducible refine gate_callee (f := 75) rfl ?_); refine goesL_ (some 43) rfl rfl Try.func75 (by kernel_rfl) rfl #[.int .i64 t104, .int .i64 t105, .int .i64 t106] rfl (by (try simp only [List.map_toArray, List.map_cons, List.map_nil]); first | done | rfl | (simp only [List.length_drop, List.length_take]; rfl)) ?_; (with_reducible refine (contangoref01_quotient.calls kj4 t104 t105 t106 t107 t108 _ A18.out).mono ?_); rintro e w' ⟨rfl, ⟨nd, rfl⟩⟩; refine ⟨_, rfl, ?_⟩))
          (try simp only [Act.put, List.setIfInBounds_toArray, List.set_cons_zero, List.set_cons_succ])
          go_cut [64] (fun v64 wc => ∃ (kq : Nat) (x64_18 : Bool), v64 = .bool x64_18 ∧ Aside0 (contangoref01_MulDiv.j1 kq t107 (!((!((decide (a0 < 0)) == (decide (a1 < 0)))) == (decide (a2 < 0)))) x64_18 = some (r1, r2)) ∧ Aside0 (kq ≤ kj4) ∧ Drawn0 w wc)
          case first =>
            have H := HC19.out
            clear HC19
            by_cases c20 : t108 > 0
            · rw [if_pos c20] at H
              have c20b0 : decide (0 < t108) = true := decide_eq_true c20
              clear c20
              (first | rw [c20b0] | (simp only [i64_w, i32_w]; rw [c20b0]) | skip)
              replace H := Option.bind_eq_some_iff.mp H
              obtain ⟨t109, A210, H⟩ := H
              replace H : ((contangoref01_away.f t107 t108 t109 a3 (!((!((decide (a0 < 0)) == (decide (a1 < 0)))) == (decide (a2 < 0))))).bind fun t110 => (contangoref01_MulDiv.j1 kj4 t107 (!((!((decide (a0 < 0)) == (decide (a1 < 0)))) == (decide (a2 < 0)))) t110)) = some (r1, r2) := H
              have A21 := Aside0.mk A210
              clear A210
              replace H := Option.bind_eq_some_iff.mp H
              obtain ⟨t110, A220, H⟩ := H
              replace H : (contangoref01_MulDiv.j1 kj4 t107 (!((!((decide (a0 < 0)) == (decide (a1 < 0)))) == (decide (a2 < 0)))) t110) = some (r1, r2) := H
              have A22 := Aside0.mk A220
              clear A220
              have H' := Aside0.mk H
              clear H
              go_wp2_with (first | (go_at_call 76; (with_reducible refine (contangoref01_size.calls a2 t109 _ A21.out).mono ?_); rintro e w' ⟨rfl, ⟨nd, rfl⟩⟩) | (go_at_call 77; (with_reducible refine (contangoref01_away.calls t107 t108 t109 a3 (!((!((decide (a0 < 0)) == (decide (a1 < 0)))) == (decide (a2 < 0)))) t110 _ A22.out).mono ?_); rintro e w' ⟨rfl, ⟨nd, rfl⟩⟩))
              go_meet
              case rel => exact ⟨_, (t110), (by first | rfl | (simp; done) | (simp [*]; done)), H', ⟨by have := HJ4.out; first | omega | exact Nat.le_refl _⟩, by repeat (first | exact Drawn0.refl _ | apply Drawn0.step)⟩
            · rw [if_neg c20] at H
              have c20b0 : decide (0 < t108) = false := decide_eq_false c20
              clear c20
              (first | rw [c20b0] | (simp only [i64_w, i32_w]; rw [c20b0]) | skip)
              have H' := Aside0.mk H
              clear H
              go_wp2
              go_meet
              case rel => exact ⟨_, (false), (by first | rfl | (simp; done) | (simp [*]; done)), H', ⟨by have := HJ4.out; first | omega | exact Nat.le_refl _⟩, by repeat (first | exact Drawn0.refl _ | apply Drawn0.step)⟩
          case rest =>
            clear HC19
            try clear c1
            try clear c2
            try clear p2
            try clear c4
            try clear c7
            try clear c9
            try clear c11
            try clear c12
            try clear c12b0
            try clear c13
            try clear c14
            try clear c14b0
            try clear c14b1
            try clear c20
            try clear c20b0
            try clear p2
            obtain ⟨kq, x64_18, rfl, HA, HJ18, ⟨mc18, rfl⟩⟩ := hcut
            cases kq with
            | zero => exact absurd HA.out (by simp [contangoref01_MulDiv.j1])
            | succ kj18 =>
              have H := HA.out
              clear HA
              simp only [contangoref01_MulDiv.j1] at H
              have HC23 := Aside0.mk H
              clear H
              go_upto_if 64 with (fail)
              go_cut [10] (fun v10 wc => ∃ (kq : Nat) (x10_22 : Int), v10 = .int .i64 x10_22 ∧ Aside0 (contangoref01_MulDiv.j2 kq x10_22 (!((!((decide (a0 < 0)) == (decide (a1 < 0)))) == (decide (a2 < 0)))) = some (r1, r2)) ∧ Aside0 (kq ≤ kj18) ∧ Drawn0 w wc)
              case first =>
                have H := HC23.out
                clear HC23
                by_cases c24 : x64_18 = true
                · subst c24
                  have H1 : (contangoref01_MulDiv.j2 kj18 (wrap64 (t107 + 1)) (!((!((decide (a0 < 0)) == (decide (a1 < 0)))) == (decide (a2 < 0))))) = some (r1, r2) := by rw [if_pos rfl] at H; exact H
                  clear H
                  have H := H1
                  clear H1
                  have H' := Aside0.mk H
                  clear H
                  go_wp2
                  go_meet
                  case rel => exact ⟨_, (wrap64 (t107 + 1)), (by first | rfl | (simp; done) | (simp [*]; done)), H', ⟨by have := HJ4.out; have := HJ18.out; first | omega | exact Nat.le_refl _⟩, by repeat (first | exact Drawn0.refl _ | apply Drawn0.step)⟩
                · replace c24 := Bool.eq_false_iff.mpr c24
                  subst c24
                  have H1 : (contangoref01_MulDiv.j2 kj18 t107 (!((!((decide (a0 < 0)) == (decide (a1 < 0)))) == (decide (a2 < 0))))) = some (r1, r2) := by rw [if_neg (show ¬ (false = true) by decide)] at H; exact H
                  clear H
                  have H := H1
                  clear H1
                  have H' := Aside0.mk H
                  clear H
                  go_wp2
                  go_meet
                  case rel => exact ⟨_, (t107), (by first | rfl | (simp; done) | (simp [*]; done)), H', ⟨by have := HJ4.out; have := HJ18.out; first | omega | exact Nat.le_refl _⟩, by repeat (first | exact Drawn0.refl _ | apply Drawn0.step)⟩
              case rest =>
                clear HC23
                try clear c1
                try clear c2
                try clear p2
                try clear c4
                try clear p6
                try clear c7
                try clear c9
                try clear c11
                try clear c12
                try clear c12b0
                try clear c13
                try clear c14
                try clear c14b0
                try clear c14b1
                try clear c18
                try clear c20
                try clear c20b0
                try clear c24
                try clear p2
                obtain ⟨kq, x10_22, rfl, HA, HJ22, ⟨mc22, rfl⟩⟩ := hcut
                cases kq with
                | zero => exact absurd HA.out (by simp [contangoref01_MulDiv.j2])
                | succ kj22 =>
                  have H := HA.out
                  clear HA
                  simp only [contangoref01_MulDiv.j2] at H
                  by_cases c25 : x10_22 > 1152921504606846976
                  · rw [if_pos c25] at H
                    have c25b0 : decide (1152921504606846976 < x10_22) = true := decide_eq_true c25
                    clear c25
                    simp only [Option.some.injEq, Prod.mk.injEq] at H
                    obtain ⟨rfl, rfl⟩ := H
                    go_wp2
                    go_ret2
                    exact ⟨by first | rfl | (simp; done) | (simp [*]; done), by repeat (first | exact Drawn0.refl _ | apply Drawn0.step)⟩
                  · rw [if_neg c25] at H
                    have c25b0 : decide (1152921504606846976 < x10_22) = false := decide_eq_false c25
                    clear c25
                    obtain ⟨bb_, hbb_⟩ : ∃ b_, (!((!((decide (a0 < 0)) == (decide (a1 < 0)))) == (decide (a2 < 0)))) = b_ := ⟨_, rfl⟩
                    rw [hbb_] at H ⊢
                    clear hbb_
                    by_cases c26 : bb_ = true
                    · rw [if_pos c26] at H
                      obtain rfl : bb_ = true := by simpa using c26
                      simp only [Option.some.injEq, Prod.mk.injEq] at H
                      obtain ⟨rfl, rfl⟩ := H
                      go_wp2
                      go_ret2
                      exact ⟨by first | rfl | (simp; done) | (simp [*]; done), by repeat (first | exact Drawn0.refl _ | apply Drawn0.step)⟩
                    · rw [if_neg c26] at H
                      obtain rfl : bb_ = false := by simpa using c26
                      simp only [Option.some.injEq, Prod.mk.injEq] at H
                      obtain ⟨rfl, rfl⟩ := H
                      go_wp2
                      go_ret2
                      exact ⟨by first | rfl | (simp; done) | (simp [*]; done), by repeat (first | exact Drawn0.refl _ | apply Drawn0.step)⟩
end Go.Proofs.Ytocndpddghefhaa.X
end
section
namespace Go.Proofs.Ytocndpddghefhaa.X
open Go.RowKit Go.Proofs.YtocndpddghefhaaW.PrintWords Go.Proofs.YtocndpddghefhaaW.PrintLast Go.Proofs.YtocndpddghefhaaW.PrintMore
attribute [local go_sem] max2_int min2_int max_two min_two max_three min_three max_four min_four
set_option linter.unusedVariables false
set_option linter.unusedSimpArgs false
mutual
def contangoref17_Check.l0 : Nat → List (S49) → Int → Option (Int)
  | 0, _, _ => none
  | k + 1, x0, x3 => if x3 < (x0.length : Int) then (if 0 ≤ x3 then (if ((rd_T49 x0 x3).f0) < 0 then (contangoref17_Check.j1 k x0 x3 true) else (if ((rd_T49 x0 x3).f0) > 86399 then (contangoref17_Check.j1 k x0 x3 true) else (if x3 > 0 then (if 0 ≤ (wrap64 (x3 - 1)) then (if (wrap64 (x3 - 1)) < (x0.length : Int) then (contangoref17_Check.j1 k x0 x3 (decide (((rd_T49 x0 x3).f0) < ((rd_T49 x0 (wrap64 (x3 - 1))).f0)))) else (none)) else (none)) else (contangoref17_Check.j1 k x0 x3 false)))) else (none)) else (some 0)
def contangoref17_Check.j1 : Nat → List (S49) → Int → Bool → Option (Int)
  | 0, _, _, _ => none
  | k + 1, x0, x3, x44 => if x44 = true then (some 2) else (if 0 ≤ x3 then (if x3 < (x0.length : Int) then (if ((rd_T49 x0 x3).f1) < 1 then (contangoref17_Check.j2 k x0 x3 true) else (contangoref17_Check.j2 k x0 x3 (decide (((rd_T49 x0 x3).f1) > 1048576)))) else (none)) else (none))
def contangoref17_Check.j2 : Nat → List (S49) → Int → Bool → Option (Int)
  | 0, _, _, _ => none
  | k + 1, x0, x3, x58 => if x58 = true then (some 18) else (if 0 ≤ x3 then (if x3 < (x0.length : Int) then (if ((rd_T49 x0 x3).f2) < (-16777216) then (some 17) else (if ((rd_T49 x0 x3).f2) > 16777216 then (some 17) else (contangoref17_Check.l0 k x0 (wrap64 (x3 + 1))))) else (none)) else (none))
end
def contangoref17_Check.f (k : Nat) (l0 : List (S49)) : Option (Int) := if (l0.length : Int) > 1024 then (some 8) else (contangoref17_Check.l0 k l0 0)
set_option maxHeartbeats 8000000 in
set_option maxRecDepth 100000 in
theorem contangoref17_Check.calls (k : Nat) (A0 : Option Addr) (c0 : Nat) (l0 : List (S49)) (r : Int) (w : World) (hr0 : Kd.C k49 w A0 l0.length l0) (hc0 : l0.length ≤ c0) (h : contangoref17_Check.f k l0 = some r) :
    Calls Try.prog 51 #[.slice A0 l0.length c0] w fun e w' => e = .returned (.int .i64 r) ∧ Drawn0 w w' := by
  have HR0 := Aside0.mk hr0
  have HC0 := Aside0.mk hc0
  clear hr0 hc0
  have H : (if (l0.length : Int) > 1024 then (some 8) else (contangoref17_Check.l0 k l0 0)) = some r := h
  clear h
  by_cases c2 : (l0.length : Int) > 1024
  · rw [if_pos c2] at H
    have c2b0 : decide (1024 < (l0.length : Int)) = true := decide_eq_true c2
    have c2b1 : decide (1024 < l0.length) = true := decide_eq_true (by omega)
    clear c2
    obtain rfl := Option.some.inj H
    go_enter Try.func51, Try.ntmps51
    go_wp2
    repeat (go_quiet (fail); try go_wp2)
    go_ret
    exact ⟨by first | rfl | (simp; done) | (simp [*]; done), by repeat (first | exact Drawn0.refl _ | apply Drawn0.step)⟩
  · rw [if_neg c2] at H
    have c2b0 : decide (1024 < (l0.length : Int)) = false := decide_eq_false c2
    have c2b1 : decide (1024 < l0.length) = false := decide_eq_false (by omega)
    clear c2
    have H' := Aside0.mk H
    clear H
    go_enter Try.func51, Try.ntmps51
    go_wp2
    repeat (go_quiet (fail); try go_wp2)
    go_loopg [3] k (fun kq v3 w' => ∃ (x3_1 : Int), v3 = .int .i64 x3_1 ∧ Aside0 (contangoref17_Check.l0 kq l0 x3_1 = some r) ∧ Aside0 (kq ≤ k) ∧ Drawn0 w w')
    case atStart => exact ⟨(0), (by first | rfl | (simp; done) | (simp [*]; done)), H', ⟨Nat.le_refl _⟩, by repeat (first | exact Drawn0.refl _ | apply Drawn0.step)⟩
    case round =>
      clear H'
      try clear c2
      try clear c2b0
      try clear c2b1
      try clear p2
      obtain ⟨x3_1, rfl, HA, HK1, ⟨m1, rfl⟩⟩ := hrel
      cases gk with
      | zero => exact absurd HA.out (by simp [contangoref17_Check.l0])
      | succ k1 =>
        have H := HA.out
        clear HA
        simp only [contangoref17_Check.l0] at H
        by_cases c3 : x3_1 < (l0.length : Int)
        · rw [if_pos c3] at H
          have c3b0 : decide (x3_1 < (l0.length : Int)) = true := decide_eq_true c3
          clear c3
          have HC4 := Aside0.mk H
          clear H
          go_upto_region 6 with (fail)
          repeat (go_quiet (fail); go_upto_region 6 with (fail))
          go_cut [44] (fun v44 wc => ∃ (kq : Nat) (x44_3 : Bool), v44 = .bool x44_3 ∧ Aside0 (contangoref17_Check.j1 kq l0 x3_1 x44_3 = some r) ∧ Aside0 (kq ≤ k1) ∧ Drawn0 w wc)
          case first =>
            have H := HC4.out
            clear HC4
            by_cases c5 : 0 ≤ x3_1
            · rw [if_pos c5] at H
              have c5b0 : decide (0 ≤ x3_1) = true := decide_eq_true c5
              clear c5
              (first | rw [c5b0] | (simp only [i64_w, i32_w]; rw [c5b0]) | skip)
              by_cases c6 : ((rd_T49 l0 x3_1).f0) < 0
              · rw [if_pos c6] at H
                have c6b0 : decide (((rd_T49 l0 x3_1).f0) < 0) = true := decide_eq_true c6
                clear c6
                have H' := Aside0.mk H
                clear H
                have p101 : 0 ≤ (x3_1 : Int) := of_decide_eq_true (by first | (with_reducible assumption) | assumption)
                have q101 : x3_1 < (l0.length : Int) := of_decide_eq_true (by first | (with_reducible assumption) | assumption)
                obtain ⟨ad101, e101, hx101_0, hx101_1, hx101_2⟩ := at_T49 HR0.out x3_1 p101 q101
                cases e101
                replace p101 := eq_true p101
                replace q101 := eq_true q101
                go_wp2
                repeat (go_quiet (fail); try go_wp2)
                go_meet
                case rel => exact ⟨_, (true), (by first | rfl | (simp; done) | (simp [*]; done)), H', ⟨by have := HK1.out; first | omega | exact Nat.le_refl _⟩, by repeat (first | exact Drawn0.refl _ | apply Drawn0.step)⟩
              · rw [if_neg c6] at H
                have c6b0 : decide (((rd_T49 l0 x3_1).f0) < 0) = false := decide_eq_false c6
                clear c6
                by_cases c7 : ((rd_T49 l0 x3_1).f0) > 86399
                · rw [if_pos c7] at H
                  have c7b0 : decide (86399 < ((rd_T49 l0 x3_1).f0)) = true := decide_eq_true c7
                  clear c7
                  have H' := Aside0.mk H
                  clear H
                  have p101 : 0 ≤ (x3_1 : Int) := of_decide_eq_true (by first | (with_reducible assumption) | assumption)
                  have q101 : x3_1 < (l0.length : Int) := of_decide_eq_true (by first | (with_reducible assumption) | assumption)
                  obtain ⟨ad101, e101, hx101_0, hx101_1, hx101_2⟩ := at_T49 HR0.out x3_1 p101 q101
                  cases e101
                  replace p101 := eq_true p101
                  replace q101 := eq_true q101
                  have p102 : 0 ≤ (x3_1 : Int) := of_decide_eq_true (by first | (with_reducible assumption) | assumption)
                  have q102 : x3_1 < (l0.length : Int) := of_decide_eq_true (by first | (with_reducible assumption) | assumption)
                  obtain ⟨ad102, e102, hx102_0, hx102_1, hx102_2⟩ := at_T49 HR0.out x3_1 p102 q102
                  obtain rfl : ad101 = ad102 := (by injection e102)
                  replace p102 := eq_true p102
                  replace q102 := eq_true q102
                  go_wp2
                  repeat (go_quiet (fail); try go_wp2)
                  go_meet
                  case rel => exact ⟨_, (true), (by first | rfl | (simp; done) | (simp [*]; done)), H', ⟨by have := HK1.out; first | omega | exact Nat.le_refl _⟩, by repeat (first | exact Drawn0.refl _ | apply Drawn0.step)⟩
                · rw [if_neg c7] at H
                  have c7b0 : decide (86399 < ((rd_T49 l0 x3_1).f0)) = false := decide_eq_false c7
                  clear c7
                  by_cases c8 : x3_1 > 0
                  · rw [if_pos c8] at H
                    have c8b0 : decide (0 < x3_1) = true := decide_eq_true c8
                    clear c8
                    obtain ⟨ji9, hji9⟩ : ∃ j_ : Int, (wrap64 (x3_1 - 1)) = j_ := ⟨_, rfl⟩
                    replace H : (if 0 ≤ (ji9) then (if (ji9) < (l0.length : Int) then (contangoref17_Check.j1 k1 l0 x3_1 (decide (((rd_T49 l0 x3_1).f0) < ((rd_T49 l0 (ji9)).f0)))) else (none)) else (none)) = some r := by first | (rw [hji9] at H; exact H) | (simp only [hji9] at H ⊢; exact H)
                    have hji9w : (IntKind.i64.wrap (x3_1 - 1)) = ji9 := (i64_w _).trans hji9
                    by_cases c10 : 0 ≤ (ji9)
                    · rw [if_pos c10] at H
                      have c10b0 : decide (0 ≤ (ji9)) = true := decide_eq_true c10
                      clear c10
                      by_cases c11 : (ji9) < (l0.length : Int)
                      · rw [if_pos c11] at H
                        have c11b0 : decide ((ji9) < (l0.length : Int)) = true := decide_eq_true c11
                        clear c11
                        have H' := Aside0.mk H
                        clear H
                        have p101 : 0 ≤ (x3_1 : Int) := of_decide_eq_true (by first | (with_reducible assumption) | assumption)
                        have q101 : x3_1 < (l0.length : Int) := of_decide_eq_true (by first | (with_reducible assumption) | assumption)
                        obtain ⟨ad101, e101, hx101_0, hx101_1, hx101_2⟩ := at_T49 HR0.out x3_1 p101 q101
                        cases e101
                        replace p101 := eq_true p101
                        replace q101 := eq_true q101
                        have p102 : 0 ≤ (x3_1 : Int) := of_decide_eq_true (by first | (with_reducible assumption) | assumption)
                        have q102 : x3_1 < (l0.length : Int) := of_decide_eq_true (by first | (with_reducible assumption) | assumption)
                        obtain ⟨ad102, e102, hx102_0, hx102_1, hx102_2⟩ := at_T49 HR0.out x3_1 p102 q102
                        obtain rfl : ad101 = ad102 := (by injection e102)
                        replace p102 := eq_true p102
                        replace q102 := eq_true q102
                        have p103 : 0 ≤ (x3_1 : Int) := of_decide_eq_true (by first | (with_reducible assumption) | assumption)
                        have q103 : x3_1 < (l0.length : Int) := of_decide_eq_true (by first | (with_reducible assumption) | assumption)
                        obtain ⟨ad103, e103, hx103_0, hx103_1, hx103_2⟩ := at_T49 HR0.out x3_1 p103 q103
                        obtain rfl : ad101 = ad103 := (by injection e103)
                        replace p103 := eq_true p103
                        replace q103 := eq_true q103
                        have p104 : 0 ≤ ((ji9) : Int) := of_decide_eq_true (by first | (with_reducible assumption) | assumption)
                        have q104 : (ji9) < (l0.length : Int) := of_decide_eq_true (by first | (with_reducible assumption) | assumption)
                        obtain ⟨ad104, e104, hx104_0, hx104_1, hx104_2⟩ := at_T49 HR0.out (ji9) p104 q104
                        obtain rfl : ad101 = ad104 := (by injection e104)
                        replace p104 := eq_true p104
                        replace q104 := eq_true q104
                        go_wp2
                        repeat (go_quiet (fail); try go_wp2)
                        go_meet
                        case rel => exact ⟨_, (decide (((rd_T49 l0 x3_1).f0) < ((rd_T49 l0 (ji9)).f0))), (by first | rfl | (simp; done) | (simp only [← hji9] <;> (first | rfl | simp)) | (simp [*]; done)), H', ⟨by have := HK1.out; first | omega | exact Nat.le_refl _⟩, by repeat (first | exact Drawn0.refl _ | apply Drawn0.step)⟩
                      · rw [if_neg c11] at H
                        exact absurd H (by simp)
                    · rw [if_neg c10] at H
                      exact absurd H (by simp)
                  · rw [if_neg c8] at H
                    have c8b0 : decide (0 < x3_1) = false := decide_eq_false c8
                    clear c8
                    have H' := Aside0.mk H
                    clear H
                    have p101 : 0 ≤ (x3_1 : Int) := of_decide_eq_true (by first | (with_reducible assumption) | assumption)
                    have q101 : x3_1 < (l0.length : Int) := of_decide_eq_true (by first | (with_reducible assumption) | assumption)
                    obtain ⟨ad101, e101, hx101_0, hx101_1, hx101_2⟩ := at_T49 HR0.out x3_1 p101 q101
                    cases e101
                    replace p101 := eq_true p101
                    replace q101 := eq_true q101
                    have p102 : 0 ≤ (x3_1 : Int) := of_decide_eq_true (by first | (with_reducible assumption) | assumption)
                    have q102 : x3_1 < (l0.length : Int) := of_decide_eq_true (by first | (with_reducible assumption) | assumption)
                    obtain ⟨ad102, e102, hx102_0, hx102_1, hx102_2⟩ := at_T49 HR0.out x3_1 p102 q102
                    obtain rfl : ad101 = ad102 := (by injection e102)
                    replace p102 := eq_true p102
                    replace q102 := eq_true q102
                    go_wp2
                    repeat (go_quiet (fail); try go_wp2)
                    go_meet
                    case rel => exact ⟨_, (false), (by first | rfl | (simp; done) | (simp [*]; done)), H', ⟨by have := HK1.out; first | omega | exact Nat.le_refl _⟩, by repeat (first | exact Drawn0.refl _ | apply Drawn0.step)⟩
            · rw [if_neg c5] at H
              exact absurd H (by simp)
          case rest =>
            clear HC4
            try clear c1
            try clear p1
            try clear q1
            try clear hx1
            try clear c2
            try clear c2b0
            try clear c2b1
            try clear p2
            try clear c3
            try clear c3b0
            try clear c5
            try clear c5b0
            try clear c6
            try clear c6b0
            try clear p6
            try clear c7
            try clear c7b0
            try clear c8
            try clear c8b0
            try clear c10
            try clear c10b0
            try clear p10
            try clear q10
            try clear hx10
            try clear c11
            try clear c11b0
            try clear hx101_0
            try clear hx101_1
            try clear hx101_2
            try clear hx102_0
            try clear hx102_1
            try clear hx102_2
            try clear hx103_0
            try clear hx103_1
            try clear hx103_2
            try clear hx104_0
            try clear hx104_1
            try clear hx104_2
            try clear p101
            try clear p102
            try clear p103
            try clear p104
            try clear p2
            try clear q101
            try clear q102
            try clear q103
            try clear q104
            obtain ⟨kq, x44_3, rfl, HA, HJ3, ⟨mc3, rfl⟩⟩ := hcut
            cases kq with
            | zero => exact absurd HA.out (by simp [contangoref17_Check.j1])
            | succ kj3 =>
              have H := HA.out
              clear HA
              simp only [contangoref17_Check.j1] at H
              by_cases c12 : x44_3 = true
              · subst c12
                have H1 : (some 2) = some r := by rw [if_pos rfl] at H; exact H
                clear H
                have H := H1
                clear H1
                obtain rfl := Option.some.inj H
                go_wp2
                repeat (go_quiet (fail); try go_wp2)
                go_ret
                exact ⟨by first | rfl | (simp; done) | (simp [*]; done), by repeat (first | exact Drawn0.refl _ | apply Drawn0.step)⟩
              · replace c12 := Bool.eq_false_iff.mpr c12
                subst c12
                have H1 : (if 0 ≤ x3_1 then (if x3_1 < (l0.length : Int) then (if ((rd_T49 l0 x3_1).f1) < 1 then (contangoref17_Check.j2 kj3 l0 x3_1 true) else (contangoref17_Check.j2 kj3 l0 x3_1 (decide (((rd_T49 l0 x3_1).f1) > 1048576)))) else (none)) else (none)) = some r := by rw [if_neg (show ¬ (false = true) by decide)] at H; exact H
                clear H
                have H := H1
                clear H1
                have HC13 := Aside0.mk H
                clear H
                go_upto_region 8 with (fail)
                repeat (go_quiet (fail); go_upto_region 8 with (fail))
                go_cut [58] (fun v58 wc => ∃ (kq : Nat) (x58_12 : Bool), v58 = .bool x58_12 ∧ Aside0 (contangoref17_Check.j2 kq l0 x3_1 x58_12 = some r) ∧ Aside0 (kq ≤ kj3) ∧ Drawn0 w wc)
                case first =>
                  have H := HC13.out
                  clear HC13
                  by_cases c14 : 0 ≤ x3_1
                  · rw [if_pos c14] at H
                    have c14b0 : decide (0 ≤ x3_1) = true := decide_eq_true c14
                    clear c14
                    (first | rw [c14b0] | (simp only [i64_w, i32_w]; rw [c14b0]) | skip)
                    by_cases c15 : x3_1 < (l0.length : Int)
                    · rw [if_pos c15] at H
                      have c15b0 : decide (x3_1 < (l0.length : Int)) = true := decide_eq_true c15
                      clear c15
                      by_cases c16 : ((rd_T49 l0 x3_1).f1) < 1
                      · rw [if_pos c16] at H
                        have c16b0 : decide (((rd_T49 l0 x3_1).f1) < 1) = true := decide_eq_true c16
                        clear c16
                        have H' := Aside0.mk H
                        clear H
                        have p105 : 0 ≤ (x3_1 : Int) := of_decide_eq_true (by first | (with_reducible assumption) | assumption)
                        have q105 : x3_1 < (l0.length : Int) := of_decide_eq_true (by first | (with_reducible assumption) | assumption)
                        obtain ⟨ad105, e105, hx105_0, hx105_1, hx105_2⟩ := at_T49 HR0.out x3_1 p105 q105
                        cases e105
                        replace p105 := eq_true p105
                        replace q105 := eq_true q105
                        go_wp2
                        repeat (go_quiet (fail); try go_wp2)
                        go_meet
                        case rel => exact ⟨_, (true), (by first | rfl | (simp; done) | (simp [*]; done)), H', ⟨by have := HK1.out; have := HJ3.out; first | omega | exact Nat.le_refl _⟩, by repeat (first | exact Drawn0.refl _ | apply Drawn0.step)⟩
                      · rw [if_neg c16] at H
                        have c16b0 : decide (((rd_T49 l0 x3_1).f1) < 1) = false := decide_eq_false c16
                        clear c16
                        have H' := Aside0.mk H
                        clear H
                        have p105 : 0 ≤ (x3_1 : Int) := of_decide_eq_true (by first | (with_reducible assumption) | assumption)
                        have q105 : x3_1 < (l0.length : Int) := of_decide_eq_true (by first | (with_reducible assumption) | assumption)
                        obtain ⟨ad105, e105, hx105_0, hx105_1, hx105_2⟩ := at_T49 HR0.out x3_1 p105 q105
                        cases e105
                        replace p105 := eq_true p105
                        replace q105 := eq_true q105
                        have p106 : 0 ≤ (x3_1 : Int) := of_decide_eq_true (by first | (with_reducible assumption) | assumption)
                        have q106 : x3_1 < (l0.length : Int) := of_decide_eq_true (by first | (with_reducible assumption) | assumption)
                        obtain ⟨ad106, e106, hx106_0, hx106_1, hx106_2⟩ := at_T49 HR0.out x3_1 p106 q106
                        obtain rfl : ad105 = ad106 := (by injection e106)
                        replace p106 := eq_true p106
                        replace q106 := eq_true q106
                        go_wp2
                        repeat (go_quiet (fail); try go_wp2)
                        go_meet
                        case rel => exact ⟨_, (decide (((rd_T49 l0 x3_1).f1) > 1048576)), (by first | rfl | (simp; done) | (simp [*]; done)), H', ⟨by have := HK1.out; have := HJ3.out; first | omega | exact Nat.le_refl _⟩, by repeat (first | exact Drawn0.refl _ | apply Drawn0.step)⟩
                    · rw [if_neg c15] at H
                      exact absurd H (by simp)
                  · rw [if_neg c14] at H
                    exact absurd H (by simp)
                case rest =>
                  clear HC13
                  try clear c1
                  try clear p1
                  try clear q1
                  try clear hx1
                  try clear c2
                  try clear c2b0
                  try clear c2b1
                  try clear p2
                  try clear c3
                  try clear c3b0
                  try clear c5
                  try clear c5b0
                  try clear c6
                  try clear c6b0
                  try clear p6
                  try clear c7
                  try clear c7b0
                  try clear c8
                  try clear c8b0
                  try clear c10
                  try clear c10b0
                  try clear p10
                  try clear q10
                  try clear hx10
                  try clear c11
                  try clear c11b0
                  try clear c12
                  try clear c14
                  try clear c14b0
                  try clear c15
                  try clear c15b0
                  try clear c16
                  try clear c16b0
                  try clear hx101_0
                  try clear hx101_1
                  try clear hx101_2
                  try clear hx102_0
                  try clear hx102_1
                  try clear hx102_2
                  try clear hx103_0
                  try clear hx103_1
                  try clear hx103_2
                  try clear hx104_0
                  try clear hx104_1
                  try clear hx104_2
                  try clear hx105_0
                  try clear hx105_1
                  try clear hx105_2
                  try clear hx106_0
                  try clear hx106_1
                  try clear hx106_2
                  try clear p1
                  try clear p10
                  try clear p101
                  try clear p102
                  try clear p103
                  try clear p104
                  try clear p105
                  try clear p106
                  try clear p2
                  try clear p6
                  try clear q1
                  try clear q10
                  try clear q101
                  try clear q102
                  try clear q103
                  try clear q104
                  try clear q105
                  try clear q106
                  obtain ⟨kq, x58_12, rfl, HA, HJ12, ⟨mc12, rfl⟩⟩ := hcut
                  cases kq with
                  | zero => exact absurd HA.out (by simp [contangoref17_Check.j2])
                  | succ kj12 =>
                    have H := HA.out
                    clear HA
                    simp only [contangoref17_Check.j2] at H
                    by_cases c17 : x58_12 = true
                    · subst c17
                      have H1 : (some 18) = some r := by rw [if_pos rfl] at H; exact H
                      clear H
                      have H := H1
                      clear H1
                      obtain rfl := Option.some.inj H
                      go_wp2
                      repeat (go_quiet (fail); try go_wp2)
                      go_ret
                      exact ⟨by first | rfl | (simp; done) | (simp [*]; done), by repeat (first | exact Drawn0.refl _ | apply Drawn0.step)⟩
                    · replace c17 := Bool.eq_false_iff.mpr c17
                      subst c17
                      have H1 : (if 0 ≤ x3_1 then (if x3_1 < (l0.length : Int) then (if ((rd_T49 l0 x3_1).f2) < (-16777216) then (some 17) else (if ((rd_T49 l0 x3_1).f2) > 16777216 then (some 17) else (contangoref17_Check.l0 kj12 l0 (wrap64 (x3_1 + 1))))) else (none)) else (none)) = some r := by rw [if_neg (show ¬ (false = true) by decide)] at H; exact H
                      clear H
                      have H := H1
                      clear H1
                      by_cases c18 : 0 ≤ x3_1
                      · rw [if_pos c18] at H
                        have c18b0 : decide (0 ≤ x3_1) = true := decide_eq_true c18
                        clear c18
                        by_cases c19 : x3_1 < (l0.length : Int)
                        · rw [if_pos c19] at H
                          have c19b0 : decide (x3_1 < (l0.length : Int)) = true := decide_eq_true c19
                          clear c19
                          by_cases c20 : ((rd_T49 l0 x3_1).f2) < (-16777216)
                          · rw [if_pos c20] at H
                            have c20b0 : decide (((rd_T49 l0 x3_1).f2) < (-16777216)) = true := decide_eq_true c20
                            clear c20
                            obtain rfl := Option.some.inj H
                            have p107 : 0 ≤ (x3_1 : Int) := of_decide_eq_true (by first | (with_reducible assumption) | assumption)
                            have q107 : x3_1 < (l0.length : Int) := of_decide_eq_true (by first | (with_reducible assumption) | assumption)
                            obtain ⟨ad107, e107, hx107_0, hx107_1, hx107_2⟩ := at_T49 HR0.out x3_1 p107 q107
                            cases e107
                            replace p107 := eq_true p107
                            replace q107 := eq_true q107
                            go_wp2
                            repeat (go_quiet (fail); try go_wp2)
                            go_ret
                            exact ⟨by first | rfl | (simp; done) | (simp [*]; done), by repeat (first | exact Drawn0.refl _ | apply Drawn0.step)⟩
                          · rw [if_neg c20] at H
                            have c20b0 : decide (((rd_T49 l0 x3_1).f2) < (-16777216)) = false := decide_eq_false c20
                            clear c20
                            by_cases c21 : ((rd_T49 l0 x3_1).f2) > 16777216
                            · rw [if_pos c21] at H
                              have c21b0 : decide (16777216 < ((rd_T49 l0 x3_1).f2)) = true := decide_eq_true c21
                              clear c21
                              obtain rfl := Option.some.inj H
                              have p107 : 0 ≤ (x3_1 : Int) := of_decide_eq_true (by first | (with_reducible assumption) | assumption)
                              have q107 : x3_1 < (l0.length : Int) := of_decide_eq_true (by first | (with_reducible assumption) | assumption)
                              obtain ⟨ad107, e107, hx107_0, hx107_1, hx107_2⟩ := at_T49 HR0.out x3_1 p107 q107
                              cases e107
                              replace p107 := eq_true p107
                              replace q107 := eq_true q107
                              have p108 : 0 ≤ (x3_1 : Int) := of_decide_eq_true (by first | (with_reducible assumption) | assumption)
                              have q108 : x3_1 < (l0.length : Int) := of_decide_eq_true (by first | (with_reducible assumption) | assumption)
                              obtain ⟨ad108, e108, hx108_0, hx108_1, hx108_2⟩ := at_T49 HR0.out x3_1 p108 q108
                              obtain rfl : ad107 = ad108 := (by injection e108)
                              replace p108 := eq_true p108
                              replace q108 := eq_true q108
                              go_wp2
                              repeat (go_quiet (fail); try go_wp2)
                              go_ret
                              exact ⟨by first | rfl | (simp; done) | (simp [*]; done), by repeat (first | exact Drawn0.refl _ | apply Drawn0.step)⟩
                            · rw [if_neg c21] at H
                              have c21b0 : decide (16777216 < ((rd_T49 l0 x3_1).f2)) = false := decide_eq_false c21
                              clear c21
                              have H' := Aside0.mk H
                              clear H
                              have p107 : 0 ≤ (x3_1 : Int) := of_decide_eq_true (by first | (with_reducible assumption) | assumption)
                              have q107 : x3_1 < (l0.length : Int) := of_decide_eq_true (by first | (with_reducible assumption) | assumption)
                              obtain ⟨ad107, e107, hx107_0, hx107_1, hx107_2⟩ := at_T49 HR0.out x3_1 p107 q107
                              cases e107
                              replace p107 := eq_true p107
                              replace q107 := eq_true q107
                              have p108 : 0 ≤ (x3_1 : Int) := of_decide_eq_true (by first | (with_reducible assumption) | assumption)
                              have q108 : x3_1 < (l0.length : Int) := of_decide_eq_true (by first | (with_reducible assumption) | assumption)
                              obtain ⟨ad108, e108, hx108_0, hx108_1, hx108_2⟩ := at_T49 HR0.out x3_1 p108 q108
                              obtain rfl : ad107 = ad108 := (by injection e108)
                              replace p108 := eq_true p108
                              replace q108 := eq_true q108
                              go_wp2
                              repeat (go_quiet (fail); try go_wp2)
                              go_roundg kj12
                              case measure => have := HK1.out; have := HJ3.out; have := HJ12.out; omega
                              case rel => exact ⟨(wrap64 (x3_1 + 1)), (by first | rfl | (simp; done) | (simp [*]; done)), H', ⟨by have := HK1.out; have := HJ3.out; have := HJ12.out; omega⟩, by repeat (first | exact Drawn0.refl _ | apply Drawn0.step)⟩
                        · rw [if_neg c19] at H
                          exact absurd H (by simp)
                      · rw [if_neg c18] at H
                        exact absurd H (by simp)
        · rw [if_neg c3] at H
          have c3b0 : decide (x3_1 < (l0.length : Int)) = false := decide_eq_false c3
          clear c3
          obtain rfl := Option.some.inj H
          go_wp2
          repeat (go_quiet (fail); try go_wp2)
          go_ret
          exact ⟨by first | rfl | (simp; done) | (simp [*]; done), by repeat (first | exact Drawn0.refl _ | apply Drawn0.step)⟩
end Go.Proofs.Ytocndpddghefhaa.X
end
section
namespace Go.Proofs.Ytocndpddghefhaa.X
open Go.RowKit Go.Proofs.YtocndpddghefhaaW.PrintWords Go.Proofs.YtocndpddghefhaaW.PrintLast Go.Proofs.YtocndpddghefhaaW.PrintMore
attribute [local go_sem] max2_int min2_int max_two min_two max_three min_three max_four min_four
set_option linter.unusedVariables false
set_option linter.unusedSimpArgs false
def contangoref17_Volume.l0 : Nat → List (S49) → Int → Int → Option (Int × Int)
  | 0, _, _, _ => none
  | k + 1, x0, x5, x6 => if x6 < (x0.length : Int) then (if 0 ≤ x6 then (contangoref17_Volume.l0 k x0 (wrap64 (x5 + ((rd_T49 x0 x6).f1))) (wrap64 (x6 + 1))) else (none)) else (some (x5, 0))
def contangoref17_Volume.f (k : Nat) (l0 : List (S49)) : Option (Int × Int) := (contangoref17_Check.f k l0).bind fun t101 => (if t101 = 0 then (contangoref17_Volume.l0 k l0 0 0) else (some (0, t101)))
set_option maxHeartbeats 8000000 in
set_option maxRecDepth 100000 in
theorem contangoref17_Volume.calls (k : Nat) (A0 : Option Addr) (c0 : Nat) (l0 : List (S49)) (r1 : Int) (r2 : Int) (w : World) (hr0 : Kd.C k49 w A0 l0.length l0) (hc0 : l0.length ≤ c0) (h : contangoref17_Volume.f k l0 = some (r1, r2)) :
    Calls Try.prog 39 #[.slice A0 l0.length c0] w fun e w' => e = .returned (.tuple #[.int .i64 r1, .int .i64 r2]) ∧ Drawn0 w w' := by
  have HR0 := Aside0.mk hr0
  have HC0 := Aside0.mk hc0
  clear hr0 hc0
  have H : ((contangoref17_Check.f k l0).bind fun t101 => (if t101 = 0 then (contangoref17_Volume.l0 k l0 0 0) else (some (0, t101)))) = some (r1, r2) := h
  clear h
  replace H := Option.bind_eq_some_iff.mp H
  obtain ⟨t101, A20, H⟩ := H
  replace H : (if t101 = 0 then (contangoref17_Volume.l0 k l0 0 0) else (some (0, t101))) = some (r1, r2) := H
  have A2 := Aside0.mk A20
  clear A20
  by_cases c3 : t101 = 0
  · rw [if_pos c3] at H
    have c3b0 : (t101 == 0) = true := beq_iff_eq.mpr c3
    have c3b1 : (t101 != 0) = false := bne_eq_false_iff_eq.mpr c3
    clear c3
    have H' := Aside0.mk H
    clear H
    go_enter Try.func39, Try.ntmps39
    go_wp2_with (first | ((with_reducible refine gate_callee (f := 51) rfl ?_); refine goesL_ (some 8) rfl rfl Try.func51 (by kernel_rfl) rfl #[.slice A0 l0.length c0] rfl (by (try simp only [List.map_toArray, List.map_cons, List.map_nil]); first | done | rfl | (simp only [List.length_drop, List.length_take]; rfl)) ?_; (with_reducible refine (contangoref17_Check.calls k _ _ l0 t101 _ ?side1 ?side2 A2.out).mono ?_); (case side1 => repeat (first | exact HR0.out | (with_reducible refine Kd.C_alloc ?_ _) | (with_reducible refine Kd.C_drewN ?_ _) | (with_reducible refine Kd.C_drew ?_))); (case side2 => exact HC0.out); rintro e w' ⟨rfl, ⟨nd, rfl⟩⟩; refine ⟨_, rfl, ?_⟩))
    go_loopg [5, 6] k (fun kq v5 v6 w' => ∃ (x5_1 : Int) (x6_1 : Int), v5 = .int .i64 x5_1 ∧ v6 = .int .i64 x6_1 ∧ Aside0 (contangoref17_Volume.l0 kq l0 x5_1 x6_1 = some (r1, r2)) ∧ Aside0 (kq ≤ k) ∧ Drawn0 w w')
    case atStart => exact ⟨(0), (0), (by first | rfl | (simp; done) | (simp [*]; done)), (by first | rfl | (simp; done) | (simp [*]; done)), H', ⟨Nat.le_refl _⟩, by repeat (first | exact Drawn0.refl _ | apply Drawn0.step)⟩
    case round =>
      clear H'
      try clear p2
      try clear c3
      try clear c3b0
      try clear c3b1
      obtain ⟨x5_1, x6_1, rfl, rfl, HA, HK1, ⟨m1, rfl⟩⟩ := hrel
      cases gk with
      | zero => exact absurd HA.out (by simp [contangoref17_Volume.l0])
      | succ k1 =>
        have H := HA.out
        clear HA
        simp only [contangoref17_Volume.l0] at H
        by_cases c4 : x6_1 < (l0.length : Int)
        · rw [if_pos c4] at H
          have c4b0 : decide (x6_1 < (l0.length : Int)) = true := decide_eq_true c4
          clear c4
          by_cases c5 : 0 ≤ x6_1
          · rw [if_pos c5] at H
            have c5b0 : decide (0 ≤ x6_1) = true := decide_eq_true c5
            clear c5
            have H' := Aside0.mk H
            clear H
            have p102 : 0 ≤ (x6_1 : Int) := of_decide_eq_true (by first | (with_reducible assumption) | assumption)
            have q102 : x6_1 < (l0.length : Int) := of_decide_eq_true (by first | (with_reducible assumption) | assumption)
            obtain ⟨ad102, e102, hx102_0, hx102_1, hx102_2⟩ := at_T49 HR0.out x6_1 p102 q102
            cases e102
            replace p102 := eq_true p102
            replace q102 := eq_true q102
            go_wp2
            go_roundg k1
            case measure => have := HK1.out; omega
            case rel => exact ⟨(wrap64 (x5_1 + ((rd_T49 l0 x6_1).f1))), (wrap64 (x6_1 + 1)), (by first | rfl | (simp; done) | (simp [*]; done)), (by first | rfl | (simp; done) | (simp [*]; done)), H', ⟨by have := HK1.out; omega⟩, by repeat (first | exact Drawn0.refl _ | apply Drawn0.step)⟩
          · rw [if_neg c5] at H
            exact absurd H (by simp)
        · rw [if_neg c4] at H
          have c4b0 : decide (x6_1 < (l0.length : Int)) = false := decide_eq_false c4
          clear c4
          simp only [Option.some.injEq, Prod.mk.injEq] at H
          obtain ⟨rfl, rfl⟩ := H
          go_wp2
          go_ret2
          exact ⟨by first | rfl | (simp; done) | (simp [*]; done), by repeat (first | exact Drawn0.refl _ | apply Drawn0.step)⟩
  · rw [if_neg c3] at H
    have c3b0 : (t101 == 0) = false := beq_eq_false_iff_ne.mpr c3
    have c3b1 : (t101 != 0) = true := bne_iff_ne.mpr c3
    simp only [Option.some.injEq, Prod.mk.injEq] at H
    obtain ⟨rfl, rfl⟩ := H
    go_enter Try.func39, Try.ntmps39
    go_wp2_with (first | ((with_reducible refine gate_callee (f := 51) rfl ?_); refine goesL_ (some 8) rfl rfl Try.func51 (by kernel_rfl) rfl #[.slice A0 l0.length c0] rfl (by (try simp only [List.map_toArray, List.map_cons, List.map_nil]); first | done | rfl | (simp only [List.length_drop, List.length_take]; rfl)) ?_; (with_reducible refine (contangoref17_Check.calls k _ _ l0 t101 _ ?side1 ?side2 A2.out).mono ?_); (case side1 => repeat (first | exact HR0.out | (with_reducible refine Kd.C_alloc ?_ _) | (with_reducible refine Kd.C_drewN ?_ _) | (with_reducible refine Kd.C_drew ?_))); (case side2 => exact HC0.out); rintro e w' ⟨rfl, ⟨nd, rfl⟩⟩; refine ⟨_, rfl, ?_⟩))
    go_ret2
    exact ⟨by first | rfl | (simp; done) | (simp [*]; done), by repeat (first | exact Drawn0.refl _ | apply Drawn0.step)⟩
end Go.Proofs.Ytocndpddghefhaa.X
end
section
namespace Go.Proofs.Ytocndpddghefhaa.X
open Go.RowKit Go.Proofs.YtocndpddghefhaaW.PrintWords Go.Proofs.YtocndpddghefhaaW.PrintLast Go.Proofs.YtocndpddghefhaaW.PrintMore
attribute [local go_sem] max2_int min2_int max_two min_two max_three min_three max_four min_four
set_option linter.unusedVariables false
set_option linter.unusedSimpArgs false
mutual
def contangoref17_Vwap.j0 : Nat → List (S49) → Int → Int → Int → Bool → Option (Int × Int)
  | 0, _, _, _, _, _ => none
  | k + 1, x0, x1, x2, x8, x27 => if x27 = true then (some (0, 16)) else (if x2 < 1 then (contangoref17_Vwap.j1 k x0 x1 x2 x8 true) else (contangoref17_Vwap.j1 k x0 x1 x2 x8 (decide (x2 > 5))))
def contangoref17_Vwap.j1 : Nat → List (S49) → Int → Int → Int → Bool → Option (Int × Int)
  | 0, _, _, _, _, _ => none
  | k + 1, x0, x1, x2, x8, x33 => if x33 = true then (some (0, 2)) else (if (x0.length : Int) = 0 then (some (0, 11)) else (contangoref17_Vwap.l0 k x0 x1 x2 x8 0 0))
def contangoref17_Vwap.l0 : Nat → List (S49) → Int → Int → Int → Int → Int → Option (Int × Int)
  | 0, _, _, _, _, _, _ => none
  | k + 1, x0, x1, x2, x8, x10, x11 => if x11 < (x0.length : Int) then (if 0 ≤ x11 then (contangoref17_Vwap.l0 k x0 x1 x2 x8 (wrap64 (x10 + (wrap64 (((rd_T49 x0 x11).f1) * ((rd_T49 x0 x11).f2))))) (wrap64 (x11 + 1))) else (none)) else ((contangoref01_MulDiv.f k x10 1 (wrap64 (x8 * x1)) x2).bind fun bt105 => (some (wrap64 (bt105.1 * x1), 0)))
end
def contangoref17_Vwap.f (k : Nat) (l0 : List (S49)) (a1 : Int) (a2 : Int) : Option (Int × Int) := (contangoref17_Volume.f k l0).bind fun bt101 => (if bt101.2 = 0 then (if a1 < 1 then (contangoref17_Vwap.j0 k l0 a1 a2 bt101.1 true) else (contangoref17_Vwap.j0 k l0 a1 a2 bt101.1 (decide (a1 > 16777216)))) else (some (0, bt101.2)))
set_option maxHeartbeats 8000000 in
set_option maxRecDepth 100000 in
theorem contangoref17_Vwap.calls (k : Nat) (A0 : Option Addr) (c0 : Nat) (l0 : List (S49)) (a1 : Int) (a2 : Int) (r1 : Int) (r2 : Int) (w : World) (hr0 : Kd.C k49 w A0 l0.length l0) (hc0 : l0.length ≤ c0) (h : contangoref17_Vwap.f k l0 a1 a2 = some (r1, r2)) :
    Calls Try.prog 13 #[.slice A0 l0.length c0, .int .i64 a1, .int .i64 a2] w fun e w' => e = .returned (.tuple #[.int .i64 r1, .int .i64 r2]) ∧ Drawn0 w w' := by
  have HR0 := Aside0.mk hr0
  have HC0 := Aside0.mk hc0
  clear hr0 hc0
  have H : ((contangoref17_Volume.f k l0).bind fun bt101 => (if bt101.2 = 0 then (if a1 < 1 then (contangoref17_Vwap.j0 k l0 a1 a2 bt101.1 true) else (contangoref17_Vwap.j0 k l0 a1 a2 bt101.1 (decide (a1 > 16777216)))) else (some (0, bt101.2)))) = some (r1, r2) := h
  clear h
  replace H := Option.bind_eq_some_iff.mp H
  obtain ⟨⟨t101, t102⟩, A40, H⟩ := H
  replace H : (if t102 = 0 then (if a1 < 1 then (contangoref17_Vwap.j0 k l0 a1 a2 t101 true) else (contangoref17_Vwap.j0 k l0 a1 a2 t101 (decide (a1 > 16777216)))) else (some (0, t102))) = some (r1, r2) := H
  have A4 := Aside0.mk A40
  clear A40
  by_cases c5 : t102 = 0
  · rw [if_pos c5] at H
    have c5b0 : (t102 == 0) = true := beq_iff_eq.mpr c5
    have c5b1 : (t102 != 0) = false := bne_eq_false_iff_eq.mpr c5
    clear c5
    have HC6 := Aside0.mk H
    clear H
    go_enter Try.func13, Try.ntmps13
    go_upto_region 4 with (first | (go_at_call 39; (with_reducible refine (contangoref17_Volume.calls k _ _ l0 t101 t102 _ ?side1 ?side2 A4.out).mono ?_); (case side1 => repeat (first | exact HR0.out | (with_reducible refine Kd.C_alloc ?_ _) | (with_reducible refine Kd.C_drewN ?_ _) | (with_reducible refine Kd.C_drew ?_))); (case side2 => exact HC0.out); rintro e w' ⟨rfl, ⟨nd, rfl⟩⟩; (try first | exact ⟨rfl, _, World.drewN_drewN _ _ _⟩ | exact ⟨rfl, _, Eq.trans (World.drewN_drewN _ _ _) (congrArg (World.drewN _) (Nat.add_assoc _ _ _))⟩)))
    repeat (go_quiet (first | (go_at_call 39; (with_reducible refine (contangoref17_Volume.calls k _ _ l0 t101 t102 _ ?side1 ?side2 A4.out).mono ?_); (case side1 => repeat (first | exact HR0.out | (with_reducible refine Kd.C_alloc ?_ _) | (with_reducible refine Kd.C_drewN ?_ _) | (with_reducible refine Kd.C_drew ?_))); (case side2 => exact HC0.out); rintro e w' ⟨rfl, ⟨nd, rfl⟩⟩; (try first | exact ⟨rfl, _, World.drewN_drewN _ _ _⟩ | exact ⟨rfl, _, Eq.trans (World.drewN_drewN _ _ _) (congrArg (World.drewN _) (Nat.add_assoc _ _ _))⟩))); go_upto_region 4 with (first | (go_at_call 39; (with_reducible refine (contangoref17_Volume.calls k _ _ l0 t101 t102 _ ?side1 ?side2 A4.out).mono ?_); (case side1 => repeat (first | exact HR0.out | (with_reducible refine Kd.C_alloc ?_ _) | (with_reducible refine Kd.C_drewN ?_ _) | (with_reducible refine Kd.C_drew ?_))); (case side2 => exact HC0.out); rintro e w' ⟨rfl, ⟨nd, rfl⟩⟩; (try first | exact ⟨rfl, _, World.drewN_drewN _ _ _⟩ | exact ⟨rfl, _, Eq.trans (World.drewN_drewN _ _ _) (congrArg (World.drewN _) (Nat.add_assoc _ _ _))⟩))))
    (try simp only [Act.put, List.setIfInBounds_toArray, List.set_cons_zero, List.set_cons_succ])
    go_cut [27] (fun v27 wc => ∃ (kq : Nat) (x27_5 : Bool), v27 = .bool x27_5 ∧ Aside0 (contangoref17_Vwap.j0 kq l0 a1 a2 t101 x27_5 = some (r1, r2)) ∧ Aside0 (kq ≤ k) ∧ Drawn0 w wc)
    case first =>
      have H := HC6.out
      clear HC6
      by_cases c7 : a1 < 1
      · rw [if_pos c7] at H
        have c7b0 : decide (a1 < 1) = true := decide_eq_true c7
        clear c7
        (first | rw [c7b0] | (simp only [i64_w, i32_w]; rw [c7b0]) | skip)
        have H' := Aside0.mk H
        clear H
        go_wp2
        repeat (go_quiet (fail); try go_wp2)
        go_meet
        case rel => exact ⟨_, (true), (by first | rfl | (simp; done) | (simp [*]; done)), H', ⟨by first | omega | exact Nat.le_refl _⟩, by repeat (first | exact Drawn0.refl _ | apply Drawn0.step)⟩
      · rw [if_neg c7] at H
        have c7b0 : decide (a1 < 1) = false := decide_eq_false c7
        clear c7
        (first | rw [c7b0] | (simp only [i64_w, i32_w]; rw [c7b0]) | skip)
        have H' := Aside0.mk H
        clear H
        go_wp2
        repeat (go_quiet (fail); try go_wp2)
        go_meet
        case rel => exact ⟨_, (decide (a1 > 16777216)), (by first | rfl | (simp; done) | (simp [*]; done)), H', ⟨by first | omega | exact Nat.le_refl _⟩, by repeat (first | exact Drawn0.refl _ | apply Drawn0.step)⟩
    case rest =>
      clear HC6
      try clear c1
      try clear p2
      try clear c5
      try clear c5b0
      try clear c5b1
      try clear c7
      try clear c7b0
      obtain ⟨kq, x27_5, rfl, HA, HJ5, ⟨mc5, rfl⟩⟩ := hcut
      cases kq with
      | zero => exact absurd HA.out (by simp [contangoref17_Vwap.j0])
      | succ kj5 =>
        have H := HA.out
        clear HA
        simp only [contangoref17_Vwap.j0] at H
        by_cases c8 : x27_5 = true
        · subst c8
          have H1 : (some (0, 16)) = some (r1, r2) := by rw [if_pos rfl] at H; exact H
          clear H
          have H := H1
          clear H1
          simp only [Option.some.injEq, Prod.mk.injEq] at H
          obtain ⟨rfl, rfl⟩ := H
          go_wp2
          repeat (go_quiet (fail); try go_wp2)
          go_ret2
          exact ⟨by first | rfl | (simp; done) | (simp [*]; done), by repeat (first | exact Drawn0.refl _ | apply Drawn0.step)⟩
        · replace c8 := Bool.eq_false_iff.mpr c8
          subst c8
          have H1 : (if a2 < 1 then (contangoref17_Vwap.j1 kj5 l0 a1 a2 t101 true) else (contangoref17_Vwap.j1 kj5 l0 a1 a2 t101 (decide (a2 > 5)))) = some (r1, r2) := by rw [if_neg (show ¬ (false = true) by decide)] at H; exact H
          clear H
          have H := H1
          clear H1
          have HC9 := Aside0.mk H
          clear H
          go_upto_region 6 with (fail)
          repeat (go_quiet (fail); go_upto_region 6 with (fail))
          go_cut [33] (fun v33 wc => ∃ (kq : Nat) (x33_8 : Bool), v33 = .bool x33_8 ∧ Aside0 (contangoref17_Vwap.j1 kq l0 a1 a2 t101 x33_8 = some (r1, r2)) ∧ Aside0 (kq ≤ kj5) ∧ Drawn0 w wc)
          case first =>
            have H := HC9.out
            clear HC9
            by_cases c10 : a2 < 1
            · rw [if_pos c10] at H
              have c10b0 : decide (a2 < 1) = true := decide_eq_true c10
              clear c10
              (first | rw [c10b0] | (simp only [i64_w, i32_w]; rw [c10b0]) | skip)
              have H' := Aside0.mk H
              clear H
              go_wp2
              repeat (go_quiet (fail); try go_wp2)
              go_meet
              case rel => exact ⟨_, (true), (by first | rfl | (simp; done) | (simp [*]; done)), H', ⟨by have := HJ5.out; first | omega | exact Nat.le_refl _⟩, by repeat (first | exact Drawn0.refl _ | apply Drawn0.step)⟩
            · rw [if_neg c10] at H
              have c10b0 : decide (a2 < 1) = false := decide_eq_false c10
              clear c10
              (first | rw [c10b0] | (simp only [i64_w, i32_w]; rw [c10b0]) | skip)
              have H' := Aside0.mk H
              clear H
              go_wp2
              repeat (go_quiet (fail); try go_wp2)
              go_meet
              case rel => exact ⟨_, (decide (a2 > 5)), (by first | rfl | (simp; done) | (simp [*]; done)), H', ⟨by have := HJ5.out; first | omega | exact Nat.le_refl _⟩, by repeat (first | exact Drawn0.refl _ | apply Drawn0.step)⟩
          case rest =>
            clear HC9
            try clear c1
            try clear p2
            try clear c5
            try clear c5b0
            try clear c5b1
            try clear c7
            try clear c7b0
            try clear c8
            try clear c10
            try clear c10b0
            try clear p2
            obtain ⟨kq, x33_8, rfl, HA, HJ8, ⟨mc8, rfl⟩⟩ := hcut
            cases kq with
            | zero => exact absurd HA.out (by simp [contangoref17_Vwap.j1])
            | succ kj8 =>
              have H := HA.out
              clear HA
              simp only [contangoref17_Vwap.j1] at H
              by_cases c11 : x33_8 = true
              · subst c11
                have H1 : (some (0, 2)) = some (r1, r2) := by rw [if_pos rfl] at H; exact H
                clear H
                have H := H1
                clear H1
                simp only [Option.some.injEq, Prod.mk.injEq] at H
                obtain ⟨rfl, rfl⟩ := H
                go_wp2
                repeat (go_quiet (fail); try go_wp2)
                go_ret2
                exact ⟨by first | rfl | (simp; done) | (simp [*]; done), by repeat (first | exact Drawn0.refl _ | apply Drawn0.step)⟩
              · replace c11 := Bool.eq_false_iff.mpr c11
                subst c11
                have H1 : (if (l0.length : Int) = 0 then (some (0, 11)) else (contangoref17_Vwap.l0 kj8 l0 a1 a2 t101 0 0)) = some (r1, r2) := by rw [if_neg (show ¬ (false = true) by decide)] at H; exact H
                clear H
                have H := H1
                clear H1
                by_cases c12 : (l0.length : Int) = 0
                · rw [if_pos c12] at H
                  have c12b0 : ((l0.length : Int) == 0) = true := beq_iff_eq.mpr c12
                  have c12b1 : ((l0.length : Int) != 0) = false := bne_eq_false_iff_eq.mpr c12
                  clear c12
                  simp only [Option.some.injEq, Prod.mk.injEq] at H
                  obtain ⟨rfl, rfl⟩ := H
                  go_wp2
                  repeat (go_quiet (fail); try go_wp2)
                  go_ret2
                  exact ⟨by first | rfl | (simp; done) | (simp [*]; done), by repeat (first | exact Drawn0.refl _ | apply Drawn0.step)⟩
                · rw [if_neg c12] at H
                  have c12b0 : ((l0.length : Int) == 0) = false := beq_eq_false_iff_ne.mpr c12
                  have c12b1 : ((l0.length : Int) != 0) = true := bne_iff_ne.mpr c12
                  have c12b2 : ¬ (l0 = []) := fun h_ => c12 (by rw [h_]; rfl)
                  have H' := Aside0.mk H
                  clear H
                  go_wp2
                  repeat (go_quiet (fail); try go_wp2)
                  go_loopg [10, 11] kj8 (fun kq v10 v11 w' => ∃ (x10_3 : Int) (x11_3 : Int), v10 = .int .i64 x10_3 ∧ v11 = .int .i64 x11_3 ∧ Aside0 (contangoref17_Vwap.l0 kq l0 a1 a2 t101 x10_3 x11_3 = some (r1, r2)) ∧ Aside0 (kq ≤ kj8) ∧ Drawn0 w w')
                  case atStart => exact ⟨(0), (0), (by first | rfl | (simp; done) | (simp [*]; done)), (by first | rfl | (simp; done) | (simp [*]; done)), H', ⟨Nat.le_refl _⟩, by repeat (first | exact Drawn0.refl _ | apply Drawn0.step)⟩
                  case round =>
                    clear H'
                    try clear c1
                    try clear p2
                    try clear c5
                    try clear c5b0
                    try clear c5b1
                    try clear c7
                    try clear c7b0
                    try clear c8
                    try clear c10
                    try clear c10b0
                    try clear c11
                    try clear c12
                    try clear c12b0
                    try clear c12b1
                    try clear c12b2
                    try clear p2
                    obtain ⟨x10_3, x11_3, rfl, rfl, HA, HK3, ⟨m3, rfl⟩⟩ := hrel
                    cases gk with
                    | zero => exact absurd HA.out (by simp [contangoref17_Vwap.l0])
                    | succ k3 =>
                      have H := HA.out
                      clear HA
                      simp only [contangoref17_Vwap.l0] at H
                      by_cases c13 : x11_3 < (l0.length : Int)
                      · rw [if_pos c13] at H
                        have c13b0 : decide (x11_3 < (l0.length : Int)) = true := decide_eq_true c13
                        clear c13
                        by_cases c14 : 0 ≤ x11_3
                        · rw [if_pos c14] at H
                          have c14b0 : decide (0 ≤ x11_3) = true := decide_eq_true c14
                          clear c14
                          have H' := Aside0.mk H
                          clear H
                          have p103 : 0 ≤ (x11_3 : Int) := of_decide_eq_true (by first | (with_reducible assumption) | assumption)
                          have q103 : x11_3 < (l0.length : Int) := of_decide_eq_true (by first | (with_reducible assumption) | assumption)
                          obtain ⟨ad103, e103, hx103_0, hx103_1, hx103_2⟩ := at_T49 HR0.out x11_3 p103 q103
                          cases e103
                          replace p103 := eq_true p103
                          replace q103 := eq_true q103
                          have p104 : 0 ≤ (x11_3 : Int) := of_decide_eq_true (by first | (with_reducible assumption) | assumption)
                          have q104 : x11_3 < (l0.length : Int) := of_decide_eq_true (by first | (with_reducible assumption) | assumption)
                          obtain ⟨ad104, e104, hx104_0, hx104_1, hx104_2⟩ := at_T49 HR0.out x11_3 p104 q104
                          obtain rfl : ad103 = ad104 := (by injection e104)
                          replace p104 := eq_true p104
                          replace q104 := eq_true q104
                          go_wp2
                          repeat (go_quiet (fail); try go_wp2)
                          go_roundg k3
                          case measure => have := HJ5.out; have := HJ8.out; have := HK3.out; omega
                          case rel => exact ⟨(wrap64 (x10_3 + (wrap64 (((rd_T49 l0 x11_3).f1) * ((rd_T49 l0 x11_3).f2))))), (wrap64 (x11_3 + 1)), (by first | rfl | (simp; done) | (simp [*]; done)), (by first | rfl | (simp; done) | (simp [*]; done)), H', ⟨by have := HJ5.out; have := HJ8.out; have := HK3.out; omega⟩, by repeat (first | exact Drawn0.refl _ | apply Drawn0.step)⟩
                        · rw [if_neg c14] at H
                          exact absurd H (by simp)
                      · rw [if_neg c13] at H
                        have c13b0 : decide (x11_3 < (l0.length : Int)) = false := decide_eq_false c13
                        clear c13
                        replace H := Option.bind_eq_some_iff.mp H
                        obtain ⟨⟨t105, t106⟩, A150, H⟩ := H
                        replace H : (some (wrap64 (t105 * a1), 0)) = some (r1, r2) := H
                        have A15 := Aside0.mk A150
                        clear A150
                        simp only [Option.some.injEq, Prod.mk.injEq] at H
                        obtain ⟨rfl, rfl⟩ := H
                        go_wp2_with (first | (go_at_call 40; (with_reducible refine (contangoref01_MulDiv.calls k3 x10_3 1 (wrap64 (t101 * a1)) a2 t105 t106 _ A15.out).mono ?_); rintro e w' ⟨rfl, ⟨nd, rfl⟩⟩; (try first | exact ⟨rfl, _, World.drewN_drewN _ _ _⟩ | exact ⟨rfl, _, Eq.trans (World.drewN_drewN _ _ _) (congrArg (World.drewN _) (Nat.add_assoc _ _ _))⟩)))
                        repeat (go_quiet (first | (go_at_call 40; (with_reducible refine (contangoref01_MulDiv.calls k3 x10_3 1 (wrap64 (t101 * a1)) a2 t105 t106 _ A15.out).mono ?_); rintro e w' ⟨rfl, ⟨nd, rfl⟩⟩; (try first | exact ⟨rfl, _, World.drewN_drewN _ _ _⟩ | exact ⟨rfl, _, Eq.trans (World.drewN_drewN _ _ _) (congrArg (World.drewN _) (Nat.add_assoc _ _ _))⟩))); try go_wp2_with (first | (go_at_call 40; (with_reducible refine (contangoref01_MulDiv.calls k3 x10_3 1 (wrap64 (t101 * a1)) a2 t105 t106 _ A15.out).mono ?_); rintro e w' ⟨rfl, ⟨nd, rfl⟩⟩; (try first | exact ⟨rfl, _, World.drewN_drewN _ _ _⟩ | exact ⟨rfl, _, Eq.trans (World.drewN_drewN _ _ _) (congrArg (World.drewN _) (Nat.add_assoc _ _ _))⟩))))
                        go_ret2
                        exact ⟨by first | rfl | (simp; done) | (simp [*]; done), by repeat (first | exact Drawn0.refl _ | apply Drawn0.step)⟩
  · rw [if_neg c5] at H
    have c5b0 : (t102 == 0) = false := beq_eq_false_iff_ne.mpr c5
    have c5b1 : (t102 != 0) = true := bne_iff_ne.mpr c5
    simp only [Option.some.injEq, Prod.mk.injEq] at H
    obtain ⟨rfl, rfl⟩ := H
    go_enter Try.func13, Try.ntmps13
    go_wp2_with (first | (go_at_call 39; (with_reducible refine (contangoref17_Volume.calls k _ _ l0 t101 t102 _ ?side1 ?side2 A4.out).mono ?_); (case side1 => repeat (first | exact HR0.out | (with_reducible refine Kd.C_alloc ?_ _) | (with_reducible refine Kd.C_drewN ?_ _) | (with_reducible refine Kd.C_drew ?_))); (case side2 => exact HC0.out); rintro e w' ⟨rfl, ⟨nd, rfl⟩⟩; (try first | exact ⟨rfl, _, World.drewN_drewN _ _ _⟩ | exact ⟨rfl, _, Eq.trans (World.drewN_drewN _ _ _) (congrArg (World.drewN _) (Nat.add_assoc _ _ _))⟩)))
    repeat (go_quiet (first | (go_at_call 39; (with_reducible refine (contangoref17_Volume.calls k _ _ l0 t101 t102 _ ?side1 ?side2 A4.out).mono ?_); (case side1 => repeat (first | exact HR0.out | (with_reducible refine Kd.C_alloc ?_ _) | (with_reducible refine Kd.C_drewN ?_ _) | (with_reducible refine Kd.C_drew ?_))); (case side2 => exact HC0.out); rintro e w' ⟨rfl, ⟨nd, rfl⟩⟩; (try first | exact ⟨rfl, _, World.drewN_drewN _ _ _⟩ | exact ⟨rfl, _, Eq.trans (World.drewN_drewN _ _ _) (congrArg (World.drewN _) (Nat.add_assoc _ _ _))⟩))); try go_wp2_with (first | (go_at_call 39; (with_reducible refine (contangoref17_Volume.calls k _ _ l0 t101 t102 _ ?side1 ?side2 A4.out).mono ?_); (case side1 => repeat (first | exact HR0.out | (with_reducible refine Kd.C_alloc ?_ _) | (with_reducible refine Kd.C_drewN ?_ _) | (with_reducible refine Kd.C_drew ?_))); (case side2 => exact HC0.out); rintro e w' ⟨rfl, ⟨nd, rfl⟩⟩; (try first | exact ⟨rfl, _, World.drewN_drewN _ _ _⟩ | exact ⟨rfl, _, Eq.trans (World.drewN_drewN _ _ _) (congrArg (World.drewN _) (Nat.add_assoc _ _ _))⟩))))
    go_ret2
    exact ⟨by first | rfl | (simp; done) | (simp [*]; done), by repeat (first | exact Drawn0.refl _ | apply Drawn0.step)⟩
end Go.Proofs.Ytocndpddghefhaa.X
end
section
namespace Go.Proofs.Ytocndpddghefhaa.X
open Go.RowKit Go.Proofs.YtocndpddghefhaaW.PrintWords Go.Proofs.YtocndpddghefhaaW.PrintLast Go.Proofs.YtocndpddghefhaaW.PrintMore
attribute [local go_sem] max2_int min2_int max_two min_two max_three min_three max_four min_four
set_option linter.unusedVariables false
set_option linter.unusedSimpArgs false
def contangolaw17_TapeAverages.f (k : Nat) (l0 : List (S49)) (a1 : Int) (a2 : Int) : Option (Bool) := (tape_Vwap.f k l0 a1 a2).bind fun bt101 => ((contangoref17_Vwap.f k l0 a1 a2).bind fun bt103 => (if bt101.1 = bt103.1 then (if bt101.2 = bt103.2 then ((contangolaw17_goes.f k).bind fun t105 => (some t105)) else (none)) else (none)))
set_option maxHeartbeats 8000000 in
set_option maxRecDepth 100000 in
theorem contangolaw17_TapeAverages.calls (k : Nat) (A0 : Option Addr) (c0 : Nat) (l0 : List (S49)) (a1 : Int) (a2 : Int) (r : Bool) (w : World) (hr0 : Kd.C k49 w A0 l0.length l0) (hc0 : l0.length ≤ c0) (h : contangolaw17_TapeAverages.f k l0 a1 a2 = some r) :
    Calls Try.prog 3 #[.slice A0 l0.length c0, .int .i64 a1, .int .i64 a2] w fun e w' => e = .returned (.bool r) ∧ Below w.heap.size w w' := by
  have HR0 := Aside0.mk hr0
  have HC0 := Aside0.mk hc0
  clear hr0 hc0
  have HB := Aside0.mk (Below.refl w.heap.size w)
  have H : ((tape_Vwap.f k l0 a1 a2).bind fun bt101 => ((contangoref17_Vwap.f k l0 a1 a2).bind fun bt103 => (if bt101.1 = bt103.1 then (if bt101.2 = bt103.2 then ((contangolaw17_goes.f k).bind fun t105 => (some t105)) else (none)) else (none)))) = some r := h
  clear h
  replace H := Option.bind_eq_some_iff.mp H
  obtain ⟨⟨t101, t102⟩, A40, H⟩ := H
  replace H : ((contangoref17_Vwap.f k l0 a1 a2).bind fun bt103 => (if t101 = bt103.1 then (if t102 = bt103.2 then ((contangolaw17_goes.f k).bind fun t105 => (some t105)) else (none)) else (none))) = some r := H
  have A4 := Aside0.mk A40
  clear A40
  replace H := Option.bind_eq_some_iff.mp H
  obtain ⟨⟨t103, t104⟩, A50, H⟩ := H
  replace H : (if t101 = t103 then (if t102 = t104 then ((contangolaw17_goes.f k).bind fun t105 => (some t105)) else (none)) else (none)) = some r := H
  have A5 := Aside0.mk A50
  clear A50
  by_cases c6 : t101 = t103
  · rw [if_pos c6] at H
    have c6b0 : (t101 == t103) = true := beq_iff_eq.mpr c6
    have c6b1 : (t101 != t103) = false := bne_eq_false_iff_eq.mpr c6
    clear c6
    by_cases c7 : t102 = t104
    · rw [if_pos c7] at H
      have c7b0 : (t102 == t104) = true := beq_iff_eq.mpr c7
      have c7b1 : (t102 != t104) = false := bne_eq_false_iff_eq.mpr c7
      clear c7
      replace H := Option.bind_eq_some_iff.mp H
      obtain ⟨t105, A80, H⟩ := H
      replace H : (some t105) = some r := H
      have A8 := Aside0.mk A80
      clear A80
      obtain rfl := Option.some.inj H
      go_enter Try.func3, Try.ntmps3
      go_wp2_with (first | ((with_reducible refine gate_callee (f := 12) rfl ?_); refine goesL_ (some 15) rfl rfl Try.func12 (by kernel_rfl) rfl #[.slice A0 l0.length c0, .int .i64 a1, .int .i64 a2] rfl (by (try simp only [List.map_toArray, List.map_cons, List.map_nil]); first | done | rfl | (simp only [List.length_drop, List.length_take]; rfl)) ?_; (with_reducible refine (tape_Vwap.calls k _ _ l0 a1 a2 t101 t102 _ ?side1 ?side2 A4.out).mono ?_); (case side1 => repeat (first | exact HR0.out | (with_reducible refine Kd.C_alloc ?_ _) | (with_reducible refine Kd.C_drewN ?_ _) | (with_reducible refine Kd.C_drew ?_))); (case side2 => exact HC0.out); rintro e w9 ⟨rfl, hb⟩; refine ⟨_, rfl, ?_⟩; have n0_ := Aside0.mk (below_step (by repeat (first | (with_reducible first | exact HB.out | apply below_alloc | apply pw_below_drewN | apply below_drew1) | exact HB.out)) hb); clear HB; have HB := n0_; clear n0_; (try clear hb); (try clear hb2); (try clear hk); (try clear hi)) | ((with_reducible refine gate_callee (f := 13) rfl ?_); refine goesL_ (some 22) rfl rfl Try.func13 (by kernel_rfl) rfl #[.slice A0 l0.length c0, .int .i64 a1, .int .i64 a2] rfl (by (try simp only [List.map_toArray, List.map_cons, List.map_nil]); first | done | rfl | (simp only [List.length_drop, List.length_take]; rfl)) ?_; (with_reducible refine (contangoref17_Vwap.calls k _ _ l0 a1 a2 t103 t104 _ ?side1 ?side2 A5.out).mono ?_); (case side1 => repeat (first | exact (Kd.C_below HR0.out HB.out) | (with_reducible refine Kd.C_alloc ?_ _) | (with_reducible refine Kd.C_drewN ?_ _) | (with_reducible refine Kd.C_drew ?_))); (case side2 => exact HC0.out); rintro e w' ⟨rfl, ⟨nd, rfl⟩⟩; refine ⟨_, rfl, ?_⟩) | (go_at_call 14; (with_reducible refine (contangolaw17_goes.calls k  t105 _ A8.out).mono ?_); rintro e w10 ⟨rfl, hb⟩; have n0_ := Aside0.mk (below_step (by repeat (first | (with_reducible first | exact HB.out | apply below_alloc | apply pw_below_drewN | apply below_drew1) | exact HB.out)) hb); clear HB; have HB := n0_; clear n0_; (try clear hb); (try clear hb2); (try clear hk); (try clear hi)))
      go_ret
      exact ⟨by first | rfl | (simp [errW_none, errW_some] <;> rfl) | (simp [*, errW_none, errW_some] <;> rfl), by repeat (first | (with_reducible first | exact HB.out | apply below_alloc | apply pw_below_drewN | apply below_drew1) | exact HB.out)⟩
    · rw [if_neg c7] at H
      exact absurd H (by simp)
  · rw [if_neg c6] at H
    exact absurd H (by simp)
end Go.Proofs.Ytocndpddghefhaa.X
end
section
namespace Go.Proofs.Ytocndpddghefhaa.Opn
open Go.ChangeShapes Go.WideShapes Go.Proofs.YtocndpddghefhaaW.PrintWords
set_option linter.unusedVariables false
set_option linter.unusedSimpArgs false
structure Opens (P : Program) (t : TypeId) {α : Type} (d : Kd α) (Ok : α → Prop) : Prop where
  sz : d.sz = P.cellsOf t
  opens : ∀ {H : Type} {enc : TypeId × Value → H} {w : World} {base : Nat} {spare : Nat → Bool} {held : Bool} {fuel : Nat} {cs : List Value} {x : DataW H × List MemPlace},
    DataW.trod enc P w base spare held fuel t cs = some x → (∀ n ∈ x.1.weights P t, n ≤ reachBytes) → ∃ v, d.K w v cs ∧ Ok v
theorem opens_int {P : Program} {t : TypeId} {k : IntKind} (ht : P.underlying t = some (.int k)) (hc : P.cellsOf t = 1) : Opens P t (Kd.int k) (fun n => (Lit.int k n).wf = true) := by
  refine ⟨hc.symm, fun h _ => ?_⟩
  obtain ⟨n, rfl, _, hw⟩ := DataW.trod_int ht h
  exact ⟨n, rfl, hw⟩
theorem weights_all {H : Type} {P : Program} {e : TypeId} : ∀ {ds : List (DataW H)} {j : Nat} {d : DataW H}, ds[j]? = some d → ∀ n ∈ d.weights P e, n ∈ DataW.weightsAll P e ds
  | d0 :: ds, 0, d, hd, n, hn => by
    simp only [List.getElem?_cons_zero, Option.some.injEq] at hd
    subst hd
    simp only [DataW.weightsAll, List.mem_append]
    exact Or.inl hn
  | d0 :: ds, j + 1, d, hd, n, hn => by
    simp only [List.getElem?_cons_succ] at hd
    simp only [DataW.weightsAll, List.mem_append]
    exact Or.inr (weights_all hd n hn)
  | [], _, _, hd, _, _ => by simp at hd
theorem list_of {α : Type} {n : Nat} {p : Nat → α → Prop} (h : ∀ i, i < n → ∃ x, p i x) : ∃ l : List α, l.length = n ∧ ∀ i x, l[i]? = some x → p i x := by
  induction n with
  | zero => exact ⟨[], rfl, fun i x hx => by simp at hx⟩
  | succ n ih =>
    obtain ⟨l, hl, hp⟩ := ih (fun i hi => h i (by omega))
    obtain ⟨x, hx⟩ := h n (by omega)
    refine ⟨l ++ [x], by simp [hl], fun i y hy => ?_⟩
    by_cases hi : i < l.length
    · rw [List.getElem?_append_left hi] at hy
      exact hp i y hy
    · rw [List.getElem?_append_right (by omega)] at hy
      have : i - l.length = 0 := by
        cases hk : i - l.length with
        | zero => rfl
        | succ m => rw [hk] at hy; simp at hy
      rw [this] at hy
      simp at hy
      subst hy
      have : i = n := by omega
      subst this
      exact hx
theorem opens_slice {P : Program} {t e : TypeId} {α : Type} {d : Kd α} {Ok : α → Prop} (h : Opens P e d Ok) (ht : P.underlying t = some (.slice e)) (hc : P.cellsOf t = 1) {B : Nat} (hB : P.bytesOf e = B) :
    Opens P t (Kd.slice e d) (fun l => l.length ≤ maxLen ∧ l.length * B ≤ 140737488351232 ∧ ∀ x ∈ l, Ok x) := by
  subst hB
  refine ⟨hc.symm, fun {H enc w base spare held fuel cs x} hx hw => ?_⟩
  rcases DataW.trod_slice ht hx with ⟨rfl, rfl⟩ | ⟨a, len, cap, elems, rest, n, _, rfl, rfl, hb, hl, hm, hlen, hel, hsp, hns⟩
  · exact ⟨[], ⟨none, 0, rfl, Nat.le_refl _, Kd.C_nil _ _⟩, by simp⟩
  simp only [DataW.weights, ht] at hw
  have hw1 : (elems.length + rest.length) * P.bytesOf e ≤ reachBytes := by
    have := hw ((elems.length + rest.length) * P.bytesOf e) (by simp)
    exact this
  have hone : ∀ i, i < len → ∃ v : α, ∃ c, w.cells? base (a.add (i * P.cellsOf e)) (P.cellsOf e) = some c ∧ d.K w v c ∧ Ok v := by
    intro i hi
    have h1 := hel i hi
    rw [List.getElem?_eq_getElem (by omega)] at h1
    obtain ⟨c, hc1, hc2⟩ := Option.bind_eq_some_iff.1 h1
    obtain ⟨v, hv, hok⟩ := h.opens hc2 (fun n hn => hw n (by
      simp only [List.mem_cons, List.mem_append]
      right; left
      refine weights_all (j := i) ?_ n hn
      rw [List.getElem?_map, List.getElem?_eq_getElem (by omega)]
      rfl))
    exact ⟨v, c, hc1, hv, hok⟩
  obtain ⟨l, hl1, hl2⟩ := list_of hone
  subst hl1
  refine ⟨l, ⟨some a, cap, rfl, hl, rfl, ?_, fun _ => ⟨a, rfl, fun j p hj => ?_⟩⟩, ?_, ?_, ?_⟩
  · unfold maxLen at hm; omega
  · obtain ⟨c, hc1, hc2, _⟩ := hl2 j p hj
    obtain ⟨_, hlen2, hcell⟩ := World.cells?_some hc1
    refine ⟨c, by rw [h.sz]; exact hlen2, hc2, fun i u hu => ?_⟩
    have hi : i < P.cellsOf e := by
      have := (List.getElem?_eq_some_iff.1 hu).1
      omega
    have := hcell i hi
    rw [hu, ← Deep.add_add, h.sz] at *
    exact this
  · exact Nat.le_trans hl hm
  · have h2 : l.length * P.bytesOf e ≤ (elems.length + rest.length) * P.bytesOf e := Nat.mul_le_mul_right _ (by omega)
    exact Nat.le_trans h2 hw1
  · intro x hx
    obtain ⟨j, hj⟩ := List.getElem?_of_mem hx
    obtain ⟨c, _, _, ho⟩ := hl2 j x hj
    exact ho
structure OpensF (P : Program) (fs : List Field) (off : Nat) {α : Type} (d : Kd α) (Ok : α → Prop) : Prop where
  opens : ∀ {H : Type} {enc : TypeId × Value → H} {w : World} {base : Nat} {spare : Nat → Bool} {held : Bool} {n : Nat} {cs : List Value} {xs : List (DataW H × List MemPlace)},
    xs.length = fs.length → (∀ (i : Nat) (f : Field), fs[i]? = some f → DataW.trod enc P w base spare held n f.type ((cs.drop f.offset).take (P.cellsOf f.type)) = xs[i]?) →
    (∀ m ∈ DataW.weightsEach P (fs.map (·.type)) (xs.map (·.1)), m ≤ reachBytes) → ∃ v, d.K w v ((cs.drop off).take d.sz) ∧ Ok v
theorem opensF_one {P : Program} {f : Field} {off : Nat} {α : Type} {d : Kd α} {Ok : α → Prop} (h : Opens P f.type d Ok) (ho : f.offset = off) : OpensF P [f] off d Ok := by
  refine ⟨fun {H enc w base spare held n cs xs} hl hx hw => ?_⟩
  match xs, hl with
  | [x], _ =>
    have h1 := hx 0 f rfl
    obtain ⟨v, hv, hok⟩ := h.opens h1 (fun n hn => hw n (by simpa [DataW.weightsEach] using hn))
    refine ⟨v, ?_, hok⟩
    rw [h.sz, ← ho]
    exact hv
theorem opensF_cons {P : Program} {f : Field} {fs : List Field} {off : Nat} {α β : Type} {d : Kd α} {d' : Kd β} {Ok : α → Prop} {Ok' : β → Prop} (h : Opens P f.type d Ok) (ho : f.offset = off) (h' : OpensF P fs (off + d.sz) d' Ok') :
    OpensF P (f :: fs) off (Kd.pair d d') (fun p => Ok p.1 ∧ Ok' p.2) := by
  refine ⟨fun {H enc w base spare held n cs xs} hl hx hw => ?_⟩
  match xs, hl with
  | x :: xs, hl =>
    have h1 := hx 0 f rfl
    obtain ⟨v, hv, hok⟩ := h.opens h1 (fun n hn => hw n (by
      simp only [List.map_cons, DataW.weightsEach, List.mem_append]; exact Or.inl hn))
    obtain ⟨v', hv', hok'⟩ := h'.opens (cs := cs) (xs := xs) (by simpa using hl) (fun i g hg => by
      have := hx (i + 1) g (by simpa using hg)
      simpa using this) (fun m hm => hw m (by simp only [List.map_cons, DataW.weightsEach, List.mem_append]; exact Or.inr hm))
    refine ⟨(v, v'), ⟨(cs.drop off).take d.sz, (cs.drop (off + d.sz)).take d'.sz, ?_, ?_, hv'⟩, hok, hok'⟩
    · show (cs.drop off).take (d.sz + d'.sz) = _
      rw [List.take_add, List.drop_drop]
    · rw [h.sz, ← ho]; exact hv
theorem opens_struct {P : Program} {t : TypeId} {fs : Array Field} {α β : Type} {d : Kd α} {Ok : α → Prop} (h : OpensF P fs.toList 0 d Ok) (ht : P.underlying t = some (.struct fs)) (hc : d.sz = P.cellsOf t) (f : β → α) (mk : α → β) (hf : ∀ a, f (mk a) = a) :
    Opens P t (Kd.iso d f) (fun b => Ok (f b)) := by
  refine ⟨hc, fun {H enc w base spare held fuel cs x} hx hw => ?_⟩
  obtain ⟨xs, n, _, rfl, hlen, hsz, hall⟩ := DataW.trod_struct ht hx
  simp only [DataW.weights, ht] at hw
  obtain ⟨v, hv, hok⟩ := h.opens (cs := cs) (xs := xs) (by simpa using hsz) (fun i f hf => hall i f (by simpa using hf)) hw
  refine ⟨mk v, ?_, by rw [hf]; exact hok⟩
  show d.K w (f (mk v)) cs
  rw [hf]
  rw [List.drop_zero, hc, ← hlen, List.take_length] at hv
  exact hv
theorem opens_imp {P : Program} {t : TypeId} {α : Type} {d : Kd α} {Ok Ok' : α → Prop} (h : Opens P t d Ok) (hi : ∀ v, Ok v → Ok' v) : Opens P t d Ok' :=
  ⟨h.sz, fun hx hw => let ⟨v, hv, ho⟩ := h.opens hx hw; ⟨v, hv, hi v ho⟩⟩
end Go.Proofs.Ytocndpddghefhaa.Opn
end
section
namespace Go.Proofs.Ytocndpddghefhaa.X
open Go.RowKit Go.Proofs.YtocndpddghefhaaW.PrintWords Go.Proofs.YtocndpddghefhaaW.PrintLast Go.Proofs.YtocndpddghefhaaW.PrintMore
attribute [local go_sem] max2_int min2_int max_two min_two max_three min_three max_four min_four
set_option linter.unusedVariables false
set_option linter.unusedSimpArgs false
def ok49 (v : S49) : Prop := (Lit.int .i64 v.f0).wf = true ∧ ((Lit.int .i64 v.f1).wf = true ∧ ((Lit.int .i64 v.f2).wf = true))
theorem opens49 : Opn.Opens Try.prog 49 k49 ok49 := by
  have hu := Try.underlying49
  refine Opn.opens_imp (Opn.opens_struct (Ok := fun (p : Int × (Int × (Int))) => (Lit.int .i64 p.1).wf = true ∧ ((Lit.int .i64 p.2.1).wf = true ∧ ((Lit.int .i64 p.2.2).wf = true))) ?hF hu (by kernel_rfl) (fun x : S49 => (x.f0, x.f1, x.f2)) (fun a => ⟨a.1, a.2.1, a.2.2⟩) (fun _ => rfl)) ?hI
  case hF =>
    refine Opn.opensF_cons (Ok := fun (p : Int) => (Lit.int .i64 p).wf = true) (Ok' := fun (p : Int × (Int)) => (Lit.int .i64 p.1).wf = true ∧ ((Lit.int .i64 p.2).wf = true)) (h := ?_) (ho := ?_) (h' := ?_)
    · exact Opn.opens_int Try.underlying3 (by kernel_rfl)
    · rfl
    · skip
      refine Opn.opensF_cons (Ok := fun (p : Int) => (Lit.int .i64 p).wf = true) (Ok' := fun (p : Int) => (Lit.int .i64 p).wf = true) (h := ?_) (ho := ?_) (h' := ?_)
      · exact Opn.opens_int Try.underlying3 (by kernel_rfl)
      · rfl
      · skip
        refine Opn.opensF_one (Ok := fun (p : Int) => (Lit.int .i64 p).wf = true) (h := ?_) (ho := ?_)
        · exact Opn.opens_int Try.underlying3 (by kernel_rfl)
        · rfl
  case hI => exact fun v h => h
end Go.Proofs.Ytocndpddghefhaa.X
end
section
namespace Go.Proofs.Ytocndpddghefhaa.P
open Go.RowKit Go.Proofs.YtocndpddghefhaaW.PrintWords Go.Proofs.YtocndpddghefhaaW.PrintMore Go.Proofs.Ytocndpddghefhaa.X
theorem Ev_succ {α : Type} {g : Nat → Option α} {r : α} (h : Ev (fun k => g (k + 1)) r) : Ev g r := Ev.step (fun _ => rfl) h
theorem Ev_bind {α β : Type} {g : Nat → Option α} {f : Nat → α → Option β} {a : α} {r : β} (h : Ev g a) (k : Ev (fun n => f n a) r) : Ev (fun n => (g n).bind (f n)) r := Ev.bind h k
theorem Ev_id {α : Type} {g : Nat → Option α} {r : α} (h : Ev g r) : Ev (fun n => (g n).bind fun x => some x) r := Ev.bind h (Ev.now _)
theorem w_id {x : Int} (h1 : -9223372036854775808 ≤ x) (h2 : x ≤ 9223372036854775807) : wrap64 x = x := by unfold wrap64; omega
theorem w_succ {i n : Nat} (h : i < n) (hn : n ≤ 9223372036854775807) : wrap64 ((i : Int) + 1) = ((i + 1 : Nat) : Int) := by rw [w_id (by omega) (by omega)]; omega
theorem w_pred {i : Nat} (h : 0 < i) (hn : i ≤ 9223372036854775807) : wrap64 ((i : Int) - 1) = ((i - 1 : Nat) : Int) := by rw [w_id (by omega) (by omega)]; omega
theorem drop_cons {α : Type} (l : List α) (i : Nat) (h : i < l.length) : l.drop i = l[i] :: l.drop (i + 1) := (List.getElem_cons_drop h).symm
end Go.Proofs.Ytocndpddghefhaa.P
end
section
namespace Go.Proofs.Ytocndpddghefhaa.P
set_option linter.unusedVariables false
set_option linter.unusedSimpArgs false
open Go.RowKit Go.Proofs.YtocndpddghefhaaW.PrintWords Go.Proofs.YtocndpddghefhaaW.PrintMore Go.Proofs.Ytocndpddghefhaa.X
theorem uwrap (n : Int) : IntKind.u64.wrap n = n % 18446744073709551616 := by simp [IntKind.wrap, IntKind.bits, IntKind.signed]
theorem u_id {x : Int} (h1 : 0 ≤ x) (h2 : x < 18446744073709551616) : IntKind.u64.wrap x = x := by rw [uwrap]; omega
def fitsM (n : Int) : Bool := decide (-1152921504606846976 ≤ n) && decide (n ≤ 1152921504606846976)
theorem fitsM_iff (n : Int) : fitsM n = true ↔ -1152921504606846976 ≤ n ∧ n ≤ 1152921504606846976 := by simp [fitsM]
theorem fitsM_f (n : Int) : cents_Fits.f n = some (fitsM n) := by
  unfold cents_Fits.f fitsM
  by_cases h : n ≥ -1152921504606846976
  · rw [if_pos h, decide_eq_true (show -1152921504606846976 ≤ n from h), Bool.true_and]
  · rw [if_neg h, decide_eq_false (show ¬ -1152921504606846976 ≤ n from h), Bool.false_and]
theorem fitsMR_f (n : Int) : contangoref01_Fits.f n = some (fitsM n) := by
  unfold contangoref01_Fits.f fitsM
  by_cases h : n ≥ -1152921504606846976
  · rw [if_pos h, decide_eq_true (show -1152921504606846976 ≤ n from h), Bool.true_and]
  · rw [if_neg h, decide_eq_false (show ¬ -1152921504606846976 ≤ n from h), Bool.false_and]
def szI (n : Int) : Int := if n < 0 then -n else n
theorem szI_rng {n : Int} (h : fitsM n = true) : 0 ≤ szI n ∧ szI n ≤ 1152921504606846976 := by
  rw [fitsM_iff] at h; unfold szI; split <;> omega
theorem szI_pos {n : Int} (h : n ≠ 0) : 1 ≤ szI n := by unfold szI; split <;> omega
theorem size_f {n : Int} (h : fitsM n = true) : cents_size.f n = some (szI n) := by
  rw [fitsM_iff] at h
  unfold cents_size.f szI
  by_cases c : n < 0
  · rw [if_pos c, if_pos c, w_id (by omega) (by omega), u_id (by omega) (by omega)]
  · rw [if_neg c, if_neg c, u_id (by omega) (by omega)]
theorem sizeR_f {n : Int} (h : fitsM n = true) : contangoref01_size.f n = some (szI n) := by
  rw [fitsM_iff] at h
  unfold contangoref01_size.f szI
  by_cases c : n < 0
  · rw [if_pos c, if_pos c, w_id (by omega) (by omega)]
  · rw [if_neg c, if_neg c]
theorem maskN (a : Nat) (ha : a < 18446744073709551616) : Go.bits .and .u64 (a : Int) 4294967295 = ((a % 4294967296 : Nat) : Int) := by
  have h := bits_and_u64_nat a 4294967295 ha (by omega)
  have e : a &&& 4294967295 = a % 4294967296 := Nat.and_two_pow_sub_one_eq_mod a 32
  rw [e] at h
  exact h
theorem divN (a : Nat) : (a : Int) / 4294967296 = ((a / 4294967296 : Nat) : Int) := by omega
theorem mulN (a b : Nat) : (a : Int) * (b : Int) = ((a * b : Nat) : Int) := (Int.natCast_mul a b).symm
theorem addN (a b : Nat) : (a : Int) + (b : Int) = ((a + b : Nat) : Int) := (Int.natCast_add a b).symm
theorem wrapN (a : Nat) (ha : a < 18446744073709551616) : IntKind.u64.wrap (a : Int) = (a : Int) := by rw [uwrap]; omega
theorem wrapM (a : Nat) : IntKind.u64.wrap (a : Int) = ((a % 18446744073709551616 : Nat) : Int) := by rw [uwrap]; omega
theorem mul64_f (x y : Nat) (hx : x < 18446744073709551616) (hy : y < 18446744073709551616) : bits_Mul64.f (x : Int) (y : Int) = some (((x * y / 18446744073709551616 : Nat) : Int), ((x * y % 18446744073709551616 : Nat) : Int)) := by
  obtain ⟨bd, bt, bw, hhi⟩ := Lib.mul64_hi x y hx hy
  have ba := Lib.half_mul_le (a := x / 4294967296) (b := y / 4294967296) (by omega) (by omega)
  have bb := Lib.half_mul_le (a := x / 4294967296) (b := y % 4294967296) (by omega) (by omega)
  have bc := Lib.half_mul_le (a := x % 4294967296) (b := y / 4294967296) (by omega) (by omega)
  have ba' : x / 4294967296 * (y / 4294967296) < 18446744073709551616 := by omega
  have bb' : x / 4294967296 * (y % 4294967296) < 18446744073709551616 := by omega
  have bc' : x % 4294967296 * (y / 4294967296) < 18446744073709551616 := by omega
  have bh1 : x / 4294967296 * (y / 4294967296) + (x / 4294967296 * (y % 4294967296) + x % 4294967296 * (y % 4294967296) / 4294967296) / 4294967296 < 18446744073709551616 := by omega
  have bh : x / 4294967296 * (y / 4294967296) + (x / 4294967296 * (y % 4294967296) + x % 4294967296 * (y % 4294967296) / 4294967296) / 4294967296 + ((x / 4294967296 * (y % 4294967296) + x % 4294967296 * (y % 4294967296) / 4294967296) % 4294967296 + x % 4294967296 * (y / 4294967296)) / 4294967296 < 18446744073709551616 := by omega
  unfold bits_Mul64.f
  simp only [maskN x hx, maskN y hy, divN, mulN, addN, wrapN _ bd, wrapN _ bb', wrapN _ bt, maskN _ bt, wrapN _ bc', wrapN _ bw, wrapN _ ba', wrapN _ bh1, wrapN _ bh, wrapM (x * y)]
  rw [hhi]
def awayP (m : Int) (bl : Bool) (q r y : Int) : Bool := if m = 5 then decide (y - r < r) || (r == y - r && q % 2 == 1) else awayAll m bl
def mdQ (a b c : Int) : Int := szI a * szI b / szI c
def mdR (a b c : Int) : Int := szI a * szI b % szI c
def mdN (a b c m : Int) : Int := if 0 < mdR a b c ∧ awayP m (belowB a b c) (mdQ a b c) (mdR a b c) (szI c) = true then mdQ a b c + 1 else mdQ a b c
def mdV (a b c m : Int) : Int × Int := if 1152921504606846976 < mdN a b c m then (0, 3) else (if belowB a b c = true then -mdN a b c m else mdN a b c m, 0)
def mulDiv (a b c m : Int) : Int × Int := if fitsM a = true ∧ fitsM b = true ∧ fitsM c = true ∧ 1 ≤ m ∧ m ≤ 5 then (if c = 0 then (0, 4) else mdV a b c m) else (0, 2)
theorem mdR_rng {a b c : Int} (ha : fitsM a = true) (hb : fitsM b = true) (hc : fitsM c = true) (h0 : c ≠ 0) : 0 ≤ mdQ a b c ∧ 0 ≤ mdR a b c ∧ mdR a b c < szI c ∧ mdQ a b c ≤ szI a * szI b := by
  have ra := szI_rng ha
  have rb := szI_rng hb
  have pc := szI_pos h0
  have hp := Int.mul_nonneg ra.1 rb.1
  unfold mdQ mdR
  refine ⟨Int.ediv_nonneg hp (by omega), Int.emod_nonneg _ (by omega), Int.emod_lt_of_pos _ (by omega), ?_⟩
  exact Int.ediv_le_self _ hp
theorem div64_0 (k : Nat) {lo y : Int} (h1 : 0 ≤ lo) (h2 : lo < 18446744073709551616) (hy : 1 ≤ y) : bits_Div64.f k 0 lo y = some (lo / y, lo % y) := by
  unfold bits_Div64.f
  have e1 := Int.tdiv_eq_ediv_of_nonneg (b := y) h1
  have e2 := Int.tmod_eq_emod_of_nonneg (b := y) h1
  have b1 := Int.ediv_nonneg h1 (show 0 ≤ y by omega)
  have b2 := Int.ediv_le_self y h1
  rw [if_neg (by omega), if_neg (by omega), if_pos rfl, e1, e2, u_id (by omega) (by omega)]
theorem signed_f {q : Int} (bl : Bool) (h : 0 ≤ q) (h2 : q ≤ 2305843009213693953) : cents_signed.f q bl = some (if 1152921504606846976 < q then (0, 3) else (if bl = true then -q else q, 0)) := by
  unfold cents_signed.f
  by_cases c : q > 1152921504606846976
  · rw [if_pos c, if_pos (show 1152921504606846976 < q from c)]
  · rw [if_neg c, if_neg (show ¬ 1152921504606846976 < q from c)]
    have e : wrap64 q = q := w_id (by omega) (by omega)
    have e2 : wrap64 (-q) = -q := w_id (by omega) (by omega)
    rw [e, e2]
    cases bl <;> rfl
theorem awayB_P {m : Int} {bl : Bool} {q r y : Int} (hq : 0 ≤ q) (hr : 0 ≤ r) (hry : r < y) (hy : y ≤ 1152921504606846976) : awayB m bl q r y = awayP m bl q r y := by
  unfold awayB awayP
  have e : IntKind.u64.wrap (y - r) = y - r := u_id (by omega) (by omega)
  have e2 := Int.tmod_eq_emod_of_nonneg (b := 2) hq
  rw [e, e2]
theorem mulDiv_f (k : Nat) (a b c m : Int) (h : szI a * szI b < 18446744073709551616) : cents_MulDiv.f k a b c m = some (mulDiv a b c m) := by
  unfold cents_MulDiv.f mulDiv
  simp only [fitsM_f, Option.bind_some]
  by_cases c1 : fitsM a = true ∧ fitsM b = true ∧ fitsM c = true ∧ 1 ≤ m ∧ m ≤ 5
  · rw [if_pos c1, if_pos c1]
    obtain ⟨ha, hb, hc, hm1, hm2⟩ := c1
    by_cases c2 : c = 0
    · rw [if_pos c2, if_pos c2]
    · rw [if_neg c2, if_neg c2, size_f ha, size_f hb, size_f hc]
      simp only [Option.bind_some]
      have ra := szI_rng ha
      have rb := szI_rng hb
      have rc := szI_rng hc
      have pc := szI_pos c2
      have hR := mdR_rng ha hb hc c2
      have hp := Int.mul_nonneg ra.1 rb.1
      have e0 : bits_Mul64.f (szI a) (szI b) = some (0, szI a * szI b) := by
        obtain ⟨x, hx⟩ : ∃ x : Nat, szI a = (x : Int) := ⟨(szI a).toNat, by omega⟩
        obtain ⟨y, hy⟩ : ∃ y : Nat, szI b = (y : Int) := ⟨(szI b).toNat, by omega⟩
        rw [hx, hy] at h
        rw [hx, hy, mul64_f x y (by omega) (by omega)]
        rw [mulN] at h ⊢
        have hxy : x * y < 18446744073709551616 := by omega
        rw [Nat.div_eq_of_lt hxy, Nat.mod_eq_of_lt hxy]
        rfl
      rw [e0]
      simp only [Option.bind_some]
      rw [if_neg (by omega), div64_0 k hp h pc]
      simp only [Option.bind_some]
      show (if 1152921504606846976 < mdQ a b c then some (0, 3) else cents_signed.f (if 0 < mdR a b c ∧ awayB m (belowB a b c) (mdQ a b c) (mdR a b c) (szI c) = true then IntKind.u64.wrap (mdQ a b c + 1) else mdQ a b c) (belowB a b c)) = some (mdV a b c m)
      rw [awayB_P hR.1 hR.2.1 hR.2.2.1 rc.2]
      unfold mdV
      by_cases c3 : 1152921504606846976 < mdQ a b c
      · have : 1152921504606846976 < mdN a b c m := by unfold mdN; split <;> omega
        rw [if_pos c3, if_pos this]
      · rw [if_neg c3]
        have e1 : IntKind.u64.wrap (mdQ a b c + 1) = mdQ a b c + 1 := u_id (by omega) (by omega)
        rw [e1]
        show cents_signed.f (mdN a b c m) (belowB a b c) = _
        have : 0 ≤ mdN a b c m ∧ mdN a b c m ≤ 1152921504606846977 := by unfold mdN; split <;> omega
        rw [signed_f _ this.1 (by omega)]
  · rw [if_neg c1, if_neg c1]
def cap61 (n : Int) : Int := if n > 2305843009213693952 then 2305843009213693952 else n
theorem step61 {N b c t N' : Int} (hc : 0 < c) (hN : 0 ≤ N) (hb : 0 ≤ b) (hN' : N' = 2 * N + b) (ht : t = (2 * (N % c) + b)) : cap61 (2 * cap61 (N / c) + t / c) = cap61 (N' / c) ∧ t % c = N' % c := by
  have hd := Int.mul_ediv_add_emod N c
  have h1 : N' = t + c * (2 * (N / c)) := by
    have e : c * (2 * (N / c)) = 2 * (c * (N / c)) := by rw [Int.mul_left_comm]
    rw [e]; omega
  have h2 : N' / c = t / c + 2 * (N / c) := by rw [h1, Int.add_mul_ediv_left _ _ (by omega)]
  have h3 : N' % c = t % c := by rw [h1, Int.add_mul_emod_self_left]
  have ht0 : 0 ≤ t / c := Int.ediv_nonneg (by have := Int.emod_nonneg N (show c ≠ 0 by omega); omega) (by omega)
  have hq0 : 0 ≤ N / c := Int.ediv_nonneg hN (by omega)
  refine ⟨?_, h3.symm⟩
  rw [h2]
  unfold cap61
  generalize N / c = u at *
  generalize t / c = v at *
  repeat' split
  all_goals omega
theorem quotLoop (a b c : Int) (ha : 0 ≤ a ∧ a ≤ 1152921504606846976) (hb : 0 ≤ b ∧ b ≤ 1152921504606846976) (hc : 1 ≤ c ∧ c ≤ 1152921504606846976) : ∀ (n : Nat), n ≤ 61 →
    Ev (fun k => contangoref01_quotient.l0 k a b c (cap61 (a / 2 ^ n * b / c)) (a / 2 ^ n * b % c) ((n : Int) - 1)) (cap61 (a * b / c), a * b % c)
  | 0, _ => by
    refine Ev_succ ?_
    simp only [contangoref01_quotient.l0, if_neg (show ¬ (((0 : Nat) : Int) - 1 ≥ 0) by omega)]
    have e : a / 2 ^ 0 = a := by rw [Int.pow_zero, Int.ediv_one]
    rw [e]
    exact Ev.now _
  | n + 1, hn => by
    have ih := quotLoop a b c ha hb hc n (by omega)
    have en : ((n + 1 : Nat) : Int) - 1 = (n : Int) := by omega
    have eu : IntKind.u64.wrap (n : Int) = (n : Int) := u_id (by omega) (by omega)
    have ew : wrap64 ((n : Int) - 1) = (n : Int) - 1 := w_id (by omega) (by omega)
    have esh : shr .i64 a (n : Int) = a / 2 ^ n := shr_small rfl (by show (n : Int) ≤ ((64 : Nat) : Int); omega) |>.symm
    have hpow : (2 : Int) ^ (n + 1) = 2 ^ n * 2 := Int.pow_succ 2 n
    have hp1 : 0 < (2 : Int) ^ n := Int.pow_pos (by omega)
    have hA0 : 0 ≤ a / 2 ^ n := Int.ediv_nonneg ha.1 (by omega)
    have hA : a / 2 ^ (n + 1) = a / 2 ^ n / 2 := by rw [hpow, Int.ediv_ediv_of_nonneg (by omega)]
    have hA1 : 0 ≤ a / 2 ^ (n + 1) := by rw [hA]; omega
    obtain ⟨A, hAd⟩ : ∃ A, a / 2 ^ n = A := ⟨_, rfl⟩
    rw [hAd] at ih esh hA hA0
    have hN0 : 0 ≤ A / 2 * b := Int.mul_nonneg (by omega) hb.1
    have hr1 := Int.emod_nonneg (A / 2 * b) (show c ≠ 0 by omega)
    have hr2 := Int.emod_lt_of_pos (A / 2 * b) (show 0 < c by omega)
    have hq0 : 0 ≤ A / 2 * b / c := Int.ediv_nonneg hN0 (by omega)
    have hcap : 0 ≤ cap61 (A / 2 * b / c) ∧ cap61 (A / 2 * b / c) ≤ 2305843009213693952 := by unfold cap61; split <;> omega
    have etm := Int.tmod_eq_emod_of_nonneg (b := 2) hA0
    rw [hA, en]
    refine Ev_succ ?_
    simp only [contangoref01_quotient.l0, if_pos (show (n : Int) ≥ 0 by omega), eu, if_pos (show 0 ≤ (n : Int) by omega), esh, etm, if_neg (show ¬ c = 0 by omega), ew]
    have key : ∀ t : Int, 0 ≤ t → t ≤ 3458764513820540928 → (∃ bb, 0 ≤ bb ∧ A * b = 2 * (A / 2 * b) + bb ∧ t = 2 * (A / 2 * b % c) + bb) →
        Ev (fun k => if wrap64 (wrap64 (2 * cap61 (A / 2 * b / c)) + wrap64 (t.tdiv c)) > 2305843009213693952 then contangoref01_quotient.l0 k a b c 2305843009213693952 (t.tmod c) ((n : Int) - 1) else contangoref01_quotient.l0 k a b c (wrap64 (wrap64 (2 * cap61 (A / 2 * b / c)) + wrap64 (t.tdiv c))) (t.tmod c) ((n : Int) - 1)) (cap61 (a * b / c), a * b % c) := by
      rintro t t0 t1 ⟨bb, hbb, hAb, ht⟩
      obtain ⟨s1, s2⟩ := step61 (by omega) hN0 hbb hAb ht
      have d1 : t.tdiv c = t / c := Int.tdiv_eq_ediv_of_nonneg t0
      have d2 : t.tmod c = t % c := Int.tmod_eq_emod_of_nonneg t0
      have d3 := Int.ediv_nonneg t0 (show 0 ≤ c by omega)
      have d4 := Int.ediv_le_self c t0
      have e1 : wrap64 (2 * cap61 (A / 2 * b / c)) = 2 * cap61 (A / 2 * b / c) := w_id (by omega) (by omega)
      have e2 : wrap64 (t / c) = t / c := w_id (by omega) (by omega)
      have e3 : wrap64 (2 * cap61 (A / 2 * b / c) + t / c) = 2 * cap61 (A / 2 * b / c) + t / c := w_id (by omega) (by omega)
      rw [d1, d2, e1, e2, e3, s2]
      have hs : cap61 (2 * cap61 (A / 2 * b / c) + t / c) = if 2 * cap61 (A / 2 * b / c) + t / c > 2305843009213693952 then 2305843009213693952 else 2 * cap61 (A / 2 * b / c) + t / c := rfl
      by_cases cc : 2 * cap61 (A / 2 * b / c) + t / c > 2305843009213693952
      · rw [if_pos cc] at hs
        simp only [if_pos cc]
        rw [← s1, hs] at ih
        exact ih
      · rw [if_neg cc] at hs
        simp only [if_neg cc]
        rw [← s1, hs] at ih
        exact ih
    have e4 : wrap64 (2 * (A / 2 * b % c)) = 2 * (A / 2 * b % c) := w_id (by omega) (by omega)
    have e5 : wrap64 (2 * (A / 2 * b % c) + b) = 2 * (A / 2 * b % c) + b := w_id (by omega) (by omega)
    simp only [e4, e5]
    by_cases cb : A % 2 = 1
    · simp only [if_pos cb]
      refine key _ (by omega) (by omega) ⟨b, hb.1, ?_, rfl⟩
      have : A = 2 * (A / 2) + 1 := by omega
      calc A * b = (2 * (A / 2) + 1) * b := by rw [← this]
        _ = 2 * (A / 2 * b) + b := by rw [Int.add_mul, Int.one_mul, Int.mul_assoc]
    · simp only [if_neg cb]
      refine key _ (by omega) (by omega) ⟨0, Int.le_refl _, ?_, by omega⟩
      have : A = 2 * (A / 2) := by omega
      calc A * b = (2 * (A / 2)) * b := by rw [← this]
        _ = 2 * (A / 2 * b) + 0 := by rw [Int.mul_assoc, Int.add_zero]
theorem quot_f {a b c : Int} (ha : 0 ≤ a ∧ a ≤ 1152921504606846976) (hb : 0 ≤ b ∧ b ≤ 1152921504606846976) (hc : 1 ≤ c ∧ c ≤ 1152921504606846976) : Ev (fun k => contangoref01_quotient.f k a b c) (cap61 (a * b / c), a * b % c) := by
  have h := quotLoop a b c ha hb hc 61 (Nat.le_refl _)
  have e : a / 2 ^ 61 = 0 := Int.ediv_eq_zero_of_lt ha.1 (by have : (2 : Int) ^ 61 = 2305843009213693952 := by decide
                                                             omega)
  rw [e, Int.zero_mul, Int.zero_ediv, Int.zero_emod] at h
  exact h
theorem awayR_f {m : Int} {bl : Bool} {q r y : Int} (hm : 1 ≤ m ∧ m ≤ 5) (hq : 0 ≤ q) (hr : 0 ≤ r) (hry : r < y) (hy : y ≤ 1152921504606846976) : contangoref01_away.f q r y m bl = some (awayP m bl q r y) := by
  have e : wrap64 (y - r) = y - r := w_id (by omega) (by omega)
  have e2 := Int.tmod_eq_emod_of_nonneg (b := 2) hq
  unfold contangoref01_away.f awayP
  rw [e, e2]
  by_cases c2 : m = 2
  · subst c2; rfl
  · rw [if_neg c2]
    by_cases c3 : m = 3
    · subst c3; cases bl <;> rfl
    · rw [if_neg c3]
      by_cases c4 : m = 4
      · subst c4; cases bl <;> rfl
      · rw [if_neg c4]
        by_cases c5 : m = 5
        · rw [if_pos c5, if_pos c5]
          by_cases d1 : r > y - r
          · rw [if_pos d1, decide_eq_true (show y - r < r from d1), Bool.true_or]
          · rw [if_neg d1, decide_eq_false (show ¬ y - r < r from d1), Bool.false_or]
            by_cases d2 : r = y - r
            · rw [if_pos d2, beq_iff_eq.2 d2, Bool.true_and]
            · rw [if_neg d2, beq_eq_false_iff_ne.2 d2, Bool.false_and]
        · rw [if_neg c5, if_neg c5]
          unfold awayAll
          rw [beq_eq_false_iff_ne.2 c2, beq_eq_false_iff_ne.2 c3, beq_eq_false_iff_ne.2 c4]
          rfl
theorem j2R_f {q : Int} (bl : Bool) (h : 0 ≤ q) (h2 : q ≤ 2305843009213693953) : Ev (fun k => contangoref01_MulDiv.j2 k q bl) (if 1152921504606846976 < q then (0, 3) else (if bl = true then -q else q, 0)) := by
  refine Ev_succ ?_
  by_cases c : q > 1152921504606846976
  · rw [if_pos (show 1152921504606846976 < q from c)]
    simp only [contangoref01_MulDiv.j2, if_pos c]
    exact Ev.now _
  · rw [if_neg (show ¬ 1152921504606846976 < q from c)]
    have e2 : wrap64 (-q) = -q := w_id (by omega) (by omega)
    simp only [contangoref01_MulDiv.j2, if_neg c, e2]
    cases bl
    · simp only [Bool.false_eq_true, if_false]; exact Ev.now _
    · simp only [if_true]; exact Ev.now _
theorem j1R_f {q : Int} (bl u : Bool) (h : 0 ≤ q) (h2 : q ≤ 2305843009213693952) : Ev (fun k => contangoref01_MulDiv.j1 k q bl u) (if 1152921504606846976 < (if u = true then q + 1 else q) then (0, 3) else (if bl = true then -(if u = true then q + 1 else q) else (if u = true then q + 1 else q), 0)) := by
  refine Ev_succ ?_
  have e : wrap64 (q + 1) = q + 1 := w_id (by omega) (by omega)
  cases u
  · simp only [contangoref01_MulDiv.j1, Bool.false_eq_true, if_false]
    exact j2R_f bl h (by omega)
  · simp only [contangoref01_MulDiv.j1, if_true, e]
    exact j2R_f bl (by omega) (by omega)
theorem mulDivR_f (a b c m : Int) : Ev (fun k => contangoref01_MulDiv.f k a b c m) (mulDiv a b c m) := by
  unfold contangoref01_MulDiv.f mulDiv
  have bad : Ev (fun k => contangoref01_MulDiv.j0 k a b c m true) (0, 2) := by
    refine Ev_succ ?_
    simp only [contangoref01_MulDiv.j0, if_true]
    exact Ev.now _
  simp only [fitsMR_f, Option.bind_some]
  by_cases ha : fitsM a = true
  case neg => rw [if_neg (fun h => ha h.1)]; simp only [if_neg ha]; exact bad
  by_cases hb : fitsM b = true
  case neg => rw [if_neg (fun h => hb h.2.1)]; simp only [if_pos ha, if_neg hb]; exact bad
  by_cases hc : fitsM c = true
  case neg => rw [if_neg (fun h => hc h.2.2.1)]; simp only [if_pos ha, if_pos hb, if_neg hc]; exact bad
  simp only [if_pos ha, if_pos hb, if_pos hc]
  by_cases hm1 : m < 1
  · rw [if_neg (by omega)]; simp only [if_pos hm1]; exact bad
  simp only [if_neg hm1]
  by_cases hm2 : m > 5
  · rw [if_neg (by omega), decide_eq_true hm2]; exact bad
  rw [if_pos ⟨ha, hb, hc, by omega, by omega⟩, decide_eq_false hm2]
  refine Ev_succ ?_
  simp only [contangoref01_MulDiv.j0, Bool.false_eq_true, if_false]
  by_cases c0 : c = 0
  · rw [if_pos c0]; simp only [if_pos c0]; exact Ev.now _
  rw [if_neg c0]
  simp only [if_neg c0, sizeR_f ha, sizeR_f hb, sizeR_f hc, Option.bind_some]
  have ra := szI_rng ha
  have rb := szI_rng hb
  have rc := szI_rng hc
  have pc := szI_pos c0
  have hR := mdR_rng ha hb hc c0
  refine Ev_bind (quot_f ra rb ⟨pc, rc.2⟩) ?_
  have ebl : (!((!((decide (a < 0)) == (decide (b < 0)))) == (decide (c < 0)))) = belowB a b c := rfl
  have ebl2 : (((decide (a < 0)) != (decide (b < 0))) != (decide (c < 0))) = belowB a b c := rfl
  simp only [ebl, ebl2]
  show Ev (fun k => if mdR a b c > 0 then (contangoref01_away.f (cap61 (mdQ a b c)) (mdR a b c) (szI c) m (belowB a b c)).bind fun t => contangoref01_MulDiv.j1 k (cap61 (mdQ a b c)) (belowB a b c) t else contangoref01_MulDiv.j1 k (cap61 (mdQ a b c)) (belowB a b c) false) (mdV a b c m)
  have hcap : 0 ≤ cap61 (mdQ a b c) ∧ cap61 (mdQ a b c) ≤ 2305843009213693952 ∧ (1152921504606846976 < cap61 (mdQ a b c) ↔ 1152921504606846976 < mdQ a b c) ∧ (mdQ a b c ≤ 1152921504606846976 → cap61 (mdQ a b c) = mdQ a b c) := by
    unfold cap61; split
    · refine ⟨by omega, by omega, by omega, by omega⟩
    · refine ⟨by omega, by omega, by omega, by omega⟩
  unfold mdV mdN
  by_cases h0 : mdR a b c > 0
  · simp only [if_pos h0, awayR_f (bl := belowB a b c) ⟨show 1 ≤ m by omega, show m ≤ 5 by omega⟩ hcap.1 hR.2.1 hR.2.2.1 rc.2, Option.bind_some]
    have := j1R_f (belowB a b c) (awayP m (belowB a b c) (cap61 (mdQ a b c)) (mdR a b c) (szI c)) hcap.1 hcap.2.1
    by_cases hbig : 1152921504606846976 < mdQ a b c
    · have hb1 := hcap.2.2.1.2 hbig
      rw [if_pos (by split <;> omega)] at this
      rw [if_pos (by split <;> omega)]
      exact this
    · rw [hcap.2.2.2 (by omega)] at this ⊢
      have e : (0 < mdR a b c ∧ awayP m (belowB a b c) (mdQ a b c) (mdR a b c) (szI c) = true) = (awayP m (belowB a b c) (mdQ a b c) (mdR a b c) (szI c) = true) := propext ⟨fun h => h.2, fun h => ⟨h0, h⟩⟩
      simp only [e]
      exact this
  · simp only [if_neg h0]
    have := j1R_f (belowB a b c) false hcap.1 hcap.2.1
    have e : (0 < mdR a b c ∧ awayP m (belowB a b c) (mdQ a b c) (mdR a b c) (szI c) = true) = False := propext ⟨fun h => h0 h.1, False.elim⟩
    simp only [e, if_false]
    simp only [Bool.false_eq_true, if_false] at this
    by_cases hbig : 1152921504606846976 < mdQ a b c
    · have hb1 := hcap.2.2.1.2 hbig
      rw [if_pos hb1] at this
      rw [if_pos hbig]
      exact this
    · rw [hcap.2.2.2 (by omega)] at this ⊢
      exact this
end Go.Proofs.Ytocndpddghefhaa.P
end
section
namespace Go.Proofs.Ytocndpddghefhaa.P
set_option linter.unusedVariables false
set_option linter.unusedSimpArgs false
open Go.RowKit Go.Proofs.YtocndpddghefhaaW.PrintWords Go.Proofs.YtocndpddghefhaaW.PrintMore Go.Proofs.Ytocndpddghefhaa.X
abbrev Tick := S49
theorem rdTick (l : List Tick) (i : Nat) (h : i < l.length) : rd_T49 l (i : Int) = l[i] := by simp [rd_T49, h]
def tkGo : Int → List Tick → Int
  | _, [] => 0
  | at_, t :: r => if tickErr at_ t = 0 then tkGo t.f0 r else tickErr at_ t
def tkCheck (l : List Tick) : Int := if 1024 < l.length then 8 else tkGo 0 l
theorem goAll_check : ∀ (l : List Tick) (a : Int), (goAll tickStep l (a, 0)).2 = tkGo a l
  | [], a => rfl
  | t :: r, a => by
    rw [goAll_step, tkGo]
    have e1 : (tickStep t (a, 0)).2 = (tickErr a t == 0) := rfl
    have e2 : (tickStep t (a, 0)).1 = (t.f0, tickErr a t) := rfl
    rw [e1, e2]
    by_cases c : tickErr a t = 0
    · rw [if_pos c, if_pos (beq_iff_eq.2 c), c]
      exact goAll_check r t.f0
    · rw [if_neg c, if_neg (by simpa using c)]
theorem tkCheck_f (l : List Tick) : tape_Check.f l = some (tkCheck l) := by
  unfold tape_Check.f tkCheck
  by_cases c : 1024 < l.length
  · rw [if_pos c, if_pos (show (1024 : Int) < (l.length : Int) by omega)]
  · rw [if_neg c, if_neg (show ¬ (1024 : Int) < (l.length : Int) by omega), goAll_check]
theorem tkRLoop (l : List Tick) (hl : l.length ≤ 1024) : ∀ (d i : Nat) (at_ : Int), i + d = l.length → (i = 0 → at_ = 0) → (∀ (h : 0 < i) (h2 : i - 1 < l.length), at_ = l[i - 1].f0 ∧ 0 ≤ at_) → Ev (fun k => contangoref17_Check.l0 k l i) (tkGo at_ (l.drop i))
  | 0, i, at_, hd, h0, h1 => by
    rw [List.drop_of_length_le (by omega)]
    refine Ev_succ ?_
    simp only [contangoref17_Check.l0, if_neg (show ¬ ((i : Int) < (l.length : Int)) by omega)]
    exact Ev.now _
  | d + 1, i, at_, hd, h0, h1 => by
    have hi : i < l.length := by omega
    have ih := tkRLoop l hl d (i + 1) l[i].f0 (by omega) (by omega)
    rw [drop_cons l i hi, tkGo]
    have hj2 : ∀ b, (b = true ↔ (l[i].f1 < 1 ∨ l[i].f1 > 1048576)) → ¬ (l[i].f0 < at_ ∨ 86399 < l[i].f0) → 0 ≤ l[i].f0 → Ev (fun k => contangoref17_Check.j2 k l i b) (if tickErr at_ l[i] = 0 then tkGo l[i].f0 (l.drop (i + 1)) else tickErr at_ l[i]) := by
      intro b hb hn hp
      refine Ev_succ ?_
      by_cases c : b = true
      · subst c
        have e : tickErr at_ l[i] = 18 := by unfold tickErr; rw [if_neg hn, if_pos (by have := hb.1 rfl; omega)]
        rw [e, if_neg (by decide)]
        simp only [contangoref17_Check.j2, if_true]
        exact Ev.now _
      · have cf : b = false := by simpa using c
        subst cf
        have hq : ¬ (l[i].f1 < 1 ∨ 1048576 < l[i].f1) := fun h => c (hb.2 h)
        simp only [contangoref17_Check.j2, Bool.false_eq_true, if_false, if_pos (show 0 ≤ (i : Int) by omega), if_pos (show (i : Int) < (l.length : Int) by omega), rdTick l i hi]
        by_cases c1 : l[i].f2 < -16777216
        · have e : tickErr at_ l[i] = 17 := by unfold tickErr; rw [if_neg hn, if_neg hq, if_pos (Or.inl c1)]
          rw [e, if_neg (by decide)]
          simp only [if_pos c1]
          exact Ev.now _
        · by_cases c2 : l[i].f2 > 16777216
          · have e : tickErr at_ l[i] = 17 := by unfold tickErr; rw [if_neg hn, if_neg hq, if_pos (Or.inr c2)]
            rw [e, if_neg (by decide)]
            simp only [if_neg c1, if_pos c2]
            exact Ev.now _
          · have e : tickErr at_ l[i] = 0 := by unfold tickErr; rw [if_neg hn, if_neg hq, if_neg (by omega)]
            rw [e, if_pos rfl]
            simp only [if_neg c1, if_neg c2, w_succ hi (show l.length ≤ 9223372036854775807 by omega)]
            exact ih (fun _ _ => ⟨by simp, hp⟩)
    have hj1 : ∀ b, (b = true ↔ (l[i].f0 < at_ ∨ 86399 < l[i].f0)) → 0 ≤ at_ → Ev (fun k => contangoref17_Check.j1 k l i b) (if tickErr at_ l[i] = 0 then tkGo l[i].f0 (l.drop (i + 1)) else tickErr at_ l[i]) := by
      intro b hb h0
      refine Ev_succ ?_
      by_cases c : b = true
      · subst c
        have e : tickErr at_ l[i] = 2 := by unfold tickErr; rw [if_pos (hb.1 rfl)]
        rw [e, if_neg (by decide)]
        simp only [contangoref17_Check.j1, if_true]
        exact Ev.now _
      · have cf : b = false := by simpa using c
        subst cf
        have hq : ¬ (l[i].f0 < at_ ∨ 86399 < l[i].f0) := fun h => c (hb.2 h)
        simp only [contangoref17_Check.j1, Bool.false_eq_true, if_false, if_pos (show 0 ≤ (i : Int) by omega), if_pos (show (i : Int) < (l.length : Int) by omega), rdTick l i hi]
        by_cases c1 : l[i].f1 < 1
        · simp only [if_pos c1]
          exact hj2 true (by simp [c1]) hq (by omega)
        · simp only [if_neg c1]
          refine hj2 _ ?_ hq (by omega)
          rw [decide_eq_true_iff]
          exact ⟨Or.inr, fun h => h.resolve_left c1⟩
    refine Ev_succ ?_
    have hat : 0 ≤ at_ := by
      by_cases e : i = 0
      · rw [h0 e]; exact Int.le_refl _
      · exact (h1 (by omega) (by omega)).2
    simp only [contangoref17_Check.l0, if_pos (show (i : Int) < (l.length : Int) by omega), if_pos (show 0 ≤ (i : Int) by omega), rdTick l i hi]
    by_cases c1 : l[i].f0 < 0
    · simp only [if_pos c1]
      exact hj1 true ⟨fun _ => Or.inl (by omega), fun _ => rfl⟩ hat
    · by_cases c2 : l[i].f0 > 86399
      · simp only [if_neg c1, if_pos c2]
        exact hj1 true ⟨fun _ => Or.inr c2, fun _ => rfl⟩ hat
      · simp only [if_neg c1, if_neg c2]
        by_cases c3 : 0 < i
        · obtain ⟨ha, ha2⟩ := h1 c3 (by omega)
          simp only [if_pos (show (i : Int) > 0 by omega), w_pred c3 (by omega), if_pos (show 0 ≤ ((i - 1 : Nat) : Int) by omega), if_pos (show ((i - 1 : Nat) : Int) < (l.length : Int) by omega), rdTick l (i - 1) (by omega)]
          refine hj1 _ ?_ hat
          rw [decide_eq_true_iff, ← ha]
          exact ⟨Or.inl, fun h => h.resolve_right (by omega)⟩
        · simp only [if_neg (show ¬ (i : Int) > 0 by omega)]
          refine hj1 false ?_ hat
          have := h0 (by omega)
          refine ⟨fun h => (by cases h), fun h => ?_⟩
          omega
theorem tkCheckR_f (l : List Tick) : Ev (fun k => contangoref17_Check.f k l) (tkCheck l) := by
  unfold contangoref17_Check.f tkCheck
  by_cases c : 1024 < l.length
  · rw [if_pos c]; simp only [if_pos (show (l.length : Int) > 1024 by omega)]; exact Ev.now _
  · rw [if_neg c]
    simp only [if_neg (show ¬ (l.length : Int) > 1024 by omega)]
    exact tkRLoop l (by omega) l.length 0 0 (by omega) (fun _ => rfl) (fun h => by omega)
def TkOk (t : Tick) : Prop := 0 ≤ t.f0 ∧ t.f0 ≤ 86399 ∧ 1 ≤ t.f1 ∧ t.f1 ≤ 1048576 ∧ -16777216 ≤ t.f2 ∧ t.f2 ≤ 16777216
theorem tickErr_zero {a : Int} {t : Tick} (h : tickErr a t = 0) : a ≤ t.f0 ∧ t.f0 ≤ 86399 ∧ 1 ≤ t.f1 ∧ t.f1 ≤ 1048576 ∧ -16777216 ≤ t.f2 ∧ t.f2 ≤ 16777216 := by
  unfold tickErr at h
  by_cases c1 : t.f0 < a ∨ 86399 < t.f0
  · rw [if_pos c1] at h; omega
  · rw [if_neg c1] at h
    by_cases c2 : t.f1 < 1 ∨ 1048576 < t.f1
    · rw [if_pos c2] at h; omega
    · rw [if_neg c2] at h
      by_cases c3 : t.f2 < -16777216 ∨ 16777216 < t.f2
      · rw [if_pos c3] at h; omega
      · omega
theorem tickErr_ok {a : Int} {t : Tick} (h : a ≤ t.f0) (h2 : TkOk t) : tickErr a t = 0 := by
  unfold TkOk at h2
  unfold tickErr
  rw [if_neg (by omega), if_neg (by omega), if_neg (by omega)]
theorem tkGo_zero : ∀ (l : List Tick) (a : Int), 0 ≤ a → (tkGo a l = 0 ↔ (∀ t ∈ l, TkOk t) ∧ (∀ t ∈ l, a ≤ t.f0) ∧ l.Pairwise (fun x y => x.f0 ≤ y.f0))
  | [], a, _ => by simp [tkGo]
  | t :: r, a, ha => by
    rw [tkGo]
    constructor
    · intro h
      by_cases c : tickErr a t = 0
      · rw [if_pos c] at h
        have hz := tickErr_zero c
        obtain ⟨h1, h2, h3⟩ := (tkGo_zero r t.f0 (by omega)).1 h
        refine ⟨fun x hx => ?_, fun x hx => ?_, List.pairwise_cons.2 ⟨h2, h3⟩⟩
        · rcases List.mem_cons.1 hx with e | e
          · rw [e]; unfold TkOk; omega
          · exact h1 x e
        · rcases List.mem_cons.1 hx with e | e
          · rw [e]; exact hz.1
          · have := h2 x e; omega
      · rw [if_neg c] at h; exact absurd h c
    · rintro ⟨h1, h2, h3⟩
      obtain ⟨h4, h5⟩ := List.pairwise_cons.1 h3
      have ht := h1 t (by simp)
      rw [if_pos (tickErr_ok (h2 t (by simp)) ht)]
      exact (tkGo_zero r t.f0 ht.1).2 ⟨fun x hx => h1 x (by simp [hx]), h4, h5⟩
theorem tkCheck_zero (l : List Tick) : tkCheck l = 0 ↔ l.length ≤ 1024 ∧ (∀ t ∈ l, TkOk t) ∧ l.Pairwise (fun x y => x.f0 ≤ y.f0) := by
  unfold tkCheck
  by_cases c : 1024 < l.length
  · rw [if_pos c]; exact ⟨fun h => by omega, fun h => by omega⟩
  · rw [if_neg c, tkGo_zero l 0 (Int.le_refl _)]
    exact ⟨fun h => ⟨by omega, h.1, h.2.2⟩, fun h => ⟨h.2.1, fun t ht => (h.2.1 t ht).1, h.2.2⟩⟩
def qtyS : List Tick → Int
  | [] => 0
  | t :: r => t.f1 + qtyS r
def pqS : List Tick → Int
  | [] => 0
  | t :: r => t.f2 * t.f1 + pqS r
theorem mul_tk {t : Tick} (h : TkOk t) : -17592186044416 ≤ t.f2 * t.f1 ∧ t.f2 * t.f1 ≤ 17592186044416 := by
  obtain ⟨_, _, h3, h4, h5, h6⟩ := h
  have e1 := Int.mul_le_mul_of_nonneg_right h6 (show 0 ≤ t.f1 by omega)
  have e2 := Int.mul_le_mul_of_nonneg_right h5 (show 0 ≤ t.f1 by omega)
  omega
theorem qtyS_rng : ∀ (l : List Tick), (∀ t ∈ l, TkOk t) → (l.length : Int) ≤ qtyS l ∧ qtyS l ≤ 1048576 * (l.length : Int)
  | [], _ => by simp [qtyS]
  | t :: r, h => by
    have h1 := h t (by simp)
    unfold TkOk at h1
    have h2 := qtyS_rng r fun x hx => h x (by simp [hx])
    simp only [qtyS, List.length_cons]; omega
theorem pqS_rng : ∀ (l : List Tick), (∀ t ∈ l, TkOk t) → -(17592186044416 * (l.length : Int)) ≤ pqS l ∧ pqS l ≤ 17592186044416 * (l.length : Int)
  | [], _ => by simp [pqS]
  | t :: r, h => by
    have h1 := mul_tk (h t (by simp))
    have h2 := pqS_rng r fun x hx => h x (by simp [hx])
    simp only [pqS, List.length_cons]; omega
theorem vol_go : ∀ (l : List Tick) (s : Int), (∀ t ∈ l, TkOk t) → 0 ≤ s → s + 1048576 * (l.length : Int) ≤ 4611686018427387904 → goAll volStep l s = s + qtyS l
  | [], s, _, _, _ => by simp [goAll, qtyS]
  | t :: r, s, h, h0, h1 => by
    have ht := h t (by simp)
    unfold TkOk at ht
    rw [goAll_step]
    have e1 : (volStep t s).2 = true := rfl
    have e2 : (volStep t s).1 = wrap64 (s + t.f1) := rfl
    simp only [List.length_cons] at h1
    rw [e1, e2, if_pos rfl, w_id (by omega) (by omega), vol_go r _ (fun x hx => h x (by simp [hx])) (by omega) (by omega)]
    simp only [qtyS]; omega
theorem pq_go : ∀ (l : List Tick) (s : Int), (∀ t ∈ l, TkOk t) → -4611686018427387904 ≤ s - 17592186044416 * (l.length : Int) → s + 17592186044416 * (l.length : Int) ≤ 4611686018427387904 → goAll vwapStep l s = s + pqS l
  | [], s, _, _, _ => by simp [goAll, pqS]
  | t :: r, s, h, h0, h1 => by
    have ht := mul_tk (h t (by simp))
    rw [goAll_step]
    have e1 : (vwapStep t s).2 = true := rfl
    have e2 : (vwapStep t s).1 = wrap64 (s + wrap64 (t.f2 * t.f1)) := rfl
    simp only [List.length_cons] at h0 h1
    have e3 : wrap64 (t.f2 * t.f1) = t.f2 * t.f1 := w_id (by omega) (by omega)
    rw [e1, e2, if_pos rfl, e3, w_id (by omega) (by omega), pq_go r _ (fun x hx => h x (by simp [hx])) (by omega) (by omega)]
    simp only [pqS]; omega
def tkVolume (l : List Tick) : Int × Int := if tkCheck l = 0 then (qtyS l, 0) else (0, tkCheck l)
theorem tkVolume_f (l : List Tick) : tape_Volume.f l = some (tkVolume l) := by
  unfold tape_Volume.f tkVolume
  rw [tkCheck_f]
  simp only [Option.bind_some]
  by_cases c : tkCheck l = 0
  · obtain ⟨h1, h2, h3⟩ := (tkCheck_zero l).1 c
    rw [if_pos c, if_pos c, vol_go l 0 h2 (Int.le_refl _) (by omega), Int.zero_add]
  · rw [if_neg c, if_neg c]
theorem volRLoop (l : List Tick) (hl : l.length ≤ 1024) (hok : ∀ t ∈ l, TkOk t) : ∀ (d i : Nat) (s : Int), i + d = l.length → 0 ≤ s → s ≤ 1048576 * (i : Int) → Ev (fun k => contangoref17_Volume.l0 k l s i) (s + qtyS (l.drop i), 0)
  | 0, i, s, hd, h0, h1 => by
    rw [List.drop_of_length_le (by omega)]
    refine Ev_succ ?_
    simp only [contangoref17_Volume.l0, if_neg (show ¬ ((i : Int) < (l.length : Int)) by omega), qtyS, Int.add_zero]
    exact Ev.now _
  | d + 1, i, s, hd, h0, h1 => by
    have hi : i < l.length := by omega
    have ht := hok _ (List.getElem_mem hi)
    unfold TkOk at ht
    have ih := volRLoop l hl hok d (i + 1) (s + l[i].f1) (by omega) (by omega) (by omega)
    rw [drop_cons l i hi]
    refine Ev_succ ?_
    simp only [contangoref17_Volume.l0, if_pos (show (i : Int) < (l.length : Int) by omega), if_pos (show 0 ≤ (i : Int) by omega), rdTick l i hi, w_succ hi (show l.length ≤ 9223372036854775807 by omega), w_id (show -9223372036854775808 ≤ s + l[i].f1 by omega) (by omega), qtyS]
    rw [← Int.add_assoc]
    exact ih
theorem tkVolumeR_f (l : List Tick) : Ev (fun k => contangoref17_Volume.f k l) (tkVolume l) := by
  unfold contangoref17_Volume.f tkVolume
  refine Ev_bind (tkCheckR_f l) ?_
  by_cases c : tkCheck l = 0
  · obtain ⟨h1, h2, h3⟩ := (tkCheck_zero l).1 c
    simp only [if_pos c]
    have := volRLoop l h1 h2 l.length 0 0 (by omega) (by omega) (by omega)
    rw [List.drop_zero, Int.zero_add] at this
    exact this
  · simp only [if_neg c]
    exact Ev.now _
def tkVwap (l : List Tick) (step mode : Int) : Int × Int := if tkCheck l = 0 then (if step < 1 ∨ 16777216 < step then (0, 16) else if mode < 1 ∨ 5 < mode then (0, 2) else if l = [] then (0, 11) else (wrap64 ((mulDiv (pqS l) 1 (qtyS l * step) mode).1 * step), 0)) else (0, tkCheck l)
theorem vwap_facts {l : List Tick} {step mode : Int} (hc : tkCheck l = 0) (hs : ¬ (step < 1 ∨ 16777216 < step)) (hm : ¬ (mode < 1 ∨ 5 < mode)) (hl : l ≠ []) :
    1 ≤ qtyS l ∧ qtyS l ≤ 1073741824 ∧ 1 ≤ qtyS l * step ∧ qtyS l * step ≤ 18014398509481984 ∧ -18014398509481984 ≤ pqS l ∧ pqS l ≤ 18014398509481984 ∧ szI (pqS l) * szI 1 = szI (pqS l) ∧ mulDiv (pqS l) 1 (qtyS l * step) mode = mdV (pqS l) 1 (qtyS l * step) mode ∧ mdN (pqS l) 1 (qtyS l * step) mode ≤ 18014398509481985 ∧ 0 ≤ mdN (pqS l) 1 (qtyS l * step) mode ∧ (mdV (pqS l) 1 (qtyS l * step) mode).2 = 0 := by
  obtain ⟨h1, h2, h3⟩ := (tkCheck_zero l).1 hc
  have hp : 0 < l.length := List.length_pos_iff.2 hl
  have hq := qtyS_rng l h2
  have hpq := pqS_rng l h2
  have e1 := Int.mul_le_mul_of_nonneg_left (show step ≤ 16777216 by omega) (show 0 ≤ qtyS l by omega)
  have e2 := Int.mul_le_mul_of_nonneg_left (show 1 ≤ step by omega) (show 0 ≤ qtyS l by omega)
  have e3 : szI (1 : Int) = 1 := rfl
  have e4 : szI (pqS l) * szI 1 = szI (pqS l) := by rw [e3, Int.mul_one]
  have f1 : fitsM (pqS l) = true := (fitsM_iff _).2 (by omega)
  have f2 : fitsM 1 = true := rfl
  have f3 : fitsM (qtyS l * step) = true := (fitsM_iff _).2 (by omega)
  have hR := mdR_rng f1 f2 f3 (show qtyS l * step ≠ 0 by omega)
  have hz : szI (pqS l) ≤ 18014398509481984 := by unfold szI; split <;> omega
  have hN : mdN (pqS l) 1 (qtyS l * step) mode ≤ 18014398509481985 ∧ 0 ≤ mdN (pqS l) 1 (qtyS l * step) mode := by unfold mdN; split <;> omega
  refine ⟨by omega, by omega, by omega, by omega, by omega, by omega, e4, ?_, hN.1, hN.2, ?_⟩
  · unfold mulDiv
    rw [if_pos ⟨f1, f2, f3, by omega, by omega⟩, if_neg (by omega)]
  · unfold mdV
    rw [if_neg (by omega)]
theorem tkVwap_f (k : Nat) (l : List Tick) (step mode : Int) : tape_Vwap.f k l step mode = some (tkVwap l step mode) := by
  unfold tape_Vwap.f tkVwap
  rw [tkVolume_f]
  simp only [Option.bind_some]
  unfold tkVolume
  by_cases hc : tkCheck l = 0
  case neg => rw [if_neg hc, if_neg hc, if_pos hc]
  rw [if_pos hc, if_pos hc, if_neg (by simp)]
  by_cases hs : step < 1 ∨ 16777216 < step
  · rw [if_pos hs]
    by_cases c : step < 1
    · rw [if_pos c]
    · rw [if_neg c, if_pos (hs.resolve_left c)]
  rw [if_neg hs, if_neg (fun h => hs (Or.inl h)), if_neg (fun h => hs (Or.inr h))]
  by_cases hm : mode < 1 ∨ 5 < mode
  · rw [if_pos hm]
    by_cases c : mode < 1
    · rw [if_pos c]
    · rw [if_neg c, if_pos (hm.resolve_left c)]
  rw [if_neg hm, if_neg (fun h => hm (Or.inl h)), if_neg (fun h => hm (Or.inr h))]
  by_cases hl : l = []
  · subst hl; rfl
  obtain ⟨a1, a2, a3, a4, a5, a6, a7, a8, a9, a10, a11⟩ := vwap_facts hc hs hm hl
  obtain ⟨h1, h2, h3⟩ := (tkCheck_zero l).1 hc
  have ew : wrap64 (qtyS l * step) = qtyS l * step := w_id (by omega) (by omega)
  have hz : szI (pqS l) ≤ 18014398509481984 := by unfold szI; split <;> omega
  rw [if_neg hl, if_neg (show ¬ qtyS l = 0 by omega), pq_go l 0 h2 (by omega) (by omega), Int.zero_add, ew, mulDiv_f _ _ _ _ _ (by omega)]
  simp only [Option.bind_some]
  rw [a8, if_neg (by rw [a11]; simp)]
theorem pqRLoop (l : List Tick) (hl : l.length ≤ 1024) (hok : ∀ t ∈ l, TkOk t) (step mode q : Int) (r : Int × Int) (h : Ev (fun k => (contangoref01_MulDiv.f k (pqS l) 1 (wrap64 (q * step)) mode).bind fun n => some (wrap64 (n.1 * step), (0 : Int))) r) : ∀ (d i : Nat) (s : Int), i + d = l.length → s + pqS (l.drop i) = pqS l → -(17592186044416 * (i : Int)) ≤ s → s ≤ 17592186044416 * (i : Int) → Ev (fun k => contangoref17_Vwap.l0 k l step mode q s i) r
  | 0, i, s, hd, hs, h0, h1 => by
    rw [List.drop_of_length_le (by omega)] at hs
    simp only [pqS, Int.add_zero] at hs
    subst hs
    refine Ev_succ ?_
    simp only [contangoref17_Vwap.l0, if_neg (show ¬ ((i : Int) < (l.length : Int)) by omega)]
    exact h
  | d + 1, i, s, hd, hs, h0, h1 => by
    have hi : i < l.length := by omega
    have ht := mul_tk (hok _ (List.getElem_mem hi))
    rw [drop_cons l i hi] at hs
    simp only [pqS] at hs
    have ih := pqRLoop l hl hok step mode q r h d (i + 1) (s + l[i].f2 * l[i].f1) (by omega) (by omega) (by omega) (by omega)
    have e1 : wrap64 (l[i].f1 * l[i].f2) = l[i].f2 * l[i].f1 := by rw [Int.mul_comm, w_id (by omega) (by omega)]
    have e2 : wrap64 (s + l[i].f2 * l[i].f1) = s + l[i].f2 * l[i].f1 := w_id (by omega) (by omega)
    refine Ev_succ ?_
    simp only [contangoref17_Vwap.l0, if_pos (show (i : Int) < (l.length : Int) by omega), if_pos (show 0 ≤ (i : Int) by omega), rdTick l i hi, w_succ hi (show l.length ≤ 9223372036854775807 by omega), e1, e2]
    exact ih
theorem tkVwapR_f (l : List Tick) (step mode : Int) : Ev (fun k => contangoref17_Vwap.f k l step mode) (tkVwap l step mode) := by
  unfold contangoref17_Vwap.f tkVwap
  refine Ev_bind (tkVolumeR_f l) ?_
  unfold tkVolume
  by_cases hc : tkCheck l = 0
  case neg => simp only [if_neg hc]; exact Ev.now _
  simp only [if_pos hc, if_true]
  have hj0 : ∀ b, (b = true ↔ (step < 1 ∨ 16777216 < step)) → Ev (fun k => contangoref17_Vwap.j0 k l step mode (qtyS l) b) (if step < 1 ∨ 16777216 < step then (0, 16) else if mode < 1 ∨ 5 < mode then (0, 2) else if l = [] then (0, 11) else (wrap64 ((mulDiv (pqS l) 1 (qtyS l * step) mode).1 * step), 0)) := by
    intro b hb
    refine Ev_succ ?_
    by_cases c : b = true
    · subst c
      rw [if_pos (hb.1 rfl)]
      simp only [contangoref17_Vwap.j0, if_true]
      exact Ev.now _
    · have cf : b = false := by simpa using c
      subst cf
      have hs : ¬ (step < 1 ∨ 16777216 < step) := fun h => c (hb.2 h)
      rw [if_neg hs]
      simp only [contangoref17_Vwap.j0, Bool.false_eq_true, if_false]
      have hj1 : ∀ b, (b = true ↔ (mode < 1 ∨ 5 < mode)) → Ev (fun k => contangoref17_Vwap.j1 k l step mode (qtyS l) b) (if mode < 1 ∨ 5 < mode then (0, 2) else if l = [] then (0, 11) else (wrap64 ((mulDiv (pqS l) 1 (qtyS l * step) mode).1 * step), 0)) := by
        intro b hb
        refine Ev_succ ?_
        by_cases c : b = true
        · subst c
          rw [if_pos (hb.1 rfl)]
          simp only [contangoref17_Vwap.j1, if_true]
          exact Ev.now _
        · have cf : b = false := by simpa using c
          subst cf
          have hm : ¬ (mode < 1 ∨ 5 < mode) := fun h => c (hb.2 h)
          rw [if_neg hm]
          simp only [contangoref17_Vwap.j1, Bool.false_eq_true, if_false]
          by_cases hl : l = []
          · subst hl
            simp only [List.length_nil, if_true, show (((0 : Nat) : Int) = 0) = True from propext ⟨fun _ => trivial, fun _ => rfl⟩]
            exact Ev.now _
          · have hp : 0 < l.length := List.length_pos_iff.2 hl
            rw [if_neg hl]
            simp only [if_neg (show ¬ (l.length : Int) = 0 by omega)]
            obtain ⟨a1, a2, a3, a4, a5, a6, a7, a8, a9, a10, a11⟩ := vwap_facts hc hs hm hl
            obtain ⟨h1, h2, h3⟩ := (tkCheck_zero l).1 hc
            have ew : wrap64 (qtyS l * step) = qtyS l * step := w_id (by omega) (by omega)
            refine pqRLoop l h1 h2 step mode (qtyS l) _ ?_ l.length 0 0 (by omega) (by rw [List.drop_zero, Int.zero_add]) (by omega) (by omega)
            rw [ew]
            exact Ev_bind (mulDivR_f _ _ _ _) (Ev.now _)
      by_cases c1 : mode < 1
      · simp only [if_pos c1]
        exact hj1 true (by simp [c1])
      · simp only [if_neg c1]
        refine hj1 _ ?_
        rw [decide_eq_true_iff]
        exact ⟨Or.inr, fun h => h.resolve_left c1⟩
  by_cases c1 : step < 1
  · simp only [if_pos c1]
    exact hj0 true (by simp [c1])
  · simp only [if_neg c1]
    refine hj0 _ ?_
    rw [decide_eq_true_iff]
    exact ⟨Or.inr, fun h => h.resolve_left c1⟩
end Go.Proofs.Ytocndpddghefhaa.P
end
section
namespace Go.Proofs.Ytocndpddghefhaa.P
open Go.RowKit Go.Proofs.YtocndpddghefhaaW.PrintWords Go.Proofs.YtocndpddghefhaaW.PrintMore Go.Proofs.Ytocndpddghefhaa.X
set_option maxRecDepth 100000 in
theorem goes17 : Ev (fun k => contangolaw17_goes.f k) true := Ev.of (k := 70) (contangolaw17_goes.mono) (by decide +kernel)
end Go.Proofs.Ytocndpddghefhaa.P
end
section
namespace Go.Proofs.Ytocndpddghefhaa.Pure
set_option linter.unusedVariables false
set_option linter.unusedSimpArgs false
open Go.RowKit Go.Proofs.YtocndpddghefhaaW.PrintWords Go.Proofs.YtocndpddghefhaaW.PrintMore Go.Proofs.Ytocndpddghefhaa.X Go.Proofs.Ytocndpddghefhaa.P
theorem TapeAverages : ∀ (l0 : List (S49)) (a1 : Int) (a2 : Int), (l0.length ≤ maxLen ∧ l0.length * 24 ≤ 140737488351232 ∧ ∀ x ∈ l0, ok49 x) → (Lit.int .i64 a1).wf = true → (Lit.int .i64 a2).wf = true → ∃ k, X.contangolaw17_TapeAverages.f k l0 a1 a2 = some true := by
  intro l step mode _ _ _
  apply Ev.rounds
  unfold contangolaw17_TapeAverages.f
  simp only [tkVwap_f, Option.bind_some]
  refine Ev_bind (tkVwapR_f l step mode) ?_
  simp only [if_true]
  exact Ev_id goes17
end Go.Proofs.Ytocndpddghefhaa.Pure
end
