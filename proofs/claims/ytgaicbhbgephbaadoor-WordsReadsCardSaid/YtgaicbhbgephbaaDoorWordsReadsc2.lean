/- For WordsReads: contracts, and facts on lists and numbers, that it uses (part 2). -/
import Derived.ChangeArms
import Derived.Deep.Slices
import Derived.Laws.BitsLemmas
import Derived.Laws.Strings
import Derived.Lib.Bytealg
import Derived.OpenShut
import Derived.SizedLaws
import Derived.Test.YtgaicbhbgephbaaDoorWordsReadsc1
import Derived.WideShapes
section
namespace Go.Proofs.YtgaicbhbgephbaaDoor.X
open Go.RowKit Go.Proofs.YtgaicbhbgephbaaDoorW.PrintWords Go.Proofs.YtgaicbhbgephbaaDoorW.PrintLast Go.Proofs.YtgaicbhbgephbaaDoorW.PrintMore
attribute [local go_sem] max2_int min2_int max_two min_two max_three min_three max_four min_four
set_option linter.unusedVariables false
set_option linter.unusedSimpArgs false
def contangoref03_signed.j0 : Nat → Int → Bool → Bool → Option (Int × Int)
  | 0, _, _, _ => none
  | k + 1, x0, x1, x10 => if x10 = true then (some (0, 5)) else (if x0 > 1152921504606846976 then (some (0, 3)) else (if x1 = true then (some (wrap64 (-x0), 0)) else (some (x0, 0))))
def contangoref03_signed.f (k : Nat) (a0 : Int) (a1 : Bool) : Option (Int × Int) := if a1 = true then (contangoref03_signed.j0 k a0 a1 (a0 == 0)) else (contangoref03_signed.j0 k a0 a1 false)
set_option maxHeartbeats 8000000 in
set_option maxRecDepth 100000 in
theorem contangoref03_signed.calls (k : Nat) (a0 : Int) (a1 : Bool) (r1 : Int) (r2 : Int) (w : World) (h : contangoref03_signed.f k a0 a1 = some (r1, r2)) :
    Calls Tryd.prog 30 #[.int .i64 a0, .bool a1] w fun e w' => e = .returned (.tuple #[.int .i64 r1, .int .i64 r2]) ∧ Drawn0 w w' := by
  have H : (if a1 = true then (contangoref03_signed.j0 k a0 a1 (a0 == 0)) else (contangoref03_signed.j0 k a0 a1 false)) = some (r1, r2) := h
  clear h
  have HC3 := Aside0.mk H
  clear H
  go_enter Tryd.func30, Tryd.ntmps30
  go_upto_region 1 with (fail)
  go_cut [10] (fun v10 wc => ∃ (kq : Nat) (x10_2 : Bool), v10 = .bool x10_2 ∧ Aside0 (contangoref03_signed.j0 kq a0 a1 x10_2 = some (r1, r2)) ∧ Aside0 (kq ≤ k) ∧ Drawn0 w wc)
  case first =>
    have H := HC3.out
    clear HC3
    by_cases c4 : a1 = true
    · subst c4
      have H1 : (contangoref03_signed.j0 k a0 true (a0 == 0)) = some (r1, r2) := by rw [if_pos rfl] at H; exact H
      clear H
      have H := H1
      clear H1
      have H' := Aside0.mk H
      clear H
      go_wp2
      go_meet
      case rel => exact ⟨_, ((a0 == 0)), (by first | rfl | (simp; done) | (simp [*]; done)), H', ⟨by first | omega | exact Nat.le_refl _⟩, by repeat (first | exact Drawn0.refl _ | apply Drawn0.step)⟩
    · replace c4 := Bool.eq_false_iff.mpr c4
      subst c4
      have H1 : (contangoref03_signed.j0 k a0 false false) = some (r1, r2) := by rw [if_neg (show ¬ (false = true) by decide)] at H; exact H
      clear H
      have H := H1
      clear H1
      have H' := Aside0.mk H
      clear H
      go_wp2
      go_meet
      case rel => exact ⟨_, (false), (by first | rfl | (simp; done) | (simp [*]; done)), H', ⟨by first | omega | exact Nat.le_refl _⟩, by repeat (first | exact Drawn0.refl _ | apply Drawn0.step)⟩
  case rest =>
    clear HC3
    try clear p2
    try clear c3
    try clear c4
    obtain ⟨kq, x10_2, rfl, HA, HJ2, ⟨mc2, rfl⟩⟩ := hcut
    cases kq with
    | zero => exact absurd HA.out (by simp [contangoref03_signed.j0])
    | succ kj2 =>
      have H := HA.out
      clear HA
      simp only [contangoref03_signed.j0] at H
      by_cases c5 : x10_2 = true
      · subst c5
        have H1 : (some (0, 5)) = some (r1, r2) := by rw [if_pos rfl] at H; exact H
        clear H
        have H := H1
        clear H1
        simp only [Option.some.injEq, Prod.mk.injEq] at H
        obtain ⟨rfl, rfl⟩ := H
        go_wp2
        go_ret2
        exact ⟨by first | rfl | (simp; done) | (simp [*]; done), by repeat (first | exact Drawn0.refl _ | apply Drawn0.step)⟩
      · replace c5 := Bool.eq_false_iff.mpr c5
        subst c5
        have H1 : (if a0 > 1152921504606846976 then (some (0, 3)) else (if a1 = true then (some (wrap64 (-a0), 0)) else (some (a0, 0)))) = some (r1, r2) := by rw [if_neg (show ¬ (false = true) by decide)] at H; exact H
        clear H
        have H := H1
        clear H1
        by_cases c6 : a0 > 1152921504606846976
        · rw [if_pos c6] at H
          have c6b0 : decide (1152921504606846976 < a0) = true := decide_eq_true c6
          clear c6
          simp only [Option.some.injEq, Prod.mk.injEq] at H
          obtain ⟨rfl, rfl⟩ := H
          go_wp2
          go_ret2
          exact ⟨by first | rfl | (simp; done) | (simp [*]; done), by repeat (first | exact Drawn0.refl _ | apply Drawn0.step)⟩
        · rw [if_neg c6] at H
          have c6b0 : decide (1152921504606846976 < a0) = false := decide_eq_false c6
          clear c6
          by_cases c7 : a1 = true
          · subst c7
            have H1 : (some (wrap64 (-a0), 0)) = some (r1, r2) := by rw [if_pos rfl] at H; exact H
            clear H
            have H := H1
            clear H1
            simp only [Option.some.injEq, Prod.mk.injEq] at H
            obtain ⟨rfl, rfl⟩ := H
            go_wp2
            go_ret2
            exact ⟨by first | rfl | (simp; done) | (simp [*]; done), by repeat (first | exact Drawn0.refl _ | apply Drawn0.step)⟩
          · replace c7 := Bool.eq_false_iff.mpr c7
            subst c7
            have H1 : (some (a0, 0)) = some (r1, r2) := by rw [if_neg (show ¬ (false = true) by decide)] at H; exact H
            clear H
            have H := H1
            clear H1
            simp only [Option.some.injEq, Prod.mk.injEq] at H
            obtain ⟨rfl, rfl⟩ := H
            go_wp2
            go_ret2
            exact ⟨by first | rfl | (simp; done) | (simp [*]; done), by repeat (first | exact Drawn0.refl _ | apply Drawn0.step)⟩
end Go.Proofs.YtgaicbhbgephbaaDoor.X
end
section
namespace Go.Proofs.YtgaicbhbgephbaaDoor.X
open Go.RowKit Go.Proofs.YtgaicbhbgephbaaDoorW.PrintWords Go.Proofs.YtgaicbhbgephbaaDoorW.PrintLast Go.Proofs.YtgaicbhbgephbaaDoorW.PrintMore
attribute [local go_sem] max2_int min2_int max_two min_two max_three min_three max_four min_four
set_option linter.unusedVariables false
set_option linter.unusedSimpArgs false
def contangoref03_value.l0 : Nat → ByteArray → Int → Int → Option (Int)
  | 0, _, _, _ => none
  | k + 1, x0, x3, x4 => if x4 < (x0.size : Int) then (if x3 > 115292150460684697 then (some 1152921504606846977) else (if 0 ≤ x4 then (contangoref03_value.l0 k x0 (wrap64 ((wrap64 (10 * x3)) + (((bt x0 x4) - 48) % 256))) (wrap64 (x4 + 1))) else (none))) else (some x3)
def contangoref03_value.f (k : Nat) (a0 : ByteArray) : Option (Int) := contangoref03_value.l0 k a0 0 0
set_option maxHeartbeats 8000000 in
set_option maxRecDepth 100000 in
theorem contangoref03_value.calls (k : Nat) (a0 : ByteArray) (r : Int) (w : World) (h : contangoref03_value.f k a0 = some r) :
    Calls Tryd.prog 31 #[.string a0] w fun e w' => e = .returned (.int .i64 r) ∧ Drawn0 w w' := by
  have H : (contangoref03_value.l0 k a0 0 0) = some r := h
  clear h
  have H' := Aside0.mk H
  clear H
  go_enter Tryd.func31, Tryd.ntmps31
  go_wp2
  go_loopg [3, 4] k (fun kq v3 v4 w' => ∃ (x3_1 : Int) (x4_1 : Int), v3 = .int .i64 x3_1 ∧ v4 = .int .i64 x4_1 ∧ Aside0 (contangoref03_value.l0 kq a0 x3_1 x4_1 = some r) ∧ Aside0 (kq ≤ k) ∧ Drawn0 w w')
  case atStart => exact ⟨(0), (0), (by first | rfl | (simp; done) | (simp [*]; done)), (by first | rfl | (simp; done) | (simp [*]; done)), H', ⟨Nat.le_refl _⟩, by repeat (first | exact Drawn0.refl _ | apply Drawn0.step)⟩
  case round =>
    clear H'
    obtain ⟨x3_1, x4_1, rfl, rfl, HA, HK1, ⟨m1, rfl⟩⟩ := hrel
    cases gk with
    | zero => exact absurd HA.out (by simp [contangoref03_value.l0])
    | succ k1 =>
      have H := HA.out
      clear HA
      simp only [contangoref03_value.l0] at H
      by_cases c2 : x4_1 < (a0.size : Int)
      · rw [if_pos c2] at H
        have c2b0 : decide (x4_1 < (a0.size : Int)) = true := decide_eq_true c2
        clear c2
        by_cases c3 : x3_1 > 115292150460684697
        · rw [if_pos c3] at H
          have c3b0 : decide (115292150460684697 < x3_1) = true := decide_eq_true c3
          clear c3
          obtain rfl := Option.some.inj H
          go_wp2
          go_ret
          exact ⟨by first | rfl | (simp; done) | (simp [*]; done), by repeat (first | exact Drawn0.refl _ | apply Drawn0.step)⟩
        · rw [if_neg c3] at H
          have c3b0 : decide (115292150460684697 < x3_1) = false := decide_eq_false c3
          clear c3
          by_cases c4 : 0 ≤ x4_1
          · rw [if_pos c4] at H
            have c4b0 : decide (0 ≤ x4_1) = true := decide_eq_true c4
            clear c4
            have H' := Aside0.mk H
            clear H
            have p5 : 0 ≤ (x4_1 : Int) := of_decide_eq_true (by first | (with_reducible assumption) | assumption)
            have q5 : x4_1 < (a0.size : Int) := of_decide_eq_true (by first | (with_reducible assumption) | assumption)
            have hx5 := bt_at a0 x4_1
            replace p5 := eq_true p5
            replace q5 := eq_true q5
            go_wp2
            go_roundg k1
            case measure => have := HK1.out; omega
            case rel => exact ⟨(wrap64 ((wrap64 (10 * x3_1)) + (((bt a0 x4_1) - 48) % 256))), (wrap64 (x4_1 + 1)), (by first | rfl | (simp; done) | (simp [*]; done)), (by first | rfl | (simp; done) | (simp [*]; done)), H', ⟨by have := HK1.out; omega⟩, by repeat (first | exact Drawn0.refl _ | apply Drawn0.step)⟩
          · rw [if_neg c4] at H
            exact absurd H (by simp)
      · rw [if_neg c2] at H
        have c2b0 : decide (x4_1 < (a0.size : Int)) = false := decide_eq_false c2
        clear c2
        obtain rfl := Option.some.inj H
        go_wp2
        go_ret
        exact ⟨by first | rfl | (simp; done) | (simp [*]; done), by repeat (first | exact Drawn0.refl _ | apply Drawn0.step)⟩
end Go.Proofs.YtgaicbhbgephbaaDoor.X
end
section
namespace Go.Proofs.YtgaicbhbgephbaaDoor.X
open Go.RowKit Go.Proofs.YtgaicbhbgephbaaDoorW.PrintWords Go.Proofs.YtgaicbhbgephbaaDoorW.PrintLast Go.Proofs.YtgaicbhbgephbaaDoorW.PrintMore
attribute [local go_sem] max2_int min2_int max_two min_two max_three min_three max_four min_four
set_option linter.unusedVariables false
set_option linter.unusedSimpArgs false
mutual
def contangoref03_Cents.j0 : Nat → ByteArray → Bool → Option (Int × Int)
  | 0, _, _ => none
  | k + 1, x0, x4 => if x4 = true then (if 1 ≤ (x0.size : Int) then (contangoref03_Cents.j1 k (x0.extract 1 x0.size) x4) else (none)) else (contangoref03_Cents.j1 k x0 x4)
def contangoref03_Cents.j1 : Nat → ByteArray → Bool → Option (Int × Int)
  | 0, _, _ => none
  | k + 1, x0, x4 => if (wrap64 ((x0.size : Int) - 3)) < 1 then (contangoref03_Cents.j2 k x0 x4 (wrap64 ((x0.size : Int) - 3)) true) else (if 0 ≤ (wrap64 ((x0.size : Int) - 3)) then (if (wrap64 ((x0.size : Int) - 3)) < (x0.size : Int) then (if (bt x0 (wrap64 ((x0.size : Int) - 3))) = 46 then (if (wrap64 ((x0.size : Int) - 3)) ≤ (x0.size : Int) then ((contangoref03_digits.f k (x0.extract 0 ((wrap64 ((x0.size : Int) - 3)) : Int).toNat)).bind fun t101 => (if t101 = true then (if 0 ≤ (wrap64 ((wrap64 ((x0.size : Int) - 3)) + 1)) then (if (wrap64 ((wrap64 ((x0.size : Int) - 3)) + 1)) ≤ (x0.size : Int) then (if 1 + (x0.extract ((wrap64 ((wrap64 ((x0.size : Int) - 3)) + 1)) : Int).toNat x0.size).size ≤ 9223372036854775807 then ((contangoref03_digits.f k ((⟨#[49]⟩ : ByteArray) ++ (x0.extract ((wrap64 ((wrap64 ((x0.size : Int) - 3)) + 1)) : Int).toNat x0.size))).bind fun t102 => (contangoref03_Cents.j2 k x0 x4 (wrap64 ((x0.size : Int) - 3)) (!t102))) else (none)) else (none)) else (none)) else (contangoref03_Cents.j2 k x0 x4 (wrap64 ((x0.size : Int) - 3)) true))) else (none)) else (contangoref03_Cents.j2 k x0 x4 (wrap64 ((x0.size : Int) - 3)) true)) else (none)) else (none))
def contangoref03_Cents.j2 : Nat → ByteArray → Bool → Int → Bool → Option (Int × Int)
  | 0, _, _, _, _ => none
  | k + 1, x0, x4, x5, x43 => if x43 = true then (some (0, 5)) else (if 0 ≤ x5 then (if x5 ≤ (x0.size : Int) then (if 0 ≤ (wrap64 (x5 + 1)) then (if (wrap64 (x5 + 1)) ≤ (x0.size : Int) then (if (x0.extract 0 (x5 : Int).toNat).size + (x0.extract ((wrap64 (x5 + 1)) : Int).toNat x0.size).size ≤ 9223372036854775807 then ((contangoref03_value.f k ((x0.extract 0 (x5 : Int).toNat) ++ (x0.extract ((wrap64 (x5 + 1)) : Int).toNat x0.size))).bind fun t103 => ((contangoref03_signed.f k t103 x4).bind fun bt104 => (some (bt104.1, bt104.2)))) else (none)) else (none)) else (none)) else (none)) else (none))
end
def contangoref03_Cents.f (k : Nat) (a0 : ByteArray) : Option (Int × Int) := if (a0.size : Int) > 0 then (if 0 < (a0.size : Int) then (contangoref03_Cents.j0 k a0 ((bt a0 0) == 45)) else (none)) else (contangoref03_Cents.j0 k a0 false)
set_option maxHeartbeats 8000000 in
set_option maxRecDepth 100000 in
theorem contangoref03_Cents.calls (k : Nat) (a0 : ByteArray) (r1 : Int) (r2 : Int) (w : World) (h : contangoref03_Cents.f k a0 = some (r1, r2)) :
    Calls Tryd.prog 11 #[.string a0] w fun e w' => e = .returned (.tuple #[.int .i64 r1, .int .i64 r2]) ∧ Drawn0 w w' := by
  have H : (if (a0.size : Int) > 0 then (if 0 < (a0.size : Int) then (contangoref03_Cents.j0 k a0 ((bt a0 0) == 45)) else (none)) else (contangoref03_Cents.j0 k a0 false)) = some (r1, r2) := h
  clear h
  have HC2 := Aside0.mk H
  clear H
  go_enter Tryd.func11, Tryd.ntmps11
  go_upto_region 1 with (fail)
  repeat (go_quiet (fail); go_upto_region 1 with (fail))
  go_cut [4] (fun v4 wc => ∃ (kq : Nat) (x4_1 : Bool), v4 = .bool x4_1 ∧ Aside0 (contangoref03_Cents.j0 kq a0 x4_1 = some (r1, r2)) ∧ Aside0 (kq ≤ k) ∧ Drawn0 w wc)
  case first =>
    have H := HC2.out
    clear HC2
    by_cases c3 : (a0.size : Int) > 0
    · rw [if_pos c3] at H
      have c3b0 : decide (0 < (a0.size : Int)) = true := decide_eq_true c3
      have c3b1 : decide (0 < a0.size) = true := decide_eq_true (by omega)
      clear c3
      (first | rw [c3b0] | (simp only [i64_w, i32_w]; rw [c3b0]) | skip)
      by_cases c4 : 0 < (a0.size : Int)
      · rw [if_pos c4] at H
        have c4b0 : decide (0 < (a0.size : Int)) = true := decide_eq_true c4
        have c4b1 : decide (0 < a0.size) = true := decide_eq_true (by omega)
        clear c4
        have H' := Aside0.mk H
        clear H
        have p5 : 0 ≤ (0 : Int) := (by omega)
        have q5 : 0 < a0.size := (by have : (0 : Int) < (a0.size : Int) := of_decide_eq_true (by first | (with_reducible assumption) | assumption); omega)
        have hx5 : ∀ h : 0 < a0.size, ((a0[0]'h).toNat : Int) = bt a0 0 := bt_at a0 0
        clear p5
        have qi5 : (0 < (a0.size : Int)) = True := eq_true (of_decide_eq_true (by first | (with_reducible assumption) | assumption))
        replace q5 := eq_true q5
        go_wp2
        repeat (go_quiet (fail); try go_wp2)
        go_meet
        case rel => exact ⟨_, (((bt a0 0) == 45)), (by first | rfl | (simp; done) | (simp [*]; done)), H', ⟨by first | omega | exact Nat.le_refl _⟩, by repeat (first | exact Drawn0.refl _ | apply Drawn0.step)⟩
      · rw [if_neg c4] at H
        exact absurd H (by simp)
    · rw [if_neg c3] at H
      have c3b0 : decide (0 < (a0.size : Int)) = false := decide_eq_false c3
      have c3b1 : decide (0 < a0.size) = false := decide_eq_false (by omega)
      clear c3
      (first | rw [c3b0] | (simp only [i64_w, i32_w]; rw [c3b0]) | skip)
      have H' := Aside0.mk H
      clear H
      go_wp2
      repeat (go_quiet (fail); try go_wp2)
      go_meet
      case rel => exact ⟨_, (false), (by first | rfl | (simp; done) | (simp [*]; done)), H', ⟨by first | omega | exact Nat.le_refl _⟩, by repeat (first | exact Drawn0.refl _ | apply Drawn0.step)⟩
  case rest =>
    clear HC2
    try clear c1
    try clear p2
    try clear c3
    try clear c3b0
    try clear c3b1
    try clear c4
    try clear c4b0
    try clear c4b1
    try clear p5
    try clear q5
    try clear hx5
    try clear qi5
    try clear p5
    try clear q5
    obtain ⟨kq, x4_1, rfl, HA, HJ1, ⟨mc1, rfl⟩⟩ := hcut
    cases kq with
    | zero => exact absurd HA.out (by simp [contangoref03_Cents.j0])
    | succ kj1 =>
      have H := HA.out
      clear HA
      simp only [contangoref03_Cents.j0] at H
      have HC6 := Aside0.mk H
      clear H
      go_upto_if 14 with (fail)
      repeat (go_quiet (fail); go_upto_if 14 with (fail))
      go_cut [0] (fun v0 wc => ∃ (kq : Nat) (x0_5 : ByteArray), v0 = .string x0_5 ∧ Aside0 (contangoref03_Cents.j1 kq x0_5 x4_1 = some (r1, r2)) ∧ Aside0 (kq ≤ kj1) ∧ Drawn0 w wc)
      case first =>
        have H := HC6.out
        clear HC6
        by_cases c7 : x4_1 = true
        · subst c7
          have H1 : (if 1 ≤ (a0.size : Int) then (contangoref03_Cents.j1 kj1 (a0.extract 1 a0.size) true) else (none)) = some (r1, r2) := by rw [if_pos rfl] at H; exact H
          clear H
          have H := H1
          clear H1
          by_cases c8 : 1 ≤ (a0.size : Int)
          · rw [if_pos c8] at H
            have c8b0 := eq_true c8
            have c8b1 : decide (1 ≤ (a0.size : Int)) = true := decide_eq_true c8
            clear c8
            have H' := Aside0.mk H
            clear H
            go_wp2
            repeat (go_quiet (fail); try go_wp2)
            go_meet
            case rel => exact ⟨_, (a0.extract 1 a0.size), (by first | rfl | (simp; done) | (simp [*]; done)), H', ⟨by have := HJ1.out; first | omega | exact Nat.le_refl _⟩, by repeat (first | exact Drawn0.refl _ | apply Drawn0.step)⟩
          · rw [if_neg c8] at H
            exact absurd H (by simp)
        · replace c7 := Bool.eq_false_iff.mpr c7
          subst c7
          have H1 : (contangoref03_Cents.j1 kj1 a0 false) = some (r1, r2) := by rw [if_neg (show ¬ (false = true) by decide)] at H; exact H
          clear H
          have H := H1
          clear H1
          have H' := Aside0.mk H
          clear H
          go_wp2
          repeat (go_quiet (fail); try go_wp2)
          go_meet
          case rel => exact ⟨_, (a0), (by first | rfl | (simp; done) | (simp [*]; done)), H', ⟨by have := HJ1.out; first | omega | exact Nat.le_refl _⟩, by repeat (first | exact Drawn0.refl _ | apply Drawn0.step)⟩
      case rest =>
        clear HC6
        try clear c1
        try clear p2
        try clear c3
        try clear c3b0
        try clear c3b1
        try clear c4
        try clear c4b0
        try clear c4b1
        try clear p5
        try clear q5
        try clear hx5
        try clear qi5
        try clear c7
        try clear c8
        try clear c8b0
        try clear c8b1
        try clear p2
        try clear p5
        try clear q5
        obtain ⟨kq, x0_5, rfl, HA, HJ5, ⟨mc5, rfl⟩⟩ := hcut
        cases kq with
        | zero => exact absurd HA.out (by simp [contangoref03_Cents.j1])
        | succ kj5 =>
          have H := HA.out
          clear HA
          simp only [contangoref03_Cents.j1] at H
          have HC9 := Aside0.mk H
          clear H
          go_upto_region 5 with (fail)
          repeat (go_quiet (fail); go_upto_region 5 with (fail))
          go_cut [43] (fun v43 wc => ∃ (kq : Nat) (x43_8 : Bool), v43 = .bool x43_8 ∧ Aside0 (contangoref03_Cents.j2 kq x0_5 x4_1 (wrap64 ((x0_5.size : Int) - 3)) x43_8 = some (r1, r2)) ∧ Aside0 (kq ≤ kj5) ∧ Drawn0 w wc)
          case first =>
            have H := HC9.out
            clear HC9
            by_cases c10 : (wrap64 ((x0_5.size : Int) - 3)) < 1
            · rw [if_pos c10] at H
              have c10b0 : decide ((wrap64 ((x0_5.size : Int) - 3)) < 1) = true := decide_eq_true c10
              clear c10
              (first | rw [c10b0] | (simp only [i64_w, i32_w]; rw [c10b0]) | skip)
              have H' := Aside0.mk H
              clear H
              go_wp2
              repeat (go_quiet (fail); try go_wp2)
              go_meet
              case rel => exact ⟨_, (true), (by first | rfl | (simp; done) | (simp [*]; done)), H', ⟨by have := HJ1.out; have := HJ5.out; first | omega | exact Nat.le_refl _⟩, by repeat (first | exact Drawn0.refl _ | apply Drawn0.step)⟩
            · rw [if_neg c10] at H
              have c10b0 : decide ((wrap64 ((x0_5.size : Int) - 3)) < 1) = false := decide_eq_false c10
              clear c10
              (first | rw [c10b0] | (simp only [i64_w, i32_w]; rw [c10b0]) | skip)
              obtain ⟨ji11, hji11⟩ : ∃ j_ : Int, (wrap64 ((x0_5.size : Int) - 3)) = j_ := ⟨_, rfl⟩
              replace H : (if 0 ≤ (ji11) then (if (ji11) < (x0_5.size : Int) then (if (bt x0_5 (ji11)) = 46 then (if (ji11) ≤ (x0_5.size : Int) then ((contangoref03_digits.f kj5 (x0_5.extract 0 ((ji11) : Int).toNat)).bind fun t101 => (if t101 = true then (if 0 ≤ (wrap64 ((ji11) + 1)) then (if (wrap64 ((ji11) + 1)) ≤ (x0_5.size : Int) then (if 1 + (x0_5.extract ((wrap64 ((ji11) + 1)) : Int).toNat x0_5.size).size ≤ 9223372036854775807 then ((contangoref03_digits.f kj5 ((⟨#[49]⟩ : ByteArray) ++ (x0_5.extract ((wrap64 ((ji11) + 1)) : Int).toNat x0_5.size))).bind fun t102 => (contangoref03_Cents.j2 kj5 x0_5 x4_1 ji11 (!t102))) else (none)) else (none)) else (none)) else (contangoref03_Cents.j2 kj5 x0_5 x4_1 ji11 true))) else (none)) else (contangoref03_Cents.j2 kj5 x0_5 x4_1 ji11 true)) else (none)) else (none)) = some (r1, r2) := by first | (rw [hji11] at H; exact H) | (simp only [hji11] at H ⊢; exact H)
              (try rw [hji11] at c10b0)
              have hji11w : (IntKind.i64.wrap ((x0_5.size : Int) - 3)) = ji11 := (i64_w _).trans hji11
              by_cases c12 : 0 ≤ (ji11)
              · rw [if_pos c12] at H
                have c12b0 : decide (0 ≤ (ji11)) = true := decide_eq_true c12
                clear c12
                by_cases c13 : (ji11) < (x0_5.size : Int)
                · rw [if_pos c13] at H
                  have c13b0 : decide ((ji11) < (x0_5.size : Int)) = true := decide_eq_true c13
                  clear c13
                  by_cases c15 : (bt x0_5 (ji11)) = 46
                  · rw [if_pos c15] at H
                    have c15b0 : ((bt x0_5 (ji11)) == 46) = true := beq_iff_eq.mpr c15
                    have c15b1 : ((bt x0_5 (ji11)) != 46) = false := bne_eq_false_iff_eq.mpr c15
                    clear c15
                    have c16b0 := eq_true (of_decide_eq_true (by first | (with_reducible assumption) | assumption) : 0 ≤ (ji11))
                    by_cases c17 : (ji11) ≤ (x0_5.size : Int)
                    · rw [if_pos c17] at H
                      have c17b0 := eq_true c17
                      have c17b1 : decide ((ji11) ≤ (x0_5.size : Int)) = true := decide_eq_true c17
                      clear c17
                      replace H := Option.bind_eq_some_iff.mp H
                      obtain ⟨t101, A180, H⟩ := H
                      replace H : (if t101 = true then (if 0 ≤ (wrap64 ((ji11) + 1)) then (if (wrap64 ((ji11) + 1)) ≤ (x0_5.size : Int) then (if 1 + (x0_5.extract ((wrap64 ((ji11) + 1)) : Int).toNat x0_5.size).size ≤ 9223372036854775807 then ((contangoref03_digits.f kj5 ((⟨#[49]⟩ : ByteArray) ++ (x0_5.extract ((wrap64 ((ji11) + 1)) : Int).toNat x0_5.size))).bind fun t102 => (contangoref03_Cents.j2 kj5 x0_5 x4_1 ji11 (!t102))) else (none)) else (none)) else (none)) else (contangoref03_Cents.j2 kj5 x0_5 x4_1 ji11 true)) = some (r1, r2) := H
                      have A18 := Aside0.mk A180
                      clear A180
                      by_cases c19 : t101 = true
                      · subst c19
                        have H1 : (if 0 ≤ (wrap64 ((ji11) + 1)) then (if (wrap64 ((ji11) + 1)) ≤ (x0_5.size : Int) then (if 1 + (x0_5.extract ((wrap64 ((ji11) + 1)) : Int).toNat x0_5.size).size ≤ 9223372036854775807 then ((contangoref03_digits.f kj5 ((⟨#[49]⟩ : ByteArray) ++ (x0_5.extract ((wrap64 ((ji11) + 1)) : Int).toNat x0_5.size))).bind fun t102 => (contangoref03_Cents.j2 kj5 x0_5 x4_1 ji11 (!t102))) else (none)) else (none)) else (none)) = some (r1, r2) := by rw [if_pos rfl] at H; exact H
                        clear H
                        have H := H1
                        clear H1
                        obtain ⟨ji20, hji20⟩ : ∃ j_ : Int, (wrap64 ((ji11) + 1)) = j_ := ⟨_, rfl⟩
                        replace H : (if 0 ≤ (ji20) then (if (ji20) ≤ (x0_5.size : Int) then (if 1 + (x0_5.extract ((ji20) : Int).toNat x0_5.size).size ≤ 9223372036854775807 then ((contangoref03_digits.f kj5 ((⟨#[49]⟩ : ByteArray) ++ (x0_5.extract ((ji20) : Int).toNat x0_5.size))).bind fun t102 => (contangoref03_Cents.j2 kj5 x0_5 x4_1 ji11 (!t102))) else (none)) else (none)) else (none)) = some (r1, r2) := by first | (rw [hji20] at H; exact H) | (simp only [hji20] at H ⊢; exact H)
                        (try rw [hji20] at A18)
                        have hji20w : (IntKind.i64.wrap ((ji11) + 1)) = ji20 := (i64_w _).trans hji20
                        by_cases c21 : 0 ≤ (ji20)
                        · rw [if_pos c21] at H
                          have c21b0 := eq_true c21
                          have c21b1 : decide (0 ≤ (ji20)) = true := decide_eq_true c21
                          clear c21
                          by_cases c22 : (ji20) ≤ (x0_5.size : Int)
                          · rw [if_pos c22] at H
                            have c22b0 := eq_true c22
                            have c22b1 : decide ((ji20) ≤ (x0_5.size : Int)) = true := decide_eq_true c22
                            clear c22
                            by_cases c23 : 1 + (x0_5.extract ((ji20) : Int).toNat x0_5.size).size ≤ 9223372036854775807
                            · rw [if_pos c23] at H
                              have c23b0 := eq_true c23
                              have c23b1 : decide (1 + (x0_5.extract ((ji20) : Int).toNat x0_5.size).size ≤ 9223372036854775807) = true := decide_eq_true c23
                              try have c23b2 : (9223372036854775807 < 1 + (x0_5.extract ((ji20) : Int).toNat x0_5.size).size) = False := eq_false (Nat.not_lt.2 c23)
                              try (have c23b3 := c23; simp only [ByteArray.size_append, ByteArray.size_extract, Nat.min_self, Nat.zero_add] at c23b3; replace c23b3 := eq_false (Nat.not_lt.2 c23b3))
                              replace H := Option.bind_eq_some_iff.mp H
                              obtain ⟨t102, A240, H⟩ := H
                              replace H : (contangoref03_Cents.j2 kj5 x0_5 x4_1 ji11 (!t102)) = some (r1, r2) := H
                              have A24 := Aside0.mk A240
                              clear A240
                              have H' := Aside0.mk H
                              clear H
                              have p14 : 0 ≤ ((ji11) : Int) := of_decide_eq_true (by first | (with_reducible assumption) | assumption)
                              have q14 : (ji11) < (x0_5.size : Int) := of_decide_eq_true (by first | (with_reducible assumption) | assumption)
                              have hx14 := bt_at x0_5 (ji11)
                              replace p14 := eq_true p14
                              replace q14 := eq_true q14
                              go_wp2_with (first | (go_at_call 29; (with_reducible refine (contangoref03_digits.calls kj5 (x0_5.extract 0 ((ji11) : Int).toNat) true _ A18.out).mono ?_); rintro e w' ⟨rfl, ⟨nd, rfl⟩⟩; (try first | exact ⟨rfl, _, World.drewN_drewN _ _ _⟩ | exact ⟨rfl, _, Eq.trans (World.drewN_drewN _ _ _) (congrArg (World.drewN _) (Nat.add_assoc _ _ _))⟩)) | (go_at_call 29; (with_reducible refine (contangoref03_digits.calls kj5 ((⟨#[49]⟩ : ByteArray) ++ (x0_5.extract ((ji20) : Int).toNat x0_5.size)) t102 _ A24.out).mono ?_); rintro e w' ⟨rfl, ⟨nd, rfl⟩⟩; (try first | exact ⟨rfl, _, World.drewN_drewN _ _ _⟩ | exact ⟨rfl, _, Eq.trans (World.drewN_drewN _ _ _) (congrArg (World.drewN _) (Nat.add_assoc _ _ _))⟩)))
                              repeat (go_quiet (first | (go_at_call 29; (with_reducible refine (contangoref03_digits.calls kj5 (x0_5.extract 0 ((ji11) : Int).toNat) true _ A18.out).mono ?_); rintro e w' ⟨rfl, ⟨nd, rfl⟩⟩; (try first | exact ⟨rfl, _, World.drewN_drewN _ _ _⟩ | exact ⟨rfl, _, Eq.trans (World.drewN_drewN _ _ _) (congrArg (World.drewN _) (Nat.add_assoc _ _ _))⟩)) | (go_at_call 29; (with_reducible refine (contangoref03_digits.calls kj5 ((⟨#[49]⟩ : ByteArray) ++ (x0_5.extract ((ji20) : Int).toNat x0_5.size)) t102 _ A24.out).mono ?_); rintro e w' ⟨rfl, ⟨nd, rfl⟩⟩; (try first | exact ⟨rfl, _, World.drewN_drewN _ _ _⟩ | exact ⟨rfl, _, Eq.trans (World.drewN_drewN _ _ _) (congrArg (World.drewN _) (Nat.add_assoc _ _ _))⟩))); try go_wp2_with (first | (go_at_call 29; (with_reducible refine (contangoref03_digits.calls kj5 (x0_5.extract 0 ((ji11) : Int).toNat) true _ A18.out).mono ?_); rintro e w' ⟨rfl, ⟨nd, rfl⟩⟩; (try first | exact ⟨rfl, _, World.drewN_drewN _ _ _⟩ | exact ⟨rfl, _, Eq.trans (World.drewN_drewN _ _ _) (congrArg (World.drewN _) (Nat.add_assoc _ _ _))⟩)) | (go_at_call 29; (with_reducible refine (contangoref03_digits.calls kj5 ((⟨#[49]⟩ : ByteArray) ++ (x0_5.extract ((ji20) : Int).toNat x0_5.size)) t102 _ A24.out).mono ?_); rintro e w' ⟨rfl, ⟨nd, rfl⟩⟩; (try first | exact ⟨rfl, _, World.drewN_drewN _ _ _⟩ | exact ⟨rfl, _, Eq.trans (World.drewN_drewN _ _ _) (congrArg (World.drewN _) (Nat.add_assoc _ _ _))⟩))))
                              try subst hji20
                              try subst hji11
                              go_meet
                              case rel => exact ⟨_, (!t102), (by first | rfl | (simp; done) | (simp [*]; done)), H', ⟨by have := HJ1.out; have := HJ5.out; first | omega | exact Nat.le_refl _⟩, by repeat (first | exact Drawn0.refl _ | apply Drawn0.step)⟩
                            · rw [if_neg c23] at H
                              exact absurd H (by simp)
                          · rw [if_neg c22] at H
                            exact absurd H (by simp)
                        · rw [if_neg c21] at H
                          exact absurd H (by simp)
                      · replace c19 := Bool.eq_false_iff.mpr c19
                        subst c19
                        have H1 : (contangoref03_Cents.j2 kj5 x0_5 x4_1 ji11 true) = some (r1, r2) := by rw [if_neg (show ¬ (false = true) by decide)] at H; exact H
                        clear H
                        have H := H1
                        clear H1
                        have H' := Aside0.mk H
                        clear H
                        have p14 : 0 ≤ ((ji11) : Int) := of_decide_eq_true (by first | (with_reducible assumption) | assumption)
                        have q14 : (ji11) < (x0_5.size : Int) := of_decide_eq_true (by first | (with_reducible assumption) | assumption)
                        have hx14 := bt_at x0_5 (ji11)
                        replace p14 := eq_true p14
                        replace q14 := eq_true q14
                        go_wp2_with (first | (go_at_call 29; (with_reducible refine (contangoref03_digits.calls kj5 (x0_5.extract 0 ((ji11) : Int).toNat) false _ A18.out).mono ?_); rintro e w' ⟨rfl, ⟨nd, rfl⟩⟩; (try first | exact ⟨rfl, _, World.drewN_drewN _ _ _⟩ | exact ⟨rfl, _, Eq.trans (World.drewN_drewN _ _ _) (congrArg (World.drewN _) (Nat.add_assoc _ _ _))⟩)))
                        repeat (go_quiet (first | (go_at_call 29; (with_reducible refine (contangoref03_digits.calls kj5 (x0_5.extract 0 ((ji11) : Int).toNat) false _ A18.out).mono ?_); rintro e w' ⟨rfl, ⟨nd, rfl⟩⟩; (try first | exact ⟨rfl, _, World.drewN_drewN _ _ _⟩ | exact ⟨rfl, _, Eq.trans (World.drewN_drewN _ _ _) (congrArg (World.drewN _) (Nat.add_assoc _ _ _))⟩))); try go_wp2_with (first | (go_at_call 29; (with_reducible refine (contangoref03_digits.calls kj5 (x0_5.extract 0 ((ji11) : Int).toNat) false _ A18.out).mono ?_); rintro e w' ⟨rfl, ⟨nd, rfl⟩⟩; (try first | exact ⟨rfl, _, World.drewN_drewN _ _ _⟩ | exact ⟨rfl, _, Eq.trans (World.drewN_drewN _ _ _) (congrArg (World.drewN _) (Nat.add_assoc _ _ _))⟩))))
                        try subst hji20
                        try subst hji11
                        go_meet
                        case rel => exact ⟨_, (true), (by first | rfl | (simp; done) | (simp [*]; done)), H', ⟨by have := HJ1.out; have := HJ5.out; first | omega | exact Nat.le_refl _⟩, by repeat (first | exact Drawn0.refl _ | apply Drawn0.step)⟩
                    · rw [if_neg c17] at H
                      exact absurd H (by simp)
                  · rw [if_neg c15] at H
                    have c15b0 : ((bt x0_5 (ji11)) == 46) = false := beq_eq_false_iff_ne.mpr c15
                    have c15b1 : ((bt x0_5 (ji11)) != 46) = true := bne_iff_ne.mpr c15
                    have H' := Aside0.mk H
                    clear H
                    have p14 : 0 ≤ ((ji11) : Int) := of_decide_eq_true (by first | (with_reducible assumption) | assumption)
                    have q14 : (ji11) < (x0_5.size : Int) := of_decide_eq_true (by first | (with_reducible assumption) | assumption)
                    have hx14 := bt_at x0_5 (ji11)
                    replace p14 := eq_true p14
                    replace q14 := eq_true q14
                    go_wp2
                    repeat (go_quiet (fail); try go_wp2)
                    try subst hji20
                    try subst hji11
                    go_meet
                    case rel => exact ⟨_, (true), (by first | rfl | (simp; done) | (simp [*]; done)), H', ⟨by have := HJ1.out; have := HJ5.out; first | omega | exact Nat.le_refl _⟩, by repeat (first | exact Drawn0.refl _ | apply Drawn0.step)⟩
                · rw [if_neg c13] at H
                  exact absurd H (by simp)
              · rw [if_neg c12] at H
                exact absurd H (by simp)
          case rest =>
            clear HC9
            try clear c1
            try clear p1
            try clear q1
            try clear hx1
            try clear c2
            try clear p2
            try clear c3
            try clear c3b0
            try clear c3b1
            try clear c4
            try clear c4b0
            try clear c4b1
            try clear c5
            try clear p5
            try clear q5
            try clear hx5
            try clear qi5
            try clear p6
            try clear c7
            try clear c8
            try clear c8b0
            try clear c8b1
            try clear c10
            try clear c10b0
            try clear c11
            try clear c12
            try clear c12b0
            try clear c13
            try clear c13b0
            try clear p14
            try clear q14
            try clear hx14
            try clear c15
            try clear c15b0
            try clear c15b1
            try clear c16
            try clear c16b0
            try clear c17
            try clear c17b0
            try clear c17b1
            try clear c19
            try clear c21
            try clear c21b0
            try clear c21b1
            try clear c22
            try clear c22b0
            try clear c22b1
            try clear c23
            try clear c23b0
            try clear c23b1
            try clear c23b2
            try clear p14
            try clear p2
            try clear p5
            try clear q14
            try clear q5
            obtain ⟨kq, x43_8, rfl, HA, HJ8, ⟨mc8, rfl⟩⟩ := hcut
            cases kq with
            | zero => exact absurd HA.out (by simp [contangoref03_Cents.j2])
            | succ kj8 =>
              have H := HA.out
              clear HA
              simp only [contangoref03_Cents.j2] at H
              by_cases c25 : x43_8 = true
              · subst c25
                have H1 : (some (0, 5)) = some (r1, r2) := by rw [if_pos rfl] at H; exact H
                clear H
                have H := H1
                clear H1
                simp only [Option.some.injEq, Prod.mk.injEq] at H
                obtain ⟨rfl, rfl⟩ := H
                go_wp2
                repeat (go_quiet (fail); try go_wp2)
                go_ret2
                exact ⟨by first | rfl | (simp; done) | (simp [*]; done), by repeat (first | exact Drawn0.refl _ | apply Drawn0.step)⟩
              · replace c25 := Bool.eq_false_iff.mpr c25
                subst c25
                have H1 : (if 0 ≤ (wrap64 ((x0_5.size : Int) - 3)) then (if (wrap64 ((x0_5.size : Int) - 3)) ≤ (x0_5.size : Int) then (if 0 ≤ (wrap64 ((wrap64 ((x0_5.size : Int) - 3)) + 1)) then (if (wrap64 ((wrap64 ((x0_5.size : Int) - 3)) + 1)) ≤ (x0_5.size : Int) then (if (x0_5.extract 0 ((wrap64 ((x0_5.size : Int) - 3)) : Int).toNat).size + (x0_5.extract ((wrap64 ((wrap64 ((x0_5.size : Int) - 3)) + 1)) : Int).toNat x0_5.size).size ≤ 9223372036854775807 then ((contangoref03_value.f kj8 ((x0_5.extract 0 ((wrap64 ((x0_5.size : Int) - 3)) : Int).toNat) ++ (x0_5.extract ((wrap64 ((wrap64 ((x0_5.size : Int) - 3)) + 1)) : Int).toNat x0_5.size))).bind fun t103 => ((contangoref03_signed.f kj8 t103 x4_1).bind fun bt104 => (some (bt104.1, bt104.2)))) else (none)) else (none)) else (none)) else (none)) else (none)) = some (r1, r2) := by rw [if_neg (show ¬ (false = true) by decide)] at H; exact H
                clear H
                have H := H1
                clear H1
                obtain ⟨ji26, hji26⟩ : ∃ j_ : Int, (wrap64 ((x0_5.size : Int) - 3)) = j_ := ⟨_, rfl⟩
                replace H : (if 0 ≤ (ji26) then (if (ji26) ≤ (x0_5.size : Int) then (if 0 ≤ (wrap64 ((ji26) + 1)) then (if (wrap64 ((ji26) + 1)) ≤ (x0_5.size : Int) then (if (x0_5.extract 0 ((ji26) : Int).toNat).size + (x0_5.extract ((wrap64 ((ji26) + 1)) : Int).toNat x0_5.size).size ≤ 9223372036854775807 then ((contangoref03_value.f kj8 ((x0_5.extract 0 ((ji26) : Int).toNat) ++ (x0_5.extract ((wrap64 ((ji26) + 1)) : Int).toNat x0_5.size))).bind fun t103 => ((contangoref03_signed.f kj8 t103 x4_1).bind fun bt104 => (some (bt104.1, bt104.2)))) else (none)) else (none)) else (none)) else (none)) else (none)) = some (r1, r2) := by first | (rw [hji26] at H; exact H) | (simp only [hji26] at H ⊢; exact H)
                have hji26w : (IntKind.i64.wrap ((x0_5.size : Int) - 3)) = ji26 := (i64_w _).trans hji26
                by_cases c27 : 0 ≤ (ji26)
                · rw [if_pos c27] at H
                  have c27b0 := eq_true c27
                  have c27b1 : decide (0 ≤ (ji26)) = true := decide_eq_true c27
                  clear c27
                  by_cases c28 : (ji26) ≤ (x0_5.size : Int)
                  · rw [if_pos c28] at H
                    have c28b0 := eq_true c28
                    have c28b1 : decide ((ji26) ≤ (x0_5.size : Int)) = true := decide_eq_true c28
                    clear c28
                    obtain ⟨ji29, hji29⟩ : ∃ j_ : Int, (wrap64 ((ji26) + 1)) = j_ := ⟨_, rfl⟩
                    replace H : (if 0 ≤ (ji29) then (if (ji29) ≤ (x0_5.size : Int) then (if (x0_5.extract 0 ((ji26) : Int).toNat).size + (x0_5.extract ((ji29) : Int).toNat x0_5.size).size ≤ 9223372036854775807 then ((contangoref03_value.f kj8 ((x0_5.extract 0 ((ji26) : Int).toNat) ++ (x0_5.extract ((ji29) : Int).toNat x0_5.size))).bind fun t103 => ((contangoref03_signed.f kj8 t103 x4_1).bind fun bt104 => (some (bt104.1, bt104.2)))) else (none)) else (none)) else (none)) = some (r1, r2) := by first | (rw [hji29] at H; exact H) | (simp only [hji29] at H ⊢; exact H)
                    have hji29w : (IntKind.i64.wrap ((ji26) + 1)) = ji29 := (i64_w _).trans hji29
                    by_cases c30 : 0 ≤ (ji29)
                    · rw [if_pos c30] at H
                      have c30b0 := eq_true c30
                      have c30b1 : decide (0 ≤ (ji29)) = true := decide_eq_true c30
                      clear c30
                      by_cases c31 : (ji29) ≤ (x0_5.size : Int)
                      · rw [if_pos c31] at H
                        have c31b0 := eq_true c31
                        have c31b1 : decide ((ji29) ≤ (x0_5.size : Int)) = true := decide_eq_true c31
                        clear c31
                        by_cases c32 : (x0_5.extract 0 ((ji26) : Int).toNat).size + (x0_5.extract ((ji29) : Int).toNat x0_5.size).size ≤ 9223372036854775807
                        · rw [if_pos c32] at H
                          have c32b0 := eq_true c32
                          have c32b1 : decide ((x0_5.extract 0 ((ji26) : Int).toNat).size + (x0_5.extract ((ji29) : Int).toNat x0_5.size).size ≤ 9223372036854775807) = true := decide_eq_true c32
                          try have c32b2 : (9223372036854775807 < (x0_5.extract 0 ((ji26) : Int).toNat).size + (x0_5.extract ((ji29) : Int).toNat x0_5.size).size) = False := eq_false (Nat.not_lt.2 c32)
                          try (have c32b3 := c32; simp only [ByteArray.size_append, ByteArray.size_extract, Nat.min_self, Nat.zero_add] at c32b3; replace c32b3 := eq_false (Nat.not_lt.2 c32b3))
                          replace H := Option.bind_eq_some_iff.mp H
                          obtain ⟨t103, A330, H⟩ := H
                          replace H : ((contangoref03_signed.f kj8 t103 x4_1).bind fun bt104 => (some (bt104.1, bt104.2))) = some (r1, r2) := H
                          have A33 := Aside0.mk A330
                          clear A330
                          replace H := Option.bind_eq_some_iff.mp H
                          obtain ⟨⟨t104, t105⟩, A340, H⟩ := H
                          replace H : (some (t104, t105)) = some (r1, r2) := H
                          have A34 := Aside0.mk A340
                          clear A340
                          simp only [Option.some.injEq, Prod.mk.injEq] at H
                          obtain ⟨rfl, rfl⟩ := H
                          go_wp2_with (first | (go_at_call 31; (with_reducible refine (contangoref03_value.calls kj8 ((x0_5.extract 0 ((ji26) : Int).toNat) ++ (x0_5.extract ((ji29) : Int).toNat x0_5.size)) t103 _ A33.out).mono ?_); rintro e w' ⟨rfl, ⟨nd, rfl⟩⟩; (try first | exact ⟨rfl, _, World.drewN_drewN _ _ _⟩ | exact ⟨rfl, _, Eq.trans (World.drewN_drewN _ _ _) (congrArg (World.drewN _) (Nat.add_assoc _ _ _))⟩)) | (go_at_call 30; (with_reducible refine (contangoref03_signed.calls kj8 t103 x4_1 t104 t105 _ A34.out).mono ?_); rintro e w' ⟨rfl, ⟨nd, rfl⟩⟩; (try first | exact ⟨rfl, _, World.drewN_drewN _ _ _⟩ | exact ⟨rfl, _, Eq.trans (World.drewN_drewN _ _ _) (congrArg (World.drewN _) (Nat.add_assoc _ _ _))⟩)))
                          repeat (go_quiet (first | (go_at_call 31; (with_reducible refine (contangoref03_value.calls kj8 ((x0_5.extract 0 ((ji26) : Int).toNat) ++ (x0_5.extract ((ji29) : Int).toNat x0_5.size)) t103 _ A33.out).mono ?_); rintro e w' ⟨rfl, ⟨nd, rfl⟩⟩; (try first | exact ⟨rfl, _, World.drewN_drewN _ _ _⟩ | exact ⟨rfl, _, Eq.trans (World.drewN_drewN _ _ _) (congrArg (World.drewN _) (Nat.add_assoc _ _ _))⟩)) | (go_at_call 30; (with_reducible refine (contangoref03_signed.calls kj8 t103 x4_1 t104 t105 _ A34.out).mono ?_); rintro e w' ⟨rfl, ⟨nd, rfl⟩⟩; (try first | exact ⟨rfl, _, World.drewN_drewN _ _ _⟩ | exact ⟨rfl, _, Eq.trans (World.drewN_drewN _ _ _) (congrArg (World.drewN _) (Nat.add_assoc _ _ _))⟩))); try go_wp2_with (first | (go_at_call 31; (with_reducible refine (contangoref03_value.calls kj8 ((x0_5.extract 0 ((ji26) : Int).toNat) ++ (x0_5.extract ((ji29) : Int).toNat x0_5.size)) t103 _ A33.out).mono ?_); rintro e w' ⟨rfl, ⟨nd, rfl⟩⟩; (try first | exact ⟨rfl, _, World.drewN_drewN _ _ _⟩ | exact ⟨rfl, _, Eq.trans (World.drewN_drewN _ _ _) (congrArg (World.drewN _) (Nat.add_assoc _ _ _))⟩)) | (go_at_call 30; (with_reducible refine (contangoref03_signed.calls kj8 t103 x4_1 t104 t105 _ A34.out).mono ?_); rintro e w' ⟨rfl, ⟨nd, rfl⟩⟩; (try first | exact ⟨rfl, _, World.drewN_drewN _ _ _⟩ | exact ⟨rfl, _, Eq.trans (World.drewN_drewN _ _ _) (congrArg (World.drewN _) (Nat.add_assoc _ _ _))⟩))))
                          go_ret2
                          exact ⟨by first | rfl | (simp; done) | (simp only [← hji26, ← hji29] <;> (first | rfl | simp)) | (simp [*]; done), by repeat (first | exact Drawn0.refl _ | apply Drawn0.step)⟩
                        · rw [if_neg c32] at H
                          exact absurd H (by simp)
                      · rw [if_neg c31] at H
                        exact absurd H (by simp)
                    · rw [if_neg c30] at H
                      exact absurd H (by simp)
                  · rw [if_neg c28] at H
                    exact absurd H (by simp)
                · rw [if_neg c27] at H
                  exact absurd H (by simp)
end Go.Proofs.YtgaicbhbgephbaaDoor.X
end
section
namespace Go.Proofs.YtgaicbhbgephbaaDoor.X
open Go.RowKit Go.Proofs.YtgaicbhbgephbaaDoorW.PrintWords Go.Proofs.YtgaicbhbgephbaaDoorW.PrintLast Go.Proofs.YtgaicbhbgephbaaDoorW.PrintMore
attribute [local go_sem] max2_int min2_int max_two min_two max_three min_three max_four min_four
set_option linter.unusedVariables false
set_option linter.unusedSimpArgs false
mutual
def contangoref03_Int.j0 : Nat → ByteArray → Bool → Option (Int × Int)
  | 0, _, _ => none
  | k + 1, x0, x4 => if x4 = true then (if 1 ≤ (x0.size : Int) then (contangoref03_Int.j1 k (x0.extract 1 x0.size) x4) else (none)) else (contangoref03_Int.j1 k x0 x4)
def contangoref03_Int.j1 : Nat → ByteArray → Bool → Option (Int × Int)
  | 0, _, _ => none
  | k + 1, x0, x4 => (contangoref03_digits.f k x0).bind fun t101 => (if t101 = true then ((contangoref03_value.f k x0).bind fun t102 => ((contangoref03_signed.f k t102 x4).bind fun bt103 => (some (bt103.1, bt103.2)))) else (some (0, 5)))
end
def contangoref03_Int.f (k : Nat) (a0 : ByteArray) : Option (Int × Int) := if (a0.size : Int) > 0 then (if 0 < (a0.size : Int) then (contangoref03_Int.j0 k a0 ((bt a0 0) == 45)) else (none)) else (contangoref03_Int.j0 k a0 false)
set_option maxHeartbeats 8000000 in
set_option maxRecDepth 100000 in
theorem contangoref03_Int.calls (k : Nat) (a0 : ByteArray) (r1 : Int) (r2 : Int) (w : World) (h : contangoref03_Int.f k a0 = some (r1, r2)) :
    Calls Tryd.prog 9 #[.string a0] w fun e w' => e = .returned (.tuple #[.int .i64 r1, .int .i64 r2]) ∧ Drawn0 w w' := by
  have H : (if (a0.size : Int) > 0 then (if 0 < (a0.size : Int) then (contangoref03_Int.j0 k a0 ((bt a0 0) == 45)) else (none)) else (contangoref03_Int.j0 k a0 false)) = some (r1, r2) := h
  clear h
  have HC2 := Aside0.mk H
  clear H
  go_enter Tryd.func9, Tryd.ntmps9
  go_upto_region 1 with (fail)
  go_cut [4] (fun v4 wc => ∃ (kq : Nat) (x4_1 : Bool), v4 = .bool x4_1 ∧ Aside0 (contangoref03_Int.j0 kq a0 x4_1 = some (r1, r2)) ∧ Aside0 (kq ≤ k) ∧ Drawn0 w wc)
  case first =>
    have H := HC2.out
    clear HC2
    by_cases c3 : (a0.size : Int) > 0
    · rw [if_pos c3] at H
      have c3b0 : decide (0 < (a0.size : Int)) = true := decide_eq_true c3
      have c3b1 : decide (0 < a0.size) = true := decide_eq_true (by omega)
      clear c3
      (first | rw [c3b0] | (simp only [i64_w, i32_w]; rw [c3b0]) | skip)
      by_cases c4 : 0 < (a0.size : Int)
      · rw [if_pos c4] at H
        have c4b0 : decide (0 < (a0.size : Int)) = true := decide_eq_true c4
        have c4b1 : decide (0 < a0.size) = true := decide_eq_true (by omega)
        clear c4
        have H' := Aside0.mk H
        clear H
        have p5 : 0 ≤ (0 : Int) := (by omega)
        have q5 : 0 < a0.size := (by have : (0 : Int) < (a0.size : Int) := of_decide_eq_true (by first | (with_reducible assumption) | assumption); omega)
        have hx5 : ∀ h : 0 < a0.size, ((a0[0]'h).toNat : Int) = bt a0 0 := bt_at a0 0
        clear p5
        have qi5 : (0 < (a0.size : Int)) = True := eq_true (of_decide_eq_true (by first | (with_reducible assumption) | assumption))
        replace q5 := eq_true q5
        go_wp2
        go_meet
        case rel => exact ⟨_, (((bt a0 0) == 45)), (by first | rfl | (simp; done) | (simp [*]; done)), H', ⟨by first | omega | exact Nat.le_refl _⟩, by repeat (first | exact Drawn0.refl _ | apply Drawn0.step)⟩
      · rw [if_neg c4] at H
        exact absurd H (by simp)
    · rw [if_neg c3] at H
      have c3b0 : decide (0 < (a0.size : Int)) = false := decide_eq_false c3
      have c3b1 : decide (0 < a0.size) = false := decide_eq_false (by omega)
      clear c3
      (first | rw [c3b0] | (simp only [i64_w, i32_w]; rw [c3b0]) | skip)
      have H' := Aside0.mk H
      clear H
      go_wp2
      go_meet
      case rel => exact ⟨_, (false), (by first | rfl | (simp; done) | (simp [*]; done)), H', ⟨by first | omega | exact Nat.le_refl _⟩, by repeat (first | exact Drawn0.refl _ | apply Drawn0.step)⟩
  case rest =>
    clear HC2
    try clear p2
    try clear c3
    try clear c3b0
    try clear c3b1
    try clear c4
    try clear c4b0
    try clear c4b1
    try clear p5
    try clear q5
    try clear hx5
    try clear qi5
    try clear p5
    try clear q5
    obtain ⟨kq, x4_1, rfl, HA, HJ1, ⟨mc1, rfl⟩⟩ := hcut
    cases kq with
    | zero => exact absurd HA.out (by simp [contangoref03_Int.j0])
    | succ kj1 =>
      have H := HA.out
      clear HA
      simp only [contangoref03_Int.j0] at H
      have HC6 := Aside0.mk H
      clear H
      go_upto_if 13 with (fail)
      go_cut [0] (fun v0 wc => ∃ (kq : Nat) (x0_5 : ByteArray), v0 = .string x0_5 ∧ Aside0 (contangoref03_Int.j1 kq x0_5 x4_1 = some (r1, r2)) ∧ Aside0 (kq ≤ kj1) ∧ Drawn0 w wc)
      case first =>
        have H := HC6.out
        clear HC6
        by_cases c7 : x4_1 = true
        · subst c7
          have H1 : (if 1 ≤ (a0.size : Int) then (contangoref03_Int.j1 kj1 (a0.extract 1 a0.size) true) else (none)) = some (r1, r2) := by rw [if_pos rfl] at H; exact H
          clear H
          have H := H1
          clear H1
          by_cases c8 : 1 ≤ (a0.size : Int)
          · rw [if_pos c8] at H
            have c8b0 := eq_true c8
            have c8b1 : decide (1 ≤ (a0.size : Int)) = true := decide_eq_true c8
            clear c8
            have H' := Aside0.mk H
            clear H
            go_wp2
            go_meet
            case rel => exact ⟨_, (a0.extract 1 a0.size), (by first | rfl | (simp; done) | (simp [*]; done)), H', ⟨by have := HJ1.out; first | omega | exact Nat.le_refl _⟩, by repeat (first | exact Drawn0.refl _ | apply Drawn0.step)⟩
          · rw [if_neg c8] at H
            exact absurd H (by simp)
        · replace c7 := Bool.eq_false_iff.mpr c7
          subst c7
          have H1 : (contangoref03_Int.j1 kj1 a0 false) = some (r1, r2) := by rw [if_neg (show ¬ (false = true) by decide)] at H; exact H
          clear H
          have H := H1
          clear H1
          have H' := Aside0.mk H
          clear H
          go_wp2
          go_meet
          case rel => exact ⟨_, (a0), (by first | rfl | (simp; done) | (simp [*]; done)), H', ⟨by have := HJ1.out; first | omega | exact Nat.le_refl _⟩, by repeat (first | exact Drawn0.refl _ | apply Drawn0.step)⟩
      case rest =>
        clear HC6
        try clear c1
        try clear p2
        try clear c3
        try clear c3b0
        try clear c3b1
        try clear c4
        try clear c4b0
        try clear c4b1
        try clear p5
        try clear q5
        try clear hx5
        try clear qi5
        try clear c7
        try clear c8
        try clear c8b0
        try clear c8b1
        try clear p2
        try clear p5
        try clear q5
        obtain ⟨kq, x0_5, rfl, HA, HJ5, ⟨mc5, rfl⟩⟩ := hcut
        cases kq with
        | zero => exact absurd HA.out (by simp [contangoref03_Int.j1])
        | succ kj5 =>
          have H := HA.out
          clear HA
          simp only [contangoref03_Int.j1] at H
          replace H := Option.bind_eq_some_iff.mp H
          obtain ⟨t101, A90, H⟩ := H
          replace H : (if t101 = true then ((contangoref03_value.f kj5 x0_5).bind fun t102 => ((contangoref03_signed.f kj5 t102 x4_1).bind fun bt103 => (some (bt103.1, bt103.2)))) else (some (0, 5))) = some (r1, r2) := H
          have A9 := Aside0.mk A90
          clear A90
          by_cases c10 : t101 = true
          · subst c10
            have H1 : ((contangoref03_value.f kj5 x0_5).bind fun t102 => ((contangoref03_signed.f kj5 t102 x4_1).bind fun bt103 => (some (bt103.1, bt103.2)))) = some (r1, r2) := by rw [if_pos rfl] at H; exact H
            clear H
            have H := H1
            clear H1
            replace H := Option.bind_eq_some_iff.mp H
            obtain ⟨t102, A110, H⟩ := H
            replace H : ((contangoref03_signed.f kj5 t102 x4_1).bind fun bt103 => (some (bt103.1, bt103.2))) = some (r1, r2) := H
            have A11 := Aside0.mk A110
            clear A110
            replace H := Option.bind_eq_some_iff.mp H
            obtain ⟨⟨t103, t104⟩, A120, H⟩ := H
            replace H : (some (t103, t104)) = some (r1, r2) := H
            have A12 := Aside0.mk A120
            clear A120
            simp only [Option.some.injEq, Prod.mk.injEq] at H
            obtain ⟨rfl, rfl⟩ := H
            go_wp2_with (first | ((with_reducible refine gate_callee (f := 29) rfl ?_); refine goesL_ (some 17) rfl rfl Tryd.func29 (by kernel_rfl) rfl #[.string x0_5] rfl (by (try simp only [List.map_toArray, List.map_cons, List.map_nil]); first | done | rfl | (simp only [List.length_drop, List.length_take]; rfl)) ?_; (with_reducible refine (contangoref03_digits.calls kj5 x0_5 true _ A9.out).mono ?_); rintro e w' ⟨rfl, ⟨nd, rfl⟩⟩; refine ⟨_, rfl, ?_⟩) | ((with_reducible refine gate_callee (f := 31) rfl ?_); refine goesL_ (some 20) rfl rfl Tryd.func31 (by kernel_rfl) rfl #[.string x0_5] rfl (by (try simp only [List.map_toArray, List.map_cons, List.map_nil]); first | done | rfl | (simp only [List.length_drop, List.length_take]; rfl)) ?_; (with_reducible refine (contangoref03_value.calls kj5 x0_5 t102 _ A11.out).mono ?_); rintro e w' ⟨rfl, ⟨nd, rfl⟩⟩; refine ⟨_, rfl, ?_⟩) | ((with_reducible refine gate_callee (f := 30) rfl ?_); refine goesL_ (some 22) rfl rfl Tryd.func30 (by kernel_rfl) rfl #[.int .i64 t102, .bool x4_1] rfl (by (try simp only [List.map_toArray, List.map_cons, List.map_nil]); first | done | rfl | (simp only [List.length_drop, List.length_take]; rfl)) ?_; (with_reducible refine (contangoref03_signed.calls kj5 t102 x4_1 t103 t104 _ A12.out).mono ?_); rintro e w' ⟨rfl, ⟨nd, rfl⟩⟩; refine ⟨_, rfl, ?_⟩))
            go_ret2
            exact ⟨by first | rfl | (simp; done) | (simp [*]; done), by repeat (first | exact Drawn0.refl _ | apply Drawn0.step)⟩
          · replace c10 := Bool.eq_false_iff.mpr c10
            subst c10
            have H1 : (some (0, 5)) = some (r1, r2) := by rw [if_neg (show ¬ (false = true) by decide)] at H; exact H
            clear H
            have H := H1
            clear H1
            simp only [Option.some.injEq, Prod.mk.injEq] at H
            obtain ⟨rfl, rfl⟩ := H
            go_wp2_with (first | ((with_reducible refine gate_callee (f := 29) rfl ?_); refine goesL_ (some 17) rfl rfl Tryd.func29 (by kernel_rfl) rfl #[.string x0_5] rfl (by (try simp only [List.map_toArray, List.map_cons, List.map_nil]); first | done | rfl | (simp only [List.length_drop, List.length_take]; rfl)) ?_; (with_reducible refine (contangoref03_digits.calls kj5 x0_5 false _ A9.out).mono ?_); rintro e w' ⟨rfl, ⟨nd, rfl⟩⟩; refine ⟨_, rfl, ?_⟩))
            go_ret2
            exact ⟨by first | rfl | (simp; done) | (simp [*]; done), by repeat (first | exact Drawn0.refl _ | apply Drawn0.step)⟩
end Go.Proofs.YtgaicbhbgephbaaDoor.X
end
section
namespace Go.Proofs.YtgaicbhbgephbaaDoor.X
open Go.RowKit Go.Proofs.YtgaicbhbgephbaaDoorW.PrintWords Go.Proofs.YtgaicbhbgephbaaDoorW.PrintLast Go.Proofs.YtgaicbhbgephbaaDoorW.PrintMore
attribute [local go_sem] max2_int min2_int max_two min_two max_three min_three max_four min_four
set_option linter.unusedVariables false
set_option linter.unusedSimpArgs false
def contangoref03_Name.l0 : Nat → ByteArray → Int → Option (Bool)
  | 0, _, _ => none
  | k + 1, x0, x3 => if x3 < (x0.size : Int) then (if 0 ≤ x3 then (if (bt x0 x3) ≥ 97 then (if ((bt x0 x3) ≤ 122) then (contangoref03_Name.l0 k x0 (wrap64 (x3 + 1))) else (if x3 = 0 then (some false) else (if (bt x0 x3) < 48 then (some false) else (if (bt x0 x3) > 57 then (some false) else (contangoref03_Name.l0 k x0 (wrap64 (x3 + 1))))))) else (if x3 = 0 then (some false) else (if (bt x0 x3) < 48 then (some false) else (if (bt x0 x3) > 57 then (some false) else (contangoref03_Name.l0 k x0 (wrap64 (x3 + 1))))))) else (none)) else (if (x0.size : Int) > 0 then (some (decide ((x0.size : Int) ≤ 12))) else (some false))
def contangoref03_Name.f (k : Nat) (a0 : ByteArray) : Option (Bool) := contangoref03_Name.l0 k a0 0
set_option maxHeartbeats 8000000 in
set_option maxRecDepth 100000 in
theorem contangoref03_Name.calls (k : Nat) (a0 : ByteArray) (r : Bool) (w : World) (h : contangoref03_Name.f k a0 = some r) :
    Calls Tryd.prog 13 #[.string a0] w fun e w' => e = .returned (.bool r) ∧ Drawn0 w w' := by
  have H : (contangoref03_Name.l0 k a0 0) = some r := h
  clear h
  have H' := Aside0.mk H
  clear H
  go_enter Tryd.func13, Tryd.ntmps13
  go_wp2
  go_loopg [3] k (fun kq v3 w' => ∃ (x3_1 : Int), v3 = .int .i64 x3_1 ∧ Aside0 (contangoref03_Name.l0 kq a0 x3_1 = some r) ∧ Aside0 (kq ≤ k) ∧ Drawn0 w w')
  case atStart => exact ⟨(0), (by first | rfl | (simp; done) | (simp [*]; done)), H', ⟨Nat.le_refl _⟩, by repeat (first | exact Drawn0.refl _ | apply Drawn0.step)⟩
  case round =>
    clear H'
    try clear c1
    obtain ⟨x3_1, rfl, HA, HK1, ⟨m1, rfl⟩⟩ := hrel
    cases gk with
    | zero => exact absurd HA.out (by simp [contangoref03_Name.l0])
    | succ k1 =>
      have H := HA.out
      clear HA
      simp only [contangoref03_Name.l0] at H
      by_cases c2 : x3_1 < (a0.size : Int)
      · rw [if_pos c2] at H
        have c2b0 : decide (x3_1 < (a0.size : Int)) = true := decide_eq_true c2
        clear c2
        by_cases c3 : 0 ≤ x3_1
        · rw [if_pos c3] at H
          have c3b0 : decide (0 ≤ x3_1) = true := decide_eq_true c3
          clear c3
          by_cases c5 : (bt a0 x3_1) ≥ 97
          · rw [if_pos c5] at H
            have c5b0 : decide (97 ≤ (bt a0 x3_1)) = true := decide_eq_true c5
            clear c5
            by_cases c7 : ((bt a0 x3_1) ≤ 122)
            · rw [if_pos c7] at H
              have c7b0 : decide ((bt a0 x3_1) ≤ 122) = true := decide_eq_true c7
              clear c7
              have H' := Aside0.mk H
              clear H
              have p4 : 0 ≤ (x3_1 : Int) := of_decide_eq_true (by first | (with_reducible assumption) | assumption)
              have q4 : x3_1 < (a0.size : Int) := of_decide_eq_true (by first | (with_reducible assumption) | assumption)
              have hx4 := bt_at a0 x3_1
              replace p4 := eq_true p4
              replace q4 := eq_true q4
              have p6 : 0 ≤ (x3_1 : Int) := of_decide_eq_true (by first | (with_reducible assumption) | assumption)
              have q6 : x3_1 < (a0.size : Int) := of_decide_eq_true (by first | (with_reducible assumption) | assumption)
              have hx6 := bt_at a0 x3_1
              replace p6 := eq_true p6
              replace q6 := eq_true q6
              go_wp2
              go_roundg k1
              case measure => have := HK1.out; omega
              case rel => exact ⟨(wrap64 (x3_1 + 1)), (by first | rfl | (simp; done) | (simp [*]; done)), H', ⟨by have := HK1.out; omega⟩, by repeat (first | exact Drawn0.refl _ | apply Drawn0.step)⟩
            · rw [if_neg c7] at H
              have c7b0 : decide ((bt a0 x3_1) ≤ 122) = false := decide_eq_false c7
              clear c7
              by_cases c8 : x3_1 = 0
              · rw [if_pos c8] at H
                have c8b0 : (x3_1 == 0) = true := beq_iff_eq.mpr c8
                have c8b1 : (x3_1 != 0) = false := bne_eq_false_iff_eq.mpr c8
                clear c8
                obtain rfl := Option.some.inj H
                have p4 : 0 ≤ (x3_1 : Int) := of_decide_eq_true (by first | (with_reducible assumption) | assumption)
                have q4 : x3_1 < (a0.size : Int) := of_decide_eq_true (by first | (with_reducible assumption) | assumption)
                have hx4 := bt_at a0 x3_1
                replace p4 := eq_true p4
                replace q4 := eq_true q4
                have p6 : 0 ≤ (x3_1 : Int) := of_decide_eq_true (by first | (with_reducible assumption) | assumption)
                have q6 : x3_1 < (a0.size : Int) := of_decide_eq_true (by first | (with_reducible assumption) | assumption)
                have hx6 := bt_at a0 x3_1
                replace p6 := eq_true p6
                replace q6 := eq_true q6
                go_wp2
                go_ret
                exact ⟨by first | rfl | (simp; done) | (simp [*]; done), by repeat (first | exact Drawn0.refl _ | apply Drawn0.step)⟩
              · rw [if_neg c8] at H
                have c8b0 : (x3_1 == 0) = false := beq_eq_false_iff_ne.mpr c8
                have c8b1 : (x3_1 != 0) = true := bne_iff_ne.mpr c8
                by_cases c10 : (bt a0 x3_1) < 48
                · rw [if_pos c10] at H
                  have c10b0 : decide ((bt a0 x3_1) < 48) = true := decide_eq_true c10
                  clear c10
                  obtain rfl := Option.some.inj H
                  have p4 : 0 ≤ (x3_1 : Int) := of_decide_eq_true (by first | (with_reducible assumption) | assumption)
                  have q4 : x3_1 < (a0.size : Int) := of_decide_eq_true (by first | (with_reducible assumption) | assumption)
                  have hx4 := bt_at a0 x3_1
                  replace p4 := eq_true p4
                  replace q4 := eq_true q4
                  have p6 : 0 ≤ (x3_1 : Int) := of_decide_eq_true (by first | (with_reducible assumption) | assumption)
                  have q6 : x3_1 < (a0.size : Int) := of_decide_eq_true (by first | (with_reducible assumption) | assumption)
                  have hx6 := bt_at a0 x3_1
                  replace p6 := eq_true p6
                  replace q6 := eq_true q6
                  have p9 : 0 ≤ (x3_1 : Int) := of_decide_eq_true (by first | (with_reducible assumption) | assumption)
                  have q9 : x3_1 < (a0.size : Int) := of_decide_eq_true (by first | (with_reducible assumption) | assumption)
                  have hx9 := bt_at a0 x3_1
                  replace p9 := eq_true p9
                  replace q9 := eq_true q9
                  go_wp2
                  go_ret
                  exact ⟨by first | rfl | (simp; done) | (simp [*]; done), by repeat (first | exact Drawn0.refl _ | apply Drawn0.step)⟩
                · rw [if_neg c10] at H
                  have c10b0 : decide ((bt a0 x3_1) < 48) = false := decide_eq_false c10
                  clear c10
                  by_cases c12 : (bt a0 x3_1) > 57
                  · rw [if_pos c12] at H
                    have c12b0 : decide (57 < (bt a0 x3_1)) = true := decide_eq_true c12
                    clear c12
                    obtain rfl := Option.some.inj H
                    have p4 : 0 ≤ (x3_1 : Int) := of_decide_eq_true (by first | (with_reducible assumption) | assumption)
                    have q4 : x3_1 < (a0.size : Int) := of_decide_eq_true (by first | (with_reducible assumption) | assumption)
                    have hx4 := bt_at a0 x3_1
                    replace p4 := eq_true p4
                    replace q4 := eq_true q4
                    have p6 : 0 ≤ (x3_1 : Int) := of_decide_eq_true (by first | (with_reducible assumption) | assumption)
                    have q6 : x3_1 < (a0.size : Int) := of_decide_eq_true (by first | (with_reducible assumption) | assumption)
                    have hx6 := bt_at a0 x3_1
                    replace p6 := eq_true p6
                    replace q6 := eq_true q6
                    have p9 : 0 ≤ (x3_1 : Int) := of_decide_eq_true (by first | (with_reducible assumption) | assumption)
                    have q9 : x3_1 < (a0.size : Int) := of_decide_eq_true (by first | (with_reducible assumption) | assumption)
                    have hx9 := bt_at a0 x3_1
                    replace p9 := eq_true p9
                    replace q9 := eq_true q9
                    have p11 : 0 ≤ (x3_1 : Int) := of_decide_eq_true (by first | (with_reducible assumption) | assumption)
                    have q11 : x3_1 < (a0.size : Int) := of_decide_eq_true (by first | (with_reducible assumption) | assumption)
                    have hx11 := bt_at a0 x3_1
                    replace p11 := eq_true p11
                    replace q11 := eq_true q11
                    go_wp2
                    go_ret
                    exact ⟨by first | rfl | (simp; done) | (simp [*]; done), by repeat (first | exact Drawn0.refl _ | apply Drawn0.step)⟩
                  · rw [if_neg c12] at H
                    have c12b0 : decide (57 < (bt a0 x3_1)) = false := decide_eq_false c12
                    clear c12
                    have H' := Aside0.mk H
                    clear H
                    have p4 : 0 ≤ (x3_1 : Int) := of_decide_eq_true (by first | (with_reducible assumption) | assumption)
                    have q4 : x3_1 < (a0.size : Int) := of_decide_eq_true (by first | (with_reducible assumption) | assumption)
                    have hx4 := bt_at a0 x3_1
                    replace p4 := eq_true p4
                    replace q4 := eq_true q4
                    have p6 : 0 ≤ (x3_1 : Int) := of_decide_eq_true (by first | (with_reducible assumption) | assumption)
                    have q6 : x3_1 < (a0.size : Int) := of_decide_eq_true (by first | (with_reducible assumption) | assumption)
                    have hx6 := bt_at a0 x3_1
                    replace p6 := eq_true p6
                    replace q6 := eq_true q6
                    have p9 : 0 ≤ (x3_1 : Int) := of_decide_eq_true (by first | (with_reducible assumption) | assumption)
                    have q9 : x3_1 < (a0.size : Int) := of_decide_eq_true (by first | (with_reducible assumption) | assumption)
                    have hx9 := bt_at a0 x3_1
                    replace p9 := eq_true p9
                    replace q9 := eq_true q9
                    have p11 : 0 ≤ (x3_1 : Int) := of_decide_eq_true (by first | (with_reducible assumption) | assumption)
                    have q11 : x3_1 < (a0.size : Int) := of_decide_eq_true (by first | (with_reducible assumption) | assumption)
                    have hx11 := bt_at a0 x3_1
                    replace p11 := eq_true p11
                    replace q11 := eq_true q11
                    go_wp2
                    go_roundg k1
                    case measure => have := HK1.out; omega
                    case rel => exact ⟨(wrap64 (x3_1 + 1)), (by first | rfl | (simp; done) | (simp [*]; done)), H', ⟨by have := HK1.out; omega⟩, by repeat (first | exact Drawn0.refl _ | apply Drawn0.step)⟩
          · rw [if_neg c5] at H
            have c5b0 : decide (97 ≤ (bt a0 x3_1)) = false := decide_eq_false c5
            clear c5
            by_cases c13 : x3_1 = 0
            · rw [if_pos c13] at H
              have c13b0 : (x3_1 == 0) = true := beq_iff_eq.mpr c13
              have c13b1 : (x3_1 != 0) = false := bne_eq_false_iff_eq.mpr c13
              clear c13
              obtain rfl := Option.some.inj H
              have p4 : 0 ≤ (x3_1 : Int) := of_decide_eq_true (by first | (with_reducible assumption) | assumption)
              have q4 : x3_1 < (a0.size : Int) := of_decide_eq_true (by first | (with_reducible assumption) | assumption)
              have hx4 := bt_at a0 x3_1
              replace p4 := eq_true p4
              replace q4 := eq_true q4
              go_wp2
              go_ret
              exact ⟨by first | rfl | (simp; done) | (simp [*]; done), by repeat (first | exact Drawn0.refl _ | apply Drawn0.step)⟩
            · rw [if_neg c13] at H
              have c13b0 : (x3_1 == 0) = false := beq_eq_false_iff_ne.mpr c13
              have c13b1 : (x3_1 != 0) = true := bne_iff_ne.mpr c13
              by_cases c15 : (bt a0 x3_1) < 48
              · rw [if_pos c15] at H
                have c15b0 : decide ((bt a0 x3_1) < 48) = true := decide_eq_true c15
                clear c15
                obtain rfl := Option.some.inj H
                have p4 : 0 ≤ (x3_1 : Int) := of_decide_eq_true (by first | (with_reducible assumption) | assumption)
                have q4 : x3_1 < (a0.size : Int) := of_decide_eq_true (by first | (with_reducible assumption) | assumption)
                have hx4 := bt_at a0 x3_1
                replace p4 := eq_true p4
                replace q4 := eq_true q4
                have p14 : 0 ≤ (x3_1 : Int) := of_decide_eq_true (by first | (with_reducible assumption) | assumption)
                have q14 : x3_1 < (a0.size : Int) := of_decide_eq_true (by first | (with_reducible assumption) | assumption)
                have hx14 := bt_at a0 x3_1
                replace p14 := eq_true p14
                replace q14 := eq_true q14
                go_wp2
                go_ret
                exact ⟨by first | rfl | (simp; done) | (simp [*]; done), by repeat (first | exact Drawn0.refl _ | apply Drawn0.step)⟩
              · rw [if_neg c15] at H
                have c15b0 : decide ((bt a0 x3_1) < 48) = false := decide_eq_false c15
                clear c15
                by_cases c17 : (bt a0 x3_1) > 57
                · rw [if_pos c17] at H
                  have c17b0 : decide (57 < (bt a0 x3_1)) = true := decide_eq_true c17
                  clear c17
                  obtain rfl := Option.some.inj H
                  have p4 : 0 ≤ (x3_1 : Int) := of_decide_eq_true (by first | (with_reducible assumption) | assumption)
                  have q4 : x3_1 < (a0.size : Int) := of_decide_eq_true (by first | (with_reducible assumption) | assumption)
                  have hx4 := bt_at a0 x3_1
                  replace p4 := eq_true p4
                  replace q4 := eq_true q4
                  have p14 : 0 ≤ (x3_1 : Int) := of_decide_eq_true (by first | (with_reducible assumption) | assumption)
                  have q14 : x3_1 < (a0.size : Int) := of_decide_eq_true (by first | (with_reducible assumption) | assumption)
                  have hx14 := bt_at a0 x3_1
                  replace p14 := eq_true p14
                  replace q14 := eq_true q14
                  have p16 : 0 ≤ (x3_1 : Int) := of_decide_eq_true (by first | (with_reducible assumption) | assumption)
                  have q16 : x3_1 < (a0.size : Int) := of_decide_eq_true (by first | (with_reducible assumption) | assumption)
                  have hx16 := bt_at a0 x3_1
                  replace p16 := eq_true p16
                  replace q16 := eq_true q16
                  go_wp2
                  go_ret
                  exact ⟨by first | rfl | (simp; done) | (simp [*]; done), by repeat (first | exact Drawn0.refl _ | apply Drawn0.step)⟩
                · rw [if_neg c17] at H
                  have c17b0 : decide (57 < (bt a0 x3_1)) = false := decide_eq_false c17
                  clear c17
                  have H' := Aside0.mk H
                  clear H
                  have p4 : 0 ≤ (x3_1 : Int) := of_decide_eq_true (by first | (with_reducible assumption) | assumption)
                  have q4 : x3_1 < (a0.size : Int) := of_decide_eq_true (by first | (with_reducible assumption) | assumption)
                  have hx4 := bt_at a0 x3_1
                  replace p4 := eq_true p4
                  replace q4 := eq_true q4
                  have p14 : 0 ≤ (x3_1 : Int) := of_decide_eq_true (by first | (with_reducible assumption) | assumption)
                  have q14 : x3_1 < (a0.size : Int) := of_decide_eq_true (by first | (with_reducible assumption) | assumption)
                  have hx14 := bt_at a0 x3_1
                  replace p14 := eq_true p14
                  replace q14 := eq_true q14
                  have p16 : 0 ≤ (x3_1 : Int) := of_decide_eq_true (by first | (with_reducible assumption) | assumption)
                  have q16 : x3_1 < (a0.size : Int) := of_decide_eq_true (by first | (with_reducible assumption) | assumption)
                  have hx16 := bt_at a0 x3_1
                  replace p16 := eq_true p16
                  replace q16 := eq_true q16
                  go_wp2
                  go_roundg k1
                  case measure => have := HK1.out; omega
                  case rel => exact ⟨(wrap64 (x3_1 + 1)), (by first | rfl | (simp; done) | (simp [*]; done)), H', ⟨by have := HK1.out; omega⟩, by repeat (first | exact Drawn0.refl _ | apply Drawn0.step)⟩
        · rw [if_neg c3] at H
          exact absurd H (by simp)
      · rw [if_neg c2] at H
        have c2b0 : decide (x3_1 < (a0.size : Int)) = false := decide_eq_false c2
        clear c2
        by_cases c18 : (a0.size : Int) > 0
        · rw [if_pos c18] at H
          have c18b0 : decide (0 < (a0.size : Int)) = true := decide_eq_true c18
          have c18b1 : decide (0 < a0.size) = true := decide_eq_true (by omega)
          clear c18
          obtain rfl := Option.some.inj H
          go_wp2
          go_ret
          exact ⟨by first | rfl | (simp; done) | (simp [*]; done), by repeat (first | exact Drawn0.refl _ | apply Drawn0.step)⟩
        · rw [if_neg c18] at H
          have c18b0 : decide (0 < (a0.size : Int)) = false := decide_eq_false c18
          have c18b1 : decide (0 < a0.size) = false := decide_eq_false (by omega)
          clear c18
          obtain rfl := Option.some.inj H
          go_wp2
          go_ret
          exact ⟨by first | rfl | (simp; done) | (simp [*]; done), by repeat (first | exact Drawn0.refl _ | apply Drawn0.step)⟩
end Go.Proofs.YtgaicbhbgephbaaDoor.X
end
section
namespace Go.Proofs.YtgaicbhbgephbaaDoor.X
open Go.RowKit Go.Proofs.YtgaicbhbgephbaaDoorW.PrintWords Go.Proofs.YtgaicbhbgephbaaDoorW.PrintLast Go.Proofs.YtgaicbhbgephbaaDoorW.PrintMore
attribute [local go_sem] max2_int min2_int max_two min_two max_three min_three max_four min_four
set_option linter.unusedVariables false
set_option linter.unusedSimpArgs false
def contangolaw03_WordsReads.f (k : Nat) (a0 : ByteArray) : Option (Bool) := (words_Int.f k a0).bind fun bt101 => ((contangoref03_Int.f k a0).bind fun bt103 => ((words_Cents.f k a0).bind fun bt105 => ((contangoref03_Cents.f k a0).bind fun bt107 => ((words_Name.f k a0).bind fun t109 => ((contangoref03_Name.f k a0).bind fun t110 => (if (t109 == t110) = true then (if bt101.1 = bt103.1 then (if bt101.2 = bt103.2 then (if bt105.1 = bt107.1 then (if bt105.2 = bt107.2 then ((contangolaw03_goes.f k).bind fun t111 => (some t111)) else (none)) else (none)) else (none)) else (none)) else (none)))))))
set_option maxHeartbeats 8000000 in
set_option maxRecDepth 100000 in
theorem contangolaw03_WordsReads.calls (k : Nat) (a0 : ByteArray) (r : Bool) (w : World) (h : contangolaw03_WordsReads.f k a0 = some r) :
    Calls Tryd.prog 3 #[.string a0] w fun e w' => e = .returned (.bool r) ∧ Below w.heap.size w w' := by
  have HB := Aside0.mk (Below.refl w.heap.size w)
  have H : ((words_Int.f k a0).bind fun bt101 => ((contangoref03_Int.f k a0).bind fun bt103 => ((words_Cents.f k a0).bind fun bt105 => ((contangoref03_Cents.f k a0).bind fun bt107 => ((words_Name.f k a0).bind fun t109 => ((contangoref03_Name.f k a0).bind fun t110 => (if (t109 == t110) = true then (if bt101.1 = bt103.1 then (if bt101.2 = bt103.2 then (if bt105.1 = bt107.1 then (if bt105.2 = bt107.2 then ((contangolaw03_goes.f k).bind fun t111 => (some t111)) else (none)) else (none)) else (none)) else (none)) else (none)))))))) = some r := h
  clear h
  replace H := Option.bind_eq_some_iff.mp H
  obtain ⟨⟨t101, t102⟩, A20, H⟩ := H
  replace H : ((contangoref03_Int.f k a0).bind fun bt103 => ((words_Cents.f k a0).bind fun bt105 => ((contangoref03_Cents.f k a0).bind fun bt107 => ((words_Name.f k a0).bind fun t109 => ((contangoref03_Name.f k a0).bind fun t110 => (if (t109 == t110) = true then (if t101 = bt103.1 then (if t102 = bt103.2 then (if bt105.1 = bt107.1 then (if bt105.2 = bt107.2 then ((contangolaw03_goes.f k).bind fun t111 => (some t111)) else (none)) else (none)) else (none)) else (none)) else (none))))))) = some r := H
  have A2 := Aside0.mk A20
  clear A20
  replace H := Option.bind_eq_some_iff.mp H
  obtain ⟨⟨t103, t104⟩, A30, H⟩ := H
  replace H : ((words_Cents.f k a0).bind fun bt105 => ((contangoref03_Cents.f k a0).bind fun bt107 => ((words_Name.f k a0).bind fun t109 => ((contangoref03_Name.f k a0).bind fun t110 => (if (t109 == t110) = true then (if t101 = t103 then (if t102 = t104 then (if bt105.1 = bt107.1 then (if bt105.2 = bt107.2 then ((contangolaw03_goes.f k).bind fun t111 => (some t111)) else (none)) else (none)) else (none)) else (none)) else (none)))))) = some r := H
  have A3 := Aside0.mk A30
  clear A30
  replace H := Option.bind_eq_some_iff.mp H
  obtain ⟨⟨t105, t106⟩, A40, H⟩ := H
  replace H : ((contangoref03_Cents.f k a0).bind fun bt107 => ((words_Name.f k a0).bind fun t109 => ((contangoref03_Name.f k a0).bind fun t110 => (if (t109 == t110) = true then (if t101 = t103 then (if t102 = t104 then (if t105 = bt107.1 then (if t106 = bt107.2 then ((contangolaw03_goes.f k).bind fun t111 => (some t111)) else (none)) else (none)) else (none)) else (none)) else (none))))) = some r := H
  have A4 := Aside0.mk A40
  clear A40
  replace H := Option.bind_eq_some_iff.mp H
  obtain ⟨⟨t107, t108⟩, A50, H⟩ := H
  replace H : ((words_Name.f k a0).bind fun t109 => ((contangoref03_Name.f k a0).bind fun t110 => (if (t109 == t110) = true then (if t101 = t103 then (if t102 = t104 then (if t105 = t107 then (if t106 = t108 then ((contangolaw03_goes.f k).bind fun t111 => (some t111)) else (none)) else (none)) else (none)) else (none)) else (none)))) = some r := H
  have A5 := Aside0.mk A50
  clear A50
  replace H := Option.bind_eq_some_iff.mp H
  obtain ⟨t109, A60, H⟩ := H
  replace H : ((contangoref03_Name.f k a0).bind fun t110 => (if (t109 == t110) = true then (if t101 = t103 then (if t102 = t104 then (if t105 = t107 then (if t106 = t108 then ((contangolaw03_goes.f k).bind fun t111 => (some t111)) else (none)) else (none)) else (none)) else (none)) else (none))) = some r := H
  have A6 := Aside0.mk A60
  clear A60
  replace H := Option.bind_eq_some_iff.mp H
  obtain ⟨t110, A70, H⟩ := H
  replace H : (if (t109 == t110) = true then (if t101 = t103 then (if t102 = t104 then (if t105 = t107 then (if t106 = t108 then ((contangolaw03_goes.f k).bind fun t111 => (some t111)) else (none)) else (none)) else (none)) else (none)) else (none)) = some r := H
  have A7 := Aside0.mk A70
  clear A70
  by_cases c8 : (t109 == t110) = true
  · rw [if_pos c8] at H
    have c8b0 : (t109 == t110) = true := c8
    (try (have c8b1 : decide (t109 = t110) = true := by simpa using c8))
    (try (have c8b2 : (t109 == t110) = true := by simpa using c8))
    clear c8
    by_cases c9 : t101 = t103
    · rw [if_pos c9] at H
      have c9b0 : (t101 == t103) = true := beq_iff_eq.mpr c9
      have c9b1 : (t101 != t103) = false := bne_eq_false_iff_eq.mpr c9
      clear c9
      by_cases c10 : t102 = t104
      · rw [if_pos c10] at H
        have c10b0 : (t102 == t104) = true := beq_iff_eq.mpr c10
        have c10b1 : (t102 != t104) = false := bne_eq_false_iff_eq.mpr c10
        clear c10
        by_cases c11 : t105 = t107
        · rw [if_pos c11] at H
          have c11b0 : (t105 == t107) = true := beq_iff_eq.mpr c11
          have c11b1 : (t105 != t107) = false := bne_eq_false_iff_eq.mpr c11
          clear c11
          by_cases c12 : t106 = t108
          · rw [if_pos c12] at H
            have c12b0 : (t106 == t108) = true := beq_iff_eq.mpr c12
            have c12b1 : (t106 != t108) = false := bne_eq_false_iff_eq.mpr c12
            clear c12
            replace H := Option.bind_eq_some_iff.mp H
            obtain ⟨t111, A130, H⟩ := H
            replace H : (some t111) = some r := H
            have A13 := Aside0.mk A130
            clear A130
            obtain rfl := Option.some.inj H
            go_enter Tryd.func3, Tryd.ntmps3
            go_wp2_with (first | ((with_reducible refine gate_callee (f := 8) rfl ?_); refine goesL_ (some 13) rfl rfl Tryd.func8 (by kernel_rfl) rfl #[.string a0] rfl (by (try simp only [List.map_toArray, List.map_cons, List.map_nil]); first | done | rfl | (simp only [List.length_drop, List.length_take]; rfl)) ?_; (with_reducible refine (words_Int.calls k a0 t101 t102 _ A2.out).mono ?_); rintro e w' ⟨rfl, ⟨nd, rfl⟩⟩; refine ⟨_, rfl, ?_⟩) | ((with_reducible refine gate_callee (f := 9) rfl ?_); refine goesL_ (some 18) rfl rfl Tryd.func9 (by kernel_rfl) rfl #[.string a0] rfl (by (try simp only [List.map_toArray, List.map_cons, List.map_nil]); first | done | rfl | (simp only [List.length_drop, List.length_take]; rfl)) ?_; (with_reducible refine (contangoref03_Int.calls k a0 t103 t104 _ A3.out).mono ?_); rintro e w' ⟨rfl, ⟨nd, rfl⟩⟩; refine ⟨_, rfl, ?_⟩) | ((with_reducible refine gate_callee (f := 10) rfl ?_); refine goesL_ (some 23) rfl rfl Tryd.func10 (by kernel_rfl) rfl #[.string a0] rfl (by (try simp only [List.map_toArray, List.map_cons, List.map_nil]); first | done | rfl | (simp only [List.length_drop, List.length_take]; rfl)) ?_; (with_reducible refine (words_Cents.calls k a0 t105 t106 _ A4.out).mono ?_); rintro e w' ⟨rfl, ⟨nd, rfl⟩⟩; refine ⟨_, rfl, ?_⟩) | ((with_reducible refine gate_callee (f := 11) rfl ?_); refine goesL_ (some 28) rfl rfl Tryd.func11 (by kernel_rfl) rfl #[.string a0] rfl (by (try simp only [List.map_toArray, List.map_cons, List.map_nil]); first | done | rfl | (simp only [List.length_drop, List.length_take]; rfl)) ?_; (with_reducible refine (contangoref03_Cents.calls k a0 t107 t108 _ A5.out).mono ?_); rintro e w' ⟨rfl, ⟨nd, rfl⟩⟩; refine ⟨_, rfl, ?_⟩) | ((with_reducible refine gate_callee (f := 12) rfl ?_); refine goesL_ (some 32) rfl rfl Tryd.func12 (by kernel_rfl) rfl #[.string a0] rfl (by (try simp only [List.map_toArray, List.map_cons, List.map_nil]); first | done | rfl | (simp only [List.length_drop, List.length_take]; rfl)) ?_; (with_reducible refine (words_Name.calls k a0 t109 _ A6.out).mono ?_); rintro e w' ⟨rfl, ⟨nd, rfl⟩⟩; refine ⟨_, rfl, ?_⟩) | ((with_reducible refine gate_callee (f := 13) rfl ?_); refine goesL_ (some 34) rfl rfl Tryd.func13 (by kernel_rfl) rfl #[.string a0] rfl (by (try simp only [List.map_toArray, List.map_cons, List.map_nil]); first | done | rfl | (simp only [List.length_drop, List.length_take]; rfl)) ?_; (with_reducible refine (contangoref03_Name.calls k a0 t110 _ A7.out).mono ?_); rintro e w' ⟨rfl, ⟨nd, rfl⟩⟩; refine ⟨_, rfl, ?_⟩) | (go_at_call 14; (with_reducible refine (contangolaw03_goes.calls k  t111 _ A13.out).mono ?_); rintro e w14 ⟨rfl, hb⟩; have n0_ := Aside0.mk (below_step (by repeat (first | (with_reducible first | exact HB.out | apply below_alloc | apply pw_below_drewN | apply below_drew1) | exact HB.out)) hb); clear HB; have HB := n0_; clear n0_; (try clear hb); (try clear hb2); (try clear hk); (try clear hi)))
            go_ret
            exact ⟨by first | rfl | (simp [errW_none, errW_some] <;> rfl) | (simp [*, errW_none, errW_some] <;> rfl), by repeat (first | (with_reducible first | exact HB.out | apply below_alloc | apply pw_below_drewN | apply below_drew1) | exact HB.out)⟩
          · rw [if_neg c12] at H
            exact absurd H (by simp)
        · rw [if_neg c11] at H
          exact absurd H (by simp)
      · rw [if_neg c10] at H
        exact absurd H (by simp)
    · rw [if_neg c9] at H
      exact absurd H (by simp)
  · rw [if_neg c8] at H
    exact absurd H (by simp)
end Go.Proofs.YtgaicbhbgephbaaDoor.X
end
section
namespace Go.Proofs.YtgaicbhbgephbaaDoor.Opn
open Go.ChangeShapes Go.WideShapes Go.Proofs.YtgaicbhbgephbaaDoorW.PrintWords
set_option linter.unusedVariables false
set_option linter.unusedSimpArgs false
structure Opens (P : Program) (t : TypeId) {α : Type} (d : Kd α) (Ok : α → Prop) : Prop where
  sz : d.sz = P.cellsOf t
  opens : ∀ {H : Type} {enc : TypeId × Value → H} {w : World} {base : Nat} {spare : Nat → Bool} {held : Bool} {fuel : Nat} {cs : List Value} {x : DataW H × List MemPlace},
    DataW.trod enc P w base spare held fuel t cs = some x → (∀ n ∈ x.1.weights P t, n ≤ reachBytes) → ∃ v, d.K w v cs ∧ Ok v
theorem opens_string {P : Program} {t : TypeId} (ht : P.underlying t = some .string) (hc : P.cellsOf t = 1) : Opens P t Kd.string (fun s => s.size ≤ 140737488351232) := by
  refine ⟨hc.symm, fun h hw => ?_⟩
  obtain ⟨s, rfl, rfl, hs⟩ := DataW.trod_string ht h
  refine ⟨s, rfl, ?_⟩
  have := hw s.data.toList.length (by simp [DataW.weights])
  rw [Array.length_toList] at this
  exact this
structure OpensF (P : Program) (fs : List Field) (off : Nat) {α : Type} (d : Kd α) (Ok : α → Prop) : Prop where
  opens : ∀ {H : Type} {enc : TypeId × Value → H} {w : World} {base : Nat} {spare : Nat → Bool} {held : Bool} {n : Nat} {cs : List Value} {xs : List (DataW H × List MemPlace)},
    xs.length = fs.length → (∀ (i : Nat) (f : Field), fs[i]? = some f → DataW.trod enc P w base spare held n f.type ((cs.drop f.offset).take (P.cellsOf f.type)) = xs[i]?) →
    (∀ m ∈ DataW.weightsEach P (fs.map (·.type)) (xs.map (·.1)), m ≤ reachBytes) → ∃ v, d.K w v ((cs.drop off).take d.sz) ∧ Ok v
end Go.Proofs.YtgaicbhbgephbaaDoor.Opn
end
section
namespace Go.Proofs.YtgaicbhbgephbaaDoor.P
open Go.RowKit Go.Proofs.YtgaicbhbgephbaaDoorW.PrintWords Go.Proofs.YtgaicbhbgephbaaDoorW.PrintMore Go.Proofs.YtgaicbhbgephbaaDoor.X
theorem Ev_succ {α : Type} {g : Nat → Option α} {r : α} (h : Ev (fun k => g (k + 1)) r) : Ev g r := Ev.step (fun _ => rfl) h
theorem Ev_bind {α β : Type} {g : Nat → Option α} {f : Nat → α → Option β} {a : α} {r : β} (h : Ev g a) (k : Ev (fun n => f n a) r) : Ev (fun n => (g n).bind (f n)) r := Ev.bind h k
theorem Ev_id {α : Type} {g : Nat → Option α} {r : α} (h : Ev g r) : Ev (fun n => (g n).bind fun x => some x) r := Ev.bind h (Ev.now _)
theorem w_id {x : Int} (h1 : -9223372036854775808 ≤ x) (h2 : x ≤ 9223372036854775807) : wrap64 x = x := by unfold wrap64; omega
theorem w_succ {i n : Nat} (h : i < n) (hn : n ≤ 9223372036854775807) : wrap64 ((i : Int) + 1) = ((i + 1 : Nat) : Int) := by rw [w_id (by omega) (by omega)]; omega
theorem rd_nat (xs : List Int) (i : Nat) (h : i < xs.length) : rd xs (i : Int) = xs[i] := by simp [rd, h]
theorem drop_cons {α : Type} (l : List α) (i : Nat) (h : i < l.length) : l.drop i = l[i] :: l.drop (i + 1) := (List.getElem_cons_drop h).symm
theorem ba_ext {a b : ByteArray} (h : a.toList = b.toList) : a = b := by
  have e : ∀ c : ByteArray, c.toList = c.data.toList := fun c => ByteArray.toList_eq c
  rw [e, e] at h
  cases a; cases b
  congr 1
  exact Array.toList_inj.1 h
end Go.Proofs.YtgaicbhbgephbaaDoor.P
end
section
namespace Go.Proofs.YtgaicbhbgephbaaDoor.P
set_option linter.unusedVariables false
set_option linter.unusedSimpArgs false
open Go.RowKit Go.Proofs.YtgaicbhbgephbaaDoorW.PrintWords Go.Proofs.YtgaicbhbgephbaaDoorW.PrintMore Go.Proofs.YtgaicbhbgephbaaDoor.X
theorem by_rng (s : ByteArray) : ∀ x ∈ bytesOf s, 0 ≤ x ∧ x < 256 := by
  intro x hx
  unfold bytesOf at hx
  obtain ⟨b, hb, rfl⟩ := List.mem_map.1 hx
  have := b.toNat_lt
  omega
theorem by_len (s : ByteArray) : (bytesOf s).length = s.size := bytesOf_length s
theorem by_str (L : List Int) (h : ∀ x ∈ L, 0 ≤ x ∧ x < 256) : bytesOf (strOfNums L) = L := by
  unfold bytesOf
  rw [strOfNums_data, List.map_map]
  conv => rhs; rw [← List.map_id L]
  refine List.map_congr_left fun x hx => ?_
  have := h x hx
  simp only [Function.comp, id, UInt8.toNat_ofNat']
  omega
theorem by_data (s : ByteArray) : s.data.toList = (bytesOf s).map fun n => UInt8.ofNat n.toNat := by
  unfold bytesOf
  rw [List.map_map]
  conv => lhs; rw [← List.map_id s.data.toList]
  refine List.map_congr_left fun x hx => ?_
  simp only [Function.comp, id, Int.toNat_natCast, UInt8.ofNat_toNat]
theorem str_by (s : ByteArray) : strOfNums (bytesOf s) = s := by
  cases s with
  | mk d =>
    unfold strOfNums
    rw [← by_data]
theorem by_inj {a b : ByteArray} (h : bytesOf a = bytesOf b) : a = b := by rw [← str_by a, ← str_by b, h]
theorem by_app (a b : ByteArray) : bytesOf (a ++ b) = bytesOf a ++ bytesOf b := by
  unfold bytesOf
  rw [show (a ++ b).data = a.data ++ b.data from ByteArray.data_append, Array.toList_append, List.map_append]
theorem by_ext (s : ByteArray) (i j : Nat) : bytesOf (s.extract i j) = ((bytesOf s).take j).drop i := by
  unfold bytesOf
  rw [ByteArray.data_extract, Array.toList_extract, ← List.map_take, ← List.map_drop]
  congr 1
  rw [List.extract_eq_take_drop, List.drop_take]
theorem by_toList (s : ByteArray) (l : List UInt8) : s.toList = l ↔ bytesOf s = l.map fun b => (b.toNat : Int) := by
  rw [ByteArray.toList_eq]
  unfold bytesOf
  constructor
  · intro h
    rw [h]
  · intro h
    have e := congrArg (List.map fun n : Int => UInt8.ofNat n.toNat) h
    simpa [List.map_map, Function.comp_def] using e
theorem by_eq (a b : ByteArray) : a.toList = b.toList ↔ a = b := ⟨ba_ext, fun h => h ▸ rfl⟩
theorem by_emp (s : ByteArray) : s.toList = ([] : List UInt8) ↔ bytesOf s = [] := by rw [by_toList]; simp
theorem by_bt (s : ByteArray) (i : Nat) (h : i < (bytesOf s).length) : bt s (i : Int) = (bytesOf s)[i] := by
  rw [← rd_bytesOf, rd_nat _ _ h]
theorem by_drop (s : ByteArray) (i : Nat) (h : i < s.size) : (bytesOf s).drop i = bt s (i : Int) :: (bytesOf s).drop (i + 1) := by
  have h' : i < (bytesOf s).length := by rw [by_len]; exact h
  rw [drop_cons _ _ h', by_bt s i h']
theorem by_end (s : ByteArray) (i : Nat) (h : s.size ≤ i) : (bytesOf s).drop i = [] := List.drop_of_length_le (by rw [by_len]; exact h)
def idxL : List Int → Int → Option Nat
  | [], _ => none
  | x :: r, c => if x = c then some 0 else (idxL r c).map (· + 1)
theorem idx_byte (l : List UInt8) (c : UInt8) : Lib.indexByte l c = match idxL (l.map fun b => (b.toNat : Int)) (c.toNat : Int) with | some i => (i : Int) | none => -1 := by
  induction l with
  | nil => rfl
  | cons x r ih =>
    unfold Lib.indexByte
    simp only [List.map_cons, idxL]
    by_cases h : x = c
    · subst h
      simp
    · have h1 : (x == c) = false := by simpa using h
      have h2 : ¬ ((x.toNat : Int) = (c.toNat : Int)) := fun e => h (UInt8.toNat_inj.1 (by omega))
      rw [h1, if_neg h2]
      simp only [Bool.false_eq_true, if_false]
      rw [ih]
      cases hI : idxL (r.map fun b => (b.toNat : Int)) (c.toNat : Int) with
      | none => simp
      | some i =>
        have h3 : ((i : Int) == -1) = false := by
          rw [beq_eq_false_iff_ne]
          omega
        simp [h3]
theorem idx_some {L : List Int} {c : Int} {i : Nat} (h : idxL L c = some i) : i < L.length ∧ L[i]? = some c ∧ c ∉ L.take i ∧ L = L.take i ++ c :: L.drop (i + 1) := by
  induction L generalizing i with
  | nil => cases h
  | cons x r ih =>
    simp only [idxL] at h
    by_cases hx : x = c
    · rw [if_pos hx] at h
      obtain rfl := Option.some.inj h
      subst hx
      simp
    · rw [if_neg hx] at h
      obtain ⟨j, hj, rfl⟩ := Option.map_eq_some_iff.1 h
      obtain ⟨h1, h2, h3, h4⟩ := ih hj
      refine ⟨by simpa using h1, by simpa using h2, ?_, ?_⟩
      · simp only [List.take_succ_cons, List.mem_cons, not_or]
        exact ⟨fun e => hx e.symm, h3⟩
      · simp only [List.take_succ_cons, List.drop_succ_cons, List.cons_append]
        rw [← h4]
theorem idx_of {A R : List Int} {c : Int} (h : c ∉ A) : idxL (A ++ c :: R) c = some A.length := by
  induction A with
  | nil => simp [idxL]
  | cons x r ih =>
    simp only [List.mem_cons, not_or] at h
    simp only [List.cons_append, idxL, if_neg (fun e => h.1 (Eq.symm e)), ih h.2, Option.map_some, List.length_cons]
end Go.Proofs.YtgaicbhbgephbaaDoor.P
end
section
namespace Go.Proofs.YtgaicbhbgephbaaDoor.P
set_option linter.unusedVariables false
set_option linter.unusedSimpArgs false
open Go.RowKit Go.Proofs.YtgaicbhbgephbaaDoorW.PrintWords Go.Proofs.YtgaicbhbgephbaaDoorW.PrintMore Go.Proofs.YtgaicbhbgephbaaDoor.X
def letterB (n : Int) : Bool := decide (97 ≤ n) && decide (n ≤ 122)
def digitB (n : Int) : Bool := decide (48 ≤ n) && decide (n ≤ 57)
theorem letter_f (n : Int) : words_letter.f n = some (letterB n) := by
  unfold words_letter.f letterB
  by_cases h : 97 ≤ n
  · rw [if_pos h, decide_eq_true h, Bool.true_and]
  · rw [if_neg h, decide_eq_false h, Bool.false_and]
theorem digit_f (n : Int) : words_digit.f n = some (digitB n) := by
  unfold words_digit.f digitB
  by_cases h : 48 ≤ n
  · rw [if_pos h, decide_eq_true h, Bool.true_and]
  · rw [if_neg h, decide_eq_false h, Bool.false_and]
def chB (s : ByteArray) (i : Nat) : Bool := letterB (bt s (i : Int)) || (!(i == 0) && digitB (bt s (i : Int)))
def nameFrom (s : ByteArray) : Nat → Nat → Bool
  | 0, _ => true
  | d + 1, i => chB s i && nameFrom s d (i + 1)
def nameB (s : ByteArray) : Bool := decide (0 < s.size) && decide (s.size ≤ 12) && nameFrom s s.size 0
theorem nameLoop (s : ByteArray) (hs : s.size ≤ 12) (h0 : letterB (bt s 0) = true) : ∀ (d i : Nat), i + d = s.size → Ev (fun k => words_Name.l0 k s s.size i) (nameFrom s d i)
  | 0, i, hd => by
    refine Ev_succ ?_
    simp only [words_Name.l0, if_neg (show ¬ ((i : Int) < (s.size : Int)) by omega)]
    exact Ev.now _
  | d + 1, i, hd => by
    have hi : i < s.size := by omega
    have ih := nameLoop s hs h0 d (i + 1) (by omega)
    refine Ev_succ ?_
    simp only [words_Name.l0, if_pos (show (i : Int) < (s.size : Int) by omega), if_pos (show 0 ≤ (i : Int) by omega), letter_f, digit_f, Option.bind_some, w_succ hi (by omega), nameFrom, chB]
    cases h1 : letterB (bt s (i : Int)) with
    | true => simp only [if_true, Bool.true_or, Bool.true_and]; exact ih
    | false =>
      simp only [Bool.false_eq_true, if_false, Bool.false_or]
      have hi0 : (i == 0) = false := by
        rw [← Bool.not_eq_true, beq_iff_eq]
        rintro rfl
        rw [show ((0 : Nat) : Int) = 0 from rfl, h0] at h1
        cases h1
      simp only [hi0, Bool.not_false, Bool.true_and]
      cases h2 : digitB (bt s (i : Int)) with
      | true => simp only [if_true, Bool.true_and]; exact ih
      | false => simp only [Bool.false_eq_true, if_false, Bool.false_and]; exact Ev.now _
theorem name_f (s : ByteArray) : Ev (fun k => words_Name.f k s) (nameB s) := by
  have hj : nameB s = false → Ev (fun k => words_Name.j0 k s true) (nameB s) := by
    intro h
    rw [h]
    refine Ev_succ ?_
    simp only [words_Name.j0, if_true]
    exact Ev.now _
  unfold words_Name.f
  by_cases c0 : s.toList = []
  · simp only [if_pos c0]
    refine hj ?_
    have : s.size = 0 := by
      have e : s.toList = s.data.toList := ByteArray.toList_eq s
      rw [e] at c0
      have := congrArg List.length c0
      simpa using this
    simp [nameB, this]
  · simp only [if_neg c0]
    by_cases c1 : (s.size : Int) > 12
    · simp only [if_pos c1]
      exact hj (by simp [nameB]; omega)
    · have hp : 0 < s.size := by
        rcases Nat.eq_zero_or_pos s.size with h | h
        · exfalso
          apply c0
          have e : s.toList = s.data.toList := ByteArray.toList_eq s
          rw [e]
          exact List.length_eq_zero_iff.1 (by simpa using h)
        · exact h
      simp only [if_neg c1, if_pos (show 0 < (s.size : Int) by omega), letter_f, Option.bind_some]
      have hn : nameB s = nameFrom s s.size 0 := by
        unfold nameB
        rw [decide_eq_true hp, decide_eq_true (show s.size ≤ 12 by omega)]
        simp
      cases h1 : letterB (bt s 0) with
      | false =>
        refine hj ?_
        rw [hn]
        obtain ⟨d, hd⟩ : ∃ d, s.size = d + 1 := ⟨s.size - 1, by omega⟩
        rw [hd]
        simp [nameFrom, chB, h1]
      | true =>
        refine Ev_succ ?_
        simp only [words_Name.j0, Bool.not_true, Bool.false_eq_true, if_false]
        rw [hn]
        exact nameLoop s (by omega) h1 s.size 0 (by omega)
theorem nameRLoop (s : ByteArray) (hs : s.size ≤ 4611686018427387904) : ∀ (d i : Nat), i + d = s.size → Ev (fun k => contangoref03_Name.l0 k s i) (nameFrom s d i && (decide (0 < s.size) && decide (s.size ≤ 12)))
  | 0, i, hd => by
    refine Ev_succ ?_
    simp only [contangoref03_Name.l0, if_neg (show ¬ ((i : Int) < (s.size : Int)) by omega), nameFrom, Bool.true_and]
    by_cases c : (s.size : Int) > 0
    · simp only [if_pos c, decide_eq_true (show 0 < s.size by omega), Bool.true_and]
      have : decide ((s.size : Int) ≤ 12) = decide (s.size ≤ 12) := by rw [decide_eq_decide]; omega
      rw [this]
      exact Ev.now _
    · simp only [if_neg c, decide_eq_false (show ¬ 0 < s.size by omega), Bool.false_and]
      exact Ev.now _
  | d + 1, i, hd => by
    have hi : i < s.size := by omega
    have ih := nameRLoop s hs d (i + 1) (by omega)
    rw [← w_succ hi (by omega)] at ih
    refine Ev_succ ?_
    simp only [contangoref03_Name.l0, if_pos (show (i : Int) < (s.size : Int) by omega), if_pos (show 0 ≤ (i : Int) by omega), nameFrom]
    have step : chB s i = true → Ev (fun k => contangoref03_Name.l0 k s (wrap64 ((i : Int) + 1))) (chB s i && nameFrom s d (i + 1) && (decide (0 < s.size) && decide (s.size ≤ 12))) := by
      intro h
      rw [h, Bool.true_and]
      exact ih
    have stop : chB s i = false → Ev (fun _ => (some false : Option Bool)) (chB s i && nameFrom s d (i + 1) && (decide (0 < s.size) && decide (s.size ≤ 12))) := by
      intro h
      rw [h, Bool.false_and, Bool.false_and]
      exact Ev.now _
    have rest : letterB (bt s (i : Int)) = false → Ev (fun k => if (i : Int) = 0 then some false else if bt s (i : Int) < 48 then some false else if bt s (i : Int) > 57 then some false else contangoref03_Name.l0 k s (wrap64 ((i : Int) + 1))) (chB s i && nameFrom s d (i + 1) && (decide (0 < s.size) && decide (s.size ≤ 12))) := by
      intro hl
      by_cases c0 : (i : Int) = 0
      · have hi0 : (i == 0) = true := by rw [beq_iff_eq]; omega
        simp only [if_pos c0]
        exact stop (by unfold chB; rw [hl, hi0]; rfl)
      · by_cases c1 : bt s (i : Int) < 48
        · simp only [if_neg c0, if_pos c1]; exact stop (by simp [chB, hl, digitB]; omega)
        · by_cases c2 : bt s (i : Int) > 57
          · simp only [if_neg c0, if_neg c1, if_pos c2]; exact stop (by simp [chB, hl, digitB]; omega)
          · simp only [if_neg c0, if_neg c1, if_neg c2]; exact step (by simp [chB, hl, digitB]; omega)
    by_cases g1 : bt s (i : Int) ≥ 97
    · by_cases g2 : bt s (i : Int) ≤ 122
      · simp only [if_pos g1, if_pos g2]; exact step (by simp [chB, letterB]; omega)
      · simp only [if_pos g1, if_neg g2]; exact rest (by simp [letterB]; omega)
    · simp only [if_neg g1]; exact rest (by simp [letterB]; omega)
theorem nameR_f (s : ByteArray) (hs : s.size ≤ 4611686018427387904) : Ev (fun k => contangoref03_Name.f k s) (nameB s) := by
  have h := nameRLoop s hs s.size 0 (by omega)
  have e : nameB s = (nameFrom s s.size 0 && (decide (0 < s.size) && decide (s.size ≤ 12))) := by
    unfold nameB
    rw [Bool.and_comm]
  rw [e]
  exact h
end Go.Proofs.YtgaicbhbgephbaaDoor.P
end
section
namespace Go.Proofs.YtgaicbhbgephbaaDoor.P
set_option linter.unusedVariables false
set_option linter.unusedSimpArgs false
open Go.RowKit Go.Proofs.YtgaicbhbgephbaaDoorW.PrintWords Go.Proofs.YtgaicbhbgephbaaDoorW.PrintMore Go.Proofs.YtgaicbhbgephbaaDoor.X
def plainL (L : List Int) : Bool := !L.isEmpty && !(decide (1 < L.length) && L.head? == some 48) && L.all digitB
def numV (n : Int) (L : List Int) : Int := L.foldl (fun n b => 10 * n + (b - 48)) n
def numR (n : Int) (L : List Int) (minus : Bool) : Int × Int := if 1152921504606846976 < numV n L then (0, 3) else (if minus then -(numV n L) else numV n L, 0)
def unsign (L : List Int) : List Int × Bool := if L.head? = some 45 then (L.tail, true) else (L, false)
def intL (L : List Int) : Int × Int := if plainL (unsign L).1 = true ∧ ¬((unsign L).2 = true ∧ (unsign L).1 = [48]) then numR 0 (unsign L).1 (unsign L).2 else (0, 5)
theorem dig_rng {x : Int} (h : digitB x = true) : 48 ≤ x ∧ x ≤ 57 := by
  unfold digitB at h
  simp only [Bool.and_eq_true, decide_eq_true_eq] at h
  exact h
theorem numV_mono : ∀ (L : List Int) (n : Int), 0 ≤ n → (∀ x ∈ L, digitB x = true) → n ≤ numV n L
  | [], n, _, _ => Int.le_refl _
  | x :: L, n, h, hd => by
    have h1 := dig_rng (hd x (by simp))
    have := numV_mono L (10 * n + (x - 48)) (by omega) fun y hy => hd y (by simp [hy])
    unfold numV at this ⊢
    rw [List.foldl_cons]
    omega
theorem num_step (n d : Int) (h0 : 0 ≤ n) (h1 : n ≤ 1152921504606846976) (h2 : 0 ≤ d) (h3 : d ≤ 9) : (10 * n + d ≤ 9223372036854775807 ∧ wrap64 (wrap64 (10 * n) + d) = 10 * n + d) ∨ (9223372036854775807 < 10 * n + d ∧ wrap64 (wrap64 (10 * n) + d) < 0) := by
  unfold wrap64
  omega
theorem neg_w (n : Int) (h0 : 0 ≤ n) (h1 : n ≤ 1152921504606846976) : wrap64 (-n) = -n := w_id (by omega) (by omega)
theorem digits_loop (s : ByteArray) (hs : s.size ≤ 4611686018427387904) : ∀ (d i : Nat), i + d = s.size → Ev (fun k => words_digits.l0 k s s.size i) (((bytesOf s).drop i).all digitB)
  | 0, i, hd => by
    refine Ev_succ ?_
    simp only [words_digits.l0, if_neg (show ¬ ((i : Int) < (s.size : Int)) by omega)]
    rw [by_end s i (by omega)]
    exact Ev.now _
  | d + 1, i, hd => by
    have hi : i < s.size := by omega
    have ih := digits_loop s hs d (i + 1) (by omega)
    refine Ev_succ ?_
    simp only [words_digits.l0, if_pos (show (i : Int) < (s.size : Int) by omega), if_pos (show 0 ≤ (i : Int) by omega), digit_f, Option.bind_some, w_succ hi (by omega)]
    rw [by_drop s i hi, List.all_cons]
    cases h : digitB (bt s (i : Int)) with
    | true => simp only [if_true, Bool.true_and]; exact ih
    | false => simp only [Bool.false_eq_true, if_false, Bool.false_and]; exact Ev.now _
theorem digits_f (s : ByteArray) (hs : s.size ≤ 4611686018427387904) : Ev (fun k => words_digits.f k s) ((bytesOf s).all digitB) := by
  unfold words_digits.f
  exact digits_loop s hs s.size 0 (by omega)
theorem number_loop (s : ByteArray) (minus : Bool) (hs : s.size ≤ 4611686018427387904) (hall : ∀ x ∈ bytesOf s, digitB x = true) : ∀ (d i : Nat) (n : Int), i + d = s.size → 0 ≤ n → n ≤ 1152921504606846976 → Ev (fun k => words_number.l0 k s minus n s.size i) (numR n ((bytesOf s).drop i) minus)
  | 0, i, n, hd, h0, h1 => by
    refine Ev_succ ?_
    simp only [words_number.l0, if_neg (show ¬ ((i : Int) < (s.size : Int)) by omega)]
    rw [by_end s i (by omega)]
    have hc : numR n [] minus = (if minus then -n else n, 0) := by
      unfold numR numV
      rw [List.foldl_nil, if_neg (show ¬ 1152921504606846976 < n by omega)]
    rw [hc]
    cases minus with
    | true => simp only [if_true, neg_w n h0 h1]; exact Ev.now _
    | false => simp only [Bool.false_eq_true, if_false]; exact Ev.now _
  | d + 1, i, n, hd, h0, h1 => by
    have hi : i < s.size := by omega
    have hb : digitB (bt s (i : Int)) = true := hall _ (by
      have h' : i < (bytesOf s).length := by rw [by_len]; exact hi
      rw [by_bt s i h']
      exact List.getElem_mem h')
    have hb2 := dig_rng hb
    refine Ev_succ ?_
    simp only [words_number.l0, if_pos (show (i : Int) < (s.size : Int) by omega), if_pos (show 0 ≤ (i : Int) by omega), w_succ hi (by omega), Int.emod_eq_of_lt (show 0 ≤ bt s (i : Int) - 48 by omega) (show bt s (i : Int) - 48 < 256 by omega)]
    rw [by_drop s i hi]
    have hr : ∀ x ∈ (bytesOf s).drop (i + 1), digitB x = true := fun x hx => hall x (List.mem_of_mem_drop hx)
    have hm := numV_mono ((bytesOf s).drop (i + 1)) (10 * n + (bt s (i : Int) - 48)) (by omega) hr
    have hc : numR n (bt s (i : Int) :: (bytesOf s).drop (i + 1)) minus = numR (10 * n + (bt s (i : Int) - 48)) ((bytesOf s).drop (i + 1)) minus := by
      unfold numR numV
      rw [List.foldl_cons]
    rw [hc]
    rcases num_step n (bt s (i : Int) - 48) h0 h1 (by omega) (by omega) with ⟨h2, h3⟩ | ⟨h2, h3⟩
    · simp only [h3, if_neg (show ¬ 10 * n + (bt s (i : Int) - 48) < 0 by omega)]
      by_cases h4 : 10 * n + (bt s (i : Int) - 48) > 1152921504606846976
      · simp only [if_pos h4]
        have : numR (10 * n + (bt s (i : Int) - 48)) ((bytesOf s).drop (i + 1)) minus = (0, 3) := by
          unfold numR
          rw [if_pos (by omega)]
        rw [this]
        exact Ev.now _
      · simp only [if_neg h4]
        exact number_loop s minus hs hall d (i + 1) _ (by omega) (by omega) (by omega)
    · simp only [if_pos h3]
      have : numR (10 * n + (bt s (i : Int) - 48)) ((bytesOf s).drop (i + 1)) minus = (0, 3) := by
        unfold numR
        rw [if_pos (by omega)]
      rw [this]
      exact Ev.now _
theorem number_f (s : ByteArray) (minus : Bool) (hs : s.size ≤ 4611686018427387904) (hall : ∀ x ∈ bytesOf s, digitB x = true) : Ev (fun k => words_number.f k s minus) (numR 0 (bytesOf s) minus) := by
  unfold words_number.f
  exact number_loop s minus hs hall s.size 0 0 (by omega) (by omega) (by omega)
theorem plain_all {L : List Int} (h : plainL L = true) : ∀ x ∈ L, digitB x = true := by
  unfold plainL at h
  simp only [Bool.and_eq_true] at h
  exact List.all_eq_true.1 h.2
theorem bt_head (s : ByteArray) (h : 0 < s.size) : (bytesOf s).head? = some (bt s 0) := by
  have := by_drop s 0 h
  rw [List.drop_zero] at this
  rw [this]
  rfl
theorem plain_f (s : ByteArray) (hs : s.size ≤ 4611686018427387904) : Ev (fun k => words_plain.f k s) (plainL (bytesOf s)) := by
  unfold words_plain.f plainL
  have hd := digits_f s hs
  by_cases c0 : s.toList = []
  · simp only [if_pos c0]
    rw [(by_emp s).1 c0]
    exact Ev.now _
  · simp only [if_neg c0]
    have h1 : bytesOf s ≠ [] := fun h => c0 ((by_emp s).2 h)
    have h2 : (bytesOf s).isEmpty = false := by simpa using h1
    have h3 : 0 < s.size := by
      rw [← by_len]
      exact List.length_pos_iff.2 h1
    rw [h2]
    simp only [Bool.not_false, Bool.true_and]
    by_cases c1 : (s.size : Int) > 1
    · simp only [if_pos c1, if_pos (show 0 < (s.size : Int) by omega)]
      have h4 : decide (1 < (bytesOf s).length) = true := by
        rw [by_len]
        exact decide_eq_true (by omega)
      rw [h4, bt_head s h3]
      simp only [Bool.true_and]
      by_cases c2 : bt s 0 = 48
      · simp only [if_pos c2, c2]
        simp
        exact Ev.now _
      · have h5 : (some (bt s 0) == some (48 : Int)) = false := by simpa using c2
        simp only [if_neg c2, h5, Bool.not_false, Bool.true_and]
        exact Ev_id hd
    · simp only [if_neg c1]
      have h4 : decide (1 < (bytesOf s).length) = false := by
        rw [by_len]
        exact decide_eq_false (by omega)
      rw [h4]
      simp only [Bool.false_and, Bool.not_false, Bool.true_and]
      exact Ev_id hd
theorem cutp_f (s : ByteArray) : strings_CutPrefix.f s (⟨#[45]⟩ : ByteArray) = some (strOfNums (unsign (bytesOf s)).1, (unsign (bytesOf s)).2) := by
  have hsz : (⟨#[45]⟩ : ByteArray).size = 1 := rfl
  have hl : bytesOf (⟨#[45]⟩ : ByteArray) = [45] := rfl
  have h0 : stringslite_HasPrefix.f s (⟨#[45]⟩ : ByteArray) = some (decide ((bytesOf s).head? = some 45)) := by
    unfold stringslite_HasPrefix.f
    rw [hsz]
    by_cases c : (s.size : Int) ≥ ((1 : Nat) : Int)
    · rw [if_pos c, if_pos (by omega), if_pos (by omega)]
      congr 1
      have h3 : 0 < s.size := by omega
      have hd := by_drop s 0 h3
      rw [List.drop_zero] at hd
      have he : bytesOf (s.extract 0 1) = [bt s 0] := by rw [by_ext, hd]; rfl
      rw [bt_head s h3]
      rw [Bool.eq_iff_iff, beq_iff_eq, decide_eq_true_eq, by_eq]
      constructor
      · intro h
        have := congrArg bytesOf h
        rw [show (((1 : Nat) : Int)).toNat = 1 from rfl, he, hl] at this
        simpa using this
      · intro h
        apply by_inj
        rw [show (((1 : Nat) : Int)).toNat = 1 from rfl, he, hl]
        simpa using h
    · rw [if_neg c]
      have h4 : bytesOf s = [] := List.length_eq_zero_iff.1 (by rw [by_len]; omega)
      rw [h4]
      simp
  unfold strings_CutPrefix.f stringslite_CutPrefix.f
  rw [h0]
  simp only [Option.bind_some]
  unfold unsign
  by_cases c : (bytesOf s).head? = some 45
  · have h3 : 0 < s.size := by
      rw [← by_len]
      rcases hb : bytesOf s with _ | ⟨x, r⟩
      · rw [hb] at c; simp at c
      · simp
    rw [if_pos (decide_eq_true c), if_pos c, hsz, if_pos (by omega), if_pos (by omega)]
    simp only [Option.bind_some]
    congr 2
    apply by_inj
    rw [by_ext, by_str _ fun x hx => by_rng s x (List.mem_of_mem_tail hx), show (((1 : Nat) : Int)).toNat = 1 from rfl, ← by_len, List.take_length, List.drop_one]
  · rw [if_neg (by simpa using c), if_neg c]
    simp only [Option.bind_some]
    rw [str_by]
theorem unsign_rng {L : List Int} (h : ∀ x ∈ L, 0 ≤ x ∧ x < 256) : ∀ x ∈ (unsign L).1, 0 ≤ x ∧ x < 256 := by
  unfold unsign
  split
  · exact fun x hx => h x (List.mem_of_mem_tail hx)
  · exact h
theorem unsign_len (L : List Int) : (unsign L).1.length ≤ L.length := by
  unfold unsign
  split
  · simp
  · exact Nat.le_refl _
theorem int_f (s : ByteArray) (hs : s.size ≤ 4611686018427387904) : Ev (fun k => words_Int.f k s) (intL (bytesOf s)) := by
  unfold words_Int.f intL
  rw [cutp_f]
  simp only [Option.bind_some]
  have hb := by_str (unsign (bytesOf s)).1 (unsign_rng (by_rng s))
  have hsz : (strOfNums (unsign (bytesOf s)).1).size ≤ 4611686018427387904 := by
    rw [strOfNums_size]
    have := unsign_len (bytesOf s)
    rw [by_len] at this
    omega
  refine Ev_bind (plain_f _ hsz) ?_
  rw [hb]
  generalize (unsign (bytesOf s)).2 = m
  generalize hT : (unsign (bytesOf s)).1 = T at hb hsz
  by_cases c0 : plainL T = true
  · simp only [if_pos c0]
    have hn := number_f (strOfNums T) m hsz (by rw [hb]; exact plain_all c0)
    rw [hb] at hn
    cases m with
    | false =>
      simp only [Bool.false_eq_true, if_false, false_and, not_false_eq_true, and_true, if_pos c0]
      exact Ev_bind hn (Ev.now _)
    | true =>
      simp only [if_true, true_and]
      by_cases c1 : (strOfNums T).toList = ([48] : List UInt8)
      · have c2 : T = [48] := by
          have := (by_toList (strOfNums T) [48]).1 c1
          rw [hb] at this
          exact this
        simp only [if_pos c1]
        rw [if_neg (by rintro ⟨_, h⟩; exact h c2)]
        exact Ev.now _
      · have c2 : ¬ T = [48] := by
          intro h
          apply c1
          rw [by_toList, hb, h]
          rfl
        simp only [if_neg c1]
        rw [if_pos ⟨c0, c2⟩]
        exact Ev_bind hn (Ev.now _)
  · simp only [if_neg c0]
    rw [if_neg (fun h => c0 h.1)]
    exact Ev.now _
end Go.Proofs.YtgaicbhbgephbaaDoor.P
end
section
namespace Go.Proofs.YtgaicbhbgephbaaDoor.P
set_option linter.unusedVariables false
set_option linter.unusedSimpArgs false
open Go.RowKit Go.Proofs.YtgaicbhbgephbaaDoorW.PrintWords Go.Proofs.YtgaicbhbgephbaaDoorW.PrintMore Go.Proofs.YtgaicbhbgephbaaDoor.X
def cutL (L : List Int) (c : Int) : List Int × List Int × Bool := match idxL L c with
  | some i => (L.take i, L.drop (i + 1), true)
  | none => (L, [], false)
theorem cutL_none {L : List Int} {c : Int} (h : idxL L c = none) : cutL L c = (L, [], false) := by unfold cutL; rw [h]
theorem cutL_some {L : List Int} {c : Int} {i : Nat} (h : idxL L c = some i) : cutL L c = (L.take i, L.drop (i + 1), true) := by unfold cutL; rw [h]
theorem cut_f (s : ByteArray) (c : UInt8) (hs : s.size ≤ 4611686018427387904) : strings_Cut.f s (⟨#[c]⟩ : ByteArray) = some (strOfNums (cutL (bytesOf s) (c.toNat : Int)).1, strOfNums (cutL (bytesOf s) (c.toNat : Int)).2.1, (cutL (bytesOf s) (c.toNat : Int)).2.2) := by
  have hsz : (⟨#[c]⟩ : ByteArray).size = 1 := rfl
  unfold strings_Cut.f stringslite_Cut.f stringslite_Index.f
  rw [if_pos hsz]
  simp only [Option.bind_some]
  rw [show (⟨#[c]⟩ : ByteArray).data.getD 0 0 = c from rfl, idx_byte]
  rw [show s.data.toList.map (fun b => (b.toNat : Int)) = bytesOf s from rfl]
  cases hI : idxL (bytesOf s) (c.toNat : Int) with
  | none =>
    rw [cutL_none hI]
    simp only []
    rw [if_neg (by omega)]
    simp only [Option.bind_some]
    rw [str_by]
    rfl
  | some i =>
    have hi := (idx_some hI).1
    rw [by_len] at hi
    rw [cutL_some hI]
    simp only []
    have hw : wrap64 ((i : Int) + ((⟨#[c]⟩ : ByteArray).size : Int)) = ((i + 1 : Nat) : Int) := by
      rw [hsz, w_id (by omega) (by omega)]
      omega
    rw [hw, if_pos (by omega), if_pos (by omega), if_pos (by omega), if_pos (by omega), if_pos (by omega)]
    simp only [Option.bind_some, Int.toNat_natCast]
    have e1 : s.extract 0 i = strOfNums ((bytesOf s).take i) := by
      apply by_inj
      rw [by_ext, List.drop_zero, by_str _ fun x hx => by_rng s x (List.mem_of_mem_take hx)]
    have e2 : s.extract (i + 1) s.size = strOfNums ((bytesOf s).drop (i + 1)) := by
      apply by_inj
      rw [by_ext, by_str _ fun x hx => by_rng s x (List.mem_of_mem_drop hx), ← by_len, List.take_length]
    rw [e1, e2]
theorem cutL_rng {L : List Int} {c : Int} (h : ∀ x ∈ L, 0 ≤ x ∧ x < 256) : (∀ x ∈ (cutL L c).1, 0 ≤ x ∧ x < 256) ∧ ∀ x ∈ (cutL L c).2.1, 0 ≤ x ∧ x < 256 := by
  cases hI : idxL L c with
  | none => rw [cutL_none hI]; exact ⟨h, fun x hx => by cases hx⟩
  | some i => rw [cutL_some hI]; exact ⟨fun x hx => h x (List.mem_of_mem_take hx), fun x hx => h x (List.mem_of_mem_drop hx)⟩
theorem cutL_len (L : List Int) (c : Int) : (cutL L c).1.length + (cutL L c).2.1.length ≤ L.length := by
  cases hI : idxL L c with
  | none => rw [cutL_none hI]; simp
  | some i =>
    have := (idx_some hI).1
    rw [cutL_some hI]
    simp only [List.length_take, List.length_drop]
    omega
def centsT (T : List Int) (m : Bool) : Int × Int :=
  if (cutL T 46).2.2 = true ∧ plainL (cutL T 46).1 = true ∧ (cutL T 46).2.1.length = 2 ∧ (cutL T 46).2.1.all digitB = true ∧ ¬ (m = true ∧ T = [48, 46, 48, 48]) then numR 0 ((cutL T 46).1 ++ (cutL T 46).2.1) m else (0, 5)
def centsL (L : List Int) : Int × Int := centsT (unsign L).1 (unsign L).2
theorem cents_f (s : ByteArray) (hs : s.size ≤ 4611686018427387904) : Ev (fun k => words_Cents.f k s) (centsL (bytesOf s)) := by
  unfold words_Cents.f centsL
  rw [cutp_f]
  simp only [Option.bind_some]
  have hb := by_str (unsign (bytesOf s)).1 (unsign_rng (by_rng s))
  have hr := unsign_rng (by_rng s)
  have hsz : (strOfNums (unsign (bytesOf s)).1).size ≤ 4611686018427387904 := by
    rw [strOfNums_size]
    have := unsign_len (bytesOf s)
    rw [by_len] at this
    omega
  generalize (unsign (bytesOf s)).2 = m
  generalize (unsign (bytesOf s)).1 = T at hb hsz hr
  rw [cut_f _ _ hsz, hb]
  simp only [Option.bind_some]
  rw [show (((46 : UInt8).toNat : Nat) : Int) = 46 from rfl]
  have hc := cutL_rng (c := 46) hr
  have hl := cutL_len T 46
  rw [strOfNums_size] at hsz
  unfold centsT
  generalize (cutL T 46).1 = A at hc hl
  generalize (cutL T 46).2.1 = B at hc hl
  generalize (cutL T 46).2.2 = ok
  have hA := by_str A hc.1
  have hB := by_str B hc.2
  have sA : (strOfNums A).size ≤ 4611686018427387904 := by rw [strOfNums_size]; omega
  have sB : (strOfNums B).size ≤ 4611686018427387904 := by rw [strOfNums_size]; omega
  cases ok with
  | false =>
    simp only [Bool.false_eq_true, if_false, false_and]
    exact Ev.now _
  | true =>
    simp only [if_true, true_and]
    refine Ev_bind (plain_f _ sA) ?_
    rw [hA]
    by_cases c0 : plainL A = true
    case neg =>
      simp only [if_neg c0]
      rw [if_neg (fun h => c0 h.1)]
      exact Ev.now _
    simp only [if_pos c0]
    by_cases c1 : ((strOfNums B).size : Int) = 2
    case neg =>
      simp only [if_neg c1]
      rw [if_neg (fun h => c1 (by rw [strOfNums_size]; have := h.2.1; omega))]
      exact Ev.now _
    simp only [if_pos c1]
    have c1' : B.length = 2 := by rw [strOfNums_size] at c1; omega
    refine Ev_bind (digits_f _ sB) ?_
    rw [hB]
    by_cases c2 : B.all digitB = true
    case neg =>
      simp only [if_neg c2]
      rw [if_neg (fun h => c2 h.2.2.1)]
      exact Ev.now _
    simp only [if_pos c2]
    have hAB : bytesOf (strOfNums A ++ strOfNums B) = A ++ B := by rw [by_app, hA, hB]
    have hn := number_f (strOfNums A ++ strOfNums B) m (by rw [← by_len, hAB, List.length_append]; omega) (by
      rw [hAB]
      intro x hx
      rcases List.mem_append.1 hx with h | h
      · exact plain_all c0 x h
      · exact List.all_eq_true.1 c2 x h)
    rw [hAB] at hn
    have hsum : (strOfNums A).size + (strOfNums B).size ≤ 9223372036854775807 := by omega
    cases m with
    | false =>
      simp only [Bool.false_eq_true, if_false, false_and, not_false_eq_true, and_true, if_pos hsum]
      rw [if_pos ⟨c0, c1', c2⟩]
      exact Ev_bind hn (Ev.now _)
    | true =>
      simp only [if_true, true_and]
      by_cases c3 : (strOfNums T).toList = ([48, 46, 48, 48] : List UInt8)
      · have c4 : T = [48, 46, 48, 48] := by
          have := (by_toList (strOfNums T) [48, 46, 48, 48]).1 c3
          rw [hb] at this
          exact this
        simp only [if_pos c3]
        rw [if_neg (fun h => h.2.2.2 c4)]
        exact Ev.now _
      · have c4 : ¬ T = [48, 46, 48, 48] := by
          intro h
          apply c3
          rw [by_toList, hb, h]
          rfl
        simp only [if_neg c3, if_pos hsum]
        rw [if_pos ⟨c0, c1', c2, c4⟩]
        exact Ev_bind hn (Ev.now _)
theorem plain_zero {w : List Int} (h : plainL w = true) (h0 : numV 0 w = 0) : w = [48] := by
  have ha := plain_all h
  unfold plainL at h
  rcases w with _ | ⟨x, r⟩
  · simp at h
  · have hx := dig_rng (ha x (by simp))
    have hm := numV_mono r (x - 48) (by omega) fun y hy => ha y (by simp [hy])
    have he : numV 0 (x :: r) = numV (x - 48) r := by
      unfold numV
      rw [List.foldl_cons]
      congr 1
      omega
    rw [he] at h0
    obtain rfl : x = 48 := by omega
    rcases r with _ | ⟨y, r⟩
    · rfl
    · simp at h
theorem numV_app (n : Int) (A B : List Int) : numV n (A ++ B) = numV (numV n A) B := by
  unfold numV
  rw [List.foldl_append]
end Go.Proofs.YtgaicbhbgephbaaDoor.P
end
section
namespace Go.Proofs.YtgaicbhbgephbaaDoor.P
set_option linter.unusedVariables false
set_option linter.unusedSimpArgs false
open Go.RowKit Go.Proofs.YtgaicbhbgephbaaDoorW.PrintWords Go.Proofs.YtgaicbhbgephbaaDoorW.PrintMore Go.Proofs.YtgaicbhbgephbaaDoor.X
theorem rdigits_loop (s : ByteArray) (hs : s.size ≤ 4611686018427387904) : ∀ (d i : Nat), i + d = s.size → Ev (fun k => contangoref03_digits.l0 k s i) (((bytesOf s).drop i).all digitB && (decide (s.size = 1) || (decide (1 < s.size) && bt s 0 != 48)))
  | 0, i, hd => by
    refine Ev_succ ?_
    simp only [contangoref03_digits.l0, if_neg (show ¬ ((i : Int) < (s.size : Int)) by omega)]
    rw [by_end s i (by omega)]
    simp only [List.all_nil, Bool.true_and]
    by_cases c : (s.size : Int) = 1
    · simp only [if_pos c, decide_eq_true (show s.size = 1 by omega), Bool.true_or]
      exact Ev.now _
    · simp only [if_neg c, decide_eq_false (show ¬ s.size = 1 by omega), Bool.false_or]
      by_cases c2 : (s.size : Int) > 1
      · simp only [if_pos c2, if_pos (show 0 < (s.size : Int) by omega), decide_eq_true (show 1 < s.size by omega), Bool.true_and]
        exact Ev.now _
      · simp only [if_neg c2, decide_eq_false (show ¬ 1 < s.size by omega), Bool.false_and]
        exact Ev.now _
  | d + 1, i, hd => by
    have hi : i < s.size := by omega
    have ih := rdigits_loop s hs d (i + 1) (by omega)
    refine Ev_succ ?_
    simp only [contangoref03_digits.l0, if_pos (show (i : Int) < (s.size : Int) by omega), if_pos (show 0 ≤ (i : Int) by omega), w_succ hi (by omega)]
    rw [by_drop s i hi, List.all_cons]
    by_cases c1 : bt s (i : Int) < 48
    · have : digitB (bt s (i : Int)) = false := by
        unfold digitB
        rw [decide_eq_false (by omega), Bool.false_and]
      simp only [if_pos c1, this, Bool.false_and]
      exact Ev.now _
    · simp only [if_neg c1]
      by_cases c2 : bt s (i : Int) > 57
      · have : digitB (bt s (i : Int)) = false := by
          unfold digitB
          rw [decide_eq_false (show ¬ bt s (i : Int) ≤ 57 by omega), Bool.and_false]
        simp only [if_pos c2, this, Bool.false_and]
        exact Ev.now _
      · have : digitB (bt s (i : Int)) = true := by
          unfold digitB
          rw [decide_eq_true (by omega), decide_eq_true (by omega), Bool.true_and]
        simp only [if_neg c2, this, Bool.true_and]
        exact ih
theorem rdigits_f (s : ByteArray) (hs : s.size ≤ 4611686018427387904) : Ev (fun k => contangoref03_digits.f k s) (plainL (bytesOf s)) := by
  have h := rdigits_loop s hs s.size 0 (by omega)
  have e : (((bytesOf s).drop 0).all digitB && (decide (s.size = 1) || (decide (1 < s.size) && bt s 0 != 48))) = plainL (bytesOf s) := by
    rw [List.drop_zero]
    unfold plainL
    rcases Nat.eq_zero_or_pos s.size with h0 | h0
    · have h4 : bytesOf s = [] := List.length_eq_zero_iff.1 (by rw [by_len]; omega)
      rw [h4, h0]
      rfl
    · have h2 : (bytesOf s).isEmpty = false := by
        have : bytesOf s ≠ [] := by
          intro h
          have := congrArg List.length h
          rw [by_len] at this
          have h5 : s.size = 0 := this
          omega
        simpa using this
      rw [h2, bt_head s h0, by_len, Bool.and_comm]
      simp only [Bool.not_false, Bool.true_and]
      congr 1
      by_cases c : s.size = 1
      · rw [c]; simp
      · rw [decide_eq_false c, decide_eq_true (show 1 < s.size by omega)]
        simp [bne]
  rw [← e]
  unfold contangoref03_digits.f
  exact h
theorem value_loop (s : ByteArray) (hs : s.size ≤ 4611686018427387904) (hall : ∀ x ∈ bytesOf s, digitB x = true) : ∀ (d i : Nat) (n : Int), i + d = s.size → 0 ≤ n → n ≤ 1152921504606846979 → ∃ r, Ev (fun k => contangoref03_value.l0 k s n i) r ∧ ((numV n ((bytesOf s).drop i) ≤ 1152921504606846976 ∧ r = numV n ((bytesOf s).drop i)) ∨ (1152921504606846976 < numV n ((bytesOf s).drop i) ∧ 1152921504606846976 < r))
  | 0, i, n, hd, h0, h1 => by
    refine ⟨n, Ev_succ ?_, ?_⟩
    · simp only [contangoref03_value.l0, if_neg (show ¬ ((i : Int) < (s.size : Int)) by omega)]
      exact Ev.now _
    · rw [by_end s i (by omega)]
      show (n ≤ 1152921504606846976 ∧ n = n) ∨ (1152921504606846976 < n ∧ 1152921504606846976 < n)
      rcases Int.lt_or_le 1152921504606846976 n with h | h
      · exact Or.inr ⟨h, h⟩
      · exact Or.inl ⟨h, rfl⟩
  | d + 1, i, n, hd, h0, h1 => by
    have hi : i < s.size := by omega
    have hb : digitB (bt s (i : Int)) = true := hall _ (by
      have h' : i < (bytesOf s).length := by rw [by_len]; exact hi
      rw [by_bt s i h']
      exact List.getElem_mem h')
    have hb2 := dig_rng hb
    have hr : ∀ x ∈ (bytesOf s).drop (i + 1), digitB x = true := fun x hx => hall x (List.mem_of_mem_drop hx)
    have hm := numV_mono ((bytesOf s).drop (i + 1)) (10 * n + (bt s (i : Int) - 48)) (by omega) hr
    have hc : numV n (bt s (i : Int) :: (bytesOf s).drop (i + 1)) = numV (10 * n + (bt s (i : Int) - 48)) ((bytesOf s).drop (i + 1)) := rfl
    rw [by_drop s i hi, hc]
    by_cases c : n > 115292150460684697
    · refine ⟨1152921504606846977, Ev_succ ?_, ?_⟩
      · simp only [contangoref03_value.l0, if_pos (show (i : Int) < (s.size : Int) by omega), if_pos c]
        exact Ev.now _
      · omega
    · have hw : wrap64 (wrap64 (10 * n) + (bt s (i : Int) - 48)) = 10 * n + (bt s (i : Int) - 48) := by
        rw [w_id (x := 10 * n) (by omega) (by omega), w_id (by omega) (by omega)]
      obtain ⟨r, h2, h3⟩ := value_loop s hs hall d (i + 1) (10 * n + (bt s (i : Int) - 48)) (by omega) (by omega) (by omega)
      refine ⟨r, Ev_succ ?_, h3⟩
      simp only [contangoref03_value.l0, if_pos (show (i : Int) < (s.size : Int) by omega), if_neg c, if_pos (show 0 ≤ (i : Int) by omega), w_succ hi (by omega), Int.emod_eq_of_lt (show 0 ≤ bt s (i : Int) - 48 by omega) (show bt s (i : Int) - 48 < 256 by omega), hw]
      exact h2
def sgnR (v : Int) (m : Bool) : Int × Int := if m = true ∧ v = 0 then (0, 5) else if 1152921504606846976 < v then (0, 3) else (if m then -v else v, 0)
theorem signed_f (v : Int) (m : Bool) (h0 : 0 ≤ v) : Ev (fun k => contangoref03_signed.f k v m) (sgnR v m) := by
  have hj : ∀ b : Bool, b = (m && v == 0) → Ev (fun k => contangoref03_signed.j0 k v m b) (sgnR v m) := by
    intro b hb
    refine Ev_succ ?_
    unfold sgnR
    subst hb
    cases m with
    | false =>
      simp only [contangoref03_signed.j0, Bool.false_and, Bool.false_eq_true, if_false, false_and]
      by_cases c2 : v > 1152921504606846976
      · simp only [if_pos c2]
        exact Ev.now _
      · simp only [if_neg c2]
        exact Ev.now _
    | true =>
      by_cases c : v = 0
      · simp only [contangoref03_signed.j0, c, beq_self_eq_true, Bool.and_self, if_true, and_self]
        exact Ev.now _
      · have c' : (v == 0) = false := by simpa using c
        simp only [contangoref03_signed.j0, c', Bool.and_false, Bool.false_eq_true, if_false, c, and_false, if_true]
        by_cases c2 : v > 1152921504606846976
        · simp only [if_pos c2]
          exact Ev.now _
        · simp only [if_neg c2, neg_w v h0 (show v ≤ 1152921504606846976 by omega)]
          exact Ev.now _
  unfold contangoref03_signed.f
  cases m with
  | false => simp only [Bool.false_eq_true, if_false]; exact hj _ (by simp)
  | true => simp only [if_true]; exact hj _ (by simp)
theorem vs_f (s : ByteArray) (m : Bool) (hs : s.size ≤ 4611686018427387904) (hall : ∀ x ∈ bytesOf s, digitB x = true) : Ev (fun k => (contangoref03_value.f k s).bind fun t102 => ((contangoref03_signed.f k t102 m).bind fun bt103 => (some (bt103.1, bt103.2)))) (sgnR (numV 0 (bytesOf s)) m) := by
  obtain ⟨r, h1, h2⟩ := value_loop s hs hall s.size 0 0 (by omega) (by omega) (by omega)
  rw [List.drop_zero] at h2
  have hv := numV_mono (bytesOf s) 0 (by omega) hall
  have hr0 : 0 ≤ r := by omega
  have he : sgnR r m = sgnR (numV 0 (bytesOf s)) m := by
    rcases h2 with ⟨h2, rfl⟩ | ⟨h2, h3⟩
    · rfl
    · unfold sgnR
      rw [if_neg (show ¬ (m = true ∧ r = 0) from fun h => by have := h.2; omega), if_neg (show ¬ (m = true ∧ numV 0 (bytesOf s) = 0) from fun h => by have := h.2; omega), if_pos h3, if_pos h2]
  rw [← he]
  refine Ev_bind (f := fun k t102 => ((contangoref03_signed.f k t102 m).bind fun bt103 => (some (bt103.1, bt103.2)))) h1 ?_
  exact Ev_bind (signed_f r m hr0) (Ev.now _)
def rintT (T : List Int) (m : Bool) : Int × Int := if plainL T = true then sgnR (numV 0 T) m else (0, 5)
theorem rint_j1 (s : ByteArray) (m : Bool) (hs : s.size ≤ 4611686018427387904) : Ev (fun k => contangoref03_Int.j1 k s m) (rintT (bytesOf s) m) := by
  refine Ev_succ ?_
  simp only [contangoref03_Int.j1]
  refine Ev_bind (rdigits_f s hs) ?_
  unfold rintT
  by_cases c : plainL (bytesOf s) = true
  · simp only [if_pos c]
    exact vs_f s m hs (plain_all c)
  · simp only [if_neg c]
    exact Ev.now _
theorem unsign_ext (s : ByteArray) (h : (bytesOf s).head? = some 45) : bytesOf (s.extract 1 s.size) = (bytesOf s).tail := by
  rw [by_ext, ← by_len, List.take_length, List.drop_one]
theorem rint_f (s : ByteArray) (hs : s.size ≤ 4611686018427387904) : Ev (fun k => contangoref03_Int.f k s) (rintT (unsign (bytesOf s)).1 (unsign (bytesOf s)).2) := by
  have hj : ∀ b : Bool, b = decide ((bytesOf s).head? = some 45) → Ev (fun k => contangoref03_Int.j0 k s b) (rintT (unsign (bytesOf s)).1 (unsign (bytesOf s)).2) := by
    intro b hb
    refine Ev_succ ?_
    unfold unsign
    by_cases c : (bytesOf s).head? = some 45
    · rw [decide_eq_true c] at hb
      subst hb
      rw [if_pos c]
      have h3 : 0 < s.size := by
        rw [← by_len]
        rcases hb : bytesOf s with _ | ⟨x, r⟩
        · rw [hb] at c; simp at c
        · simp
      simp only [contangoref03_Int.j0, if_true, if_pos (show 1 ≤ (s.size : Int) by omega)]
      have := rint_j1 (s.extract 1 s.size) true (by rw [ByteArray.size_extract]; omega)
      rw [unsign_ext s c] at this
      exact this
    · rw [decide_eq_false c] at hb
      subst hb
      rw [if_neg c]
      simp only [contangoref03_Int.j0, Bool.false_eq_true, if_false]
      exact rint_j1 s false hs
  unfold contangoref03_Int.f
  by_cases c : (s.size : Int) > 0
  · simp only [if_pos c, if_pos (show 0 < (s.size : Int) by omega)]
    refine hj _ ?_
    rw [bt_head s (by omega)]
    rw [Bool.eq_iff_iff]
    simp
  · simp only [if_neg c]
    refine hj _ ?_
    have h4 : bytesOf s = [] := List.length_eq_zero_iff.1 (by rw [by_len]; omega)
    rw [h4]
    rfl
def rcentsT (T : List Int) (m : Bool) : Int × Int := if 3 < T.length ∧ T[T.length - 3]? = some 46 ∧ plainL (T.take (T.length - 3)) = true ∧ plainL (49 :: T.drop (T.length - 2)) = true then sgnR (numV 0 (T.take (T.length - 3) ++ T.drop (T.length - 2))) m else (0, 5)
theorem plain_two {B : List Int} (h : B.length = 2) : plainL (49 :: B) = B.all digitB := by
  unfold plainL
  simp [show digitB 49 = true from rfl]
theorem rcents_j1 (s : ByteArray) (m : Bool) (hs : s.size ≤ 4611686018427387904) : Ev (fun k => contangoref03_Cents.j1 k s m) (rcentsT (bytesOf s) m) := by
  have hL : (bytesOf s).length = s.size := by_len s
  have bad : ∀ x : Int, rcentsT (bytesOf s) m = (0, 5) → Ev (fun k => contangoref03_Cents.j2 k s m x true) (rcentsT (bytesOf s) m) := by
    intro x h
    rw [h]
    refine Ev_succ ?_
    simp only [contangoref03_Cents.j2, if_true]
    exact Ev.now _
  refine Ev_succ ?_
  simp only [contangoref03_Cents.j1]
  by_cases c0 : 3 < s.size
  case neg =>
    have hw : wrap64 ((s.size : Int) - 3) < 1 := by rw [w_id (by omega) (by omega)]; omega
    simp only [if_pos hw]
    refine bad _ ?_
    unfold rcentsT
    rw [if_neg (fun h => c0 (by rw [← hL]; exact h.1))]
  have hw : wrap64 ((s.size : Int) - 3) = ((s.size - 3 : Nat) : Int) := by rw [w_id (by omega) (by omega)]; omega
  have hw2 : wrap64 (((s.size - 3 : Nat) : Int) + 1) = ((s.size - 2 : Nat) : Int) := by rw [w_id (by omega) (by omega)]; omega
  have hat : bt s ((s.size - 3 : Nat) : Int) = (bytesOf s)[s.size - 3]'(by rw [hL]; omega) := by_bt s _ (by rw [hL]; omega)
  have hat2 : (bytesOf s)[s.size - 3]? = some (bt s ((s.size - 3 : Nat) : Int)) := by rw [hat]; exact List.getElem?_eq_getElem _
  have e1 : bytesOf (s.extract 0 (s.size - 3)) = (bytesOf s).take (s.size - 3) := by rw [by_ext, List.drop_zero]
  have e2 : bytesOf (s.extract (s.size - 2) s.size) = (bytesOf s).drop (s.size - 2) := by rw [by_ext, ← hL, List.take_length]
  have z1 : (s.extract 0 (s.size - 3)).size = s.size - 3 := by rw [ByteArray.size_extract]; omega
  have z2 : (s.extract (s.size - 2) s.size).size = 2 := by rw [ByteArray.size_extract]; omega
  simp only [hw, hw2, if_neg (show ¬ ((s.size - 3 : Nat) : Int) < 1 by omega), if_pos (show 0 ≤ ((s.size - 3 : Nat) : Int) by omega), if_pos (show ((s.size - 3 : Nat) : Int) < (s.size : Int) by omega), if_pos (show ((s.size - 3 : Nat) : Int) ≤ (s.size : Int) by omega), if_pos (show 0 ≤ ((s.size - 2 : Nat) : Int) by omega), if_pos (show ((s.size - 2 : Nat) : Int) ≤ (s.size : Int) by omega), Int.toNat_natCast]
  by_cases c1 : bt s ((s.size - 3 : Nat) : Int) = 46
  case neg =>
    simp only [if_neg c1]
    refine bad _ ?_
    unfold rcentsT
    rw [if_neg (fun h => c1 (by have := h.2.1; rw [hL, hat2] at this; exact Option.some.inj this))]
  simp only [if_pos c1]
  refine Ev_bind (rdigits_f _ (by omega)) ?_
  rw [e1]
  by_cases c2 : plainL ((bytesOf s).take (s.size - 3)) = true
  case neg =>
    simp only [if_neg c2]
    refine bad _ ?_
    unfold rcentsT
    rw [if_neg (fun h => c2 (by have := h.2.2.1; rw [hL] at this; exact this))]
  have hsum : 1 + (s.extract (s.size - 2) s.size).size ≤ 9223372036854775807 := by omega
  simp only [if_pos c2, if_pos hsum]
  refine Ev_bind (rdigits_f _ (by rw [ByteArray.size_append]; have : (⟨#[49]⟩ : ByteArray).size = 1 := rfl; omega)) ?_
  have e3 : bytesOf ((⟨#[49]⟩ : ByteArray) ++ s.extract (s.size - 2) s.size) = 49 :: (bytesOf s).drop (s.size - 2) := by rw [by_app, e2]; rfl
  rw [e3]
  by_cases c3 : plainL (49 :: (bytesOf s).drop (s.size - 2)) = true
  case neg =>
    have c4 : plainL (49 :: (bytesOf s).drop (s.size - 2)) = false := by simpa using c3
    rw [c4]
    refine bad _ ?_
    unfold rcentsT
    rw [if_neg (fun h => c3 (by have := h.2.2.2; rw [hL] at this; exact this))]
  rw [c3]
  have hr : rcentsT (bytesOf s) m = sgnR (numV 0 ((bytesOf s).take (s.size - 3) ++ (bytesOf s).drop (s.size - 2))) m := by
    unfold rcentsT
    rw [hL, if_pos ⟨c0, by rw [hat2, c1], c2, c3⟩]
  rw [hr]
  refine Ev_succ ?_
  have hsum2 : (s.extract 0 (s.size - 3)).size + (s.extract (s.size - 2) s.size).size ≤ 9223372036854775807 := by omega
  simp only [contangoref03_Cents.j2, Bool.not_true, Bool.false_eq_true, if_false, hw2, if_pos (show 0 ≤ ((s.size - 3 : Nat) : Int) by omega), if_pos (show ((s.size - 3 : Nat) : Int) ≤ (s.size : Int) by omega), if_pos (show 0 ≤ ((s.size - 2 : Nat) : Int) by omega), if_pos (show ((s.size - 2 : Nat) : Int) ≤ (s.size : Int) by omega), Int.toNat_natCast, if_pos hsum2]
  have e4 : bytesOf (s.extract 0 (s.size - 3) ++ s.extract (s.size - 2) s.size) = (bytesOf s).take (s.size - 3) ++ (bytesOf s).drop (s.size - 2) := by rw [by_app, e1, e2]
  rw [← e4]
  refine vs_f _ m (by rw [ByteArray.size_append]; omega) ?_
  rw [e4]
  intro x hx
  rcases List.mem_append.1 hx with h | h
  · exact plain_all c2 x h
  · exact plain_all c3 x (by simp [h])
theorem rcents_f (s : ByteArray) (hs : s.size ≤ 4611686018427387904) : Ev (fun k => contangoref03_Cents.f k s) (rcentsT (unsign (bytesOf s)).1 (unsign (bytesOf s)).2) := by
  have hj : ∀ b : Bool, b = decide ((bytesOf s).head? = some 45) → Ev (fun k => contangoref03_Cents.j0 k s b) (rcentsT (unsign (bytesOf s)).1 (unsign (bytesOf s)).2) := by
    intro b hb
    refine Ev_succ ?_
    unfold unsign
    by_cases c : (bytesOf s).head? = some 45
    · rw [decide_eq_true c] at hb
      subst hb
      rw [if_pos c]
      have h3 : 0 < s.size := by
        rw [← by_len]
        rcases hb : bytesOf s with _ | ⟨x, r⟩
        · rw [hb] at c; simp at c
        · simp
      simp only [contangoref03_Cents.j0, if_true, if_pos (show 1 ≤ (s.size : Int) by omega)]
      have := rcents_j1 (s.extract 1 s.size) true (by rw [ByteArray.size_extract]; omega)
      rw [unsign_ext s c] at this
      exact this
    · rw [decide_eq_false c] at hb
      subst hb
      rw [if_neg c]
      simp only [contangoref03_Cents.j0, Bool.false_eq_true, if_false]
      exact rcents_j1 s false hs
  unfold contangoref03_Cents.f
  by_cases c : (s.size : Int) > 0
  · simp only [if_pos c, if_pos (show 0 < (s.size : Int) by omega)]
    refine hj _ ?_
    rw [bt_head s (by omega)]
    rw [Bool.eq_iff_iff]
    simp
  · simp only [if_neg c]
    refine hj _ ?_
    have h4 : bytesOf s = [] := List.length_eq_zero_iff.1 (by rw [by_len]; omega)
    rw [h4]
    rfl
theorem dot_no {A : List Int} (h : ∀ x ∈ A, digitB x = true) : (46 : Int) ∉ A := fun hm => by
  have := dig_rng (h 46 hm)
  omega
theorem numV_two {A B : List Int} (hA : plainL A = true) (hB : B.length = 2) (hd : B.all digitB = true) : numV 0 (A ++ B) = 0 ↔ A = [48] ∧ B = [48, 48] := by
  constructor
  · intro h
    rw [numV_app] at h
    obtain ⟨x, y, rfl⟩ : ∃ x y, B = [x, y] := by
      rcases B with _ | ⟨x, _ | ⟨y, _ | ⟨z, r⟩⟩⟩
      · cases hB
      · cases hB
      · exact ⟨x, y, rfl⟩
      · simp at hB
    have hx := dig_rng (List.all_eq_true.1 hd x (by simp))
    have hy := dig_rng (List.all_eq_true.1 hd y (by simp))
    have h0 := numV_mono A 0 (by omega) (plain_all hA)
    have he : numV (numV 0 A) [x, y] = 10 * (10 * numV 0 A + (x - 48)) + (y - 48) := rfl
    rw [he] at h
    refine ⟨plain_zero hA (by omega), ?_⟩
    rw [show x = 48 by omega, show y = 48 by omega]
  · rintro ⟨rfl, rfl⟩
    rfl
theorem cents_same (T : List Int) (m : Bool) : centsT T m = rcentsT T m := by
  by_cases c : (cutL T 46).2.2 = true ∧ plainL (cutL T 46).1 = true ∧ (cutL T 46).2.1.length = 2 ∧ (cutL T 46).2.1.all digitB = true
  · unfold centsT rcentsT
    obtain ⟨h1, h2, h3, h4⟩ := c
    cases hI : idxL T 46 with
    | none => rw [cutL_none hI] at h1; cases h1
    | some i =>
      rw [cutL_some hI] at h1 h2 h3 h4 ⊢
      simp only [] at h1 h2 h3 h4 ⊢
      have hi := idx_some hI
      rw [List.length_drop] at h3
      have hlen : T.length = i + 3 := by omega
      have e3 : T.length - 3 = i := by omega
      have e2 : T.length - 2 = i + 1 := by omega
      have hp : 0 < i := by
        rcases Nat.eq_zero_or_pos i with h | h
        · subst h
          simp [plainL] at h2
        · exact h
      have hB : (T.drop (i + 1)).length = 2 := by rw [List.length_drop]; omega
      rw [e3, e2, if_pos (show 3 < T.length ∧ T[i]? = some 46 ∧ plainL (T.take i) = true ∧ plainL (49 :: T.drop (i + 1)) = true from ⟨by omega, hi.2.1, h2, by rw [plain_two hB]; exact h4⟩)]
      have hz := numV_two h2 hB h4
      have hT : (T.take i = [48] ∧ T.drop (i + 1) = [48, 48]) ↔ T = [48, 46, 48, 48] := by
        constructor
        · rintro ⟨a, b⟩
          rw [hi.2.2.2, a, b]
          rfl
        · intro h
          subst h
          simp at hlen
          obtain rfl : i = 1 := by omega
          exact ⟨rfl, rfl⟩
      rw [hT] at hz
      unfold sgnR numR
      by_cases c5 : m = true ∧ T = [48, 46, 48, 48]
      · rw [if_neg (fun h => h.2.2.2.2 c5), if_pos ⟨c5.1, hz.2 c5.2⟩]
      · rw [if_pos ⟨trivial, h2, hB, h4, c5⟩, if_neg (show ¬ (m = true ∧ numV 0 (T.take i ++ T.drop (i + 1)) = 0) from fun h => c5 ⟨h.1, hz.1 h.2⟩)]
  · have hl : centsT T m = (0, 5) := by
      unfold centsT
      rw [if_neg (fun h => c ⟨h.1, h.2.1, h.2.2.1, h.2.2.2.1⟩)]
    rw [hl]
    unfold rcentsT
    by_cases c2 : 3 < T.length ∧ T[T.length - 3]? = some 46 ∧ plainL (T.take (T.length - 3)) = true ∧ plainL (49 :: T.drop (T.length - 2)) = true
    · exfalso
      obtain ⟨g1, g2, g3, g4⟩ := c2
      apply c
      have hs : T = T.take (T.length - 3) ++ 46 :: T.drop (T.length - 2) := by
        have hlt : T.length - 3 < T.length := by omega
        have e : T[T.length - 3] = 46 := by
          rw [List.getElem?_eq_getElem hlt] at g2
          exact Option.some.inj g2
        have := List.take_append_drop (T.length - 3) T
        rw [drop_cons _ _ hlt, e, show T.length - 3 + 1 = T.length - 2 by omega] at this
        exact this.symm
      have hI : idxL T 46 = some (T.length - 3) := by
        have := idx_of (A := T.take (T.length - 3)) (R := T.drop (T.length - 2)) (dot_no (plain_all g3))
        rw [← hs, List.length_take] at this
        rw [this]
        congr 1
        omega
      have hB : (T.drop (T.length - 3 + 1)).length = 2 := by rw [List.length_drop]; omega
      rw [cutL_some hI]
      refine ⟨rfl, g3, hB, ?_⟩
      have := plain_two hB
      rw [show T.length - 3 + 1 = T.length - 2 by omega] at this ⊢
      rw [← this]
      exact g4
    · rw [if_neg c2]
theorem int_same (L : List Int) : intL L = rintT (unsign L).1 (unsign L).2 := by
  unfold intL rintT sgnR numR
  generalize (unsign L).2 = m
  generalize (unsign L).1 = T
  by_cases c : plainL T = true
  · rw [if_pos c]
    by_cases c2 : m = true ∧ T = [48]
    · rw [if_neg (fun h => h.2 c2), if_pos ⟨c2.1, by rw [c2.2]; rfl⟩]
    · rw [if_pos ⟨c, c2⟩, if_neg (show ¬ (m = true ∧ numV 0 T = 0) from fun h => c2 ⟨h.1, plain_zero c h.2⟩)]
  · rw [if_neg (fun h => c h.1), if_neg c]
end Go.Proofs.YtgaicbhbgephbaaDoor.P
end
section
namespace Go.Proofs.YtgaicbhbgephbaaDoor.P
open Go.RowKit Go.Proofs.YtgaicbhbgephbaaDoorW.PrintWords Go.Proofs.YtgaicbhbgephbaaDoorW.PrintMore Go.Proofs.YtgaicbhbgephbaaDoor.X
set_option maxRecDepth 100000 in
theorem goes03 : Ev (fun k => contangolaw03_goes.f k) true := Ev.of (k := 40) (contangolaw03_goes.mono) (by decide +kernel)
end Go.Proofs.YtgaicbhbgephbaaDoor.P
end
section
namespace Go.Proofs.YtgaicbhbgephbaaDoor.Pure
set_option linter.unusedVariables false
set_option linter.unusedSimpArgs false
open Go.RowKit Go.Proofs.YtgaicbhbgephbaaDoorW.PrintWords Go.Proofs.YtgaicbhbgephbaaDoorW.PrintMore Go.Proofs.YtgaicbhbgephbaaDoor.X Go.Proofs.YtgaicbhbgephbaaDoor.P
theorem WordsReads : ∀ (a0 : ByteArray), a0.size ≤ 140737488351232 → ∃ k, X.contangolaw03_WordsReads.f k a0 = some true := by
  intro a0 h0
  refine Ev.rounds ?_
  unfold contangolaw03_WordsReads.f
  refine Ev_bind (int_f a0 (by omega)) ?_
  refine Ev_bind (rint_f a0 (by omega)) ?_
  refine Ev_bind (cents_f a0 (by omega)) ?_
  refine Ev_bind (rcents_f a0 (by omega)) ?_
  refine Ev_bind (name_f a0) ?_
  refine Ev_bind (nameR_f a0 (by omega)) ?_
  rw [int_same, show centsL (bytesOf a0) = rcentsT (unsign (bytesOf a0)).1 (unsign (bytesOf a0)).2 from cents_same _ _]
  simp only [beq_self_eq_true, if_true]
  exact Ev_id goes03
end Go.Proofs.YtgaicbhbgephbaaDoor.Pure
end
