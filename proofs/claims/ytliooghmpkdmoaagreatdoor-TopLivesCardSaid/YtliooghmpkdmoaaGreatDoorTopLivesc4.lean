/- For TopLives: contracts, and facts on lists and numbers, that it uses (part 4). -/
import Derived.ChangeArms
import Derived.Deep.Slices
import Derived.Laws.BitsLemmas
import Derived.Laws.Strings
import Derived.Lib.Bytealg
import Derived.OpenShut
import Derived.SizedLaws
import Derived.Test.YtliooghmpkdmoaaGreatDoorTopLivesc3
import Derived.WideShapes
section
namespace Go.Proofs.YtliooghmpkdmoaaGreatDoor.X
open Go.RowKit Go.Proofs.YtliooghmpkdmoaaGreatDoorW.PrintWords Go.Proofs.YtliooghmpkdmoaaGreatDoorW.PrintLast Go.Proofs.YtliooghmpkdmoaaGreatDoorW.PrintMore
attribute [local go_sem] max2_int min2_int max_two min_two max_three min_three max_four min_four
set_option linter.unusedVariables false
set_option linter.unusedSimpArgs false
def cmp_Less_int.f (a0 : Int) (a1 : Int) : Option (Bool) := (cmp_isNaN_int.f a0).bind fun t101 => (if t101 = true then ((cmp_isNaN_int.f a1).bind fun t102 => (if t102 = true then (some (decide (a0 < a1))) else (some true))) else (some (decide (a0 < a1))))
set_option maxHeartbeats 8000000 in
set_option maxRecDepth 100000 in
theorem cmp_Less_int.calls (a0 : Int) (a1 : Int) (r : Bool) (w : World) (h : cmp_Less_int.f a0 a1 = some r) :
    Calls Tryz.prog 81 #[.int .i64 a0, .int .i64 a1] w fun e w' => e = .returned (.bool r) ∧ Drawn0 w w' := by
  have H : ((cmp_isNaN_int.f a0).bind fun t101 => (if t101 = true then ((cmp_isNaN_int.f a1).bind fun t102 => (if t102 = true then (some (decide (a0 < a1))) else (some true))) else (some (decide (a0 < a1))))) = some r := h
  clear h
  replace H := bnd H
  obtain ⟨t101, A30, H⟩ := H
  have A3 := Aside0.mk A30
  clear A30
  by_cases c4 : t101 = true
  · subst c4
    rw [if_pos rfl] at H
    replace H := bnd H
    obtain ⟨t102, A50, H⟩ := H
    have A5 := Aside0.mk A50
    clear A50
    by_cases c6 : t102 = true
    · subst c6
      rw [if_pos rfl] at H
      obtain rfl := Option.some.inj H
      go_enter Tryz.func81, Tryz.ntmps81
      go_wp2_with (first | ((with_reducible refine gate_callee (f := 102) rfl ?_); refine goesL_ (some 6) rfl rfl Tryz.func102 (by kernel_rfl) rfl #[.int .i64 a0] rfl arg ?_; (with_reducible refine (cmp_isNaN_int.calls a0 true _ A3.out).mono ?_); rintro e w' ⟨rfl, ⟨nd, rfl⟩⟩; refine ⟨_, rfl, ?_⟩) | (go_at_call 102; (with_reducible refine (cmp_isNaN_int.calls a1 true _ A5.out).mono ?_); rintro e w' ⟨rfl, ⟨nd, rfl⟩⟩))
      go_ret
      exact ⟨eqs, drz⟩
    · replace c6 := Bool.eq_false_iff.mpr c6
      subst c6
      rw [if_neg (show ¬ (false = true) by decide)] at H
      obtain rfl := Option.some.inj H
      go_enter Tryz.func81, Tryz.ntmps81
      go_wp2_with (first | ((with_reducible refine gate_callee (f := 102) rfl ?_); refine goesL_ (some 6) rfl rfl Tryz.func102 (by kernel_rfl) rfl #[.int .i64 a0] rfl arg ?_; (with_reducible refine (cmp_isNaN_int.calls a0 true _ A3.out).mono ?_); rintro e w' ⟨rfl, ⟨nd, rfl⟩⟩; refine ⟨_, rfl, ?_⟩) | (go_at_call 102; (with_reducible refine (cmp_isNaN_int.calls a1 false _ A5.out).mono ?_); rintro e w' ⟨rfl, ⟨nd, rfl⟩⟩))
      go_ret
      exact ⟨eqs, drz⟩
  · replace c4 := Bool.eq_false_iff.mpr c4
    subst c4
    rw [if_neg (show ¬ (false = true) by decide)] at H
    obtain rfl := Option.some.inj H
    go_enter Tryz.func81, Tryz.ntmps81
    go_wp2_with (first | ((with_reducible refine gate_callee (f := 102) rfl ?_); refine goesL_ (some 6) rfl rfl Tryz.func102 (by kernel_rfl) rfl #[.int .i64 a0] rfl arg ?_; (with_reducible refine (cmp_isNaN_int.calls a0 false _ A3.out).mono ?_); rintro e w' ⟨rfl, ⟨nd, rfl⟩⟩; refine ⟨_, rfl, ?_⟩))
    go_ret
    exact ⟨eqs, drz⟩
def slices_isNaN_int.f (a0 : Int) : Option (Bool) := some (a0 != a0)
set_option maxHeartbeats 8000000 in
set_option maxRecDepth 100000 in
theorem slices_isNaN_int.calls (a0 : Int) (r : Bool) (w : World) (h : slices_isNaN_int.f a0 = some r) :
    Calls Tryz.prog 82 #[.int .i64 a0] w fun e w' => e = .returned (.bool r) ∧ Drawn0 w w' := by
  have H : (some (a0 != a0)) = some r := h
  clear h
  obtain rfl := Option.some.inj H
  go_enter Tryz.func82, Tryz.ntmps82
  go_wp2
  go_ret
  exact ⟨eqs, drz⟩
def slices_BinarySearch_int_int.l0 : Nat → List Int → Int → Int → Int → Int → Option (Int × Bool)
  | 0, _, _, _, _, _ => none
  | k + 1, x0, x1, x6, x7, x8 => if x7 < x8 then (if 0 ≤ (wrap64 ((IntKind.u64.wrap (wrap64 (x7 + x8))) / 2)) then (if (wrap64 ((IntKind.u64.wrap (wrap64 (x7 + x8))) / 2)) < (x0.length : Int) then ((cmp_Less_int.f (rd x0 (wrap64 ((IntKind.u64.wrap (wrap64 (x7 + x8))) / 2))) x1).bind fun t102 => (if t102 = true then (slices_BinarySearch_int_int.l0 k x0 x1 x6 (wrap64 ((wrap64 ((IntKind.u64.wrap (wrap64 (x7 + x8))) / 2)) + 1)) x8) else (slices_BinarySearch_int_int.l0 k x0 x1 x6 x7 (wrap64 ((IntKind.u64.wrap (wrap64 (x7 + x8))) / 2))))) else (none)) else (none)) else (if x7 < x6 then (if 0 ≤ x7 then (if x7 < (x0.length : Int) then (if (rd x0 x7) = x1 then (some (x7, true)) else ((slices_isNaN_int.f (rd x0 x7)).bind fun t105 => (if t105 = true then ((slices_isNaN_int.f x1).bind fun t106 => (some (x7, t106))) else (some (x7, false))))) else (none)) else (none)) else (some (x7, false)))
def slices_BinarySearch_int_int.f (k : Nat) (l0 : List Int) (a1 : Int) : Option (Int × Bool) := slices_BinarySearch_int_int.l0 k l0 a1 (l0.length : Int) 0 (l0.length : Int)
set_option maxHeartbeats 8000000 in
set_option maxRecDepth 100000 in
theorem slices_BinarySearch_int_int.calls (k : Nat) (A0 : Option Addr) (c0 : Nat) (l0 : List Int) (a1 : Int) (r1 : Int) (r2 : Bool) (w : World) (hr0 : Kd.C (Kd.int .i64) w A0 l0.length l0) (hc0 : l0.length ≤ c0) (h : slices_BinarySearch_int_int.f k l0 a1 = some (r1, r2)) :
    Calls Tryz.prog 53 #[.slice A0 l0.length c0, .int .i64 a1] w fun e w' => e = .returned (.tuple #[.int .i64 r1, .bool r2]) ∧ Drawn0 w w' := by
  have HR0 := Aside0.mk hr0
  have HC0 := Aside0.mk hc0
  clear hr0 hc0
  have H : (slices_BinarySearch_int_int.l0 k l0 a1 (l0.length : Int) 0 (l0.length : Int)) = some (r1, r2) := h
  clear h
  have H' := Aside0.mk H
  clear H
  go_enter Tryz.func53, Tryz.ntmps53
  go_wp2
  go_loopg [7, 8] k (fun kq v7 v8 w' => ∃ (x7_1 : Int) (x8_1 : Int), v7 = .int .i64 x7_1 ∧ v8 = .int .i64 x8_1 ∧ Aside0 (slices_BinarySearch_int_int.l0 kq l0 a1 (l0.length : Int) x7_1 x8_1 = some (r1, r2)) ∧ Aside0 (kq ≤ k) ∧ Drawn0 w w')
  case atStart => exact ⟨(0), ((l0.length : Int)), eqs, eqs, H', ⟨Nat.le_refl _⟩, drz⟩
  case round =>
    clear H'
    try clear p2
    obtain ⟨x7_1, x8_1, rfl, rfl, HA, HK1, ⟨m1, rfl⟩⟩ := hrel
    cases gk with
    | zero => exact absurd HA.out (by simp [slices_BinarySearch_int_int.l0])
    | succ k1 =>
      have H := HA.out
      clear HA
      simp only [slices_BinarySearch_int_int.l0] at H
      by_cases c3 : x7_1 < x8_1
      · rw [if_pos c3] at H
        have c3b0 := decide_eq_true c3
        clear c3
        obtain ⟨ji4, hji4⟩ : ∃ j_ : Int, (wrap64 ((IntKind.u64.wrap (wrap64 (x7_1 + x8_1))) / 2)) = j_ := ⟨_, rfl⟩
        replace H : (if 0 ≤ (ji4) then (if (ji4) < (l0.length : Int) then ((cmp_Less_int.f (rd l0 (ji4)) a1).bind fun t102 => (if t102 = true then (slices_BinarySearch_int_int.l0 k1 l0 a1 (l0.length : Int) (wrap64 ((ji4) + 1)) x8_1) else (slices_BinarySearch_int_int.l0 k1 l0 a1 (l0.length : Int) x7_1 ji4))) else (none)) else (none)) = some (r1, r2) := by first | (rw [hji4] at H; exact H) | (simp only [hji4] at H ⊢; exact H)
        have hji4w : (IntKind.i64.wrap ((IntKind.u64.wrap (wrap64 (x7_1 + x8_1))) / 2)) = ji4 := (i64_w _).trans hji4
        by_cases c5 : 0 ≤ (ji4)
        · rw [if_pos c5] at H
          have c5b0 := decide_eq_true c5
          clear c5
          by_cases c6 : (ji4) < (l0.length : Int)
          · rw [if_pos c6] at H
            have c6b0 := decide_eq_true c6
            clear c6
            replace H := bnd H
            obtain ⟨t102, A70, H⟩ := H
            have A7 := Aside0.mk A70
            clear A70
            by_cases c8 : t102 = true
            · subst c8
              rw [if_pos rfl] at H
              have H' := Aside0.mk H
              clear H
              have p101 : 0 ≤ ((ji4) : Int) := dt
              have q101 : (ji4) < (l0.length : Int) := dt
              obtain ⟨ad101, e101, hx101_0⟩ := Kd.at_int HR0.out (ji4) p101 q101
              cases e101
              replace p101 := eq_true p101
              replace q101 := eq_true q101
              go_wp2_with (first | ((with_reducible refine gate_callee (f := 81) rfl ?_); refine goesL_ (some 27) rfl rfl Tryz.func81 (by kernel_rfl) rfl #[.int .i64 (rd l0 (ji4)), .int .i64 a1] rfl (by (try simp only [List.map_toArray, List.map_cons, List.map_nil]); first | done | (simp only [hji4]; rfl) | rfl | (simp only [List.length_drop, List.length_take]; rfl)) ?_; (with_reducible refine (cmp_Less_int.calls (rd l0 (ji4)) a1 true _ A7.out).mono ?_); rintro e w' ⟨rfl, ⟨nd, rfl⟩⟩; refine ⟨_, rfl, ?_⟩))
              go_roundg k1
              case measure => have := HK1.out; omega
              case rel => exact ⟨(wrap64 ((ji4) + 1)), (x8_1), (by first | rfl | (simp; done) | (simp only [← hji4] <;> (first | rfl | simp)) | (simp [*]; done)), eqs, H', ⟨hko⟩, drz⟩
            · replace c8 := Bool.eq_false_iff.mpr c8
              subst c8
              rw [if_neg (show ¬ (false = true) by decide)] at H
              have H' := Aside0.mk H
              clear H
              have p101 : 0 ≤ ((ji4) : Int) := dt
              have q101 : (ji4) < (l0.length : Int) := dt
              obtain ⟨ad101, e101, hx101_0⟩ := Kd.at_int HR0.out (ji4) p101 q101
              cases e101
              replace p101 := eq_true p101
              replace q101 := eq_true q101
              go_wp2_with (first | ((with_reducible refine gate_callee (f := 81) rfl ?_); refine goesL_ (some 27) rfl rfl Tryz.func81 (by kernel_rfl) rfl #[.int .i64 (rd l0 (ji4)), .int .i64 a1] rfl (by (try simp only [List.map_toArray, List.map_cons, List.map_nil]); first | done | (simp only [hji4]; rfl) | rfl | (simp only [List.length_drop, List.length_take]; rfl)) ?_; (with_reducible refine (cmp_Less_int.calls (rd l0 (ji4)) a1 false _ A7.out).mono ?_); rintro e w' ⟨rfl, ⟨nd, rfl⟩⟩; refine ⟨_, rfl, ?_⟩))
              go_roundg k1
              case measure => have := HK1.out; omega
              case rel => exact ⟨(x7_1), (ji4), eqs, (by first | rfl | (simp; done) | (simp only [← hji4] <;> (first | rfl | simp)) | (simp [*]; done)), H', ⟨hko⟩, drz⟩
          · rw [if_neg c6] at H
            exact absurd H (by simp)
        · rw [if_neg c5] at H
          exact absurd H (by simp)
      · rw [if_neg c3] at H
        have c3b0 := decide_eq_false c3
        clear c3
        by_cases c9 : x7_1 < (l0.length : Int)
        · rw [if_pos c9] at H
          have c9b0 := decide_eq_true c9
          clear c9
          by_cases c10 : 0 ≤ x7_1
          · rw [if_pos c10] at H
            have c10b0 := decide_eq_true c10
            clear c10
            by_cases c11 : x7_1 < (l0.length : Int)
            · rw [if_pos c11] at H
              have c11b0 := decide_eq_true c11
              clear c11
              by_cases c12 : (rd l0 x7_1) = a1
              · rw [if_pos c12] at H
                have c12b0 : ((rd l0 x7_1) == a1) = true := beq_iff_eq.mpr c12
                have c12b1 : ((rd l0 x7_1) != a1) = false := bne_eq_false_iff_eq.mpr c12
                clear c12
                simp only [Option.some.injEq, Prod.mk.injEq] at H
                obtain ⟨rfl, rfl⟩ := H
                have p103 : 0 ≤ (x7_1 : Int) := dt
                have q103 : x7_1 < (l0.length : Int) := dt
                obtain ⟨ad103, e103, hx103_0⟩ := Kd.at_int HR0.out x7_1 p103 q103
                cases e103
                replace p103 := eq_true p103
                replace q103 := eq_true q103
                go_wp2
                go_ret2
                exact ⟨eqs, drz⟩
              · rw [if_neg c12] at H
                have c12b0 : ((rd l0 x7_1) == a1) = false := beq_eq_false_iff_ne.mpr c12
                have c12b1 : ((rd l0 x7_1) != a1) = true := bne_iff_ne.mpr c12
                replace H := bnd H
                obtain ⟨t105, A130, H⟩ := H
                have A13 := Aside0.mk A130
                clear A130
                by_cases c14 : t105 = true
                · subst c14
                  rw [if_pos rfl] at H
                  replace H := bnd H
                  obtain ⟨t106, A150, H⟩ := H
                  have A15 := Aside0.mk A150
                  clear A150
                  simp only [Option.some.injEq, Prod.mk.injEq] at H
                  obtain ⟨rfl, rfl⟩ := H
                  have p103 : 0 ≤ (x7_1 : Int) := dt
                  have q103 : x7_1 < (l0.length : Int) := dt
                  obtain ⟨ad103, e103, hx103_0⟩ := Kd.at_int HR0.out x7_1 p103 q103
                  cases e103
                  replace p103 := eq_true p103
                  replace q103 := eq_true q103
                  have p104 : 0 ≤ (x7_1 : Int) := dt
                  have q104 : x7_1 < (l0.length : Int) := dt
                  obtain ⟨ad104, e104, hx104_0⟩ := Kd.at_int HR0.out x7_1 p104 q104
                  obtain rfl : ad103 = ad104 := (by injection e104)
                  replace p104 := eq_true p104
                  replace q104 := eq_true q104
                  go_wp2_with (first | (go_at_call 82; (with_reducible refine (slices_isNaN_int.calls (rd l0 x7_1) true _ A13.out).mono ?_); rintro e w' ⟨rfl, ⟨nd, rfl⟩⟩) | (go_at_call 82; (with_reducible refine (slices_isNaN_int.calls a1 t106 _ A15.out).mono ?_); rintro e w' ⟨rfl, ⟨nd, rfl⟩⟩))
                  go_ret2
                  exact ⟨eqs, drz⟩
                · replace c14 := Bool.eq_false_iff.mpr c14
                  subst c14
                  rw [if_neg (show ¬ (false = true) by decide)] at H
                  simp only [Option.some.injEq, Prod.mk.injEq] at H
                  obtain ⟨rfl, rfl⟩ := H
                  have p103 : 0 ≤ (x7_1 : Int) := dt
                  have q103 : x7_1 < (l0.length : Int) := dt
                  obtain ⟨ad103, e103, hx103_0⟩ := Kd.at_int HR0.out x7_1 p103 q103
                  cases e103
                  replace p103 := eq_true p103
                  replace q103 := eq_true q103
                  have p104 : 0 ≤ (x7_1 : Int) := dt
                  have q104 : x7_1 < (l0.length : Int) := dt
                  obtain ⟨ad104, e104, hx104_0⟩ := Kd.at_int HR0.out x7_1 p104 q104
                  obtain rfl : ad103 = ad104 := (by injection e104)
                  replace p104 := eq_true p104
                  replace q104 := eq_true q104
                  go_wp2_with (first | (go_at_call 82; (with_reducible refine (slices_isNaN_int.calls (rd l0 x7_1) false _ A13.out).mono ?_); rintro e w' ⟨rfl, ⟨nd, rfl⟩⟩))
                  go_ret2
                  exact ⟨eqs, drz⟩
            · rw [if_neg c11] at H
              exact absurd H (by simp)
          · rw [if_neg c10] at H
            exact absurd H (by simp)
        · rw [if_neg c9] at H
          have c9b0 := decide_eq_false c9
          clear c9
          simp only [Option.some.injEq, Prod.mk.injEq] at H
          obtain ⟨rfl, rfl⟩ := H
          go_wp2
          go_ret2
          exact ⟨eqs, drz⟩
def workday_is.f (a0 : Int) : Option (Bool) := if a0 ≥ 0 then (some (decide (a0 ≤ 73048))) else (some false)
set_option maxHeartbeats 8000000 in
set_option maxRecDepth 100000 in
theorem workday_is.calls (a0 : Int) (r : Bool) (w : World) (h : workday_is.f a0 = some r) :
    Calls Tryz.prog 50 #[.int .i64 a0] w fun e w' => e = .returned (.bool r) ∧ Drawn0 w w' := by
  have H : (if a0 ≥ 0 then (some (decide (a0 ≤ 73048))) else (some false)) = some r := h
  clear h
  by_cases c2 : a0 ≥ 0
  · rw [if_pos c2] at H
    have c2b0 : decide (0 ≤ a0) = true := decide_eq_true c2
    clear c2
    obtain rfl := Option.some.inj H
    go_enter Tryz.func50, Tryz.ntmps50
    go_wp2
    go_ret
    exact ⟨eqs, drz⟩
  · rw [if_neg c2] at H
    have c2b0 : decide (0 ≤ a0) = false := decide_eq_false c2
    clear c2
    obtain rfl := Option.some.inj H
    go_enter Tryz.func50, Tryz.ntmps50
    go_wp2
    go_ret
    exact ⟨eqs, drz⟩
def workday_Check.l0 : Nat → List Int → List Int → Int → Int → Option (Int)
  | 0, _, _, _, _ => none
  | k + 1, x0, x8, x9, x10 => if x10 < x9 then (if 0 ≤ x10 then (if x10 < (x8.length : Int) then ((workday_is.f (rd x8 x10)).bind fun t102 => (if t102 = true then (if x10 > 0 then (if 0 ≤ (wrap64 (x10 - 1)) then (if (wrap64 (x10 - 1)) < (x0.length : Int) then (if (rd x8 x10) ≤ (rd x0 (wrap64 (x10 - 1))) then (some 2) else (workday_Check.l0 k x0 x8 x9 (wrap64 (x10 + 1)))) else (none)) else (none)) else (workday_Check.l0 k x0 x8 x9 (wrap64 (x10 + 1)))) else (some 15))) else (none)) else (none)) else (some 0)
def workday_Check.f (k : Nat) (l0 : List Int) : Option (Int) := if (l0.length : Int) > 1024 then (some 8) else (workday_Check.l0 k l0 l0 (l0.length : Int) 0)
set_option maxHeartbeats 8000000 in
set_option maxRecDepth 100000 in
theorem workday_Check.calls (k : Nat) (A0 : Option Addr) (c0 : Nat) (l0 : List Int) (r : Int) (w : World) (hr0 : Kd.C (Kd.int .i64) w A0 l0.length l0) (hc0 : l0.length ≤ c0) (h : workday_Check.f k l0 = some r) :
    Calls Tryz.prog 20 #[.slice A0 l0.length c0] w fun e w' => e = .returned (.int .i64 r) ∧ Drawn0 w w' := by
  have HR0 := Aside0.mk hr0
  have HC0 := Aside0.mk hc0
  clear hr0 hc0
  have H : (if (l0.length : Int) > 1024 then (some 8) else (workday_Check.l0 k l0 l0 (l0.length : Int) 0)) = some r := h
  clear h
  by_cases c2 : (l0.length : Int) > 1024
  · rw [if_pos c2] at H
    have c2b0 : decide (1024 < (l0.length : Int)) = true := decide_eq_true c2
    have c2b1 : decide (1024 < l0.length) = true := decide_eq_true (by omega)
    clear c2
    obtain rfl := Option.some.inj H
    go_enter Tryz.func20, Tryz.ntmps20
    go_wp2
    go_ret
    exact ⟨eqs, drz⟩
  · rw [if_neg c2] at H
    have c2b0 : decide (1024 < (l0.length : Int)) = false := decide_eq_false c2
    have c2b1 : decide (1024 < l0.length) = false := decide_eq_false (by omega)
    clear c2
    have H' := Aside0.mk H
    clear H
    go_enter Tryz.func20, Tryz.ntmps20
    go_wp2
    go_loopg [10] k (fun kq v10 w' => ∃ (x10_1 : Int), v10 = .int .i64 x10_1 ∧ Aside0 (workday_Check.l0 kq l0 l0 (l0.length : Int) x10_1 = some r) ∧ Aside0 (kq ≤ k) ∧ Drawn0 w w')
    case atStart => exact ⟨(0), eqs, H', ⟨Nat.le_refl _⟩, drz⟩
    case round =>
      clear H'
      try clear c2
      try clear c2b0
      try clear c2b1
      try clear p2
      obtain ⟨x10_1, rfl, HA, HK1, ⟨m1, rfl⟩⟩ := hrel
      cases gk with
      | zero => exact absurd HA.out (by simp [workday_Check.l0])
      | succ k1 =>
        have H := HA.out
        clear HA
        simp only [workday_Check.l0] at H
        by_cases c3 : x10_1 < (l0.length : Int)
        · rw [if_pos c3] at H
          have c3b0 := decide_eq_true c3
          clear c3
          by_cases c4 : 0 ≤ x10_1
          · rw [if_pos c4] at H
            have c4b0 := decide_eq_true c4
            clear c4
            by_cases c5 : x10_1 < (l0.length : Int)
            · rw [if_pos c5] at H
              have c5b0 := decide_eq_true c5
              clear c5
              replace H := bnd H
              obtain ⟨t102, A60, H⟩ := H
              have A6 := Aside0.mk A60
              clear A60
              by_cases c7 : t102 = true
              · subst c7
                rw [if_pos rfl] at H
                by_cases c8 : x10_1 > 0
                · rw [if_pos c8] at H
                  have c8b0 : decide (0 < x10_1) = true := decide_eq_true c8
                  clear c8
                  obtain ⟨ji9, hji9⟩ : ∃ j_ : Int, (wrap64 (x10_1 - 1)) = j_ := ⟨_, rfl⟩
                  replace H : (if 0 ≤ (ji9) then (if (ji9) < (l0.length : Int) then (if (rd l0 x10_1) ≤ (rd l0 (ji9)) then (some 2) else (workday_Check.l0 k1 l0 l0 (l0.length : Int) (wrap64 (x10_1 + 1)))) else (none)) else (none)) = some r := by first | (rw [hji9] at H; exact H) | (simp only [hji9] at H ⊢; exact H)
                  (try rw [hji9] at A6)
                  have hji9w : (IntKind.i64.wrap (x10_1 - 1)) = ji9 := (i64_w _).trans hji9
                  by_cases c10 : 0 ≤ (ji9)
                  · rw [if_pos c10] at H
                    have c10b0 := decide_eq_true c10
                    clear c10
                    by_cases c11 : (ji9) < (l0.length : Int)
                    · rw [if_pos c11] at H
                      have c11b0 := decide_eq_true c11
                      clear c11
                      by_cases c12 : (rd l0 x10_1) ≤ (rd l0 (ji9))
                      · rw [if_pos c12] at H
                        have c12b0 := decide_eq_true c12
                        clear c12
                        obtain rfl := Option.some.inj H
                        have p101 : 0 ≤ (x10_1 : Int) := dt
                        have q101 : x10_1 < (l0.length : Int) := dt
                        obtain ⟨ad101, e101, hx101_0⟩ := Kd.at_int HR0.out x10_1 p101 q101
                        cases e101
                        replace p101 := eq_true p101
                        replace q101 := eq_true q101
                        go_wp2_with (first | ((with_reducible refine gate_callee (f := 50) rfl ?_); refine goesL_ (some 16) rfl rfl Tryz.func50 (by kernel_rfl) rfl #[.int .i64 (rd l0 x10_1)] rfl arg ?_; (with_reducible refine (workday_is.calls (rd l0 x10_1) true _ A6.out).mono ?_); rintro e w' ⟨rfl, ⟨nd, rfl⟩⟩; refine ⟨_, rfl, ?_⟩; have p103 : 0 ≤ ((ji9) : Int) := dt; have q103 : (ji9) < (l0.length : Int) := dt; obtain ⟨ad103, e103, hx103_0⟩ := Kd.at_int HR0.out (ji9) p103 q103; obtain rfl : ad101 = ad103 := (by injection e103); replace p103 := eq_true p103; replace q103 := eq_true q103))
                        go_ret
                        exact ⟨by first | rfl | (simp; done) | (simp only [← hji9] <;> (first | rfl | simp)) | (simp [*]; done), drz⟩
                      · rw [if_neg c12] at H
                        have c12b0 := decide_eq_false c12
                        clear c12
                        have H' := Aside0.mk H
                        clear H
                        have p101 : 0 ≤ (x10_1 : Int) := dt
                        have q101 : x10_1 < (l0.length : Int) := dt
                        obtain ⟨ad101, e101, hx101_0⟩ := Kd.at_int HR0.out x10_1 p101 q101
                        cases e101
                        replace p101 := eq_true p101
                        replace q101 := eq_true q101
                        go_wp2_with (first | ((with_reducible refine gate_callee (f := 50) rfl ?_); refine goesL_ (some 16) rfl rfl Tryz.func50 (by kernel_rfl) rfl #[.int .i64 (rd l0 x10_1)] rfl arg ?_; (with_reducible refine (workday_is.calls (rd l0 x10_1) true _ A6.out).mono ?_); rintro e w' ⟨rfl, ⟨nd, rfl⟩⟩; refine ⟨_, rfl, ?_⟩; have p103 : 0 ≤ ((ji9) : Int) := dt; have q103 : (ji9) < (l0.length : Int) := dt; obtain ⟨ad103, e103, hx103_0⟩ := Kd.at_int HR0.out (ji9) p103 q103; obtain rfl : ad101 = ad103 := (by injection e103); replace p103 := eq_true p103; replace q103 := eq_true q103))
                        go_roundg k1
                        case measure => have := HK1.out; omega
                        case rel => exact ⟨(wrap64 (x10_1 + 1)), eqs, H', ⟨hko⟩, drz⟩
                    · rw [if_neg c11] at H
                      exact absurd H (by simp)
                  · rw [if_neg c10] at H
                    exact absurd H (by simp)
                · rw [if_neg c8] at H
                  have c8b0 : decide (0 < x10_1) = false := decide_eq_false c8
                  clear c8
                  have H' := Aside0.mk H
                  clear H
                  have p101 : 0 ≤ (x10_1 : Int) := dt
                  have q101 : x10_1 < (l0.length : Int) := dt
                  obtain ⟨ad101, e101, hx101_0⟩ := Kd.at_int HR0.out x10_1 p101 q101
                  cases e101
                  replace p101 := eq_true p101
                  replace q101 := eq_true q101
                  go_wp2_with (first | ((with_reducible refine gate_callee (f := 50) rfl ?_); refine goesL_ (some 16) rfl rfl Tryz.func50 (by kernel_rfl) rfl #[.int .i64 (rd l0 x10_1)] rfl arg ?_; (with_reducible refine (workday_is.calls (rd l0 x10_1) true _ A6.out).mono ?_); rintro e w' ⟨rfl, ⟨nd, rfl⟩⟩; refine ⟨_, rfl, ?_⟩))
                  go_roundg k1
                  case measure => have := HK1.out; omega
                  case rel => exact ⟨(wrap64 (x10_1 + 1)), eqs, H', ⟨hko⟩, drz⟩
              · replace c7 := Bool.eq_false_iff.mpr c7
                subst c7
                rw [if_neg (show ¬ (false = true) by decide)] at H
                obtain rfl := Option.some.inj H
                have p101 : 0 ≤ (x10_1 : Int) := dt
                have q101 : x10_1 < (l0.length : Int) := dt
                obtain ⟨ad101, e101, hx101_0⟩ := Kd.at_int HR0.out x10_1 p101 q101
                cases e101
                replace p101 := eq_true p101
                replace q101 := eq_true q101
                go_wp2_with (first | ((with_reducible refine gate_callee (f := 50) rfl ?_); refine goesL_ (some 16) rfl rfl Tryz.func50 (by kernel_rfl) rfl #[.int .i64 (rd l0 x10_1)] rfl arg ?_; (with_reducible refine (workday_is.calls (rd l0 x10_1) false _ A6.out).mono ?_); rintro e w' ⟨rfl, ⟨nd, rfl⟩⟩; refine ⟨_, rfl, ?_⟩))
                go_ret
                exact ⟨eqs, drz⟩
            · rw [if_neg c5] at H
              exact absurd H (by simp)
          · rw [if_neg c4] at H
            exact absurd H (by simp)
        · rw [if_neg c3] at H
          have c3b0 := decide_eq_false c3
          clear c3
          obtain rfl := Option.some.inj H
          go_wp2
          go_ret
          exact ⟨eqs, drz⟩
def workday_check.l0 : Nat → List Int → Int → Int → Option (Int)
  | 0, _, _, _ => none
  | k + 1, x13, x14, x15 => if x15 < x14 then (if 0 ≤ x15 then (if x15 < (x13.length : Int) then ((workday_is.f (rd x13 x15)).bind fun t103 => (if t103 = true then (workday_check.l0 k x13 x14 (wrap64 (x15 + 1))) else (some 15))) else (none)) else (none)) else (some 0)
def workday_check.f (k : Nat) (l0 : List Int) (l1 : List Int) : Option (Int) := (workday_Check.f k l0).bind fun t101 => (if t101 = 0 then (workday_check.l0 k l1 (l1.length : Int) 0) else (some t101))
set_option maxHeartbeats 8000000 in
set_option maxRecDepth 100000 in
theorem workday_check.calls (k : Nat) (A0 : Option Addr) (c0 : Nat) (l0 : List Int) (A1 : Option Addr) (c1 : Nat) (l1 : List Int) (r : Int) (w : World) (hr0 : Kd.C (Kd.int .i64) w A0 l0.length l0) (hc0 : l0.length ≤ c0) (hr1 : Kd.C (Kd.int .i64) w A1 l1.length l1) (hc1 : l1.length ≤ c1) (h : workday_check.f k l0 l1 = some r) :
    Calls Tryz.prog 83 #[.slice A0 l0.length c0, .slice A1 l1.length c1] w fun e w' => e = .returned (.int .i64 r) ∧ Drawn0 w w' := by
  have HR0 := Aside0.mk hr0
  have HC0 := Aside0.mk hc0
  clear hr0 hc0
  have HR1 := Aside0.mk hr1
  have HC1 := Aside0.mk hc1
  clear hr1 hc1
  have H : ((workday_Check.f k l0).bind fun t101 => (if t101 = 0 then (workday_check.l0 k l1 (l1.length : Int) 0) else (some t101))) = some r := h
  clear h
  replace H := bnd H
  obtain ⟨t101, A30, H⟩ := H
  have A3 := Aside0.mk A30
  clear A30
  by_cases c4 : t101 = 0
  · rw [if_pos c4] at H
    have c4b0 : (t101 == 0) = true := beq_iff_eq.mpr c4
    have c4b1 : (t101 != 0) = false := bne_eq_false_iff_eq.mpr c4
    clear c4
    have H' := Aside0.mk H
    clear H
    go_enter Tryz.func83, Tryz.ntmps83
    go_wp2_with (first | ((with_reducible refine gate_callee (f := 20) rfl ?_); refine goesL_ (some 9) rfl rfl Tryz.func20 (by kernel_rfl) rfl #[.slice A0 l0.length c0] rfl arg ?_; (with_reducible refine (workday_Check.calls k _ _ l0 t101 _ ?side1 ?side2 A3.out).mono ?_); (case side1 => repeat (first | exact HR0.out | (with_reducible refine Kd.C_alloc ?_ _) | (with_reducible refine Kd.C_drewN ?_ _) | (with_reducible refine Kd.C_drew ?_))); (case side2 => exact HC0.out); rintro e w' ⟨rfl, ⟨nd, rfl⟩⟩; refine ⟨_, rfl, ?_⟩))
    go_loopg [15] k (fun kq v15 w' => ∃ (x15_1 : Int), v15 = .int .i64 x15_1 ∧ Aside0 (workday_check.l0 kq l1 (l1.length : Int) x15_1 = some r) ∧ Aside0 (kq ≤ k) ∧ Drawn0 w w')
    case atStart => exact ⟨(0), eqs, H', ⟨Nat.le_refl _⟩, drz⟩
    case round =>
      clear H'
      try clear c1
      try clear c2
      try clear p2
      try clear c4
      try clear c4b0
      try clear c4b1
      obtain ⟨x15_1, rfl, HA, HK1, ⟨m1, rfl⟩⟩ := hrel
      cases gk with
      | zero => exact absurd HA.out (by simp [workday_check.l0])
      | succ k1 =>
        have H := HA.out
        clear HA
        simp only [workday_check.l0] at H
        by_cases c5 : x15_1 < (l1.length : Int)
        · rw [if_pos c5] at H
          have c5b0 := decide_eq_true c5
          clear c5
          by_cases c6 : 0 ≤ x15_1
          · rw [if_pos c6] at H
            have c6b0 := decide_eq_true c6
            clear c6
            by_cases c7 : x15_1 < (l1.length : Int)
            · rw [if_pos c7] at H
              have c7b0 := decide_eq_true c7
              clear c7
              replace H := bnd H
              obtain ⟨t103, A80, H⟩ := H
              have A8 := Aside0.mk A80
              clear A80
              by_cases c9 : t103 = true
              · subst c9
                rw [if_pos rfl] at H
                have H' := Aside0.mk H
                clear H
                have p102 : 0 ≤ (x15_1 : Int) := dt
                have q102 : x15_1 < (l1.length : Int) := dt
                obtain ⟨ad102, e102, hx102_0⟩ := Kd.at_int HR1.out x15_1 p102 q102
                cases e102
                replace p102 := eq_true p102
                replace q102 := eq_true q102
                go_wp2_with (first | ((with_reducible refine gate_callee (f := 50) rfl ?_); refine goesL_ (some 20) rfl rfl Tryz.func50 (by kernel_rfl) rfl #[.int .i64 (rd l1 x15_1)] rfl arg ?_; (with_reducible refine (workday_is.calls (rd l1 x15_1) true _ A8.out).mono ?_); rintro e w' ⟨rfl, ⟨nd, rfl⟩⟩; refine ⟨_, rfl, ?_⟩))
                go_roundg k1
                case measure => have := HK1.out; omega
                case rel => exact ⟨(wrap64 (x15_1 + 1)), eqs, H', ⟨hko⟩, drz⟩
              · replace c9 := Bool.eq_false_iff.mpr c9
                subst c9
                rw [if_neg (show ¬ (false = true) by decide)] at H
                obtain rfl := Option.some.inj H
                have p102 : 0 ≤ (x15_1 : Int) := dt
                have q102 : x15_1 < (l1.length : Int) := dt
                obtain ⟨ad102, e102, hx102_0⟩ := Kd.at_int HR1.out x15_1 p102 q102
                cases e102
                replace p102 := eq_true p102
                replace q102 := eq_true q102
                go_wp2_with (first | ((with_reducible refine gate_callee (f := 50) rfl ?_); refine goesL_ (some 20) rfl rfl Tryz.func50 (by kernel_rfl) rfl #[.int .i64 (rd l1 x15_1)] rfl arg ?_; (with_reducible refine (workday_is.calls (rd l1 x15_1) false _ A8.out).mono ?_); rintro e w' ⟨rfl, ⟨nd, rfl⟩⟩; refine ⟨_, rfl, ?_⟩))
                go_ret
                exact ⟨eqs, drz⟩
            · rw [if_neg c7] at H
              exact absurd H (by simp)
          · rw [if_neg c6] at H
            exact absurd H (by simp)
        · rw [if_neg c5] at H
          have c5b0 := decide_eq_false c5
          clear c5
          obtain rfl := Option.some.inj H
          go_wp2
          go_ret
          exact ⟨eqs, drz⟩
  · rw [if_neg c4] at H
    have c4b0 : (t101 == 0) = false := beq_eq_false_iff_ne.mpr c4
    have c4b1 : (t101 != 0) = true := bne_iff_ne.mpr c4
    obtain rfl := Option.some.inj H
    go_enter Tryz.func83, Tryz.ntmps83
    go_wp2_with (first | ((with_reducible refine gate_callee (f := 20) rfl ?_); refine goesL_ (some 9) rfl rfl Tryz.func20 (by kernel_rfl) rfl #[.slice A0 l0.length c0] rfl arg ?_; (with_reducible refine (workday_Check.calls k _ _ l0 t101 _ ?side1 ?side2 A3.out).mono ?_); (case side1 => repeat (first | exact HR0.out | (with_reducible refine Kd.C_alloc ?_ _) | (with_reducible refine Kd.C_drewN ?_ _) | (with_reducible refine Kd.C_drew ?_))); (case side2 => exact HC0.out); rintro e w' ⟨rfl, ⟨nd, rfl⟩⟩; refine ⟨_, rfl, ?_⟩))
    go_ret
    exact ⟨eqs, drz⟩
def weekB (r : Int) : Bool := decide (1 ≤ r) && decide (r ≤ 5)
def workB (k : Nat) (l : List Int) (d : Int) : Option Bool := (slices_BinarySearch_int_int.f k l d).bind fun q => (date_Weekday.f d).bind fun r => if 0 ≤ r ∧ r < 8 then some (weekB r && !q.2) else none
def stepL (k : Nat) (l : List Int) (m : Int) : Nat → Int → Option (Int × Int)
  | 0, _ => none
  | n + 1, d => (workday_is.f d).bind fun b => if b = true then (workB k l d).bind fun u => if u = true then some (d, 0) else stepL k l m n (wrap64 (d + m)) else some (0, 15)
def workday_step.f (k : Nat) (l : List Int) (d m : Int) : Option (Int × Int) := (workday_check.f k l [d]).bind fun e => if e = 0 then stepL k l m k (wrap64 (d + m)) else some (0, e)
theorem one_C {W : World} {g : Nat} {x : Int} (h : W.cell? ⟨g, 0, none⟩ = some (.int .i64 x)) : Kd.C (Kd.int .i64) W (some ⟨g, 0, none⟩) 1 [x] := by
  refine ⟨rfl, by decide, fun _ => ⟨_, rfl, fun j p hj => ?_⟩⟩
  cases j with
  | zero =>
    obtain rfl : x = p := by simpa using hj
    refine ⟨[.int .i64 x], rfl, rfl, fun i u hu => ?_⟩
    cases i with
    | zero =>
      obtain rfl : Value.int .i64 x = u := by simpa using hu
      exact h
    | succ i => simp at hu
  | succ j => simp at hj
set_option maxHeartbeats 3200000 in
set_option maxRecDepth 100000 in
theorem works_calls (k : Nat) (A : Option Addr) (c : Nat) (l : List Int) (d : Int) (b : Bool) (g1 g2 : Nat) (w : World) (hr : Kd.C (Kd.int .i64) w A l.length l) (hc : l.length ≤ c) (h1 : w.heap[g1]? = some (.cells #[.slice A l.length c] 22 (0, 0))) (h2 : w.heap[g2]? = some (.cells #[.bool false, .bool true, .bool true, .bool true, .bool true, .bool true, .bool false, .bool false] 102 (0, 0))) (h : workB k l d = some b) :
    Calls Tryz.prog 52 #[.int .i64 d, .pointer (some ⟨g1, 0, none⟩), .pointer (some ⟨g2, 0, none⟩)] w fun e w' => e = .returned (.bool b) ∧ Below w.heap.size w w' := by
  unfold workB at h
  obtain ⟨⟨q1, q2⟩, hq, h⟩ := Option.bind_eq_some_iff.1 h
  obtain ⟨r, hw, h⟩ := Option.bind_eq_some_iff.1 h
  by_cases cr : 0 ≤ r ∧ r < 8
  case neg => rw [if_neg cr] at h; cases h
  rw [if_pos cr] at h
  replace h := Option.some.inj h
  dsimp only at h
  have HR := Aside0.mk hr
  have HC := Aside0.mk hc
  have HQ := Aside0.mk hq
  have HW := Aside0.mk hw
  have HB := Aside0.mk (Below.refl w.heap.size w)
  have hz : w.cell? ⟨g1, 0, none⟩ = some (.slice A l.length c) := (blk_cell h1 0).trans rfl
  have hr8 : r = 0 ∨ r = 1 ∨ r = 2 ∨ r = 3 ∨ r = 4 ∨ r = 5 ∨ r = 6 ∨ r = 7 := by omega
  obtain ⟨z0, z1, z2, z3, z4, z5, z6, z7, y0, y1, y2, y3, y4, y5, y6, y7⟩ := cz8 h2
  clear hr hc hq hw h1 h2 cr y0 y1 y2 y3 y4 y5 y6 y7
  rcases hr8 with rfl | rfl | rfl | rfl | rfl | rfl | rfl | rfl
  · have hb : b = false := by rw [← h]; rfl
    clear h z1 z2 z3 z4 z5 z6 z7
    subst hb
    go_enter Tryz.func52, Tryz.ntmps52
    go_wp2_with (first | (go_at_call 53; refine (slices_BinarySearch_int_int.calls k A c l d q1 q2 _ (Kd.C_below HR.out bel) HC.out HQ.out).mono ?_; rintro e w' ⟨rfl, ⟨nd, rfl⟩⟩) | (go_at_call 51; refine (date_Weekday.calls d _ _ HW.out).mono ?_; rintro e w' ⟨rfl, ⟨nd, rfl⟩⟩))
    go_ret
    exact ⟨eqs, bel⟩
  · have hb : b = !q2 := by rw [← h]; rfl
    clear h z0 z2 z3 z4 z5 z6 z7
    subst hb
    go_enter Tryz.func52, Tryz.ntmps52
    go_wp2_with (first | (go_at_call 53; refine (slices_BinarySearch_int_int.calls k A c l d q1 q2 _ (Kd.C_below HR.out bel) HC.out HQ.out).mono ?_; rintro e w' ⟨rfl, ⟨nd, rfl⟩⟩) | (go_at_call 51; refine (date_Weekday.calls d _ _ HW.out).mono ?_; rintro e w' ⟨rfl, ⟨nd, rfl⟩⟩))
    go_ret
    exact ⟨eqs, bel⟩
  · have hb : b = !q2 := by rw [← h]; rfl
    clear h z0 z1 z3 z4 z5 z6 z7
    subst hb
    go_enter Tryz.func52, Tryz.ntmps52
    go_wp2_with (first | (go_at_call 53; refine (slices_BinarySearch_int_int.calls k A c l d q1 q2 _ (Kd.C_below HR.out bel) HC.out HQ.out).mono ?_; rintro e w' ⟨rfl, ⟨nd, rfl⟩⟩) | (go_at_call 51; refine (date_Weekday.calls d _ _ HW.out).mono ?_; rintro e w' ⟨rfl, ⟨nd, rfl⟩⟩))
    go_ret
    exact ⟨eqs, bel⟩
  · have hb : b = !q2 := by rw [← h]; rfl
    clear h z0 z1 z2 z4 z5 z6 z7
    subst hb
    go_enter Tryz.func52, Tryz.ntmps52
    go_wp2_with (first | (go_at_call 53; refine (slices_BinarySearch_int_int.calls k A c l d q1 q2 _ (Kd.C_below HR.out bel) HC.out HQ.out).mono ?_; rintro e w' ⟨rfl, ⟨nd, rfl⟩⟩) | (go_at_call 51; refine (date_Weekday.calls d _ _ HW.out).mono ?_; rintro e w' ⟨rfl, ⟨nd, rfl⟩⟩))
    go_ret
    exact ⟨eqs, bel⟩
  · have hb : b = !q2 := by rw [← h]; rfl
    clear h z0 z1 z2 z3 z5 z6 z7
    subst hb
    go_enter Tryz.func52, Tryz.ntmps52
    go_wp2_with (first | (go_at_call 53; refine (slices_BinarySearch_int_int.calls k A c l d q1 q2 _ (Kd.C_below HR.out bel) HC.out HQ.out).mono ?_; rintro e w' ⟨rfl, ⟨nd, rfl⟩⟩) | (go_at_call 51; refine (date_Weekday.calls d _ _ HW.out).mono ?_; rintro e w' ⟨rfl, ⟨nd, rfl⟩⟩))
    go_ret
    exact ⟨eqs, bel⟩
  · have hb : b = !q2 := by rw [← h]; rfl
    clear h z0 z1 z2 z3 z4 z6 z7
    subst hb
    go_enter Tryz.func52, Tryz.ntmps52
    go_wp2_with (first | (go_at_call 53; refine (slices_BinarySearch_int_int.calls k A c l d q1 q2 _ (Kd.C_below HR.out bel) HC.out HQ.out).mono ?_; rintro e w' ⟨rfl, ⟨nd, rfl⟩⟩) | (go_at_call 51; refine (date_Weekday.calls d _ _ HW.out).mono ?_; rintro e w' ⟨rfl, ⟨nd, rfl⟩⟩))
    go_ret
    exact ⟨eqs, bel⟩
  · have hb : b = false := by rw [← h]; rfl
    clear h z0 z1 z2 z3 z4 z5 z7
    subst hb
    go_enter Tryz.func52, Tryz.ntmps52
    go_wp2_with (first | (go_at_call 53; refine (slices_BinarySearch_int_int.calls k A c l d q1 q2 _ (Kd.C_below HR.out bel) HC.out HQ.out).mono ?_; rintro e w' ⟨rfl, ⟨nd, rfl⟩⟩) | (go_at_call 51; refine (date_Weekday.calls d _ _ HW.out).mono ?_; rintro e w' ⟨rfl, ⟨nd, rfl⟩⟩))
    go_ret
    exact ⟨eqs, bel⟩
  · have hb : b = false := by rw [← h]; rfl
    clear h z0 z1 z2 z3 z4 z5 z6
    subst hb
    go_enter Tryz.func52, Tryz.ntmps52
    go_wp2_with (first | (go_at_call 53; refine (slices_BinarySearch_int_int.calls k A c l d q1 q2 _ (Kd.C_below HR.out bel) HC.out HQ.out).mono ?_; rintro e w' ⟨rfl, ⟨nd, rfl⟩⟩) | (go_at_call 51; refine (date_Weekday.calls d _ _ HW.out).mono ?_; rintro e w' ⟨rfl, ⟨nd, rfl⟩⟩))
    go_ret
    exact ⟨eqs, bel⟩
set_option maxHeartbeats 3200000 in
set_option maxRecDepth 100000 in
theorem working_calls (A : Option Addr) (n c : Nat) (w : World) :
    Calls Tryz.prog 22 #[.slice A n c] w fun e w' => e = .returned (.func (.func 52) #[] #[.pointer (some ⟨w.heap.size, 0, none⟩), .pointer (some ⟨w.heap.size + 1, 0, none⟩)]) ∧ w'.heap[w.heap.size]? = some (.cells #[.slice A n c] 22 (0, 0)) ∧ w'.heap[w.heap.size + 1]? = some (.cells #[.bool false, .bool true, .bool true, .bool true, .bool true, .bool true, .bool false, .bool false] 102 (0, 0)) ∧ Below w.heap.size w w' := by
  have hq := (show ((w.alloc (.cells #[.slice A n c] 22)).alloc (.cells #[.bool false, .bool false, .bool false, .bool false, .bool false, .bool false, .bool false, .bool false] 102)).heap[w.heap.size + 1]? = some (.cells #[.bool false, .bool false, .bool false, .bool false, .bool false, .bool false, .bool false, .bool false] 102 (0, 0)) from by simpa using blk_new (w.alloc (.cells #[.slice A n c] 22)) (.cells #[.bool false, .bool false, .bool false, .bool false, .bool false, .bool false, .bool false, .bool false] 102))
  have HQ := Aside0.mk (blk_alloc (blk_new w (.cells #[.slice A n c] 22)) (.cells #[.bool false, .bool true, .bool true, .bool true, .bool true, .bool true, .bool false, .bool false] 102))
  have HZ := Aside0.mk (show ((w.alloc (.cells #[.slice A n c] 22)).alloc (.cells #[.bool false, .bool true, .bool true, .bool true, .bool true, .bool true, .bool false, .bool false] 102)).heap[w.heap.size + 1]? = some (.cells #[.bool false, .bool true, .bool true, .bool true, .bool true, .bool true, .bool false, .bool false] 102 (0, 0)) from by simpa using blk_new (w.alloc (.cells #[.slice A n c] 22)) (.cells #[.bool false, .bool true, .bool true, .bool true, .bool true, .bool true, .bool false, .bool false] 102))
  have HBA := Aside0.mk (below_alloc (below_alloc (Below.refl w.heap.size w) (.cells #[.slice A n c] 22)) (.cells #[.bool false, .bool true, .bool true, .bool true, .bool true, .bool true, .bool false, .bool false] 102))
  obtain ⟨z0, z1, z2, z3, z4, z5, z6, z7, y0, y1, y2, y3, y4, y5, y6, y7⟩ := cz8 hq
  clear hq
  go_enter Tryz.func22, Tryz.ntmps22
  go_wp2_with fail
  go_ret
  exact ⟨eqs, HQ.out, HZ.out, HBA.out⟩
set_option maxHeartbeats 3200000 in
set_option maxRecDepth 100000 in
theorem workday_step.calls (k : Nat) (A0 : Option Addr) (c0 : Nat) (l0 : List Int) (a1 a2 : Int) (r1 r2 : Int) (w : World) (hr0 : Kd.C (Kd.int .i64) w A0 l0.length l0) (hc0 : l0.length ≤ c0) (h : workday_step.f k l0 a1 a2 = some (r1, r2)) :
    Calls Tryz.prog 54 #[.slice A0 l0.length c0, .int .i64 a1, .int .i64 a2] w fun e w' => e = .returned (.tuple #[.int .i64 r1, .int .i64 r2]) ∧ Below w.heap.size w w' := by
  unfold workday_step.f at h
  obtain ⟨e1, h1, h⟩ := Option.bind_eq_some_iff.1 h
  have HR := Aside0.mk hr0
  have HC := Aside0.mk hc0
  have H1 := Aside0.mk h1
  have HB := Aside0.mk (below_alloc (Below.refl w.heap.size w) (.cells #[.int .i64 a1] 3))
  have HX := Aside0.mk (one_C (blk_one (blk_new w (.cells #[.int .i64 a1] 3))))
  have hle : (1 : Nat) ≤ 1 := Nat.le_refl _
  have HL := Aside0.mk hle
  clear hr0 hc0 h1 hle
  by_cases c : e1 = 0
  case neg =>
    rw [if_neg c] at h
    obtain ⟨rfl, rfl⟩ := Prod.mk.inj (Option.some.inj h)
    have d1 : (e1 != 0) = true := bne_iff_ne.2 c
    clear c h
    go_enter Tryz.func54, Tryz.ntmps54
    go_wp2_with (go_at_call 83; refine (workday_check.calls k A0 c0 l0 (some ⟨w.heap.size, 0, none⟩) 1 [a1] e1 _ (Kd.C_below HR.out bel) HC.out HX.out HL.out H1.out).mono ?_; rintro e w' ⟨rfl, ⟨nd, rfl⟩⟩)
    exact bodyPost_ret (v := .tuple #[.int .i64 0, .int .i64 e1]) (by simp [results, Tryz.results54, go_sem]) rfl ⟨rfl, bel⟩
  rw [if_pos c] at h
  have d1 : (e1 != 0) = false := bne_eq_false_iff_eq.2 c
  have HS := Aside0.mk h
  clear c h
  go_enter Tryz.func54, Tryz.ntmps54
  go_wp2_with (first | (go_at_call 83; refine (workday_check.calls k A0 c0 l0 (some ⟨w.heap.size, 0, none⟩) 1 [a1] e1 _ (Kd.C_below HR.out bel) HC.out HX.out HL.out H1.out).mono ?_; rintro e w1 ⟨rfl, ⟨nd, rfl⟩⟩; obtain ⟨W1, hW1⟩ : ∃ W1, (w.alloc (.cells #[.int .i64 a1] 3)).drewN nd = W1 := ⟨_, rfl⟩; rw [hW1]; replace HB := Aside0.mk (show Below w.heap.size w W1 by rw [← hW1]; exact bel); clear hW1) | (go_at_call 22; refine (working_calls _ _ _ _).mono ?_; rintro e w2 ⟨rfl, g1, g2, hb⟩; have G1 := Aside0.mk g1; have G2 := Aside0.mk g2; have HBW := Aside0.mk hb; replace HB := Aside0.mk (below_step bel hb); clear g1 g2 hb))
  go_loopg [10] k (fun kq v10 wr => ∃ x : Int, v10 = .int .i64 x ∧ Aside0 (stepL k l0 a2 kq x = some (r1, r2)) ∧ Aside0 (Below w2.heap.size w2 wr))
  case atStart => exact ⟨_, rfl, HS, ⟨Below.refl _ _⟩⟩
  case round =>
    obtain ⟨x, rfl, HF, HBr⟩ := hrel
    have HBO := HB
    replace HB := Aside0.mk (below_step HBO.out HBr.out)
    cases gk with
    | zero => exact absurd HF.out (by simp [stepL])
    | succ k1 =>
    have hf := HF.out
    rw [stepL] at hf
    clear HF
    obtain ⟨b, hi, hf⟩ := Option.bind_eq_some_iff.1 hf
    have HI := Aside0.mk hi
    clear hi
    cases b with
    | false =>
      rw [if_neg (by decide)] at hf
      obtain ⟨rfl, rfl⟩ := Prod.mk.inj (Option.some.inj hf)
      clear hf
      go_wp2_with (go_at_call 50; refine (workday_is.calls x false _ HI.out).mono ?_; rintro e w' ⟨rfl, ⟨nd, rfl⟩⟩)
      exact bodyPost_ret (v := .tuple #[.int .i64 0, .int .i64 15]) (by simp [results, Tryz.results54, go_sem]) rfl ⟨rfl, bel⟩
    | true =>
    rw [if_pos rfl] at hf
    obtain ⟨u, hu, hf⟩ := Option.bind_eq_some_iff.1 hf
    have HU := Aside0.mk hu
    clear hu
    cases u with
    | true =>
      rw [if_pos rfl] at hf
      obtain ⟨rfl, rfl⟩ := Prod.mk.inj (Option.some.inj hf)
      clear hf
      go_wp2_with (first | (go_at_call 50; refine (workday_is.calls x true _ HI.out).mono ?_; rintro e w' ⟨rfl, ⟨nd, rfl⟩⟩; obtain ⟨W3, hW3⟩ : ∃ W3, wr.drewN nd = W3 := ⟨_, rfl⟩; rw [hW3]; replace HB := Aside0.mk (show Below w.heap.size w W3 by rw [← hW3]; exact bel); replace HBr := Aside0.mk (show Below w2.heap.size w2 W3 by rw [← hW3]; exact pw_below_drewN HBr.out _); clear hW3) | (go_at_call 52; refine (works_calls k A0 c0 l0 x _ _ _ _ (Kd.C_below HR.out HB.out) HC.out (blk_below G1.out HBr.out) (blk_below G2.out HBr.out) HU.out).mono ?_; rintro e w4 ⟨rfl, hb⟩; replace HB := Aside0.mk (below_step HB.out hb); replace HBr := Aside0.mk (below_step HBr.out hb); clear hb))
      exact bodyPost_ret (v := .tuple #[.int .i64 x, .int .i64 0]) (by simp [results, Tryz.results54, go_sem]) rfl ⟨rfl, HB.out⟩
    | false =>
      rw [if_neg (by decide)] at hf
      have HF := Aside0.mk hf
      clear hf
      go_wp2_with (first | (go_at_call 50; refine (workday_is.calls x true _ HI.out).mono ?_; rintro e w' ⟨rfl, ⟨nd, rfl⟩⟩; obtain ⟨W3, hW3⟩ : ∃ W3, wr.drewN nd = W3 := ⟨_, rfl⟩; rw [hW3]; replace HB := Aside0.mk (show Below w.heap.size w W3 by rw [← hW3]; exact bel); replace HBr := Aside0.mk (show Below w2.heap.size w2 W3 by rw [← hW3]; exact pw_below_drewN HBr.out _); clear hW3) | (go_at_call 52; refine (works_calls k A0 c0 l0 x _ _ _ _ (Kd.C_below HR.out HB.out) HC.out (blk_below G1.out HBr.out) (blk_below G2.out HBr.out) HU.out).mono ?_; rintro e w4 ⟨rfl, hb⟩; replace HB := Aside0.mk (below_step HB.out hb); replace HBr := Aside0.mk (below_step HBr.out hb); clear hb))
      go_roundg k1
      case measure => omega
      case rel => exact ⟨_, rfl, HF, HBr⟩
def workday_Before.f (k : Nat) (l0 : List Int) (a1 : Int) : Option (Int × Int) := (workday_step.f k l0 a1 (-1)).bind fun bt101 => (some (bt101.1, bt101.2))
set_option maxHeartbeats 8000000 in
set_option maxRecDepth 100000 in
theorem workday_Before.calls (k : Nat) (A0 : Option Addr) (c0 : Nat) (l0 : List Int) (a1 : Int) (r1 : Int) (r2 : Int) (w : World) (hr0 : Kd.C (Kd.int .i64) w A0 l0.length l0) (hc0 : l0.length ≤ c0) (h : workday_Before.f k l0 a1 = some (r1, r2)) :
    Calls Tryz.prog 23 #[.slice A0 l0.length c0, .int .i64 a1] w fun e w' => e = .returned (.tuple #[.int .i64 r1, .int .i64 r2]) ∧ Below w.heap.size w w' := by
  have HR0 := Aside0.mk hr0
  have HC0 := Aside0.mk hc0
  clear hr0 hc0
  have HB := Aside0.mk (Below.refl w.heap.size w)
  have H : ((workday_step.f k l0 a1 (-1)).bind fun bt101 => (some (bt101.1, bt101.2))) = some (r1, r2) := h
  clear h
  replace H := bnd H
  obtain ⟨⟨t101, t102⟩, A30, H⟩ := H
  replace H : (some (t101, t102)) = some (r1, r2) := H
  have A3 := Aside0.mk A30
  clear A30
  simp only [Option.some.injEq, Prod.mk.injEq] at H
  obtain ⟨rfl, rfl⟩ := H
  go_enter Tryz.func23, Tryz.ntmps23
  go_wp2_with (first | ((with_reducible refine gate_callee (f := 54) rfl ?_); refine goesL_ (some 8) rfl rfl Tryz.func54 (by kernel_rfl) rfl #[.slice A0 l0.length c0, .int .i64 a1, .int .i64 (-1)] rfl arg ?_; (with_reducible refine (workday_step.calls k _ _ l0 a1 (-1) t101 t102 _ ?side1 ?side2 A3.out).mono ?_); (case side1 => repeat (first | exact HR0.out | (with_reducible refine Kd.C_alloc ?_ _) | (with_reducible refine Kd.C_drewN ?_ _) | (with_reducible refine Kd.C_drew ?_))); (case side2 => exact HC0.out); rintro e w4 ⟨rfl, hb⟩; refine ⟨_, rfl, ?_⟩; replace HB := Aside0.mk (below_step bel hb); (try clear hb); (try clear hb2); (try clear hk); (try clear hi)))
  go_ret2
  exact ⟨ers, bel⟩
def workday_Expiry.f (k : Nat) (l : List Int) (y m : Int) : Option (Int × Int) := (workday_Check.f k l).bind fun e => if e = 0 then (date_Nth.f k y m 5 3).bind fun p => (if p.2 = 0 then (workB k l p.1).bind fun u => (if u = true then some (p.1, 0) else workday_Before.f k l p.1) else some (0, p.2)) else some (0, e)
set_option maxHeartbeats 3200000 in
set_option maxRecDepth 100000 in
theorem workday_Expiry.calls (k : Nat) (A0 : Option Addr) (c0 : Nat) (l0 : List Int) (a1 a2 : Int) (r1 r2 : Int) (w : World) (hr0 : Kd.C (Kd.int .i64) w A0 l0.length l0) (hc0 : l0.length ≤ c0) (h : workday_Expiry.f k l0 a1 a2 = some (r1, r2)) (hGL : GlobD w) :
    Calls Tryz.prog 6 #[.slice A0 l0.length c0, .int .i64 a1, .int .i64 a2] w fun e w' => e = .returned (.tuple #[.int .i64 r1, .int .i64 r2]) ∧ Below w.heap.size w w' := by
  unfold workday_Expiry.f at h
  obtain ⟨e1, h1, h⟩ := Option.bind_eq_some_iff.1 h
  have HR := Aside0.mk hr0
  have HC := Aside0.mk hc0
  have H1 := Aside0.mk h1
  have HGL := Aside0.mk hGL
  have HB := Aside0.mk (Below.refl w.heap.size w)
  clear hr0 hc0 h1 hGL
  by_cases c : e1 = 0
  case neg =>
    rw [if_neg c] at h
    obtain ⟨rfl, rfl⟩ := Prod.mk.inj (Option.some.inj h)
    have d1 : (e1 != 0) = true := bne_iff_ne.2 c
    clear c h
    go_enter Tryz.func6, Tryz.ntmps6
    go_wp2_with (go_at_call 20; refine (workday_Check.calls k A0 c0 l0 e1 _ HR.out HC.out H1.out).mono ?_; rintro e w1 ⟨rfl, hd⟩; replace HB := Aside0.mk (below_step HB.out hd.below); clear hd)
    exact bodyPost_ret (v := .tuple #[.int .i64 0, .int .i64 e1]) (by simp [results, Tryz.results6, go_sem]) rfl ⟨rfl, bel⟩
  rw [if_pos c] at h
  have d1 : (e1 != 0) = false := bne_eq_false_iff_eq.2 c
  clear c
  obtain ⟨⟨p1, p2⟩, h2, h⟩ := Option.bind_eq_some_iff.1 h
  dsimp only at h
  have H2 := Aside0.mk h2
  clear h2
  by_cases c : p2 = 0
  case neg =>
    rw [if_neg c] at h
    obtain ⟨rfl, rfl⟩ := Prod.mk.inj (Option.some.inj h)
    have d2 : (p2 != 0) = true := bne_iff_ne.2 c
    clear c h
    go_enter Tryz.func6, Tryz.ntmps6
    go_wp2_with (first | (go_at_call 20; refine (workday_Check.calls k A0 c0 l0 e1 _ HR.out HC.out H1.out).mono ?_; rintro e w1 ⟨rfl, hd⟩; replace HB := Aside0.mk (below_step HB.out hd.below); clear hd) | (go_at_call 21; refine (date_Nth.calls k a1 a2 5 3 p1 p2 _ H2.out (glob_of HGL.out bel)).mono ?_; rintro e w2 ⟨rfl, hb⟩; replace HB := Aside0.mk (below_step bel hb); clear hb))
    exact bodyPost_ret (v := .tuple #[.int .i64 0, .int .i64 p2]) (by simp [results, Tryz.results6, go_sem]) rfl ⟨rfl, bel⟩
  rw [if_pos c] at h
  have d2 : (p2 != 0) = false := bne_eq_false_iff_eq.2 c
  clear c
  obtain ⟨u, h3, h⟩ := Option.bind_eq_some_iff.1 h
  have H3 := Aside0.mk h3
  clear h3
  cases u with
  | true =>
    rw [if_pos rfl] at h
    obtain ⟨rfl, rfl⟩ := Prod.mk.inj (Option.some.inj h)
    clear h
    go_enter Tryz.func6, Tryz.ntmps6
    go_wp2_with (first | (go_at_call 20; refine (workday_Check.calls k A0 c0 l0 e1 _ HR.out HC.out H1.out).mono ?_; rintro e w1 ⟨rfl, hd⟩; replace HB := Aside0.mk (below_step HB.out hd.below); clear hd) | (go_at_call 21; refine (date_Nth.calls k a1 a2 5 3 p1 p2 _ H2.out (glob_of HGL.out bel)).mono ?_; rintro e w2 ⟨rfl, hb⟩; replace HB := Aside0.mk (below_step bel hb); clear hb) | (go_at_call 22; refine (working_calls _ _ _ _).mono ?_; rintro e w3 ⟨rfl, g1, g2, hb⟩; have G1 := Aside0.mk g1; have G2 := Aside0.mk g2; replace HB := Aside0.mk (below_step bel hb); clear g1 g2 hb) | (go_at_call 52; refine (works_calls k A0 c0 l0 p1 _ _ _ _ (Kd.C_below HR.out bel) HC.out G1.out G2.out H3.out).mono ?_; rintro e w4 ⟨rfl, hb⟩; replace HB := Aside0.mk (below_step bel hb); clear hb))
    exact bodyPost_ret (v := .tuple #[.int .i64 p1, .int .i64 0]) (by simp [results, Tryz.results6, go_sem]) rfl ⟨rfl, bel⟩
  | false =>
    rw [if_neg (by decide)] at h
    have H4 := Aside0.mk h
    clear h
    go_enter Tryz.func6, Tryz.ntmps6
    go_wp2_with (first | (go_at_call 20; refine (workday_Check.calls k A0 c0 l0 e1 _ HR.out HC.out H1.out).mono ?_; rintro e w1 ⟨rfl, hd⟩; replace HB := Aside0.mk (below_step HB.out hd.below); clear hd) | (go_at_call 21; refine (date_Nth.calls k a1 a2 5 3 p1 p2 _ H2.out (glob_of HGL.out bel)).mono ?_; rintro e w2 ⟨rfl, hb⟩; replace HB := Aside0.mk (below_step bel hb); clear hb) | (go_at_call 22; refine (working_calls _ _ _ _).mono ?_; rintro e w3 ⟨rfl, g1, g2, hb⟩; have G1 := Aside0.mk g1; have G2 := Aside0.mk g2; replace HB := Aside0.mk (below_step bel hb); clear g1 g2 hb) | (go_at_call 52; refine (works_calls k A0 c0 l0 p1 _ _ _ _ (Kd.C_below HR.out bel) HC.out G1.out G2.out H3.out).mono ?_; rintro e w4 ⟨rfl, hb⟩; replace HB := Aside0.mk (below_step bel hb); clear hb) | (go_at_call 23; refine (workday_Before.calls k A0 c0 l0 p1 r1 r2 _ (Kd.C_below HR.out bel) HC.out H4.out).mono ?_; rintro e w5 ⟨rfl, hb⟩; replace HB := Aside0.mk (below_step bel hb); clear hb))
    exact bodyPost_ret (v := .tuple #[.int .i64 r1, .int .i64 r2]) (by simp [results, Tryz.results6, go_sem]) rfl ⟨rfl, bel⟩
def contangotop_TopLives.j0 : Nat → Int → Int → Bool → List Int → Int → Int → Int → List (S50) → List (S107) → Int → Int → Int → ByteArray → Int → Int → Int → Int → Int → ByteArray → ByteArray → ByteArray → ByteArray → Option (Bool)
  | 0, _, _, _, _, _, _, _, _, _, _, _, _, _, _, _, _, _, _, _, _, _, _ => none
  | k + 1, x3, x4, x33, x102000, x102001, x102002, x102003, x102004, x102005, x102006, x102007, x102008, x102009, x102010, x102011, x102012, x102013, x102014, x102015, x102016, x102017, x102018 => if x33 = true then (if x4 = 0 then (none) else (if x3 = 0 then ((contangotop_goes06.f k).bind fun t105 => (some t105)) else (none))) else ((trade_Check.f k x102006 x3 x102008 x102009 x102010 x3 x102012 x102013 x102014 x102015 x102016 x102017 x102018 x102004 x102005).bind fun t107 => (if (IntKind.u64.wrap (wrap64 (x3 + 1))) = 0 then (none) else ((trade_Check.f k x102006 (wrap64 (Int.tmod (IntKind.u64.wrap (x102003)) (IntKind.u64.wrap (wrap64 (x3 + 1))))) x102008 x102009 x102010 x3 x102012 x102013 x102014 x102015 x102016 x102017 x102018 x102004 x102005).bind fun t108 => ((trade_Check.f k x102006 (wrap64 (x3 + 1)) x102008 x102009 x102010 x3 x102012 x102013 x102014 x102015 x102016 x102017 x102018 x102004 x102005).bind fun t109 => (if t107 = t108 then (if t107 = 0 then (if t109 = 15 then ((contangotop_goes06.f k).bind fun t110 => (some t110)) else (none)) else ((contangotop_goes06.f k).bind fun t111 => (some t111))) else (none))))))
def contangotop_TopLives.f (k : Nat) (l0_0 : List Int) (a0_1 : Int) (a0_2 : Int) (a0_3 : Int) (l0_4 : List (S50)) (l0_5 : List (S107)) (a0_6 : Int) (a0_7 : Int) (a0_8 : Int) (a0_9 : ByteArray) (a0_10 : Int) (a0_11 : Int) (a0_12 : Int) (a0_13 : Int) (a0_14 : Int) (a0_15 : ByteArray) (a0_16 : ByteArray) (a0_17 : ByteArray) (a0_18 : ByteArray) : Option (Bool) := if (l0_0.length : Int) > 60 then ((contangotop_goes06.f k).bind fun t102 => (some t102)) else ((workday_Expiry.f k l0_0 a0_1 a0_2).bind fun bt103 => (if bt103.2 = 0 then (if bt103.1 < 0 then (contangotop_TopLives.j0 k bt103.1 bt103.2 true l0_0 a0_1 a0_2 a0_3 l0_4 l0_5 a0_6 a0_7 a0_8 a0_9 a0_10 a0_11 a0_12 a0_13 a0_14 a0_15 a0_16 a0_17 a0_18) else (contangotop_TopLives.j0 k bt103.1 bt103.2 (decide (bt103.1 > 73048)) l0_0 a0_1 a0_2 a0_3 l0_4 l0_5 a0_6 a0_7 a0_8 a0_9 a0_10 a0_11 a0_12 a0_13 a0_14 a0_15 a0_16 a0_17 a0_18)) else (contangotop_TopLives.j0 k bt103.1 bt103.2 true l0_0 a0_1 a0_2 a0_3 l0_4 l0_5 a0_6 a0_7 a0_8 a0_9 a0_10 a0_11 a0_12 a0_13 a0_14 a0_15 a0_16 a0_17 a0_18)))
set_option maxHeartbeats 8000000 in
set_option maxRecDepth 100000 in
theorem contangotop_TopLives.calls (k : Nat) (A0_0 : Option Addr) (c0_0 : Nat) (l0_0 : List Int) (a0_1 : Int) (a0_2 : Int) (a0_3 : Int) (A0_4 : Option Addr) (c0_4 : Nat) (l0_4 : List (S50)) (A0_5 : Option Addr) (c0_5 : Nat) (l0_5 : List (S107)) (a0_6 : Int) (a0_7 : Int) (a0_8 : Int) (a0_9 : ByteArray) (a0_10 : Int) (a0_11 : Int) (a0_12 : Int) (a0_13 : Int) (a0_14 : Int) (a0_15 : ByteArray) (a0_16 : ByteArray) (a0_17 : ByteArray) (a0_18 : ByteArray) (r : Bool) (w : World) (hr0_0 : Kd.C (Kd.int .i64) w A0_0 l0_0.length l0_0) (hc0_0 : l0_0.length ≤ c0_0) (hr0_4 : Kd.C k50 w A0_4 l0_4.length l0_4) (hc0_4 : l0_4.length ≤ c0_4) (hr0_5 : Kd.C k107 w A0_5 l0_5.length l0_5) (hc0_5 : l0_5.length ≤ c0_5) (h : contangotop_TopLives.f k l0_0 a0_1 a0_2 a0_3 l0_4 l0_5 a0_6 a0_7 a0_8 a0_9 a0_10 a0_11 a0_12 a0_13 a0_14 a0_15 a0_16 a0_17 a0_18 = some r) (hGL : GlobD w) :
    Calls Tryz.prog 3 #[.agg #[.slice A0_0 l0_0.length c0_0, .int .i64 a0_1, .int .i64 a0_2, .int .i64 a0_3, .slice A0_4 l0_4.length c0_4, .slice A0_5 l0_5.length c0_5, .int .i64 a0_6, .int .i64 a0_7, .int .i64 a0_8, .string a0_9, .int .i64 a0_10, .int .i64 a0_11, .int .i64 a0_12, .int .i64 a0_13, .int .i64 a0_14, .string a0_15, .string a0_16, .string a0_17, .string a0_18]] w fun e w' => e = .returned (.bool r) ∧ Below w.heap.size w w' := by
  have hu32 := Tryz.underlying32
  have hu30 := Tryz.underlying30
  have HR0_0 := Aside0.mk hr0_0
  have HC0_0 := Aside0.mk hc0_0
  clear hr0_0 hc0_0
  have HR0_4 := Aside0.mk hr0_4
  have HC0_4 := Aside0.mk hc0_4
  clear hr0_4 hc0_4
  have HR0_5 := Aside0.mk hr0_5
  have HC0_5 := Aside0.mk hc0_5
  clear hr0_5 hc0_5
  have HB := Aside0.mk (Below.refl w.heap.size w)
  have HGL := Aside0.mk hGL
  clear hGL
  have H : (if (l0_0.length : Int) > 60 then ((contangotop_goes06.f k).bind fun t102 => (some t102)) else ((workday_Expiry.f k l0_0 a0_1 a0_2).bind fun bt103 => (if bt103.2 = 0 then (if bt103.1 < 0 then (contangotop_TopLives.j0 k bt103.1 bt103.2 true l0_0 a0_1 a0_2 a0_3 l0_4 l0_5 a0_6 a0_7 a0_8 a0_9 a0_10 a0_11 a0_12 a0_13 a0_14 a0_15 a0_16 a0_17 a0_18) else (contangotop_TopLives.j0 k bt103.1 bt103.2 (decide (bt103.1 > 73048)) l0_0 a0_1 a0_2 a0_3 l0_4 l0_5 a0_6 a0_7 a0_8 a0_9 a0_10 a0_11 a0_12 a0_13 a0_14 a0_15 a0_16 a0_17 a0_18)) else (contangotop_TopLives.j0 k bt103.1 bt103.2 true l0_0 a0_1 a0_2 a0_3 l0_4 l0_5 a0_6 a0_7 a0_8 a0_9 a0_10 a0_11 a0_12 a0_13 a0_14 a0_15 a0_16 a0_17 a0_18)))) = some r := h
  clear h
  by_cases c2 : (l0_0.length : Int) > 60
  · rw [if_pos c2] at H
    have c2b0 : decide (60 < (l0_0.length : Int)) = true := decide_eq_true c2
    have c2b1 : decide (60 < l0_0.length) = true := decide_eq_true (by omega)
    clear c2
    replace H := bnd H
    obtain ⟨t102, A30, H⟩ := H
    have A3 := Aside0.mk A30
    clear A30
    obtain rfl := Option.some.inj H
    go_enter Tryz.func3, Tryz.ntmps3
    go_wp2_with (first | ((with_reducible refine gate_dst (N := 1) rfl ?_); refine box_event ?hg (N := 1) ?hd (cs := #[.slice A0_0 l0_0.length c0_0, .int .i64 a0_1, .int .i64 a0_2, .int .i64 a0_3, .slice A0_4 l0_4.length c0_4, .slice A0_5 l0_5.length c0_5, .int .i64 a0_6, .int .i64 a0_7, .int .i64 a0_8, .string a0_9, .int .i64 a0_10, .int .i64 a0_11, .int .i64 a0_12, .int .i64 a0_13, .int .i64 a0_14, .string a0_15, .string a0_16, .string a0_17, .string a0_18]) (t := 32) ?hr ?_; (case hd => rfl); (case hg => rfl); (case hr => first | (go_simp; done) | (go_simp; rfl)); intro gb101 hg w4 hbox hb; have BK101 := Aside0.mk (hbox); have GW101 := Aside0.mk ((gsz hg : w.heap.size ≤ gb101)); have GE101 := Aside0.mk ((gsz hg : w.heap.size ≤ gb101)); replace HB := Aside0.mk (below_step bel hb); clear hb hbox hg; obtain ⟨hcz5_0, hcz5_1, hcz5_2, hcz5_3, hcz5_4, hcz5_5, hcz5_6, hcz5_7, hcz5_8, hcz5_9, hcz5_10, hcz5_11, hcz5_12, hcz5_13, hcz5_14, hcz5_15, hcz5_16, hcz5_17, hcz5_18, hfz5_0, hfz5_1, hfz5_2, hfz5_3, hfz5_4, hfz5_5, hfz5_6, hfz5_7, hfz5_8, hfz5_9, hfz5_10, hfz5_11, hfz5_12, hfz5_13, hfz5_14, hfz5_15, hfz5_16, hfz5_17, hfz5_18⟩ := cz19 BK101.out) | ((with_reducible refine gate_callee (f := 5) rfl ?_); refine goesL_ (some 13) rfl rfl Tryz.func5 (by kernel_rfl) rfl #[] rfl arg ?_; (with_reducible refine (contangotop_goes06.calls k  t102 _ A3.out (glob_of HGL.out bel)).mono ?_); rintro e w6 ⟨rfl, hb⟩; refine ⟨_, rfl, ?_⟩; replace BK101 := Aside0.mk (blk_below (g := gb101) (bw BK101.out) hb); replace HB := Aside0.mk (below_step bel hb); (try clear hb); (try clear hb2); (try clear hk); (try clear hi)))
    go_ret
    exact ⟨ers, bel⟩
  · rw [if_neg c2] at H
    have c2b0 : decide (60 < (l0_0.length : Int)) = false := decide_eq_false c2
    have c2b1 : decide (60 < l0_0.length) = false := decide_eq_false (by omega)
    clear c2
    replace H := bnd H
    obtain ⟨⟨t103, t104⟩, A70, H⟩ := H
    replace H : (if t104 = 0 then (if t103 < 0 then (contangotop_TopLives.j0 k t103 t104 true l0_0 a0_1 a0_2 a0_3 l0_4 l0_5 a0_6 a0_7 a0_8 a0_9 a0_10 a0_11 a0_12 a0_13 a0_14 a0_15 a0_16 a0_17 a0_18) else (contangotop_TopLives.j0 k t103 t104 (decide (t103 > 73048)) l0_0 a0_1 a0_2 a0_3 l0_4 l0_5 a0_6 a0_7 a0_8 a0_9 a0_10 a0_11 a0_12 a0_13 a0_14 a0_15 a0_16 a0_17 a0_18)) else (contangotop_TopLives.j0 k t103 t104 true l0_0 a0_1 a0_2 a0_3 l0_4 l0_5 a0_6 a0_7 a0_8 a0_9 a0_10 a0_11 a0_12 a0_13 a0_14 a0_15 a0_16 a0_17 a0_18)) = some r := H
    have A7 := Aside0.mk A70
    clear A70
    have HC8 := Aside0.mk H
    clear H
    go_enter Tryz.func3, Tryz.ntmps3
    go_upto_region 4 with (first | ((with_reducible refine gate_dst (N := 1) rfl ?_); refine box_event ?hg (N := 1) ?hd (cs := #[.slice A0_0 l0_0.length c0_0, .int .i64 a0_1, .int .i64 a0_2, .int .i64 a0_3, .slice A0_4 l0_4.length c0_4, .slice A0_5 l0_5.length c0_5, .int .i64 a0_6, .int .i64 a0_7, .int .i64 a0_8, .string a0_9, .int .i64 a0_10, .int .i64 a0_11, .int .i64 a0_12, .int .i64 a0_13, .int .i64 a0_14, .string a0_15, .string a0_16, .string a0_17, .string a0_18]) (t := 32) ?hr ?_; (case hd => rfl); (case hg => rfl); (case hr => first | (go_simp; done) | (go_simp; rfl)); intro gb101 hg w9 hbox hb; have BK101 := Aside0.mk (hbox); have GW101 := Aside0.mk ((gsz hg : w.heap.size ≤ gb101)); have GE101 := Aside0.mk ((gsz hg : w.heap.size ≤ gb101)); replace HB := Aside0.mk (below_step bel hb); clear hb hbox hg; obtain ⟨hcz10_0, hcz10_1, hcz10_2, hcz10_3, hcz10_4, hcz10_5, hcz10_6, hcz10_7, hcz10_8, hcz10_9, hcz10_10, hcz10_11, hcz10_12, hcz10_13, hcz10_14, hcz10_15, hcz10_16, hcz10_17, hcz10_18, hfz10_0, hfz10_1, hfz10_2, hfz10_3, hfz10_4, hfz10_5, hfz10_6, hfz10_7, hfz10_8, hfz10_9, hfz10_10, hfz10_11, hfz10_12, hfz10_13, hfz10_14, hfz10_15, hfz10_16, hfz10_17, hfz10_18⟩ := cz19 BK101.out) | ((with_reducible refine gate_callee (f := 6) rfl ?_); refine goesL_ (some 21) rfl rfl Tryz.func6 (by kernel_rfl) rfl #[.slice A0_0 l0_0.length c0_0, .int .i64 a0_1, .int .i64 a0_2] rfl arg ?_; (with_reducible refine (workday_Expiry.calls k _ _ l0_0 a0_1 a0_2 t103 t104 _ ?side1 ?side2 A7.out (glob_of HGL.out bel)).mono ?_); (case side1 => repeat (first | exact (Kd.C_below HR0_0.out HB.out) | (with_reducible refine Kd.C_alloc ?_ _) | (with_reducible refine Kd.C_drewN ?_ _) | (with_reducible refine Kd.C_drew ?_))); (case side2 => exact HC0_0.out); rintro e w11 ⟨rfl, hb⟩; refine ⟨_, rfl, ?_⟩; replace BK101 := Aside0.mk (blk_below (g := gb101) (bw BK101.out) hb); replace HB := Aside0.mk (below_step bel hb); (try clear hb); (try clear hb2); (try clear hk); (try clear hi)))
    (try simp only [Act.put, List.setIfInBounds_toArray, List.set_cons_zero, List.set_cons_succ])
    go_cut [33] (fun v33 wc => ∃ (kq : Nat) (x33_7 : Bool), v33 = .bool x33_7 ∧ Aside0 (contangotop_TopLives.j0 kq t103 t104 x33_7 l0_0 a0_1 a0_2 a0_3 l0_4 l0_5 a0_6 a0_7 a0_8 a0_9 a0_10 a0_11 a0_12 a0_13 a0_14 a0_15 a0_16 a0_17 a0_18 = some r) ∧ Aside0 (kq ≤ k) ∧ Aside0 (wc.heap[gb101]? = some (.cells #[(.slice A0_0 l0_0.length c0_0), .int .i64 a0_1, .int .i64 a0_2, .int .i64 a0_3, (.slice A0_4 l0_4.length c0_4), (.slice A0_5 l0_5.length c0_5), .int .i64 a0_6, .int .i64 a0_7, .int .i64 a0_8, .string a0_9, .int .i64 a0_10, .int .i64 a0_11, .int .i64 a0_12, .int .i64 a0_13, .int .i64 a0_14, .string a0_15, .string a0_16, .string a0_17, .string a0_18] 32 (0, 0))) ∧ Aside0 (Below w.heap.size w wc))
    case first =>
      have H := HC8.out
      clear HC8
      by_cases c12 : t104 = 0
      · rw [if_pos c12] at H
        have c12b0 : (t104 == 0) = true := beq_iff_eq.mpr c12
        have c12b1 : (t104 != 0) = false := bne_eq_false_iff_eq.mpr c12
        clear c12
        (first | rw [c12b0] | (simp only [i64_w, i32_w]; rw [c12b0]) | skip)
        by_cases c13 : t103 < 0
        · rw [if_pos c13] at H
          have c13b0 := decide_eq_true c13
          clear c13
          have H' := Aside0.mk H
          clear H
          go_wp2
          go_meet
          case rel => exact ⟨_, (true), eqs, H', ⟨by first | omega | exact Nat.le_refl _⟩, ⟨bw BK101.out⟩, ⟨bel⟩⟩
        · rw [if_neg c13] at H
          have c13b0 := decide_eq_false c13
          clear c13
          have H' := Aside0.mk H
          clear H
          go_wp2
          go_meet
          case rel => exact ⟨_, (decide (t103 > 73048)), eqs, H', ⟨by first | omega | exact Nat.le_refl _⟩, ⟨bw BK101.out⟩, ⟨bel⟩⟩
      · rw [if_neg c12] at H
        have c12b0 : (t104 == 0) = false := beq_eq_false_iff_ne.mpr c12
        have c12b1 : (t104 != 0) = true := bne_iff_ne.mpr c12
        (first | rw [c12b0] | (simp only [i64_w, i32_w]; rw [c12b0]) | skip)
        have H' := Aside0.mk H
        clear H
        go_wp2
        go_meet
        case rel => exact ⟨_, (true), eqs, H', ⟨by first | omega | exact Nat.le_refl _⟩, ⟨bw BK101.out⟩, ⟨bel⟩⟩
    case rest =>
      clear HC8
      try clear c1
      try clear c2
      try clear c2b0
      try clear c2b1
      try clear p2
      try clear c3
      try clear c5
      try clear c6
      try clear c12
      try clear c12b0
      try clear c12b1
      try clear c13
      try clear c13b0
      try clear hcz10_0 hcz10_1 hcz10_10 hcz10_11 hcz10_12 hcz10_13 hcz10_14 hcz10_15 hcz10_16 hcz10_17 hcz10_18 hcz10_2 hcz10_3 hcz10_4 hcz10_5 hcz10_6 hcz10_7 hcz10_8 hcz10_9
      try clear hcz5_0 hcz5_1 hcz5_10 hcz5_11 hcz5_12 hcz5_13 hcz5_14 hcz5_15 hcz5_16 hcz5_17 hcz5_18 hcz5_2 hcz5_3 hcz5_4 hcz5_5 hcz5_6 hcz5_7 hcz5_8 hcz5_9
      try clear hfz10_0 hfz10_1 hfz10_10 hfz10_11 hfz10_12 hfz10_13 hfz10_14 hfz10_15 hfz10_16 hfz10_17 hfz10_18 hfz10_2 hfz10_3 hfz10_4 hfz10_5 hfz10_6 hfz10_7 hfz10_8 hfz10_9
      try clear hfz5_0 hfz5_1 hfz5_10 hfz5_11 hfz5_12 hfz5_13 hfz5_14 hfz5_15 hfz5_16 hfz5_17 hfz5_18 hfz5_2 hfz5_3 hfz5_4 hfz5_5 hfz5_6 hfz5_7 hfz5_8 hfz5_9
      obtain ⟨kq, x33_7, rfl, HA, HJ7, BK101, HB⟩ := hcut
      cases kq with
      | zero => exact absurd HA.out (by simp [contangotop_TopLives.j0])
      | succ kj7 =>
        have H := HA.out
        clear HA
        simp only [contangotop_TopLives.j0] at H
        by_cases c14 : x33_7 = true
        · subst c14
          rw [if_pos rfl] at H
          by_cases c15 : t104 = 0
          · rw [if_pos c15] at H
            exact absurd H (by simp)
          · rw [if_neg c15] at H
            have c15b0 : (t104 == 0) = false := beq_eq_false_iff_ne.mpr c15
            have c15b1 : (t104 != 0) = true := bne_iff_ne.mpr c15
            by_cases c16 : t103 = 0
            · rw [if_pos c16] at H
              have c16b0 : (t103 == 0) = true := beq_iff_eq.mpr c16
              have c16b1 : (t103 != 0) = false := bne_eq_false_iff_eq.mpr c16
              clear c16
              replace H := bnd H
              obtain ⟨t105, A170, H⟩ := H
              have A17 := Aside0.mk A170
              clear A170
              obtain rfl := Option.some.inj H
              go_wp2_with (first | (go_at_call 5; (with_reducible refine (contangotop_goes06.calls kj7  t105 _ A17.out (glob_of HGL.out bel)).mono ?_); rintro e w18 ⟨rfl, hb⟩; replace BK101 := Aside0.mk (blk_below (g := gb101) (bw BK101.out) hb); replace HB := Aside0.mk (below_step bel hb); (try clear hb); (try clear hb2); (try clear hk); (try clear hi)))
              go_ret
              exact ⟨ers, bel⟩
            · rw [if_neg c16] at H
              exact absurd H (by simp)
        · replace c14 := Bool.eq_false_iff.mpr c14
          subst c14
          rw [if_neg (show ¬ (false = true) by decide)] at H
          replace H := bnd H
          obtain ⟨t107, A190, H⟩ := H
          have A19 := Aside0.mk A190
          clear A190
          by_cases c20 : (IntKind.u64.wrap (wrap64 (t103 + 1))) = 0
          · rw [if_pos c20] at H
            exact absurd H (by simp)
          · rw [if_neg c20] at H
            have c20b0 : ((IntKind.u64.wrap (wrap64 (t103 + 1))) == 0) = false := beq_eq_false_iff_ne.mpr c20
            have c20b1 : ((IntKind.u64.wrap (wrap64 (t103 + 1))) != 0) = true := bne_iff_ne.mpr c20
            replace H := bnd H
            obtain ⟨t108, A210, H⟩ := H
            have A21 := Aside0.mk A210
            clear A210
            replace H := bnd H
            obtain ⟨t109, A220, H⟩ := H
            have A22 := Aside0.mk A220
            clear A220
            by_cases c23 : t107 = t108
            · rw [if_pos c23] at H
              have c23b0 : (t107 == t108) = true := beq_iff_eq.mpr c23
              have c23b1 : (t107 != t108) = false := bne_eq_false_iff_eq.mpr c23
              clear c23
              by_cases c24 : t107 = 0
              · rw [if_pos c24] at H
                have c24b0 : (t107 == 0) = true := beq_iff_eq.mpr c24
                have c24b1 : (t107 != 0) = false := bne_eq_false_iff_eq.mpr c24
                clear c24
                by_cases c25 : t109 = 15
                · rw [if_pos c25] at H
                  have c25b0 : (t109 == 15) = true := beq_iff_eq.mpr c25
                  have c25b1 : (t109 != 15) = false := bne_eq_false_iff_eq.mpr c25
                  clear c25
                  replace H := bnd H
                  obtain ⟨t110, A260, H⟩ := H
                  have A26 := Aside0.mk A260
                  clear A260
                  obtain rfl := Option.some.inj H
                  obtain ⟨hcz27_0, hcz27_1, hcz27_2, hcz27_3, hcz27_4, hcz27_5, hcz27_6, hcz27_7, hcz27_8, hcz27_9, hcz27_10, hcz27_11, hcz27_12, hcz27_13, hcz27_14, hcz27_15, hcz27_16, hcz27_17, hcz27_18, hfz27_0, hfz27_1, hfz27_2, hfz27_3, hfz27_4, hfz27_5, hfz27_6, hfz27_7, hfz27_8, hfz27_9, hfz27_10, hfz27_11, hfz27_12, hfz27_13, hfz27_14, hfz27_15, hfz27_16, hfz27_17, hfz27_18⟩ := cz19 BK101.out
                  go_wp2_with (first | ((with_reducible refine gate_dst (N := 5) rfl ?_); refine box_event ?hg (N := 5) ?hd (cs := #[.int .i64 0, .int .i64 0, .int .i64 0, .string (⟨#[]⟩ : ByteArray), .int .i64 0, .int .i64 0, .int .i64 0, .int .i64 0, .int .i64 0, .string (⟨#[]⟩ : ByteArray), .string (⟨#[]⟩ : ByteArray), .string (⟨#[]⟩ : ByteArray), .string (⟨#[]⟩ : ByteArray)]) (t := 30) ?hr ?_; (case hd => rfl); (case hg => rfl); (case hr => first | (go_simp; done) | (go_simp; rfl)); intro gb106 hg w28 hbox hb; have BK106 := Aside0.mk (hbox); have GW106 := Aside0.mk ((gsz hg : w.heap.size ≤ gb106)); have GE106 := Aside0.mk ((gsz hg : w.heap.size ≤ gb106)); have NB101_106 := Aside0.mk ((nlt hg (bw BK101.out) : gb101 ≠ gb106)); have NB106_101 := Aside0.mk ((ngt hg (bw BK101.out) : gb106 ≠ gb101)); replace BK101 := Aside0.mk (blk_below (g := gb101) (bw BK101.out) hb); replace HB := Aside0.mk (below_step bel hb); clear hb hbox hg; have hnb29 := NB106_101.out; have hnc29 := NB101_106.out; obtain ⟨hcz30_0, hcz30_1, hcz30_2, hcz30_3, hcz30_4, hcz30_5, hcz30_6, hcz30_7, hcz30_8, hcz30_9, hcz30_10, hcz30_11, hcz30_12, hfz30_0, hfz30_1, hfz30_2, hfz30_3, hfz30_4, hfz30_5, hfz30_6, hfz30_7, hfz30_8, hfz30_9, hfz30_10, hfz30_11, hfz30_12⟩ := cz13 BK106.out; obtain ⟨hcz31_0, hcz31_1, hcz31_2, hcz31_3, hcz31_4, hcz31_5, hcz31_6, hcz31_7, hcz31_8, hcz31_9, hcz31_10, hcz31_11, hcz31_12, hcz31_13, hcz31_14, hcz31_15, hcz31_16, hcz31_17, hcz31_18, hfz31_0, hfz31_1, hfz31_2, hfz31_3, hfz31_4, hfz31_5, hfz31_6, hfz31_7, hfz31_8, hfz31_9, hfz31_10, hfz31_11, hfz31_12, hfz31_13, hfz31_14, hfz31_15, hfz31_16, hfz31_17, hfz31_18⟩ := cz19 BK101.out) | ((with_reducible refine gate_dst (N := 50) rfl ?_); (fail_if_success (have := FRZ)); refine freeze (R := fun W' => W'.heap[gb106]? = some (.cells #[.int .i64 a0_6, .int .i64 t103, .int .i64 a0_8, .string a0_9, .int .i64 a0_10, .int .i64 t103, .int .i64 a0_12, .int .i64 a0_13, .int .i64 a0_14, .string a0_15, .string a0_16, .string a0_17, .string a0_18] 30 (0, 0)) ∧ W'.heap[gb101]? = some (.cells #[.slice A0_0 l0_0.length c0_0, .int .i64 a0_1, .int .i64 a0_2, .int .i64 a0_3, .slice A0_4 l0_4.length c0_4, .slice A0_5 l0_5.length c0_5, .int .i64 a0_6, .int .i64 a0_7, .int .i64 a0_8, .string a0_9, .int .i64 a0_10, .int .i64 a0_11, .int .i64 a0_12, .int .i64 a0_13, .int .i64 a0_14, .string a0_15, .string a0_16, .string a0_17, .string a0_18] 32 (0, 0)) ∧ Below w.heap.size w W') ⟨(bs BK106.out), (bs BK101.out), bel⟩ ?_; rintro wf1 ⟨b1, b2, b3⟩; have FRZ := True.intro; replace BK106 := Aside0.mk b1; replace BK101 := Aside0.mk b2; replace HB := Aside0.mk b3; clear b1 b2 b3; (try clear hcz30_0 hcz30_1 hcz30_10 hcz30_11 hcz30_12 hcz30_2 hcz30_3 hcz30_4 hcz30_5 hcz30_6 hcz30_7 hcz30_8 hcz30_9 hcz31_0 hcz31_1 hcz31_10 hcz31_11 hcz31_12 hcz31_13 hcz31_14 hcz31_15 hcz31_16 hcz31_17 hcz31_18 hcz31_2 hcz31_3 hcz31_4 hcz31_5 hcz31_6 hcz31_7 hcz31_8 hcz31_9 hfz30_0 hfz30_1 hfz30_10 hfz30_11 hfz30_12 hfz30_2 hfz30_3 hfz30_4 hfz30_5 hfz30_6 hfz30_7 hfz30_8 hfz30_9 hfz31_0 hfz31_1 hfz31_10 hfz31_11 hfz31_12 hfz31_13 hfz31_14 hfz31_15 hfz31_16 hfz31_17 hfz31_18 hfz31_2 hfz31_3 hfz31_4 hfz31_5 hfz31_6 hfz31_7 hfz31_8 hfz31_9); obtain ⟨hczf_0, hczf_1, hczf_2, hczf_3, hczf_4, hczf_5, hczf_6, hczf_7, hczf_8, hczf_9, hczf_10, hczf_11, hczf_12, hfzf_0, hfzf_1, hfzf_2, hfzf_3, hfzf_4, hfzf_5, hfzf_6, hfzf_7, hfzf_8, hfzf_9, hfzf_10, hfzf_11, hfzf_12⟩ := cz13 BK106.out; obtain ⟨hczg_0, hczg_1, hczg_2, hczg_3, hczg_4, hczg_5, hczg_6, hczg_7, hczg_8, hczg_9, hczg_10, hczg_11, hczg_12, hczg_13, hczg_14, hczg_15, hczg_16, hczg_17, hczg_18, hfzg_0, hfzg_1, hfzg_2, hfzg_3, hfzg_4, hfzg_5, hfzg_6, hfzg_7, hfzg_8, hfzg_9, hfzg_10, hfzg_11, hfzg_12, hfzg_13, hfzg_14, hfzg_15, hfzg_16, hfzg_17, hfzg_18⟩ := cz19 BK101.out) | ((with_reducible refine gate_callee (f := 7) rfl ?_); refine goesL_ (some 55) rfl rfl Tryz.func7 (by kernel_rfl) rfl #[.agg #[.int .i64 a0_6, .int .i64 t103, .int .i64 a0_8, .string a0_9, .int .i64 a0_10, .int .i64 t103, .int .i64 a0_12, .int .i64 a0_13, .int .i64 a0_14, .string a0_15, .string a0_16, .string a0_17, .string a0_18], .slice A0_4 l0_4.length c0_4, .slice A0_5 l0_5.length c0_5] rfl arg ?_; (with_reducible refine (trade_Check.calls kj7 a0_6 t103 a0_8 a0_9 a0_10 t103 a0_12 a0_13 a0_14 a0_15 a0_16 a0_17 a0_18 _ _ l0_4 _ _ l0_5 t107 _ ?side1 ?side2 ?side3 ?side4 A19.out).mono ?_); (case side1 => exact Kd.C_below HR0_4.out bel); (case side2 => exact HC0_4.out); (case side3 => exact Kd.C_below HR0_5.out bel); (case side4 => exact HC0_5.out); rintro e w32 ⟨rfl, hb⟩; refine ⟨_, rfl, ?_⟩; replace BK101 := Aside0.mk (blk_below (g := gb101) (o := .cells #[.slice A0_0 l0_0.length c0_0, .int .i64 a0_1, .int .i64 a0_2, .int .i64 a0_3, .slice A0_4 l0_4.length c0_4, .slice A0_5 l0_5.length c0_5, .int .i64 a0_6, .int .i64 a0_7, .int .i64 a0_8, .string a0_9, .int .i64 a0_10, .int .i64 a0_11, .int .i64 a0_12, .int .i64 a0_13, .int .i64 a0_14, .string a0_15, .string a0_16, .string a0_17, .string a0_18] 32 (0, 0)) (bs BK101.out) hb); replace BK106 := Aside0.mk (blk_below (g := gb106) (o := .cells #[.int .i64 a0_6, .int .i64 t103, .int .i64 a0_8, .string a0_9, .int .i64 a0_10, .int .i64 t103, .int .i64 a0_12, .int .i64 a0_13, .int .i64 a0_14, .string a0_15, .string a0_16, .string a0_17, .string a0_18] 30 (0, 0)) (bs BK106.out) hb); replace HB := Aside0.mk (below_step bel hb); (try clear hb); (try clear hb2); (try clear hk); (try clear hi); obtain ⟨hcz33_0, hcz33_1, hcz33_2, hcz33_3, hcz33_4, hcz33_5, hcz33_6, hcz33_7, hcz33_8, hcz33_9, hcz33_10, hcz33_11, hcz33_12, hcz33_13, hcz33_14, hcz33_15, hcz33_16, hcz33_17, hcz33_18, hfz33_0, hfz33_1, hfz33_2, hfz33_3, hfz33_4, hfz33_5, hfz33_6, hfz33_7, hfz33_8, hfz33_9, hfz33_10, hfz33_11, hfz33_12, hfz33_13, hfz33_14, hfz33_15, hfz33_16, hfz33_17, hfz33_18⟩ := cz19 BK101.out; obtain ⟨hcz34_0, hcz34_1, hcz34_2, hcz34_3, hcz34_4, hcz34_5, hcz34_6, hcz34_7, hcz34_8, hcz34_9, hcz34_10, hcz34_11, hcz34_12, hfz34_0, hfz34_1, hfz34_2, hfz34_3, hfz34_4, hfz34_5, hfz34_6, hfz34_7, hfz34_8, hfz34_9, hfz34_10, hfz34_11, hfz34_12⟩ := cz13 BK106.out) | ((with_reducible refine gate_callee (f := 7) rfl ?_); refine goesL_ (some 70) rfl rfl Tryz.func7 (by kernel_rfl) rfl #[.agg #[.int .i64 a0_6, .int .i64 (wrap64 (Int.tmod (IntKind.u64.wrap (a0_3)) (IntKind.u64.wrap (wrap64 (t103 + 1))))), .int .i64 a0_8, .string a0_9, .int .i64 a0_10, .int .i64 t103, .int .i64 a0_12, .int .i64 a0_13, .int .i64 a0_14, .string a0_15, .string a0_16, .string a0_17, .string a0_18], .slice A0_4 l0_4.length c0_4, .slice A0_5 l0_5.length c0_5] rfl arg ?_; (with_reducible refine (trade_Check.calls kj7 a0_6 (wrap64 (Int.tmod (IntKind.u64.wrap (a0_3)) (IntKind.u64.wrap (wrap64 (t103 + 1))))) a0_8 a0_9 a0_10 t103 a0_12 a0_13 a0_14 a0_15 a0_16 a0_17 a0_18 _ _ l0_4 _ _ l0_5 t108 _ ?side1 ?side2 ?side3 ?side4 A21.out).mono ?_); (case side1 => exact Kd.C_below HR0_4.out bel); (case side2 => exact HC0_4.out); (case side3 => exact Kd.C_below HR0_5.out bel); (case side4 => exact HC0_5.out); rintro e w35 ⟨rfl, hb⟩; refine ⟨_, rfl, ?_⟩; replace BK101 := Aside0.mk (blk_below (g := gb101) (o := .cells #[.slice A0_0 l0_0.length c0_0, .int .i64 a0_1, .int .i64 a0_2, .int .i64 a0_3, .slice A0_4 l0_4.length c0_4, .slice A0_5 l0_5.length c0_5, .int .i64 a0_6, .int .i64 a0_7, .int .i64 a0_8, .string a0_9, .int .i64 a0_10, .int .i64 a0_11, .int .i64 a0_12, .int .i64 a0_13, .int .i64 a0_14, .string a0_15, .string a0_16, .string a0_17, .string a0_18] 32 (0, 0)) (bs BK101.out) hb); replace BK106 := Aside0.mk (blk_below (g := gb106) (o := .cells #[.int .i64 a0_6, .int .i64 (wrap64 (Int.tmod (IntKind.u64.wrap (a0_3)) (IntKind.u64.wrap (wrap64 (t103 + 1))))), .int .i64 a0_8, .string a0_9, .int .i64 a0_10, .int .i64 t103, .int .i64 a0_12, .int .i64 a0_13, .int .i64 a0_14, .string a0_15, .string a0_16, .string a0_17, .string a0_18] 30 (0, 0)) (bs BK106.out) hb); replace HB := Aside0.mk (below_step bel hb); (try clear hb); (try clear hb2); (try clear hk); (try clear hi); obtain ⟨hcz36_0, hcz36_1, hcz36_2, hcz36_3, hcz36_4, hcz36_5, hcz36_6, hcz36_7, hcz36_8, hcz36_9, hcz36_10, hcz36_11, hcz36_12, hfz36_0, hfz36_1, hfz36_2, hfz36_3, hfz36_4, hfz36_5, hfz36_6, hfz36_7, hfz36_8, hfz36_9, hfz36_10, hfz36_11, hfz36_12⟩ := cz13 BK106.out; obtain ⟨hcz37_0, hcz37_1, hcz37_2, hcz37_3, hcz37_4, hcz37_5, hcz37_6, hcz37_7, hcz37_8, hcz37_9, hcz37_10, hcz37_11, hcz37_12, hcz37_13, hcz37_14, hcz37_15, hcz37_16, hcz37_17, hcz37_18, hfz37_0, hfz37_1, hfz37_2, hfz37_3, hfz37_4, hfz37_5, hfz37_6, hfz37_7, hfz37_8, hfz37_9, hfz37_10, hfz37_11, hfz37_12, hfz37_13, hfz37_14, hfz37_15, hfz37_16, hfz37_17, hfz37_18⟩ := cz19 BK101.out) | ((with_reducible refine gate_callee (f := 7) rfl ?_); refine goesL_ (some 79) rfl rfl Tryz.func7 (by kernel_rfl) rfl #[.agg #[.int .i64 a0_6, .int .i64 (wrap64 (t103 + 1)), .int .i64 a0_8, .string a0_9, .int .i64 a0_10, .int .i64 t103, .int .i64 a0_12, .int .i64 a0_13, .int .i64 a0_14, .string a0_15, .string a0_16, .string a0_17, .string a0_18], .slice A0_4 l0_4.length c0_4, .slice A0_5 l0_5.length c0_5] rfl arg ?_; (with_reducible refine (trade_Check.calls kj7 a0_6 (wrap64 (t103 + 1)) a0_8 a0_9 a0_10 t103 a0_12 a0_13 a0_14 a0_15 a0_16 a0_17 a0_18 _ _ l0_4 _ _ l0_5 t109 _ ?side1 ?side2 ?side3 ?side4 A22.out).mono ?_); (case side1 => exact Kd.C_below HR0_4.out bel); (case side2 => exact HC0_4.out); (case side3 => exact Kd.C_below HR0_5.out bel); (case side4 => exact HC0_5.out); rintro e w38 ⟨rfl, hb⟩; refine ⟨_, rfl, ?_⟩; replace BK101 := Aside0.mk (blk_below (g := gb101) (o := .cells #[.slice A0_0 l0_0.length c0_0, .int .i64 a0_1, .int .i64 a0_2, .int .i64 a0_3, .slice A0_4 l0_4.length c0_4, .slice A0_5 l0_5.length c0_5, .int .i64 a0_6, .int .i64 a0_7, .int .i64 a0_8, .string a0_9, .int .i64 a0_10, .int .i64 a0_11, .int .i64 a0_12, .int .i64 a0_13, .int .i64 a0_14, .string a0_15, .string a0_16, .string a0_17, .string a0_18] 32 (0, 0)) (bs BK101.out) hb); replace BK106 := Aside0.mk (blk_below (g := gb106) (o := .cells #[.int .i64 a0_6, .int .i64 (wrap64 (t103 + 1)), .int .i64 a0_8, .string a0_9, .int .i64 a0_10, .int .i64 t103, .int .i64 a0_12, .int .i64 a0_13, .int .i64 a0_14, .string a0_15, .string a0_16, .string a0_17, .string a0_18] 30 (0, 0)) (bs BK106.out) hb); replace HB := Aside0.mk (below_step bel hb); (try clear hb); (try clear hb2); (try clear hk); (try clear hi)) | (go_at_call 5; (with_reducible refine (contangotop_goes06.calls kj7  t110 _ A26.out (glob_of HGL.out bel)).mono ?_); rintro e w39 ⟨rfl, hb⟩; replace BK101 := Aside0.mk (blk_below (g := gb101) (bw BK101.out) hb); replace BK106 := Aside0.mk (blk_below (g := gb106) (bw BK106.out) hb); replace HB := Aside0.mk (below_step bel hb); (try clear hb); (try clear hb2); (try clear hk); (try clear hi)))
                  go_ret
                  exact ⟨ers, bel⟩
                · rw [if_neg c25] at H
                  exact absurd H (by simp)
              · rw [if_neg c24] at H
                have c24b0 : (t107 == 0) = false := beq_eq_false_iff_ne.mpr c24
                have c24b1 : (t107 != 0) = true := bne_iff_ne.mpr c24
                replace H := bnd H
                obtain ⟨t111, A400, H⟩ := H
                have A40 := Aside0.mk A400
                clear A400
                obtain rfl := Option.some.inj H
                obtain ⟨hcz41_0, hcz41_1, hcz41_2, hcz41_3, hcz41_4, hcz41_5, hcz41_6, hcz41_7, hcz41_8, hcz41_9, hcz41_10, hcz41_11, hcz41_12, hcz41_13, hcz41_14, hcz41_15, hcz41_16, hcz41_17, hcz41_18, hfz41_0, hfz41_1, hfz41_2, hfz41_3, hfz41_4, hfz41_5, hfz41_6, hfz41_7, hfz41_8, hfz41_9, hfz41_10, hfz41_11, hfz41_12, hfz41_13, hfz41_14, hfz41_15, hfz41_16, hfz41_17, hfz41_18⟩ := cz19 BK101.out
                go_wp2_with (first | ((with_reducible refine gate_dst (N := 5) rfl ?_); refine box_event ?hg (N := 5) ?hd (cs := #[.int .i64 0, .int .i64 0, .int .i64 0, .string (⟨#[]⟩ : ByteArray), .int .i64 0, .int .i64 0, .int .i64 0, .int .i64 0, .int .i64 0, .string (⟨#[]⟩ : ByteArray), .string (⟨#[]⟩ : ByteArray), .string (⟨#[]⟩ : ByteArray), .string (⟨#[]⟩ : ByteArray)]) (t := 30) ?hr ?_; (case hd => rfl); (case hg => rfl); (case hr => first | (go_simp; done) | (go_simp; rfl)); intro gb106 hg w42 hbox hb; have BK106 := Aside0.mk (hbox); have GW106 := Aside0.mk ((gsz hg : w.heap.size ≤ gb106)); have GE106 := Aside0.mk ((gsz hg : w.heap.size ≤ gb106)); have NB101_106 := Aside0.mk ((nlt hg (bw BK101.out) : gb101 ≠ gb106)); have NB106_101 := Aside0.mk ((ngt hg (bw BK101.out) : gb106 ≠ gb101)); replace BK101 := Aside0.mk (blk_below (g := gb101) (bw BK101.out) hb); replace HB := Aside0.mk (below_step bel hb); clear hb hbox hg; have hnb43 := NB106_101.out; have hnc43 := NB101_106.out; obtain ⟨hcz44_0, hcz44_1, hcz44_2, hcz44_3, hcz44_4, hcz44_5, hcz44_6, hcz44_7, hcz44_8, hcz44_9, hcz44_10, hcz44_11, hcz44_12, hfz44_0, hfz44_1, hfz44_2, hfz44_3, hfz44_4, hfz44_5, hfz44_6, hfz44_7, hfz44_8, hfz44_9, hfz44_10, hfz44_11, hfz44_12⟩ := cz13 BK106.out; obtain ⟨hcz45_0, hcz45_1, hcz45_2, hcz45_3, hcz45_4, hcz45_5, hcz45_6, hcz45_7, hcz45_8, hcz45_9, hcz45_10, hcz45_11, hcz45_12, hcz45_13, hcz45_14, hcz45_15, hcz45_16, hcz45_17, hcz45_18, hfz45_0, hfz45_1, hfz45_2, hfz45_3, hfz45_4, hfz45_5, hfz45_6, hfz45_7, hfz45_8, hfz45_9, hfz45_10, hfz45_11, hfz45_12, hfz45_13, hfz45_14, hfz45_15, hfz45_16, hfz45_17, hfz45_18⟩ := cz19 BK101.out) | ((with_reducible refine gate_dst (N := 50) rfl ?_); (fail_if_success (have := FRZ)); refine freeze (R := fun W' => W'.heap[gb106]? = some (.cells #[.int .i64 a0_6, .int .i64 t103, .int .i64 a0_8, .string a0_9, .int .i64 a0_10, .int .i64 t103, .int .i64 a0_12, .int .i64 a0_13, .int .i64 a0_14, .string a0_15, .string a0_16, .string a0_17, .string a0_18] 30 (0, 0)) ∧ W'.heap[gb101]? = some (.cells #[.slice A0_0 l0_0.length c0_0, .int .i64 a0_1, .int .i64 a0_2, .int .i64 a0_3, .slice A0_4 l0_4.length c0_4, .slice A0_5 l0_5.length c0_5, .int .i64 a0_6, .int .i64 a0_7, .int .i64 a0_8, .string a0_9, .int .i64 a0_10, .int .i64 a0_11, .int .i64 a0_12, .int .i64 a0_13, .int .i64 a0_14, .string a0_15, .string a0_16, .string a0_17, .string a0_18] 32 (0, 0)) ∧ Below w.heap.size w W') ⟨(bs BK106.out), (bs BK101.out), bel⟩ ?_; rintro wf1 ⟨b1, b2, b3⟩; have FRZ := True.intro; replace BK106 := Aside0.mk b1; replace BK101 := Aside0.mk b2; replace HB := Aside0.mk b3; clear b1 b2 b3; (try clear hcz44_0 hcz44_1 hcz44_10 hcz44_11 hcz44_12 hcz44_2 hcz44_3 hcz44_4 hcz44_5 hcz44_6 hcz44_7 hcz44_8 hcz44_9 hcz45_0 hcz45_1 hcz45_10 hcz45_11 hcz45_12 hcz45_13 hcz45_14 hcz45_15 hcz45_16 hcz45_17 hcz45_18 hcz45_2 hcz45_3 hcz45_4 hcz45_5 hcz45_6 hcz45_7 hcz45_8 hcz45_9 hfz44_0 hfz44_1 hfz44_10 hfz44_11 hfz44_12 hfz44_2 hfz44_3 hfz44_4 hfz44_5 hfz44_6 hfz44_7 hfz44_8 hfz44_9 hfz45_0 hfz45_1 hfz45_10 hfz45_11 hfz45_12 hfz45_13 hfz45_14 hfz45_15 hfz45_16 hfz45_17 hfz45_18 hfz45_2 hfz45_3 hfz45_4 hfz45_5 hfz45_6 hfz45_7 hfz45_8 hfz45_9); obtain ⟨hczf_0, hczf_1, hczf_2, hczf_3, hczf_4, hczf_5, hczf_6, hczf_7, hczf_8, hczf_9, hczf_10, hczf_11, hczf_12, hfzf_0, hfzf_1, hfzf_2, hfzf_3, hfzf_4, hfzf_5, hfzf_6, hfzf_7, hfzf_8, hfzf_9, hfzf_10, hfzf_11, hfzf_12⟩ := cz13 BK106.out; obtain ⟨hczg_0, hczg_1, hczg_2, hczg_3, hczg_4, hczg_5, hczg_6, hczg_7, hczg_8, hczg_9, hczg_10, hczg_11, hczg_12, hczg_13, hczg_14, hczg_15, hczg_16, hczg_17, hczg_18, hfzg_0, hfzg_1, hfzg_2, hfzg_3, hfzg_4, hfzg_5, hfzg_6, hfzg_7, hfzg_8, hfzg_9, hfzg_10, hfzg_11, hfzg_12, hfzg_13, hfzg_14, hfzg_15, hfzg_16, hfzg_17, hfzg_18⟩ := cz19 BK101.out) | ((with_reducible refine gate_callee (f := 7) rfl ?_); refine goesL_ (some 55) rfl rfl Tryz.func7 (by kernel_rfl) rfl #[.agg #[.int .i64 a0_6, .int .i64 t103, .int .i64 a0_8, .string a0_9, .int .i64 a0_10, .int .i64 t103, .int .i64 a0_12, .int .i64 a0_13, .int .i64 a0_14, .string a0_15, .string a0_16, .string a0_17, .string a0_18], .slice A0_4 l0_4.length c0_4, .slice A0_5 l0_5.length c0_5] rfl arg ?_; (with_reducible refine (trade_Check.calls kj7 a0_6 t103 a0_8 a0_9 a0_10 t103 a0_12 a0_13 a0_14 a0_15 a0_16 a0_17 a0_18 _ _ l0_4 _ _ l0_5 t107 _ ?side1 ?side2 ?side3 ?side4 A19.out).mono ?_); (case side1 => exact Kd.C_below HR0_4.out bel); (case side2 => exact HC0_4.out); (case side3 => exact Kd.C_below HR0_5.out bel); (case side4 => exact HC0_5.out); rintro e w46 ⟨rfl, hb⟩; refine ⟨_, rfl, ?_⟩; replace BK101 := Aside0.mk (blk_below (g := gb101) (o := .cells #[.slice A0_0 l0_0.length c0_0, .int .i64 a0_1, .int .i64 a0_2, .int .i64 a0_3, .slice A0_4 l0_4.length c0_4, .slice A0_5 l0_5.length c0_5, .int .i64 a0_6, .int .i64 a0_7, .int .i64 a0_8, .string a0_9, .int .i64 a0_10, .int .i64 a0_11, .int .i64 a0_12, .int .i64 a0_13, .int .i64 a0_14, .string a0_15, .string a0_16, .string a0_17, .string a0_18] 32 (0, 0)) (bs BK101.out) hb); replace BK106 := Aside0.mk (blk_below (g := gb106) (o := .cells #[.int .i64 a0_6, .int .i64 t103, .int .i64 a0_8, .string a0_9, .int .i64 a0_10, .int .i64 t103, .int .i64 a0_12, .int .i64 a0_13, .int .i64 a0_14, .string a0_15, .string a0_16, .string a0_17, .string a0_18] 30 (0, 0)) (bs BK106.out) hb); replace HB := Aside0.mk (below_step bel hb); (try clear hb); (try clear hb2); (try clear hk); (try clear hi); obtain ⟨hcz47_0, hcz47_1, hcz47_2, hcz47_3, hcz47_4, hcz47_5, hcz47_6, hcz47_7, hcz47_8, hcz47_9, hcz47_10, hcz47_11, hcz47_12, hcz47_13, hcz47_14, hcz47_15, hcz47_16, hcz47_17, hcz47_18, hfz47_0, hfz47_1, hfz47_2, hfz47_3, hfz47_4, hfz47_5, hfz47_6, hfz47_7, hfz47_8, hfz47_9, hfz47_10, hfz47_11, hfz47_12, hfz47_13, hfz47_14, hfz47_15, hfz47_16, hfz47_17, hfz47_18⟩ := cz19 BK101.out; obtain ⟨hcz48_0, hcz48_1, hcz48_2, hcz48_3, hcz48_4, hcz48_5, hcz48_6, hcz48_7, hcz48_8, hcz48_9, hcz48_10, hcz48_11, hcz48_12, hfz48_0, hfz48_1, hfz48_2, hfz48_3, hfz48_4, hfz48_5, hfz48_6, hfz48_7, hfz48_8, hfz48_9, hfz48_10, hfz48_11, hfz48_12⟩ := cz13 BK106.out) | ((with_reducible refine gate_callee (f := 7) rfl ?_); refine goesL_ (some 70) rfl rfl Tryz.func7 (by kernel_rfl) rfl #[.agg #[.int .i64 a0_6, .int .i64 (wrap64 (Int.tmod (IntKind.u64.wrap (a0_3)) (IntKind.u64.wrap (wrap64 (t103 + 1))))), .int .i64 a0_8, .string a0_9, .int .i64 a0_10, .int .i64 t103, .int .i64 a0_12, .int .i64 a0_13, .int .i64 a0_14, .string a0_15, .string a0_16, .string a0_17, .string a0_18], .slice A0_4 l0_4.length c0_4, .slice A0_5 l0_5.length c0_5] rfl arg ?_; (with_reducible refine (trade_Check.calls kj7 a0_6 (wrap64 (Int.tmod (IntKind.u64.wrap (a0_3)) (IntKind.u64.wrap (wrap64 (t103 + 1))))) a0_8 a0_9 a0_10 t103 a0_12 a0_13 a0_14 a0_15 a0_16 a0_17 a0_18 _ _ l0_4 _ _ l0_5 t108 _ ?side1 ?side2 ?side3 ?side4 A21.out).mono ?_); (case side1 => exact Kd.C_below HR0_4.out bel); (case side2 => exact HC0_4.out); (case side3 => exact Kd.C_below HR0_5.out bel); (case side4 => exact HC0_5.out); rintro e w49 ⟨rfl, hb⟩; refine ⟨_, rfl, ?_⟩; replace BK101 := Aside0.mk (blk_below (g := gb101) (o := .cells #[.slice A0_0 l0_0.length c0_0, .int .i64 a0_1, .int .i64 a0_2, .int .i64 a0_3, .slice A0_4 l0_4.length c0_4, .slice A0_5 l0_5.length c0_5, .int .i64 a0_6, .int .i64 a0_7, .int .i64 a0_8, .string a0_9, .int .i64 a0_10, .int .i64 a0_11, .int .i64 a0_12, .int .i64 a0_13, .int .i64 a0_14, .string a0_15, .string a0_16, .string a0_17, .string a0_18] 32 (0, 0)) (bs BK101.out) hb); replace BK106 := Aside0.mk (blk_below (g := gb106) (o := .cells #[.int .i64 a0_6, .int .i64 (wrap64 (Int.tmod (IntKind.u64.wrap (a0_3)) (IntKind.u64.wrap (wrap64 (t103 + 1))))), .int .i64 a0_8, .string a0_9, .int .i64 a0_10, .int .i64 t103, .int .i64 a0_12, .int .i64 a0_13, .int .i64 a0_14, .string a0_15, .string a0_16, .string a0_17, .string a0_18] 30 (0, 0)) (bs BK106.out) hb); replace HB := Aside0.mk (below_step bel hb); (try clear hb); (try clear hb2); (try clear hk); (try clear hi); obtain ⟨hcz50_0, hcz50_1, hcz50_2, hcz50_3, hcz50_4, hcz50_5, hcz50_6, hcz50_7, hcz50_8, hcz50_9, hcz50_10, hcz50_11, hcz50_12, hfz50_0, hfz50_1, hfz50_2, hfz50_3, hfz50_4, hfz50_5, hfz50_6, hfz50_7, hfz50_8, hfz50_9, hfz50_10, hfz50_11, hfz50_12⟩ := cz13 BK106.out; obtain ⟨hcz51_0, hcz51_1, hcz51_2, hcz51_3, hcz51_4, hcz51_5, hcz51_6, hcz51_7, hcz51_8, hcz51_9, hcz51_10, hcz51_11, hcz51_12, hcz51_13, hcz51_14, hcz51_15, hcz51_16, hcz51_17, hcz51_18, hfz51_0, hfz51_1, hfz51_2, hfz51_3, hfz51_4, hfz51_5, hfz51_6, hfz51_7, hfz51_8, hfz51_9, hfz51_10, hfz51_11, hfz51_12, hfz51_13, hfz51_14, hfz51_15, hfz51_16, hfz51_17, hfz51_18⟩ := cz19 BK101.out) | ((with_reducible refine gate_callee (f := 7) rfl ?_); refine goesL_ (some 79) rfl rfl Tryz.func7 (by kernel_rfl) rfl #[.agg #[.int .i64 a0_6, .int .i64 (wrap64 (t103 + 1)), .int .i64 a0_8, .string a0_9, .int .i64 a0_10, .int .i64 t103, .int .i64 a0_12, .int .i64 a0_13, .int .i64 a0_14, .string a0_15, .string a0_16, .string a0_17, .string a0_18], .slice A0_4 l0_4.length c0_4, .slice A0_5 l0_5.length c0_5] rfl arg ?_; (with_reducible refine (trade_Check.calls kj7 a0_6 (wrap64 (t103 + 1)) a0_8 a0_9 a0_10 t103 a0_12 a0_13 a0_14 a0_15 a0_16 a0_17 a0_18 _ _ l0_4 _ _ l0_5 t109 _ ?side1 ?side2 ?side3 ?side4 A22.out).mono ?_); (case side1 => exact Kd.C_below HR0_4.out bel); (case side2 => exact HC0_4.out); (case side3 => exact Kd.C_below HR0_5.out bel); (case side4 => exact HC0_5.out); rintro e w52 ⟨rfl, hb⟩; refine ⟨_, rfl, ?_⟩; replace BK101 := Aside0.mk (blk_below (g := gb101) (o := .cells #[.slice A0_0 l0_0.length c0_0, .int .i64 a0_1, .int .i64 a0_2, .int .i64 a0_3, .slice A0_4 l0_4.length c0_4, .slice A0_5 l0_5.length c0_5, .int .i64 a0_6, .int .i64 a0_7, .int .i64 a0_8, .string a0_9, .int .i64 a0_10, .int .i64 a0_11, .int .i64 a0_12, .int .i64 a0_13, .int .i64 a0_14, .string a0_15, .string a0_16, .string a0_17, .string a0_18] 32 (0, 0)) (bs BK101.out) hb); replace BK106 := Aside0.mk (blk_below (g := gb106) (o := .cells #[.int .i64 a0_6, .int .i64 (wrap64 (t103 + 1)), .int .i64 a0_8, .string a0_9, .int .i64 a0_10, .int .i64 t103, .int .i64 a0_12, .int .i64 a0_13, .int .i64 a0_14, .string a0_15, .string a0_16, .string a0_17, .string a0_18] 30 (0, 0)) (bs BK106.out) hb); replace HB := Aside0.mk (below_step bel hb); (try clear hb); (try clear hb2); (try clear hk); (try clear hi)) | (go_at_call 5; (with_reducible refine (contangotop_goes06.calls kj7  t111 _ A40.out (glob_of HGL.out bel)).mono ?_); rintro e w53 ⟨rfl, hb⟩; replace BK101 := Aside0.mk (blk_below (g := gb101) (bw BK101.out) hb); replace BK106 := Aside0.mk (blk_below (g := gb106) (bw BK106.out) hb); replace HB := Aside0.mk (below_step bel hb); (try clear hb); (try clear hb2); (try clear hk); (try clear hi)))
                go_ret
                exact ⟨ers, bel⟩
            · rw [if_neg c23] at H
              exact absurd H (by simp)
end Go.Proofs.YtliooghmpkdmoaaGreatDoor.X
end
section
namespace Go.Proofs.YtliooghmpkdmoaaGreatDoor.Opn
open Go.ChangeShapes Go.WideShapes Go.Proofs.YtliooghmpkdmoaaGreatDoorW.PrintWords
set_option linter.unusedVariables false
set_option linter.unusedSimpArgs false
structure Opens (P : Program) (t : TypeId) {α : Type} (d : Kd α) (Ok : α → Prop) : Prop where
  sz : d.sz = P.cellsOf t
  opens : ∀ {H : Type} {enc : TypeId × Value → H} {w : World} {base : Nat} {spare : Nat → Bool} {held : Bool} {fuel : Nat} {cs : List Value} {x : DataW H × List MemPlace},
    DataW.trod enc P w base spare held fuel t cs = some x → (∀ n ∈ x.1.weights P t, n ≤ reachBytes) → ∃ v, d.K w v cs ∧ Ok v
theorem opens_int {P : Program} {t : TypeId} {k : IntKind} (ht : P.underlying t = some (.int k)) (hc : P.cellsOf t = 1) : Opens P t (Kd.int k) (fun n => (Lit.int k n).wf = true) := by
  refine ⟨hc.symm, fun h _ => ?_⟩
  obtain ⟨n, rfl, _, hw⟩ := DataW.trod_int ht h
  exact ⟨n, rfl, hw⟩
theorem opens_bool {P : Program} {t : TypeId} (ht : P.underlying t = some .bool) (hc : P.cellsOf t = 1) : Opens P t Kd.bool (fun _ => True) := by
  refine ⟨hc.symm, fun h _ => ?_⟩
  obtain ⟨n, rfl, _⟩ := DataW.trod_bool ht h
  exact ⟨n, rfl, trivial⟩
theorem opens_string {P : Program} {t : TypeId} (ht : P.underlying t = some .string) (hc : P.cellsOf t = 1) : Opens P t Kd.string (fun s => s.size ≤ 140737488351232) := by
  refine ⟨hc.symm, fun h hw => ?_⟩
  obtain ⟨s, rfl, rfl, hs⟩ := DataW.trod_string ht h
  refine ⟨s, rfl, ?_⟩
  have := hw s.data.toList.length (by simp [DataW.weights])
  rw [Array.length_toList] at this
  exact this
theorem weights_all {H : Type} {P : Program} {e : TypeId} : ∀ {ds : List (DataW H)} {j : Nat} {d : DataW H}, ds[j]? = some d → ∀ n ∈ d.weights P e, n ∈ DataW.weightsAll P e ds
  | d0 :: ds, 0, d, hd, n, hn => by
    simp only [List.getElem?_cons_zero, Option.some.injEq] at hd
    subst hd
    simp only [DataW.weightsAll, List.mem_append]
    exact Or.inl hn
  | d0 :: ds, j + 1, d, hd, n, hn => by
    simp only [List.getElem?_cons_succ] at hd
    simp only [DataW.weightsAll, List.mem_append]
    exact Or.inr (weights_all hd n hn)
  | [], _, _, hd, _, _ => by simp at hd
theorem list_of {α : Type} {n : Nat} {p : Nat → α → Prop} (h : ∀ i, i < n → ∃ x, p i x) : ∃ l : List α, l.length = n ∧ ∀ i x, l[i]? = some x → p i x := by
  induction n with
  | zero => exact ⟨[], rfl, fun i x hx => by simp at hx⟩
  | succ n ih =>
    obtain ⟨l, hl, hp⟩ := ih (fun i hi => h i (by omega))
    obtain ⟨x, hx⟩ := h n (by omega)
    refine ⟨l ++ [x], by simp [hl], fun i y hy => ?_⟩
    by_cases hi : i < l.length
    · rw [List.getElem?_append_left hi] at hy
      exact hp i y hy
    · rw [List.getElem?_append_right (by omega)] at hy
      have : i - l.length = 0 := by
        cases hk : i - l.length with
        | zero => rfl
        | succ m => rw [hk] at hy; simp at hy
      rw [this] at hy
      simp at hy
      subst hy
      have : i = n := by omega
      subst this
      exact hx
theorem opens_slice {P : Program} {t e : TypeId} {α : Type} {d : Kd α} {Ok : α → Prop} (h : Opens P e d Ok) (ht : P.underlying t = some (.slice e)) (hc : P.cellsOf t = 1) {B : Nat} (hB : P.bytesOf e = B) :
    Opens P t (Kd.slice e d) (fun l => l.length ≤ maxLen ∧ l.length * B ≤ 140737488351232 ∧ ∀ x ∈ l, Ok x) := by
  subst hB
  refine ⟨hc.symm, fun {H enc w base spare held fuel cs x} hx hw => ?_⟩
  rcases DataW.trod_slice ht hx with ⟨rfl, rfl⟩ | ⟨a, len, cap, elems, rest, n, _, rfl, rfl, hb, hl, hm, hlen, hel, hsp, hns⟩
  · exact ⟨[], ⟨none, 0, rfl, Nat.le_refl _, Kd.C_nil _ _⟩, by simp⟩
  simp only [DataW.weights, ht] at hw
  have hw1 : (elems.length + rest.length) * P.bytesOf e ≤ reachBytes := by
    have := hw ((elems.length + rest.length) * P.bytesOf e) (by simp)
    exact this
  have hone : ∀ i, i < len → ∃ v : α, ∃ c, w.cells? base (a.add (i * P.cellsOf e)) (P.cellsOf e) = some c ∧ d.K w v c ∧ Ok v := by
    intro i hi
    have h1 := hel i hi
    rw [List.getElem?_eq_getElem (by omega)] at h1
    obtain ⟨c, hc1, hc2⟩ := Option.bind_eq_some_iff.1 h1
    obtain ⟨v, hv, hok⟩ := h.opens hc2 (fun n hn => hw n (by
      simp only [List.mem_cons, List.mem_append]
      right; left
      refine weights_all (j := i) ?_ n hn
      rw [List.getElem?_map, List.getElem?_eq_getElem (by omega)]
      rfl))
    exact ⟨v, c, hc1, hv, hok⟩
  obtain ⟨l, hl1, hl2⟩ := list_of hone
  subst hl1
  refine ⟨l, ⟨some a, cap, rfl, hl, rfl, ?_, fun _ => ⟨a, rfl, fun j p hj => ?_⟩⟩, ?_, ?_, ?_⟩
  · unfold maxLen at hm; omega
  · obtain ⟨c, hc1, hc2, _⟩ := hl2 j p hj
    obtain ⟨_, hlen2, hcell⟩ := World.cells?_some hc1
    refine ⟨c, by rw [h.sz]; exact hlen2, hc2, fun i u hu => ?_⟩
    have hi : i < P.cellsOf e := by
      have := (List.getElem?_eq_some_iff.1 hu).1
      omega
    have := hcell i hi
    rw [hu, ← Deep.add_add, h.sz] at *
    exact this
  · exact Nat.le_trans hl hm
  · have h2 : l.length * P.bytesOf e ≤ (elems.length + rest.length) * P.bytesOf e := Nat.mul_le_mul_right _ (by omega)
    exact Nat.le_trans h2 hw1
  · intro x hx
    obtain ⟨j, hj⟩ := List.getElem?_of_mem hx
    obtain ⟨c, _, _, ho⟩ := hl2 j x hj
    exact ho
structure OpensF (P : Program) (fs : List Field) (off : Nat) {α : Type} (d : Kd α) (Ok : α → Prop) : Prop where
  opens : ∀ {H : Type} {enc : TypeId × Value → H} {w : World} {base : Nat} {spare : Nat → Bool} {held : Bool} {n : Nat} {cs : List Value} {xs : List (DataW H × List MemPlace)},
    xs.length = fs.length → (∀ (i : Nat) (f : Field), fs[i]? = some f → DataW.trod enc P w base spare held n f.type ((cs.drop f.offset).take (P.cellsOf f.type)) = xs[i]?) →
    (∀ m ∈ DataW.weightsEach P (fs.map (·.type)) (xs.map (·.1)), m ≤ reachBytes) → ∃ v, d.K w v ((cs.drop off).take d.sz) ∧ Ok v
theorem opensF_one {P : Program} {f : Field} {off : Nat} {α : Type} {d : Kd α} {Ok : α → Prop} (h : Opens P f.type d Ok) (ho : f.offset = off) : OpensF P [f] off d Ok := by
  refine ⟨fun {H enc w base spare held n cs xs} hl hx hw => ?_⟩
  match xs, hl with
  | [x], _ =>
    have h1 := hx 0 f rfl
    obtain ⟨v, hv, hok⟩ := h.opens h1 (fun n hn => hw n (by simpa [DataW.weightsEach] using hn))
    refine ⟨v, ?_, hok⟩
    rw [h.sz, ← ho]
    exact hv
theorem opensF_cons {P : Program} {f : Field} {fs : List Field} {off : Nat} {α β : Type} {d : Kd α} {d' : Kd β} {Ok : α → Prop} {Ok' : β → Prop} (h : Opens P f.type d Ok) (ho : f.offset = off) (h' : OpensF P fs (off + d.sz) d' Ok') :
    OpensF P (f :: fs) off (Kd.pair d d') (fun p => Ok p.1 ∧ Ok' p.2) := by
  refine ⟨fun {H enc w base spare held n cs xs} hl hx hw => ?_⟩
  match xs, hl with
  | x :: xs, hl =>
    have h1 := hx 0 f rfl
    obtain ⟨v, hv, hok⟩ := h.opens h1 (fun n hn => hw n (by
      simp only [List.map_cons, DataW.weightsEach, List.mem_append]; exact Or.inl hn))
    obtain ⟨v', hv', hok'⟩ := h'.opens (cs := cs) (xs := xs) (by simpa using hl) (fun i g hg => by
      have := hx (i + 1) g (by simpa using hg)
      simpa using this) (fun m hm => hw m (by simp only [List.map_cons, DataW.weightsEach, List.mem_append]; exact Or.inr hm))
    refine ⟨(v, v'), ⟨(cs.drop off).take d.sz, (cs.drop (off + d.sz)).take d'.sz, ?_, ?_, hv'⟩, hok, hok'⟩
    · show (cs.drop off).take (d.sz + d'.sz) = _
      rw [List.take_add, List.drop_drop]
    · rw [h.sz, ← ho]; exact hv
theorem opens_struct {P : Program} {t : TypeId} {fs : Array Field} {α β : Type} {d : Kd α} {Ok : α → Prop} (h : OpensF P fs.toList 0 d Ok) (ht : P.underlying t = some (.struct fs)) (hc : d.sz = P.cellsOf t) (f : β → α) (mk : α → β) (hf : ∀ a, f (mk a) = a) :
    Opens P t (Kd.iso d f) (fun b => Ok (f b)) := by
  refine ⟨hc, fun {H enc w base spare held fuel cs x} hx hw => ?_⟩
  obtain ⟨xs, n, _, rfl, hlen, hsz, hall⟩ := DataW.trod_struct ht hx
  simp only [DataW.weights, ht] at hw
  obtain ⟨v, hv, hok⟩ := h.opens (cs := cs) (xs := xs) (by simpa using hsz) (fun i f hf => hall i f (by simpa using hf)) hw
  refine ⟨mk v, ?_, by rw [hf]; exact hok⟩
  show d.K w (f (mk v)) cs
  rw [hf]
  rw [List.drop_zero, hc, ← hlen, List.take_length] at hv
  exact hv
theorem opens_imp {P : Program} {t : TypeId} {α : Type} {d : Kd α} {Ok Ok' : α → Prop} (h : Opens P t d Ok) (hi : ∀ v, Ok v → Ok' v) : Opens P t d Ok' :=
  ⟨h.sz, fun hx hw => let ⟨v, hv, ho⟩ := h.opens hx hw; ⟨v, hv, hi v ho⟩⟩
end Go.Proofs.YtliooghmpkdmoaaGreatDoor.Opn
end
section
namespace Go.Proofs.YtliooghmpkdmoaaGreatDoor.X
open Go.RowKit Go.Proofs.YtliooghmpkdmoaaGreatDoorW.PrintWords Go.Proofs.YtliooghmpkdmoaaGreatDoorW.PrintLast Go.Proofs.YtliooghmpkdmoaaGreatDoorW.PrintMore
attribute [local go_sem] max2_int min2_int max_two min_two max_three min_three max_four min_four
set_option linter.unusedVariables false
set_option linter.unusedSimpArgs false
def ok110 (v : S110) : Prop := v.f0.size ≤ 140737488351232 ∧ ((Lit.int .i64 v.f1).wf = true)
theorem opens110 : Opn.Opens Tryz.prog 110 k110 ok110 := by
  have hu := Tryz.underlying110
  refine Opn.opens_imp (Opn.opens_struct (Ok := fun (p : ByteArray × (Int)) => p.1.size ≤ 140737488351232 ∧ ((Lit.int .i64 p.2).wf = true)) ?hF hu (by kernel_rfl) (fun x : S110 => (x.f0, x.f1)) (fun a => ⟨a.1, a.2⟩) (fun _ => rfl)) ?hI
  case hF =>
    refine Opn.opensF_cons (Ok := fun (p : ByteArray) => p.size ≤ 140737488351232) (Ok' := fun (p : Int) => (Lit.int .i64 p).wf = true) (h := ?_) (ho := ?_) (h' := ?_)
    · exact Opn.opens_string Tryz.underlying9 (by kernel_rfl)
    · rfl
    · skip
      refine Opn.opensF_one (Ok := fun (p : Int) => (Lit.int .i64 p).wf = true) (h := ?_) (ho := ?_)
      · exact Opn.opens_int Tryz.underlying3 (by kernel_rfl)
      · rfl
  case hI => exact fun v h => h
def ok107 (v : S107) : Prop := v.f0.size ≤ 140737488351232 ∧ ((Lit.int .i64 v.f1).wf = true ∧ ((v.f2.length ≤ maxLen ∧ v.f2.length * 24 ≤ 140737488351232 ∧ ∀ x ∈ v.f2, ok110 x)))
theorem opens107 : Opn.Opens Tryz.prog 107 k107 ok107 := by
  have hu := Tryz.underlying107
  refine Opn.opens_imp (Opn.opens_struct (Ok := fun (p : ByteArray × (Int × (List (S110)))) => p.1.size ≤ 140737488351232 ∧ ((Lit.int .i64 p.2.1).wf = true ∧ ((p.2.2.length ≤ maxLen ∧ p.2.2.length * 24 ≤ 140737488351232 ∧ ∀ x ∈ p.2.2, ok110 x)))) ?hF hu (by kernel_rfl) (fun x : S107 => (x.f0, x.f1, x.f2)) (fun a => ⟨a.1, a.2.1, a.2.2⟩) (fun _ => rfl)) ?hI
  case hF =>
    refine Opn.opensF_cons (Ok := fun (p : ByteArray) => p.size ≤ 140737488351232) (Ok' := fun (p : Int × (List (S110))) => (Lit.int .i64 p.1).wf = true ∧ ((p.2.length ≤ maxLen ∧ p.2.length * 24 ≤ 140737488351232 ∧ ∀ x ∈ p.2, ok110 x))) (h := ?_) (ho := ?_) (h' := ?_)
    · exact Opn.opens_string Tryz.underlying9 (by kernel_rfl)
    · rfl
    · skip
      refine Opn.opensF_cons (Ok := fun (p : Int) => (Lit.int .i64 p).wf = true) (Ok' := fun (p : List (S110)) => (p.length ≤ maxLen ∧ p.length * 24 ≤ 140737488351232 ∧ ∀ x ∈ p, ok110 x)) (h := ?_) (ho := ?_) (h' := ?_)
      · exact Opn.opens_int Tryz.underlying3 (by kernel_rfl)
      · rfl
      · skip
        refine Opn.opensF_one (Ok := fun (p : List (S110)) => (p.length ≤ maxLen ∧ p.length * 24 ≤ 140737488351232 ∧ ∀ x ∈ p, ok110 x)) (h := ?_) (ho := ?_)
        · exact Opn.opens_slice (opens110) Tryz.underlying105 (by kernel_rfl) (B := 24) (by kernel_rfl)
        · rfl
  case hI => exact fun v h => h
def ok26 (v : S26) : Prop := v.f0.size ≤ 140737488351232 ∧ ((Lit.int .i64 v.f1).wf = true ∧ ((Lit.int .i64 v.f2).wf = true ∧ ((Lit.int .i64 v.f3).wf = true)))
theorem opens26 : Opn.Opens Tryz.prog 26 k26 ok26 := by
  have hu := Tryz.underlying26
  refine Opn.opens_imp (Opn.opens_struct (Ok := fun (p : ByteArray × (Int × (Int × (Int)))) => p.1.size ≤ 140737488351232 ∧ ((Lit.int .i64 p.2.1).wf = true ∧ ((Lit.int .i64 p.2.2.1).wf = true ∧ ((Lit.int .i64 p.2.2.2).wf = true)))) ?hF hu (by kernel_rfl) (fun x : S26 => (x.f0, x.f1, x.f2, x.f3)) (fun a => ⟨a.1, a.2.1, a.2.2.1, a.2.2.2⟩) (fun _ => rfl)) ?hI
  case hF =>
    refine Opn.opensF_cons (Ok := fun (p : ByteArray) => p.size ≤ 140737488351232) (Ok' := fun (p : Int × (Int × (Int))) => (Lit.int .i64 p.1).wf = true ∧ ((Lit.int .i64 p.2.1).wf = true ∧ ((Lit.int .i64 p.2.2).wf = true))) (h := ?_) (ho := ?_) (h' := ?_)
    · exact Opn.opens_string Tryz.underlying9 (by kernel_rfl)
    · rfl
    · skip
      refine Opn.opensF_cons (Ok := fun (p : Int) => (Lit.int .i64 p).wf = true) (Ok' := fun (p : Int × (Int)) => (Lit.int .i64 p.1).wf = true ∧ ((Lit.int .i64 p.2).wf = true)) (h := ?_) (ho := ?_) (h' := ?_)
      · exact Opn.opens_int Tryz.underlying3 (by kernel_rfl)
      · rfl
      · skip
        refine Opn.opensF_cons (Ok := fun (p : Int) => (Lit.int .i64 p).wf = true) (Ok' := fun (p : Int) => (Lit.int .i64 p).wf = true) (h := ?_) (ho := ?_) (h' := ?_)
        · exact Opn.opens_int Tryz.underlying3 (by kernel_rfl)
        · rfl
        · skip
          refine Opn.opensF_one (Ok := fun (p : Int) => (Lit.int .i64 p).wf = true) (h := ?_) (ho := ?_)
          · exact Opn.opens_int Tryz.underlying3 (by kernel_rfl)
          · rfl
  case hI => exact fun v h => h
def ok28 (v : S28) : Prop := v.f0.size ≤ 140737488351232 ∧ (v.f1.size ≤ 140737488351232)
theorem opens28 : Opn.Opens Tryz.prog 28 k28 ok28 := by
  have hu := Tryz.underlying28
  refine Opn.opens_imp (Opn.opens_struct (Ok := fun (p : ByteArray × (ByteArray)) => p.1.size ≤ 140737488351232 ∧ (p.2.size ≤ 140737488351232)) ?hF hu (by kernel_rfl) (fun x : S28 => (x.f0, x.f1)) (fun a => ⟨a.1, a.2⟩) (fun _ => rfl)) ?hI
  case hF =>
    refine Opn.opensF_cons (Ok := fun (p : ByteArray) => p.size ≤ 140737488351232) (Ok' := fun (p : ByteArray) => p.size ≤ 140737488351232) (h := ?_) (ho := ?_) (h' := ?_)
    · exact Opn.opens_string Tryz.underlying9 (by kernel_rfl)
    · rfl
    · skip
      refine Opn.opensF_one (Ok := fun (p : ByteArray) => p.size ≤ 140737488351232) (h := ?_) (ho := ?_)
      · exact Opn.opens_string Tryz.underlying9 (by kernel_rfl)
      · rfl
  case hI => exact fun v h => h
def ok30 (v : S30) : Prop := (Lit.int .i64 v.f0).wf = true ∧ ((Lit.int .i64 v.f1).wf = true ∧ ((Lit.int .i64 v.f2).wf = true ∧ (ok26 v.f3 ∧ ((Lit.int .i64 v.f4).wf = true ∧ ((Lit.int .i64 v.f5).wf = true ∧ (ok28 v.f6 ∧ (ok28 v.f7)))))))
theorem opens30 : Opn.Opens Tryz.prog 30 k30 ok30 := by
  have hu := Tryz.underlying30
  refine Opn.opens_imp (Opn.opens_struct (Ok := fun (p : Int × (Int × (Int × (S26 × (Int × (Int × (S28 × (S28)))))))) => (Lit.int .i64 p.1).wf = true ∧ ((Lit.int .i64 p.2.1).wf = true ∧ ((Lit.int .i64 p.2.2.1).wf = true ∧ (ok26 p.2.2.2.1 ∧ ((Lit.int .i64 p.2.2.2.2.1).wf = true ∧ ((Lit.int .i64 p.2.2.2.2.2.1).wf = true ∧ (ok28 p.2.2.2.2.2.2.1 ∧ (ok28 p.2.2.2.2.2.2.2)))))))) ?hF hu (by kernel_rfl) (fun x : S30 => (x.f0, x.f1, x.f2, x.f3, x.f4, x.f5, x.f6, x.f7)) (fun a => ⟨a.1, a.2.1, a.2.2.1, a.2.2.2.1, a.2.2.2.2.1, a.2.2.2.2.2.1, a.2.2.2.2.2.2.1, a.2.2.2.2.2.2.2⟩) (fun _ => rfl)) ?hI
  case hF =>
    refine Opn.opensF_cons (Ok := fun (p : Int) => (Lit.int .i64 p).wf = true) (Ok' := fun (p : Int × (Int × (S26 × (Int × (Int × (S28 × (S28))))))) => (Lit.int .i64 p.1).wf = true ∧ ((Lit.int .i64 p.2.1).wf = true ∧ (ok26 p.2.2.1 ∧ ((Lit.int .i64 p.2.2.2.1).wf = true ∧ ((Lit.int .i64 p.2.2.2.2.1).wf = true ∧ (ok28 p.2.2.2.2.2.1 ∧ (ok28 p.2.2.2.2.2.2))))))) (h := ?_) (ho := ?_) (h' := ?_)
    · exact Opn.opens_int Tryz.underlying3 (by kernel_rfl)
    · rfl
    · skip
      refine Opn.opensF_cons (Ok := fun (p : Int) => (Lit.int .i64 p).wf = true) (Ok' := fun (p : Int × (S26 × (Int × (Int × (S28 × (S28)))))) => (Lit.int .i64 p.1).wf = true ∧ (ok26 p.2.1 ∧ ((Lit.int .i64 p.2.2.1).wf = true ∧ ((Lit.int .i64 p.2.2.2.1).wf = true ∧ (ok28 p.2.2.2.2.1 ∧ (ok28 p.2.2.2.2.2)))))) (h := ?_) (ho := ?_) (h' := ?_)
      · exact Opn.opens_int Tryz.underlying3 (by kernel_rfl)
      · rfl
      · skip
        refine Opn.opensF_cons (Ok := fun (p : Int) => (Lit.int .i64 p).wf = true) (Ok' := fun (p : S26 × (Int × (Int × (S28 × (S28))))) => ok26 p.1 ∧ ((Lit.int .i64 p.2.1).wf = true ∧ ((Lit.int .i64 p.2.2.1).wf = true ∧ (ok28 p.2.2.2.1 ∧ (ok28 p.2.2.2.2))))) (h := ?_) (ho := ?_) (h' := ?_)
        · exact Opn.opens_int Tryz.underlying3 (by kernel_rfl)
        · rfl
        · skip
          refine Opn.opensF_cons (Ok := fun (p : S26) => ok26 p) (Ok' := fun (p : Int × (Int × (S28 × (S28)))) => (Lit.int .i64 p.1).wf = true ∧ ((Lit.int .i64 p.2.1).wf = true ∧ (ok28 p.2.2.1 ∧ (ok28 p.2.2.2)))) (h := ?_) (ho := ?_) (h' := ?_)
          · exact opens26
          · rfl
          · skip
            refine Opn.opensF_cons (Ok := fun (p : Int) => (Lit.int .i64 p).wf = true) (Ok' := fun (p : Int × (S28 × (S28))) => (Lit.int .i64 p.1).wf = true ∧ (ok28 p.2.1 ∧ (ok28 p.2.2))) (h := ?_) (ho := ?_) (h' := ?_)
            · exact Opn.opens_int Tryz.underlying3 (by kernel_rfl)
            · rfl
            · skip
              refine Opn.opensF_cons (Ok := fun (p : Int) => (Lit.int .i64 p).wf = true) (Ok' := fun (p : S28 × (S28)) => ok28 p.1 ∧ (ok28 p.2)) (h := ?_) (ho := ?_) (h' := ?_)
              · exact Opn.opens_int Tryz.underlying3 (by kernel_rfl)
              · rfl
              · skip
                refine Opn.opensF_cons (Ok := fun (p : S28) => ok28 p) (Ok' := fun (p : S28) => ok28 p) (h := ?_) (ho := ?_) (h' := ?_)
                · exact opens28
                · rfl
                · skip
                  refine Opn.opensF_one (Ok := fun (p : S28) => ok28 p) (h := ?_) (ho := ?_)
                  · exact opens28
                  · rfl
  case hI => exact fun v h => h
def ok50 (v : S50) : Prop := v.f0.size ≤ 140737488351232 ∧ ((Lit.int .i64 v.f1).wf = true ∧ ((Lit.int .i64 v.f2).wf = true ∧ ((Lit.int .i64 v.f3).wf = true ∧ ((Lit.int .i64 v.f4).wf = true ∧ ((Lit.int .i64 v.f5).wf = true ∧ (True))))))
theorem opens50 : Opn.Opens Tryz.prog 50 k50 ok50 := by
  have hu := Tryz.underlying50
  refine Opn.opens_imp (Opn.opens_struct (Ok := fun (p : ByteArray × (Int × (Int × (Int × (Int × (Int × (Bool))))))) => p.1.size ≤ 140737488351232 ∧ ((Lit.int .i64 p.2.1).wf = true ∧ ((Lit.int .i64 p.2.2.1).wf = true ∧ ((Lit.int .i64 p.2.2.2.1).wf = true ∧ ((Lit.int .i64 p.2.2.2.2.1).wf = true ∧ ((Lit.int .i64 p.2.2.2.2.2.1).wf = true ∧ (True))))))) ?hF hu (by kernel_rfl) (fun x : S50 => (x.f0, x.f1, x.f2, x.f3, x.f4, x.f5, x.f6)) (fun a => ⟨a.1, a.2.1, a.2.2.1, a.2.2.2.1, a.2.2.2.2.1, a.2.2.2.2.2.1, a.2.2.2.2.2.2⟩) (fun _ => rfl)) ?hI
  case hF =>
    refine Opn.opensF_cons (Ok := fun (p : ByteArray) => p.size ≤ 140737488351232) (Ok' := fun (p : Int × (Int × (Int × (Int × (Int × (Bool)))))) => (Lit.int .i64 p.1).wf = true ∧ ((Lit.int .i64 p.2.1).wf = true ∧ ((Lit.int .i64 p.2.2.1).wf = true ∧ ((Lit.int .i64 p.2.2.2.1).wf = true ∧ ((Lit.int .i64 p.2.2.2.2.1).wf = true ∧ (True)))))) (h := ?_) (ho := ?_) (h' := ?_)
    · exact Opn.opens_string Tryz.underlying9 (by kernel_rfl)
    · rfl
    · skip
      refine Opn.opensF_cons (Ok := fun (p : Int) => (Lit.int .i64 p).wf = true) (Ok' := fun (p : Int × (Int × (Int × (Int × (Bool))))) => (Lit.int .i64 p.1).wf = true ∧ ((Lit.int .i64 p.2.1).wf = true ∧ ((Lit.int .i64 p.2.2.1).wf = true ∧ ((Lit.int .i64 p.2.2.2.1).wf = true ∧ (True))))) (h := ?_) (ho := ?_) (h' := ?_)
      · exact Opn.opens_int Tryz.underlying3 (by kernel_rfl)
      · rfl
      · skip
        refine Opn.opensF_cons (Ok := fun (p : Int) => (Lit.int .i64 p).wf = true) (Ok' := fun (p : Int × (Int × (Int × (Bool)))) => (Lit.int .i64 p.1).wf = true ∧ ((Lit.int .i64 p.2.1).wf = true ∧ ((Lit.int .i64 p.2.2.1).wf = true ∧ (True)))) (h := ?_) (ho := ?_) (h' := ?_)
        · exact Opn.opens_int Tryz.underlying3 (by kernel_rfl)
        · rfl
        · skip
          refine Opn.opensF_cons (Ok := fun (p : Int) => (Lit.int .i64 p).wf = true) (Ok' := fun (p : Int × (Int × (Bool))) => (Lit.int .i64 p.1).wf = true ∧ ((Lit.int .i64 p.2.1).wf = true ∧ (True))) (h := ?_) (ho := ?_) (h' := ?_)
          · exact Opn.opens_int Tryz.underlying3 (by kernel_rfl)
          · rfl
          · skip
            refine Opn.opensF_cons (Ok := fun (p : Int) => (Lit.int .i64 p).wf = true) (Ok' := fun (p : Int × (Bool)) => (Lit.int .i64 p.1).wf = true ∧ (True)) (h := ?_) (ho := ?_) (h' := ?_)
            · exact Opn.opens_int Tryz.underlying3 (by kernel_rfl)
            · rfl
            · skip
              refine Opn.opensF_cons (Ok := fun (p : Int) => (Lit.int .i64 p).wf = true) (Ok' := fun (p : Bool) => True) (h := ?_) (ho := ?_) (h' := ?_)
              · exact Opn.opens_int Tryz.underlying3 (by kernel_rfl)
              · rfl
              · skip
                refine Opn.opensF_one (Ok := fun (p : Bool) => True) (h := ?_) (ho := ?_)
                · exact Opn.opens_bool Tryz.underlying4 (by kernel_rfl)
                · rfl
  case hI => exact fun v h => h
def ok32 (v : S32) : Prop := (v.f0.length ≤ maxLen ∧ v.f0.length * 8 ≤ 140737488351232 ∧ ∀ x ∈ v.f0, (Lit.int .i64 x).wf = true) ∧ ((Lit.int .i64 v.f1).wf = true ∧ ((Lit.int .i64 v.f2).wf = true ∧ ((Lit.int .i64 v.f3).wf = true ∧ ((v.f4.length ≤ maxLen ∧ v.f4.length * 64 ≤ 140737488351232 ∧ ∀ x ∈ v.f4, ok50 x) ∧ ((v.f5.length ≤ maxLen ∧ v.f5.length * 48 ≤ 140737488351232 ∧ ∀ x ∈ v.f5, ok107 x) ∧ (ok30 v.f6))))))
theorem opens32 : Opn.Opens Tryz.prog 32 k32 ok32 := by
  have hu := Tryz.underlying32
  refine Opn.opens_imp (Opn.opens_struct (Ok := fun (p : List Int × (Int × (Int × (Int × (List (S50) × (List (S107) × (S30))))))) => (p.1.length ≤ maxLen ∧ p.1.length * 8 ≤ 140737488351232 ∧ ∀ x ∈ p.1, (Lit.int .i64 x).wf = true) ∧ ((Lit.int .i64 p.2.1).wf = true ∧ ((Lit.int .i64 p.2.2.1).wf = true ∧ ((Lit.int .i64 p.2.2.2.1).wf = true ∧ ((p.2.2.2.2.1.length ≤ maxLen ∧ p.2.2.2.2.1.length * 64 ≤ 140737488351232 ∧ ∀ x ∈ p.2.2.2.2.1, ok50 x) ∧ ((p.2.2.2.2.2.1.length ≤ maxLen ∧ p.2.2.2.2.2.1.length * 48 ≤ 140737488351232 ∧ ∀ x ∈ p.2.2.2.2.2.1, ok107 x) ∧ (ok30 p.2.2.2.2.2.2))))))) ?hF hu (by kernel_rfl) (fun x : S32 => (x.f0, x.f1, x.f2, x.f3, x.f4, x.f5, x.f6)) (fun a => ⟨a.1, a.2.1, a.2.2.1, a.2.2.2.1, a.2.2.2.2.1, a.2.2.2.2.2.1, a.2.2.2.2.2.2⟩) (fun _ => rfl)) ?hI
  case hF =>
    refine Opn.opensF_cons (Ok := fun (p : List Int) => (p.length ≤ maxLen ∧ p.length * 8 ≤ 140737488351232 ∧ ∀ x ∈ p, (Lit.int .i64 x).wf = true)) (Ok' := fun (p : Int × (Int × (Int × (List (S50) × (List (S107) × (S30)))))) => (Lit.int .i64 p.1).wf = true ∧ ((Lit.int .i64 p.2.1).wf = true ∧ ((Lit.int .i64 p.2.2.1).wf = true ∧ ((p.2.2.2.1.length ≤ maxLen ∧ p.2.2.2.1.length * 64 ≤ 140737488351232 ∧ ∀ x ∈ p.2.2.2.1, ok50 x) ∧ ((p.2.2.2.2.1.length ≤ maxLen ∧ p.2.2.2.2.1.length * 48 ≤ 140737488351232 ∧ ∀ x ∈ p.2.2.2.2.1, ok107 x) ∧ (ok30 p.2.2.2.2.2)))))) (h := ?_) (ho := ?_) (h' := ?_)
    · exact Opn.opens_slice (Opn.opens_int Tryz.underlying3 (by kernel_rfl)) Tryz.underlying22 (by kernel_rfl) (B := 8) (by kernel_rfl)
    · rfl
    · skip
      refine Opn.opensF_cons (Ok := fun (p : Int) => (Lit.int .i64 p).wf = true) (Ok' := fun (p : Int × (Int × (List (S50) × (List (S107) × (S30))))) => (Lit.int .i64 p.1).wf = true ∧ ((Lit.int .i64 p.2.1).wf = true ∧ ((p.2.2.1.length ≤ maxLen ∧ p.2.2.1.length * 64 ≤ 140737488351232 ∧ ∀ x ∈ p.2.2.1, ok50 x) ∧ ((p.2.2.2.1.length ≤ maxLen ∧ p.2.2.2.1.length * 48 ≤ 140737488351232 ∧ ∀ x ∈ p.2.2.2.1, ok107 x) ∧ (ok30 p.2.2.2.2))))) (h := ?_) (ho := ?_) (h' := ?_)
      · exact Opn.opens_int Tryz.underlying3 (by kernel_rfl)
      · rfl
      · skip
        refine Opn.opensF_cons (Ok := fun (p : Int) => (Lit.int .i64 p).wf = true) (Ok' := fun (p : Int × (List (S50) × (List (S107) × (S30)))) => (Lit.int .i64 p.1).wf = true ∧ ((p.2.1.length ≤ maxLen ∧ p.2.1.length * 64 ≤ 140737488351232 ∧ ∀ x ∈ p.2.1, ok50 x) ∧ ((p.2.2.1.length ≤ maxLen ∧ p.2.2.1.length * 48 ≤ 140737488351232 ∧ ∀ x ∈ p.2.2.1, ok107 x) ∧ (ok30 p.2.2.2)))) (h := ?_) (ho := ?_) (h' := ?_)
        · exact Opn.opens_int Tryz.underlying3 (by kernel_rfl)
        · rfl
        · skip
          refine Opn.opensF_cons (Ok := fun (p : Int) => (Lit.int .i64 p).wf = true) (Ok' := fun (p : List (S50) × (List (S107) × (S30))) => (p.1.length ≤ maxLen ∧ p.1.length * 64 ≤ 140737488351232 ∧ ∀ x ∈ p.1, ok50 x) ∧ ((p.2.1.length ≤ maxLen ∧ p.2.1.length * 48 ≤ 140737488351232 ∧ ∀ x ∈ p.2.1, ok107 x) ∧ (ok30 p.2.2))) (h := ?_) (ho := ?_) (h' := ?_)
          · exact Opn.opens_int Tryz.underlying3 (by kernel_rfl)
          · rfl
          · skip
            refine Opn.opensF_cons (Ok := fun (p : List (S50)) => (p.length ≤ maxLen ∧ p.length * 64 ≤ 140737488351232 ∧ ∀ x ∈ p, ok50 x)) (Ok' := fun (p : List (S107) × (S30)) => (p.1.length ≤ maxLen ∧ p.1.length * 48 ≤ 140737488351232 ∧ ∀ x ∈ p.1, ok107 x) ∧ (ok30 p.2)) (h := ?_) (ho := ?_) (h' := ?_)
            · exact Opn.opens_slice (opens50) Tryz.underlying23 (by kernel_rfl) (B := 64) (by kernel_rfl)
            · rfl
            · skip
              refine Opn.opensF_cons (Ok := fun (p : List (S107)) => (p.length ≤ maxLen ∧ p.length * 48 ≤ 140737488351232 ∧ ∀ x ∈ p, ok107 x)) (Ok' := fun (p : S30) => ok30 p) (h := ?_) (ho := ?_) (h' := ?_)
              · exact Opn.opens_slice (opens107) Tryz.underlying24 (by kernel_rfl) (B := 48) (by kernel_rfl)
              · rfl
              · skip
                refine Opn.opensF_one (Ok := fun (p : S30) => ok30 p) (h := ?_) (ho := ?_)
                · exact opens30
                · rfl
  case hI => exact fun v h => h
end Go.Proofs.YtliooghmpkdmoaaGreatDoor.X
end
section
namespace Go.Proofs.YtliooghmpkdmoaaGreatDoor.P
open Go.RowKit Go.Proofs.YtliooghmpkdmoaaGreatDoorW.PrintWords Go.Proofs.YtliooghmpkdmoaaGreatDoorW.PrintMore Go.Proofs.YtliooghmpkdmoaaGreatDoor.X
theorem Ev_succ {α : Type} {g : Nat → Option α} {r : α} (h : Ev (fun k => g (k + 1)) r) : Ev g r := Ev.step (fun _ => rfl) h
theorem Ev_bind {α β : Type} {g : Nat → Option α} {f : Nat → α → Option β} {a : α} {r : β} (h : Ev g a) (k : Ev (fun n => f n a) r) : Ev (fun n => (g n).bind (f n)) r := Ev.bind h k
theorem Ev_id {α : Type} {g : Nat → Option α} {r : α} (h : Ev g r) : Ev (fun n => (g n).bind fun x => some x) r := Ev.bind h (Ev.now _)
theorem w_id {x : Int} (h1 : -9223372036854775808 ≤ x) (h2 : x ≤ 9223372036854775807) : wrap64 x = x := by unfold wrap64; omega
theorem w_succ {i n : Nat} (h : i < n) (hn : n ≤ 9223372036854775807) : wrap64 ((i : Int) + 1) = ((i + 1 : Nat) : Int) := by rw [w_id (by omega) (by omega)]; omega
theorem w_pred {i : Nat} (h : 0 < i) (hn : i ≤ 9223372036854775807) : wrap64 ((i : Int) - 1) = ((i - 1 : Nat) : Int) := by rw [w_id (by omega) (by omega)]; omega
end Go.Proofs.YtliooghmpkdmoaaGreatDoor.P
end
section
namespace Go.Proofs.YtliooghmpkdmoaaGreatDoor.P
set_option linter.unusedVariables false
set_option linter.unusedSimpArgs false
open Go.RowKit Go.Proofs.YtliooghmpkdmoaaGreatDoorW.PrintWords Go.Proofs.YtliooghmpkdmoaaGreatDoorW.PrintMore Go.Proofs.YtliooghmpkdmoaaGreatDoor.X
def letterB (n : Int) : Bool := decide (97 ≤ n) && decide (n ≤ 122)
def digitB (n : Int) : Bool := decide (48 ≤ n) && decide (n ≤ 57)
theorem letter_f (n : Int) : words_letter.f n = some (letterB n) := by
  unfold words_letter.f letterB
  by_cases h : 97 ≤ n
  · rw [if_pos h, decide_eq_true h, Bool.true_and]
  · rw [if_neg h, decide_eq_false h, Bool.false_and]
theorem digit_f (n : Int) : words_digit.f n = some (digitB n) := by
  unfold words_digit.f digitB
  by_cases h : 48 ≤ n
  · rw [if_pos h, decide_eq_true h, Bool.true_and]
  · rw [if_neg h, decide_eq_false h, Bool.false_and]
def chB (s : ByteArray) (i : Nat) : Bool := letterB (bt s (i : Int)) || (!(i == 0) && digitB (bt s (i : Int)))
def nameFrom (s : ByteArray) : Nat → Nat → Bool
  | 0, _ => true
  | d + 1, i => chB s i && nameFrom s d (i + 1)
def nameB (s : ByteArray) : Bool := decide (0 < s.size) && decide (s.size ≤ 12) && nameFrom s s.size 0
theorem nameLoop (s : ByteArray) (hs : s.size ≤ 12) (h0 : letterB (bt s 0) = true) : ∀ (d i : Nat), i + d = s.size → Ev (fun k => words_Name.l0 k s s.size i) (nameFrom s d i)
  | 0, i, hd => by
    refine Ev_succ ?_
    simp only [words_Name.l0, if_neg (show ¬ ((i : Int) < (s.size : Int)) by omega)]
    exact Ev.now _
  | d + 1, i, hd => by
    have hi : i < s.size := by omega
    have ih := nameLoop s hs h0 d (i + 1) (by omega)
    refine Ev_succ ?_
    simp only [words_Name.l0, if_pos (show (i : Int) < (s.size : Int) by omega), if_pos (show 0 ≤ (i : Int) by omega), letter_f, digit_f, Option.bind_some, w_succ hi (by omega), nameFrom, chB]
    cases h1 : letterB (bt s (i : Int)) with
    | true => simp only [if_true, Bool.true_or, Bool.true_and]; exact ih
    | false =>
      simp only [Bool.false_eq_true, if_false, Bool.false_or]
      have hi0 : (i == 0) = false := by
        rw [← Bool.not_eq_true, beq_iff_eq]
        rintro rfl
        rw [show ((0 : Nat) : Int) = 0 from rfl, h0] at h1
        cases h1
      simp only [hi0, Bool.not_false, Bool.true_and]
      cases h2 : digitB (bt s (i : Int)) with
      | true => simp only [if_true, Bool.true_and]; exact ih
      | false => simp only [Bool.false_eq_true, if_false, Bool.false_and]; exact Ev.now _
theorem name_f (s : ByteArray) : Ev (fun k => words_Name.f k s) (nameB s) := by
  have hj : nameB s = false → Ev (fun k => words_Name.j0 k s true) (nameB s) := by
    intro h
    rw [h]
    refine Ev_succ ?_
    simp only [words_Name.j0, if_true]
    exact Ev.now _
  unfold words_Name.f
  by_cases c0 : s.toList = []
  · simp only [if_pos c0]
    refine hj ?_
    have : s.size = 0 := by
      have e : s.toList = s.data.toList := ByteArray.toList_eq s
      rw [e] at c0
      have := congrArg List.length c0
      simpa using this
    simp [nameB, this]
  · simp only [if_neg c0]
    by_cases c1 : (s.size : Int) > 12
    · simp only [if_pos c1]
      exact hj (by simp [nameB]; omega)
    · have hp : 0 < s.size := by
        rcases Nat.eq_zero_or_pos s.size with h | h
        · exfalso
          apply c0
          have e : s.toList = s.data.toList := ByteArray.toList_eq s
          rw [e]
          exact List.length_eq_zero_iff.1 (by simpa using h)
        · exact h
      simp only [if_neg c1, if_pos (show 0 < (s.size : Int) by omega), letter_f, Option.bind_some]
      have hn : nameB s = nameFrom s s.size 0 := by
        unfold nameB
        rw [decide_eq_true hp, decide_eq_true (show s.size ≤ 12 by omega)]
        simp
      cases h1 : letterB (bt s 0) with
      | false =>
        refine hj ?_
        rw [hn]
        obtain ⟨d, hd⟩ : ∃ d, s.size = d + 1 := ⟨s.size - 1, by omega⟩
        rw [hd]
        simp [nameFrom, chB, h1]
      | true =>
        refine Ev_succ ?_
        simp only [words_Name.j0, Bool.not_true, Bool.false_eq_true, if_false]
        rw [hn]
        exact nameLoop s (by omega) h1 s.size 0 (by omega)
abbrev Mem := S107
abbrev Act11 := S110
theorem rdM (l : List Mem) (i : Nat) (h : i < l.length) : rd_T107 l (i : Int) = l[i] := by simp [rd_T107, h]
theorem rdA (l : List Act11) (i : Nat) (h : i < l.length) : rd_T110 l (i : Int) = l[i] := by simp [rd_T110, h]
def fndM (q : ByteArray) : List Mem → Mem × Bool
  | [] => (z107, false)
  | x :: r => if x.f0.toList = q.toList then (x, true) else fndM q r
def fndA (q : ByteArray) : List Act11 → ByteArray × Int × Bool
  | [] => ((⟨#[]⟩ : ByteArray), 0, false)
  | x :: r => if x.f0.toList = q.toList then (x.f0, x.f1, true) else fndA q r
theorem idxM_fnd (q : ByteArray) : ∀ (l : List Mem) (i : Nat), (idxM (fun t => t.f0.toList == q.toList) l (i : Int) = -1 ∧ fndM q l = (z107, false)) ∨ ∃ j : Nat, ∃ h : j < l.length, idxM (fun t => t.f0.toList == q.toList) l (i : Int) = ((i + j : Nat) : Int) ∧ fndM q l = (l[j], true)
  | [], i => Or.inl ⟨rfl, rfl⟩
  | x :: r, i => by
    unfold idxM fndM
    by_cases c : x.f0.toList = q.toList
    · rw [if_pos (by simpa using c), if_pos c]
      exact Or.inr ⟨0, by simp, by simp, rfl⟩
    · rw [if_neg (by simpa using c), if_neg c, show (i : Int) + 1 = ((i + 1 : Nat) : Int) by omega]
      rcases idxM_fnd q r (i + 1) with ⟨h1, h2⟩ | ⟨j, hj, h1, h2⟩
      · exact Or.inl ⟨h1, h2⟩
      · exact Or.inr ⟨j + 1, by simp; omega, by rw [h1]; congr 1; omega, by rw [h2]; rfl⟩
theorem idxA_fnd (q : ByteArray) : ∀ (l : List Act11) (i : Nat), (idxA (fun t => t.f0.toList == q.toList) l (i : Int) = -1 ∧ fndA q l = ((⟨#[]⟩ : ByteArray), 0, false)) ∨ ∃ j : Nat, ∃ h : j < l.length, idxA (fun t => t.f0.toList == q.toList) l (i : Int) = ((i + j : Nat) : Int) ∧ fndA q l = (l[j].f0, l[j].f1, true)
  | [], i => Or.inl ⟨rfl, rfl⟩
  | x :: r, i => by
    unfold idxA fndA
    by_cases c : x.f0.toList = q.toList
    · rw [if_pos (by simpa using c), if_pos c]
      exact Or.inr ⟨0, by simp, by simp, rfl⟩
    · rw [if_neg (by simpa using c), if_neg c, show (i : Int) + 1 = ((i + 1 : Nat) : Int) by omega]
      rcases idxA_fnd q r (i + 1) with ⟨h1, h2⟩ | ⟨j, hj, h1, h2⟩
      · exact Or.inl ⟨h1, h2⟩
      · exact Or.inr ⟨j + 1, by simp; omega, by rw [h1]; congr 1; omega, by rw [h2]; rfl⟩
theorem accM_eq (q : ByteArray) (l : List Act11) : accM q l = fndA q l := by
  unfold accM
  rcases idxA_fnd q l 0 with ⟨h1, h2⟩ | ⟨j, hj, h1, h2⟩
  · rw [show ((0 : Nat) : Int) = 0 from rfl] at h1
    rw [h1, h2, if_pos (by decide)]
  · rw [Nat.zero_add, show ((0 : Nat) : Int) = 0 from rfl] at h1
    rw [h1, h2, if_neg (by omega), rdA l j hj]
def tupM (q : Mem × Bool) : ByteArray × Int × List Act11 × Bool := (q.1.f0, q.1.f1, q.1.f2, q.2)
theorem mfind_f (l : List Mem) (q : ByteArray) (hs : ∀ m ∈ l, m.f2.length < 137438953472) : member_Find.f l q = some (tupM (fndM q l)) := by
  unfold member_Find.f member_at.f
  simp only [Option.bind_some]
  rcases idxM_fnd q l 0 with ⟨h1, h2⟩ | ⟨j, hj, h1, h2⟩
  · rw [show ((0 : Nat) : Int) = 0 from rfl] at h1
    rw [h1, h2, if_pos (by decide)]; rfl
  · rw [Nat.zero_add, show ((0 : Nat) : Int) = 0 from rfl] at h1
    have e : api_Account_85.f l[j].f2 = some l[j].f2 := by
      unfold api_Account_85.f
      exact if_pos (hs _ (List.getElem_mem hj))
    rw [h1, h2, if_neg (by omega), if_pos (by omega), if_pos (by omega), rdM l j hj, e]
    rfl
theorem macc_f (l : List Mem) (p q : ByteArray) (hs : ∀ m ∈ l, m.f2.length < 137438953472) : member_Account.f l p q = some (fndA q (fndM p l).1.f2) := by
  unfold member_Account.f
  rw [mfind_f l p hs]
  simp only [Option.bind_some, accM_eq]
  rfl
def mayT (l : List Mem) (p q : ByteArray) : Int := if (fndM p l).2 = true then (if (fndA q (fndM p l).1.f2).2.2 = true then (if (fndM p l).1.f1 = 1 then 0 else 13) else 21) else 20
theorem may_f (l : List Mem) (p q : ByteArray) (hs : ∀ m ∈ l, m.f2.length < 137438953472) : Ev (fun k => member_May.f k l p q 1) (mayT l p q) := by
  unfold member_May.f mayT
  simp only [mfind_f l p hs, macc_f l p q hs, Option.bind_some, tupM, if_true]
  by_cases c1 : (fndM p l).2 = true
  case neg => simp only [if_neg c1]; exact Ev.now _
  by_cases c2 : (fndA q (fndM p l).1.f2).2.2 = true
  case neg => simp only [if_pos c1, if_neg c2]; exact Ev.now _
  by_cases c3 : (fndM p l).1.f1 = 1
  · simp only [if_pos c1, if_pos c2, if_pos c3]; exact Ev.now _
  by_cases c4 : (fndM p l).1.f1 = 2
  · simp only [if_pos c1, if_pos c2, if_neg c3, if_pos c4]; exact Ev.now _
  by_cases c5 : (fndM p l).1.f1 = 3
  · simp only [if_pos c1, if_pos c2, if_neg c3, if_neg c4, if_pos c5]
    refine Ev_bind (a := false) (Ev.of (k := 10) (slices_Contains_int_int.mono _ _) (by decide +kernel)) ?_
    simp only [Bool.false_eq_true, if_false]
    exact Ev.now _
  · simp only [if_pos c1, if_pos c2, if_neg c3, if_neg c4, if_neg c5]; exact Ev.now _
def accV (l : List Act11) : List Act11 → Nat → Int
  | [], _ => 0
  | a :: r, i => if nameE (nameB a.f0) i (rd_T110 l ((i : Int) - 1)).f0 a.f0 = 0 then (if 1 ≤ a.f1 ∧ a.f1 ≤ 3 then accV l r (i + 1) else 21) else nameE (nameB a.f0) i (rd_T110 l ((i : Int) - 1)).f0 a.f0
def memV (l : List Mem) : List Mem → Nat → Int
  | [], _ => 0
  | m :: r, i => if nameE (nameB m.f0) i (rd_T107 l ((i : Int) - 1)).f0 m.f0 = 0 then (if 1 ≤ m.f1 ∧ m.f1 ≤ 4 then (if m.f2.length ≤ 16 then (if accV m.f2 m.f2 0 = 0 then memV l r (i + 1) else accV m.f2 m.f2 0) else 8) else 13) else nameE (nameB m.f0) i (rd_T107 l ((i : Int) - 1)).f0 m.f0
def memC (l : List Mem) : Int := if 32 < l.length then 8 else memV l l 0
theorem accE_f (l : List Act11) : ∀ (r : List Act11) (i : Nat), Ev (fun k => accE k l r i) (accV l r i)
  | [], i => Ev.now _
  | a :: r, i => by
    unfold accE accV
    refine Ev_bind (name_f a.f0) ?_
    split
    · split
      · exact accE_f l r (i + 1)
      · exact Ev.now _
    · exact Ev.now _
theorem memE_f (l : List Mem) : ∀ (r : List Mem) (i : Nat), Ev (fun k => memE k l r i) (memV l r i)
  | [], i => Ev.now _
  | a :: r, i => by
    unfold memE memV
    refine Ev_bind (name_f a.f0) ?_
    split
    · split
      · split
        · refine Ev_bind (accE_f a.f2 a.f2 0) ?_
          by_cases c : accV a.f2 a.f2 0 = 0
          · simp only [if_pos c]; exact memE_f l r (i + 1)
          · simp only [if_neg c]; exact Ev.now _
        · exact Ev.now _
      · exact Ev.now _
    · exact Ev.now _
theorem mcheck_f (l : List Mem) : Ev (fun k => member_Check.f k l) (memC l) := by
  unfold member_Check.f memC
  split
  · exact Ev.now _
  · exact memE_f l l 0
abbrev Prod9 := S50
theorem Ev_or {α : Type} {g : Nat → Bool → Option α} {a b : Prop} [Decidable a] [Decidable b] {r : α} (ht : (a ∨ b) → Ev (fun k => g k true) r) (hf : ¬ (a ∨ b) → Ev (fun k => g k false) r) : Ev (fun k => if a then g k true else g k (decide b)) r := by
  by_cases ca : a
  · simp only [if_pos ca]; exact ht (Or.inl ca)
  · simp only [if_neg ca]
    by_cases cb : b
    · rw [decide_eq_true cb]; exact ht (Or.inr cb)
    · rw [decide_eq_false cb]; exact hf (fun h => h.elim ca cb)
theorem Ev_if {α : Type} {c : Prop} [Decidable c] {f g : Nat → Option α} {r : α} (h1 : c → Ev f r) (h2 : ¬ c → Ev g r) : Ev (fun k => if c then f k else g k) r := by
  by_cases h : c
  · simp only [if_pos h]; exact h1 h
  · simp only [if_neg h]; exact h2 h
def prodT (p : Prod9) : Int := if -16777216 ≤ p.f4 ∧ p.f4 ≤ 16777216 ∧ -16777216 ≤ p.f5 ∧ p.f5 ≤ 16777216 ∧ p.f4 ≤ p.f5 ∧ Int.tmod p.f4 p.f3 = 0 ∧ Int.tmod p.f5 p.f3 = 0 then 0 else 17
def prodE (p : Prod9) : Int := if nameB p.f0 = true then (if p.f1 < 0 ∨ p.f1 ≥ 8 then 25 else if p.f2 < 1 ∨ p.f2 > 4096 then 2 else if p.f3 < 1 ∨ p.f3 > 16777216 then 16 else prodT p) else 10
theorem pwithin_f (n : Int) : product_within.f n 16777216 = some (decide (-16777216 ≤ n) && decide (n ≤ 16777216)) := by
  unfold product_within.f
  have e : wrap64 (-16777216) = -16777216 := w_id (by omega) (by omega)
  rw [e]
  by_cases h : n ≥ -16777216
  · rw [if_pos h, decide_eq_true (show -16777216 ≤ n from h), Bool.true_and]
  · rw [if_neg h, decide_eq_false (show ¬ -16777216 ≤ n from h), Bool.false_and]
theorem and_iff (a b : Prop) [Decidable a] [Decidable b] : (decide a && decide b) = true ↔ a ∧ b := by simp
theorem prodT_of {p : Prod9} (h : ¬ (-16777216 ≤ p.f4 ∧ p.f4 ≤ 16777216 ∧ -16777216 ≤ p.f5 ∧ p.f5 ≤ 16777216 ∧ p.f4 ≤ p.f5 ∧ Int.tmod p.f4 p.f3 = 0 ∧ Int.tmod p.f5 p.f3 = 0)) : prodT p = 17 := if_neg h
theorem prod_f (p : Prod9) : Ev (fun k => product_Check.f k p.f0 p.f1 p.f2 p.f3 p.f4 p.f5 p.f6) (prodE p) := by
  have h3 : ¬ (p.f3 < 1 ∨ p.f3 > 16777216) → Ev (fun k => product_Check.j3 k false p.f0 p.f1 p.f2 p.f3 p.f4 p.f5 p.f6) (prodT p) := by
    intro c
    refine Ev_succ ?_
    simp only [product_Check.j3, Bool.false_eq_true, if_false, pwithin_f, Option.bind_some, and_iff]
    refine Ev_if (fun c1 => Ev_if (fun c2 => Ev_if (fun c3 => ?_) fun c3 => Ev_if (fun c4 => by omega) fun c4 => Ev_if (fun c5 => Ev_if (fun c6 => ?_) fun c6 => ?_) fun c5 => ?_) fun c2 => ?_) fun c1 => ?_
    · rw [prodT_of (by omega)]; exact Ev.now _
    · have : prodT p = 0 := if_pos ⟨c1.1, c1.2, c2.1, c2.2, by omega, c5, c6⟩
      rw [this]; exact Ev.now _
    · rw [prodT_of (fun h => c6 h.2.2.2.2.2.2)]; exact Ev.now _
    · rw [prodT_of (fun h => c5 h.2.2.2.2.2.1)]; exact Ev.now _
    · rw [prodT_of (by omega)]; exact Ev.now _
    · rw [prodT_of (by omega)]; exact Ev.now _
  have h0 : nameB p.f0 = true → Ev (fun k => product_Check.j0 k false p.f0 p.f1 p.f2 p.f3 p.f4 p.f5 p.f6) (prodE p) := by
    intro hn
    refine Ev_succ ?_
    unfold prodE
    rw [if_pos hn]
    simp only [product_Check.j0, Bool.false_eq_true, if_false]
    refine Ev_or (g := fun k b => product_Check.j1 k b p.f0 p.f1 p.f2 p.f3 p.f4 p.f5 p.f6) (fun c => ?_) (fun c => ?_)
    · rw [if_pos c]; refine Ev_succ ?_; simp only [product_Check.j1, if_true]; exact Ev.now _
    rw [if_neg c]
    refine Ev_succ ?_
    simp only [product_Check.j1, Bool.false_eq_true, if_false]
    refine Ev_or (g := fun k b => product_Check.j2 k b p.f0 p.f1 p.f2 p.f3 p.f4 p.f5 p.f6) (fun c => ?_) (fun c => ?_)
    · rw [if_pos c]; refine Ev_succ ?_; simp only [product_Check.j2, if_true]; exact Ev.now _
    rw [if_neg c]
    refine Ev_succ ?_
    simp only [product_Check.j2, Bool.false_eq_true, if_false]
    refine Ev_or (g := fun k b => product_Check.j3 k b p.f0 p.f1 p.f2 p.f3 p.f4 p.f5 p.f6) (fun c => ?_) (fun c => ?_)
    · rw [if_pos c]; refine Ev_succ ?_; simp only [product_Check.j3, if_true]; exact Ev.now _
    rw [if_neg c]
    exact h3 c
  have h1 : nameB p.f0 = false → Ev (fun k => product_Check.j0 k true p.f0 p.f1 p.f2 p.f3 p.f4 p.f5 p.f6) (prodE p) := by
    intro hn
    refine Ev_succ ?_
    unfold prodE
    rw [if_neg (by rw [hn]; decide)]
    simp only [product_Check.j0, if_true]
    exact Ev.now _
  unfold product_Check.f
  refine Ev_if (fun c => ?_) (fun c => ?_)
  · refine h1 ?_
    simp only [Bool.and_eq_true, beq_iff_eq] at c
    have e : p.f0.size = 0 := by
      have : p.f0.data.toList = [] := by rw [← ByteArray.toList_eq]; exact c.1
      have h2 : p.f0.data.toList.length = 0 := by rw [this]; rfl
      simpa using h2
    unfold nameB
    rw [e]; rfl
  · refine Ev_bind (name_f p.f0) ?_
    cases hn : nameB p.f0 with
    | true => exact h0 hn
    | false => exact h1 hn
def ProdOk (p : Prod9) : Prop := 1 ≤ p.f3 ∧ p.f3 ≤ 16777216 ∧ -16777216 ≤ p.f4 ∧ p.f4 ≤ 16777216 ∧ -16777216 ≤ p.f5 ∧ p.f5 ≤ 16777216 ∧ p.f4 ≤ p.f5 ∧ Int.tmod p.f4 p.f3 = 0 ∧ Int.tmod p.f5 p.f3 = 0
theorem prodE_zero {p : Prod9} (h : prodE p = 0) : ProdOk p := by
  unfold prodE at h
  by_cases c0 : nameB p.f0 = true
  case neg => rw [if_neg c0] at h; omega
  rw [if_pos c0] at h
  by_cases c1 : p.f1 < 0 ∨ p.f1 ≥ 8
  · rw [if_pos c1] at h; omega
  rw [if_neg c1] at h
  by_cases c2 : p.f2 < 1 ∨ p.f2 > 4096
  · rw [if_pos c2] at h; omega
  rw [if_neg c2] at h
  by_cases c3 : p.f3 < 1 ∨ p.f3 > 16777216
  · rw [if_pos c3] at h; omega
  rw [if_neg c3] at h
  unfold prodT at h
  split at h
  · rename_i c
    unfold ProdOk
    exact ⟨by omega, by omega, c.1, c.2.1, c.2.2.1, c.2.2.2.1, c.2.2.2.2.1, c.2.2.2.2.2.1, c.2.2.2.2.2.2⟩
  · omega
def prodPrice (p : Prod9) (n : Int) : Int := if prodE p = 0 then (if n < p.f4 ∨ n > p.f5 then 17 else if Int.tmod n p.f3 = 0 then 0 else 16) else prodE p
theorem prodPrice_f (p : Prod9) (n : Int) : Ev (fun k => product_Price.f k p.f0 p.f1 p.f2 p.f3 p.f4 p.f5 p.f6 n) (prodPrice p n) := by
  unfold product_Price.f prodPrice
  refine Ev_bind (prod_f p) ?_
  refine Ev_if (fun h => ?_) (fun h => by rw [if_neg h]; exact Ev.now _)
  rw [if_pos h]
  have hok := prodE_zero h
  unfold ProdOk at hok
  refine Ev_or (g := fun k b => product_Price.j0 k n b p.f0 p.f1 p.f2 p.f3 p.f4 p.f5 p.f6) (fun c => ?_) (fun c => ?_)
  · rw [if_pos c]; refine Ev_succ ?_; simp only [product_Price.j0, if_true]; exact Ev.now _
  rw [if_neg c]
  refine Ev_succ ?_
  simp only [product_Price.j0, Bool.false_eq_true, if_false, if_neg (show ¬ p.f3 = 0 by omega)]
  refine Ev_if (fun h => ?_) (fun h => ?_)
  · rw [if_pos h]; exact Ev.now _
  · rw [if_neg h]; exact Ev.now _
def fstT (q : Prod9 × Bool) : ByteArray × Int × Int × Int × Int × Int × Bool × Bool := (q.1.f0, q.1.f1, q.1.f2, q.1.f3, q.1.f4, q.1.f5, q.1.f6, q.2)
def allE (l : List Prod9) : Nat → Nat → Int
  | 0, _ => 0
  | d + 1, i => if prodE (l.getD i z50) = 0 then (if i > 0 then (if Op.bytesLess (l.getD (i - 1) z50).f0.toList (l.getD i z50).f0.toList = true then allE l d (i + 1) else 12) else allE l d (i + 1)) else prodE (l.getD i z50)
theorem rdG (l : List Prod9) (i : Nat) : rd_T50 l (i : Int) = l.getD i z50 := by unfold rd_T50; rw [Int.toNat_natCast]
theorem all_loop (l : List Prod9) (hl : l.length ≤ 4611686018427387904) : ∀ (d i : Nat), i + d = l.length → Ev (fun k => product_CheckAll.l0 k l l l.length i) (allE l d i)
  | 0, i, hd => by
    refine Ev_succ ?_
    simp only [product_CheckAll.l0, if_neg (show ¬ ((i : Int) < (l.length : Int)) by omega)]
    exact Ev.now _
  | d + 1, i, hd => by
    have hi : i < l.length := by omega
    have ih := all_loop l hl d (i + 1) (by omega)
    refine Ev_succ ?_
    simp only [product_CheckAll.l0, if_pos (show (i : Int) < (l.length : Int) by omega), if_pos (show 0 ≤ (i : Int) by omega), w_succ hi (by omega), rdG]
    refine Ev_bind (prod_f (l.getD i z50)) ?_
    unfold allE
    by_cases c : prodE (l.getD i z50) = 0
    · simp only [if_pos c]
      by_cases c2 : i > 0
      · simp only [if_pos c2, if_pos (show (i : Int) > 0 by omega), w_pred c2 (by omega), if_pos (show 0 ≤ ((i - 1 : Nat) : Int) by omega), if_pos (show ((i - 1 : Nat) : Int) < (l.length : Int) by omega), rdG]
        by_cases c3 : Op.bytesLess (l.getD (i - 1) z50).f0.toList (l.getD i z50).f0.toList = true
        · simp only [if_pos c3]; exact ih
        · simp only [if_neg c3]; exact Ev.now _
      · simp only [if_neg c2, if_neg (show ¬ (i : Int) > 0 by omega)]; exact ih
    · simp only [if_neg c]; exact Ev.now _
def allC (l : List Prod9) : Int := if (l.length : Int) > 32 then 8 else allE l l.length 0
theorem allC_f (l : List Prod9) (hl : l.length ≤ 4611686018427387904) : Ev (fun k => product_CheckAll.f k l) (allC l) := by
  unfold product_CheckAll.f allC
  by_cases c : (l.length : Int) > 32
  · simp only [if_pos c]; exact Ev.now _
  · simp only [if_neg c]; exact all_loop l hl l.length 0 (by omega)
end Go.Proofs.YtliooghmpkdmoaaGreatDoor.P
end
section
namespace Go.Proofs.YtliooghmpkdmoaaGreatDoor.P
open Go.RowKit Go.Proofs.YtliooghmpkdmoaaGreatDoorW.PrintWords Go.Proofs.YtliooghmpkdmoaaGreatDoorW.PrintMore Go.Proofs.YtliooghmpkdmoaaGreatDoor.X
abbrev Ser := S26
end Go.Proofs.YtliooghmpkdmoaaGreatDoor.P
end
section
namespace Go.Proofs.YtliooghmpkdmoaaGreatDoor.P
set_option linter.unusedVariables false
set_option linter.unusedSimpArgs false
open Go.RowKit Go.Proofs.YtliooghmpkdmoaaGreatDoorW.PrintWords Go.Proofs.YtliooghmpkdmoaaGreatDoorW.PrintMore Go.Proofs.YtliooghmpkdmoaaGreatDoor.X
def tailC (s : S26) (p : Prod9) : Int := if s.f2 < 0 ∨ s.f2 > 73048 then 15 else if s.f1 = 1 then (if s.f3 = 0 then 0 else 17) else (if prodPrice p s.f3 = 0 then 0 else 17)
def chkE (l : List Prod9) (s : S26) : Int := if allC l = 0 then (if (fstP s.f0 l).2 = true ∧ 1 ≤ s.f1 ∧ s.f1 ≤ 3 then tailC s (fstP s.f0 l).1 else 19) else allC l
theorem chk_j0 (s : S26) (p : Prod9) (h1 : 1 ≤ s.f1) : Ev (fun k => series_Check.j0 k false s.f0 s.f1 s.f2 s.f3 p.f0 p.f1 p.f2 p.f3 p.f4 p.f5 p.f6) (tailC s p) := by
  refine Ev_succ ?_
  simp only [series_Check.j0, Bool.false_eq_true, if_false]
  unfold tailC
  have bad : Ev (fun k => series_Check.j1 k true s.f0 s.f1 s.f2 s.f3 p.f0 p.f1 p.f2 p.f3 p.f4 p.f5 p.f6) (15 : Int) := Ev_succ (by simp only [series_Check.j1, if_true]; exact Ev.now _)
  by_cases c1 : s.f2 < 0
  · rw [if_pos (Or.inl c1)]; simp only [if_pos c1]; exact bad
  by_cases c2 : s.f2 > 73048
  · rw [if_pos (Or.inr c2)]; simp only [if_neg c1, decide_eq_true c2]; exact bad
  rw [if_neg (by omega)]
  simp only [if_neg c1, decide_eq_false c2]
  refine Ev_succ ?_
  simp only [series_Check.j1, Bool.false_eq_true, if_false]
  by_cases c3 : s.f1 = 1
  · simp only [if_pos c3]
    refine Ev_succ ?_
    by_cases c4 : s.f3 = 0
    · have e : (s.f3 != 0) = false := by rw [bne_eq_false_iff_eq]; exact c4
      simp only [series_Check.j2, e, Bool.false_eq_true, if_false, if_pos c3, if_pos c4]
      exact Ev.now _
    · have e : (s.f3 != 0) = true := by rw [bne_iff_ne]; exact c4
      simp only [series_Check.j2, e, if_true, if_neg c4]
      exact Ev.now _
  · simp only [if_neg c3]
    refine Ev_succ ?_
    simp only [series_Check.j2, Bool.false_eq_true, if_false, if_neg c3]
    refine Ev_bind (prodPrice_f p s.f3) ?_
    by_cases c4 : prodPrice p s.f3 = 0
    · simp only [if_pos c4]; exact Ev.now _
    · simp only [if_neg c4]; exact Ev.now _
theorem chk_f (l : List Prod9) (s : S26) (hl : l.length ≤ 4611686018427387904) : Ev (fun k => series_Check.f k l s.f0 s.f1 s.f2 s.f3) (chkE l s) := by
  unfold series_Check.f chkE
  refine Ev_bind (allC_f l hl) ?_
  by_cases c0 : allC l = 0
  case neg => simp only [if_neg c0]; exact Ev.now _
  simp only [if_pos c0]
  have e1 : product_Find.f l s.f0 = some (fstT (fstP s.f0 l)) := rfl
  rw [e1]
  simp only [Option.bind_some]
  have bad : ∀ p : Prod9, Ev (fun k => series_Check.j0 k true s.f0 s.f1 s.f2 s.f3 p.f0 p.f1 p.f2 p.f3 p.f4 p.f5 p.f6) (19 : Int) := fun p => Ev_succ (by simp only [series_Check.j0, if_true]; exact Ev.now _)
  by_cases c1 : (fstP s.f0 l).2 = true
  case neg => rw [if_neg (fun h => c1 h.1)]; simp only [if_neg (show ¬ (fstT (fstP s.f0 l)).2.2.2.2.2.2.2 = true from c1)]; exact bad (fstP s.f0 l).1
  by_cases c2 : s.f1 < 1
  · rw [if_neg (by omega)]; simp only [if_pos (show (fstT (fstP s.f0 l)).2.2.2.2.2.2.2 = true from c1), if_pos c2]; exact bad (fstP s.f0 l).1
  by_cases c3 : s.f1 > 3
  · rw [if_neg (by omega)]; simp only [if_pos (show (fstT (fstP s.f0 l)).2.2.2.2.2.2.2 = true from c1), if_neg c2, decide_eq_true c3]; exact bad (fstP s.f0 l).1
  rw [if_pos ⟨c1, by omega, by omega⟩]
  simp only [if_pos (show (fstT (fstP s.f0 l)).2.2.2.2.2.2.2 = true from c1), if_neg c2, decide_eq_false c3]
  exact chk_j0 s (fstP s.f0 l).1 (by omega)
end Go.Proofs.YtliooghmpkdmoaaGreatDoor.P
end
section
namespace Go.Proofs.YtliooghmpkdmoaaGreatDoor.P
set_option linter.unusedVariables false
open Go.RowKit Go.Proofs.YtliooghmpkdmoaaGreatDoorW.PrintWords Go.Proofs.YtliooghmpkdmoaaGreatDoorW.PrintMore Go.Proofs.YtliooghmpkdmoaaGreatDoor.X
abbrev Trd := S30
end Go.Proofs.YtliooghmpkdmoaaGreatDoor.P
end
section
namespace Go.Proofs.YtliooghmpkdmoaaGreatDoor.P
set_option linter.unusedVariables false
set_option linter.unusedSimpArgs false
open Go.RowKit Go.Proofs.YtliooghmpkdmoaaGreatDoorW.PrintWords Go.Proofs.YtliooghmpkdmoaaGreatDoorW.PrintMore Go.Proofs.YtliooghmpkdmoaaGreatDoor.X
def chkM (t : Trd) (ms : List Mem) : Int := if memC ms = 0 then (if mayT ms t.f6.f0 t.f6.f1 = 0 then (if mayT ms t.f7.f0 t.f7.f1 = 0 then (if t.f6.f0.toList = t.f7.f0.toList ∧ t.f6.f1.toList = t.f7.f1.toList then 21 else 0) else mayT ms t.f7.f0 t.f7.f1) else mayT ms t.f6.f0 t.f6.f1) else memC ms
def chkP (t : Trd) (ps : List Prod9) (ms : List Mem) : Int := if prodPrice (fstP t.f3.f0 ps).1 t.f5 = 0 then chkM t ms else prodPrice (fstP t.f3.f0 ps).1 t.f5
def chkQ (t : Trd) (ps : List Prod9) (ms : List Mem) : Int := if t.f4 < 1 ∨ t.f4 > 1048576 then 18 else chkP t ps ms
def chkI (t : Trd) (ps : List Prod9) (ms : List Mem) : Int := if (t.f0 < 1 ∨ t.f0 > 1152921504606846976) ∨ (t.f2 < 0 ∨ t.f2 > 86399) then 2 else chkQ t ps ms
def chkT (t : Trd) (ps : List Prod9) (ms : List Mem) : Int := if chkE ps t.f3 = 0 then (if (t.f1 < 0 ∨ t.f1 > 73048) ∨ t.f3.f2 < t.f1 then 15 else chkI t ps ms) else chkE ps t.f3
theorem sameAcc (t : Trd) : (t.f6.f0.toList == t.f7.f0.toList && (t.f6.f1.toList == t.f7.f1.toList)) = true ↔ t.f6.f0.toList = t.f7.f0.toList ∧ t.f6.f1.toList = t.f7.f1.toList := by simp
theorem chk_l0 (t : Trd) (ms : List Mem) (hs : ∀ m ∈ ms, m.f2.length < 137438953472) (i : Nat) (hi : i ≤ 2) : Ev (fun k => trade_Check.l0 k ms ([⟨t.f6.f0, t.f6.f1⟩, ⟨t.f7.f0, t.f7.f1⟩] : List S28) 2 (i : Int) t.f0 t.f1 t.f2 t.f3.f0 t.f3.f1 t.f3.f2 t.f3.f3 t.f4 t.f5 t.f6.f0 t.f6.f1 t.f7.f0 t.f7.f1)
    (if i = 0 then (if mayT ms t.f6.f0 t.f6.f1 = 0 then (if mayT ms t.f7.f0 t.f7.f1 = 0 then (if t.f6.f0.toList = t.f7.f0.toList ∧ t.f6.f1.toList = t.f7.f1.toList then 21 else 0) else mayT ms t.f7.f0 t.f7.f1) else mayT ms t.f6.f0 t.f6.f1) else if i = 1 then (if mayT ms t.f7.f0 t.f7.f1 = 0 then (if t.f6.f0.toList = t.f7.f0.toList ∧ t.f6.f1.toList = t.f7.f1.toList then 21 else 0) else mayT ms t.f7.f0 t.f7.f1) else (if t.f6.f0.toList = t.f7.f0.toList ∧ t.f6.f1.toList = t.f7.f1.toList then 21 else 0)) := by
  have s2 : Ev (fun k => trade_Check.l0 k ms ([⟨t.f6.f0, t.f6.f1⟩, ⟨t.f7.f0, t.f7.f1⟩] : List S28) 2 2 t.f0 t.f1 t.f2 t.f3.f0 t.f3.f1 t.f3.f2 t.f3.f3 t.f4 t.f5 t.f6.f0 t.f6.f1 t.f7.f0 t.f7.f1) (if t.f6.f0.toList = t.f7.f0.toList ∧ t.f6.f1.toList = t.f7.f1.toList then 21 else 0) := by
    refine Ev_succ ?_
    simp only [trade_Check.l0, if_neg (show ¬ (2 : Int) < 2 by decide), sameAcc]
    split
    · exact Ev.now _
    · exact Ev.now _
  have s1 : Ev (fun k => trade_Check.l0 k ms ([⟨t.f6.f0, t.f6.f1⟩, ⟨t.f7.f0, t.f7.f1⟩] : List S28) 2 1 t.f0 t.f1 t.f2 t.f3.f0 t.f3.f1 t.f3.f2 t.f3.f3 t.f4 t.f5 t.f6.f0 t.f6.f1 t.f7.f0 t.f7.f1) (if mayT ms t.f7.f0 t.f7.f1 = 0 then (if t.f6.f0.toList = t.f7.f0.toList ∧ t.f6.f1.toList = t.f7.f1.toList then 21 else 0) else mayT ms t.f7.f0 t.f7.f1) := by
    refine Ev_succ ?_
    have e1 : rd_T28 ([⟨t.f6.f0, t.f6.f1⟩, ⟨t.f7.f0, t.f7.f1⟩] : List S28) 1 = ⟨t.f7.f0, t.f7.f1⟩ := rfl
    have e2 : wrap64 ((1 : Int) + 1) = 2 := w_id (by decide) (by decide)
    simp only [trade_Check.l0, if_pos (show (1 : Int) < 2 by decide), if_pos (show 0 ≤ (1 : Int) by decide), e1, e2, List.length_cons, List.length_nil, if_pos (show (1 : Int) < ((0 + 1 + 1 : Nat) : Int) by decide)]
    refine Ev_bind (may_f ms t.f7.f0 t.f7.f1 hs) ?_
    by_cases c : mayT ms t.f7.f0 t.f7.f1 = 0
    · simp only [if_pos c]; exact s2
    · simp only [if_neg c]; exact Ev.now _
  have s0 : Ev (fun k => trade_Check.l0 k ms ([⟨t.f6.f0, t.f6.f1⟩, ⟨t.f7.f0, t.f7.f1⟩] : List S28) 2 0 t.f0 t.f1 t.f2 t.f3.f0 t.f3.f1 t.f3.f2 t.f3.f3 t.f4 t.f5 t.f6.f0 t.f6.f1 t.f7.f0 t.f7.f1) (if mayT ms t.f6.f0 t.f6.f1 = 0 then (if mayT ms t.f7.f0 t.f7.f1 = 0 then (if t.f6.f0.toList = t.f7.f0.toList ∧ t.f6.f1.toList = t.f7.f1.toList then 21 else 0) else mayT ms t.f7.f0 t.f7.f1) else mayT ms t.f6.f0 t.f6.f1) := by
    refine Ev_succ ?_
    have e1 : rd_T28 ([⟨t.f6.f0, t.f6.f1⟩, ⟨t.f7.f0, t.f7.f1⟩] : List S28) 0 = ⟨t.f6.f0, t.f6.f1⟩ := rfl
    have e2 : wrap64 ((0 : Int) + 1) = 1 := w_id (by decide) (by decide)
    simp only [trade_Check.l0, if_pos (show (0 : Int) < 2 by decide), if_pos (show 0 ≤ (0 : Int) by decide), e1, e2, List.length_cons, List.length_nil, if_pos (show (0 : Int) < ((0 + 1 + 1 : Nat) : Int) by decide)]
    refine Ev_bind (may_f ms t.f6.f0 t.f6.f1 hs) ?_
    by_cases c : mayT ms t.f6.f0 t.f6.f1 = 0
    · simp only [if_pos c]; exact s1
    · simp only [if_neg c]; exact Ev.now _
  match i, hi with
  | 0, _ => exact s0
  | 1, _ => exact s1
  | 2, _ => exact s2
theorem nameE_ok {b : Bool} {i : Nat} {p x : ByteArray} (h : nameE b i p x = 0) : b = true := by
  unfold nameE at h
  cases b with
  | true => rfl
  | false => rw [if_neg (by decide)] at h; exact absurd h (by decide)
theorem memV_zero (l : List Mem) : ∀ (r : List Mem) (i : Nat), memV l r i = 0 → ∀ m ∈ r, nameB m.f0 = true ∧ m.f2.length ≤ 16 ∧ accV m.f2 m.f2 0 = 0
  | [], _, _, a, h => by cases h
  | x :: r, i, h, a, ha => by
    unfold memV at h
    by_cases c1 : nameE (nameB x.f0) i (rd_T107 l ((i : Int) - 1)).f0 x.f0 = 0
    case neg => rw [if_neg c1] at h; exact absurd h c1
    rw [if_pos c1] at h
    by_cases c2 : 1 ≤ x.f1 ∧ x.f1 ≤ 4
    case neg => rw [if_neg c2] at h; exact absurd h (by decide)
    rw [if_pos c2] at h
    by_cases c3 : x.f2.length ≤ 16
    case neg => rw [if_neg c3] at h; exact absurd h (by decide)
    rw [if_pos c3] at h
    by_cases c4 : accV x.f2 x.f2 0 = 0
    case neg => rw [if_neg c4] at h; exact absurd h c4
    rw [if_pos c4] at h
    rcases List.mem_cons.1 ha with rfl | ha
    · exact ⟨nameE_ok c1, c3, c4⟩
    · exact memV_zero l r (i + 1) h a ha
theorem memC_zero {l : List Mem} (h : memC l = 0) : ∀ m ∈ l, nameB m.f0 = true ∧ m.f2.length ≤ 16 ∧ accV m.f2 m.f2 0 = 0 := by
  unfold memC at h
  by_cases c : 32 < l.length
  · rw [if_pos c] at h; exact absurd h (by decide)
  · rw [if_neg c] at h; exact memV_zero l l 0 h
theorem chk_j1 (t : Trd) (ps : List Prod9) (ms : List Mem) : Ev (fun k => trade_Check.j1 k ps ms false t.f0 t.f1 t.f2 t.f3.f0 t.f3.f1 t.f3.f2 t.f3.f3 t.f4 t.f5 t.f6.f0 t.f6.f1 t.f7.f0 t.f7.f1) (chkQ t ps ms) := by
  refine Ev_succ ?_
  simp only [trade_Check.j1, Bool.false_eq_true, if_false]
  unfold chkQ
  by_cases c1 : t.f4 < 1
  · rw [if_pos (Or.inl c1)]; simp only [if_pos c1]; exact Ev.now _
  by_cases c2 : t.f4 > 1048576
  · rw [if_pos (Or.inr c2)]; simp only [if_neg c1, if_pos c2]; exact Ev.now _
  rw [if_neg (by omega)]
  have e1 : product_Find.f ps t.f3.f0 = some (fstT (fstP t.f3.f0 ps)) := rfl
  simp only [if_neg c1, if_neg c2, e1, Option.bind_some]
  unfold chkP
  refine Ev_bind (prodPrice_f (fstP t.f3.f0 ps).1 t.f5) ?_
  by_cases c3 : prodPrice (fstP t.f3.f0 ps).1 t.f5 = 0
  case neg => simp only [if_neg c3]; exact Ev.now _
  simp only [if_pos c3]
  unfold chkM
  refine Ev_bind (mcheck_f ms) ?_
  by_cases c4 : memC ms = 0
  case neg => simp only [if_neg c4]; exact Ev.now _
  simp only [if_pos c4]
  exact chk_l0 t ms (fun m h => by have := (memC_zero c4 m h).2.1; omega) 0 (by decide)
theorem chk_jt (t : Trd) (ps : List Prod9) (ms : List Mem) : Ev (fun k => trade_Check.j1 k ps ms true t.f0 t.f1 t.f2 t.f3.f0 t.f3.f1 t.f3.f2 t.f3.f3 t.f4 t.f5 t.f6.f0 t.f6.f1 t.f7.f0 t.f7.f1) (2 : Int) := by
  refine Ev_succ ?_
  simp only [trade_Check.j1, if_true]
  exact Ev.now _
theorem chk_j0T (t : Trd) (ps : List Prod9) (ms : List Mem) : Ev (fun k => trade_Check.j0 k ps ms false t.f0 t.f1 t.f2 t.f3.f0 t.f3.f1 t.f3.f2 t.f3.f3 t.f4 t.f5 t.f6.f0 t.f6.f1 t.f7.f0 t.f7.f1) (chkI t ps ms) := by
  refine Ev_succ ?_
  simp only [trade_Check.j0, Bool.false_eq_true, if_false]
  unfold chkI
  by_cases c1 : t.f0 < 1
  · rw [if_pos (by omega)]; simp only [if_pos c1]; exact chk_jt t ps ms
  by_cases c2 : t.f0 > 1152921504606846976
  · rw [if_pos (by omega)]; simp only [if_neg c1, if_pos c2]; exact chk_jt t ps ms
  by_cases c3 : t.f2 < 0
  · rw [if_pos (by omega)]; simp only [if_neg c1, if_neg c2, if_pos c3]; exact chk_jt t ps ms
  by_cases c4 : t.f2 > 86399
  · rw [if_pos (by omega)]; simp only [if_neg c1, if_neg c2, if_neg c3, decide_eq_true c4]; exact chk_jt t ps ms
  rw [if_neg (by omega)]
  simp only [if_neg c1, if_neg c2, if_neg c3, decide_eq_false c4]
  exact chk_j1 t ps ms
theorem chk_jb (t : Trd) (ps : List Prod9) (ms : List Mem) : Ev (fun k => trade_Check.j0 k ps ms true t.f0 t.f1 t.f2 t.f3.f0 t.f3.f1 t.f3.f2 t.f3.f3 t.f4 t.f5 t.f6.f0 t.f6.f1 t.f7.f0 t.f7.f1) (15 : Int) := by
  refine Ev_succ ?_
  simp only [trade_Check.j0, if_true]
  exact Ev.now _
theorem tcheck_f (t : Trd) (ps : List Prod9) (ms : List Mem) (hl : ps.length ≤ 4611686018427387904) : Ev (fun k => trade_Check.f k t.f0 t.f1 t.f2 t.f3.f0 t.f3.f1 t.f3.f2 t.f3.f3 t.f4 t.f5 t.f6.f0 t.f6.f1 t.f7.f0 t.f7.f1 ps ms) (chkT t ps ms) := by
  unfold trade_Check.f chkT
  refine Ev_bind (chk_f ps t.f3 hl) ?_
  by_cases c0 : chkE ps t.f3 = 0
  case neg => simp only [if_neg c0]; exact Ev.now _
  simp only [if_pos c0, series_Live.f, Option.bind_some]
  by_cases c1 : t.f1 < 0
  · rw [if_pos (by omega)]; simp only [if_pos c1]; exact chk_jb t ps ms
  by_cases c2 : t.f1 > 73048
  · rw [if_pos (by omega)]; simp only [if_neg c1, if_pos c2]; exact chk_jb t ps ms
  simp only [if_neg c1, if_neg c2]
  by_cases c3 : t.f3.f2 ≥ t.f1
  · rw [if_neg (by omega)]; simp only [decide_eq_true c3, Bool.not_true]; exact chk_j0T t ps ms
  · rw [if_pos (by omega)]; simp only [decide_eq_false c3, Bool.not_false]; exact chk_jb t ps ms
end Go.Proofs.YtliooghmpkdmoaaGreatDoor.P
end
section
namespace Go.Proofs.YtliooghmpkdmoaaGreatDoor.X
open Go.RowKit Go.Proofs.YtliooghmpkdmoaaGreatDoorW.PrintWords Go.Proofs.YtliooghmpkdmoaaGreatDoorW.PrintLast Go.Proofs.YtliooghmpkdmoaaGreatDoorW.PrintMore
attribute [local go_sem] max2_int min2_int max_two min_two max_three min_three max_four min_four
set_option linter.unusedVariables false
set_option linter.unusedSimpArgs false
def srch (day : Int) : Nat → Nat → Nat → Nat
  | 0, i, _ => i
  | f + 1, i, j => if i < j then (if day < startV (2000 + (((i + j) / 2 : Nat) : Int) + 1) then srch day f i ((i + j) / 2) else srch day f ((i + j) / 2 + 1) j) else i
theorem srch_rng (day : Int) : ∀ (f i j : Nat), i ≤ j → i ≤ srch day f i j ∧ srch day f i j ≤ j
  | 0, i, j, h => ⟨Nat.le_refl _, h⟩
  | f + 1, i, j, h => by
    unfold srch
    by_cases c : i < j
    · rw [if_pos c]
      split
      · have := srch_rng day f i ((i + j) / 2) (by omega); omega
      · have := srch_rng day f ((i + j) / 2 + 1) j (by omega); omega
    · rw [if_neg c]; omega
theorem srch_ok (day : Int) : ∀ (f i j : Nat), i ≤ j → j - i ≤ f → (i = 0 ∨ startV (2000 + (i : Int)) ≤ day) → (j = 199 ∨ day < startV (2000 + (j : Int) + 1)) → (srch day f i j = 0 ∨ startV (2000 + (srch day f i j : Int)) ≤ day) ∧ (srch day f i j = 199 ∨ day < startV (2000 + (srch day f i j : Int) + 1))
  | 0, i, j, h, hf, h1, h2 => by
    obtain rfl : i = j := by omega
    exact ⟨h1, h2⟩
  | f + 1, i, j, h, hf, h1, h2 => by
    unfold srch
    by_cases c : i < j
    · rw [if_pos c]
      by_cases d : day < startV (2000 + (((i + j) / 2 : Nat) : Int) + 1)
      · rw [if_pos d]
        exact srch_ok day f i ((i + j) / 2) (by omega) (by omega) h1 (Or.inr d)
      · rw [if_neg d]
        refine srch_ok day f ((i + j) / 2 + 1) j (by omega) (by omega) (Or.inr ?_) h2
        have e : (2000 + (((i + j) / 2 + 1 : Nat) : Int)) = 2000 + (((i + j) / 2 : Nat) : Int) + 1 := by omega
        rw [e]
        omega
    · rw [if_neg c]
      obtain rfl : i = j := by omega
      exact ⟨h1, h2⟩
def yearK (day : Int) : Nat := srch day 199 0 199
def monAt (b : Bool) (D : Int) : Nat → Nat → Nat
  | 0, m => m
  | f + 1, m => if monLen b m ≤ D - monSum b m then monAt b D f (m + 1) else m
theorem year_len : ∀ k : Nat, k < 200 → startV (2000 + (k : Int) + 1) - startV (2000 + (k : Int)) = monSum (leapB (2000 + (k : Int))) 13 := by decide +kernel
def splitV (day : Int) : Int × Int × Int × Int := if 0 ≤ day ∧ day ≤ 73048 then (2000 + (yearK day : Int), (monAt (leapB (2000 + (yearK day : Int))) (day - startV (2000 + (yearK day : Int))) 12 1 : Int), day - startV (2000 + (yearK day : Int)) - monSum (leapB (2000 + (yearK day : Int))) (monAt (leapB (2000 + (yearK day : Int))) (day - startV (2000 + (yearK day : Int))) 12 1) + 1, 0) else (0, 0, 0, 15)
theorem year_ok {day : Int} (h : 0 ≤ day ∧ day ≤ 73048) : yearK day ≤ 199 ∧ 0 ≤ day - startV (2000 + (yearK day : Int)) ∧ day - startV (2000 + (yearK day : Int)) < monSum (leapB (2000 + (yearK day : Int))) 13 := by
  have h1 := srch_rng day 199 0 199 (by omega)
  have h2 := srch_ok day 199 0 199 (by omega) (by omega) (Or.inl rfl) (Or.inl rfl)
  have h3 := year_len (yearK day) (by unfold yearK; omega)
  unfold yearK at *
  generalize srch day 199 0 199 = k at *
  refine ⟨h1.2, ?_, ?_⟩
  · rcases h2.1 with h | h
    · subst h
      have : startV (2000 + ((0 : Nat) : Int)) = 0 := by decide
      omega
    · omega
  · rcases h2.2 with h | h
    · subst h
      have : startV (2000 + ((199 : Nat) : Int) + 1) = 73049 := by decide
      omega
    · omega
end Go.Proofs.YtliooghmpkdmoaaGreatDoor.X
end
section
namespace Go.Proofs.YtliooghmpkdmoaaGreatDoor.P
set_option linter.unusedVariables false
set_option linter.unusedSimpArgs false
open Go.RowKit Go.Proofs.YtliooghmpkdmoaaGreatDoorW.PrintWords Go.Proofs.YtliooghmpkdmoaaGreatDoorW.PrintMore Go.Proofs.YtliooghmpkdmoaaGreatDoor.X
theorem monSum_all (b : Bool) : monSum b 13 = if b = true then 366 else 365 := by cases b <;> decide
theorem startV_succ {c : Int} (h1 : 2000 ≤ c) (h2 : c ≤ 2199) : startV (c + 1) = startV c + (if leapB c = true then 366 else 365) := by
  have h := year_len (c - 2000).toNat (by omega)
  have e : (2000 : Int) + (((c - 2000).toNat : Nat) : Int) = c := by omega
  rw [e, monSum_all] at h
  omega
theorem startV_rng1 {y : Int} (h1 : 2000 ≤ y) (h2 : y ≤ 2200) : 0 ≤ startV y ∧ startV y ≤ 100000 := by unfold startV leapsV; omega
theorem startV_mono {a b : Int} (h1 : 2000 ≤ a) (h2 : a ≤ b) : startV a ≤ startV b := by unfold startV leapsV; omega
theorem by_toList (s : ByteArray) (l : List UInt8) : s.toList = l ↔ bytesOf s = l.map fun b => (b.toNat : Int) := by
  rw [ByteArray.toList_eq]
  unfold bytesOf
  constructor
  · intro h
    rw [h]
  · intro h
    have e := congrArg (List.map fun n : Int => UInt8.ofNat n.toNat) h
    simpa [List.map_map, Function.comp_def] using e
theorem bnd {α β : Type} {x : Option α} {a : α} {f : α → Option β} {r : Option β} (h : x = some a) (k : f a = r) : x.bind f = r := by rw [h]; exact k
theorem one_byte (s : ByteArray) (c : UInt8) : s.toList = [c] ↔ bytesOf s = [(c.toNat : Int)] := by rw [by_toList]; simp
def kindI (C : List Int) : Int := if C = [102] then 1 else if C.head? = some 99 then 2 else if C.head? = some 112 then 3 else 0
def okForm (a b c : ByteArray) : Prop := nameB a = true ∧ b.size = 8 ∧ (bytesOf b).all digitB = true ∧ kindI (bytesOf c) ≠ 0
instance (a b c : ByteArray) : Decidable (okForm a b c) := inferInstanceAs (Decidable (_ ∧ _ ∧ _ ∧ _))
def okPrint (s : Ser) : Prop := 1 ≤ s.f1 ∧ s.f1 ≤ 3 ∧ 0 ≤ s.f2 ∧ s.f2 ≤ 73048
instance (s : Ser) : Decidable (okPrint s) := inferInstanceAs (Decidable (_ ∧ _ ∧ _ ∧ _))
theorem monSum_mono (b : Bool) : ∀ (d m : Nat), monSum b m ≤ monSum b (m + d)
  | 0, m => Int.le_refl _
  | d + 1, m => by
    have h1 := monSum_mono b d m
    have h2 := monLen_rng b (m + d)
    have e : monSum b (m + (d + 1)) = monSum b (m + d) + monLen b (m + d) := rfl
    omega
theorem monAt_eq (b : Bool) (D : Int) (m : Nat) (hm : m ≤ 12) (h0 : monSum b m ≤ D) (h1 : D < monSum b (m + 1)) : ∀ (f c : Nat), c + f = 13 → c ≤ m → monAt b D f c = m
  | 0, c, hf, hc => by omega
  | f + 1, c, hf, hc => by
    have e : monSum b (m + 1) = monSum b m + monLen b m := rfl
    have e2 : monSum b (c + 1) = monSum b c + monLen b c := rfl
    unfold monAt
    by_cases x : c = m
    · subst x
      rw [if_neg (by omega)]
    · have h2 := monSum_mono b (m - (c + 1)) (c + 1)
      rw [show c + 1 + (m - (c + 1)) = m by omega] at h2
      rw [if_pos (by omega)]
      exact monAt_eq b D m hm h0 h1 f (c + 1) (by omega) (by omega)
theorem split_of {y m d : Int} (h1 : 2000 ≤ y) (h2 : y ≤ 2199) (h3 : 1 ≤ d) (h4 : d ≤ daysV y m) : (0 ≤ (ofV y m d).1 ∧ (ofV y m d).1 ≤ 73048) ∧ splitV (ofV y m d).1 = (y, m, d, 0) ∧ (ofV y m d).2 = 0 := by
  obtain ⟨m1, m2, m3⟩ := days_pos h3 h4
  have e : ofV y m d = (startV y + d - 1 + monSum (leapB y) m.toNat, 0) := by unfold ofV; rw [if_neg (by omega)]
  rw [e]
  show (0 ≤ startV y + d - 1 + monSum (leapB y) m.toNat ∧ startV y + d - 1 + monSum (leapB y) m.toNat ≤ 73048) ∧ splitV (startV y + d - 1 + monSum (leapB y) m.toNat) = (y, m, d, 0) ∧ (0 : Int) = 0
  obtain ⟨M, rfl⟩ : ∃ M : Nat, m = (M : Int) := ⟨m.toNat, by omega⟩
  rw [Int.toNat_natCast]
  have hdv : daysV y (M : Int) = monLen (leapB y) M := by unfold daysV; rw [if_pos ⟨m1, m2⟩, Int.toNat_natCast]
  rw [hdv] at h4
  have hs := monSum_rng (leapB y) M
  have hy := startV_rng1 (y := y) (by omega) (by omega)
  have hsu := startV_succ h1 h2
  have e1 : monSum (leapB y) (M + 1) = monSum (leapB y) M + monLen (leapB y) M := rfl
  have hmo := monSum_mono (leapB y) (13 - (M + 1)) (M + 1)
  rw [show M + 1 + (13 - (M + 1)) = 13 by omega, monSum_all] at hmo
  have hend : startV (y + 1) ≤ 73049 := by
    have := startV_mono (a := y + 1) (b := 2200) (by omega) (by omega)
    have e2 : startV 2200 = 73049 := by decide
    omega
  have hlt : startV y + d - 1 + monSum (leapB y) M < startV (y + 1) := by omega
  have hday : 0 ≤ startV y + d - 1 + monSum (leapB y) M ∧ startV y + d - 1 + monSum (leapB y) M ≤ 73048 := by omega
  refine ⟨hday, ?_, rfl⟩
  obtain ⟨y1, y2, y3⟩ := year_ok hday
  generalize hD : startV y + d - 1 + monSum (leapB y) M = day at *
  have hsk := startV_succ (c := 2000 + (yearK day : Int)) (by omega) (by omega)
  rw [monSum_all] at y3
  have hk : 2000 + (yearK day : Int) = y := by
    by_cases a : 2000 + (yearK day : Int) < y
    · have := startV_mono (a := 2000 + (yearK day : Int) + 1) (b := y) (by omega) (by omega)
      omega
    · by_cases b : y < 2000 + (yearK day : Int)
      · have := startV_mono (a := y + 1) (b := 2000 + (yearK day : Int)) (by omega) (by omega)
        omega
      · omega
  unfold splitV
  rw [if_pos hday, hk]
  have hma := monAt_eq (leapB y) (day - startV y) M (by omega) (by omega) (by omega) 12 1 (by omega) (by omega)
  rw [hma]
  congr 3
  omega
def DayE (v : Int × Int) : Prop := (v.2 = 0 → 0 ≤ v.1 ∧ v.1 ≤ 73048) ∧ (v.2 ≠ 0 → v.1 = 0)
def isB (d : Int) : Bool := decide (0 ≤ d) && decide (d ≤ 73048)
theorem is_f (d : Int) : workday_is.f d = some (isB d) := by
  unfold workday_is.f isB
  by_cases h : d ≥ 0
  · rw [if_pos h, decide_eq_true (show 0 ≤ d from h), Bool.true_and]
  · rw [if_neg h, decide_eq_false (show ¬ 0 ≤ d from h), Bool.false_and]
theorem isB_iff (d : Int) : isB d = true ↔ 0 ≤ d ∧ d ≤ 73048 := by simp [isB]
theorem less_f (a b : Int) : cmp_Less_int.f a b = some (decide (a < b)) := by
  unfold cmp_Less_int.f cmp_isNaN_int.f
  simp
theorem nan_f (a : Int) : slices_isNaN_int.f a = some false := by
  unfold slices_isNaN_int.f
  simp
theorem wcheck_ev (l : List Int) (hl : l.length ≤ 1000) : ∀ (d i : Nat), i + d = l.length → ∃ v, Ev (fun k => workday_Check.l0 k l l (l.length : Int) (i : Int)) v
  | 0, i, h => by
    refine ⟨0, Ev_succ ?_⟩
    simp only [workday_Check.l0, if_neg (show ¬ (i : Int) < (l.length : Int) by omega)]
    exact Ev.now _
  | d + 1, i, h => by
    have hi : i < l.length := by omega
    obtain ⟨v, hv⟩ := wcheck_ev l hl d (i + 1) (by omega)
    have hw : wrap64 ((i : Int) + 1) = ((i + 1 : Nat) : Int) := w_succ hi (by omega)
    have key : ∀ g : Nat → Option Int, (∀ k, workday_Check.l0 (k + 1) l l (l.length : Int) (i : Int) = g k) → (∃ v, Ev g v) → ∃ v, Ev (fun k => workday_Check.l0 k l l (l.length : Int) (i : Int)) v := fun g hg ⟨v, h⟩ => ⟨v, Ev_succ (by simpa only [hg] using h)⟩
    by_cases c1 : isB (rd l (i : Int)) = true
    · by_cases c2 : (i : Int) > 0
      · have e1 : wrap64 ((i : Int) - 1) = ((i - 1 : Nat) : Int) := w_pred (by omega) (by omega)
        by_cases c3 : rd l (i : Int) ≤ rd l (wrap64 ((i : Int) - 1))
        · refine ⟨2, Ev_succ ?_⟩
          simp only [workday_Check.l0, if_pos (show (i : Int) < (l.length : Int) by omega), if_pos (show 0 ≤ (i : Int) by omega), is_f, Option.bind_some, if_pos c1, if_pos c2, if_pos c3, e1, if_pos (show 0 ≤ ((i - 1 : Nat) : Int) by omega), if_pos (show ((i - 1 : Nat) : Int) < (l.length : Int) by omega)]
          rw [e1] at c3
          simp only [if_pos c3]
          exact Ev.now _
        · refine ⟨v, Ev_succ ?_⟩
          simp only [workday_Check.l0, if_pos (show (i : Int) < (l.length : Int) by omega), if_pos (show 0 ≤ (i : Int) by omega), is_f, Option.bind_some, if_pos c1, if_pos c2, e1, if_pos (show 0 ≤ ((i - 1 : Nat) : Int) by omega), if_pos (show ((i - 1 : Nat) : Int) < (l.length : Int) by omega), hw]
          rw [e1] at c3
          simp only [if_neg c3]
          exact hv
      · refine ⟨v, Ev_succ ?_⟩
        simp only [workday_Check.l0, if_pos (show (i : Int) < (l.length : Int) by omega), if_pos (show 0 ≤ (i : Int) by omega), is_f, Option.bind_some, if_pos c1, if_neg c2, hw]
        exact hv
    · refine ⟨15, Ev_succ ?_⟩
      simp only [workday_Check.l0, if_pos (show (i : Int) < (l.length : Int) by omega), if_pos (show 0 ≤ (i : Int) by omega), is_f, Option.bind_some, if_neg c1]
      exact Ev.now _
theorem wCheck_f (l : List Int) (hl : l.length ≤ 1000) : ∃ v, Ev (fun k => workday_Check.f k l) v := by
  obtain ⟨v, hv⟩ := wcheck_ev l hl l.length 0 (by omega)
  refine ⟨v, ?_⟩
  unfold workday_Check.f
  simp only [if_neg (show ¬ (l.length : Int) > 1024 by omega)]
  exact hv
theorem wcheck_f (l : List Int) (hl : l.length ≤ 1000) (d : Int) : ∃ v, Ev (fun k => workday_check.f k l [d]) v := by
  obtain ⟨v, hv⟩ := wCheck_f l hl
  unfold workday_check.f
  by_cases c : v = 0
  · by_cases c1 : isB d = true
    · refine ⟨0, Ev_bind hv ?_⟩
      simp only [if_pos c]
      refine Ev_succ ?_
      simp only [workday_check.l0, List.length_singleton]
      simp only [if_pos (show (0 : Int) < ((1 : Nat) : Int) by decide), Int.le_refl, if_true]
      have e : rd [d] 0 = d := rfl
      rw [e, is_f, c1]
      simp only [Option.bind_some, if_true]
      refine Ev_succ ?_
      simp only [workday_check.l0]
      rw [show wrap64 (0 + 1) = 1 from w_id (x := 0 + 1) (by decide) (by decide)]
      simp only [if_neg (show ¬ (1 : Int) < ((1 : Nat) : Int) by decide)]
      exact Ev.now _
    · refine ⟨15, Ev_bind hv ?_⟩
      simp only [if_pos c]
      refine Ev_succ ?_
      simp only [workday_check.l0, List.length_singleton]
      simp only [if_pos (show (0 : Int) < ((1 : Nat) : Int) by decide), Int.le_refl, if_true]
      have e : rd [d] 0 = d := rfl
      rw [e, is_f]
      simp only [Option.bind_some, if_neg c1]
      exact Ev.now _
  · exact ⟨v, Ev_bind hv (by simp only [if_neg c]; exact Ev.now _)⟩
theorem bs_ev (l : List Int) (hl : l.length ≤ 1000) (x : Int) : ∀ (d i j : Nat), j - i ≤ d → i ≤ j → j ≤ l.length → ∃ q, Ev (fun k => slices_BinarySearch_int_int.l0 k l x (l.length : Int) (i : Int) (j : Int)) q := by
  intro d
  induction d with
  | zero =>
    intro i j h1 h2 h3
    by_cases c : (i : Int) < (l.length : Int)
    · by_cases c2 : rd l (i : Int) = x
      · refine ⟨(i, true), Ev_succ ?_⟩
        simp only [slices_BinarySearch_int_int.l0, if_neg (show ¬ (i : Int) < (j : Int) by omega), if_pos c, if_pos (show 0 ≤ (i : Int) by omega), if_pos c2]
        exact Ev.now _
      · refine ⟨(i, false), Ev_succ ?_⟩
        simp only [slices_BinarySearch_int_int.l0, if_neg (show ¬ (i : Int) < (j : Int) by omega), if_pos c, if_pos (show 0 ≤ (i : Int) by omega), if_neg c2, nan_f, Option.bind_some, Bool.false_eq_true, if_false]
        exact Ev.now _
    · refine ⟨(i, false), Ev_succ ?_⟩
      simp only [slices_BinarySearch_int_int.l0, if_neg (show ¬ (i : Int) < (j : Int) by omega), if_neg c]
      exact Ev.now _
  | succ d ih =>
    intro i j h1 h2 h3
    by_cases c : i < j
    case neg =>
      exact ih i j (by omega) h2 h3
    have e : wrap64 (IntKind.u64.wrap (wrap64 ((i : Int) + (j : Int))) / 2) = (((i + j) / 2 : Nat) : Int) := by
      rw [w_id (x := (i : Int) + (j : Int)) (by omega) (by omega)]
      have : IntKind.u64.wrap ((i : Int) + (j : Int)) = (i : Int) + (j : Int) := by simp [IntKind.wrap, IntKind.bits, IntKind.signed]; omega
      rw [this, w_id (by omega) (by omega)]
      omega
    have e2 : wrap64 ((((i + j) / 2 : Nat) : Int) + 1) = (((i + j) / 2 + 1 : Nat) : Int) := by rw [w_id (by omega) (by omega)]; omega
    by_cases c2 : rd l (((i + j) / 2 : Nat) : Int) < x
    · obtain ⟨q, hq⟩ := ih ((i + j) / 2 + 1) j (by omega) (by omega) h3
      refine ⟨q, Ev_succ ?_⟩
      simp only [slices_BinarySearch_int_int.l0, if_pos (show (i : Int) < (j : Int) by omega), e, e2, if_pos (show 0 ≤ (((i + j) / 2 : Nat) : Int) by omega), if_pos (show (((i + j) / 2 : Nat) : Int) < (l.length : Int) by omega), less_f, Option.bind_some, decide_eq_true c2, if_true]
      exact hq
    · obtain ⟨q, hq⟩ := ih i ((i + j) / 2) (by omega) (by omega) (by omega)
      refine ⟨q, Ev_succ ?_⟩
      simp only [slices_BinarySearch_int_int.l0, if_pos (show (i : Int) < (j : Int) by omega), e, e2, if_pos (show 0 ≤ (((i + j) / 2 : Nat) : Int) by omega), if_pos (show (((i + j) / 2 : Nat) : Int) < (l.length : Int) by omega), less_f, Option.bind_some, decide_eq_false c2, Bool.false_eq_true, if_false]
      exact hq
theorem weekday_f (d : Int) : ∃ r, date_Weekday.f d = some r ∧ 0 ≤ r ∧ r < 8 := by
  unfold date_Weekday.f date_here.f
  by_cases h : d ≥ 0
  · rw [if_pos h]
    simp only [Option.bind_some]
    by_cases c : d ≤ 73048
    · rw [decide_eq_true c, if_pos rfl]
      refine ⟨_, rfl, ?_⟩
      rw [w_id (x := d + 5) (by omega) (by omega), Int.tmod_eq_emod_of_nonneg (by omega), w_id (by omega) (by omega)]
      omega
    · rw [decide_eq_false c]
      exact ⟨0, rfl, by omega, by omega⟩
  · rw [if_neg h]
    exact ⟨0, rfl, by omega, by omega⟩
theorem workB_ev (l : List Int) (hl : l.length ≤ 1000) (d : Int) : ∃ b, Ev (fun k => workB k l d) b := by
  obtain ⟨q, hq⟩ := bs_ev l hl d l.length 0 l.length (by omega) (by omega) (by omega)
  obtain ⟨r, hr, h1, h2⟩ := weekday_f d
  refine ⟨weekB r && !q.2, ?_⟩
  unfold workB
  refine Ev_bind (a := q) hq ?_
  simp only [hr, Option.bind_some, if_pos (show 0 ≤ r ∧ r < 8 from ⟨h1, h2⟩)]
  exact Ev.now _
theorem stepL_ev (l : List Int) (hl : l.length ≤ 1000) : ∀ (n : Nat) (d : Int), -1 ≤ d → d < (n : Int) → d ≤ 73048 → ∃ v, DayE v ∧ ∃ K, ∀ k, K ≤ k → ∀ j, n + 1 ≤ j → stepL k l (-1) j d = some v := by
    intro n
    induction n with
    | zero =>
      intro d h1 h2 h3
      have c : d = -1 := by omega
      refine ⟨(0, 15), ⟨fun h => absurd h (by decide), fun _ => rfl⟩, 0, fun k _ j hj => ?_⟩
      obtain ⟨j, rfl⟩ : ∃ i, j = i + 1 := ⟨j - 1, by omega⟩
      rw [stepL, is_f]
      have : isB d = false := by subst c; rfl
      rw [this]
      rfl
    | succ n ih =>
    intro d h1 h2 h3
    by_cases c : d = -1
    · refine ⟨(0, 15), ⟨fun h => absurd h (by decide), fun _ => rfl⟩, 0, fun k _ j hj => ?_⟩
      obtain ⟨j, rfl⟩ : ∃ i, j = i + 1 := ⟨j - 1, by omega⟩
      rw [stepL, is_f]
      have : isB d = false := by subst c; rfl
      rw [this]
      rfl
    · obtain ⟨b, K1, hb⟩ := workB_ev l hl d
      have hi : isB d = true := (isB_iff d).2 (by omega)
      cases b with
      | true =>
        refine ⟨(d, 0), ⟨fun _ => ⟨by omega, h3⟩, fun h => absurd rfl h⟩, K1, fun k hk j hj => ?_⟩
        obtain ⟨j, rfl⟩ : ∃ i, j = i + 1 := ⟨j - 1, by omega⟩
        rw [stepL, is_f, hi]
        simp only [Option.bind_some, if_true]
        rw [show workB k l d = some true from hb k hk]
        rfl
      | false =>
        obtain ⟨v, hv, K2, h⟩ := ih (d - 1) (by omega) (by omega) (by omega)
        refine ⟨v, hv, max K1 K2, fun k hk j hj => ?_⟩
        obtain ⟨j, rfl⟩ : ∃ i, j = i + 1 := ⟨j - 1, by omega⟩
        rw [stepL, is_f, hi]
        simp only [Option.bind_some, if_true]
        rw [show workB k l d = some false from hb k (by omega)]
        simp only [Option.bind_some, Bool.false_eq_true, if_false]
        rw [show wrap64 (d + -1) = d - 1 by rw [w_id (by omega) (by omega)]; omega]
        exact h k (by omega) j (by omega)
theorem before_ev (l : List Int) (hl : l.length ≤ 1000) (d : Int) (h : 0 ≤ d ∧ d ≤ 73048) : ∃ v, DayE v ∧ Ev (fun k => workday_Before.f k l d) v := by
  obtain ⟨e, he⟩ := wcheck_f l hl d
  by_cases c : e = 0
  · obtain ⟨v, hv, K, hK⟩ := stepL_ev l hl 80000 (d - 1) (by omega) (by omega) (by omega)
    refine ⟨v, hv, ?_⟩
    unfold workday_Before.f workday_step.f
    have hs : Ev (fun k => (workday_check.f k l [d]).bind fun e => if e = 0 then stepL k l (-1) k (wrap64 (d + -1)) else some (0, e)) v := by
      refine Ev_bind he ?_
      simp only [if_pos c]
      rw [show wrap64 (d + -1) = d - 1 by rw [w_id (by omega) (by omega)]; omega]
      exact ⟨max K 80001, fun k hk => hK k (by omega) k (by omega)⟩
    exact Ev_id hs
  · refine ⟨(0, e), ⟨fun h => absurd h c, fun _ => rfl⟩, ?_⟩
    unfold workday_Before.f workday_step.f
    have hs : Ev (fun k => (workday_check.f k l [d]).bind fun e => if e = 0 then stepL k l (-1) k (wrap64 (d + -1)) else some (0, e)) ((0, e) : Int × Int) := by
      refine Ev_bind he ?_
      simp only [if_neg c]
      exact Ev.now _
    exact Ev_id hs
theorem ofV_dayE (y m d : Int) : DayE (ofV y m d) := by
  by_cases c : y < 2000 ∨ y > 2199 ∨ d < 1 ∨ d > daysV y m
  · have e : ofV y m d = (0, 15) := by unfold ofV; rw [if_pos c]
    rw [e]
    exact ⟨fun h => absurd h (by decide), fun _ => rfl⟩
  · have h := split_of (y := y) (m := m) (d := d) (by omega) (by omega) (by omega) (by omega)
    exact ⟨fun _ => h.1, fun hn => absurd h.2.2 hn⟩
theorem nth_ev (y m : Int) : ∃ v, DayE v ∧ Ev (fun k => date_Nth.f k y m 5 3) v := by
  unfold date_Nth.f
  simp only [if_neg (show ¬ (5 : Int) < 1 by decide), if_neg (show ¬ (5 : Int) > 7 by decide), if_neg (show ¬ (3 : Int) < 1 by decide), decide_eq_false (show ¬ (3 : Int) > 5 by decide)]
  by_cases c : (ofV y m 1).2 = 0
  · obtain ⟨r, hr, _⟩ := weekday_f (ofV y m 1).1
    refine ⟨_, ofV_dayE y m (wrap64 ((wrap64 (1 + (Int.tmod (wrap64 ((wrap64 (5 - r)) + 7)) 7))) + (wrap64 (7 * (wrap64 (3 - 1)))))), Ev_succ ?_⟩
    simp only [date_Nth.j0, Bool.false_eq_true, if_false, date_Of.f, Option.bind_some, if_pos c, hr]
    exact Ev.now _
  · refine ⟨(0, (ofV y m 1).2), ⟨fun h => absurd h c, fun _ => rfl⟩, Ev_succ ?_⟩
    simp only [date_Nth.j0, Bool.false_eq_true, if_false, date_Of.f, Option.bind_some, if_neg c]
    exact Ev.now _
theorem expiry_ev (l : List Int) (hl : l.length ≤ 1000) (y m : Int) : ∃ v, DayE v ∧ Ev (fun k => workday_Expiry.f k l y m) v := by
  obtain ⟨e, he⟩ := wCheck_f l hl
  unfold workday_Expiry.f
  by_cases c : e = 0
  case neg => exact ⟨(0, e), ⟨fun h => absurd h c, fun _ => rfl⟩, Ev_bind he (by simp only [if_neg c]; exact Ev.now _)⟩
  obtain ⟨p, hp, hn⟩ := nth_ev y m
  by_cases c2 : p.2 = 0
  case neg => exact ⟨(0, p.2), ⟨fun h => absurd h c2, fun _ => rfl⟩, Ev_bind he (by simp only [if_pos c]; exact Ev_bind hn (by simp only [if_neg c2]; exact Ev.now _))⟩
  obtain ⟨u, hu⟩ := workB_ev l hl p.1
  cases u with
  | true => exact ⟨(p.1, 0), ⟨fun _ => hp.1 c2, fun h => absurd rfl h⟩, Ev_bind he (by simp only [if_pos c]; exact Ev_bind hn (by simp only [if_pos c2]; exact Ev_bind hu (by simp only [if_true]; exact Ev.now _)))⟩
  | false =>
    obtain ⟨v, hv, hb⟩ := before_ev l hl p.1 (hp.1 c2)
    exact ⟨v, hv, Ev_bind he (by simp only [if_pos c]; exact Ev_bind hn (by simp only [if_pos c2]; exact Ev_bind hu (by simp only [Bool.false_eq_true, if_false]; exact hb)))⟩
end Go.Proofs.YtliooghmpkdmoaaGreatDoor.P
end
section
namespace Go.Proofs.YtliooghmpkdmoaaGreatDoor.P
open Go.RowKit Go.Proofs.YtliooghmpkdmoaaGreatDoorW.PrintWords Go.Proofs.YtliooghmpkdmoaaGreatDoorW.PrintMore Go.Proofs.YtliooghmpkdmoaaGreatDoor.X
set_option maxRecDepth 100000 in
theorem goes06 : Ev (fun k => contangotop_goes06.f k) true := Ev.of (k := 60) (contangotop_goes06.mono) (by decide +kernel)
end Go.Proofs.YtliooghmpkdmoaaGreatDoor.P
end
section
namespace Go.Proofs.YtliooghmpkdmoaaGreatDoor.Pure
set_option linter.unusedVariables false
set_option linter.unusedSimpArgs false
open Go.RowKit Go.Proofs.YtliooghmpkdmoaaGreatDoorW.PrintWords Go.Proofs.YtliooghmpkdmoaaGreatDoorW.PrintMore Go.Proofs.YtliooghmpkdmoaaGreatDoor.X Go.Proofs.YtliooghmpkdmoaaGreatDoor.P
def tdL (t : Trd) (last day : Int) : Trd := ⟨t.f0, day, t.f2, ⟨t.f3.f0, t.f3.f1, last, t.f3.f3⟩, t.f4, t.f5, t.f6, t.f7⟩
theorem chk_day (t : Trd) (ps : List Prod9) (ms : List Mem) {last a : Int} (ha : 0 ≤ a ∧ a ≤ last) (hl : last ≤ 73048) : chkT (tdL t last a) ps ms = if chkE ps (tdL t last 0).f3 = 0 then chkI (tdL t last 0) ps ms else chkE ps (tdL t last 0).f3 := by
  unfold chkT
  have e : (tdL t last a).f3 = (tdL t last 0).f3 := rfl
  have e2 : chkI (tdL t last a) ps ms = chkI (tdL t last 0) ps ms := rfl
  rw [e, e2]
  rw [if_neg (show ¬ (((tdL t last a).f1 < 0 ∨ (tdL t last a).f1 > 73048) ∨ (tdL t last 0).f3.f2 < (tdL t last a).f1) by show ¬ ((a < 0 ∨ a > 73048) ∨ last < a); omega)]
theorem chk_late (t : Trd) (ps : List Prod9) (ms : List Mem) {last a : Int} (ha : last < a) : chkT (tdL t last a) ps ms = if chkE ps (tdL t last 0).f3 = 0 then 15 else chkE ps (tdL t last 0).f3 := by
  unfold chkT
  have e : (tdL t last a).f3 = (tdL t last 0).f3 := rfl
  rw [e]
  rw [if_pos (show ((tdL t last a).f1 < 0 ∨ (tdL t last a).f1 > 73048) ∨ (tdL t last 0).f3.f2 < (tdL t last a).f1 from Or.inr (show last < a from ha))]
theorem lives_end (l : List Int) (y m at_ : Int) (ps : List Prod9) (ms : List Mem) (t : Trd) (day e : Int) (hl : ps.length ≤ 4611686018427387904) (hd : 0 ≤ day ∧ day ≤ 73048) :
    Ev (fun k => contangotop_TopLives.j0 k day e false l y m at_ ps ms t.f0 t.f1 t.f2 t.f3.f0 t.f3.f1 t.f3.f2 t.f3.f3 t.f4 t.f5 t.f6.f0 t.f6.f1 t.f7.f0 t.f7.f1) true := by
  refine Ev_succ ?_
  simp only [contangotop_TopLives.j0, Bool.false_eq_true, if_false]
  have w1 : wrap64 (day + 1) = day + 1 := w_id (by omega) (by omega)
  have w2 : IntKind.u64.wrap (day + 1) = day + 1 := by simp [IntKind.wrap, IntKind.bits, IntKind.signed]; omega
  have w3 : 0 ≤ IntKind.u64.wrap at_ := by simp [IntKind.wrap, IntKind.bits, IntKind.signed]; omega
  rw [w1, w2]
  have hz : 0 ≤ wrap64 (Int.tmod (IntKind.u64.wrap at_) (day + 1)) ∧ wrap64 (Int.tmod (IntKind.u64.wrap at_) (day + 1)) ≤ day := by
    rw [Int.tmod_eq_emod_of_nonneg w3]
    have h1 := Int.emod_nonneg (IntKind.u64.wrap at_) (show day + 1 ≠ 0 by omega)
    have h2 := Int.emod_lt_of_pos (IntKind.u64.wrap at_) (show 0 < day + 1 by omega)
    rw [w_id (by omega) (by omega)]
    omega
  generalize wrap64 (Int.tmod (IntKind.u64.wrap at_) (day + 1)) = z at hz ⊢
  refine Ev_bind (tcheck_f (tdL t day day) ps ms hl) ?_
  simp only [if_neg (show ¬ day + 1 = 0 by omega)]
  refine Ev_bind (tcheck_f (tdL t day z) ps ms hl) ?_
  refine Ev_bind (tcheck_f (tdL t day (day + 1)) ps ms hl) ?_
  rw [chk_day t ps ms (show 0 ≤ day ∧ day ≤ day from ⟨hd.1, Int.le_refl _⟩) hd.2, chk_day t ps ms hz hd.2, chk_late t ps ms (show day < day + 1 by omega)]
  simp only [if_true]
  by_cases c : chkE ps (tdL t day 0).f3 = 0
  · simp only [if_pos c]
    by_cases c2 : chkI (tdL t day 0) ps ms = 0
    · simp only [if_pos c2, if_true]
      exact Ev_id goes06
    · simp only [if_neg c2]
      exact Ev_id goes06
  · simp only [if_neg c]
    exact Ev_id goes06
theorem TopLives : ∀ (x0 : S32), ok32 x0 → ∃ k, X.contangotop_TopLives.f k x0.f0 x0.f1 x0.f2 x0.f3 x0.f4 x0.f5 x0.f6.f0 x0.f6.f1 x0.f6.f2 x0.f6.f3.f0 x0.f6.f3.f1 x0.f6.f3.f2 x0.f6.f3.f3 x0.f6.f4 x0.f6.f5 x0.f6.f6.f0 x0.f6.f6.f1 x0.f6.f7.f0 x0.f6.f7.f1 = some true := by
  intro x h
  obtain ⟨o0, o1, o2, o3, o4, o5, o6⟩ := h
  have hl : x.f4.length ≤ 4611686018427387904 := by have := o4.2.1; omega
  refine Ev.rounds ?_
  unfold contangotop_TopLives.f
  by_cases c : (x.f0.length : Int) > 60
  · simp only [if_pos c]
    exact Ev_id goes06
  simp only [if_neg c]
  obtain ⟨v, hv, he⟩ := expiry_ev x.f0 (by omega) x.f1 x.f2
  refine Ev_bind he ?_
  by_cases c2 : v.2 = 0
  · have hd := hv.1 c2
    simp only [if_pos c2, if_neg (show ¬ v.1 < 0 by omega), decide_eq_false (show ¬ v.1 > 73048 by omega)]
    exact lives_end _ _ _ _ _ _ _ _ _ hl hd
  · simp only [if_neg c2]
    refine Ev_succ ?_
    simp only [contangotop_TopLives.j0, if_true, if_neg c2, if_pos (hv.2 c2)]
    exact Ev_id goes06
end Go.Proofs.YtliooghmpkdmoaaGreatDoor.Pure
end
