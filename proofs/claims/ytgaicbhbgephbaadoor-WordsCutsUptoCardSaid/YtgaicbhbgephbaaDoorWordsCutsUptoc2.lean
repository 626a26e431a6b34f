/- For WordsCuts: contracts, and facts on lists and numbers, that it uses (part 2). -/
import Derived.ChangeArms
import Derived.Deep.Slices
import Derived.Laws.BitsLemmas
import Derived.Laws.Strings
import Derived.Lib.Bytealg
import Derived.Lib.SplitLaws
import Derived.OpenShut
import Derived.SizedLaws
import Derived.Test.YtgaicbhbgephbaaDoorWordsCutsUptoc1
import Derived.WideShapes
section
namespace Go.Proofs.YtgaicbhbgephbaaDoor.X
open Go.RowKit Go.Proofs.YtgaicbhbgephbaaDoorW.PrintWords Go.Proofs.YtgaicbhbgephbaaDoorW.PrintLast Go.Proofs.YtgaicbhbgephbaaDoorW.PrintMore
attribute [local go_sem] max2_int min2_int max_two min_two max_three min_three max_four min_four
set_option linter.unusedVariables false
set_option linter.unusedSimpArgs false
mutual
def contangoref03_Fields.l0 : Nat → ByteArray → List ByteArray → Int → Int → Option (List ByteArray × Int)
  | 0, _, _, _, _ => none
  | k + 1, x0, x4, x5, x6 => if x6 ≤ (x0.size : Int) then (if x6 < (x0.size : Int) then (if 0 ≤ x6 then (if (bt x0 x6) < 32 then (contangoref03_Fields.j1 k x0 x4 x5 x6 true) else (contangoref03_Fields.j1 k x0 x4 x5 x6 (decide ((bt x0 x6) > 126)))) else (none)) else (contangoref03_Fields.j1 k x0 x4 x5 x6 false)) else (some (x4, 0))
def contangoref03_Fields.j1 : Nat → ByteArray → List ByteArray → Int → Int → Bool → Option (List ByteArray × Int)
  | 0, _, _, _, _, _ => none
  | k + 1, x0, x4, x5, x6, x33 => if x33 = true then (some (([] : List ByteArray), 5)) else (if x6 < (x0.size : Int) then (if 0 ≤ x6 then (contangoref03_Fields.j2 k x0 x4 x5 x6 ((bt x0 x6) != 32)) else (none)) else (contangoref03_Fields.j2 k x0 x4 x5 x6 false))
def contangoref03_Fields.j2 : Nat → ByteArray → List ByteArray → Int → Int → Bool → Option (List ByteArray × Int)
  | 0, _, _, _, _, _ => none
  | k + 1, x0, x4, x5, x6, x43 => if x43 = true then (contangoref03_Fields.l0 k x0 x4 x5 (wrap64 (x6 + 1))) else (if x6 = x5 then (some (([] : List ByteArray), 5)) else (if 0 ≤ x5 then (if x5 ≤ x6 then (if x6 ≤ (x0.size : Int) then (if x4.length < 8796093022208 then (contangoref03_Fields.l0 k x0 (x4 ++ [x0.extract (x5 : Int).toNat (x6 : Int).toNat]) (wrap64 (x6 + 1)) (wrap64 (x6 + 1))) else (none)) else (none)) else (none)) else (none)))
end
def contangoref03_Fields.f (k : Nat) (a0 : ByteArray) : Option (List ByteArray × Int) := if (a0.size : Int) > 512 then (some (([] : List ByteArray), 8)) else (if a0.toList = ([] : List UInt8) then (some (([] : List ByteArray), 0)) else (contangoref03_Fields.l0 k a0 ([] : List ByteArray) 0 0))
set_option maxHeartbeats 8000000 in
set_option maxRecDepth 100000 in
theorem contangoref03_Fields.calls (k : Nat) (a0 : ByteArray) (r1 : List ByteArray) (r2 : Int) (w : World) (h : contangoref03_Fields.f k a0 = some (r1, r2)) :
    Calls Tryd.prog 16 #[.string a0] w fun e w' => ∃ v0_ : Value, e = .returned (.tuple #[v0_, .int .i64 r2]) ∧ Kd.R Kd.string 9 w' w.heap.size (fun _ => True) v0_ r1 ∧ Below w.heap.size w w' := by
  have HB := Aside0.mk (Below.refl w.heap.size w)
  have H : (if (a0.size : Int) > 512 then (some (([] : List ByteArray), 8)) else (if a0.toList = ([] : List UInt8) then (some (([] : List ByteArray), 0)) else (contangoref03_Fields.l0 k a0 ([] : List ByteArray) 0 0))) = some (r1, r2) := h
  clear h
  by_cases c2 : (a0.size : Int) > 512
  · rw [if_pos c2] at H
    have c2b0 : decide (512 < (a0.size : Int)) = true := decide_eq_true c2
    have c2b1 : decide (512 < a0.size) = true := decide_eq_true (by omega)
    clear c2
    simp only [Option.some.injEq, Prod.mk.injEq] at H
    obtain ⟨rfl, rfl⟩ := H
    go_enter Tryd.func16, Tryd.ntmps16
    go_wp2
    go_ret2
    exact ⟨_, by first | rfl | (simp [errW_none, errW_some] <;> rfl) | (simp [*, errW_none, errW_some] <;> rfl), by first | exact Kd.R_nil _ _ _ _ _ | exact Kd.N_nil _ _ _ _ _ | exact Kd.V_nil _ _ _ _ _ | exact Kd.Q_nil _ _ _ _ _ | exact Kd.S_nil _ _ _ _ _, by repeat (first | (with_reducible first | exact HB.out | apply below_alloc | apply pw_below_drewN | apply below_drew1) | exact HB.out)⟩
  · rw [if_neg c2] at H
    have c2b0 : decide (512 < (a0.size : Int)) = false := decide_eq_false c2
    have c2b1 : decide (512 < a0.size) = false := decide_eq_false (by omega)
    clear c2
    by_cases c3 : a0.toList = ([] : List UInt8)
    · rw [if_pos c3] at H
      have c3b0 : (a0.toList == ([] : List UInt8)) = true := beq_iff_eq.mpr c3
      have c3b1 : (a0.toList != ([] : List UInt8)) = false := bne_eq_false_iff_eq.mpr c3
      clear c3
      simp only [Option.some.injEq, Prod.mk.injEq] at H
      obtain ⟨rfl, rfl⟩ := H
      go_enter Tryd.func16, Tryd.ntmps16
      go_wp2
      go_ret2
      exact ⟨_, by first | rfl | (simp [errW_none, errW_some] <;> rfl) | (simp [*, errW_none, errW_some] <;> rfl), by first | exact Kd.R_nil _ _ _ _ _ | exact Kd.N_nil _ _ _ _ _ | exact Kd.V_nil _ _ _ _ _ | exact Kd.Q_nil _ _ _ _ _ | exact Kd.S_nil _ _ _ _ _, by repeat (first | (with_reducible first | exact HB.out | apply below_alloc | apply pw_below_drewN | apply below_drew1) | exact HB.out)⟩
    · rw [if_neg c3] at H
      have c3b0 : (a0.toList == ([] : List UInt8)) = false := beq_eq_false_iff_ne.mpr c3
      have c3b1 : (a0.toList != ([] : List UInt8)) = true := bne_iff_ne.mpr c3
      have H' := Aside0.mk H
      clear H
      go_enter Tryd.func16, Tryd.ntmps16
      go_wp2
      go_loopg [4, 5, 6] k (fun kq v4 v5 v6 w' => ∃ (x4_1 : List ByteArray) (x5_1 : Int) (x6_1 : Int), v5 = .int .i64 x5_1 ∧ v6 = .int .i64 x6_1 ∧ Aside0 (contangoref03_Fields.l0 kq a0 x4_1 x5_1 x6_1 = some (r1, r2)) ∧ Aside0 (kq ≤ k) ∧ Aside0 (Kd.R Kd.string 9 w' w.heap.size (fun _ => True) v4 x4_1) ∧ Aside0 (Below w.heap.size w w'))
      case atStart => exact ⟨(([] : List ByteArray)), (0), (0), (by first | rfl | (simp; done) | (simp [*]; done)), (by first | rfl | (simp; done) | (simp [*]; done)), H', ⟨Nat.le_refl _⟩, ⟨by first | exact Kd.R_nil _ _ _ _ _ | exact Kd.N_nil _ _ _ _ _ | exact Kd.V_nil _ _ _ _ _ | exact Kd.Q_nil _ _ _ _ _ | exact Kd.S_nil _ _ _ _ _⟩, ⟨by repeat (first | (with_reducible first | exact HB.out | apply below_alloc | apply pw_below_drewN | apply below_drew1) | exact HB.out)⟩⟩
      case round =>
        clear H'
        try clear c1
        try clear c2
        try clear c2b0
        try clear c2b1
        try clear p2
        try clear c3
        try clear c3b0
        try clear c3b1
        obtain ⟨x4_1, x5_1, x6_1, rfl, rfl, HA, HK1, HO_4, HB⟩ := hrel
        cases gk with
        | zero => exact absurd HA.out (by simp [contangoref03_Fields.l0])
        | succ k1 =>
          have H := HA.out
          clear HA
          simp only [contangoref03_Fields.l0] at H
          by_cases c4 : x6_1 ≤ (a0.size : Int)
          · rw [if_pos c4] at H
            have c4b0 : decide (x6_1 ≤ (a0.size : Int)) = true := decide_eq_true c4
            clear c4
            have HC5 := Aside0.mk H
            clear H
            go_upto_region 10 with (fail)
            go_cut [33] (fun v33 wc => ∃ (kq : Nat) (x33_4 : Bool), v33 = .bool x33_4 ∧ Aside0 (contangoref03_Fields.j1 kq a0 x4_1 x5_1 x6_1 x33_4 = some (r1, r2)) ∧ Aside0 (kq ≤ k1) ∧ Aside0 (Kd.R Kd.string 9 wc w.heap.size (fun _ => True) u4 x4_1) ∧ Aside0 (Below w.heap.size w wc))
            case first =>
              have H := HC5.out
              clear HC5
              by_cases c6 : x6_1 < (a0.size : Int)
              · rw [if_pos c6] at H
                have c6b0 : decide (x6_1 < (a0.size : Int)) = true := decide_eq_true c6
                clear c6
                (first | rw [c6b0] | (simp only [i64_w, i32_w]; rw [c6b0]) | skip)
                by_cases c7 : 0 ≤ x6_1
                · rw [if_pos c7] at H
                  have c7b0 : decide (0 ≤ x6_1) = true := decide_eq_true c7
                  clear c7
                  by_cases c9 : (bt a0 x6_1) < 32
                  · rw [if_pos c9] at H
                    have c9b0 : decide ((bt a0 x6_1) < 32) = true := decide_eq_true c9
                    clear c9
                    have H' := Aside0.mk H
                    clear H
                    have p8 : 0 ≤ (x6_1 : Int) := of_decide_eq_true (by first | (with_reducible assumption) | assumption)
                    have q8 : x6_1 < (a0.size : Int) := of_decide_eq_true (by first | (with_reducible assumption) | assumption)
                    have hx8 := bt_at a0 x6_1
                    replace p8 := eq_true p8
                    replace q8 := eq_true q8
                    go_wp2
                    go_meet
                    case rel => exact ⟨_, (true), (by first | rfl | (simp; done) | (simp [*]; done)), H', ⟨by have := HK1.out; first | omega | exact Nat.le_refl _⟩, ⟨by (with_reducible repeat (first | apply Kd.R_alloc | apply Kd.R_drewN | apply Kd.R_drew)); exact HO_4.out⟩, ⟨by repeat (first | (with_reducible first | exact HB.out | apply below_alloc | apply pw_below_drewN | apply below_drew1) | exact HB.out)⟩⟩
                  · rw [if_neg c9] at H
                    have c9b0 : decide ((bt a0 x6_1) < 32) = false := decide_eq_false c9
                    clear c9
                    have H' := Aside0.mk H
                    clear H
                    have p8 : 0 ≤ (x6_1 : Int) := of_decide_eq_true (by first | (with_reducible assumption) | assumption)
                    have q8 : x6_1 < (a0.size : Int) := of_decide_eq_true (by first | (with_reducible assumption) | assumption)
                    have hx8 := bt_at a0 x6_1
                    replace p8 := eq_true p8
                    replace q8 := eq_true q8
                    have p10 : 0 ≤ (x6_1 : Int) := of_decide_eq_true (by first | (with_reducible assumption) | assumption)
                    have q10 : x6_1 < (a0.size : Int) := of_decide_eq_true (by first | (with_reducible assumption) | assumption)
                    have hx10 := bt_at a0 x6_1
                    replace p10 := eq_true p10
                    replace q10 := eq_true q10
                    go_wp2
                    go_meet
                    case rel => exact ⟨_, (decide ((bt a0 x6_1) > 126)), (by first | rfl | (simp; done) | (simp [*]; done)), H', ⟨by have := HK1.out; first | omega | exact Nat.le_refl _⟩, ⟨by (with_reducible repeat (first | apply Kd.R_alloc | apply Kd.R_drewN | apply Kd.R_drew)); exact HO_4.out⟩, ⟨by repeat (first | (with_reducible first | exact HB.out | apply below_alloc | apply pw_below_drewN | apply below_drew1) | exact HB.out)⟩⟩
                · rw [if_neg c7] at H
                  exact absurd H (by simp)
              · rw [if_neg c6] at H
                have c6b0 : decide (x6_1 < (a0.size : Int)) = false := decide_eq_false c6
                clear c6
                (first | rw [c6b0] | (simp only [i64_w, i32_w]; rw [c6b0]) | skip)
                have H' := Aside0.mk H
                clear H
                go_wp2
                go_meet
                case rel => exact ⟨_, (false), (by first | rfl | (simp; done) | (simp [*]; done)), H', ⟨by have := HK1.out; first | omega | exact Nat.le_refl _⟩, ⟨by (with_reducible repeat (first | apply Kd.R_alloc | apply Kd.R_drewN | apply Kd.R_drew)); exact HO_4.out⟩, ⟨by repeat (first | (with_reducible first | exact HB.out | apply below_alloc | apply pw_below_drewN | apply below_drew1) | exact HB.out)⟩⟩
            case rest =>
              clear HC5
              try clear c1
              try clear p1
              try clear q1
              try clear hx1
              try clear c2
              try clear c2b0
              try clear c2b1
              try clear p2
              try clear c3
              try clear c3b0
              try clear c3b1
              try clear c4
              try clear c4b0
              try clear c6
              try clear c6b0
              try clear c7
              try clear c7b0
              try clear p8
              try clear q8
              try clear hx8
              try clear c9
              try clear c9b0
              try clear p10
              try clear q10
              try clear hx10
              try clear p10
              try clear p2
              try clear p8
              try clear q10
              try clear q8
              obtain ⟨kq, x33_4, rfl, HA, HJ4, HO_4, HB⟩ := hcut
              cases kq with
              | zero => exact absurd HA.out (by simp [contangoref03_Fields.j1])
              | succ kj4 =>
                have H := HA.out
                clear HA
                simp only [contangoref03_Fields.j1] at H
                by_cases c11 : x33_4 = true
                · subst c11
                  have H1 : (some (([] : List ByteArray), 5)) = some (r1, r2) := by rw [if_pos rfl] at H; exact H
                  clear H
                  have H := H1
                  clear H1
                  simp only [Option.some.injEq, Prod.mk.injEq] at H
                  obtain ⟨rfl, rfl⟩ := H
                  go_wp2
                  go_ret2
                  exact ⟨_, by first | rfl | (simp [errW_none, errW_some] <;> rfl) | (simp [*, errW_none, errW_some] <;> rfl), by first | exact Kd.R_nil _ _ _ _ _ | exact Kd.N_nil _ _ _ _ _ | exact Kd.V_nil _ _ _ _ _ | exact Kd.Q_nil _ _ _ _ _ | exact Kd.S_nil _ _ _ _ _, by repeat (first | (with_reducible first | exact HB.out | apply below_alloc | apply pw_below_drewN | apply below_drew1) | exact HB.out)⟩
                · replace c11 := Bool.eq_false_iff.mpr c11
                  subst c11
                  have H1 : (if x6_1 < (a0.size : Int) then (if 0 ≤ x6_1 then (contangoref03_Fields.j2 kj4 a0 x4_1 x5_1 x6_1 ((bt a0 x6_1) != 32)) else (none)) else (contangoref03_Fields.j2 kj4 a0 x4_1 x5_1 x6_1 false)) = some (r1, r2) := by rw [if_neg (show ¬ (false = true) by decide)] at H; exact H
                  clear H
                  have H := H1
                  clear H1
                  have HC12 := Aside0.mk H
                  clear H
                  go_upto_region 12 with (fail)
                  go_cut [43] (fun v43 wc => ∃ (kq : Nat) (x43_11 : Bool), v43 = .bool x43_11 ∧ Aside0 (contangoref03_Fields.j2 kq a0 x4_1 x5_1 x6_1 x43_11 = some (r1, r2)) ∧ Aside0 (kq ≤ kj4) ∧ Aside0 (Kd.R Kd.string 9 wc w.heap.size (fun _ => True) u4 x4_1) ∧ Aside0 (Below w.heap.size w wc))
                  case first =>
                    have H := HC12.out
                    clear HC12
                    by_cases c13 : x6_1 < (a0.size : Int)
                    · rw [if_pos c13] at H
                      have c13b0 : decide (x6_1 < (a0.size : Int)) = true := decide_eq_true c13
                      clear c13
                      (first | rw [c13b0] | (simp only [i64_w, i32_w]; rw [c13b0]) | skip)
                      by_cases c14 : 0 ≤ x6_1
                      · rw [if_pos c14] at H
                        have c14b0 : decide (0 ≤ x6_1) = true := decide_eq_true c14
                        clear c14
                        have H' := Aside0.mk H
                        clear H
                        have p15 : 0 ≤ (x6_1 : Int) := of_decide_eq_true (by first | (with_reducible assumption) | assumption)
                        have q15 : x6_1 < (a0.size : Int) := of_decide_eq_true (by first | (with_reducible assumption) | assumption)
                        have hx15 := bt_at a0 x6_1
                        replace p15 := eq_true p15
                        replace q15 := eq_true q15
                        go_wp2
                        go_meet
                        case rel => exact ⟨_, (((bt a0 x6_1) != 32)), (by first | rfl | (simp; done) | (simp [*]; done)), H', ⟨by have := HK1.out; have := HJ4.out; first | omega | exact Nat.le_refl _⟩, ⟨by (with_reducible repeat (first | apply Kd.R_alloc | apply Kd.R_drewN | apply Kd.R_drew)); exact HO_4.out⟩, ⟨by repeat (first | (with_reducible first | exact HB.out | apply below_alloc | apply pw_below_drewN | apply below_drew1) | exact HB.out)⟩⟩
                      · rw [if_neg c14] at H
                        exact absurd H (by simp)
                    · rw [if_neg c13] at H
                      have c13b0 : decide (x6_1 < (a0.size : Int)) = false := decide_eq_false c13
                      clear c13
                      (first | rw [c13b0] | (simp only [i64_w, i32_w]; rw [c13b0]) | skip)
                      have H' := Aside0.mk H
                      clear H
                      go_wp2
                      go_meet
                      case rel => exact ⟨_, (false), (by first | rfl | (simp; done) | (simp [*]; done)), H', ⟨by have := HK1.out; have := HJ4.out; first | omega | exact Nat.le_refl _⟩, ⟨by (with_reducible repeat (first | apply Kd.R_alloc | apply Kd.R_drewN | apply Kd.R_drew)); exact HO_4.out⟩, ⟨by repeat (first | (with_reducible first | exact HB.out | apply below_alloc | apply pw_below_drewN | apply below_drew1) | exact HB.out)⟩⟩
                  case rest =>
                    clear HC12
                    try clear c1
                    try clear p1
                    try clear q1
                    try clear hx1
                    try clear c2
                    try clear c2b0
                    try clear c2b1
                    try clear p2
                    try clear c3
                    try clear c3b0
                    try clear c3b1
                    try clear c4
                    try clear c4b0
                    try clear c6
                    try clear c6b0
                    try clear c7
                    try clear c7b0
                    try clear p8
                    try clear q8
                    try clear hx8
                    try clear c9
                    try clear c9b0
                    try clear p10
                    try clear q10
                    try clear hx10
                    try clear c11
                    try clear c13
                    try clear c13b0
                    try clear c14
                    try clear c14b0
                    try clear p15
                    try clear q15
                    try clear hx15
                    try clear p1
                    try clear p10
                    try clear p15
                    try clear p2
                    try clear p8
                    try clear q1
                    try clear q10
                    try clear q15
                    try clear q8
                    obtain ⟨kq, x43_11, rfl, HA, HJ11, HO_4, HB⟩ := hcut
                    cases kq with
                    | zero => exact absurd HA.out (by simp [contangoref03_Fields.j2])
                    | succ kj11 =>
                      have H := HA.out
                      clear HA
                      simp only [contangoref03_Fields.j2] at H
                      by_cases c16 : x43_11 = true
                      · subst c16
                        have H1 : (contangoref03_Fields.l0 kj11 a0 x4_1 x5_1 (wrap64 (x6_1 + 1))) = some (r1, r2) := by rw [if_pos rfl] at H; exact H
                        clear H
                        have H := H1
                        clear H1
                        have H' := Aside0.mk H
                        clear H
                        go_wp2
                        go_roundg kj11
                        case measure => have := HK1.out; have := HJ4.out; have := HJ11.out; omega
                        case rel => exact ⟨(x4_1), (x5_1), (wrap64 (x6_1 + 1)), (by first | rfl | (simp; done) | (simp [*]; done)), (by first | rfl | (simp; done) | (simp [*]; done)), H', ⟨by have := HK1.out; have := HJ4.out; have := HJ11.out; omega⟩, ⟨by (with_reducible repeat (first | apply Kd.R_alloc | apply Kd.R_drewN | apply Kd.R_drew)); exact HO_4.out⟩, ⟨by repeat (first | (with_reducible first | exact HB.out | apply below_alloc | apply pw_below_drewN | apply below_drew1) | exact HB.out)⟩⟩
                      · replace c16 := Bool.eq_false_iff.mpr c16
                        subst c16
                        have H1 : (if x6_1 = x5_1 then (some (([] : List ByteArray), 5)) else (if 0 ≤ x5_1 then (if x5_1 ≤ x6_1 then (if x6_1 ≤ (a0.size : Int) then (if x4_1.length < 8796093022208 then (contangoref03_Fields.l0 kj11 a0 (x4_1 ++ [a0.extract (x5_1 : Int).toNat (x6_1 : Int).toNat]) (wrap64 (x6_1 + 1)) (wrap64 (x6_1 + 1))) else (none)) else (none)) else (none)) else (none))) = some (r1, r2) := by rw [if_neg (show ¬ (false = true) by decide)] at H; exact H
                        clear H
                        have H := H1
                        clear H1
                        by_cases c17 : x6_1 = x5_1
                        · rw [if_pos c17] at H
                          have c17b0 : (x6_1 == x5_1) = true := beq_iff_eq.mpr c17
                          have c17b1 : (x6_1 != x5_1) = false := bne_eq_false_iff_eq.mpr c17
                          clear c17
                          simp only [Option.some.injEq, Prod.mk.injEq] at H
                          obtain ⟨rfl, rfl⟩ := H
                          go_wp2
                          go_ret2
                          exact ⟨_, by first | rfl | (simp [errW_none, errW_some] <;> rfl) | (simp [*, errW_none, errW_some] <;> rfl), by first | exact Kd.R_nil _ _ _ _ _ | exact Kd.N_nil _ _ _ _ _ | exact Kd.V_nil _ _ _ _ _ | exact Kd.Q_nil _ _ _ _ _ | exact Kd.S_nil _ _ _ _ _, by repeat (first | (with_reducible first | exact HB.out | apply below_alloc | apply pw_below_drewN | apply below_drew1) | exact HB.out)⟩
                        · rw [if_neg c17] at H
                          have c17b0 : (x6_1 == x5_1) = false := beq_eq_false_iff_ne.mpr c17
                          have c17b1 : (x6_1 != x5_1) = true := bne_iff_ne.mpr c17
                          by_cases c18 : 0 ≤ x5_1
                          · rw [if_pos c18] at H
                            have c18b0 := eq_true c18
                            have c18b1 : decide (0 ≤ x5_1) = true := decide_eq_true c18
                            clear c18
                            by_cases c19 : x5_1 ≤ x6_1
                            · rw [if_pos c19] at H
                              have c19b0 := eq_true c19
                              have c19b1 : decide (x5_1 ≤ x6_1) = true := decide_eq_true c19
                              clear c19
                              by_cases c20 : x6_1 ≤ (a0.size : Int)
                              · rw [if_pos c20] at H
                                have c20b0 := eq_true c20
                                have c20b1 : decide (x6_1 ≤ (a0.size : Int)) = true := decide_eq_true c20
                                clear c20
                                by_cases c21 : x4_1.length < 8796093022208
                                · rw [if_pos c21] at H
                                  have LMc21 := Aside0.mk c21
                                  clear c21
                                  obtain ⟨y101, hy101⟩ : ∃ y_ : List ByteArray, y_ = (x4_1 ++ [a0.extract (x5_1 : Int).toNat (x6_1 : Int).toNat]) := ⟨_, rfl⟩
                                  replace H : (contangoref03_Fields.l0 kj11 a0 y101 (wrap64 (x6_1 + 1)) (wrap64 (x6_1 + 1))) = some (r1, r2) := by first | (rw [hy101]; with_reducible exact H) | (have H2_ := (Option.bind_some _ _).symm.trans H; rw [hy101]; with_reducible exact H2_) | (have H2_ := (Option.bind_some _ _).symm.trans H; with_reducible exact H2_) | with_reducible exact H | (rw [hy101]; exact H) | exact H
                                  have Ny101 := Aside0.mk hy101
                                  clear hy101
                                  have H' := Aside0.mk H
                                  clear H
                                  go_wp2_with (first | ((with_reducible refine gate_builtin (b := .append) (xs := #[.tmp 47, .tmp 52]) rfl ?_); at_builtin; refine Kd.R_append Kd.string (w0 := w) w.heap.size rfl (.tmp 47) (.tmp 52) 29 9 (.string ⟨#[]⟩) 16 rfl Tryd.underlying29 info9 rfl (by decide) (by omega) u4 x4_1 (a0.extract (x5_1 : Int).toNat (x6_1 : Int).toNat) [.string (a0.extract (x5_1 : Int).toNat (x6_1 : Int).toNat)] (fun _ => True) (fun _ => False) rfl rfl ?aP (fun _ hk => hk.elim) ?aF ?aO ?aB ?aS ?aL ?_; (case aP => exact rfl); (case aB => exact (by repeat (first | (with_reducible first | exact HB.out | apply below_alloc | apply pw_below_drewN | apply below_drew1) | exact HB.out))); (case aF => exact (fun _ _ => trivial)); (case aO => exact (by (with_reducible repeat (first | apply Kd.R_alloc | apply Kd.R_drewN | apply Kd.R_drew)); exact HO_4.out)); (case aS => exact (below_size (by repeat (first | (with_reducible first | exact HB.out | apply below_alloc | apply pw_below_drewN | apply below_drew1) | exact HB.out)))); (case aL => have := LMc21.out; omega); intro v102 w22 ho hb hg hat; rw [← Ny101.out] at ho; have n0_ := Aside0.mk (hb); have n1_ := Aside0.mk (ho); clear HB; clear HO_4; have HB := n0_; have HO103 := n1_; clear n0_ n1_; clear ho hb hg hat))
                                  go_roundg kj11
                                  case measure => have := HK1.out; have := HJ4.out; have := HJ11.out; omega
                                  case rel => exact ⟨(y101), (wrap64 (x6_1 + 1)), (wrap64 (x6_1 + 1)), (by first | rfl | (simp; done) | (simp [*]; done)), (by first | rfl | (simp; done) | (simp [*]; done)), H', ⟨by have := HK1.out; have := HJ4.out; have := HJ11.out; omega⟩, ⟨by (with_reducible repeat (first | apply Kd.R_alloc | apply Kd.R_drewN | apply Kd.R_drew)); exact HO103.out⟩, ⟨by repeat (first | (with_reducible first | exact HB.out | apply below_alloc | apply pw_below_drewN | apply below_drew1) | exact HB.out)⟩⟩
                                · rw [if_neg c21] at H
                                  exact absurd H (by simp)
                              · rw [if_neg c20] at H
                                exact absurd H (by simp)
                            · rw [if_neg c19] at H
                              exact absurd H (by simp)
                          · rw [if_neg c18] at H
                            exact absurd H (by simp)
          · rw [if_neg c4] at H
            have c4b0 : decide (x6_1 ≤ (a0.size : Int)) = false := decide_eq_false c4
            clear c4
            simp only [Option.some.injEq, Prod.mk.injEq] at H
            obtain ⟨rfl, rfl⟩ := H
            go_wp2
            go_ret2
            exact ⟨_, by first | rfl | (simp [errW_none, errW_some] <;> rfl) | (simp [*, errW_none, errW_some] <;> rfl), by (with_reducible repeat (first | apply Kd.R_alloc | apply Kd.R_drewN | apply Kd.R_drew)); exact HO_4.out, by repeat (first | (with_reducible first | exact HB.out | apply below_alloc | apply pw_below_drewN | apply below_drew1) | exact HB.out)⟩
end Go.Proofs.YtgaicbhbgephbaaDoor.X
end
section
namespace Go.Proofs.YtgaicbhbgephbaaDoor.X
open Go.RowKit Go.Proofs.YtgaicbhbgephbaaDoorW.PrintWords Go.Proofs.YtgaicbhbgephbaaDoorW.PrintLast Go.Proofs.YtgaicbhbgephbaaDoorW.PrintMore
attribute [local go_sem] max2_int min2_int max_two min_two max_three min_three max_four min_four
set_option linter.unusedVariables false
set_option linter.unusedSimpArgs false
def contangoref03_Join.l0 : Nat → List ByteArray → ByteArray → Int → Option (ByteArray)
  | 0, _, _, _ => none
  | k + 1, x0, x3, x4 => if x4 < (x0.length : Int) then (if x4 > 0 then (if x3.size + 1 ≤ 9223372036854775807 then (if 0 ≤ x4 then (if (x3 ++ (⟨#[32]⟩ : ByteArray)).size + (rdOf ByteArray.empty x0 x4).size ≤ 9223372036854775807 then (contangoref03_Join.l0 k x0 ((x3 ++ (⟨#[32]⟩ : ByteArray)) ++ (rdOf ByteArray.empty x0 x4)) (wrap64 (x4 + 1))) else (none)) else (none)) else (none)) else (if 0 ≤ x4 then (if x3.size + (rdOf ByteArray.empty x0 x4).size ≤ 9223372036854775807 then (contangoref03_Join.l0 k x0 (x3 ++ (rdOf ByteArray.empty x0 x4)) (wrap64 (x4 + 1))) else (none)) else (none))) else (some x3)
def contangoref03_Join.f (k : Nat) (l0 : List ByteArray) : Option (ByteArray) := contangoref03_Join.l0 k l0 (⟨#[]⟩ : ByteArray) 0
set_option maxHeartbeats 8000000 in
set_option maxRecDepth 100000 in
theorem contangoref03_Join.calls (k : Nat) (A0 : Option Addr) (c0 : Nat) (l0 : List ByteArray) (r : ByteArray) (w : World) (hr0 : Kd.C Kd.string w A0 l0.length l0) (hc0 : l0.length ≤ c0) (h : contangoref03_Join.f k l0 = some r) :
    Calls Tryd.prog 21 #[.slice A0 l0.length c0] w fun e w' => e = .returned (.string r) ∧ Drawn0 w w' := by
  have HR0 := Aside0.mk hr0
  have HC0 := Aside0.mk hc0
  clear hr0 hc0
  have H : (contangoref03_Join.l0 k l0 (⟨#[]⟩ : ByteArray) 0) = some r := h
  clear h
  have H' := Aside0.mk H
  clear H
  go_enter Tryd.func21, Tryd.ntmps21
  go_wp2
  go_loopg [3, 4] k (fun kq v3 v4 w' => ∃ (x3_1 : ByteArray) (x4_1 : Int), v3 = .string x3_1 ∧ v4 = .int .i64 x4_1 ∧ Aside0 (contangoref03_Join.l0 kq l0 x3_1 x4_1 = some r) ∧ Aside0 (kq ≤ k) ∧ Drawn0 w w')
  case atStart => exact ⟨((⟨#[]⟩ : ByteArray)), (0), (by first | rfl | (simp; done) | (simp [*]; done)), (by first | rfl | (simp; done) | (simp [*]; done)), H', ⟨Nat.le_refl _⟩, by repeat (first | exact Drawn0.refl _ | apply Drawn0.step)⟩
  case round =>
    clear H'
    obtain ⟨x3_1, x4_1, rfl, rfl, HA, HK1, ⟨m1, rfl⟩⟩ := hrel
    cases gk with
    | zero => exact absurd HA.out (by simp [contangoref03_Join.l0])
    | succ k1 =>
      have H := HA.out
      clear HA
      simp only [contangoref03_Join.l0] at H
      by_cases c2 : x4_1 < (l0.length : Int)
      · rw [if_pos c2] at H
        have c2b0 : decide (x4_1 < (l0.length : Int)) = true := decide_eq_true c2
        clear c2
        by_cases c3 : x4_1 > 0
        · rw [if_pos c3] at H
          have c3b0 : decide (0 < x4_1) = true := decide_eq_true c3
          clear c3
          by_cases c4 : x3_1.size + 1 ≤ 9223372036854775807
          · rw [if_pos c4] at H
            have c4b0 := eq_true c4
            have c4b1 : decide (x3_1.size + 1 ≤ 9223372036854775807) = true := decide_eq_true c4
            try have c4b2 : (9223372036854775807 < x3_1.size + 1) = False := eq_false (Nat.not_lt.2 c4)
            by_cases c5 : 0 ≤ x4_1
            · rw [if_pos c5] at H
              have c5b0 : decide (0 ≤ x4_1) = true := decide_eq_true c5
              clear c5
              by_cases c6 : (x3_1 ++ (⟨#[32]⟩ : ByteArray)).size + (rdOf ByteArray.empty l0 x4_1).size ≤ 9223372036854775807
              · rw [if_pos c6] at H
                have c6b0 := eq_true c6
                have c6b1 : decide ((x3_1 ++ (⟨#[32]⟩ : ByteArray)).size + (rdOf ByteArray.empty l0 x4_1).size ≤ 9223372036854775807) = true := decide_eq_true c6
                try have c6b2 : (9223372036854775807 < (x3_1 ++ (⟨#[32]⟩ : ByteArray)).size + (rdOf ByteArray.empty l0 x4_1).size) = False := eq_false (Nat.not_lt.2 c6)
                have H' := Aside0.mk H
                clear H
                have p101 : 0 ≤ (x4_1 : Int) := of_decide_eq_true (by first | (with_reducible assumption) | assumption)
                have q101 : x4_1 < (l0.length : Int) := of_decide_eq_true (by first | (with_reducible assumption) | assumption)
                obtain ⟨ad101, e101, hx101_0⟩ := Kd.at_string HR0.out x4_1 p101 q101
                cases e101
                replace p101 := eq_true p101
                replace q101 := eq_true q101
                go_wp2
                go_roundg k1
                case measure => have := HK1.out; omega
                case rel => exact ⟨((x3_1 ++ (⟨#[32]⟩ : ByteArray)) ++ (rdOf ByteArray.empty l0 x4_1)), (wrap64 (x4_1 + 1)), (by first | rfl | (simp; done) | (simp [*]; done)), (by first | rfl | (simp; done) | (simp [*]; done)), H', ⟨by have := HK1.out; omega⟩, by repeat (first | exact Drawn0.refl _ | apply Drawn0.step)⟩
              · rw [if_neg c6] at H
                exact absurd H (by simp)
            · rw [if_neg c5] at H
              exact absurd H (by simp)
          · rw [if_neg c4] at H
            exact absurd H (by simp)
        · rw [if_neg c3] at H
          have c3b0 : decide (0 < x4_1) = false := decide_eq_false c3
          clear c3
          by_cases c7 : 0 ≤ x4_1
          · rw [if_pos c7] at H
            have c7b0 : decide (0 ≤ x4_1) = true := decide_eq_true c7
            clear c7
            by_cases c8 : x3_1.size + (rdOf ByteArray.empty l0 x4_1).size ≤ 9223372036854775807
            · rw [if_pos c8] at H
              have c8b0 := eq_true c8
              have c8b1 : decide (x3_1.size + (rdOf ByteArray.empty l0 x4_1).size ≤ 9223372036854775807) = true := decide_eq_true c8
              try have c8b2 : (9223372036854775807 < x3_1.size + (rdOf ByteArray.empty l0 x4_1).size) = False := eq_false (Nat.not_lt.2 c8)
              have H' := Aside0.mk H
              clear H
              have p102 : 0 ≤ (x4_1 : Int) := of_decide_eq_true (by first | (with_reducible assumption) | assumption)
              have q102 : x4_1 < (l0.length : Int) := of_decide_eq_true (by first | (with_reducible assumption) | assumption)
              obtain ⟨ad102, e102, hx102_0⟩ := Kd.at_string HR0.out x4_1 p102 q102
              cases e102
              replace p102 := eq_true p102
              replace q102 := eq_true q102
              go_wp2
              go_roundg k1
              case measure => have := HK1.out; omega
              case rel => exact ⟨(x3_1 ++ (rdOf ByteArray.empty l0 x4_1)), (wrap64 (x4_1 + 1)), (by first | rfl | (simp; done) | (simp [*]; done)), (by first | rfl | (simp; done) | (simp [*]; done)), H', ⟨by have := HK1.out; omega⟩, by repeat (first | exact Drawn0.refl _ | apply Drawn0.step)⟩
            · rw [if_neg c8] at H
              exact absurd H (by simp)
          · rw [if_neg c7] at H
            exact absurd H (by simp)
      · rw [if_neg c2] at H
        have c2b0 : decide (x4_1 < (l0.length : Int)) = false := decide_eq_false c2
        clear c2
        obtain rfl := Option.some.inj H
        go_wp2
        go_ret
        exact ⟨by first | rfl | (simp; done) | (simp [*]; done), by repeat (first | exact Drawn0.refl _ | apply Drawn0.step)⟩
end Go.Proofs.YtgaicbhbgephbaaDoor.X
end
section
namespace Go.Proofs.YtgaicbhbgephbaaDoor.X
open Go.RowKit Go.Proofs.YtgaicbhbgephbaaDoorW.PrintWords Go.Proofs.YtgaicbhbgephbaaDoorW.PrintLast Go.Proofs.YtgaicbhbgephbaaDoorW.PrintMore
attribute [local go_sem] max2_int min2_int max_two min_two max_three min_three max_four min_four
set_option linter.unusedVariables false
set_option linter.unusedSimpArgs false
def contangoref03_Lines.l0 : Nat → ByteArray → List ByteArray → Int → Int → Option (List ByteArray × Int)
  | 0, _, _, _, _ => none
  | k + 1, x0, x4, x5, x6 => if x6 < (x0.size : Int) then (if 0 ≤ x6 then (if (bt x0 x6) = 10 then (if 0 ≤ x5 then (if x5 ≤ x6 then (if x6 ≤ (x0.size : Int) then (if x4.length < 8796093022208 then (contangoref03_Lines.l0 k x0 (x4 ++ [x0.extract (x5 : Int).toNat (x6 : Int).toNat]) (wrap64 (x6 + 1)) (wrap64 (x6 + 1))) else (none)) else (none)) else (none)) else (none)) else (contangoref03_Lines.l0 k x0 x4 x5 (wrap64 (x6 + 1)))) else (none)) else (if x5 < (x0.size : Int) then (if 0 ≤ x5 then (if x5 ≤ (x0.size : Int) then (if x4.length < 8796093022208 then (some ((x4 ++ [x0.extract (x5 : Int).toNat x0.size]), 0)) else (none)) else (none)) else (none)) else (some (x4, 0)))
def contangoref03_Lines.f (k : Nat) (a0 : ByteArray) : Option (List ByteArray × Int) := if (a0.size : Int) > 65536 then (some (([] : List ByteArray), 8)) else (contangoref03_Lines.l0 k a0 ([] : List ByteArray) 0 0)
set_option maxHeartbeats 8000000 in
set_option maxRecDepth 100000 in
theorem contangoref03_Lines.calls (k : Nat) (a0 : ByteArray) (r1 : List ByteArray) (r2 : Int) (w : World) (h : contangoref03_Lines.f k a0 = some (r1, r2)) :
    Calls Tryd.prog 18 #[.string a0] w fun e w' => ∃ v0_ : Value, e = .returned (.tuple #[v0_, .int .i64 r2]) ∧ Kd.R Kd.string 9 w' w.heap.size (fun _ => True) v0_ r1 ∧ Below w.heap.size w w' := by
  have HB := Aside0.mk (Below.refl w.heap.size w)
  have H : (if (a0.size : Int) > 65536 then (some (([] : List ByteArray), 8)) else (contangoref03_Lines.l0 k a0 ([] : List ByteArray) 0 0)) = some (r1, r2) := h
  clear h
  by_cases c2 : (a0.size : Int) > 65536
  · rw [if_pos c2] at H
    have c2b0 : decide (65536 < (a0.size : Int)) = true := decide_eq_true c2
    have c2b1 : decide (65536 < a0.size) = true := decide_eq_true (by omega)
    clear c2
    simp only [Option.some.injEq, Prod.mk.injEq] at H
    obtain ⟨rfl, rfl⟩ := H
    go_enter Tryd.func18, Tryd.ntmps18
    go_wp2
    go_ret2
    exact ⟨_, by first | rfl | (simp [errW_none, errW_some] <;> rfl) | (simp [*, errW_none, errW_some] <;> rfl), by first | exact Kd.R_nil _ _ _ _ _ | exact Kd.N_nil _ _ _ _ _ | exact Kd.V_nil _ _ _ _ _ | exact Kd.Q_nil _ _ _ _ _ | exact Kd.S_nil _ _ _ _ _, by repeat (first | (with_reducible first | exact HB.out | apply below_alloc | apply pw_below_drewN | apply below_drew1) | exact HB.out)⟩
  · rw [if_neg c2] at H
    have c2b0 : decide (65536 < (a0.size : Int)) = false := decide_eq_false c2
    have c2b1 : decide (65536 < a0.size) = false := decide_eq_false (by omega)
    clear c2
    have H' := Aside0.mk H
    clear H
    go_enter Tryd.func18, Tryd.ntmps18
    go_wp2
    go_loopg [4, 5, 6] k (fun kq v4 v5 v6 w' => ∃ (x4_1 : List ByteArray) (x5_1 : Int) (x6_1 : Int), v5 = .int .i64 x5_1 ∧ v6 = .int .i64 x6_1 ∧ Aside0 (contangoref03_Lines.l0 kq a0 x4_1 x5_1 x6_1 = some (r1, r2)) ∧ Aside0 (kq ≤ k) ∧ Aside0 (Kd.R Kd.string 9 w' w.heap.size (fun _ => True) v4 x4_1) ∧ Aside0 (Below w.heap.size w w'))
    case atStart => exact ⟨(([] : List ByteArray)), (0), (0), (by first | rfl | (simp; done) | (simp [*]; done)), (by first | rfl | (simp; done) | (simp [*]; done)), H', ⟨Nat.le_refl _⟩, ⟨by first | exact Kd.R_nil _ _ _ _ _ | exact Kd.N_nil _ _ _ _ _ | exact Kd.V_nil _ _ _ _ _ | exact Kd.Q_nil _ _ _ _ _ | exact Kd.S_nil _ _ _ _ _⟩, ⟨by repeat (first | (with_reducible first | exact HB.out | apply below_alloc | apply pw_below_drewN | apply below_drew1) | exact HB.out)⟩⟩
    case round =>
      clear H'
      try clear c1
      try clear c2
      try clear c2b0
      try clear c2b1
      try clear p2
      obtain ⟨x4_1, x5_1, x6_1, rfl, rfl, HA, HK1, HO_4, HB⟩ := hrel
      cases gk with
      | zero => exact absurd HA.out (by simp [contangoref03_Lines.l0])
      | succ k1 =>
        have H := HA.out
        clear HA
        simp only [contangoref03_Lines.l0] at H
        by_cases c3 : x6_1 < (a0.size : Int)
        · rw [if_pos c3] at H
          have c3b0 : decide (x6_1 < (a0.size : Int)) = true := decide_eq_true c3
          clear c3
          by_cases c4 : 0 ≤ x6_1
          · rw [if_pos c4] at H
            have c4b0 : decide (0 ≤ x6_1) = true := decide_eq_true c4
            clear c4
            by_cases c6 : (bt a0 x6_1) = 10
            · rw [if_pos c6] at H
              have c6b0 : ((bt a0 x6_1) == 10) = true := beq_iff_eq.mpr c6
              have c6b1 : ((bt a0 x6_1) != 10) = false := bne_eq_false_iff_eq.mpr c6
              clear c6
              by_cases c7 : 0 ≤ x5_1
              · rw [if_pos c7] at H
                have c7b0 := eq_true c7
                have c7b1 : decide (0 ≤ x5_1) = true := decide_eq_true c7
                clear c7
                by_cases c8 : x5_1 ≤ x6_1
                · rw [if_pos c8] at H
                  have c8b0 := eq_true c8
                  have c8b1 : decide (x5_1 ≤ x6_1) = true := decide_eq_true c8
                  clear c8
                  by_cases c9 : x6_1 ≤ (a0.size : Int)
                  · rw [if_pos c9] at H
                    have c9b0 := eq_true c9
                    have c9b1 : decide (x6_1 ≤ (a0.size : Int)) = true := decide_eq_true c9
                    clear c9
                    by_cases c10 : x4_1.length < 8796093022208
                    · rw [if_pos c10] at H
                      have LMc10 := Aside0.mk c10
                      clear c10
                      obtain ⟨y101, hy101⟩ : ∃ y_ : List ByteArray, y_ = (x4_1 ++ [a0.extract (x5_1 : Int).toNat (x6_1 : Int).toNat]) := ⟨_, rfl⟩
                      replace H : (contangoref03_Lines.l0 k1 a0 y101 (wrap64 (x6_1 + 1)) (wrap64 (x6_1 + 1))) = some (r1, r2) := by first | (rw [hy101]; with_reducible exact H) | (have H2_ := (Option.bind_some _ _).symm.trans H; rw [hy101]; with_reducible exact H2_) | (have H2_ := (Option.bind_some _ _).symm.trans H; with_reducible exact H2_) | with_reducible exact H | (rw [hy101]; exact H) | exact H
                      have Ny101 := Aside0.mk hy101
                      clear hy101
                      have H' := Aside0.mk H
                      clear H
                      have p5 : 0 ≤ (x6_1 : Int) := of_decide_eq_true (by first | (with_reducible assumption) | assumption)
                      have q5 : x6_1 < (a0.size : Int) := of_decide_eq_true (by first | (with_reducible assumption) | assumption)
                      have hx5 := bt_at a0 x6_1
                      replace p5 := eq_true p5
                      replace q5 := eq_true q5
                      go_wp2_with (first | ((with_reducible refine gate_builtin (b := .append) (xs := #[.tmp 20, .tmp 25]) rfl ?_); at_builtin; refine Kd.R_append Kd.string (w0 := w) w.heap.size rfl (.tmp 20) (.tmp 25) 29 9 (.string ⟨#[]⟩) 16 rfl Tryd.underlying29 info9 rfl (by decide) (by omega) u4 x4_1 (a0.extract (x5_1 : Int).toNat (x6_1 : Int).toNat) [.string (a0.extract (x5_1 : Int).toNat (x6_1 : Int).toNat)] (fun _ => True) (fun _ => False) rfl rfl ?aP (fun _ hk => hk.elim) ?aF ?aO ?aB ?aS ?aL ?_; (case aP => exact rfl); (case aB => exact (by repeat (first | (with_reducible first | exact HB.out | apply below_alloc | apply pw_below_drewN | apply below_drew1) | exact HB.out))); (case aF => exact (fun _ _ => trivial)); (case aO => exact (by (with_reducible repeat (first | apply Kd.R_alloc | apply Kd.R_drewN | apply Kd.R_drew)); exact HO_4.out)); (case aS => exact (below_size (by repeat (first | (with_reducible first | exact HB.out | apply below_alloc | apply pw_below_drewN | apply below_drew1) | exact HB.out)))); (case aL => have := LMc10.out; omega); intro v102 w11 ho hb hg hat; rw [← Ny101.out] at ho; have n0_ := Aside0.mk (hb); have n1_ := Aside0.mk (ho); clear HB; clear HO_4; have HB := n0_; have HO103 := n1_; clear n0_ n1_; clear ho hb hg hat))
                      go_roundg k1
                      case measure => have := HK1.out; omega
                      case rel => exact ⟨(y101), (wrap64 (x6_1 + 1)), (wrap64 (x6_1 + 1)), (by first | rfl | (simp; done) | (simp [*]; done)), (by first | rfl | (simp; done) | (simp [*]; done)), H', ⟨by have := HK1.out; omega⟩, ⟨by (with_reducible repeat (first | apply Kd.R_alloc | apply Kd.R_drewN | apply Kd.R_drew)); exact HO103.out⟩, ⟨by repeat (first | (with_reducible first | exact HB.out | apply below_alloc | apply pw_below_drewN | apply below_drew1) | exact HB.out)⟩⟩
                    · rw [if_neg c10] at H
                      exact absurd H (by simp)
                  · rw [if_neg c9] at H
                    exact absurd H (by simp)
                · rw [if_neg c8] at H
                  exact absurd H (by simp)
              · rw [if_neg c7] at H
                exact absurd H (by simp)
            · rw [if_neg c6] at H
              have c6b0 : ((bt a0 x6_1) == 10) = false := beq_eq_false_iff_ne.mpr c6
              have c6b1 : ((bt a0 x6_1) != 10) = true := bne_iff_ne.mpr c6
              have H' := Aside0.mk H
              clear H
              have p5 : 0 ≤ (x6_1 : Int) := of_decide_eq_true (by first | (with_reducible assumption) | assumption)
              have q5 : x6_1 < (a0.size : Int) := of_decide_eq_true (by first | (with_reducible assumption) | assumption)
              have hx5 := bt_at a0 x6_1
              replace p5 := eq_true p5
              replace q5 := eq_true q5
              go_wp2
              go_roundg k1
              case measure => have := HK1.out; omega
              case rel => exact ⟨(x4_1), (x5_1), (wrap64 (x6_1 + 1)), (by first | rfl | (simp; done) | (simp [*]; done)), (by first | rfl | (simp; done) | (simp [*]; done)), H', ⟨by have := HK1.out; omega⟩, ⟨by (with_reducible repeat (first | apply Kd.R_alloc | apply Kd.R_drewN | apply Kd.R_drew)); exact HO_4.out⟩, ⟨by repeat (first | (with_reducible first | exact HB.out | apply below_alloc | apply pw_below_drewN | apply below_drew1) | exact HB.out)⟩⟩
          · rw [if_neg c4] at H
            exact absurd H (by simp)
        · rw [if_neg c3] at H
          have c3b0 : decide (x6_1 < (a0.size : Int)) = false := decide_eq_false c3
          clear c3
          by_cases c12 : x5_1 < (a0.size : Int)
          · rw [if_pos c12] at H
            have c12b0 : decide (x5_1 < (a0.size : Int)) = true := decide_eq_true c12
            clear c12
            by_cases c13 : 0 ≤ x5_1
            · rw [if_pos c13] at H
              have c13b0 := eq_true c13
              have c13b1 : decide (0 ≤ x5_1) = true := decide_eq_true c13
              clear c13
              by_cases c14 : x5_1 ≤ (a0.size : Int)
              · rw [if_pos c14] at H
                have c14b0 := eq_true c14
                have c14b1 : decide (x5_1 ≤ (a0.size : Int)) = true := decide_eq_true c14
                clear c14
                by_cases c15 : x4_1.length < 8796093022208
                · rw [if_pos c15] at H
                  have LMc15 := Aside0.mk c15
                  clear c15
                  obtain ⟨y104, hy104⟩ : ∃ y_ : List ByteArray, y_ = (x4_1 ++ [a0.extract (x5_1 : Int).toNat a0.size]) := ⟨_, rfl⟩
                  replace H : (some (y104, 0)) = some (r1, r2) := by first | (rw [hy104]; with_reducible exact H) | (have H2_ := (Option.bind_some _ _).symm.trans H; rw [hy104]; with_reducible exact H2_) | (have H2_ := (Option.bind_some _ _).symm.trans H; with_reducible exact H2_) | with_reducible exact H | (rw [hy104]; exact H) | exact H
                  have Ny104 := Aside0.mk hy104
                  clear hy104
                  simp only [Option.some.injEq, Prod.mk.injEq] at H
                  obtain ⟨rfl, rfl⟩ := H
                  go_wp2_with (first | ((with_reducible refine gate_builtin (b := .append) (xs := #[.tmp 33, .tmp 37]) rfl ?_); at_builtin; refine Kd.R_append Kd.string (w0 := w) w.heap.size rfl (.tmp 33) (.tmp 37) 29 9 (.string ⟨#[]⟩) 16 rfl Tryd.underlying29 info9 rfl (by decide) (by omega) u4 x4_1 (a0.extract (x5_1 : Int).toNat a0.size) [.string (a0.extract (x5_1 : Int).toNat a0.size)] (fun _ => True) (fun _ => False) rfl rfl ?aP (fun _ hk => hk.elim) ?aF ?aO ?aB ?aS ?aL ?_; (case aP => exact rfl); (case aB => exact (by repeat (first | (with_reducible first | exact HB.out | apply below_alloc | apply pw_below_drewN | apply below_drew1) | exact HB.out))); (case aF => exact (fun _ _ => trivial)); (case aO => exact (by (with_reducible repeat (first | apply Kd.R_alloc | apply Kd.R_drewN | apply Kd.R_drew)); exact HO_4.out)); (case aS => exact (below_size (by repeat (first | (with_reducible first | exact HB.out | apply below_alloc | apply pw_below_drewN | apply below_drew1) | exact HB.out)))); (case aL => have := LMc15.out; omega); intro v105 w16 ho hb hg hat; rw [← Ny104.out] at ho; have n0_ := Aside0.mk (hb); have n1_ := Aside0.mk (ho); clear HB; clear HO_4; have HB := n0_; have HO106 := n1_; clear n0_ n1_; clear ho hb hg hat))
                  go_ret2
                  exact ⟨_, by first | rfl | (simp [errW_none, errW_some] <;> rfl) | (simp [*, errW_none, errW_some] <;> rfl), by (with_reducible repeat (first | apply Kd.R_alloc | apply Kd.R_drewN | apply Kd.R_drew)); exact HO106.out, by repeat (first | (with_reducible first | exact HB.out | apply below_alloc | apply pw_below_drewN | apply below_drew1) | exact HB.out)⟩
                · rw [if_neg c15] at H
                  exact absurd H (by simp)
              · rw [if_neg c14] at H
                exact absurd H (by simp)
            · rw [if_neg c13] at H
              exact absurd H (by simp)
          · rw [if_neg c12] at H
            have c12b0 : decide (x5_1 < (a0.size : Int)) = false := decide_eq_false c12
            clear c12
            simp only [Option.some.injEq, Prod.mk.injEq] at H
            obtain ⟨rfl, rfl⟩ := H
            go_wp2
            go_ret2
            exact ⟨_, by first | rfl | (simp [errW_none, errW_some] <;> rfl) | (simp [*, errW_none, errW_some] <;> rfl), by (with_reducible repeat (first | apply Kd.R_alloc | apply Kd.R_drewN | apply Kd.R_drew)); exact HO_4.out, by repeat (first | (with_reducible first | exact HB.out | apply below_alloc | apply pw_below_drewN | apply below_drew1) | exact HB.out)⟩
end Go.Proofs.YtgaicbhbgephbaaDoor.X
end
section
namespace Go.Proofs.YtgaicbhbgephbaaDoor.X
open Go.RowKit Go.Proofs.YtgaicbhbgephbaaDoorW.PrintWords Go.Proofs.YtgaicbhbgephbaaDoorW.PrintLast Go.Proofs.YtgaicbhbgephbaaDoorW.PrintMore
attribute [local go_sem] max2_int min2_int max_two min_two max_three min_three max_four min_four
set_option linter.unusedVariables false
set_option linter.unusedSimpArgs false
mutual
def contangoref03_Same.l0 : Nat → List ByteArray → List ByteArray → Int → Option (Bool)
  | 0, _, _, _ => none
  | k + 1, x0, x1, x5 => if x5 < (x0.length : Int) then (contangoref03_Same.j1 k x0 x1 x5 (decide (x5 < (x1.length : Int)))) else (contangoref03_Same.j1 k x0 x1 x5 false)
def contangoref03_Same.j1 : Nat → List ByteArray → List ByteArray → Int → Bool → Option (Bool)
  | 0, _, _, _, _ => none
  | k + 1, x0, x1, x5, x15 => if x15 = true then (if 0 ≤ x5 then (if x5 < (x0.length : Int) then (if x5 < (x1.length : Int) then (if (rdOf ByteArray.empty x0 x5).toList = (rdOf ByteArray.empty x1 x5).toList then (contangoref03_Same.l0 k x0 x1 (wrap64 (x5 + 1))) else (some false)) else (none)) else (none)) else (none)) else (some ((x0.length : Int) == (x1.length : Int)))
end
def contangoref03_Same.f (k : Nat) (l0 : List ByteArray) (l1 : List ByteArray) : Option (Bool) := contangoref03_Same.l0 k l0 l1 0
set_option maxHeartbeats 8000000 in
set_option maxRecDepth 100000 in
theorem contangoref03_Same.calls (k : Nat) (A0 : Option Addr) (c0 : Nat) (l0 : List ByteArray) (A1 : Option Addr) (c1 : Nat) (l1 : List ByteArray) (r : Bool) (w : World) (hr0 : Kd.C Kd.string w A0 l0.length l0) (hc0 : l0.length ≤ c0) (hr1 : Kd.C Kd.string w A1 l1.length l1) (hc1 : l1.length ≤ c1) (h : contangoref03_Same.f k l0 l1 = some r) :
    Calls Tryd.prog 19 #[.slice A0 l0.length c0, .slice A1 l1.length c1] w fun e w' => e = .returned (.bool r) ∧ Drawn0 w w' := by
  have HR0 := Aside0.mk hr0
  have HC0 := Aside0.mk hc0
  clear hr0 hc0
  have HR1 := Aside0.mk hr1
  have HC1 := Aside0.mk hc1
  clear hr1 hc1
  have H : (contangoref03_Same.l0 k l0 l1 0) = some r := h
  clear h
  have H' := Aside0.mk H
  clear H
  go_enter Tryd.func19, Tryd.ntmps19
  go_wp2
  repeat (go_quiet (fail); try go_wp2)
  go_loopg [5] k (fun kq v5 w' => ∃ (x5_1 : Int), v5 = .int .i64 x5_1 ∧ Aside0 (contangoref03_Same.l0 kq l0 l1 x5_1 = some r) ∧ Aside0 (kq ≤ k) ∧ Drawn0 w w')
  case atStart => exact ⟨(0), (by first | rfl | (simp; done) | (simp [*]; done)), H', ⟨Nat.le_refl _⟩, by repeat (first | exact Drawn0.refl _ | apply Drawn0.step)⟩
  case round =>
    clear H'
    try clear c1
    try clear p2
    obtain ⟨x5_1, rfl, HA, HK1, ⟨m1, rfl⟩⟩ := hrel
    cases gk with
    | zero => exact absurd HA.out (by simp [contangoref03_Same.l0])
    | succ k1 =>
      have H := HA.out
      clear HA
      simp only [contangoref03_Same.l0] at H
      have HC3 := Aside0.mk H
      clear H
      go_upto_region 2 with (fail)
      repeat (go_quiet (fail); go_upto_region 2 with (fail))
      go_cut [15] (fun v15 wc => ∃ (kq : Nat) (x15_2 : Bool), v15 = .bool x15_2 ∧ Aside0 (contangoref03_Same.j1 kq l0 l1 x5_1 x15_2 = some r) ∧ Aside0 (kq ≤ k1) ∧ Drawn0 w wc)
      case first =>
        have H := HC3.out
        clear HC3
        by_cases c4 : x5_1 < (l0.length : Int)
        · rw [if_pos c4] at H
          have c4b0 : decide (x5_1 < (l0.length : Int)) = true := decide_eq_true c4
          clear c4
          (first | rw [c4b0] | (simp only [i64_w, i32_w]; rw [c4b0]) | skip)
          have H' := Aside0.mk H
          clear H
          go_wp2
          repeat (go_quiet (fail); try go_wp2)
          go_meet
          case rel => exact ⟨_, (decide (x5_1 < (l1.length : Int))), (by first | rfl | (simp; done) | (simp [*]; done)), H', ⟨by have := HK1.out; first | omega | exact Nat.le_refl _⟩, by repeat (first | exact Drawn0.refl _ | apply Drawn0.step)⟩
        · rw [if_neg c4] at H
          have c4b0 : decide (x5_1 < (l0.length : Int)) = false := decide_eq_false c4
          clear c4
          (first | rw [c4b0] | (simp only [i64_w, i32_w]; rw [c4b0]) | skip)
          have H' := Aside0.mk H
          clear H
          go_wp2
          repeat (go_quiet (fail); try go_wp2)
          go_meet
          case rel => exact ⟨_, (false), (by first | rfl | (simp; done) | (simp [*]; done)), H', ⟨by have := HK1.out; first | omega | exact Nat.le_refl _⟩, by repeat (first | exact Drawn0.refl _ | apply Drawn0.step)⟩
      case rest =>
        clear HC3
        try clear c1
        try clear p2
        try clear c4
        try clear c4b0
        try clear p2
        obtain ⟨kq, x15_2, rfl, HA, HJ2, ⟨mc2, rfl⟩⟩ := hcut
        cases kq with
        | zero => exact absurd HA.out (by simp [contangoref03_Same.j1])
        | succ kj2 =>
          have H := HA.out
          clear HA
          simp only [contangoref03_Same.j1] at H
          by_cases c5 : x15_2 = true
          · subst c5
            have H1 : (if 0 ≤ x5_1 then (if x5_1 < (l0.length : Int) then (if x5_1 < (l1.length : Int) then (if (rdOf ByteArray.empty l0 x5_1).toList = (rdOf ByteArray.empty l1 x5_1).toList then (contangoref03_Same.l0 kj2 l0 l1 (wrap64 (x5_1 + 1))) else (some false)) else (none)) else (none)) else (none)) = some r := by rw [if_pos rfl] at H; exact H
            clear H
            have H := H1
            clear H1
            by_cases c6 : 0 ≤ x5_1
            · rw [if_pos c6] at H
              have c6b0 : decide (0 ≤ x5_1) = true := decide_eq_true c6
              clear c6
              by_cases c7 : x5_1 < (l0.length : Int)
              · rw [if_pos c7] at H
                have c7b0 : decide (x5_1 < (l0.length : Int)) = true := decide_eq_true c7
                clear c7
                by_cases c8 : x5_1 < (l1.length : Int)
                · rw [if_pos c8] at H
                  have c8b0 : decide (x5_1 < (l1.length : Int)) = true := decide_eq_true c8
                  clear c8
                  by_cases c9 : (rdOf ByteArray.empty l0 x5_1).toList = (rdOf ByteArray.empty l1 x5_1).toList
                  · rw [if_pos c9] at H
                    have c9b0 : ((rdOf ByteArray.empty l0 x5_1).toList == (rdOf ByteArray.empty l1 x5_1).toList) = true := beq_iff_eq.mpr c9
                    have c9b1 : ((rdOf ByteArray.empty l0 x5_1).toList != (rdOf ByteArray.empty l1 x5_1).toList) = false := bne_eq_false_iff_eq.mpr c9
                    clear c9
                    have H' := Aside0.mk H
                    clear H
                    have p101 : 0 ≤ (x5_1 : Int) := of_decide_eq_true (by first | (with_reducible assumption) | assumption)
                    have q101 : x5_1 < (l0.length : Int) := of_decide_eq_true (by first | (with_reducible assumption) | assumption)
                    obtain ⟨ad101, e101, hx101_0⟩ := Kd.at_string HR0.out x5_1 p101 q101
                    cases e101
                    replace p101 := eq_true p101
                    replace q101 := eq_true q101
                    have p102 : 0 ≤ (x5_1 : Int) := of_decide_eq_true (by first | (with_reducible assumption) | assumption)
                    have q102 : x5_1 < (l1.length : Int) := of_decide_eq_true (by first | (with_reducible assumption) | assumption)
                    obtain ⟨ad102, e102, hx102_0⟩ := Kd.at_string HR1.out x5_1 p102 q102
                    cases e102
                    replace p102 := eq_true p102
                    replace q102 := eq_true q102
                    go_wp2
                    repeat (go_quiet (fail); try go_wp2)
                    go_roundg kj2
                    case measure => have := HK1.out; have := HJ2.out; omega
                    case rel => exact ⟨(wrap64 (x5_1 + 1)), (by first | rfl | (simp; done) | (simp [*]; done)), H', ⟨by have := HK1.out; have := HJ2.out; omega⟩, by repeat (first | exact Drawn0.refl _ | apply Drawn0.step)⟩
                  · rw [if_neg c9] at H
                    have c9b0 : ((rdOf ByteArray.empty l0 x5_1).toList == (rdOf ByteArray.empty l1 x5_1).toList) = false := beq_eq_false_iff_ne.mpr c9
                    have c9b1 : ((rdOf ByteArray.empty l0 x5_1).toList != (rdOf ByteArray.empty l1 x5_1).toList) = true := bne_iff_ne.mpr c9
                    obtain rfl := Option.some.inj H
                    have p101 : 0 ≤ (x5_1 : Int) := of_decide_eq_true (by first | (with_reducible assumption) | assumption)
                    have q101 : x5_1 < (l0.length : Int) := of_decide_eq_true (by first | (with_reducible assumption) | assumption)
                    obtain ⟨ad101, e101, hx101_0⟩ := Kd.at_string HR0.out x5_1 p101 q101
                    cases e101
                    replace p101 := eq_true p101
                    replace q101 := eq_true q101
                    have p102 : 0 ≤ (x5_1 : Int) := of_decide_eq_true (by first | (with_reducible assumption) | assumption)
                    have q102 : x5_1 < (l1.length : Int) := of_decide_eq_true (by first | (with_reducible assumption) | assumption)
                    obtain ⟨ad102, e102, hx102_0⟩ := Kd.at_string HR1.out x5_1 p102 q102
                    cases e102
                    replace p102 := eq_true p102
                    replace q102 := eq_true q102
                    go_wp2
                    repeat (go_quiet (fail); try go_wp2)
                    go_ret
                    exact ⟨by first | rfl | (simp; done) | (simp [*]; done), by repeat (first | exact Drawn0.refl _ | apply Drawn0.step)⟩
                · rw [if_neg c8] at H
                  exact absurd H (by simp)
              · rw [if_neg c7] at H
                exact absurd H (by simp)
            · rw [if_neg c6] at H
              exact absurd H (by simp)
          · replace c5 := Bool.eq_false_iff.mpr c5
            subst c5
            have H1 : (some ((l0.length : Int) == (l1.length : Int))) = some r := by rw [if_neg (show ¬ (false = true) by decide)] at H; exact H
            clear H
            have H := H1
            clear H1
            obtain rfl := Option.some.inj H
            go_wp2
            repeat (go_quiet (fail); try go_wp2)
            go_ret
            exact ⟨by first | rfl | (simp; done) | (simp [*]; done), by repeat (first | exact Drawn0.refl _ | apply Drawn0.step)⟩
end Go.Proofs.YtgaicbhbgephbaaDoor.X
end
section
namespace Go.Proofs.YtgaicbhbgephbaaDoor.X
open Go.RowKit Go.Proofs.YtgaicbhbgephbaaDoorW.PrintWords Go.Proofs.YtgaicbhbgephbaaDoorW.PrintLast Go.Proofs.YtgaicbhbgephbaaDoorW.PrintMore
attribute [local go_sem] max2_int min2_int max_two min_two max_three min_three max_four min_four
set_option linter.unusedVariables false
set_option linter.unusedSimpArgs false
def words_Join.f (l0 : List ByteArray) : Option (ByteArray) := (words_together.f (⟨#[32]⟩ : ByteArray) l0).bind fun t101 => (some t101)
set_option maxHeartbeats 8000000 in
set_option maxRecDepth 100000 in
theorem words_Join.calls (A0 : Option Addr) (c0 : Nat) (l0 : List ByteArray) (r : ByteArray) (w : World) (hr0 : Kd.C Kd.string w A0 l0.length l0) (hc0 : l0.length ≤ c0) (h : words_Join.f l0 = some r) :
    Calls Tryd.prog 20 #[.slice A0 l0.length c0] w fun e w' => e = .returned (.string r) ∧ Below w.heap.size w w' := by
  have HR0 := Aside0.mk hr0
  have HC0 := Aside0.mk hc0
  clear hr0 hc0
  have HB := Aside0.mk (Below.refl w.heap.size w)
  have H : ((words_together.f (⟨#[32]⟩ : ByteArray) l0).bind fun t101 => (some t101)) = some r := h
  clear h
  replace H := Option.bind_eq_some_iff.mp H
  obtain ⟨t101, A20, H⟩ := H
  replace H : (some t101) = some r := H
  have A2 := Aside0.mk A20
  clear A20
  obtain rfl := Option.some.inj H
  go_enter Tryd.func20, Tryd.ntmps20
  go_wp2_with (first | ((with_reducible refine gate_callee (f := 37) rfl ?_); refine goesL_ (some 4) rfl rfl Tryd.func37 (by kernel_rfl) rfl #[.string (⟨#[32]⟩ : ByteArray), .slice A0 l0.length c0] rfl (by (try simp only [List.map_toArray, List.map_cons, List.map_nil]); first | done | rfl | (simp only [List.length_drop, List.length_take]; rfl)) ?_; (with_reducible refine (words_together.calls (⟨#[32]⟩ : ByteArray) _ _ l0 t101 _ ?side1 ?side2 A2.out).mono ?_); (case side1 => repeat (first | exact HR0.out | (with_reducible refine Kd.C_alloc ?_ _) | (with_reducible refine Kd.C_drewN ?_ _) | (with_reducible refine Kd.C_drew ?_))); (case side2 => exact HC0.out); rintro e w3 ⟨rfl, hb⟩; refine ⟨_, rfl, ?_⟩; have n0_ := Aside0.mk (below_step (by repeat (first | (with_reducible first | exact HB.out | apply below_alloc | apply pw_below_drewN | apply below_drew1) | exact HB.out)) hb); clear HB; have HB := n0_; clear n0_; (try clear hb); (try clear hb2); (try clear hk); (try clear hi)))
  go_ret
  exact ⟨by first | rfl | (simp [errW_none, errW_some] <;> rfl) | (simp [*, errW_none, errW_some] <;> rfl), by repeat (first | (with_reducible first | exact HB.out | apply below_alloc | apply pw_below_drewN | apply below_drew1) | exact HB.out)⟩
end Go.Proofs.YtgaicbhbgephbaaDoor.X
end
section
namespace Go.Proofs.YtgaicbhbgephbaaDoor.X
open Go.RowKit Go.Proofs.YtgaicbhbgephbaaDoorW.PrintWords Go.Proofs.YtgaicbhbgephbaaDoorW.PrintLast Go.Proofs.YtgaicbhbgephbaaDoorW.PrintMore
attribute [local go_sem] max2_int min2_int max_two min_two max_three min_three max_four min_four
set_option linter.unusedVariables false
set_option linter.unusedSimpArgs false
def contangolaw03_WordsCuts.f (k : Nat) (a0 : ByteArray) (l1 : List ByteArray) : Option (Bool) := (words_Fields.f k a0).bind fun bt101 => ((contangoref03_Fields.f k a0).bind fun bt105 => ((words_Lines.f k a0).bind fun bt109 => ((contangoref03_Lines.f k a0).bind fun bt113 => ((contangoref03_Same.f k bt101.1 bt105.1).bind fun t117 => (if t117 = true then (if bt101.2 = bt105.2 then ((contangoref03_Same.f k bt109.1 bt113.1).bind fun t118 => (if t118 = true then (if bt109.2 = bt113.2 then ((words_Join.f l1).bind fun t119 => ((contangoref03_Join.f k l1).bind fun t120 => (if t119.toList = t120.toList then ((contangolaw03_goes.f k).bind fun t121 => (some t121)) else (none)))) else (none)) else (none))) else (none)) else (none))))))
set_option maxHeartbeats 8000000 in
set_option maxRecDepth 100000 in
theorem contangolaw03_WordsCuts.calls (k : Nat) (a0 : ByteArray) (A1 : Option Addr) (c1 : Nat) (l1 : List ByteArray) (r : Bool) (w : World) (hr1 : Kd.C Kd.string w A1 l1.length l1) (hc1 : l1.length ≤ c1) (h : contangolaw03_WordsCuts.f k a0 l1 = some r) :
    Calls Tryd.prog 4 #[.string a0, .slice A1 l1.length c1] w fun e w' => e = .returned (.bool r) ∧ Below w.heap.size w w' := by
  have HR1 := Aside0.mk hr1
  have HC1 := Aside0.mk hc1
  clear hr1 hc1
  have HB := Aside0.mk (Below.refl w.heap.size w)
  have H : ((words_Fields.f k a0).bind fun bt101 => ((contangoref03_Fields.f k a0).bind fun bt105 => ((words_Lines.f k a0).bind fun bt109 => ((contangoref03_Lines.f k a0).bind fun bt113 => ((contangoref03_Same.f k bt101.1 bt105.1).bind fun t117 => (if t117 = true then (if bt101.2 = bt105.2 then ((contangoref03_Same.f k bt109.1 bt113.1).bind fun t118 => (if t118 = true then (if bt109.2 = bt113.2 then ((words_Join.f l1).bind fun t119 => ((contangoref03_Join.f k l1).bind fun t120 => (if t119.toList = t120.toList then ((contangolaw03_goes.f k).bind fun t121 => (some t121)) else (none)))) else (none)) else (none))) else (none)) else (none))))))) = some r := h
  clear h
  replace H := Option.bind_eq_some_iff.mp H
  obtain ⟨⟨t101, t102⟩, A30, H⟩ := H
  replace H : ((contangoref03_Fields.f k a0).bind fun bt105 => ((words_Lines.f k a0).bind fun bt109 => ((contangoref03_Lines.f k a0).bind fun bt113 => ((contangoref03_Same.f k t101 bt105.1).bind fun t117 => (if t117 = true then (if t102 = bt105.2 then ((contangoref03_Same.f k bt109.1 bt113.1).bind fun t118 => (if t118 = true then (if bt109.2 = bt113.2 then ((words_Join.f l1).bind fun t119 => ((contangoref03_Join.f k l1).bind fun t120 => (if t119.toList = t120.toList then ((contangolaw03_goes.f k).bind fun t121 => (some t121)) else (none)))) else (none)) else (none))) else (none)) else (none)))))) = some r := H
  have A3 := Aside0.mk A30
  clear A30
  replace H := Option.bind_eq_some_iff.mp H
  obtain ⟨⟨t105, t106⟩, A40, H⟩ := H
  replace H : ((words_Lines.f k a0).bind fun bt109 => ((contangoref03_Lines.f k a0).bind fun bt113 => ((contangoref03_Same.f k t101 t105).bind fun t117 => (if t117 = true then (if t102 = t106 then ((contangoref03_Same.f k bt109.1 bt113.1).bind fun t118 => (if t118 = true then (if bt109.2 = bt113.2 then ((words_Join.f l1).bind fun t119 => ((contangoref03_Join.f k l1).bind fun t120 => (if t119.toList = t120.toList then ((contangolaw03_goes.f k).bind fun t121 => (some t121)) else (none)))) else (none)) else (none))) else (none)) else (none))))) = some r := H
  have A4 := Aside0.mk A40
  clear A40
  replace H := Option.bind_eq_some_iff.mp H
  obtain ⟨⟨t109, t110⟩, A50, H⟩ := H
  replace H : ((contangoref03_Lines.f k a0).bind fun bt113 => ((contangoref03_Same.f k t101 t105).bind fun t117 => (if t117 = true then (if t102 = t106 then ((contangoref03_Same.f k t109 bt113.1).bind fun t118 => (if t118 = true then (if t110 = bt113.2 then ((words_Join.f l1).bind fun t119 => ((contangoref03_Join.f k l1).bind fun t120 => (if t119.toList = t120.toList then ((contangolaw03_goes.f k).bind fun t121 => (some t121)) else (none)))) else (none)) else (none))) else (none)) else (none)))) = some r := H
  have A5 := Aside0.mk A50
  clear A50
  replace H := Option.bind_eq_some_iff.mp H
  obtain ⟨⟨t113, t114⟩, A60, H⟩ := H
  replace H : ((contangoref03_Same.f k t101 t105).bind fun t117 => (if t117 = true then (if t102 = t106 then ((contangoref03_Same.f k t109 t113).bind fun t118 => (if t118 = true then (if t110 = t114 then ((words_Join.f l1).bind fun t119 => ((contangoref03_Join.f k l1).bind fun t120 => (if t119.toList = t120.toList then ((contangolaw03_goes.f k).bind fun t121 => (some t121)) else (none)))) else (none)) else (none))) else (none)) else (none))) = some r := H
  have A6 := Aside0.mk A60
  clear A60
  replace H := Option.bind_eq_some_iff.mp H
  obtain ⟨t117, A70, H⟩ := H
  replace H : (if t117 = true then (if t102 = t106 then ((contangoref03_Same.f k t109 t113).bind fun t118 => (if t118 = true then (if t110 = t114 then ((words_Join.f l1).bind fun t119 => ((contangoref03_Join.f k l1).bind fun t120 => (if t119.toList = t120.toList then ((contangolaw03_goes.f k).bind fun t121 => (some t121)) else (none)))) else (none)) else (none))) else (none)) else (none)) = some r := H
  have A7 := Aside0.mk A70
  clear A70
  by_cases c8 : t117 = true
  · subst c8
    have H1 : (if t102 = t106 then ((contangoref03_Same.f k t109 t113).bind fun t118 => (if t118 = true then (if t110 = t114 then ((words_Join.f l1).bind fun t119 => ((contangoref03_Join.f k l1).bind fun t120 => (if t119.toList = t120.toList then ((contangolaw03_goes.f k).bind fun t121 => (some t121)) else (none)))) else (none)) else (none))) else (none)) = some r := by rw [if_pos rfl] at H; exact H
    clear H
    have H := H1
    clear H1
    by_cases c9 : t102 = t106
    · rw [if_pos c9] at H
      have c9b0 : (t102 == t106) = true := beq_iff_eq.mpr c9
      have c9b1 : (t102 != t106) = false := bne_eq_false_iff_eq.mpr c9
      clear c9
      replace H := Option.bind_eq_some_iff.mp H
      obtain ⟨t118, A100, H⟩ := H
      replace H : (if t118 = true then (if t110 = t114 then ((words_Join.f l1).bind fun t119 => ((contangoref03_Join.f k l1).bind fun t120 => (if t119.toList = t120.toList then ((contangolaw03_goes.f k).bind fun t121 => (some t121)) else (none)))) else (none)) else (none)) = some r := H
      have A10 := Aside0.mk A100
      clear A100
      by_cases c11 : t118 = true
      · subst c11
        have H1 : (if t110 = t114 then ((words_Join.f l1).bind fun t119 => ((contangoref03_Join.f k l1).bind fun t120 => (if t119.toList = t120.toList then ((contangolaw03_goes.f k).bind fun t121 => (some t121)) else (none)))) else (none)) = some r := by rw [if_pos rfl] at H; exact H
        clear H
        have H := H1
        clear H1
        by_cases c12 : t110 = t114
        · rw [if_pos c12] at H
          have c12b0 : (t110 == t114) = true := beq_iff_eq.mpr c12
          have c12b1 : (t110 != t114) = false := bne_eq_false_iff_eq.mpr c12
          clear c12
          replace H := Option.bind_eq_some_iff.mp H
          obtain ⟨t119, A130, H⟩ := H
          replace H : ((contangoref03_Join.f k l1).bind fun t120 => (if t119.toList = t120.toList then ((contangolaw03_goes.f k).bind fun t121 => (some t121)) else (none))) = some r := H
          have A13 := Aside0.mk A130
          clear A130
          replace H := Option.bind_eq_some_iff.mp H
          obtain ⟨t120, A140, H⟩ := H
          replace H : (if t119.toList = t120.toList then ((contangolaw03_goes.f k).bind fun t121 => (some t121)) else (none)) = some r := H
          have A14 := Aside0.mk A140
          clear A140
          by_cases c15 : t119.toList = t120.toList
          · rw [if_pos c15] at H
            have c15b0 : (t119.toList == t120.toList) = true := beq_iff_eq.mpr c15
            have c15b1 : (t119.toList != t120.toList) = false := bne_eq_false_iff_eq.mpr c15
            clear c15
            replace H := Option.bind_eq_some_iff.mp H
            obtain ⟨t121, A160, H⟩ := H
            replace H : (some t121) = some r := H
            have A16 := Aside0.mk A160
            clear A160
            obtain rfl := Option.some.inj H
            go_enter Tryd.func4, Tryd.ntmps4
            go_wp2_with (first | ((with_reducible refine gate_callee (f := 15) rfl ?_); refine goesL_ (some 15) rfl rfl Tryd.func15 (by kernel_rfl) rfl #[.string a0] rfl (by (try simp only [List.map_toArray, List.map_cons, List.map_nil]); first | done | rfl | (simp only [List.length_drop, List.length_take]; rfl)) ?_; (with_reducible refine (words_Fields.calls k a0 t101 t102 _ A3.out).mono ?_); rintro e w17 ⟨v103, rfl, ho0, hb⟩; refine ⟨_, rfl, ?_⟩; have n0_ := Aside0.mk (Kd.R_lower ho0 (below_size (by repeat (first | (with_reducible first | exact HB.out | apply below_alloc | apply pw_below_drewN | apply below_drew1) | exact HB.out)))); have n1_ := Aside0.mk (below_step (by repeat (first | (with_reducible first | exact HB.out | apply below_alloc | apply pw_below_drewN | apply below_drew1) | exact HB.out)) hb); clear HB; have HO104 := n0_; have HB := n1_; clear n0_ n1_; (try clear hb); (try clear hb2); (try clear hk); (try clear hi); (try clear ho0)) | ((with_reducible refine gate_callee (f := 16) rfl ?_); refine goesL_ (some 20) rfl rfl Tryd.func16 (by kernel_rfl) rfl #[.string a0] rfl (by (try simp only [List.map_toArray, List.map_cons, List.map_nil]); first | done | rfl | (simp only [List.length_drop, List.length_take]; rfl)) ?_; (with_reducible refine (contangoref03_Fields.calls k a0 t105 t106 _ A4.out).mono ?_); rintro e w18 ⟨v107, rfl, ho0, hb⟩; refine ⟨_, rfl, ?_⟩; have n0_ := Aside0.mk (Kd.R_elder' (by (with_reducible repeat (first | apply Kd.R_alloc | apply Kd.R_drewN | apply Kd.R_drew)); exact HO104.out) (Kd.R_base ho0) hb); have n1_ := Aside0.mk (Kd.R_lower (Kd.R_new' ho0 (Kd.R_lt (by (with_reducible repeat (first | apply Kd.R_alloc | apply Kd.R_drewN | apply Kd.R_drew)); exact HO104.out))) (below_size (by repeat (first | (with_reducible first | exact HB.out | apply below_alloc | apply pw_below_drewN | apply below_drew1) | exact HB.out)))); have n2_ := Aside0.mk (below_step (by repeat (first | (with_reducible first | exact HB.out | apply below_alloc | apply pw_below_drewN | apply below_drew1) | exact HB.out)) hb); clear HO104; clear HB; have HO104 := n0_; have HO108 := n1_; have HB := n2_; clear n0_ n1_ n2_; (try clear hb); (try clear hb2); (try clear hk); (try clear hi); (try clear ho0)) | ((with_reducible refine gate_callee (f := 17) rfl ?_); refine goesL_ (some 25) rfl rfl Tryd.func17 (by kernel_rfl) rfl #[.string a0] rfl (by (try simp only [List.map_toArray, List.map_cons, List.map_nil]); first | done | rfl | (simp only [List.length_drop, List.length_take]; rfl)) ?_; (with_reducible refine (words_Lines.calls k a0 t109 t110 _ A5.out).mono ?_); rintro e w19 ⟨v111, rfl, ho0, hb⟩; refine ⟨_, rfl, ?_⟩; have n0_ := Aside0.mk (Kd.R_elder' (by (with_reducible repeat (first | apply Kd.R_alloc | apply Kd.R_drewN | apply Kd.R_drew)); exact HO104.out) (Kd.R_base ho0) hb); have n1_ := Aside0.mk (Kd.R_elder' (by (with_reducible repeat (first | apply Kd.R_alloc | apply Kd.R_drewN | apply Kd.R_drew)); exact HO108.out) (Kd.R_base ho0) hb); have n2_ := Aside0.mk (Kd.R_lower (Kd.R_new' (Kd.R_new' ho0 (Kd.R_lt (by (with_reducible repeat (first | apply Kd.R_alloc | apply Kd.R_drewN | apply Kd.R_drew)); exact HO104.out))) (Kd.R_lt (by (with_reducible repeat (first | apply Kd.R_alloc | apply Kd.R_drewN | apply Kd.R_drew)); exact HO108.out))) (below_size (by repeat (first | (with_reducible first | exact HB.out | apply below_alloc | apply pw_below_drewN | apply below_drew1) | exact HB.out)))); have n3_ := Aside0.mk (below_step (by repeat (first | (with_reducible first | exact HB.out | apply below_alloc | apply pw_below_drewN | apply below_drew1) | exact HB.out)) hb); clear HO104; clear HO108; clear HB; have HO104 := n0_; have HO108 := n1_; have HO112 := n2_; have HB := n3_; clear n0_ n1_ n2_ n3_; (try clear hb); (try clear hb2); (try clear hk); (try clear hi); (try clear ho0)) | ((with_reducible refine gate_callee (f := 18) rfl ?_); refine goesL_ (some 30) rfl rfl Tryd.func18 (by kernel_rfl) rfl #[.string a0] rfl (by (try simp only [List.map_toArray, List.map_cons, List.map_nil]); first | done | rfl | (simp only [List.length_drop, List.length_take]; rfl)) ?_; (with_reducible refine (contangoref03_Lines.calls k a0 t113 t114 _ A6.out).mono ?_); rintro e w20 ⟨v115, rfl, ho0, hb⟩; refine ⟨_, rfl, ?_⟩; have n0_ := Aside0.mk (Kd.R_elder' (by (with_reducible repeat (first | apply Kd.R_alloc | apply Kd.R_drewN | apply Kd.R_drew)); exact HO104.out) (Kd.R_base ho0) hb); have n1_ := Aside0.mk (Kd.R_elder' (by (with_reducible repeat (first | apply Kd.R_alloc | apply Kd.R_drewN | apply Kd.R_drew)); exact HO108.out) (Kd.R_base ho0) hb); have n2_ := Aside0.mk (Kd.R_elder' (by (with_reducible repeat (first | apply Kd.R_alloc | apply Kd.R_drewN | apply Kd.R_drew)); exact HO112.out) (Kd.R_base ho0) hb); have n3_ := Aside0.mk (Kd.R_lower (Kd.R_new' (Kd.R_new' (Kd.R_new' ho0 (Kd.R_lt (by (with_reducible repeat (first | apply Kd.R_alloc | apply Kd.R_drewN | apply Kd.R_drew)); exact HO104.out))) (Kd.R_lt (by (with_reducible repeat (first | apply Kd.R_alloc | apply Kd.R_drewN | apply Kd.R_drew)); exact HO108.out))) (Kd.R_lt (by (with_reducible repeat (first | apply Kd.R_alloc | apply Kd.R_drewN | apply Kd.R_drew)); exact HO112.out))) (below_size (by repeat (first | (with_reducible first | exact HB.out | apply below_alloc | apply pw_below_drewN | apply below_drew1) | exact HB.out)))); have n4_ := Aside0.mk (below_step (by repeat (first | (with_reducible first | exact HB.out | apply below_alloc | apply pw_below_drewN | apply below_drew1) | exact HB.out)) hb); clear HO104; clear HO108; clear HO112; clear HB; have HO104 := n0_; have HO108 := n1_; have HO112 := n2_; have HO116 := n3_; have HB := n4_; clear n0_ n1_ n2_ n3_ n4_; (try clear hb); (try clear hb2); (try clear hk); (try clear hi); (try clear ho0); obtain ⟨Ao21, co21, eo21⟩ := Kd.R_slice HO104.out; subst eo21; obtain ⟨Ao22, co22, eo22⟩ := Kd.R_slice HO108.out; subst eo22) | ((with_reducible refine gate_callee (f := 19) rfl ?_); refine goesL_ (some 35) rfl rfl Tryd.func19 (by kernel_rfl) rfl #[.slice Ao21 t101.length co21, .slice Ao22 t105.length co22] rfl (by (try simp only [List.map_toArray, List.map_cons, List.map_nil]); first | done | rfl | (simp only [List.length_drop, List.length_take]; rfl)) ?_; (with_reducible refine (contangoref03_Same.calls k _ _ t101 _ _ t105 true _ ?side1 ?side2 ?side3 ?side4 A7.out).mono ?_); (case side1 => repeat (first | exact (Kd.R_reads' HO104.out).2.2 | (with_reducible refine Kd.C_alloc ?_ _) | (with_reducible refine Kd.C_drewN ?_ _) | (with_reducible refine Kd.C_drew ?_))); (case side2 => exact (Kd.R_reads' HO104.out).2.1); (case side3 => repeat (first | exact (Kd.R_reads' HO108.out).2.2 | (with_reducible refine Kd.C_alloc ?_ _) | (with_reducible refine Kd.C_drewN ?_ _) | (with_reducible refine Kd.C_drew ?_))); (case side4 => exact (Kd.R_reads' HO108.out).2.1); rintro e w' ⟨rfl, ⟨nd, rfl⟩⟩; refine ⟨_, rfl, ?_⟩; obtain ⟨Ao23, co23, eo23⟩ := Kd.R_slice HO112.out; subst eo23; obtain ⟨Ao24, co24, eo24⟩ := Kd.R_slice HO116.out; subst eo24) | (go_at_call 19; (with_reducible refine (contangoref03_Same.calls k _ _ t109 _ _ t113 true _ ?side1 ?side2 ?side3 ?side4 A10.out).mono ?_); (case side1 => repeat (first | exact (Kd.R_reads' HO112.out).2.2 | (with_reducible refine Kd.C_alloc ?_ _) | (with_reducible refine Kd.C_drewN ?_ _) | (with_reducible refine Kd.C_drew ?_))); (case side2 => exact (Kd.R_reads' HO112.out).2.1); (case side3 => repeat (first | exact (Kd.R_reads' HO116.out).2.2 | (with_reducible refine Kd.C_alloc ?_ _) | (with_reducible refine Kd.C_drewN ?_ _) | (with_reducible refine Kd.C_drew ?_))); (case side4 => exact (Kd.R_reads' HO116.out).2.1); rintro e w' ⟨rfl, ⟨nd, rfl⟩⟩) | (go_at_call 20; (with_reducible refine (words_Join.calls _ _ l1 t119 _ ?side1 ?side2 A13.out).mono ?_); (case side1 => repeat (first | exact (Kd.C_below HR1.out (by repeat (first | (with_reducible first | exact HB.out | apply below_alloc | apply pw_below_drewN | apply below_drew1) | exact HB.out))) | (with_reducible refine Kd.C_alloc ?_ _) | (with_reducible refine Kd.C_drewN ?_ _) | (with_reducible refine Kd.C_drew ?_))); (case side2 => exact HC1.out); rintro e w25 ⟨rfl, hb⟩; have n0_ := Aside0.mk (Kd.R_below (by (with_reducible repeat (first | apply Kd.R_alloc | apply Kd.R_drewN | apply Kd.R_drew)); exact HO104.out) hb); have n1_ := Aside0.mk (Kd.R_below (by (with_reducible repeat (first | apply Kd.R_alloc | apply Kd.R_drewN | apply Kd.R_drew)); exact HO108.out) hb); have n2_ := Aside0.mk (Kd.R_below (by (with_reducible repeat (first | apply Kd.R_alloc | apply Kd.R_drewN | apply Kd.R_drew)); exact HO112.out) hb); have n3_ := Aside0.mk (Kd.R_below (by (with_reducible repeat (first | apply Kd.R_alloc | apply Kd.R_drewN | apply Kd.R_drew)); exact HO116.out) hb); have n4_ := Aside0.mk (below_step (by repeat (first | (with_reducible first | exact HB.out | apply below_alloc | apply pw_below_drewN | apply below_drew1) | exact HB.out)) hb); clear HO104; clear HO108; clear HO112; clear HO116; clear HB; have HO104 := n0_; have HO108 := n1_; have HO112 := n2_; have HO116 := n3_; have HB := n4_; clear n0_ n1_ n2_ n3_ n4_; (try clear hb); (try clear hb2); (try clear hk); (try clear hi)) | (go_at_call 21; (with_reducible refine (contangoref03_Join.calls k _ _ l1 t120 _ ?side1 ?side2 A14.out).mono ?_); (case side1 => repeat (first | exact (Kd.C_below HR1.out HB.out) | (with_reducible refine Kd.C_alloc ?_ _) | (with_reducible refine Kd.C_drewN ?_ _) | (with_reducible refine Kd.C_drew ?_))); (case side2 => exact HC1.out); rintro e w' ⟨rfl, ⟨nd, rfl⟩⟩) | (go_at_call 14; (with_reducible refine (contangolaw03_goes.calls k  t121 _ A16.out).mono ?_); rintro e w26 ⟨rfl, hb⟩; have n0_ := Aside0.mk (Kd.R_below (by (with_reducible repeat (first | apply Kd.R_alloc | apply Kd.R_drewN | apply Kd.R_drew)); exact HO104.out) hb); have n1_ := Aside0.mk (Kd.R_below (by (with_reducible repeat (first | apply Kd.R_alloc | apply Kd.R_drewN | apply Kd.R_drew)); exact HO108.out) hb); have n2_ := Aside0.mk (Kd.R_below (by (with_reducible repeat (first | apply Kd.R_alloc | apply Kd.R_drewN | apply Kd.R_drew)); exact HO112.out) hb); have n3_ := Aside0.mk (Kd.R_below (by (with_reducible repeat (first | apply Kd.R_alloc | apply Kd.R_drewN | apply Kd.R_drew)); exact HO116.out) hb); have n4_ := Aside0.mk (below_step (by repeat (first | (with_reducible first | exact HB.out | apply below_alloc | apply pw_below_drewN | apply below_drew1) | exact HB.out)) hb); clear HO104; clear HO108; clear HO112; clear HO116; clear HB; have HO104 := n0_; have HO108 := n1_; have HO112 := n2_; have HO116 := n3_; have HB := n4_; clear n0_ n1_ n2_ n3_ n4_; (try clear hb); (try clear hb2); (try clear hk); (try clear hi)))
            go_ret
            exact ⟨by first | rfl | (simp [errW_none, errW_some] <;> rfl) | (simp [*, errW_none, errW_some] <;> rfl), by repeat (first | (with_reducible first | exact HB.out | apply below_alloc | apply pw_below_drewN | apply below_drew1) | exact HB.out)⟩
          · rw [if_neg c15] at H
            exact absurd H (by simp)
        · rw [if_neg c12] at H
          exact absurd H (by simp)
      · replace c11 := Bool.eq_false_iff.mpr c11
        subst c11
        have H1 : (none) = some r := by rw [if_neg (show ¬ (false = true) by decide)] at H; exact H
        clear H
        have H := H1
        clear H1
        exact absurd H (by simp)
    · rw [if_neg c9] at H
      exact absurd H (by simp)
  · replace c8 := Bool.eq_false_iff.mpr c8
    subst c8
    have H1 : (none) = some r := by rw [if_neg (show ¬ (false = true) by decide)] at H; exact H
    clear H
    have H := H1
    clear H1
    exact absurd H (by simp)
end Go.Proofs.YtgaicbhbgephbaaDoor.X
end
section
namespace Go.Proofs.YtgaicbhbgephbaaDoor.Opn
open Go.ChangeShapes Go.WideShapes Go.Proofs.YtgaicbhbgephbaaDoorW.PrintWords
set_option linter.unusedVariables false
set_option linter.unusedSimpArgs false
structure Opens (P : Program) (t : TypeId) {α : Type} (d : Kd α) (Ok : α → Prop) : Prop where
  sz : d.sz = P.cellsOf t
  opens : ∀ {H : Type} {enc : TypeId × Value → H} {w : World} {base : Nat} {spare : Nat → Bool} {held : Bool} {fuel : Nat} {cs : List Value} {x : DataW H × List MemPlace},
    DataW.trod enc P w base spare held fuel t cs = some x → (∀ n ∈ x.1.weights P t, n ≤ reachBytes) → ∃ v, d.K w v cs ∧ Ok v
theorem opens_string {P : Program} {t : TypeId} (ht : P.underlying t = some .string) (hc : P.cellsOf t = 1) : Opens P t Kd.string (fun s => s.size ≤ 140737488351232) := by
  refine ⟨hc.symm, fun h hw => ?_⟩
  obtain ⟨s, rfl, rfl, hs⟩ := DataW.trod_string ht h
  refine ⟨s, rfl, ?_⟩
  have := hw s.data.toList.length (by simp [DataW.weights])
  rw [Array.length_toList] at this
  exact this
theorem list_of {α : Type} {n : Nat} {p : Nat → α → Prop} (h : ∀ i, i < n → ∃ x, p i x) : ∃ l : List α, l.length = n ∧ ∀ i x, l[i]? = some x → p i x := by
  induction n with
  | zero => exact ⟨[], rfl, fun i x hx => by simp at hx⟩
  | succ n ih =>
    obtain ⟨l, hl, hp⟩ := ih (fun i hi => h i (by omega))
    obtain ⟨x, hx⟩ := h n (by omega)
    refine ⟨l ++ [x], by simp [hl], fun i y hy => ?_⟩
    by_cases hi : i < l.length
    · rw [List.getElem?_append_left hi] at hy
      exact hp i y hy
    · rw [List.getElem?_append_right (by omega)] at hy
      have : i - l.length = 0 := by
        cases hk : i - l.length with
        | zero => rfl
        | succ m => rw [hk] at hy; simp at hy
      rw [this] at hy
      simp at hy
      subst hy
      have : i = n := by omega
      subst this
      exact hx
structure OpensF (P : Program) (fs : List Field) (off : Nat) {α : Type} (d : Kd α) (Ok : α → Prop) : Prop where
  opens : ∀ {H : Type} {enc : TypeId × Value → H} {w : World} {base : Nat} {spare : Nat → Bool} {held : Bool} {n : Nat} {cs : List Value} {xs : List (DataW H × List MemPlace)},
    xs.length = fs.length → (∀ (i : Nat) (f : Field), fs[i]? = some f → DataW.trod enc P w base spare held n f.type ((cs.drop f.offset).take (P.cellsOf f.type)) = xs[i]?) →
    (∀ m ∈ DataW.weightsEach P (fs.map (·.type)) (xs.map (·.1)), m ≤ reachBytes) → ∃ v, d.K w v ((cs.drop off).take d.sz) ∧ Ok v
end Go.Proofs.YtgaicbhbgephbaaDoor.Opn
end
section
namespace Go.Proofs.YtgaicbhbgephbaaDoor.P
open Go.RowKit Go.Proofs.YtgaicbhbgephbaaDoorW.PrintWords Go.Proofs.YtgaicbhbgephbaaDoorW.PrintMore Go.Proofs.YtgaicbhbgephbaaDoor.X
theorem Ev_succ {α : Type} {g : Nat → Option α} {r : α} (h : Ev (fun k => g (k + 1)) r) : Ev g r := Ev.step (fun _ => rfl) h
theorem Ev_bind {α β : Type} {g : Nat → Option α} {f : Nat → α → Option β} {a : α} {r : β} (h : Ev g a) (k : Ev (fun n => f n a) r) : Ev (fun n => (g n).bind (f n)) r := Ev.bind h k
theorem Ev_id {α : Type} {g : Nat → Option α} {r : α} (h : Ev g r) : Ev (fun n => (g n).bind fun x => some x) r := Ev.bind h (Ev.now _)
theorem w_id {x : Int} (h1 : -9223372036854775808 ≤ x) (h2 : x ≤ 9223372036854775807) : wrap64 x = x := by unfold wrap64; omega
theorem w_succ {i n : Nat} (h : i < n) (hn : n ≤ 9223372036854775807) : wrap64 ((i : Int) + 1) = ((i + 1 : Nat) : Int) := by rw [w_id (by omega) (by omega)]; omega
theorem rd_nat (xs : List Int) (i : Nat) (h : i < xs.length) : rd xs (i : Int) = xs[i] := by simp [rd, h]
theorem rdOf_nat {α : Type} (d : α) (xs : List α) (i : Nat) (h : i < xs.length) : rdOf d xs (i : Int) = xs[i] := by simp [rdOf, h]
theorem drop_cons {α : Type} (l : List α) (i : Nat) (h : i < l.length) : l.drop i = l[i] :: l.drop (i + 1) := (List.getElem_cons_drop h).symm
end Go.Proofs.YtgaicbhbgephbaaDoor.P
end
section
namespace Go.Proofs.YtgaicbhbgephbaaDoor.P
set_option linter.unusedVariables false
set_option linter.unusedSimpArgs false
open Go.RowKit Go.Proofs.YtgaicbhbgephbaaDoorW.PrintWords Go.Proofs.YtgaicbhbgephbaaDoorW.PrintMore Go.Proofs.YtgaicbhbgephbaaDoor.X
theorem by_rng (s : ByteArray) : ∀ x ∈ bytesOf s, 0 ≤ x ∧ x < 256 := by
  intro x hx
  unfold bytesOf at hx
  obtain ⟨b, hb, rfl⟩ := List.mem_map.1 hx
  have := b.toNat_lt
  omega
theorem by_len (s : ByteArray) : (bytesOf s).length = s.size := bytesOf_length s
theorem by_str (L : List Int) (h : ∀ x ∈ L, 0 ≤ x ∧ x < 256) : bytesOf (strOfNums L) = L := by
  unfold bytesOf
  rw [strOfNums_data, List.map_map]
  conv => rhs; rw [← List.map_id L]
  refine List.map_congr_left fun x hx => ?_
  have := h x hx
  simp only [Function.comp, id, UInt8.toNat_ofNat']
  omega
theorem by_data (s : ByteArray) : s.data.toList = (bytesOf s).map fun n => UInt8.ofNat n.toNat := by
  unfold bytesOf
  rw [List.map_map]
  conv => lhs; rw [← List.map_id s.data.toList]
  refine List.map_congr_left fun x hx => ?_
  simp only [Function.comp, id, Int.toNat_natCast, UInt8.ofNat_toNat]
theorem str_by (s : ByteArray) : strOfNums (bytesOf s) = s := by
  cases s with
  | mk d =>
    unfold strOfNums
    rw [← by_data]
theorem by_inj {a b : ByteArray} (h : bytesOf a = bytesOf b) : a = b := by rw [← str_by a, ← str_by b, h]
theorem by_app (a b : ByteArray) : bytesOf (a ++ b) = bytesOf a ++ bytesOf b := by
  unfold bytesOf
  rw [show (a ++ b).data = a.data ++ b.data from ByteArray.data_append, Array.toList_append, List.map_append]
theorem by_ext (s : ByteArray) (i j : Nat) : bytesOf (s.extract i j) = ((bytesOf s).take j).drop i := by
  unfold bytesOf
  rw [ByteArray.data_extract, Array.toList_extract, ← List.map_take, ← List.map_drop]
  congr 1
  rw [List.extract_eq_take_drop, List.drop_take]
theorem by_toList (s : ByteArray) (l : List UInt8) : s.toList = l ↔ bytesOf s = l.map fun b => (b.toNat : Int) := by
  rw [ByteArray.toList_eq]
  unfold bytesOf
  constructor
  · intro h
    rw [h]
  · intro h
    have e := congrArg (List.map fun n : Int => UInt8.ofNat n.toNat) h
    simpa [List.map_map, Function.comp_def] using e
theorem by_emp (s : ByteArray) : s.toList = ([] : List UInt8) ↔ bytesOf s = [] := by rw [by_toList]; simp
theorem by_bt (s : ByteArray) (i : Nat) (h : i < (bytesOf s).length) : bt s (i : Int) = (bytesOf s)[i] := by
  rw [← rd_bytesOf, rd_nat _ _ h]
theorem by_drop (s : ByteArray) (i : Nat) (h : i < s.size) : (bytesOf s).drop i = bt s (i : Int) :: (bytesOf s).drop (i + 1) := by
  have h' : i < (bytesOf s).length := by rw [by_len]; exact h
  rw [drop_cons _ _ h', by_bt s i h']
theorem by_end (s : ByteArray) (i : Nat) (h : s.size ≤ i) : (bytesOf s).drop i = [] := List.drop_of_length_le (by rw [by_len]; exact h)
def idxL : List Int → Int → Option Nat
  | [], _ => none
  | x :: r, c => if x = c then some 0 else (idxL r c).map (· + 1)
theorem idx_byte (l : List UInt8) (c : UInt8) : Lib.indexByte l c = match idxL (l.map fun b => (b.toNat : Int)) (c.toNat : Int) with | some i => (i : Int) | none => -1 := by
  induction l with
  | nil => rfl
  | cons x r ih =>
    unfold Lib.indexByte
    simp only [List.map_cons, idxL]
    by_cases h : x = c
    · subst h
      simp
    · have h1 : (x == c) = false := by simpa using h
      have h2 : ¬ ((x.toNat : Int) = (c.toNat : Int)) := fun e => h (UInt8.toNat_inj.1 (by omega))
      rw [h1, if_neg h2]
      simp only [Bool.false_eq_true, if_false]
      rw [ih]
      cases hI : idxL (r.map fun b => (b.toNat : Int)) (c.toNat : Int) with
      | none => simp
      | some i =>
        have h3 : ((i : Int) == -1) = false := by
          rw [beq_eq_false_iff_ne]
          omega
        simp [h3]
theorem idx_some {L : List Int} {c : Int} {i : Nat} (h : idxL L c = some i) : i < L.length ∧ L[i]? = some c ∧ c ∉ L.take i ∧ L = L.take i ++ c :: L.drop (i + 1) := by
  induction L generalizing i with
  | nil => cases h
  | cons x r ih =>
    simp only [idxL] at h
    by_cases hx : x = c
    · rw [if_pos hx] at h
      obtain rfl := Option.some.inj h
      subst hx
      simp
    · rw [if_neg hx] at h
      obtain ⟨j, hj, rfl⟩ := Option.map_eq_some_iff.1 h
      obtain ⟨h1, h2, h3, h4⟩ := ih hj
      refine ⟨by simpa using h1, by simpa using h2, ?_, ?_⟩
      · simp only [List.take_succ_cons, List.mem_cons, not_or]
        exact ⟨fun e => hx e.symm, h3⟩
      · simp only [List.take_succ_cons, List.drop_succ_cons, List.cons_append]
        rw [← h4]
theorem idx_none {L : List Int} {c : Int} (h : idxL L c = none) : c ∉ L := by
  induction L with
  | nil => simp
  | cons x r ih =>
    simp only [idxL] at h
    by_cases hx : x = c
    · rw [if_pos hx] at h; cases h
    · rw [if_neg hx] at h
      have h' : idxL r c = none := by simpa using h
      simp only [List.mem_cons, not_or]
      exact ⟨fun e => hx e.symm, ih h'⟩
end Go.Proofs.YtgaicbhbgephbaaDoor.P
end
section
namespace Go.Proofs.YtgaicbhbgephbaaDoor.P
set_option linter.unusedVariables false
set_option linter.unusedSimpArgs false
open Go.RowKit Go.Proofs.YtgaicbhbgephbaaDoorW.PrintWords Go.Proofs.YtgaicbhbgephbaaDoorW.PrintMore Go.Proofs.YtgaicbhbgephbaaDoor.X
def splitI (c : Int) : List Int → List (List Int)
  | [] => [[]]
  | x :: r => if x = c then [] :: splitI c r else (match splitI c r with | p :: q => (x :: p) :: q | [] => [[x]])
theorem splitI_ne (c : Int) (L : List Int) : splitI c L ≠ [] := by
  cases L with
  | nil => simp [splitI]
  | cons x r =>
    unfold splitI
    split
    · simp
    · split <;> simp
theorem splitI_none {c : Int} : ∀ {L : List Int}, c ∉ L → splitI c L = [L]
  | [], _ => rfl
  | x :: r, h => by
    simp only [List.mem_cons, not_or] at h
    unfold splitI
    rw [if_neg (fun e => h.1 e.symm), splitI_none h.2]
theorem splitI_app {c : Int} : ∀ {A : List Int} (R : List Int), c ∉ A → splitI c (A ++ c :: R) = A :: splitI c R
  | [], R, _ => by rw [List.nil_append, splitI, if_pos rfl]
  | x :: r, R, h => by
    simp only [List.mem_cons, not_or] at h
    rw [List.cons_append, splitI, if_neg (fun e => h.1 e.symm), splitI_app R h.2]
theorem splitB_step (c : UInt8) (s : ByteArray) (ih : ∀ t : ByteArray, t.size < s.size → (Lib.splitB ⟨#[c]⟩ 0 (Lib.countB t ⟨#[c]⟩) t).map bytesOf = splitI (c.toNat : Int) (bytesOf t)) : (Lib.splitB ⟨#[c]⟩ 0 (Lib.countB s ⟨#[c]⟩) s).map bytesOf = splitI (c.toNat : Int) (bytesOf s) := by
  have hix : Lib.indexB s ⟨#[c]⟩ = match idxL (bytesOf s) (c.toNat : Int) with | some i => (i : Int) | none => -1 := by
    have := idx_byte s.data.toList c
    rw [← Lib.index_one] at this
    exact this
  cases hI : idxL (bytesOf s) (c.toNat : Int) with
  | none =>
    rw [hI] at hix
    rw [Lib.countB_miss s _ hix, splitI_none (idx_none hI)]
    rfl
  | some i =>
    rw [hI] at hix
    obtain ⟨h1, h2, h3, h4⟩ := idx_some hI
    have hc := Lib.countB_hit s ⟨#[c]⟩ i (Nat.le_refl _) hix
    have e1 : (⟨#[c]⟩ : ByteArray).size = 1 := rfl
    rw [e1] at hc
    have hsz : (s.extract (i + 1) s.size).size < s.size := by
      rw [by_len] at h1
      rw [ByteArray.size_extract]
      omega
    have ih := ih (s.extract (i + 1) s.size) hsz
    rw [show Lib.countB s ⟨#[c]⟩ = Lib.countB (s.extract (i + 1) s.size) ⟨#[c]⟩ + 1 by omega, Lib.splitB_hit _ _ _ _ i hix, List.map_cons, e1, ih]
    have e2 : bytesOf (s.extract 0 (i + 0)) = (bytesOf s).take i := by rw [by_ext, List.drop_zero, Nat.add_zero]
    have e3 : bytesOf (s.extract (i + 1) s.size) = (bytesOf s).drop (i + 1) := by rw [by_ext, ← by_len, List.take_length]
    rw [e2, e3]
    conv => rhs; rw [h4]
    rw [splitI_app _ h3]
theorem splitB_map (c : UInt8) (n : Nat) : ∀ s : ByteArray, s.size ≤ n → (Lib.splitB ⟨#[c]⟩ 0 (Lib.countB s ⟨#[c]⟩) s).map bytesOf = splitI (c.toNat : Int) (bytesOf s) := by
  induction n with
  | zero => exact fun s hs => splitB_step c s fun t ht => absurd ht (by omega)
  | succ n ih => exact fun s hs => splitB_step c s fun t ht => ih t (by omega)
theorem split_f (s : ByteArray) (c : UInt8) (hs : s.size < 4294967281) : ∃ l, strings_Split.f s (⟨#[c]⟩ : ByteArray) = some l ∧ l.map bytesOf = splitI (c.toNat : Int) (bytesOf s) := by
  refine ⟨_, ?_, splitB_map c s.size s (Nat.le_refl _)⟩
  unfold strings_Split.f
  rw [if_pos ⟨rfl, hs⟩]
def okB (b : Int) : Bool := decide (32 < b) && decide (b ≤ 126)
def goodP (p : List Int) : Bool := !p.isEmpty && p.all okB
theorem sp_len (c : Int) : ∀ L : List Int, (splitI c L).length ≤ L.length + 1
  | [] => by simp [splitI]
  | x :: r => by
    have ih := sp_len c r
    unfold splitI
    split
    · simp only [List.length_cons]; omega
    · split
      · rename_i p q h
        rw [h] at ih
        simp only [List.length_cons] at ih ⊢
        omega
      · simp
theorem field_loop (acc : List ByteArray) (x : ByteArray) (ps : List ByteArray) (n j : Int) (hx : x.size ≤ 4611686018427387904) (ha : acc.length < 8796093022208) : ∀ (d i : Nat), i + d = x.size → (((bytesOf x).drop i).all okB = false → Ev (fun k => words_Fields.l1 k acc 0 x ps n j x.size i) (([], 5) : List ByteArray × Int)) ∧ (((bytesOf x).drop i).all okB = true → ∀ r, Ev (fun k => words_Fields.l0 k (acc ++ [x]) 0 ps n (wrap64 (j + 1))) r → Ev (fun k => words_Fields.l1 k acc 0 x ps n j x.size i) r)
  | 0, i, hd => by
    rw [by_end x i (by omega)]
    refine ⟨fun h => absurd h (by decide), fun _ r hr => ?_⟩
    refine Ev_succ ?_
    simp only [words_Fields.l1, if_neg (show ¬ ((i : Int) < (x.size : Int)) by omega), if_pos ha]
    exact hr
  | d + 1, i, hd => by
    have hi : i < x.size := by omega
    have ih := field_loop acc x ps n j hx ha d (i + 1) (by omega)
    rw [by_drop x i hi, List.all_cons]
    have hb : okB (bt x (i : Int)) = true ↔ (32 < bt x (i : Int) ∧ bt x (i : Int) ≤ 126) := by unfold okB; simp
    by_cases c1 : bt x (i : Int) ≤ 32
    · have hf : okB (bt x (i : Int)) = false := by
        rw [← Bool.not_eq_true, hb]; omega
      rw [hf, Bool.false_and]
      refine ⟨fun _ => Ev_succ ?_, fun h => absurd h (by decide)⟩
      simp only [words_Fields.l1, if_pos (show (i : Int) < (x.size : Int) by omega), if_pos (show 0 ≤ (i : Int) by omega), if_pos c1, if_neg (show ¬ (5 : Int) = 0 by decide)]
      exact Ev.now _
    · by_cases c2 : bt x (i : Int) > 126
      · have hf : okB (bt x (i : Int)) = false := by
          rw [← Bool.not_eq_true, hb]; omega
        rw [hf, Bool.false_and]
        refine ⟨fun _ => Ev_succ ?_, fun h => absurd h (by decide)⟩
        simp only [words_Fields.l1, if_pos (show (i : Int) < (x.size : Int) by omega), if_pos (show 0 ≤ (i : Int) by omega), if_neg c1, if_pos c2, if_neg (show ¬ (5 : Int) = 0 by decide)]
        exact Ev.now _
      · have hf : okB (bt x (i : Int)) = true := by rw [hb]; omega
        rw [hf, Bool.true_and]
        refine ⟨fun h => Ev_succ ?_, fun h r hr => Ev_succ ?_⟩
        · simp only [words_Fields.l1, if_pos (show (i : Int) < (x.size : Int) by omega), if_pos (show 0 ≤ (i : Int) by omega), if_neg c1, if_neg c2, w_succ hi (by omega)]
          exact ih.1 h
        · simp only [words_Fields.l1, if_pos (show (i : Int) < (x.size : Int) by omega), if_pos (show 0 ≤ (i : Int) by omega), if_neg c1, if_neg c2, w_succ hi (by omega)]
          exact ih.2 h r hr
theorem fields_loop (ps : List ByteArray) (hp : ps.length < 8796093022208) (hz : ∀ p ∈ ps, p.size ≤ 4611686018427387904) : ∀ (d i : Nat), i + d = ps.length → Ev (fun k => words_Fields.l0 k (ps.take i) 0 ps ps.length i) (if ((ps.drop i).all fun p => goodP (bytesOf p)) = true then (ps, 0) else ([], 5))
  | 0, i, hd => by
    refine Ev_succ ?_
    simp only [words_Fields.l0, if_neg (show ¬ ((i : Int) < (ps.length : Int)) by omega), if_true]
    rw [List.drop_of_length_le (by omega), List.take_of_length_le (by omega)]
    exact Ev.now _
  | d + 1, i, hd => by
    have hi : i < ps.length := by omega
    have ih := fields_loop ps hp hz d (i + 1) (by omega)
    have hr : rdOf ByteArray.empty ps (i : Int) = ps[i] := rdOf_nat _ _ _ hi
    refine Ev_succ ?_
    simp only [words_Fields.l0, if_pos (show (i : Int) < (ps.length : Int) by omega), if_pos (show 0 ≤ (i : Int) by omega), hr]
    rw [drop_cons ps i hi, List.all_cons]
    by_cases c : ps[i].toList = []
    · have hg : goodP (bytesOf ps[i]) = false := by rw [(by_emp _).1 c]; rfl
      simp only [if_pos c, if_neg (show ¬ (5 : Int) = 0 by decide), hg, Bool.false_and, Bool.false_eq_true, if_false]
      exact Ev.now _
    · have hne : bytesOf ps[i] ≠ [] := fun h => c ((by_emp _).2 h)
      have hem : (bytesOf ps[i]).isEmpty = false := by simpa using hne
      have hl := field_loop (ps.take i) ps[i] ps ps.length i (hz _ (List.getElem_mem hi)) (by rw [List.length_take]; omega) ps[i].size 0 (by omega)
      rw [List.drop_zero] at hl
      simp only [if_neg c]
      have hg : goodP (bytesOf ps[i]) = (bytesOf ps[i]).all okB := by unfold goodP; rw [hem]; simp
      rw [hg]
      cases ha : (bytesOf ps[i]).all okB with
      | false =>
        simp only [Bool.false_and, Bool.false_eq_true, if_false]
        exact hl.1 ha
      | true =>
        rw [Bool.true_and]
        refine hl.2 ha _ ?_
        rw [w_succ hi (by omega), show ps.take i ++ [ps[i]] = ps.take (i + 1) from (List.take_append_getElem hi)]
        exact ih
def fieldsE (L : List Int) : List (List Int) × Int := if 512 < L.length then ([], 8) else if L = [] then ([], 0) else if (splitI 32 L).all goodP = true then (splitI 32 L, 0) else ([], 5)
theorem map_str (l : List ByteArray) : (l.map bytesOf).map strOfNums = l := by
  rw [List.map_map]
  conv => rhs; rw [← List.map_id l]
  exact List.map_congr_left fun x _ => str_by x
def fieldsS (s : ByteArray) : List ByteArray × Int := ((fieldsE (bytesOf s)).1.map strOfNums, (fieldsE (bytesOf s)).2)
theorem fields_f (s : ByteArray) : Ev (fun k => words_Fields.f k s) (fieldsS s) := by
  unfold words_Fields.f fieldsS fieldsE
  rw [by_len]
  by_cases c1 : 512 < s.size
  · simp only [if_pos c1, if_pos (show (s.size : Int) > 512 by omega)]
    exact Ev.now _
  simp only [if_neg c1, if_neg (show ¬ (s.size : Int) > 512 by omega)]
  by_cases c2 : s.toList = []
  · simp only [if_pos c2, if_pos ((by_emp s).1 c2)]
    exact Ev.now _
  simp only [if_neg c2, if_neg (fun h => c2 ((by_emp s).2 h))]
  obtain ⟨l, h1, h2⟩ := split_f s 32 (by omega)
  rw [h1]
  simp only [Option.bind_some]
  have hlen : l.length ≤ s.size + 1 := by
    have := sp_len 32 (bytesOf s)
    rw [show ((32 : UInt8).toNat : Int) = 32 from rfl] at h2
    rw [← h2, List.length_map, by_len] at this
    exact this
  have hsz : ∀ p ∈ l, p.size ≤ 4611686018427387904 := by
    intro p hp
    have hm : bytesOf p ∈ splitI 32 (bytesOf s) := by
      rw [show ((32 : UInt8).toNat : Int) = 32 from rfl] at h2
      rw [← h2]
      exact List.mem_map_of_mem hp
    have key : ∀ (L : List Int), ∀ q ∈ splitI 32 L, q.length ≤ L.length := by
      intro L
      induction L with
      | nil => intro q hq; simp [splitI] at hq; subst hq; simp
      | cons x r ih =>
        intro q hq
        unfold splitI at hq
        split at hq
        · rcases List.mem_cons.1 hq with h | h
          · subst h; simp
          · have := ih q h; simp; omega
        · split at hq
          · rename_i p1 q1 he
            rcases List.mem_cons.1 hq with h | h
            · subst h
              have := ih p1 (by rw [he]; simp)
              simp; omega
            · have := ih q (by rw [he]; simp [h])
              simp; omega
          · simp at hq; subst hq; simp
    have := key _ _ hm
    rw [by_len, by_len] at this
    omega
  have hf := fields_loop l (by omega) hsz l.length 0 (by omega)
  rw [List.take_zero, List.drop_zero] at hf
  have hall : (l.all fun p => goodP (bytesOf p)) = (splitI 32 (bytesOf s)).all goodP := by
    rw [show ((32 : UInt8).toNat : Int) = 32 from rfl] at h2
    rw [← h2, List.all_map]
    rfl
  rw [hall] at hf
  by_cases c3 : (splitI 32 (bytesOf s)).all goodP = true
  · rw [if_pos c3] at hf
    simp only [if_pos c3]
    rw [show ((32 : UInt8).toNat : Int) = 32 from rfl] at h2
    rw [← h2, map_str]
    exact hf
  · rw [if_neg c3] at hf
    simp only [if_neg c3]
    exact hf
def joinI : List (List Int) → List Int
  | [] => []
  | [x] => x
  | x :: y :: r => x ++ 32 :: joinI (y :: r)
theorem join_bytes : ∀ l : List ByteArray, bytesOf ⟨(Lib.join (l.map (·.data.toList)) (⟨#[32]⟩ : ByteArray).data.toList).toArray⟩ = joinI (l.map bytesOf)
  | [] => rfl
  | [x] => by
    show List.map _ (Lib.join [x.data.toList] [32]).toArray.toList = _
    rw [Lib.join_one]
    rfl
  | x :: y :: r => by
    have ih := join_bytes (y :: r)
    have e : Lib.join ((x :: y :: r).map (·.data.toList)) [32] = x.data.toList ++ 32 :: Lib.join ((y :: r).map (·.data.toList)) [32] := by
      simp only [List.map_cons, Lib.join_cons, Lib.joinTail, List.flatten_cons]
      rfl
    show List.map _ (Lib.join ((x :: y :: r).map (·.data.toList)) [32]).toArray.toList = _
    rw [e]
    have ih2 : List.map (fun b : UInt8 => (b.toNat : Int)) (Lib.join ((y :: r).map (·.data.toList)) [32]) = joinI ((y :: r).map bytesOf) := ih
    simp only [List.toList_toArray, List.map_append, List.map_cons, joinI] at ih2 ⊢
    rw [ih2]
    rfl
def joinS (l : List ByteArray) : ByteArray := strOfNums (joinI (l.map bytesOf))
theorem join_rng (l : List ByteArray) : ∀ x ∈ joinI (l.map bytesOf), 0 ≤ x ∧ x < 256 := by
  rw [← join_bytes]
  exact by_rng _
theorem joinS_by (l : List ByteArray) : bytesOf (joinS l) = joinI (l.map bytesOf) := by_str _ (join_rng l)
theorem join_len : ∀ l : List (List Int), (joinI l).length ≤ (l.map fun x => x.length + 1).sum
  | [] => by simp [joinI]
  | [x] => by simp [joinI]
  | x :: y :: r => by
    have := join_len (y :: r)
    simp only [joinI, List.length_append, List.length_cons, List.map_cons, List.sum_cons] at this ⊢
    omega
def sumZ (l : List ByteArray) : Nat := (l.map fun x => x.size + 1).sum
theorem join_f (l : List ByteArray) (h : sumZ l ≤ 140737488355328) : words_Join.f l = some (joinS l) := by
  have hb := join_bytes l
  have hl : (Lib.join (l.map (·.data.toList)) (⟨#[32]⟩ : ByteArray).data.toList).length ≤ 140737488355328 := by
    have h1 := join_len (l.map bytesOf)
    have e : (l.map bytesOf).map (fun x => x.length + 1) = l.map fun x => x.size + 1 := by
      rw [List.map_map]
      exact List.map_congr_left fun x _ => by simp [by_len]
    rw [e, ← hb, by_len] at h1
    exact Nat.le_trans h1 h
  have hn : l.length ≤ 140737488355328 := by
    have : l.length ≤ sumZ l := by
      unfold sumZ
      clear hb hl h
      induction l with
      | nil => simp
      | cons x r ih => simp only [List.map_cons, List.sum_cons, List.length_cons]; omega
    omega
  unfold words_Join.f words_together.f strings_Join.f
  rw [if_pos ⟨hl, hn⟩]
  simp only [Option.bind_some]
  congr 1
  apply by_inj
  rw [hb, joinS_by]
end Go.Proofs.YtgaicbhbgephbaaDoor.P
end
section
namespace Go.Proofs.YtgaicbhbgephbaaDoor.P
set_option linter.unusedVariables false
set_option linter.unusedSimpArgs false
open Go.RowKit Go.Proofs.YtgaicbhbgephbaaDoorW.PrintWords Go.Proofs.YtgaicbhbgephbaaDoorW.PrintMore Go.Proofs.YtgaicbhbgephbaaDoor.X
def cutL (L : List Int) (c : Int) : List Int × List Int × Bool := match idxL L c with
  | some i => (L.take i, L.drop (i + 1), true)
  | none => (L, [], false)
theorem cutL_none {L : List Int} {c : Int} (h : idxL L c = none) : cutL L c = (L, [], false) := by unfold cutL; rw [h]
theorem cutL_some {L : List Int} {c : Int} {i : Nat} (h : idxL L c = some i) : cutL L c = (L.take i, L.drop (i + 1), true) := by unfold cutL; rw [h]
theorem cut_f (s : ByteArray) (c : UInt8) (hs : s.size ≤ 4611686018427387904) : strings_Cut.f s (⟨#[c]⟩ : ByteArray) = some (strOfNums (cutL (bytesOf s) (c.toNat : Int)).1, strOfNums (cutL (bytesOf s) (c.toNat : Int)).2.1, (cutL (bytesOf s) (c.toNat : Int)).2.2) := by
  have hsz : (⟨#[c]⟩ : ByteArray).size = 1 := rfl
  unfold strings_Cut.f stringslite_Cut.f stringslite_Index.f
  rw [if_pos hsz]
  simp only [Option.bind_some]
  rw [show (⟨#[c]⟩ : ByteArray).data.getD 0 0 = c from rfl, idx_byte]
  rw [show s.data.toList.map (fun b => (b.toNat : Int)) = bytesOf s from rfl]
  cases hI : idxL (bytesOf s) (c.toNat : Int) with
  | none =>
    rw [cutL_none hI]
    simp only []
    rw [if_neg (by omega)]
    simp only [Option.bind_some]
    rw [str_by]
    rfl
  | some i =>
    have hi := (idx_some hI).1
    rw [by_len] at hi
    rw [cutL_some hI]
    simp only []
    have hw : wrap64 ((i : Int) + ((⟨#[c]⟩ : ByteArray).size : Int)) = ((i + 1 : Nat) : Int) := by
      rw [hsz, w_id (by omega) (by omega)]
      omega
    rw [hw, if_pos (by omega), if_pos (by omega), if_pos (by omega), if_pos (by omega), if_pos (by omega)]
    simp only [Option.bind_some, Int.toNat_natCast]
    have e1 : s.extract 0 i = strOfNums ((bytesOf s).take i) := by
      apply by_inj
      rw [by_ext, List.drop_zero, by_str _ fun x hx => by_rng s x (List.mem_of_mem_take hx)]
    have e2 : s.extract (i + 1) s.size = strOfNums ((bytesOf s).drop (i + 1)) := by
      apply by_inj
      rw [by_ext, by_str _ fun x hx => by_rng s x (List.mem_of_mem_drop hx), ← by_len, List.take_length]
    rw [e1, e2]
theorem cutL_rng {L : List Int} {c : Int} (h : ∀ x ∈ L, 0 ≤ x ∧ x < 256) : (∀ x ∈ (cutL L c).1, 0 ≤ x ∧ x < 256) ∧ ∀ x ∈ (cutL L c).2.1, 0 ≤ x ∧ x < 256 := by
  cases hI : idxL L c with
  | none => rw [cutL_none hI]; exact ⟨h, fun x hx => by cases hx⟩
  | some i => rw [cutL_some hI]; exact ⟨fun x hx => h x (List.mem_of_mem_take hx), fun x hx => h x (List.mem_of_mem_drop hx)⟩
end Go.Proofs.YtgaicbhbgephbaaDoor.P
end
section
namespace Go.Proofs.YtgaicbhbgephbaaDoor.P
set_option linter.unusedVariables false
set_option linter.unusedSimpArgs false
open Go.RowKit Go.Proofs.YtgaicbhbgephbaaDoorW.PrintWords Go.Proofs.YtgaicbhbgephbaaDoorW.PrintMore Go.Proofs.YtgaicbhbgephbaaDoor.X
theorem ok_iff (b : Int) : okB b = true ↔ 32 < b ∧ b ≤ 126 := by unfold okB; simp
theorem good_all : ∀ {L : List Int}, (splitI 32 L).all goodP = true → ∀ x ∈ L, x = 32 ∨ okB x = true
  | [], _, x, hx => by cases hx
  | a :: r, h, x, hx => by
    unfold splitI at h
    by_cases c : a = 32
    · rw [if_pos c, List.all_cons] at h
      exact absurd h (by simp [goodP])
    · rw [if_neg c] at h
      cases hs : splitI 32 r with
      | nil => exact absurd hs (splitI_ne 32 r)
      | cons p q =>
        rw [hs] at h
        simp only [List.all_cons, Bool.and_eq_true] at h
        have h1 := h.1
        unfold goodP at h1
        simp only [List.all_cons, Bool.and_eq_true] at h1
        rcases List.mem_cons.1 hx with e | e
        · subst e; exact Or.inr h1.2.1
        · by_cases hp : p = []
          ·
            subst hp
            cases r with
            | nil => cases e
            | cons b r2 =>
              unfold splitI at hs
              by_cases cb : b = 32
              · rw [if_pos cb] at hs
                injection hs with _ h4
                rcases List.mem_cons.1 e with e2 | e2
                · subst e2; exact Or.inl cb
                · exact good_all (by rw [h4]; exact h.2) x e2
              · rw [if_neg cb] at hs
                cases hs2 : splitI 32 r2 with
                | nil => exact absurd hs2 (splitI_ne 32 r2)
                | cons p2 q2 => rw [hs2] at hs; cases hs
          · refine good_all ?_ x e
            rw [hs, List.all_cons, h.2, Bool.and_true]
            unfold goodP
            have : p.isEmpty = false := by simpa using hp
            rw [this]
            simpa using h1.2.2
theorem ok_no {A : List Int} (h : ∀ b ∈ A, okB b = true) : (32 : Int) ∉ A := fun hm => by have := (ok_iff _).1 (h _ hm); omega
theorem good_of {A : List Int} (h : ∀ b ∈ A, okB b = true) (hn : A ≠ []) : goodP A = true := by
  unfold goodP
  have : A.isEmpty = false := by simpa using hn
  rw [this, List.all_eq_true.2 h]
  rfl
theorem ext_cur (s : ByteArray) (a b : Nat) : s.extract a b = strOfNums (((bytesOf s).take b).drop a) := by
  apply by_inj
  rw [by_ext, by_str]
  intro x hx
  exact by_rng s x (List.mem_of_mem_take (List.mem_of_mem_drop hx))
theorem cur_drop (s : ByteArray) (a i : Nat) (h : a ≤ i) (hi : i ≤ s.size) : (bytesOf s).drop a = ((bytesOf s).take i).drop a ++ (bytesOf s).drop i := by
  conv => lhs; rw [← List.take_append_drop i (bytesOf s)]
  rw [List.drop_append_of_le_length]
  rw [List.length_take, by_len]
  omega
theorem cur_succ (s : ByteArray) (a i : Nat) (h : a ≤ i) (hi : i < s.size) : ((bytesOf s).take (i + 1)).drop a = ((bytesOf s).take i).drop a ++ [bt s (i : Int)] := by
  have hl : i < (bytesOf s).length := by rw [by_len]; exact hi
  rw [by_bt s i hl, ← List.take_append_getElem hl, List.drop_append_of_le_length]
  rw [List.length_take]
  omega
def fieldsG (acc : List ByteArray) (L : List Int) : List ByteArray × Int := if (splitI 32 L).all goodP = true then (acc ++ (splitI 32 L).map strOfNums, 0) else ([], 5)
theorem rfields_loop (s : ByteArray) (hs : s.size ≤ 512) : ∀ (d i a : Nat) (acc : List ByteArray), i + d = s.size → a ≤ i → (∀ b ∈ ((bytesOf s).take i).drop a, okB b = true) → acc.length ≤ i → Ev (fun k => contangoref03_Fields.l0 k s acc a i) (fieldsG acc ((bytesOf s).drop a))
  | 0, i, a, acc, hd, ha, hok, hac => by
    refine Ev_succ ?_
    simp only [contangoref03_Fields.l0, if_pos (show (i : Int) ≤ (s.size : Int) by omega), if_neg (show ¬ (i : Int) < (s.size : Int) by omega)]
    refine Ev_succ ?_
    simp only [contangoref03_Fields.j1, Bool.false_eq_true, if_false, if_neg (show ¬ (i : Int) < (s.size : Int) by omega)]
    refine Ev_succ ?_
    have hcur := cur_drop s a i ha (by omega)
    rw [by_end s i (by omega), List.append_nil] at hcur
    by_cases c : (i : Int) = (a : Int)
    · simp only [contangoref03_Fields.j2, Bool.false_eq_true, if_false, if_pos c]
      have he : (bytesOf s).drop a = [] := by_end s a (by omega)
      unfold fieldsG
      rw [he, if_neg (by decide)]
      exact Ev.now _
    · simp only [contangoref03_Fields.j2, Bool.false_eq_true, if_false, if_neg c, if_pos (show 0 ≤ (a : Int) by omega), if_pos (show (a : Int) ≤ (i : Int) by omega), if_pos (show (i : Int) ≤ (s.size : Int) by omega), if_pos (show acc.length < 8796093022208 by omega), Int.toNat_natCast]
      refine Ev_succ ?_
      rw [w_id (x := (i : Int) + 1) (by omega) (by omega)]
      simp only [contangoref03_Fields.l0, if_neg (show ¬ (i : Int) + 1 ≤ (s.size : Int) by omega)]
      have hne : ((bytesOf s).take i).drop a ≠ [] := by
        intro h
        have := congrArg List.length h
        rw [List.length_drop, List.length_take, by_len] at this
        simp at this
        omega
      unfold fieldsG
      rw [hcur, splitI_none (ok_no hok), ext_cur]
      simp only [List.all_cons, List.all_nil, Bool.and_true, good_of hok hne, if_true, List.map_cons, List.map_nil]
      exact Ev.now _
  | d + 1, i, a, acc, hd, ha, hok, hac => by
    have hi : i < s.size := by omega
    have hcur := cur_drop s a i ha (by omega)
    rw [by_drop s i hi] at hcur
    have hin : bt s (i : Int) ∈ (bytesOf s).drop a := by rw [hcur]; simp
    refine Ev_succ ?_
    simp only [contangoref03_Fields.l0, if_pos (show (i : Int) ≤ (s.size : Int) by omega), if_pos (show (i : Int) < (s.size : Int) by omega), if_pos (show 0 ≤ (i : Int) by omega)]
    have bad : ¬ (bt s (i : Int) = 32 ∨ okB (bt s (i : Int)) = true) → Ev (fun k => contangoref03_Fields.j1 k s acc a i true) (fieldsG acc ((bytesOf s).drop a)) := by
      intro hb
      unfold fieldsG
      rw [if_neg (fun h => hb (good_all h _ hin))]
      refine Ev_succ ?_
      simp only [contangoref03_Fields.j1, if_true]
      exact Ev.now _
    by_cases c1 : bt s (i : Int) < 32
    · simp only [if_pos c1]
      exact bad (by rw [ok_iff]; omega)
    simp only [if_neg c1]
    by_cases c2 : bt s (i : Int) > 126
    · rw [decide_eq_true c2]
      exact bad (by rw [ok_iff]; omega)
    rw [decide_eq_false c2]
    refine Ev_succ ?_
    simp only [contangoref03_Fields.j1, Bool.false_eq_true, if_false, if_pos (show (i : Int) < (s.size : Int) by omega), if_pos (show 0 ≤ (i : Int) by omega)]
    refine Ev_succ ?_
    by_cases c3 : bt s (i : Int) = 32
    · have hb : (bt s (i : Int) != 32) = false := by rw [c3]; rfl
      rw [hb]
      simp only [contangoref03_Fields.j2, Bool.false_eq_true, if_false]
      rw [c3] at hcur
      by_cases c : (i : Int) = (a : Int)
      · simp only [if_pos c]
        have he : ((bytesOf s).take i).drop a = [] := List.drop_of_length_le (by rw [List.length_take]; omega)
        rw [he, List.nil_append] at hcur
        unfold fieldsG
        rw [hcur, splitI, if_pos rfl, List.all_cons, if_neg (by simp [goodP])]
        exact Ev.now _
      · simp only [if_neg c, if_pos (show 0 ≤ (a : Int) by omega), if_pos (show (a : Int) ≤ (i : Int) by omega), if_pos (show (i : Int) ≤ (s.size : Int) by omega), if_pos (show acc.length < 8796093022208 by omega), Int.toNat_natCast, w_succ hi (by omega)]
        have hne : ((bytesOf s).take i).drop a ≠ [] := by
          intro h
          have := congrArg List.length h
          rw [List.length_drop, List.length_take, by_len] at this
          simp at this
          omega
        have ih := rfields_loop s hs d (i + 1) (i + 1) (acc ++ [s.extract a i]) (by omega) (by omega) (by
          intro b hb
          rw [List.drop_of_length_le (by rw [List.length_take]; omega)] at hb
          cases hb) (by simp; omega)
        have e : fieldsG acc ((bytesOf s).drop a) = fieldsG (acc ++ [s.extract a i]) ((bytesOf s).drop (i + 1)) := by
          unfold fieldsG
          rw [hcur, splitI_app _ (ok_no hok), List.all_cons, good_of hok hne, Bool.true_and, ext_cur, List.map_cons]
          simp only [List.append_assoc, List.singleton_append]
        rw [e]
        exact ih
    · have hb : (bt s (i : Int) != 32) = true := bne_iff_ne.2 c3
      rw [hb]
      simp only [contangoref03_Fields.j2, if_true, w_succ hi (by omega)]
      exact rfields_loop s hs d (i + 1) a acc (by omega) (by omega) (by
        intro b hb2
        rw [cur_succ s a i ha hi] at hb2
        rcases List.mem_append.1 hb2 with h | h
        · exact hok b h
        · obtain rfl := List.mem_singleton.1 h
          rw [ok_iff]; omega) (by omega)
theorem rfields_f (s : ByteArray) : Ev (fun k => contangoref03_Fields.f k s) (fieldsS s) := by
  unfold contangoref03_Fields.f fieldsS fieldsE
  rw [by_len]
  by_cases c1 : 512 < s.size
  · simp only [if_pos c1, if_pos (show (s.size : Int) > 512 by omega)]
    exact Ev.now _
  simp only [if_neg c1, if_neg (show ¬ (s.size : Int) > 512 by omega)]
  by_cases c2 : s.toList = []
  · simp only [if_pos c2, if_pos ((by_emp s).1 c2)]
    exact Ev.now _
  simp only [if_neg c2, if_neg (fun h => c2 ((by_emp s).2 h))]
  have h := rfields_loop s (by omega) s.size 0 0 [] (by omega) (by omega) (by intro b hb; simp at hb) (by simp)
  rw [List.drop_zero] at h
  unfold fieldsG at h
  by_cases c3 : (splitI 32 (bytesOf s)).all goodP = true
  · rw [if_pos c3] at h ⊢
    exact h
  · rw [if_neg c3] at h ⊢
    exact h
def linesR : List Int → List Int → List (List Int)
  | cur, [] => if cur = [] then [] else [cur]
  | cur, x :: r => if x = 10 then cur :: linesR [] r else linesR (cur ++ [x]) r
theorem linesR_none : ∀ {r : List Int} (cur : List Int), (10 : Int) ∉ r → linesR cur r = if cur ++ r = [] then [] else [cur ++ r]
  | [], cur, _ => by rw [List.append_nil, linesR]
  | x :: r, cur, h => by
    simp only [List.mem_cons, not_or] at h
    rw [linesR, if_neg (fun e => h.1 e.symm), linesR_none _ h.2, List.append_assoc, List.singleton_append]
theorem linesR_app : ∀ {A : List Int} (R cur : List Int), (10 : Int) ∉ A → linesR cur (A ++ 10 :: R) = (cur ++ A) :: linesR [] R
  | [], R, cur, _ => by rw [List.nil_append, linesR, if_pos rfl, List.append_nil]
  | x :: r, R, cur, h => by
    simp only [List.mem_cons, not_or] at h
    rw [List.cons_append, linesR, if_neg (fun e => h.1 e.symm), linesR_app R _ h.2, List.append_assoc, List.singleton_append]
theorem linesR_cut {L : List Int} (h : L ≠ []) : linesR [] L = (cutL L 10).1 :: linesR [] (cutL L 10).2.1 := by
  cases hI : idxL L 10 with
  | none =>
    rw [cutL_none hI, linesR_none _ (idx_none hI), List.nil_append, if_neg h]
    rfl
  | some i =>
    obtain ⟨_, _, h3, h4⟩ := idx_some hI
    rw [cutL_some hI]
    conv => lhs; rw [h4]
    rw [linesR_app _ _ h3]
    rfl
theorem rlines_loop (s : ByteArray) (hs : s.size ≤ 65536) : ∀ (d i a : Nat) (acc : List ByteArray), i + d = s.size → a ≤ i → acc.length ≤ i → Ev (fun k => contangoref03_Lines.l0 k s acc a i) (acc ++ (linesR (((bytesOf s).take i).drop a) ((bytesOf s).drop i)).map strOfNums, 0)
  | 0, i, a, acc, hd, ha, hac => by
    refine Ev_succ ?_
    simp only [contangoref03_Lines.l0, if_neg (show ¬ (i : Int) < (s.size : Int) by omega)]
    rw [by_end s i (by omega), linesR]
    by_cases c : (a : Int) < (s.size : Int)
    · simp only [if_pos c, if_pos (show 0 ≤ (a : Int) by omega), if_pos (show (a : Int) ≤ (s.size : Int) by omega), if_pos (show acc.length < 8796093022208 by omega), Int.toNat_natCast]
      have hne : ((bytesOf s).take i).drop a ≠ [] := by
        intro h
        have := congrArg List.length h
        rw [List.length_drop, List.length_take, by_len] at this
        simp at this
        omega
      rw [if_neg hne, show s.size = i by omega, ext_cur]
      exact Ev.now _
    · simp only [if_neg c]
      have he : ((bytesOf s).take i).drop a = [] := List.drop_of_length_le (by rw [List.length_take]; omega)
      rw [he, if_pos rfl, List.map_nil, List.append_nil]
      exact Ev.now _
  | d + 1, i, a, acc, hd, ha, hac => by
    have hi : i < s.size := by omega
    refine Ev_succ ?_
    simp only [contangoref03_Lines.l0, if_pos (show (i : Int) < (s.size : Int) by omega), if_pos (show 0 ≤ (i : Int) by omega), w_succ hi (by omega)]
    rw [by_drop s i hi, linesR]
    by_cases c : bt s (i : Int) = 10
    · simp only [if_pos c, if_pos (show 0 ≤ (a : Int) by omega), if_pos (show (a : Int) ≤ (i : Int) by omega), if_pos (show (i : Int) ≤ (s.size : Int) by omega), if_pos (show acc.length < 8796093022208 by omega), Int.toNat_natCast]
      have ih := rlines_loop s hs d (i + 1) (i + 1) (acc ++ [s.extract a i]) (by omega) (by omega) (by simp; omega)
      have he : ((bytesOf s).take (i + 1)).drop (i + 1) = [] := List.drop_of_length_le (by rw [List.length_take]; omega)
      rw [he, ext_cur, List.append_assoc, List.singleton_append] at ih
      rw [ext_cur, List.map_cons]
      exact ih
    · simp only [if_neg c]
      have ih := rlines_loop s hs d (i + 1) a acc (by omega) (by omega) (by omega)
      rw [cur_succ s a i ha hi] at ih
      exact ih
def linesS (s : ByteArray) : List ByteArray × Int := if 65536 < s.size then ([], 8) else ((linesR [] (bytesOf s)).map strOfNums, 0)
theorem rlines_f (s : ByteArray) : Ev (fun k => contangoref03_Lines.f k s) (linesS s) := by
  unfold contangoref03_Lines.f linesS
  by_cases c : 65536 < s.size
  · simp only [if_pos c, if_pos (show (s.size : Int) > 65536 by omega)]
    exact Ev.now _
  · simp only [if_neg c, if_neg (show ¬ (s.size : Int) > 65536 by omega)]
    have h := rlines_loop s (by omega) s.size 0 0 [] (by omega) (by omega) (by simp)
    simpa using h
theorem wlines_step (s : ByteArray) (acc : List ByteArray) (hs : acc.length + s.size ≤ 65536) (ih : ∀ (t : ByteArray) (acc' : List ByteArray), t.size < s.size → acc'.length + t.size ≤ 65536 → Ev (fun k => words_Lines.l0 k t acc') (acc' ++ (linesR [] (bytesOf t)).map strOfNums, 0)) : Ev (fun k => words_Lines.l0 k s acc) (acc ++ (linesR [] (bytesOf s)).map strOfNums, 0) := by
  refine Ev_succ ?_
  by_cases c : s.toList = []
  · simp only [words_Lines.l0, if_pos c]
    rw [(by_emp s).1 c, linesR, if_pos rfl, List.map_nil, List.append_nil]
    exact Ev.now _
  · have hne : bytesOf s ≠ [] := fun h => c ((by_emp s).2 h)
    have hpos : 0 < s.size := by rw [← by_len]; exact List.length_pos_iff.2 hne
    simp only [words_Lines.l0, if_neg c, cut_f s 10 (by omega), Option.bind_some, if_pos (show acc.length < 8796093022208 by omega)]
    rw [show ((10 : UInt8).toNat : Int) = 10 from rfl, linesR_cut hne, List.map_cons]
    have hrng := cutL_rng (c := 10) (by_rng s)
    have hlt : (cutL (bytesOf s) 10).2.1.length < s.size := by
      rw [← by_len]
      cases hI : idxL (bytesOf s) 10 with
      | none => rw [cutL_none hI]; rw [by_len]; simpa using hpos
      | some i => rw [cutL_some hI, List.length_drop]; have := (idx_some hI).1; omega
    have h := ih (strOfNums (cutL (bytesOf s) 10).2.1) (acc ++ [strOfNums (cutL (bytesOf s) 10).1]) (by rw [strOfNums_size]; exact hlt) (by rw [strOfNums_size]; simp; omega)
    rw [by_str _ hrng.2, List.append_assoc, List.singleton_append] at h
    exact h
theorem wlines_all (n : Nat) : ∀ (s : ByteArray) (acc : List ByteArray), s.size ≤ n → acc.length + s.size ≤ 65536 → Ev (fun k => words_Lines.l0 k s acc) (acc ++ (linesR [] (bytesOf s)).map strOfNums, 0) := by
  induction n with
  | zero => exact fun s acc h1 h2 => wlines_step s acc h2 fun t acc' ht _ => absurd ht (by omega)
  | succ n ih => exact fun s acc h1 h2 => wlines_step s acc h2 fun t acc' ht h3 => ih t acc' (by omega) h3
theorem lines_f (s : ByteArray) : Ev (fun k => words_Lines.f k s) (linesS s) := by
  unfold words_Lines.f linesS
  by_cases c : 65536 < s.size
  · simp only [if_pos c, if_pos (show (s.size : Int) > 65536 by omega)]
    exact Ev.now _
  · simp only [if_neg c, if_neg (show ¬ (s.size : Int) > 65536 by omega)]
    have h := wlines_all s.size s [] (Nat.le_refl _) (by simp; omega)
    simpa using h
theorem same_loop (l : List ByteArray) (hl : l.length ≤ 4611686018427387904) : ∀ (d i : Nat), i + d = l.length → Ev (fun k => contangoref03_Same.l0 k l l i) true
  | 0, i, hd => by
    refine Ev_succ ?_
    simp only [contangoref03_Same.l0, if_neg (show ¬ (i : Int) < (l.length : Int) by omega)]
    refine Ev_succ ?_
    simp only [contangoref03_Same.j1, Bool.false_eq_true, if_false, beq_self_eq_true]
    exact Ev.now _
  | d + 1, i, hd => by
    have hi : i < l.length := by omega
    have ih := same_loop l hl d (i + 1) (by omega)
    refine Ev_succ ?_
    simp only [contangoref03_Same.l0, if_pos (show (i : Int) < (l.length : Int) by omega), decide_eq_true (show (i : Int) < (l.length : Int) by omega)]
    refine Ev_succ ?_
    simp only [contangoref03_Same.j1, if_true, if_pos (show 0 ≤ (i : Int) by omega), if_pos (show (i : Int) < (l.length : Int) by omega), w_succ hi (by omega)]
    exact ih
theorem same_f (l : List ByteArray) (hl : l.length ≤ 4611686018427387904) : Ev (fun k => contangoref03_Same.f k l l) true := by
  unfold contangoref03_Same.f
  exact same_loop l hl l.length 0 (by omega)
theorem joinI_snoc : ∀ {A : List (List Int)} (x : List Int), A ≠ [] → joinI (A ++ [x]) = joinI A ++ 32 :: x
  | [], _, h => absurd rfl h
  | [a], x, _ => rfl
  | a :: b :: r, x, _ => by
    have ih := joinI_snoc (A := b :: r) x (by simp)
    show a ++ 32 :: joinI (b :: r ++ [x]) = _
    rw [ih]
    simp [joinI]
theorem sum_take (l : List ByteArray) (i : Nat) : sumZ (l.take i) ≤ sumZ l := by
  unfold sumZ
  conv => rhs; rw [← List.take_append_drop i l, List.map_append, List.sum_append]
  omega
theorem joinS_size (l : List ByteArray) : (joinS l).size ≤ sumZ l := by
  unfold joinS
  rw [strOfNums_size]
  have h1 := join_len (l.map bytesOf)
  have e : (l.map bytesOf).map (fun x => x.length + 1) = l.map fun x => x.size + 1 := by
    rw [List.map_map]
    exact List.map_congr_left fun x _ => by simp [by_len]
  rw [e] at h1
  exact h1
theorem rjoin_loop (l : List ByteArray) (hl : sumZ l ≤ 140737488355328) : ∀ (d i : Nat), i + d = l.length → Ev (fun k => contangoref03_Join.l0 k l (joinS (l.take i)) i) (joinS l)
  | 0, i, hd => by
    refine Ev_succ ?_
    simp only [contangoref03_Join.l0, if_neg (show ¬ (i : Int) < (l.length : Int) by omega)]
    rw [List.take_of_length_le (by omega)]
    exact Ev.now _
  | d + 1, i, hd => by
    have hi : i < l.length := by omega
    have ih := rjoin_loop l hl d (i + 1) (by omega)
    have hr : rdOf ByteArray.empty l (i : Int) = l[i] := rdOf_nat _ _ _ hi
    have ht : l.take (i + 1) = l.take i ++ [l[i]] := (List.take_append_getElem hi).symm
    have z1 := joinS_size (l.take i)
    have z2 := sum_take l (i + 1)
    have z3 : sumZ (l.take (i + 1)) = sumZ (l.take i) + (l[i].size + 1) := by
      rw [ht]
      unfold sumZ
      rw [List.map_append, List.sum_append]
      simp
    have hlen : l.length ≤ sumZ l := by
      unfold sumZ
      clear z1 z2 z3 ht hr ih hi hd hl
      induction l with
      | nil => simp
      | cons x r ih => simp only [List.map_cons, List.sum_cons, List.length_cons]; omega
    have one : (⟨#[32]⟩ : ByteArray).size = 1 := rfl
    refine Ev_succ ?_
    by_cases c : i = 0
    · subst c
      have hz : (joinS (l.take 0)).size = 0 := by rw [List.take_zero]; rfl
      have e : joinS (l.take 1) = joinS (l.take 0) ++ l[0] := by
        apply by_inj
        rw [by_app, joinS_by, joinS_by, ht]
        simp [joinI]
      simp only [contangoref03_Join.l0, if_pos (show ((0 : Nat) : Int) < (l.length : Int) by omega), if_neg (show ¬ ((0 : Nat) : Int) > 0 by decide), if_pos (show 0 ≤ ((0 : Nat) : Int) by decide), hr, if_pos (show (joinS (l.take 0)).size + l[0].size ≤ 9223372036854775807 by omega), w_succ hi (by omega)]
      rw [← e]
      exact ih
    · have e : joinS (l.take (i + 1)) = (joinS (l.take i) ++ (⟨#[32]⟩ : ByteArray)) ++ l[i] := by
        apply by_inj
        rw [by_app, by_app, joinS_by, joinS_by, ht, List.map_append, List.map_cons, List.map_nil, joinI_snoc _ (by
          intro h
          have := congrArg List.length h
          rw [List.length_map, List.length_take, List.length_nil] at this
          omega)]
        rw [List.append_assoc]
        rfl
      have z4 : (joinS (l.take i) ++ (⟨#[32]⟩ : ByteArray)).size = (joinS (l.take i)).size + 1 := by rw [ByteArray.size_append, one]
      simp only [contangoref03_Join.l0, if_pos (show (i : Int) < (l.length : Int) by omega), if_pos (show (i : Int) > 0 by omega), if_pos (show 0 ≤ (i : Int) by omega), if_pos (show (joinS (l.take i)).size + 1 ≤ 9223372036854775807 by omega), hr, if_pos (show (joinS (l.take i) ++ (⟨#[32]⟩ : ByteArray)).size + l[i].size ≤ 9223372036854775807 by omega), w_succ hi (by omega)]
      rw [← e]
      exact ih
theorem rjoin_f (l : List ByteArray) (hl : sumZ l ≤ 140737488355328) : Ev (fun k => contangoref03_Join.f k l) (joinS l) := by
  unfold contangoref03_Join.f
  have h := rjoin_loop l hl l.length 0 (by omega)
  exact h
theorem fields_len (s : ByteArray) : (fieldsS s).1.length ≤ 513 := by
  unfold fieldsS fieldsE
  split
  · simp
  · split
    · simp
    · split
      · rw [List.length_map]
        have := sp_len 32 (bytesOf s)
        show (splitI 32 (bytesOf s)).length ≤ 513
        omega
      · simp
theorem linesR_len : ∀ (r cur : List Int), (linesR cur r).length ≤ r.length + 1
  | [], cur => by rw [linesR]; split <;> simp
  | x :: r, cur => by
    rw [linesR]
    split
    · have := linesR_len r []; simp; omega
    · have := linesR_len r (cur ++ [x]); simp; omega
theorem lines_len (s : ByteArray) : (linesS s).1.length ≤ 65537 := by
  unfold linesS
  split
  · simp
  · rw [List.length_map]
    have := linesR_len (bytesOf s) []
    rw [by_len] at this
    omega
end Go.Proofs.YtgaicbhbgephbaaDoor.P
end
section
namespace Go.Proofs.YtgaicbhbgephbaaDoor.P
open Go.RowKit Go.Proofs.YtgaicbhbgephbaaDoorW.PrintWords Go.Proofs.YtgaicbhbgephbaaDoorW.PrintMore Go.Proofs.YtgaicbhbgephbaaDoor.X
set_option maxRecDepth 100000 in
theorem goes03 : Ev (fun k => contangolaw03_goes.f k) true := Ev.of (k := 40) (contangolaw03_goes.mono) (by decide +kernel)
end Go.Proofs.YtgaicbhbgephbaaDoor.P
end
section
namespace Go.Proofs.YtgaicbhbgephbaaDoor.Pure
set_option linter.unusedVariables false
set_option linter.unusedSimpArgs false
open Go.RowKit Go.Proofs.YtgaicbhbgephbaaDoorW.PrintWords Go.Proofs.YtgaicbhbgephbaaDoorW.PrintMore Go.Proofs.YtgaicbhbgephbaaDoor.X Go.Proofs.YtgaicbhbgephbaaDoor.P
theorem WordsCuts : ∀ (a0 : ByteArray) (l1 : List ByteArray), a0.size ≤ 140737488351232 → (l1.map fun x => x.size + 1).sum ≤ 1048576 → ∃ k, X.contangolaw03_WordsCuts.f k a0 l1 = some true := by
  intro s l h0 h1
  have hz : sumZ l ≤ 140737488355328 := by unfold sumZ; omega
  refine Ev.rounds ?_
  unfold contangolaw03_WordsCuts.f
  refine Ev_bind (fields_f s) ?_
  refine Ev_bind (rfields_f s) ?_
  refine Ev_bind (lines_f s) ?_
  refine Ev_bind (rlines_f s) ?_
  refine Ev_bind (same_f _ (by have := fields_len s; omega)) ?_
  simp only [if_true]
  refine Ev_bind (same_f _ (by have := lines_len s; omega)) ?_
  simp only [if_true]
  rw [join_f l hz]
  simp only [Option.bind_some]
  refine Ev_bind (rjoin_f l hz) ?_
  simp only [if_true]
  exact Ev_id goes03
end Go.Proofs.YtgaicbhbgephbaaDoor.Pure
end
