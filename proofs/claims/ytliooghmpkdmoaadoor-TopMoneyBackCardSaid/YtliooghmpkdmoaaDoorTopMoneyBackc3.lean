/- For TopMoneyBack: contracts, and facts on lists and numbers, that it uses (part 3). -/
import Derived.ChangeArms
import Derived.Deep.Slices
import Derived.Laws.Bits64b
import Derived.Laws.BitsLemmas
import Derived.Laws.Strings
import Derived.Lib.BitFns
import Derived.Lib.Bytealg
import Derived.Lib.Mul64
import Derived.OpenShut
import Derived.SizedLaws
import Derived.Test.YtliooghmpkdmoaaDoorTopMoneyBackc2
import Derived.WideShapes
section
namespace Go.Proofs.YtliooghmpkdmoaaDoor.X
open Go.RowKit Go.Proofs.YtliooghmpkdmoaaDoorW.PrintWords Go.Proofs.YtliooghmpkdmoaaDoorW.PrintLast Go.Proofs.YtliooghmpkdmoaaDoorW.PrintMore
attribute [local go_sem] max2_int min2_int max_two min_two max_three min_three max_four min_four
set_option linter.unusedVariables false
set_option linter.unusedSimpArgs false
mutual
def bits_Div64.j2 : Nat → Int → Int → Int → Int → Int → Int → Int → Int → Option (Int × Int)
  | 0, _, _, _, _, _, _, _, _ => none
  | k + 1, x2, x8, x9, x10, x11, x13, x14, x15 => if x9 = 0 then (none) else (bits_Div64.l1 k x2 x8 x9 x10 x14 x15 (IntKind.u64.wrap ((IntKind.u64.wrap ((IntKind.u64.wrap ((IntKind.u64.wrap (x11 * 4294967296)) + x13)) - (IntKind.u64.wrap (x15 * x2)))) - (IntKind.u64.wrap ((IntKind.u64.wrap (Int.tdiv (IntKind.u64.wrap ((IntKind.u64.wrap ((IntKind.u64.wrap (x11 * 4294967296)) + x13)) - (IntKind.u64.wrap (x15 * x2)))) x9)) * x9)))) (IntKind.u64.wrap ((IntKind.u64.wrap ((IntKind.u64.wrap (x11 * 4294967296)) + x13)) - (IntKind.u64.wrap (x15 * x2)))) (IntKind.u64.wrap (Int.tdiv (IntKind.u64.wrap ((IntKind.u64.wrap ((IntKind.u64.wrap (x11 * 4294967296)) + x13)) - (IntKind.u64.wrap (x15 * x2)))) x9)))
def bits_Div64.l1 : Nat → Int → Int → Int → Int → Int → Int → Int → Int → Int → Option (Int × Int)
  | 0, _, _, _, _, _, _, _, _, _ => none
  | k + 1, x2, x8, x9, x10, x14, x15, x16, x17, x18 => if x18 ≥ 4294967296 then (bits_Div64.j4 k x2 x8 x9 x10 x14 x15 x16 x17 x18 true) else (bits_Div64.j4 k x2 x8 x9 x10 x14 x15 x16 x17 x18 (decide ((IntKind.u64.wrap (x18 * x10)) > (IntKind.u64.wrap ((IntKind.u64.wrap (4294967296 * x16)) + x14)))))
def bits_Div64.j4 : Nat → Int → Int → Int → Int → Int → Int → Int → Int → Int → Bool → Option (Int × Int)
  | 0, _, _, _, _, _, _, _, _, _, _ => none
  | k + 1, x2, x8, x9, x10, x14, x15, x16, x17, x18, x113 => if x113 = true then (if (IntKind.u64.wrap (x16 + x9)) ≥ 4294967296 then (if 0 ≤ x8 then (some (IntKind.u64.wrap ((IntKind.u64.wrap (x15 * 4294967296)) + (IntKind.u64.wrap (x18 - 1))), shr .u64 (IntKind.u64.wrap ((IntKind.u64.wrap ((IntKind.u64.wrap (x17 * 4294967296)) + x14)) - (IntKind.u64.wrap ((IntKind.u64.wrap (x18 - 1)) * x2)))) x8)) else (none)) else (bits_Div64.l1 k x2 x8 x9 x10 x14 x15 (IntKind.u64.wrap (x16 + x9)) x17 (IntKind.u64.wrap (x18 - 1)))) else (if 0 ≤ x8 then (some (IntKind.u64.wrap ((IntKind.u64.wrap (x15 * 4294967296)) + x18), shr .u64 (IntKind.u64.wrap ((IntKind.u64.wrap ((IntKind.u64.wrap (x17 * 4294967296)) + x14)) - (IntKind.u64.wrap (x18 * x2)))) x8)) else (none))
def bits_Div64.l0 : Nat → Int → Int → Int → Int → Int → Int → Int → Int → Int → Option (Int × Int)
  | 0, _, _, _, _, _, _, _, _, _ => none
  | k + 1, x2, x8, x9, x10, x11, x13, x14, x15, x16 => if x15 ≥ 4294967296 then (bits_Div64.j1 k x2 x8 x9 x10 x11 x13 x14 x15 x16 true) else (bits_Div64.j1 k x2 x8 x9 x10 x11 x13 x14 x15 x16 (decide ((IntKind.u64.wrap (x15 * x10)) > (IntKind.u64.wrap ((IntKind.u64.wrap (4294967296 * x16)) + x13)))))
def bits_Div64.j1 : Nat → Int → Int → Int → Int → Int → Int → Int → Int → Int → Bool → Option (Int × Int)
  | 0, _, _, _, _, _, _, _, _, _, _ => none
  | k + 1, x2, x8, x9, x10, x11, x13, x14, x15, x16, x78 => if x78 = true then (if (IntKind.u64.wrap (x16 + x9)) ≥ 4294967296 then (bits_Div64.j2 k x2 x8 x9 x10 x11 x13 x14 (IntKind.u64.wrap (x15 - 1))) else (bits_Div64.l0 k x2 x8 x9 x10 x11 x13 x14 (IntKind.u64.wrap (x15 - 1)) (IntKind.u64.wrap (x16 + x9)))) else (bits_Div64.j2 k x2 x8 x9 x10 x11 x13 x14 x15)
end
def bits_Div64.f (k : Nat) (a0 : Int) (a1 : Int) (a2 : Int) : Option (Int × Int) := if a2 = 0 then (none) else (if a2 ≤ a0 then (none) else (if a0 = 0 then (some (IntKind.u64.wrap (Int.tdiv a1 a2), Int.tmod a1 a2)) else ((bits_LeadingZeros64.f a2).bind fun t101 => (if 0 ≤ (IntKind.u64.wrap (t101)) then (if 0 ≤ (IntKind.u64.wrap (64 - (IntKind.u64.wrap (t101)))) then (if ((shl .u64 a2 (IntKind.u64.wrap (t101))) / 4294967296) = 0 then (none) else (bits_Div64.l0 k (shl .u64 a2 (IntKind.u64.wrap (t101))) (IntKind.u64.wrap (t101)) ((shl .u64 a2 (IntKind.u64.wrap (t101))) / 4294967296) (Go.bits .and .u64 (shl .u64 a2 (IntKind.u64.wrap (t101))) 4294967295) (Go.bits .or .u64 (shl .u64 a0 (IntKind.u64.wrap (t101))) (shr .u64 a1 (IntKind.u64.wrap (64 - (IntKind.u64.wrap (t101)))))) ((shl .u64 a1 (IntKind.u64.wrap (t101))) / 4294967296) (Go.bits .and .u64 (shl .u64 a1 (IntKind.u64.wrap (t101))) 4294967295) (IntKind.u64.wrap (Int.tdiv (Go.bits .or .u64 (shl .u64 a0 (IntKind.u64.wrap (t101))) (shr .u64 a1 (IntKind.u64.wrap (64 - (IntKind.u64.wrap (t101)))))) ((shl .u64 a2 (IntKind.u64.wrap (t101))) / 4294967296))) (IntKind.u64.wrap ((Go.bits .or .u64 (shl .u64 a0 (IntKind.u64.wrap (t101))) (shr .u64 a1 (IntKind.u64.wrap (64 - (IntKind.u64.wrap (t101)))))) - (IntKind.u64.wrap ((IntKind.u64.wrap (Int.tdiv (Go.bits .or .u64 (shl .u64 a0 (IntKind.u64.wrap (t101))) (shr .u64 a1 (IntKind.u64.wrap (64 - (IntKind.u64.wrap (t101)))))) ((shl .u64 a2 (IntKind.u64.wrap (t101))) / 4294967296))) * ((shl .u64 a2 (IntKind.u64.wrap (t101))) / 4294967296))))))) else (none)) else (none)))))
set_option maxHeartbeats 8000000 in
set_option maxRecDepth 100000 in
theorem bits_Div64.calls (k : Nat) (a0 : Int) (a1 : Int) (a2 : Int) (r1 : Int) (r2 : Int) (w : World) (h : bits_Div64.f k a0 a1 a2 = some (r1, r2)) :
    Calls Tryd.prog 38 #[.int .u64 a0, .int .u64 a1, .int .u64 a2] w fun e w' => e = .returned (.tuple #[.int .u64 r1, .int .u64 r2]) ∧ Drawn0 w w' := by
  have H : (if a2 = 0 then (none) else (if a2 ≤ a0 then (none) else (if a0 = 0 then (some (IntKind.u64.wrap (Int.tdiv a1 a2), Int.tmod a1 a2)) else ((bits_LeadingZeros64.f a2).bind fun t101 => (if 0 ≤ (IntKind.u64.wrap (t101)) then (if 0 ≤ (IntKind.u64.wrap (64 - (IntKind.u64.wrap (t101)))) then (if ((shl .u64 a2 (IntKind.u64.wrap (t101))) / 4294967296) = 0 then (none) else (bits_Div64.l0 k (shl .u64 a2 (IntKind.u64.wrap (t101))) (IntKind.u64.wrap (t101)) ((shl .u64 a2 (IntKind.u64.wrap (t101))) / 4294967296) (Go.bits .and .u64 (shl .u64 a2 (IntKind.u64.wrap (t101))) 4294967295) (Go.bits .or .u64 (shl .u64 a0 (IntKind.u64.wrap (t101))) (shr .u64 a1 (IntKind.u64.wrap (64 - (IntKind.u64.wrap (t101)))))) ((shl .u64 a1 (IntKind.u64.wrap (t101))) / 4294967296) (Go.bits .and .u64 (shl .u64 a1 (IntKind.u64.wrap (t101))) 4294967295) (IntKind.u64.wrap (Int.tdiv (Go.bits .or .u64 (shl .u64 a0 (IntKind.u64.wrap (t101))) (shr .u64 a1 (IntKind.u64.wrap (64 - (IntKind.u64.wrap (t101)))))) ((shl .u64 a2 (IntKind.u64.wrap (t101))) / 4294967296))) (IntKind.u64.wrap ((Go.bits .or .u64 (shl .u64 a0 (IntKind.u64.wrap (t101))) (shr .u64 a1 (IntKind.u64.wrap (64 - (IntKind.u64.wrap (t101)))))) - (IntKind.u64.wrap ((IntKind.u64.wrap (Int.tdiv (Go.bits .or .u64 (shl .u64 a0 (IntKind.u64.wrap (t101))) (shr .u64 a1 (IntKind.u64.wrap (64 - (IntKind.u64.wrap (t101)))))) ((shl .u64 a2 (IntKind.u64.wrap (t101))) / 4294967296))) * ((shl .u64 a2 (IntKind.u64.wrap (t101))) / 4294967296))))))) else (none)) else (none)))))) = some (r1, r2) := h
  clear h
  by_cases c4 : a2 = 0
  · rw [if_pos c4] at H
    exact absurd H (by simp)
  · rw [if_neg c4] at H
    have c4b0 : (a2 == 0) = false := beq_eq_false_iff_ne.mpr c4
    have c4b1 : (a2 != 0) = true := bne_iff_ne.mpr c4
    by_cases c5 : a2 ≤ a0
    · rw [if_pos c5] at H
      exact absurd H (by simp)
    · rw [if_neg c5] at H
      have c5b0 := decide_eq_false c5
      clear c5
      by_cases c6 : a0 = 0
      · rw [if_pos c6] at H
        have c6b0 : (a0 == 0) = true := beq_iff_eq.mpr c6
        have c6b1 : (a0 != 0) = false := bne_eq_false_iff_eq.mpr c6
        clear c6
        simp only [Option.some.injEq, Prod.mk.injEq] at H
        obtain ⟨rfl, rfl⟩ := H
        go_enter Tryd.func38, Tryd.ntmps38
        go_wp2
        repeat (go_quiet (fail); try go_wp2)
        go_ret2
        exact ⟨eqs, drz⟩
      · rw [if_neg c6] at H
        have c6b0 : (a0 == 0) = false := beq_eq_false_iff_ne.mpr c6
        have c6b1 : (a0 != 0) = true := bne_iff_ne.mpr c6
        replace H := bnd H
        obtain ⟨t101, A70, H⟩ := H
        have A7 := Aside0.mk A70
        clear A70
        obtain ⟨ji8, hji8⟩ : ∃ j_ : Int, (IntKind.u64.wrap (t101)) = j_ := ⟨_, rfl⟩
        replace H : (if 0 ≤ (ji8) then (if 0 ≤ (IntKind.u64.wrap (64 - (ji8))) then (if ((shl .u64 a2 (ji8)) / 4294967296) = 0 then (none) else (bits_Div64.l0 k (shl .u64 a2 (ji8)) ji8 ((shl .u64 a2 (ji8)) / 4294967296) (Go.bits .and .u64 (shl .u64 a2 (ji8)) 4294967295) (Go.bits .or .u64 (shl .u64 a0 (ji8)) (shr .u64 a1 (IntKind.u64.wrap (64 - (ji8))))) ((shl .u64 a1 (ji8)) / 4294967296) (Go.bits .and .u64 (shl .u64 a1 (ji8)) 4294967295) (IntKind.u64.wrap (Int.tdiv (Go.bits .or .u64 (shl .u64 a0 (ji8)) (shr .u64 a1 (IntKind.u64.wrap (64 - (ji8))))) ((shl .u64 a2 (ji8)) / 4294967296))) (IntKind.u64.wrap ((Go.bits .or .u64 (shl .u64 a0 (ji8)) (shr .u64 a1 (IntKind.u64.wrap (64 - (ji8))))) - (IntKind.u64.wrap ((IntKind.u64.wrap (Int.tdiv (Go.bits .or .u64 (shl .u64 a0 (ji8)) (shr .u64 a1 (IntKind.u64.wrap (64 - (ji8))))) ((shl .u64 a2 (ji8)) / 4294967296))) * ((shl .u64 a2 (ji8)) / 4294967296))))))) else (none)) else (none)) = some (r1, r2) := by first | (rw [hji8] at H; exact H) | (simp only [hji8] at H ⊢; exact H)
        (try rw [hji8] at A7)
        by_cases c9 : 0 ≤ (ji8)
        · rw [if_pos c9] at H
          have c9b0 := eq_true c9
          have c9b1 := decide_eq_true c9
          clear c9
          obtain ⟨ji10, hji10⟩ : ∃ j_ : Int, (shl .u64 a2 (ji8)) = j_ := ⟨_, rfl⟩
          replace H : (if 0 ≤ (IntKind.u64.wrap (64 - (ji8))) then (if ((ji10) / 4294967296) = 0 then (none) else (bits_Div64.l0 k ji10 ji8 ((ji10) / 4294967296) (Go.bits .and .u64 (ji10) 4294967295) (Go.bits .or .u64 (shl .u64 a0 (ji8)) (shr .u64 a1 (IntKind.u64.wrap (64 - (ji8))))) ((shl .u64 a1 (ji8)) / 4294967296) (Go.bits .and .u64 (shl .u64 a1 (ji8)) 4294967295) (IntKind.u64.wrap (Int.tdiv (Go.bits .or .u64 (shl .u64 a0 (ji8)) (shr .u64 a1 (IntKind.u64.wrap (64 - (ji8))))) ((ji10) / 4294967296))) (IntKind.u64.wrap ((Go.bits .or .u64 (shl .u64 a0 (ji8)) (shr .u64 a1 (IntKind.u64.wrap (64 - (ji8))))) - (IntKind.u64.wrap ((IntKind.u64.wrap (Int.tdiv (Go.bits .or .u64 (shl .u64 a0 (ji8)) (shr .u64 a1 (IntKind.u64.wrap (64 - (ji8))))) ((ji10) / 4294967296))) * ((ji10) / 4294967296))))))) else (none)) = some (r1, r2) := by first | (rw [hji10] at H; exact H) | (simp only [hji10] at H ⊢; exact H)
          (try rw [hji10] at A7)
          have hji10_ : (IntKind.u64.wrap (a2 * 2 ^ min (ji8).toNat 64)) = ji10 := hji10
          have hji10z : (ji8) ≤ 64 → (IntKind.u64.wrap (a2 * 2 ^ (ji8).toNat)) = ji10 := shl_small hji10
          have c11b0 := eq_true (dt : 0 ≤ (ji8))
          obtain ⟨ji12, hji12⟩ : ∃ j_ : Int, (shl .u64 a0 (ji8)) = j_ := ⟨_, rfl⟩
          replace H : (if 0 ≤ (IntKind.u64.wrap (64 - (ji8))) then (if ((ji10) / 4294967296) = 0 then (none) else (bits_Div64.l0 k ji10 ji8 ((ji10) / 4294967296) (Go.bits .and .u64 (ji10) 4294967295) (Go.bits .or .u64 (ji12) (shr .u64 a1 (IntKind.u64.wrap (64 - (ji8))))) ((shl .u64 a1 (ji8)) / 4294967296) (Go.bits .and .u64 (shl .u64 a1 (ji8)) 4294967295) (IntKind.u64.wrap (Int.tdiv (Go.bits .or .u64 (ji12) (shr .u64 a1 (IntKind.u64.wrap (64 - (ji8))))) ((ji10) / 4294967296))) (IntKind.u64.wrap ((Go.bits .or .u64 (ji12) (shr .u64 a1 (IntKind.u64.wrap (64 - (ji8))))) - (IntKind.u64.wrap ((IntKind.u64.wrap (Int.tdiv (Go.bits .or .u64 (ji12) (shr .u64 a1 (IntKind.u64.wrap (64 - (ji8))))) ((ji10) / 4294967296))) * ((ji10) / 4294967296))))))) else (none)) = some (r1, r2) := by first | (rw [hji12] at H; exact H) | (simp only [hji12] at H ⊢; exact H)
          (try rw [hji12] at A7)
          have hji12_ : (IntKind.u64.wrap (a0 * 2 ^ min (ji8).toNat 64)) = ji12 := hji12
          have hji12z : (ji8) ≤ 64 → (IntKind.u64.wrap (a0 * 2 ^ (ji8).toNat)) = ji12 := shl_small hji12
          obtain ⟨ji13, hji13⟩ : ∃ j_ : Int, (IntKind.u64.wrap (64 - (ji8))) = j_ := ⟨_, rfl⟩
          replace H : (if 0 ≤ (ji13) then (if ((ji10) / 4294967296) = 0 then (none) else (bits_Div64.l0 k ji10 ji8 ((ji10) / 4294967296) (Go.bits .and .u64 (ji10) 4294967295) (Go.bits .or .u64 (ji12) (shr .u64 a1 (ji13))) ((shl .u64 a1 (ji8)) / 4294967296) (Go.bits .and .u64 (shl .u64 a1 (ji8)) 4294967295) (IntKind.u64.wrap (Int.tdiv (Go.bits .or .u64 (ji12) (shr .u64 a1 (ji13))) ((ji10) / 4294967296))) (IntKind.u64.wrap ((Go.bits .or .u64 (ji12) (shr .u64 a1 (ji13))) - (IntKind.u64.wrap ((IntKind.u64.wrap (Int.tdiv (Go.bits .or .u64 (ji12) (shr .u64 a1 (ji13))) ((ji10) / 4294967296))) * ((ji10) / 4294967296))))))) else (none)) = some (r1, r2) := by first | (rw [hji13] at H; exact H) | (simp only [hji13] at H ⊢; exact H)
          (try rw [hji13] at A7)
          by_cases c14 : 0 ≤ (ji13)
          · rw [if_pos c14] at H
            have c14b0 := eq_true c14
            have c14b1 := decide_eq_true c14
            clear c14
            obtain ⟨ji15, hji15⟩ : ∃ j_ : Int, (shr .u64 a1 (ji13)) = j_ := ⟨_, rfl⟩
            replace H : (if ((ji10) / 4294967296) = 0 then (none) else (bits_Div64.l0 k ji10 ji8 ((ji10) / 4294967296) (Go.bits .and .u64 (ji10) 4294967295) (Go.bits .or .u64 (ji12) (ji15)) ((shl .u64 a1 (ji8)) / 4294967296) (Go.bits .and .u64 (shl .u64 a1 (ji8)) 4294967295) (IntKind.u64.wrap (Int.tdiv (Go.bits .or .u64 (ji12) (ji15)) ((ji10) / 4294967296))) (IntKind.u64.wrap ((Go.bits .or .u64 (ji12) (ji15)) - (IntKind.u64.wrap ((IntKind.u64.wrap (Int.tdiv (Go.bits .or .u64 (ji12) (ji15)) ((ji10) / 4294967296))) * ((ji10) / 4294967296))))))) = some (r1, r2) := by first | (rw [hji15] at H; exact H) | (simp only [hji15] at H ⊢; exact H)
            (try rw [hji15] at A7)
            have hji15_ : (a1 / 2 ^ min (ji13).toNat 64) = ji15 := hji15
            have hji15z : (ji13) ≤ 64 → (a1 / 2 ^ (ji13).toNat) = ji15 := shr_small hji15
            have c16b0 := eq_true (dt : 0 ≤ (ji8))
            obtain ⟨ji17, hji17⟩ : ∃ j_ : Int, (shl .u64 a1 (ji8)) = j_ := ⟨_, rfl⟩
            replace H : (if ((ji10) / 4294967296) = 0 then (none) else (bits_Div64.l0 k ji10 ji8 ((ji10) / 4294967296) (Go.bits .and .u64 (ji10) 4294967295) (Go.bits .or .u64 (ji12) (ji15)) ((ji17) / 4294967296) (Go.bits .and .u64 (ji17) 4294967295) (IntKind.u64.wrap (Int.tdiv (Go.bits .or .u64 (ji12) (ji15)) ((ji10) / 4294967296))) (IntKind.u64.wrap ((Go.bits .or .u64 (ji12) (ji15)) - (IntKind.u64.wrap ((IntKind.u64.wrap (Int.tdiv (Go.bits .or .u64 (ji12) (ji15)) ((ji10) / 4294967296))) * ((ji10) / 4294967296))))))) = some (r1, r2) := by first | (rw [hji17] at H; exact H) | (simp only [hji17] at H ⊢; exact H)
            (try rw [hji17] at A7)
            have hji17_ : (IntKind.u64.wrap (a1 * 2 ^ min (ji8).toNat 64)) = ji17 := hji17
            have hji17z : (ji8) ≤ 64 → (IntKind.u64.wrap (a1 * 2 ^ (ji8).toNat)) = ji17 := shl_small hji17
            by_cases c18 : ((ji10) / 4294967296) = 0
            · rw [if_pos c18] at H
              exact absurd H (by simp)
            · rw [if_neg c18] at H
              have c18b0 : (((ji10) / 4294967296) == 0) = false := beq_eq_false_iff_ne.mpr c18
              have c18b1 : (((ji10) / 4294967296) != 0) = true := bne_iff_ne.mpr c18
              have HC19 := Aside0.mk H
              clear H
              go_enter Tryd.func38, Tryd.ntmps38
              go_upto_block 0 with (first | (go_at_call 51; (with_reducible refine (bits_LeadingZeros64.calls a2 t101 _ A7.out).mono ?_); rintro e w' ⟨rfl, ⟨nd, rfl⟩⟩; (try first | exact ⟨rfl, _, World.drewN_drewN _ _ _⟩ | exact ⟨rfl, _, Eq.trans (World.drewN_drewN _ _ _) (congrArg (World.drewN _) (Nat.add_assoc _ _ _))⟩)))
              repeat (go_quiet (first | (go_at_call 51; (with_reducible refine (bits_LeadingZeros64.calls a2 t101 _ A7.out).mono ?_); rintro e w' ⟨rfl, ⟨nd, rfl⟩⟩; (try first | exact ⟨rfl, _, World.drewN_drewN _ _ _⟩ | exact ⟨rfl, _, Eq.trans (World.drewN_drewN _ _ _) (congrArg (World.drewN _) (Nat.add_assoc _ _ _))⟩))); go_upto_block 0 with (first | (go_at_call 51; (with_reducible refine (bits_LeadingZeros64.calls a2 t101 _ A7.out).mono ?_); rintro e w' ⟨rfl, ⟨nd, rfl⟩⟩; (try first | exact ⟨rfl, _, World.drewN_drewN _ _ _⟩ | exact ⟨rfl, _, Eq.trans (World.drewN_drewN _ _ _) (congrArg (World.drewN _) (Nat.add_assoc _ _ _))⟩))))
              (try simp only [Act.put, List.setIfInBounds_toArray, List.set_cons_zero, List.set_cons_succ])
              go_cut [15] (fun v15 wc => ∃ (kq : Nat) (x15_18 : Int), v15 = .int .u64 x15_18 ∧ Aside0 (bits_Div64.j2 kq ji10 ji8 ((ji10) / 4294967296) (Go.bits .and .u64 (ji10) 4294967295) (Go.bits .or .u64 (ji12) (ji15)) ((ji17) / 4294967296) (Go.bits .and .u64 (ji17) 4294967295) x15_18 = some (r1, r2)) ∧ Aside0 (kq ≤ k) ∧ Drawn0 w wc)
              case first =>
                have H := HC19.out
                clear HC19
                have H' := Aside0.mk H
                clear H
                go_wp2
                repeat (go_quiet (fail); try go_wp2)
                go_loopg [15, 16] k (fun kq v15 v16 w' => ∃ (x15_1 : Int) (x16_1 : Int), v15 = .int .u64 x15_1 ∧ v16 = .int .u64 x16_1 ∧ Aside0 (bits_Div64.l0 kq ji10 ji8 ((ji10) / 4294967296) (Go.bits .and .u64 (ji10) 4294967295) (Go.bits .or .u64 (ji12) (ji15)) ((ji17) / 4294967296) (Go.bits .and .u64 (ji17) 4294967295) x15_1 x16_1 = some (r1, r2)) ∧ Aside0 (kq ≤ k) ∧ Drawn0 w w')
                case atStart => exact ⟨(IntKind.u64.wrap (Int.tdiv (Go.bits .or .u64 (ji12) (ji15)) ((ji10) / 4294967296))), (IntKind.u64.wrap ((Go.bits .or .u64 (ji12) (ji15)) - (IntKind.u64.wrap ((IntKind.u64.wrap (Int.tdiv (Go.bits .or .u64 (ji12) (ji15)) ((ji10) / 4294967296))) * ((ji10) / 4294967296))))), (by first | rfl | (simp; done) | (simp only [← hji10, ← hji12, ← hji15] <;> (first | rfl | simp)) | (simp [*]; done)), (by first | rfl | (simp; done) | (simp only [← hji10, ← hji12, ← hji15] <;> (first | rfl | simp)) | (simp [*]; done)), H', ⟨Nat.le_refl _⟩, drz⟩
                case round =>
                  clear H'
                  try clear c1
                  try clear p2
                  try clear c3
                  try clear c4
                  try clear c4b0
                  try clear c4b1
                  try clear c5
                  try clear c5b0
                  try clear c6
                  try clear c6b0
                  try clear c6b1
                  try clear c9
                  try clear c9b0
                  try clear c9b1
                  try clear c11
                  try clear c11b0
                  try clear c14
                  try clear c14b0
                  try clear c14b1
                  try clear c16
                  try clear c16b0
                  try clear c18
                  try clear c18b0
                  try clear c18b1
                  obtain ⟨x15_1, x16_1, rfl, rfl, HA, HK1, ⟨m1, rfl⟩⟩ := hrel
                  cases gk with
                  | zero => exact absurd HA.out (by simp [bits_Div64.l0])
                  | succ k1 =>
                    have H := HA.out
                    clear HA
                    simp only [bits_Div64.l0] at H
                    have HC20 := Aside0.mk H
                    clear H
                    go_upto_region 17 with (fail)
                    repeat (go_quiet (fail); go_upto_region 17 with (fail))
                    go_cut [78] (fun v78 wc => ∃ (kq : Nat) (x78_19 : Bool), v78 = .bool x78_19 ∧ Aside0 (bits_Div64.j1 kq ji10 ji8 ((ji10) / 4294967296) (Go.bits .and .u64 (ji10) 4294967295) (Go.bits .or .u64 (ji12) (ji15)) ((ji17) / 4294967296) (Go.bits .and .u64 (ji17) 4294967295) x15_1 x16_1 x78_19 = some (r1, r2)) ∧ Aside0 (kq ≤ k1) ∧ Drawn0 w wc)
                    case first =>
                      have H := HC20.out
                      clear HC20
                      by_cases c21 : x15_1 ≥ 4294967296
                      · rw [if_pos c21] at H
                        have c21b0 : decide (4294967296 ≤ x15_1) = true := decide_eq_true c21
                        clear c21
                        (first | rw [c21b0] | (simp only [i64_w, i32_w]; rw [c21b0]) | skip)
                        have H' := Aside0.mk H
                        clear H
                        go_wp2
                        repeat (go_quiet (fail); try go_wp2)
                        go_meet
                        case rel => exact ⟨_, (true), eqs, H', ⟨by have := HK1.out; first | omega | exact Nat.le_refl _⟩, drz⟩
                      · rw [if_neg c21] at H
                        have c21b0 : decide (4294967296 ≤ x15_1) = false := decide_eq_false c21
                        clear c21
                        (first | rw [c21b0] | (simp only [i64_w, i32_w]; rw [c21b0]) | skip)
                        have H' := Aside0.mk H
                        clear H
                        go_wp2
                        repeat (go_quiet (fail); try go_wp2)
                        go_meet
                        case rel => exact ⟨_, (decide ((IntKind.u64.wrap (x15_1 * (Go.bits .and .u64 (ji10) 4294967295))) > (IntKind.u64.wrap ((IntKind.u64.wrap (4294967296 * x16_1)) + ((ji17) / 4294967296))))), (by first | rfl | (simp; done) | (simp only [← hji10, ← hji17] <;> (first | rfl | simp)) | (simp [*]; done)), H', ⟨by have := HK1.out; first | omega | exact Nat.le_refl _⟩, drz⟩
                    case rest =>
                      clear HC20
                      try clear c1
                      try clear c2
                      try clear p2
                      try clear c3
                      try clear c4
                      try clear c4b0
                      try clear c4b1
                      try clear c5
                      try clear c5b0
                      try clear c6
                      try clear c6b0
                      try clear c6b1
                      try clear c9
                      try clear c9b0
                      try clear c9b1
                      try clear c11
                      try clear c11b0
                      try clear c14
                      try clear c14b0
                      try clear c14b1
                      try clear c16
                      try clear c16b0
                      try clear c18
                      try clear c18b0
                      try clear c18b1
                      try clear c21
                      try clear c21b0
                      try clear p2
                      obtain ⟨kq, x78_19, rfl, HA, HJ19, ⟨mc19, rfl⟩⟩ := hcut
                      cases kq with
                      | zero => exact absurd HA.out (by simp [bits_Div64.j1])
                      | succ kj19 =>
                        have H := HA.out
                        clear HA
                        simp only [bits_Div64.j1] at H
                        by_cases c22 : x78_19 = true
                        · subst c22
                          rw [if_pos rfl] at H
                          by_cases c23 : (IntKind.u64.wrap (x16_1 + ((ji10) / 4294967296))) ≥ 4294967296
                          · rw [if_pos c23] at H
                            have c23b0 : decide (4294967296 ≤ (IntKind.u64.wrap (x16_1 + ((ji10) / 4294967296)))) = true := decide_eq_true c23
                            clear c23
                            have H' := Aside0.mk H
                            clear H
                            go_wp2
                            repeat (go_quiet (fail); try go_wp2)
                            go_meet
                            case rel => exact ⟨_, (IntKind.u64.wrap (x15_1 - 1)), eqs, H', ⟨by have := HK1.out; have := HJ19.out; first | omega | exact Nat.le_refl _⟩, drz⟩
                          · rw [if_neg c23] at H
                            have c23b0 : decide (4294967296 ≤ (IntKind.u64.wrap (x16_1 + ((ji10) / 4294967296)))) = false := decide_eq_false c23
                            clear c23
                            have H' := Aside0.mk H
                            clear H
                            go_wp2
                            repeat (go_quiet (fail); try go_wp2)
                            go_roundg kj19
                            case measure => have := HK1.out; have := HJ19.out; omega
                            case rel => exact ⟨(IntKind.u64.wrap (x15_1 - 1)), (IntKind.u64.wrap (x16_1 + ((ji10) / 4294967296))), eqs, (by first | rfl | (simp; done) | (simp only [← hji10] <;> (first | rfl | simp)) | (simp [*]; done)), H', ⟨by have := HK1.out; have := HJ19.out; omega⟩, drz⟩
                        · replace c22 := Bool.eq_false_iff.mpr c22
                          subst c22
                          rw [if_neg (show ¬ (false = true) by decide)] at H
                          have H' := Aside0.mk H
                          clear H
                          go_wp2
                          repeat (go_quiet (fail); try go_wp2)
                          go_meet
                          case rel => exact ⟨_, (x15_1), eqs, H', ⟨by have := HK1.out; have := HJ19.out; first | omega | exact Nat.le_refl _⟩, drz⟩
              case rest =>
                clear HC19
                try clear c1
                try clear c2
                try clear p2
                try clear c3
                try clear c4
                try clear c4b0
                try clear c4b1
                try clear c5
                try clear c5b0
                try clear c6
                try clear c6b0
                try clear c6b1
                try clear c9
                try clear c9b0
                try clear c9b1
                try clear c11
                try clear c11b0
                try clear c14
                try clear c14b0
                try clear c14b1
                try clear c16
                try clear c16b0
                try clear c18
                try clear c18b0
                try clear c18b1
                try clear c19
                try clear c21
                try clear c21b0
                try clear c22
                try clear c23
                try clear c23b0
                try clear p2
                obtain ⟨kq, x15_18, rfl, HA, HJ18, ⟨mc18, rfl⟩⟩ := hcut
                cases kq with
                | zero => exact absurd HA.out (by simp [bits_Div64.j2])
                | succ kj18 =>
                  have H := HA.out
                  clear HA
                  simp only [bits_Div64.j2] at H
                  by_cases c24 : ((ji10) / 4294967296) = 0
                  · rw [if_pos c24] at H
                    exact absurd H (by simp)
                  · rw [if_neg c24] at H
                    have c24b0 : (((ji10) / 4294967296) == 0) = false := beq_eq_false_iff_ne.mpr c24
                    have c24b1 : (((ji10) / 4294967296) != 0) = true := bne_iff_ne.mpr c24
                    have H' := Aside0.mk H
                    clear H
                    go_wp2
                    repeat (go_quiet (fail); try go_wp2)
                    go_loopg [16, 18] kj18 (fun kq v16 v18 w' => ∃ (x16_2 : Int) (x18_2 : Int), v16 = .int .u64 x16_2 ∧ v18 = .int .u64 x18_2 ∧ Aside0 (bits_Div64.l1 kq ji10 ji8 ((ji10) / 4294967296) (Go.bits .and .u64 (ji10) 4294967295) (Go.bits .and .u64 (ji17) 4294967295) x15_18 x16_2 (IntKind.u64.wrap ((IntKind.u64.wrap ((IntKind.u64.wrap ((Go.bits .or .u64 (ji12) (ji15)) * 4294967296)) + ((ji17) / 4294967296))) - (IntKind.u64.wrap (x15_18 * ji10)))) x18_2 = some (r1, r2)) ∧ Aside0 (kq ≤ kj18) ∧ Drawn0 w w')
                    case atStart => exact ⟨(IntKind.u64.wrap ((IntKind.u64.wrap ((IntKind.u64.wrap ((IntKind.u64.wrap ((Go.bits .or .u64 (ji12) (ji15)) * 4294967296)) + ((ji17) / 4294967296))) - (IntKind.u64.wrap (x15_18 * ji10)))) - (IntKind.u64.wrap ((IntKind.u64.wrap (Int.tdiv (IntKind.u64.wrap ((IntKind.u64.wrap ((IntKind.u64.wrap ((Go.bits .or .u64 (ji12) (ji15)) * 4294967296)) + ((ji17) / 4294967296))) - (IntKind.u64.wrap (x15_18 * ji10)))) ((ji10) / 4294967296))) * ((ji10) / 4294967296))))), (IntKind.u64.wrap (Int.tdiv (IntKind.u64.wrap ((IntKind.u64.wrap ((IntKind.u64.wrap ((Go.bits .or .u64 (ji12) (ji15)) * 4294967296)) + ((ji17) / 4294967296))) - (IntKind.u64.wrap (x15_18 * ji10)))) ((ji10) / 4294967296))), (by first | rfl | (simp; done) | (simp only [← hji10, ← hji12, ← hji15, ← hji17] <;> (first | rfl | simp)) | (simp [*]; done)), (by first | rfl | (simp; done) | (simp only [← hji10, ← hji12, ← hji15, ← hji17] <;> (first | rfl | simp)) | (simp [*]; done)), H', ⟨Nat.le_refl _⟩, drz⟩
                    case round =>
                      clear H'
                      try clear c1
                      try clear c2
                      try clear p2
                      try clear c3
                      try clear c4
                      try clear c4b0
                      try clear c4b1
                      try clear c5
                      try clear c5b0
                      try clear c6
                      try clear c6b0
                      try clear c6b1
                      try clear c9
                      try clear c9b0
                      try clear c9b1
                      try clear c11
                      try clear c11b0
                      try clear c14
                      try clear c14b0
                      try clear c14b1
                      try clear c16
                      try clear c16b0
                      try clear c18
                      try clear c18b0
                      try clear c18b1
                      try clear c19
                      try clear c21
                      try clear c21b0
                      try clear c22
                      try clear c23
                      try clear c23b0
                      try clear c24
                      try clear c24b0
                      try clear c24b1
                      try clear p2
                      obtain ⟨x16_2, x18_2, rfl, rfl, HA, HK2, ⟨m2, rfl⟩⟩ := hrel
                      cases gk with
                      | zero => exact absurd HA.out (by simp [bits_Div64.l1])
                      | succ k2 =>
                        have H := HA.out
                        clear HA
                        simp only [bits_Div64.l1] at H
                        have HC25 := Aside0.mk H
                        clear H
                        go_upto_region 24 with (fail)
                        repeat (go_quiet (fail); go_upto_region 24 with (fail))
                        go_cut [113] (fun v113 wc => ∃ (kq : Nat) (x113_24 : Bool), v113 = .bool x113_24 ∧ Aside0 (bits_Div64.j4 kq ji10 ji8 ((ji10) / 4294967296) (Go.bits .and .u64 (ji10) 4294967295) (Go.bits .and .u64 (ji17) 4294967295) x15_18 x16_2 (IntKind.u64.wrap ((IntKind.u64.wrap ((IntKind.u64.wrap ((Go.bits .or .u64 (ji12) (ji15)) * 4294967296)) + ((ji17) / 4294967296))) - (IntKind.u64.wrap (x15_18 * ji10)))) x18_2 x113_24 = some (r1, r2)) ∧ Aside0 (kq ≤ k2) ∧ Drawn0 w wc)
                        case first =>
                          have H := HC25.out
                          clear HC25
                          by_cases c26 : x18_2 ≥ 4294967296
                          · rw [if_pos c26] at H
                            have c26b0 : decide (4294967296 ≤ x18_2) = true := decide_eq_true c26
                            clear c26
                            (first | rw [c26b0] | (simp only [i64_w, i32_w]; rw [c26b0]) | skip)
                            have H' := Aside0.mk H
                            clear H
                            go_wp2
                            repeat (go_quiet (fail); try go_wp2)
                            go_meet
                            case rel => exact ⟨_, (true), eqs, H', ⟨by have := HJ18.out; have := HK2.out; first | omega | exact Nat.le_refl _⟩, drz⟩
                          · rw [if_neg c26] at H
                            have c26b0 : decide (4294967296 ≤ x18_2) = false := decide_eq_false c26
                            clear c26
                            (first | rw [c26b0] | (simp only [i64_w, i32_w]; rw [c26b0]) | skip)
                            have H' := Aside0.mk H
                            clear H
                            go_wp2
                            repeat (go_quiet (fail); try go_wp2)
                            go_meet
                            case rel => exact ⟨_, (decide ((IntKind.u64.wrap (x18_2 * (Go.bits .and .u64 (ji10) 4294967295))) > (IntKind.u64.wrap ((IntKind.u64.wrap (4294967296 * x16_2)) + (Go.bits .and .u64 (ji17) 4294967295))))), (by first | rfl | (simp; done) | (simp only [← hji10, ← hji17] <;> (first | rfl | simp)) | (simp [*]; done)), H', ⟨by have := HJ18.out; have := HK2.out; first | omega | exact Nat.le_refl _⟩, drz⟩
                        case rest =>
                          clear HC25
                          try clear c1
                          try clear c2
                          try clear p2
                          try clear c3
                          try clear c4
                          try clear c4b0
                          try clear c4b1
                          try clear c5
                          try clear c5b0
                          try clear c6
                          try clear c6b0
                          try clear c6b1
                          try clear c9
                          try clear c9b0
                          try clear c9b1
                          try clear c11
                          try clear c11b0
                          try clear c14
                          try clear c14b0
                          try clear c14b1
                          try clear c16
                          try clear c16b0
                          try clear c18
                          try clear c18b0
                          try clear c18b1
                          try clear c19
                          try clear c21
                          try clear c21b0
                          try clear c22
                          try clear c23
                          try clear c23b0
                          try clear c24
                          try clear c24b0
                          try clear c24b1
                          try clear c26
                          try clear c26b0
                          try clear p2
                          obtain ⟨kq, x113_24, rfl, HA, HJ24, ⟨mc24, rfl⟩⟩ := hcut
                          cases kq with
                          | zero => exact absurd HA.out (by simp [bits_Div64.j4])
                          | succ kj24 =>
                            have H := HA.out
                            clear HA
                            simp only [bits_Div64.j4] at H
                            by_cases c27 : x113_24 = true
                            · subst c27
                              rw [if_pos rfl] at H
                              by_cases c28 : (IntKind.u64.wrap (x16_2 + ((ji10) / 4294967296))) ≥ 4294967296
                              · rw [if_pos c28] at H
                                have c28b0 : decide (4294967296 ≤ (IntKind.u64.wrap (x16_2 + ((ji10) / 4294967296)))) = true := decide_eq_true c28
                                clear c28
                                by_cases c29 : 0 ≤ ji8
                                · rw [if_pos c29] at H
                                  have c29b0 := eq_true c29
                                  have c29b1 := decide_eq_true c29
                                  clear c29
                                  obtain ⟨ji30, hji30⟩ : ∃ j_ : Int, (shr .u64 (IntKind.u64.wrap ((IntKind.u64.wrap ((IntKind.u64.wrap ((IntKind.u64.wrap ((IntKind.u64.wrap ((IntKind.u64.wrap ((Go.bits .or .u64 (ji12) (ji15)) * 4294967296)) + ((ji17) / 4294967296))) - (IntKind.u64.wrap (x15_18 * ji10)))) * 4294967296)) + (Go.bits .and .u64 (ji17) 4294967295))) - (IntKind.u64.wrap ((IntKind.u64.wrap (x18_2 - 1)) * ji10)))) ji8) = j_ := ⟨_, rfl⟩
                                  replace H : (some (IntKind.u64.wrap ((IntKind.u64.wrap (x15_18 * 4294967296)) + (IntKind.u64.wrap (x18_2 - 1))), ji30)) = some (r1, r2) := by first | (rw [hji30] at H; exact H) | (simp only [hji30] at H ⊢; exact H)
                                  have hji30_ : ((IntKind.u64.wrap ((IntKind.u64.wrap ((IntKind.u64.wrap ((IntKind.u64.wrap ((IntKind.u64.wrap ((IntKind.u64.wrap ((Go.bits .or .u64 (ji12) (ji15)) * 4294967296)) + ((ji17) / 4294967296))) - (IntKind.u64.wrap (x15_18 * ji10)))) * 4294967296)) + (Go.bits .and .u64 (ji17) 4294967295))) - (IntKind.u64.wrap ((IntKind.u64.wrap (x18_2 - 1)) * ji10)))) / 2 ^ min ji8.toNat 64) = ji30 := hji30
                                  have hji30z : ji8 ≤ 64 → ((IntKind.u64.wrap ((IntKind.u64.wrap ((IntKind.u64.wrap ((IntKind.u64.wrap ((IntKind.u64.wrap ((IntKind.u64.wrap ((Go.bits .or .u64 (ji12) (ji15)) * 4294967296)) + ((ji17) / 4294967296))) - (IntKind.u64.wrap (x15_18 * ji10)))) * 4294967296)) + (Go.bits .and .u64 (ji17) 4294967295))) - (IntKind.u64.wrap ((IntKind.u64.wrap (x18_2 - 1)) * ji10)))) / 2 ^ ji8.toNat) = ji30 := shr_small hji30
                                  simp only [Option.some.injEq, Prod.mk.injEq] at H
                                  obtain ⟨rfl, rfl⟩ := H
                                  go_wp2
                                  repeat (go_quiet (fail); try go_wp2)
                                  go_ret2
                                  exact ⟨by first | rfl | (simp; done) | (simp only [← hji8, ← hji10, ← hji12, ← hji13, ← hji15, ← hji17, ← hji30] <;> (first | rfl | simp)) | (simp [*]; done), drz⟩
                                · rw [if_neg c29] at H
                                  exact absurd H (by simp)
                              · rw [if_neg c28] at H
                                have c28b0 : decide (4294967296 ≤ (IntKind.u64.wrap (x16_2 + ((ji10) / 4294967296)))) = false := decide_eq_false c28
                                clear c28
                                have H' := Aside0.mk H
                                clear H
                                go_wp2
                                repeat (go_quiet (fail); try go_wp2)
                                go_roundg kj24
                                case measure => have := HJ18.out; have := HK2.out; have := HJ24.out; omega
                                case rel => exact ⟨(IntKind.u64.wrap (x16_2 + ((ji10) / 4294967296))), (IntKind.u64.wrap (x18_2 - 1)), (by first | rfl | (simp; done) | (simp only [← hji10] <;> (first | rfl | simp)) | (simp [*]; done)), eqs, H', ⟨by have := HJ18.out; have := HK2.out; have := HJ24.out; omega⟩, drz⟩
                            · replace c27 := Bool.eq_false_iff.mpr c27
                              subst c27
                              rw [if_neg (show ¬ (false = true) by decide)] at H
                              by_cases c31 : 0 ≤ ji8
                              · rw [if_pos c31] at H
                                have c31b0 := eq_true c31
                                have c31b1 := decide_eq_true c31
                                clear c31
                                obtain ⟨ji32, hji32⟩ : ∃ j_ : Int, (shr .u64 (IntKind.u64.wrap ((IntKind.u64.wrap ((IntKind.u64.wrap ((IntKind.u64.wrap ((IntKind.u64.wrap ((IntKind.u64.wrap ((Go.bits .or .u64 (ji12) (ji15)) * 4294967296)) + ((ji17) / 4294967296))) - (IntKind.u64.wrap (x15_18 * ji10)))) * 4294967296)) + (Go.bits .and .u64 (ji17) 4294967295))) - (IntKind.u64.wrap (x18_2 * ji10)))) ji8) = j_ := ⟨_, rfl⟩
                                replace H : (some (IntKind.u64.wrap ((IntKind.u64.wrap (x15_18 * 4294967296)) + x18_2), ji32)) = some (r1, r2) := by first | (rw [hji32] at H; exact H) | (simp only [hji32] at H ⊢; exact H)
                                have hji32_ : ((IntKind.u64.wrap ((IntKind.u64.wrap ((IntKind.u64.wrap ((IntKind.u64.wrap ((IntKind.u64.wrap ((IntKind.u64.wrap ((Go.bits .or .u64 (ji12) (ji15)) * 4294967296)) + ((ji17) / 4294967296))) - (IntKind.u64.wrap (x15_18 * ji10)))) * 4294967296)) + (Go.bits .and .u64 (ji17) 4294967295))) - (IntKind.u64.wrap (x18_2 * ji10)))) / 2 ^ min ji8.toNat 64) = ji32 := hji32
                                have hji32z : ji8 ≤ 64 → ((IntKind.u64.wrap ((IntKind.u64.wrap ((IntKind.u64.wrap ((IntKind.u64.wrap ((IntKind.u64.wrap ((IntKind.u64.wrap ((Go.bits .or .u64 (ji12) (ji15)) * 4294967296)) + ((ji17) / 4294967296))) - (IntKind.u64.wrap (x15_18 * ji10)))) * 4294967296)) + (Go.bits .and .u64 (ji17) 4294967295))) - (IntKind.u64.wrap (x18_2 * ji10)))) / 2 ^ ji8.toNat) = ji32 := shr_small hji32
                                simp only [Option.some.injEq, Prod.mk.injEq] at H
                                obtain ⟨rfl, rfl⟩ := H
                                go_wp2
                                repeat (go_quiet (fail); try go_wp2)
                                go_ret2
                                exact ⟨by first | rfl | (simp; done) | (simp only [← hji8, ← hji10, ← hji12, ← hji13, ← hji15, ← hji17, ← hji32] <;> (first | rfl | simp)) | (simp [*]; done), drz⟩
                              · rw [if_neg c31] at H
                                exact absurd H (by simp)
          · rw [if_neg c14] at H
            exact absurd H (by simp)
        · rw [if_neg c9] at H
          exact absurd H (by simp)
def bits_Mul64.f (a0 : Int) (a1 : Int) : Option (Int × Int) := some (IntKind.u64.wrap ((IntKind.u64.wrap ((IntKind.u64.wrap ((a0 / 4294967296) * (a1 / 4294967296))) + ((IntKind.u64.wrap ((IntKind.u64.wrap ((a0 / 4294967296) * (Go.bits .and .u64 a1 4294967295))) + ((IntKind.u64.wrap ((Go.bits .and .u64 a0 4294967295) * (Go.bits .and .u64 a1 4294967295))) / 4294967296))) / 4294967296))) + ((IntKind.u64.wrap ((Go.bits .and .u64 (IntKind.u64.wrap ((IntKind.u64.wrap ((a0 / 4294967296) * (Go.bits .and .u64 a1 4294967295))) + ((IntKind.u64.wrap ((Go.bits .and .u64 a0 4294967295) * (Go.bits .and .u64 a1 4294967295))) / 4294967296))) 4294967295) + (IntKind.u64.wrap ((Go.bits .and .u64 a0 4294967295) * (a1 / 4294967296))))) / 4294967296)), IntKind.u64.wrap (a0 * a1))
set_option maxHeartbeats 8000000 in
set_option maxRecDepth 100000 in
theorem bits_Mul64.calls (a0 : Int) (a1 : Int) (r1 : Int) (r2 : Int) (w : World) (h : bits_Mul64.f a0 a1 = some (r1, r2)) :
    Calls Tryd.prog 36 #[.int .u64 a0, .int .u64 a1] w fun e w' => e = .returned (.tuple #[.int .u64 r1, .int .u64 r2]) ∧ Drawn0 w w' := by
  have H : (some (IntKind.u64.wrap ((IntKind.u64.wrap ((IntKind.u64.wrap ((a0 / 4294967296) * (a1 / 4294967296))) + ((IntKind.u64.wrap ((IntKind.u64.wrap ((a0 / 4294967296) * (Go.bits .and .u64 a1 4294967295))) + ((IntKind.u64.wrap ((Go.bits .and .u64 a0 4294967295) * (Go.bits .and .u64 a1 4294967295))) / 4294967296))) / 4294967296))) + ((IntKind.u64.wrap ((Go.bits .and .u64 (IntKind.u64.wrap ((IntKind.u64.wrap ((a0 / 4294967296) * (Go.bits .and .u64 a1 4294967295))) + ((IntKind.u64.wrap ((Go.bits .and .u64 a0 4294967295) * (Go.bits .and .u64 a1 4294967295))) / 4294967296))) 4294967295) + (IntKind.u64.wrap ((Go.bits .and .u64 a0 4294967295) * (a1 / 4294967296))))) / 4294967296)), IntKind.u64.wrap (a0 * a1))) = some (r1, r2) := h
  clear h
  simp only [Option.some.injEq, Prod.mk.injEq] at H
  obtain ⟨rfl, rfl⟩ := H
  go_enter Tryd.func36, Tryd.ntmps36
  go_wp2
  go_ret2
  exact ⟨eqs, drz⟩
def cents_Fits.f (a0 : Int) : Option (Bool) := if a0 ≥ (-1152921504606846976) then (some (decide (a0 ≤ 1152921504606846976))) else (some false)
set_option maxHeartbeats 8000000 in
set_option maxRecDepth 100000 in
theorem cents_Fits.calls (a0 : Int) (r : Bool) (w : World) (h : cents_Fits.f a0 = some r) :
    Calls Tryd.prog 35 #[.int .i64 a0] w fun e w' => e = .returned (.bool r) ∧ Drawn0 w w' := by
  have H : (if a0 ≥ (-1152921504606846976) then (some (decide (a0 ≤ 1152921504606846976))) else (some false)) = some r := h
  clear h
  by_cases c2 : a0 ≥ (-1152921504606846976)
  · rw [if_pos c2] at H
    have c2b0 : decide ((-1152921504606846976) ≤ a0) = true := decide_eq_true c2
    clear c2
    obtain rfl := Option.some.inj H
    go_enter Tryd.func35, Tryd.ntmps35
    go_wp2
    go_ret
    exact ⟨eqs, drz⟩
  · rw [if_neg c2] at H
    have c2b0 : decide ((-1152921504606846976) ≤ a0) = false := decide_eq_false c2
    clear c2
    obtain rfl := Option.some.inj H
    go_enter Tryd.func35, Tryd.ntmps35
    go_wp2
    go_ret
    exact ⟨eqs, drz⟩
def cents_signed.f (a0 : Int) (a1 : Bool) : Option (Int × Int) := if a0 > 1152921504606846976 then (some (0, 3)) else (if a1 = true then (some (wrap64 (-(wrap64 (a0))), 0)) else (some (wrap64 (a0), 0)))
set_option maxHeartbeats 8000000 in
set_option maxRecDepth 100000 in
theorem cents_signed.calls (a0 : Int) (a1 : Bool) (r1 : Int) (r2 : Int) (w : World) (h : cents_signed.f a0 a1 = some (r1, r2)) :
    Calls Tryd.prog 40 #[.int .u64 a0, .bool a1] w fun e w' => e = .returned (.tuple #[.int .i64 r1, .int .i64 r2]) ∧ Drawn0 w w' := by
  have H : (if a0 > 1152921504606846976 then (some (0, 3)) else (if a1 = true then (some (wrap64 (-(wrap64 (a0))), 0)) else (some (wrap64 (a0), 0)))) = some (r1, r2) := h
  clear h
  by_cases c3 : a0 > 1152921504606846976
  · rw [if_pos c3] at H
    have c3b0 : decide (1152921504606846976 < a0) = true := decide_eq_true c3
    clear c3
    simp only [Option.some.injEq, Prod.mk.injEq] at H
    obtain ⟨rfl, rfl⟩ := H
    go_enter Tryd.func40, Tryd.ntmps40
    go_wp2
    go_ret2
    exact ⟨eqs, drz⟩
  · rw [if_neg c3] at H
    have c3b0 : decide (1152921504606846976 < a0) = false := decide_eq_false c3
    clear c3
    by_cases c4 : a1 = true
    · subst c4
      rw [if_pos rfl] at H
      simp only [Option.some.injEq, Prod.mk.injEq] at H
      obtain ⟨rfl, rfl⟩ := H
      go_enter Tryd.func40, Tryd.ntmps40
      go_wp2
      go_ret2
      exact ⟨eqs, drz⟩
    · replace c4 := Bool.eq_false_iff.mpr c4
      subst c4
      rw [if_neg (show ¬ (false = true) by decide)] at H
      simp only [Option.some.injEq, Prod.mk.injEq] at H
      obtain ⟨rfl, rfl⟩ := H
      go_enter Tryd.func40, Tryd.ntmps40
      go_wp2
      go_ret2
      exact ⟨eqs, drz⟩
def cents_size.f (a0 : Int) : Option (Int) := if a0 < 0 then (some (IntKind.u64.wrap (wrap64 (-a0)))) else (some (IntKind.u64.wrap (a0)))
set_option maxHeartbeats 8000000 in
set_option maxRecDepth 100000 in
theorem cents_size.calls (a0 : Int) (r : Int) (w : World) (h : cents_size.f a0 = some r) :
    Calls Tryd.prog 37 #[.int .i64 a0] w fun e w' => e = .returned (.int .u64 r) ∧ Drawn0 w w' := by
  have H : (if a0 < 0 then (some (IntKind.u64.wrap (wrap64 (-a0)))) else (some (IntKind.u64.wrap (a0)))) = some r := h
  clear h
  by_cases c2 : a0 < 0
  · rw [if_pos c2] at H
    have c2b0 := decide_eq_true c2
    clear c2
    obtain rfl := Option.some.inj H
    go_enter Tryd.func37, Tryd.ntmps37
    go_wp2
    go_ret
    exact ⟨eqs, drz⟩
  · rw [if_neg c2] at H
    have c2b0 := decide_eq_false c2
    clear c2
    obtain rfl := Option.some.inj H
    go_enter Tryd.func37, Tryd.ntmps37
    go_wp2
    go_ret
    exact ⟨eqs, drz⟩
def awayAll (m : Int) (bl : Bool) : Bool := m == 2 || (m == 3 && bl || m == 4 && !bl)
def awayB (m : Int) (bl : Bool) (q r y : Int) : Bool := if m = 5 then decide (IntKind.u64.wrap (y - r) < r) || (r == IntKind.u64.wrap (y - r) && Int.tmod q 2 == 1) else awayAll m bl
def belowB (a b c : Int) : Bool := (decide (a < 0) != decide (b < 0)) != decide (c < 0)
def cents_MulDiv.f (k : Nat) (a b c m : Int) : Option (Int × Int) :=
  (cents_Fits.f a).bind fun ta => (cents_Fits.f b).bind fun tb => (cents_Fits.f c).bind fun tc =>
    if ta = true ∧ tb = true ∧ tc = true ∧ 1 ≤ m ∧ m ≤ 5 then (if c = 0 then some (0, 4) else
      (cents_size.f a).bind fun sa => (cents_size.f b).bind fun sb => (bits_Mul64.f sa sb).bind fun hl => (cents_size.f c).bind fun y => if y ≤ hl.1 then some (0, 3) else
        (bits_Div64.f k hl.1 hl.2 y).bind fun qr => if 1152921504606846976 < qr.1 then some (0, 3) else
          cents_signed.f (if 0 < qr.2 ∧ awayB m (belowB a b c) qr.1 qr.2 y = true then IntKind.u64.wrap (qr.1 + 1) else qr.1) (belowB a b c)) else some (0, 2)
set_option maxHeartbeats 1600000 in
theorem cents_away.calls (m : Int) (bl : Bool) (w : World) : Calls Tryd.prog 39 #[.int .i64 m, .bool bl] w fun e w' =>
    e = .returned (.func (.func 52) #[] #[.pointer (some ⟨w.heap.size, 0, none⟩), .pointer (some ⟨w.heap.size + 1, 0, none⟩)]) ∧ w'.heap[w.heap.size]? = some (.cells #[.int .i64 m] 3 (0, 0)) ∧ w'.heap[w.heap.size + 1]? = some (.cells #[.bool (awayAll m bl)] 4 (0, 0)) ∧ Below w.heap.size w w' := by
  have fin : ∀ (m : Int) (v : Bool), v = awayAll m bl → ((w.alloc (.cells #[.int .i64 m] 3)).alloc (.cells #[.bool v] 4)).heap[w.heap.size]? = some (.cells #[.int .i64 m] 3 (0, 0)) ∧ ((w.alloc (.cells #[.int .i64 m] 3)).alloc (.cells #[.bool v] 4)).heap[w.heap.size + 1]? = some (.cells #[.bool (awayAll m bl)] 4 (0, 0)) ∧ Below w.heap.size w ((w.alloc (.cells #[.int .i64 m] 3)).alloc (.cells #[.bool v] 4)) := by
    rintro m v rfl
    have h1 : (w.alloc (.cells #[.int .i64 m] 3)).heap.size = w.heap.size + 1 := by simp
    have hb := blk_new (w.alloc (.cells #[.int .i64 m] 3)) (.cells #[.bool (awayAll m bl)] 4)
    rw [h1] at hb
    exact ⟨blk_alloc (blk_new w _) _, hb, ((Below.refl _ _).alloc (Nat.le_refl _) _).alloc (by simp) _⟩
  by_cases c2 : m = 2
  · subst c2
    go_enter Tryd.func39, Tryd.ntmps39
    go_wp2
    go_ret
    exact ⟨rfl, fin 2 _ rfl⟩
  · have d2 : decide (m = 2) = false := decide_eq_false c2
    by_cases c3 : m = 3
    · subst c3
      cases bl with
      | true =>
        go_enter Tryd.func39, Tryd.ntmps39
        go_wp2
        go_ret
        exact ⟨rfl, fin 3 _ rfl⟩
      | false =>
        go_enter Tryd.func39, Tryd.ntmps39
        go_wp2
        go_ret
        exact ⟨rfl, fin 3 _ rfl⟩
    · have d3 : decide (m = 3) = false := decide_eq_false c3
      by_cases c4 : m = 4
      · subst c4
        cases bl with
        | true =>
          go_enter Tryd.func39, Tryd.ntmps39
          go_wp2
          go_ret
          exact ⟨rfl, fin 4 _ rfl⟩
        | false =>
          go_enter Tryd.func39, Tryd.ntmps39
          go_wp2
          go_ret
          exact ⟨rfl, fin 4 _ rfl⟩
      · have d4 : decide (m = 4) = false := decide_eq_false c4
        go_enter Tryd.func39, Tryd.ntmps39
        go_wp2
        go_ret
        exact ⟨rfl, fin m _ (by unfold awayAll; rw [beq_eq_false_iff_ne.2 c2, beq_eq_false_iff_ne.2 c3, beq_eq_false_iff_ne.2 c4]; rfl)⟩
set_option maxHeartbeats 1600000 in
set_option maxRecDepth 100000 in
theorem cents_away1.calls (q r y m : Int) (al : Bool) (g1 g2 : Nat) (w : World) (h1 : w.heap[g1]? = some (.cells #[.int .i64 m] 3 (0, 0))) (h2 : w.heap[g2]? = some (.cells #[.bool al] 4 (0, 0))) :
    Calls Tryd.prog 52 #[.int .u64 q, .int .u64 r, .int .u64 y, .pointer (some ⟨g1, 0, none⟩), .pointer (some ⟨g2, 0, none⟩)] w fun e w' =>
      e = .returned (.bool (if m = 5 then decide (IntKind.u64.wrap (y - r) < r) || (r == IntKind.u64.wrap (y - r) && Int.tmod q 2 == 1) else al)) ∧ Drawn0 w w' := by
  have hc1 := blk_one h1
  have hc2 := blk_one h2
  by_cases c5 : m = 5
  · subst c5
    rw [if_pos rfl]
    obtain ⟨z, hz⟩ : ∃ z, IntKind.u64.wrap (y - r) = z := ⟨_, rfl⟩
    rw [hz]
    by_cases e1 : z < r
    · have f1 : decide (z < r) = true := decide_eq_true e1
      clear e1
      rw [f1, Bool.true_or]
      go_enter Tryd.func52, Tryd.ntmps52
      go_wp2
      go_ret
      exact ⟨rfl, ⟨0, rfl⟩⟩
    · have f1 : decide (z < r) = false := decide_eq_false e1
      clear e1
      rw [f1, Bool.false_or]
      by_cases e2 : r = z
      · have f2 : (r == z) = true := beq_iff_eq.mpr e2
        clear e2
        rw [f2, Bool.true_and]
        go_enter Tryd.func52, Tryd.ntmps52
        go_wp2
        go_ret
        exact ⟨rfl, ⟨0, rfl⟩⟩
      · have f2 : (r == z) = false := beq_eq_false_iff_ne.mpr e2
        clear e2
        rw [f2, Bool.false_and]
        go_enter Tryd.func52, Tryd.ntmps52
        go_wp2
        go_ret
        exact ⟨rfl, ⟨0, rfl⟩⟩
  · have d5 : (m != 5) = true := by simpa using c5
    rw [if_neg c5]
    go_enter Tryd.func52, Tryd.ntmps52
    go_wp2
    go_ret
    exact ⟨rfl, ⟨0, rfl⟩⟩
set_option maxHeartbeats 4000000 in
set_option maxRecDepth 100000 in
theorem cents_MulDiv.calls (k : Nat) (a b c m : Int) (r1 r2 : Int) (w : World) (h0 : cents_MulDiv.f k a b c m = some (r1, r2)) :
    Calls Tryd.prog 16 #[.int .i64 a, .int .i64 b, .int .i64 c, .int .i64 m] w fun e w' => e = .returned (.tuple #[.int .i64 r1, .int .i64 r2]) ∧ Below w.heap.size w w' := by
  unfold cents_MulDiv.f at h0
  obtain ⟨ta, ha, h1⟩ := Option.bind_eq_some_iff.1 h0
  clear h0
  have HA := Aside0.mk ha
  clear ha
  obtain ⟨tb, hb, h2⟩ := Option.bind_eq_some_iff.1 h1
  clear h1
  have HB := Aside0.mk hb
  clear hb
  obtain ⟨tc, hc, h⟩ := Option.bind_eq_some_iff.1 h2
  clear h2
  have HC := Aside0.mk hc
  clear hc
  cases ta with
  | false =>
    rw [if_neg (by simp)] at h
    obtain ⟨rfl, rfl⟩ : 0 = r1 ∧ 2 = r2 := by simpa using h
    clear h
    go_enter Tryd.func16, Tryd.ntmps16
    go_wp2_with (first | (go_at_call 35; (with_reducible refine (cents_Fits.calls a _ _ HA.out).mono ?_); rintro e w' ⟨rfl, ⟨nd, rfl⟩⟩) | (go_at_call 35; (with_reducible refine (cents_Fits.calls b _ _ HB.out).mono ?_); rintro e w' ⟨rfl, ⟨nd, rfl⟩⟩) | (go_at_call 35; (with_reducible refine (cents_Fits.calls c _ _ HC.out).mono ?_); rintro e w' ⟨rfl, ⟨nd, rfl⟩⟩))
    go_ret2
    exact ⟨eqs, by repeat (first | (with_reducible first | exact Below.refl _ _ | apply below_alloc | apply pw_below_drewN | apply below_drew1) | exact Below.refl _ _)⟩
  | true =>
    cases tb with
    | false =>
      rw [if_neg (by simp)] at h
      obtain ⟨rfl, rfl⟩ : 0 = r1 ∧ 2 = r2 := by simpa using h
      clear h
      go_enter Tryd.func16, Tryd.ntmps16
      go_wp2_with (first | (go_at_call 35; (with_reducible refine (cents_Fits.calls a _ _ HA.out).mono ?_); rintro e w' ⟨rfl, ⟨nd, rfl⟩⟩) | (go_at_call 35; (with_reducible refine (cents_Fits.calls b _ _ HB.out).mono ?_); rintro e w' ⟨rfl, ⟨nd, rfl⟩⟩) | (go_at_call 35; (with_reducible refine (cents_Fits.calls c _ _ HC.out).mono ?_); rintro e w' ⟨rfl, ⟨nd, rfl⟩⟩))
      go_ret2
      exact ⟨eqs, by repeat (first | (with_reducible first | exact Below.refl _ _ | apply below_alloc | apply pw_below_drewN | apply below_drew1) | exact Below.refl _ _)⟩
    | true =>
      cases tc with
      | false =>
        rw [if_neg (by simp)] at h
        obtain ⟨rfl, rfl⟩ : 0 = r1 ∧ 2 = r2 := by simpa using h
        clear h
        go_enter Tryd.func16, Tryd.ntmps16
        go_wp2_with (first | (go_at_call 35; (with_reducible refine (cents_Fits.calls a _ _ HA.out).mono ?_); rintro e w' ⟨rfl, ⟨nd, rfl⟩⟩) | (go_at_call 35; (with_reducible refine (cents_Fits.calls b _ _ HB.out).mono ?_); rintro e w' ⟨rfl, ⟨nd, rfl⟩⟩) | (go_at_call 35; (with_reducible refine (cents_Fits.calls c _ _ HC.out).mono ?_); rintro e w' ⟨rfl, ⟨nd, rfl⟩⟩))
        go_ret2
        exact ⟨eqs, by repeat (first | (with_reducible first | exact Below.refl _ _ | apply below_alloc | apply pw_below_drewN | apply below_drew1) | exact Below.refl _ _)⟩
      | true =>
        by_cases d1 : m < 1
        · rw [if_neg (by omega)] at h
          obtain ⟨rfl, rfl⟩ : 0 = r1 ∧ 2 = r2 := by simpa using h
          clear h
          replace d1 := decide_eq_true d1
          go_enter Tryd.func16, Tryd.ntmps16
          go_wp2_with (first | (go_at_call 35; (with_reducible refine (cents_Fits.calls a _ _ HA.out).mono ?_); rintro e w' ⟨rfl, ⟨nd, rfl⟩⟩) | (go_at_call 35; (with_reducible refine (cents_Fits.calls b _ _ HB.out).mono ?_); rintro e w' ⟨rfl, ⟨nd, rfl⟩⟩) | (go_at_call 35; (with_reducible refine (cents_Fits.calls c _ _ HC.out).mono ?_); rintro e w' ⟨rfl, ⟨nd, rfl⟩⟩))
          go_ret2
          exact ⟨eqs, by repeat (first | (with_reducible first | exact Below.refl _ _ | apply below_alloc | apply pw_below_drewN | apply below_drew1) | exact Below.refl _ _)⟩
        by_cases d2 : 5 < m
        · rw [if_neg (by omega)] at h
          obtain ⟨rfl, rfl⟩ : 0 = r1 ∧ 2 = r2 := by simpa using h
          clear h
          replace d1 := decide_eq_false d1
          replace d2 := decide_eq_true d2
          go_enter Tryd.func16, Tryd.ntmps16
          go_wp2_with (first | (go_at_call 35; (with_reducible refine (cents_Fits.calls a _ _ HA.out).mono ?_); rintro e w' ⟨rfl, ⟨nd, rfl⟩⟩) | (go_at_call 35; (with_reducible refine (cents_Fits.calls b _ _ HB.out).mono ?_); rintro e w' ⟨rfl, ⟨nd, rfl⟩⟩) | (go_at_call 35; (with_reducible refine (cents_Fits.calls c _ _ HC.out).mono ?_); rintro e w' ⟨rfl, ⟨nd, rfl⟩⟩))
          go_ret2
          exact ⟨eqs, by repeat (first | (with_reducible first | exact Below.refl _ _ | apply below_alloc | apply pw_below_drewN | apply below_drew1) | exact Below.refl _ _)⟩
        rw [if_pos ⟨rfl, rfl, rfl, by omega, by omega⟩] at h
        replace d1 := decide_eq_false d1
        replace d2 := decide_eq_false d2
        by_cases d3 : c = 0
        · rw [if_pos d3] at h
          obtain ⟨rfl, rfl⟩ : 0 = r1 ∧ 4 = r2 := by simpa using h
          clear h
          have d4 : (c == 0) = true := beq_iff_eq.mpr d3
          clear d3
          go_enter Tryd.func16, Tryd.ntmps16
          go_wp2_with (first | (go_at_call 35; (with_reducible refine (cents_Fits.calls a _ _ HA.out).mono ?_); rintro e w' ⟨rfl, ⟨nd, rfl⟩⟩) | (go_at_call 35; (with_reducible refine (cents_Fits.calls b _ _ HB.out).mono ?_); rintro e w' ⟨rfl, ⟨nd, rfl⟩⟩) | (go_at_call 35; (with_reducible refine (cents_Fits.calls c _ _ HC.out).mono ?_); rintro e w' ⟨rfl, ⟨nd, rfl⟩⟩))
          go_ret2
          exact ⟨eqs, by repeat (first | (with_reducible first | exact Below.refl _ _ | apply below_alloc | apply pw_below_drewN | apply below_drew1) | exact Below.refl _ _)⟩
        rw [if_neg d3] at h
        have d4 : (c == 0) = false := beq_eq_false_iff_ne.mpr d3
        clear d3
        obtain ⟨sa, hsa, h1⟩ := Option.bind_eq_some_iff.1 h
        clear h
        obtain ⟨sb, hsb, h2⟩ := Option.bind_eq_some_iff.1 h1
        clear h1
        obtain ⟨⟨hi, lo⟩, hhl, h3⟩ := Option.bind_eq_some_iff.1 h2
        clear h2
        obtain ⟨y, hy, h⟩ := Option.bind_eq_some_iff.1 h3
        clear h3
        dsimp only at h
        have SA := Aside0.mk hsa
        have SB := Aside0.mk hsb
        have SC := Aside0.mk hy
        have HL := Aside0.mk hhl
        clear hsa hsb hy hhl
        have eB : belowB a b c = ((decide (a < 0) != decide (b < 0)) != decide (c < 0)) := rfl
        obtain ⟨na, hna⟩ : ∃ x, decide (a < 0) = x := ⟨_, rfl⟩
        obtain ⟨nb, hnb⟩ : ∃ x, decide (b < 0) = x := ⟨_, rfl⟩
        obtain ⟨nc, hnc⟩ : ∃ x, decide (c < 0) = x := ⟨_, rfl⟩
        rw [hna, hnb, hnc] at eB
        obtain ⟨bl, hbl⟩ : ∃ x, ((na != nb) != nc) = x := ⟨_, rfl⟩
        rw [hbl] at eB
        rw [eB] at h
        clear eB
        have hbm : (!((!(na == nb)) == nc)) = bl := by rw [← hbl]; cases na <;> cases nb <;> cases nc <;> rfl
        clear hbl
        by_cases d5 : y ≤ hi
        · rw [if_pos d5] at h
          obtain ⟨rfl, rfl⟩ : 0 = r1 ∧ 3 = r2 := by simpa using h
          clear h
          replace d5 := decide_eq_true d5
          go_enter Tryd.func16, Tryd.ntmps16
          go_wp2_with (first | (go_at_call 35; (with_reducible refine (cents_Fits.calls a _ _ HA.out).mono ?_); rintro e w' ⟨rfl, ⟨nd, rfl⟩⟩) | (go_at_call 35; (with_reducible refine (cents_Fits.calls b _ _ HB.out).mono ?_); rintro e w' ⟨rfl, ⟨nd, rfl⟩⟩) | (go_at_call 35; (with_reducible refine (cents_Fits.calls c _ _ HC.out).mono ?_); rintro e w' ⟨rfl, ⟨nd, rfl⟩⟩) | (go_at_call 37; (with_reducible refine (cents_size.calls a _ _ SA.out).mono ?_); rintro e w' ⟨rfl, ⟨nd, rfl⟩⟩) | (go_at_call 37; (with_reducible refine (cents_size.calls b _ _ SB.out).mono ?_); rintro e w' ⟨rfl, ⟨nd, rfl⟩⟩) | (go_at_call 37; (with_reducible refine (cents_size.calls c _ _ SC.out).mono ?_); rintro e w' ⟨rfl, ⟨nd, rfl⟩⟩) | (go_at_call 36; (with_reducible refine (bits_Mul64.calls _ _ _ _ _ HL.out).mono ?_); rintro e w' ⟨rfl, ⟨nd, rfl⟩⟩))
          go_ret2
          exact ⟨eqs, by repeat (first | (with_reducible first | exact Below.refl _ _ | apply below_alloc | apply pw_below_drewN | apply below_drew1) | exact Below.refl _ _)⟩
        rw [if_neg d5] at h
        replace d5 := decide_eq_false d5
        obtain ⟨⟨q, r⟩, hd, h1⟩ := Option.bind_eq_some_iff.1 h
        clear h
        have DV := Aside0.mk hd
        clear hd
        dsimp only at h1
        by_cases d6 : 1152921504606846976 < q
        · rw [if_pos d6] at h1
          have h := h1
          clear h1
          obtain ⟨rfl, rfl⟩ : 0 = r1 ∧ 3 = r2 := by simpa using h
          clear h
          replace d6 := decide_eq_true d6
          go_enter Tryd.func16, Tryd.ntmps16
          go_wp2_with (first | (go_at_call 35; (with_reducible refine (cents_Fits.calls a _ _ HA.out).mono ?_); rintro e w' ⟨rfl, ⟨nd, rfl⟩⟩) | (go_at_call 35; (with_reducible refine (cents_Fits.calls b _ _ HB.out).mono ?_); rintro e w' ⟨rfl, ⟨nd, rfl⟩⟩) | (go_at_call 35; (with_reducible refine (cents_Fits.calls c _ _ HC.out).mono ?_); rintro e w' ⟨rfl, ⟨nd, rfl⟩⟩) | (go_at_call 37; (with_reducible refine (cents_size.calls a _ _ SA.out).mono ?_); rintro e w' ⟨rfl, ⟨nd, rfl⟩⟩) | (go_at_call 37; (with_reducible refine (cents_size.calls b _ _ SB.out).mono ?_); rintro e w' ⟨rfl, ⟨nd, rfl⟩⟩) | (go_at_call 37; (with_reducible refine (cents_size.calls c _ _ SC.out).mono ?_); rintro e w' ⟨rfl, ⟨nd, rfl⟩⟩) | (go_at_call 36; (with_reducible refine (bits_Mul64.calls _ _ _ _ _ HL.out).mono ?_); rintro e w' ⟨rfl, ⟨nd, rfl⟩⟩) | (go_at_call 38; (with_reducible refine (bits_Div64.calls k _ _ _ _ _ _ DV.out).mono ?_); rintro e w' ⟨rfl, ⟨nd, rfl⟩⟩))
          go_ret2
          exact ⟨eqs, by repeat (first | (with_reducible first | exact Below.refl _ _ | apply below_alloc | apply pw_below_drewN | apply below_drew1) | exact Below.refl _ _)⟩
        rw [if_neg d6] at h1
        replace d6 := decide_eq_false d6
        have AWE : (if m = 5 then decide (IntKind.u64.wrap (y - r) < r) || (r == IntKind.u64.wrap (y - r) && Int.tmod q 2 == 1) else awayAll m bl) = awayB m bl q r y := rfl
        by_cases d7 : 0 < r
        · obtain ⟨ab, hab⟩ : ∃ x, awayB m bl q r y = x := ⟨_, rfl⟩
          have AWB := AWE.trans hab
          rw [hab] at h1
          clear hab AWE
          replace AWB := Aside0.mk AWB
          cases ab with
          | true =>
            rw [if_pos ⟨d7, rfl⟩] at h1
            have SG := Aside0.mk h1
            have d8 := decide_eq_true d7
            clear h1 d7
            go_enter Tryd.func16, Tryd.ntmps16
            go_wp2_with (first | (go_at_call 35; (with_reducible refine (cents_Fits.calls a _ _ HA.out).mono ?_); rintro e w' ⟨rfl, ⟨nd, rfl⟩⟩) | (go_at_call 35; (with_reducible refine (cents_Fits.calls b _ _ HB.out).mono ?_); rintro e w' ⟨rfl, ⟨nd, rfl⟩⟩) | (go_at_call 35; (with_reducible refine (cents_Fits.calls c _ _ HC.out).mono ?_); rintro e w' ⟨rfl, ⟨nd, rfl⟩⟩) | (go_at_call 37; (with_reducible refine (cents_size.calls a _ _ SA.out).mono ?_); rintro e w' ⟨rfl, ⟨nd, rfl⟩⟩) | (go_at_call 37; (with_reducible refine (cents_size.calls b _ _ SB.out).mono ?_); rintro e w' ⟨rfl, ⟨nd, rfl⟩⟩) | (go_at_call 37; (with_reducible refine (cents_size.calls c _ _ SC.out).mono ?_); rintro e w' ⟨rfl, ⟨nd, rfl⟩⟩) | (go_at_call 36; (with_reducible refine (bits_Mul64.calls _ _ _ _ _ HL.out).mono ?_); rintro e w' ⟨rfl, ⟨nd, rfl⟩⟩) | (go_at_call 38; (with_reducible refine (bits_Div64.calls k _ _ _ _ _ _ DV.out).mono ?_); rintro e w' ⟨rfl, ⟨nd, rfl⟩⟩) | (go_at_call 39; (with_reducible refine (cents_away.calls m bl _).mono ?_); rintro e w' ⟨rfl, hg1, hg2, hbw⟩; have G1 := Aside0.mk hg1; have G2 := Aside0.mk hg2; have BW := Aside0.mk hbw; clear hg1 hg2 hbw) | (go_at_call 52; refine (cents_away1.calls q r y m (awayAll m bl) w.heap.size (w.heap.size + 1) _ G1.out G2.out).mono ?_; rintro e w' ⟨rfl, ⟨nd, rfl⟩⟩; rw [AWB.out]) | (go_at_call 40; (with_reducible refine (cents_signed.calls _ _ _ _ _ SG.out).mono ?_); rintro e w' ⟨rfl, ⟨nd, rfl⟩⟩))
            go_ret2
            exact ⟨eqs, by repeat (first | (with_reducible first | apply below_alloc | apply pw_below_drewN | apply below_drew1) | exact Below.trans (by repeat (first | exact Below.refl _ _ | apply pw_below_drewN)) BW.out | exact Below.refl _ _)⟩
          | false =>
            rw [if_neg (fun z => absurd z.2 (by decide))] at h1
            have SG := Aside0.mk h1
            have d8 := decide_eq_true d7
            clear h1 d7
            go_enter Tryd.func16, Tryd.ntmps16
            go_wp2_with (first | (go_at_call 35; (with_reducible refine (cents_Fits.calls a _ _ HA.out).mono ?_); rintro e w' ⟨rfl, ⟨nd, rfl⟩⟩) | (go_at_call 35; (with_reducible refine (cents_Fits.calls b _ _ HB.out).mono ?_); rintro e w' ⟨rfl, ⟨nd, rfl⟩⟩) | (go_at_call 35; (with_reducible refine (cents_Fits.calls c _ _ HC.out).mono ?_); rintro e w' ⟨rfl, ⟨nd, rfl⟩⟩) | (go_at_call 37; (with_reducible refine (cents_size.calls a _ _ SA.out).mono ?_); rintro e w' ⟨rfl, ⟨nd, rfl⟩⟩) | (go_at_call 37; (with_reducible refine (cents_size.calls b _ _ SB.out).mono ?_); rintro e w' ⟨rfl, ⟨nd, rfl⟩⟩) | (go_at_call 37; (with_reducible refine (cents_size.calls c _ _ SC.out).mono ?_); rintro e w' ⟨rfl, ⟨nd, rfl⟩⟩) | (go_at_call 36; (with_reducible refine (bits_Mul64.calls _ _ _ _ _ HL.out).mono ?_); rintro e w' ⟨rfl, ⟨nd, rfl⟩⟩) | (go_at_call 38; (with_reducible refine (bits_Div64.calls k _ _ _ _ _ _ DV.out).mono ?_); rintro e w' ⟨rfl, ⟨nd, rfl⟩⟩) | (go_at_call 39; (with_reducible refine (cents_away.calls m bl _).mono ?_); rintro e w' ⟨rfl, hg1, hg2, hbw⟩; have G1 := Aside0.mk hg1; have G2 := Aside0.mk hg2; have BW := Aside0.mk hbw; clear hg1 hg2 hbw) | (go_at_call 52; refine (cents_away1.calls q r y m (awayAll m bl) w.heap.size (w.heap.size + 1) _ G1.out G2.out).mono ?_; rintro e w' ⟨rfl, ⟨nd, rfl⟩⟩; rw [AWB.out]) | (go_at_call 40; (with_reducible refine (cents_signed.calls _ _ _ _ _ SG.out).mono ?_); rintro e w' ⟨rfl, ⟨nd, rfl⟩⟩))
            go_ret2
            exact ⟨eqs, by repeat (first | (with_reducible first | apply below_alloc | apply pw_below_drewN | apply below_drew1) | exact Below.trans (by repeat (first | exact Below.refl _ _ | apply pw_below_drewN)) BW.out | exact Below.refl _ _)⟩
        · rw [if_neg (fun z => d7 z.1)] at h1
          have SG := Aside0.mk h1
          have d8 := decide_eq_false d7
          clear h1 d7 AWE
          go_enter Tryd.func16, Tryd.ntmps16
          go_wp2_with (first | (go_at_call 35; (with_reducible refine (cents_Fits.calls a _ _ HA.out).mono ?_); rintro e w' ⟨rfl, ⟨nd, rfl⟩⟩) | (go_at_call 35; (with_reducible refine (cents_Fits.calls b _ _ HB.out).mono ?_); rintro e w' ⟨rfl, ⟨nd, rfl⟩⟩) | (go_at_call 35; (with_reducible refine (cents_Fits.calls c _ _ HC.out).mono ?_); rintro e w' ⟨rfl, ⟨nd, rfl⟩⟩) | (go_at_call 37; (with_reducible refine (cents_size.calls a _ _ SA.out).mono ?_); rintro e w' ⟨rfl, ⟨nd, rfl⟩⟩) | (go_at_call 37; (with_reducible refine (cents_size.calls b _ _ SB.out).mono ?_); rintro e w' ⟨rfl, ⟨nd, rfl⟩⟩) | (go_at_call 37; (with_reducible refine (cents_size.calls c _ _ SC.out).mono ?_); rintro e w' ⟨rfl, ⟨nd, rfl⟩⟩) | (go_at_call 36; (with_reducible refine (bits_Mul64.calls _ _ _ _ _ HL.out).mono ?_); rintro e w' ⟨rfl, ⟨nd, rfl⟩⟩) | (go_at_call 38; (with_reducible refine (bits_Div64.calls k _ _ _ _ _ _ DV.out).mono ?_); rintro e w' ⟨rfl, ⟨nd, rfl⟩⟩) | (go_at_call 40; (with_reducible refine (cents_signed.calls _ _ _ _ _ SG.out).mono ?_); rintro e w' ⟨rfl, ⟨nd, rfl⟩⟩))
          go_ret2
          exact ⟨eqs, by repeat (first | (with_reducible first | exact Below.refl _ _ | apply below_alloc | apply pw_below_drewN | apply below_drew1) | exact Below.refl _ _)⟩
def rate_Convert.f (k : Nat) (l0 : List (S32)) (a1 : Int) (a2 : Int) (a3 : Int) (a4 : Int) : Option (Int × Int) := (rate_Check.f k l0).bind fun t101 => (if t101 = 0 then (if a2 < 0 then (some (0, 25)) else (if a2 ≥ (l0.length : Int) then (some (0, 25)) else (if a3 < 0 then (some (0, 25)) else (if a3 ≥ (l0.length : Int) then (some (0, 25)) else (if 0 ≤ a2 then (if a2 < (l0.length : Int) then (if 0 ≤ a3 then (if a3 < (l0.length : Int) then ((cents_MulDiv.f k a1 ((rd_T32 l0 a2).f1) ((rd_T32 l0 a3).f1) a4).bind fun bt104 => (some (bt104.1, bt104.2))) else (none)) else (none)) else (none)) else (none)))))) else (some (0, t101)))
def rate_Convert.T6 : Bool × List (List Nat × List Nat) := (true, [([], []), ([], []), ([], []), ([1, 2], [1, 2]), ([3], [3]), ([4], [4]), ([], []), ([], []), ([6, 7], [6, 7]), ([8], [8]), ([9], [9]), ([], []), ([0, 5, 10, 11], [0, 5, 10, 11]), ([12], [12]), ([12], [12]), ([13, 12, 0, 1, 2, 3, 4, 5, 6, 7, 8, 9, 10, 11, 12, 13, 14], [13]), ([14, 15, 0, 1, 2, 3, 4, 5, 6, 7, 8, 9, 10, 11, 12, 13, 14, 15], [14])])
def rate_Convert.B6 : List Nat := [0, 0, 0, 6, 14, 30, 0, 0, 192, 448, 960, 0, 4095, 8191, 8191, 32767, 65535]
theorem rate_Convert.tab6 : rtab .any (opsOf Tryd.f6 6) = rate_Convert.T6 := by kernel_rfl
theorem rate_Convert.bits6 : waitsOk rate_Convert.T6.2 rate_Convert.B6 = true := by kernel_rfl
set_option maxHeartbeats 8000000 in
set_option maxRecDepth 100000 in
theorem rate_Convert.calls (k : Nat) (A0 : Option Addr) (c0 : Nat) (l0 : List (S32)) (a1 : Int) (a2 : Int) (a3 : Int) (a4 : Int) (r1 : Int) (r2 : Int) (w : World) (hr0 : Kd.C k32 w A0 l0.length l0) (hc0 : l0.length ≤ c0) (h : rate_Convert.f k l0 a1 a2 a3 a4 = some (r1, r2)) :
    Calls Tryd.prog 6 #[.slice A0 l0.length c0, .int .i64 a1, .int .i64 a2, .int .i64 a3, .int .i64 a4] w fun e w' => e = .returned (.tuple #[.int .i64 r1, .int .i64 r2]) ∧ Below w.heap.size w w' := by
  have HR0 := Aside0.mk hr0
  have HC0 := Aside0.mk hc0
  clear hr0 hc0
  have HB := Aside0.mk (Below.refl w.heap.size w)
  have H : ((rate_Check.f k l0).bind fun t101 => (if t101 = 0 then (if a2 < 0 then (some (0, 25)) else (if a2 ≥ (l0.length : Int) then (some (0, 25)) else (if a3 < 0 then (some (0, 25)) else (if a3 ≥ (l0.length : Int) then (some (0, 25)) else (if 0 ≤ a2 then (if a2 < (l0.length : Int) then (if 0 ≤ a3 then (if a3 < (l0.length : Int) then ((cents_MulDiv.f k a1 ((rd_T32 l0 a2).f1) ((rd_T32 l0 a3).f1) a4).bind fun bt104 => (some (bt104.1, bt104.2))) else (none)) else (none)) else (none)) else (none)))))) else (some (0, t101)))) = some (r1, r2) := h
  clear h
  replace H := bnd H
  obtain ⟨t101, A60, H⟩ := H
  have A6 := Aside0.mk A60
  clear A60
  by_cases c7 : t101 = 0
  · rw [if_pos c7] at H
    have c7b0 : (t101 == 0) = true := beq_iff_eq.mpr c7
    have c7b1 : (t101 != 0) = false := bne_eq_false_iff_eq.mpr c7
    clear c7
    by_cases c8 : a2 < 0
    · rw [if_pos c8] at H
      have c8b0 := decide_eq_true c8
      clear c8
      simp only [Option.some.injEq, Prod.mk.injEq] at H
      obtain ⟨rfl, rfl⟩ := H
      go_enter Tryd.func6, Tryd.ntmps6
      go_wp2_with (first | ((with_reducible refine gate_callee (f := 4) rfl ?_); refine goesL_ (some 13) rfl rfl Tryd.func4 (by kernel_rfl) rfl #[.slice A0 l0.length c0] rfl arg ?_; (with_reducible refine (rate_Check.calls k _ _ l0 t101 _ ?side1 ?side2 A6.out).mono ?_); (case side1 => repeat (first | exact HR0.out | (with_reducible refine Kd.C_alloc ?_ _) | (with_reducible refine Kd.C_drewN ?_ _) | (with_reducible refine Kd.C_drew ?_))); (case side2 => exact HC0.out); rintro e w9 ⟨rfl, hb⟩; refine ⟨_, rfl, ?_⟩; replace HB := Aside0.mk (below_step bel hb); (try clear hb); (try clear hb2); (try clear hk); (try clear hi)))
      go_ret2
      exact ⟨ers, bel⟩
    · rw [if_neg c8] at H
      have c8b0 := decide_eq_false c8
      clear c8
      by_cases c10 : a2 ≥ (l0.length : Int)
      · rw [if_pos c10] at H
        have c10b0 : decide ((l0.length : Int) ≤ a2) = true := decide_eq_true c10
        clear c10
        simp only [Option.some.injEq, Prod.mk.injEq] at H
        obtain ⟨rfl, rfl⟩ := H
        go_enter Tryd.func6, Tryd.ntmps6
        go_wp2_with (first | ((with_reducible refine gate_callee (f := 4) rfl ?_); refine goesL_ (some 13) rfl rfl Tryd.func4 (by kernel_rfl) rfl #[.slice A0 l0.length c0] rfl arg ?_; (with_reducible refine (rate_Check.calls k _ _ l0 t101 _ ?side1 ?side2 A6.out).mono ?_); (case side1 => repeat (first | exact HR0.out | (with_reducible refine Kd.C_alloc ?_ _) | (with_reducible refine Kd.C_drewN ?_ _) | (with_reducible refine Kd.C_drew ?_))); (case side2 => exact HC0.out); rintro e w11 ⟨rfl, hb⟩; refine ⟨_, rfl, ?_⟩; replace HB := Aside0.mk (below_step bel hb); (try clear hb); (try clear hb2); (try clear hk); (try clear hi)))
        go_ret2
        exact ⟨ers, bel⟩
      · rw [if_neg c10] at H
        have c10b0 : decide ((l0.length : Int) ≤ a2) = false := decide_eq_false c10
        clear c10
        by_cases c12 : a3 < 0
        · rw [if_pos c12] at H
          have c12b0 := decide_eq_true c12
          clear c12
          simp only [Option.some.injEq, Prod.mk.injEq] at H
          obtain ⟨rfl, rfl⟩ := H
          go_enter Tryd.func6, Tryd.ntmps6
          go_wp2_with (first | ((with_reducible refine gate_callee (f := 4) rfl ?_); refine goesL_ (some 13) rfl rfl Tryd.func4 (by kernel_rfl) rfl #[.slice A0 l0.length c0] rfl arg ?_; (with_reducible refine (rate_Check.calls k _ _ l0 t101 _ ?side1 ?side2 A6.out).mono ?_); (case side1 => repeat (first | exact HR0.out | (with_reducible refine Kd.C_alloc ?_ _) | (with_reducible refine Kd.C_drewN ?_ _) | (with_reducible refine Kd.C_drew ?_))); (case side2 => exact HC0.out); rintro e w13 ⟨rfl, hb⟩; refine ⟨_, rfl, ?_⟩; replace HB := Aside0.mk (below_step bel hb); (try clear hb); (try clear hb2); (try clear hk); (try clear hi)))
          go_ret2
          exact ⟨ers, bel⟩
        · rw [if_neg c12] at H
          have c12b0 := decide_eq_false c12
          clear c12
          by_cases c14 : a3 ≥ (l0.length : Int)
          · rw [if_pos c14] at H
            have c14b0 : decide ((l0.length : Int) ≤ a3) = true := decide_eq_true c14
            clear c14
            simp only [Option.some.injEq, Prod.mk.injEq] at H
            obtain ⟨rfl, rfl⟩ := H
            go_enter Tryd.func6, Tryd.ntmps6
            go_wp2_with (first | ((with_reducible refine gate_callee (f := 4) rfl ?_); refine goesL_ (some 13) rfl rfl Tryd.func4 (by kernel_rfl) rfl #[.slice A0 l0.length c0] rfl arg ?_; (with_reducible refine (rate_Check.calls k _ _ l0 t101 _ ?side1 ?side2 A6.out).mono ?_); (case side1 => repeat (first | exact HR0.out | (with_reducible refine Kd.C_alloc ?_ _) | (with_reducible refine Kd.C_drewN ?_ _) | (with_reducible refine Kd.C_drew ?_))); (case side2 => exact HC0.out); rintro e w15 ⟨rfl, hb⟩; refine ⟨_, rfl, ?_⟩; replace HB := Aside0.mk (below_step bel hb); (try clear hb); (try clear hb2); (try clear hk); (try clear hi)))
            go_ret2
            exact ⟨ers, bel⟩
          · rw [if_neg c14] at H
            have c14b0 : decide ((l0.length : Int) ≤ a3) = false := decide_eq_false c14
            clear c14
            by_cases c16 : 0 ≤ a2
            · rw [if_pos c16] at H
              have c16b0 := decide_eq_true c16
              clear c16
              by_cases c17 : a2 < (l0.length : Int)
              · rw [if_pos c17] at H
                have c17b0 := decide_eq_true c17
                clear c17
                by_cases c18 : 0 ≤ a3
                · rw [if_pos c18] at H
                  have c18b0 := decide_eq_true c18
                  clear c18
                  by_cases c19 : a3 < (l0.length : Int)
                  · rw [if_pos c19] at H
                    have c19b0 := decide_eq_true c19
                    clear c19
                    replace H := bnd H
                    obtain ⟨⟨t104, t105⟩, A200, H⟩ := H
                    replace H : (some (t104, t105)) = some (r1, r2) := H
                    have A20 := Aside0.mk A200
                    clear A200
                    simp only [Option.some.injEq, Prod.mk.injEq] at H
                    obtain ⟨rfl, rfl⟩ := H
                    go_enter Tryd.func6, Tryd.ntmps6
                    try go_wp2_with (first | ((with_reducible refine gate_callee (f := 4) rfl ?_); refine goesL_ (some 13) rfl rfl Tryd.func4 (by kernel_rfl) rfl #[.slice A0 l0.length c0] rfl arg ?_; (with_reducible refine (rate_Check.calls k _ _ l0 t101 _ ?side1 ?side2 A6.out).mono ?_); (case side1 => repeat (first | exact HR0.out | (with_reducible refine Kd.C_alloc ?_ _) | (with_reducible refine Kd.C_drewN ?_ _) | (with_reducible refine Kd.C_drew ?_))); (case side2 => exact HC0.out); rintro e w21 ⟨rfl, hb⟩; refine ⟨_, rfl, ?_⟩; replace HB := Aside0.mk (below_step bel hb); (try clear hb); (try clear hb2); (try clear hk); (try clear hi)))
                    have n0_ := Aside0.mk (below_drew1 HB.out)
                    clear HB
                    have HB := n0_
                    clear n0_
                    have p102 : 0 ≤ (a2 : Int) := dt
                    have q102 : a2 < (l0.length : Int) := dt
                    obtain ⟨ad102, e102, hx102_0, hx102_1⟩ := at_T32 HR0.out a2 p102 q102
                    have hw102_1 := hx102_1
                    have hw102_0 := hx102_0
                    cases e102
                    replace hx102_0 := (HB.out.cell (World.block_lt_of_cell? w _ hx102_0)).trans hx102_0
                    replace hx102_1 := (HB.out.cell (World.block_lt_of_cell? w _ hx102_1)).trans hx102_1
                    replace p102 := eq_true p102
                    replace q102 := eq_true q102
                    have p103 : 0 ≤ (a3 : Int) := dt
                    have q103 : a3 < (l0.length : Int) := dt
                    obtain ⟨ad103, e103, hx103_0, hx103_1⟩ := at_T32 HR0.out a3 p103 q103
                    have hw103_1 := hx103_1
                    have hw103_0 := hx103_0
                    obtain rfl : ad102 = ad103 := (by injection e103)
                    replace hx103_0 := (HB.out.cell (World.block_lt_of_cell? w _ hx103_0)).trans hx103_0
                    replace hx103_1 := (HB.out.cell (World.block_lt_of_cell? w _ hx103_1)).trans hx103_1
                    replace p103 := eq_true p103
                    replace q103 := eq_true q103
                    refine start_ (n := 17) (S := fun w' => w'.cell? (ad102.add ((a2).toNat * 2)) = some (.string ((rd_T32 l0 a2).f0)) ∧ w'.cell? ⟨(ad102.add ((a2).toNat * 2)).block, (ad102.add ((a2).toNat * 2)).off + 1, none⟩ = some (.int .i64 ((rd_T32 l0 a2).f1)) ∧ w'.cell? (ad102.add ((a3).toNat * 2)) = some (.string ((rd_T32 l0 a3).f0)) ∧ w'.cell? ⟨(ad102.add ((a3).toNat * 2)).block, (ad102.add ((a3).toNat * 2)).off + 1, none⟩ = some (.int .i64 ((rd_T32 l0 a3).f1))) (ds := []) #[false, false, false, false, false, false, false, false, false, false, false, false, false, false, false, false, false] (by kernel_rfl) rfl rfl ⟨((HB.out.cell (World.block_lt_of_cell? w _ hw102_0)).trans hw102_0), ((HB.out.cell (World.block_lt_of_cell? w _ hw102_1)).trans hw102_1), ((HB.out.cell (World.block_lt_of_cell? w _ hw103_0)).trans hw103_0), ((HB.out.cell (World.block_lt_of_cell? w _ hw103_1)).trans hw103_1)⟩ (fun hHeld => ?_); refine with_tabW rate_Convert.tab6 rate_Convert.bits6 (fun HT_ HW_ => ?_)
                    generalize w21.drew = w22 at HB hx102_0 hx102_1 hx103_0 hx103_1 hHeld ⊢
                    refine pure_ (i := 0) (N := some 35) (v := ?_) (a' := ?_) #[true, false, false, false, false, false, false, false, false, false, false, false, false, false, false, false, false] rfl rfl (any_of HT_.out (by kernel_rfl)) (fun _ _ _ h => h) (Or.inl ⟨by rfl, ?_⟩) ?_ ?_
                    rotate_left
                    · intro w'
                      go_simp
                      with_reducible rfl
                    rotate_left
                    · simp only [Act.put, List.setIfInBounds_toArray, List.set_cons_zero, List.set_cons_succ, i64_w, i32_w]
                      rfl
                    refine pure_ (i := 1) (N := some 36) (v := ?_) (a' := ?_) #[true, true, false, false, false, false, false, false, false, false, false, false, false, false, false, false, false] rfl rfl (any_of HT_.out (by kernel_rfl)) (fun _ _ _ h => h) (Or.inl ⟨by rfl, ?_⟩) ?_ ?_
                    rotate_left
                    · intro w'
                      go_simp
                      with_reducible rfl
                    rotate_left
                    · simp only [Act.put, List.setIfInBounds_toArray, List.set_cons_zero, List.set_cons_succ, i64_w, i32_w]
                      rfl
                    refine pure_ (i := 2) (N := some 37) (v := ?_) (a' := ?_) #[true, true, true, false, false, false, false, false, false, false, false, false, false, false, false, false, false] rfl rfl (any_of HT_.out (by kernel_rfl)) (fun _ _ _ h => h) (Or.inl ⟨by rfl, ?_⟩) ?_ ?_
                    rotate_left
                    · intro w'
                      go_simp
                      with_reducible rfl
                    rotate_left
                    · simp only [Act.put, List.setIfInBounds_toArray, List.set_cons_zero, List.set_cons_succ, i64_w, i32_w]
                      rfl
                    refine pure_ (i := 3) (N := some 38) (v := ?_) (a' := ?_) #[true, true, true, true, false, false, false, false, false, false, false, false, false, false, false, false, false] rfl rfl (any_of HT_.out (by kernel_rfl)) (fun _ _ _ h => h) (Or.inl ⟨by rfl, ?_⟩) ?_ ?_
                    rotate_left
                    · intro w'
                      go_simp
                      with_reducible rfl
                    rotate_left
                    · simp only [Act.put, List.setIfInBounds_toArray, List.set_cons_zero, List.set_cons_succ, i64_w, i32_w]
                      rfl
                    refine pure_ (i := 4) (N := some 39) (v := ?_) (a' := ?_) #[true, true, true, true, true, false, false, false, false, false, false, false, false, false, false, false, false] rfl rfl (any_of HT_.out (by kernel_rfl)) (fun _ _ _ h => h) (Or.inl ⟨by rfl, ?_⟩) ?_ ?_
                    rotate_left
                    · intro w'
                      go_simp
                      with_reducible rfl
                    rotate_left
                    · simp only [Act.put, List.setIfInBounds_toArray, List.set_cons_zero, List.set_cons_succ, i64_w, i32_w]
                      rfl
                    refine pure_ (i := 6) (N := some 41) (v := ?_) (a' := ?_) #[true, true, true, true, true, false, true, false, false, false, false, false, false, false, false, false, false] rfl rfl (any_of HT_.out (by kernel_rfl)) (fun _ _ _ h => h) (Or.inl ⟨by rfl, ?_⟩) ?_ ?_
                    rotate_left
                    · intro w'
                      go_simp
                      with_reducible rfl
                    rotate_left
                    · simp only [Act.put, List.setIfInBounds_toArray, List.set_cons_zero, List.set_cons_succ, i64_w, i32_w]
                      rfl
                    refine pure_ (i := 7) (N := some 42) (v := ?_) (a' := ?_) #[true, true, true, true, true, false, true, true, false, false, false, false, false, false, false, false, false] rfl rfl (any_of HT_.out (by kernel_rfl)) (fun _ _ _ h => h) (Or.inl ⟨by rfl, ?_⟩) ?_ ?_
                    rotate_left
                    · intro w'
                      go_simp
                      with_reducible rfl
                    rotate_left
                    · simp only [Act.put, List.setIfInBounds_toArray, List.set_cons_zero, List.set_cons_succ, i64_w, i32_w]
                      rfl
                    refine pure_ (i := 8) (N := some 43) (v := ?_) (a' := ?_) #[true, true, true, true, true, false, true, true, true, false, false, false, false, false, false, false, false] rfl rfl (any_of HT_.out (by kernel_rfl)) (fun _ _ _ h => h) (Or.inl ⟨by rfl, ?_⟩) ?_ ?_
                    rotate_left
                    · intro w'
                      go_simp
                      with_reducible rfl
                    rotate_left
                    · simp only [Act.put, List.setIfInBounds_toArray, List.set_cons_zero, List.set_cons_succ, i64_w, i32_w]
                      rfl
                    refine pure_ (i := 9) (N := some 44) (v := ?_) (a' := ?_) #[true, true, true, true, true, false, true, true, true, true, false, false, false, false, false, false, false] rfl rfl (any_of HT_.out (by kernel_rfl)) (fun _ _ _ h => h) (Or.inl ⟨by rfl, ?_⟩) ?_ ?_
                    rotate_left
                    · intro w'
                      go_simp
                      with_reducible rfl
                    rotate_left
                    · simp only [Act.put, List.setIfInBounds_toArray, List.set_cons_zero, List.set_cons_succ, i64_w, i32_w]
                      rfl
                    refine pure_ (i := 11) (N := some 46) (v := ?_) (a' := ?_) #[true, true, true, true, true, false, true, true, true, true, false, true, false, false, false, false, false] rfl rfl (any_of HT_.out (by kernel_rfl)) (fun _ _ _ h => h) (Or.inl ⟨by rfl, ?_⟩) ?_ ?_
                    rotate_left
                    · intro w'
                      go_simp
                      with_reducible rfl
                    rotate_left
                    · simp only [Act.put, List.setIfInBounds_toArray, List.set_cons_zero, List.set_cons_succ, i64_w, i32_w]
                      rfl
                    refine take_ (i := 5) (N := some 40) (v := ?_) (a' := ?_) #[true, true, true, true, true, true, true, true, true, true, false, true, false, false, false, false, false] rfl rfl (take_ofW HT_.out HW_.out (by kernel_rfl)) (fun _ _ _ h => h) (Or.inl ⟨by rfl, ?_⟩) hHeld ?_ ?_
                    rotate_left
                    · rintro w' ⟨s0, s1, s2, s3⟩
                      go_simp
                      with_reducible rfl
                    rotate_left
                    · simp only [Act.put, List.setIfInBounds_toArray, List.set_cons_zero, List.set_cons_succ, i64_w, i32_w]
                      rfl
                    refine take_ (i := 10) (N := some 45) (v := ?_) (a' := ?_) #[true, true, true, true, true, true, true, true, true, true, true, true, false, false, false, false, false] rfl rfl (take_ofW HT_.out HW_.out (by kernel_rfl)) (fun _ _ _ h => h) (Or.inl ⟨by rfl, ?_⟩) hHeld ?_ ?_
                    rotate_left
                    · rintro w' ⟨s0, s1, s2, s3⟩
                      go_simp
                      with_reducible rfl
                    rotate_left
                    · simp only [Act.put, List.setIfInBounds_toArray, List.set_cons_zero, List.set_cons_succ, i64_w, i32_w]
                      rfl
                    refine one_ (i := 12) (N := some 47) #[true, true, true, true, true, true, true, true, true, true, true, true, true, false, false, false, false] rfl rfl (one_of HT_.out (by kernel_rfl)) (by decide) (fun K hK => ?_)
                    refine goes_ Tryd.func16 (by kernel_rfl) rfl #[.int .i64 a1, .int .i64 ((rd_T32 l0 a2).f1), .int .i64 ((rd_T32 l0 a3).f1), .int .i64 a4] (by rfl) rfl rfl arg ?_
                    with_reducible refine (cents_MulDiv.calls k a1 ((rd_T32 l0 a2).f1) ((rd_T32 l0 a3).f1) a4 t104 t105 _ A20.out).mono ?_
                    rintro e w23 ⟨rfl, hb⟩
                    refine ⟨_, rfl, ?_⟩
                    have n0_ := Aside0.mk (below_step bel hb)
                    clear HB
                    have HB := n0_
                    clear n0_
                    (try clear hb)
                    (try clear hb2)
                    (try clear hk)
                    (try clear hi)
                    refine hK.out _ _ ⟨((HB.out.cell (World.block_lt_of_cell? w _ hw102_0)).trans hw102_0), ((HB.out.cell (World.block_lt_of_cell? w _ hw102_1)).trans hw102_1), ((HB.out.cell (World.block_lt_of_cell? w _ hw103_0)).trans hw103_0), ((HB.out.cell (World.block_lt_of_cell? w _ hw103_1)).trans hw103_1)⟩ (fun hHeld => ?_)
                    clear hK K
                    refine norm_ (a' := ?_) ?_ ?_
                    rotate_left
                    · show Act.put _ (some 47) _ = _
                      simp only [Act.put, List.setIfInBounds_toArray, List.set_cons_zero, List.set_cons_succ, i64_w, i32_w]
                      rfl
                    refine pure_ (i := 13) (N := some 48) (v := ?_) (a' := ?_) #[true, true, true, true, true, true, true, true, true, true, true, true, true, true, false, false, false] rfl rfl (any_of HT_.out (by kernel_rfl)) (fun _ _ _ h => h) (Or.inl ⟨by rfl, ?_⟩) ?_ ?_
                    rotate_left
                    · intro w'
                      go_simp
                      with_reducible rfl
                    rotate_left
                    · simp only [Act.put, List.setIfInBounds_toArray, List.set_cons_zero, List.set_cons_succ, i64_w, i32_w]
                      rfl
                    refine pure_ (i := 14) (N := some 49) (v := ?_) (a' := ?_) #[true, true, true, true, true, true, true, true, true, true, true, true, true, true, true, false, false] rfl rfl (any_of HT_.out (by kernel_rfl)) (fun _ _ _ h => h) (Or.inl ⟨by rfl, ?_⟩) ?_ ?_
                    rotate_left
                    · intro w'
                      go_simp
                      with_reducible rfl
                    rotate_left
                    · simp only [Act.put, List.setIfInBounds_toArray, List.set_cons_zero, List.set_cons_succ, i64_w, i32_w]
                      rfl
                    refine pure_ (i := 15) (N := some 10) (v := ?_) (a' := ?_) #[true, true, true, true, true, true, true, true, true, true, true, true, true, true, true, true, false] rfl rfl (any_of HT_.out (by kernel_rfl)) (fun _ _ _ h => h) (Or.inl ⟨by rfl, ?_⟩) ?_ ?_
                    rotate_left
                    · intro w'
                      go_simp
                      with_reducible rfl
                    rotate_left
                    · simp only [Act.put, List.setIfInBounds_toArray, List.set_cons_zero, List.set_cons_succ, i64_w, i32_w]
                      rfl
                    refine pure_ (i := 16) (N := some 11) (v := ?_) (a' := ?_) #[true, true, true, true, true, true, true, true, true, true, true, true, true, true, true, true, true] rfl rfl (any_of HT_.out (by kernel_rfl)) (fun _ _ _ h => h) (Or.inl ⟨by rfl, ?_⟩) ?_ ?_
                    rotate_left
                    · intro w'
                      go_simp
                      with_reducible rfl
                    rotate_left
                    · simp only [Act.put, List.setIfInBounds_toArray, List.set_cons_zero, List.set_cons_succ, i64_w, i32_w]
                      rfl
                    refine done_ (done_of HT_.out (by kernel_rfl)) ?_
                    try go_wp2
                    go_ret2
                    exact ⟨ers, bel⟩
                  · rw [if_neg c19] at H
                    exact absurd H (by simp)
                · rw [if_neg c18] at H
                  exact absurd H (by simp)
              · rw [if_neg c17] at H
                exact absurd H (by simp)
            · rw [if_neg c16] at H
              exact absurd H (by simp)
  · rw [if_neg c7] at H
    have c7b0 : (t101 == 0) = false := beq_eq_false_iff_ne.mpr c7
    have c7b1 : (t101 != 0) = true := bne_iff_ne.mpr c7
    simp only [Option.some.injEq, Prod.mk.injEq] at H
    obtain ⟨rfl, rfl⟩ := H
    go_enter Tryd.func6, Tryd.ntmps6
    go_wp2_with (first | ((with_reducible refine gate_callee (f := 4) rfl ?_); refine goesL_ (some 13) rfl rfl Tryd.func4 (by kernel_rfl) rfl #[.slice A0 l0.length c0] rfl arg ?_; (with_reducible refine (rate_Check.calls k _ _ l0 t101 _ ?side1 ?side2 A6.out).mono ?_); (case side1 => repeat (first | exact HR0.out | (with_reducible refine Kd.C_alloc ?_ _) | (with_reducible refine Kd.C_drewN ?_ _) | (with_reducible refine Kd.C_drew ?_))); (case side2 => exact HC0.out); rintro e w24 ⟨rfl, hb⟩; refine ⟨_, rfl, ?_⟩; replace HB := Aside0.mk (below_step bel hb); (try clear hb); (try clear hb2); (try clear hk); (try clear hi)))
    go_ret2
    exact ⟨ers, bel⟩
def stringslite_Index.f (s sep : ByteArray) : Option Int := if sep.size = 1 then some (Lib.indexByte s.data.toList (sep.data.getD 0 0)) else none
theorem stringslite_Index.calls (a0 a1 : ByteArray) (r : Int) (w : World) (h : stringslite_Index.f a0 a1 = some r) :
    Calls Tryd.prog 54 #[.string a0, .string a1] w fun e w' => e = .returned (.int .i64 r) ∧ Drawn0 w w' := by
  unfold stringslite_Index.f at h
  by_cases c : a1.size = 1
  · rw [if_pos c] at h
    obtain ⟨b, rfl⟩ := Lib.one_byte a1 c
    obtain rfl := Option.some.inj h
    refine (Go.Proofs.Tryd.stringslite_Index_one a0 b w).mono ?_
    rintro e w' ⟨rfl, rfl⟩
    exact ⟨rfl, Drawn0.refl _⟩
  · rw [if_neg c] at h; cases h
def stringslite_Cut.f (a0 : ByteArray) (a1 : ByteArray) : Option (ByteArray × ByteArray × Bool) := (stringslite_Index.f a0 a1).bind fun t101 => (if t101 ≥ 0 then (if 0 ≤ t101 then (if t101 ≤ (a0.size : Int) then (if 0 ≤ (wrap64 (t101 + (a1.size : Int))) then (if (wrap64 (t101 + (a1.size : Int))) ≤ (a0.size : Int) then (some (a0.extract 0 (t101 : Int).toNat, a0.extract ((wrap64 (t101 + (a1.size : Int))) : Int).toNat a0.size, true)) else (none)) else (none)) else (none)) else (none)) else (some (a0, (⟨#[]⟩ : ByteArray), false)))
set_option maxHeartbeats 8000000 in
set_option maxRecDepth 100000 in
theorem stringslite_Cut.calls (a0 : ByteArray) (a1 : ByteArray) (r1 : ByteArray) (r2 : ByteArray) (r3 : Bool) (w : World) (h : stringslite_Cut.f a0 a1 = some (r1, r2, r3)) :
    Calls Tryd.prog 42 #[.string a0, .string a1] w fun e w' => e = .returned (.tuple #[.string r1, .string r2, .bool r3]) ∧ Drawn0 w w' := by
  have H : ((stringslite_Index.f a0 a1).bind fun t101 => (if t101 ≥ 0 then (if 0 ≤ t101 then (if t101 ≤ (a0.size : Int) then (if 0 ≤ (wrap64 (t101 + (a1.size : Int))) then (if (wrap64 (t101 + (a1.size : Int))) ≤ (a0.size : Int) then (some (a0.extract 0 (t101 : Int).toNat, a0.extract ((wrap64 (t101 + (a1.size : Int))) : Int).toNat a0.size, true)) else (none)) else (none)) else (none)) else (none)) else (some (a0, (⟨#[]⟩ : ByteArray), false)))) = some (r1, r2, r3) := h
  clear h
  replace H := bnd H
  obtain ⟨t101, A30, H⟩ := H
  have A3 := Aside0.mk A30
  clear A30
  by_cases c4 : t101 ≥ 0
  · rw [if_pos c4] at H
    have c4b0 : decide (0 ≤ t101) = true := decide_eq_true c4
    clear c4
    by_cases c5 : 0 ≤ t101
    · rw [if_pos c5] at H
      have c5b0 := eq_true c5
      have c5b1 := decide_eq_true c5
      clear c5
      by_cases c6 : t101 ≤ (a0.size : Int)
      · rw [if_pos c6] at H
        have c6b0 := eq_true c6
        have c6b1 := decide_eq_true c6
        clear c6
        obtain ⟨ji7, hji7⟩ : ∃ j_ : Int, (wrap64 (t101 + (a1.size : Int))) = j_ := ⟨_, rfl⟩
        replace H : (if 0 ≤ (ji7) then (if (ji7) ≤ (a0.size : Int) then (some (a0.extract 0 (t101 : Int).toNat, a0.extract ((ji7) : Int).toNat a0.size, true)) else (none)) else (none)) = some (r1, r2, r3) := by first | (rw [hji7] at H; exact H) | (simp only [hji7] at H ⊢; exact H)
        (try rw [hji7] at A3)
        have hji7w : (IntKind.i64.wrap (t101 + (a1.size : Int))) = ji7 := (i64_w _).trans hji7
        by_cases c8 : 0 ≤ (ji7)
        · rw [if_pos c8] at H
          have c8b0 := eq_true c8
          have c8b1 := decide_eq_true c8
          clear c8
          by_cases c9 : (ji7) ≤ (a0.size : Int)
          · rw [if_pos c9] at H
            have c9b0 := eq_true c9
            have c9b1 := decide_eq_true c9
            clear c9
            simp only [Option.some.injEq, Prod.mk.injEq] at H
            obtain ⟨rfl, rfl, rfl⟩ := H
            go_enter Tryd.func42, Tryd.ntmps42
            go_wp2_with (first | (go_at_call 54; (with_reducible refine (stringslite_Index.calls a0 a1 t101 _ A3.out).mono ?_); rintro e w' ⟨rfl, ⟨nd, rfl⟩⟩; (try first | exact ⟨rfl, _, World.drewN_drewN _ _ _⟩ | exact ⟨rfl, _, Eq.trans (World.drewN_drewN _ _ _) (congrArg (World.drewN _) (Nat.add_assoc _ _ _))⟩)))
            repeat (go_quiet (first | (go_at_call 54; (with_reducible refine (stringslite_Index.calls a0 a1 t101 _ A3.out).mono ?_); rintro e w' ⟨rfl, ⟨nd, rfl⟩⟩; (try first | exact ⟨rfl, _, World.drewN_drewN _ _ _⟩ | exact ⟨rfl, _, Eq.trans (World.drewN_drewN _ _ _) (congrArg (World.drewN _) (Nat.add_assoc _ _ _))⟩))); try go_wp2_with (first | (go_at_call 54; (with_reducible refine (stringslite_Index.calls a0 a1 t101 _ A3.out).mono ?_); rintro e w' ⟨rfl, ⟨nd, rfl⟩⟩; (try first | exact ⟨rfl, _, World.drewN_drewN _ _ _⟩ | exact ⟨rfl, _, Eq.trans (World.drewN_drewN _ _ _) (congrArg (World.drewN _) (Nat.add_assoc _ _ _))⟩))))
            go_ret3
            exact ⟨by first | rfl | (simp; done) | (simp only [← hji7] <;> (first | rfl | simp)) | (simp [*]; done), drz⟩
          · rw [if_neg c9] at H
            exact absurd H (by simp)
        · rw [if_neg c8] at H
          exact absurd H (by simp)
      · rw [if_neg c6] at H
        exact absurd H (by simp)
    · rw [if_neg c5] at H
      exact absurd H (by simp)
  · rw [if_neg c4] at H
    have c4b0 : decide (0 ≤ t101) = false := decide_eq_false c4
    clear c4
    simp only [Option.some.injEq, Prod.mk.injEq] at H
    obtain ⟨rfl, rfl, rfl⟩ := H
    go_enter Tryd.func42, Tryd.ntmps42
    go_wp2_with (first | (go_at_call 54; (with_reducible refine (stringslite_Index.calls a0 a1 t101 _ A3.out).mono ?_); rintro e w' ⟨rfl, ⟨nd, rfl⟩⟩; (try first | exact ⟨rfl, _, World.drewN_drewN _ _ _⟩ | exact ⟨rfl, _, Eq.trans (World.drewN_drewN _ _ _) (congrArg (World.drewN _) (Nat.add_assoc _ _ _))⟩)))
    repeat (go_quiet (first | (go_at_call 54; (with_reducible refine (stringslite_Index.calls a0 a1 t101 _ A3.out).mono ?_); rintro e w' ⟨rfl, ⟨nd, rfl⟩⟩; (try first | exact ⟨rfl, _, World.drewN_drewN _ _ _⟩ | exact ⟨rfl, _, Eq.trans (World.drewN_drewN _ _ _) (congrArg (World.drewN _) (Nat.add_assoc _ _ _))⟩))); try go_wp2_with (first | (go_at_call 54; (with_reducible refine (stringslite_Index.calls a0 a1 t101 _ A3.out).mono ?_); rintro e w' ⟨rfl, ⟨nd, rfl⟩⟩; (try first | exact ⟨rfl, _, World.drewN_drewN _ _ _⟩ | exact ⟨rfl, _, Eq.trans (World.drewN_drewN _ _ _) (congrArg (World.drewN _) (Nat.add_assoc _ _ _))⟩))))
    go_ret3
    exact ⟨eqs, drz⟩
def strings_Cut.f (a0 : ByteArray) (a1 : ByteArray) : Option (ByteArray × ByteArray × Bool) := (stringslite_Cut.f a0 a1).bind fun bt101 => (some (bt101.1, bt101.2.1, bt101.2.2))
set_option maxHeartbeats 8000000 in
set_option maxRecDepth 100000 in
theorem strings_Cut.calls (a0 : ByteArray) (a1 : ByteArray) (r1 : ByteArray) (r2 : ByteArray) (r3 : Bool) (w : World) (h : strings_Cut.f a0 a1 = some (r1, r2, r3)) :
    Calls Tryd.prog 18 #[.string a0, .string a1] w fun e w' => e = .returned (.tuple #[.string r1, .string r2, .bool r3]) ∧ Drawn0 w w' := by
  have H : ((stringslite_Cut.f a0 a1).bind fun bt101 => (some (bt101.1, bt101.2.1, bt101.2.2))) = some (r1, r2, r3) := h
  clear h
  replace H := bnd H
  obtain ⟨⟨t101, t102, t103⟩, A30, H⟩ := H
  replace H : (some (t101, t102, t103)) = some (r1, r2, r3) := H
  have A3 := Aside0.mk A30
  clear A30
  simp only [Option.some.injEq, Prod.mk.injEq] at H
  obtain ⟨rfl, rfl, rfl⟩ := H
  go_enter Tryd.func18, Tryd.ntmps18
  go_wp2_with (first | ((with_reducible refine gate_callee (f := 42) rfl ?_); refine goesL_ (some 9) rfl rfl Tryd.func42 (by kernel_rfl) rfl #[.string a0, .string a1] rfl arg ?_; (with_reducible refine (stringslite_Cut.calls a0 a1 t101 t102 t103 _ A3.out).mono ?_); rintro e w' ⟨rfl, ⟨nd, rfl⟩⟩; refine ⟨_, rfl, ?_⟩))
  go_ret3
  exact ⟨eqs, drz⟩
def words_Cents.f (k : Nat) (a0 : ByteArray) : Option (Int × Int) := (strings_CutPrefix.f a0 (⟨#[45]⟩ : ByteArray)).bind fun bt101 => ((strings_Cut.f bt101.1 (⟨#[46]⟩ : ByteArray)).bind fun bt103 => (if bt103.2.2 = true then ((words_plain.f k bt103.1).bind fun t106 => (if t106 = true then (if (bt103.2.1.size : Int) = 2 then ((words_digits.f k bt103.2.1).bind fun t107 => (if t107 = true then (if bt101.2 = true then (if bt101.1.toList = ([48, 46, 48, 48] : List UInt8) then (some (0, 5)) else (if bt103.1.size + bt103.2.1.size ≤ 9223372036854775807 then ((words_number.f k (bt103.1 ++ bt103.2.1) bt101.2).bind fun bt108 => (some (bt108.1, bt108.2))) else (none))) else (if bt103.1.size + bt103.2.1.size ≤ 9223372036854775807 then ((words_number.f k (bt103.1 ++ bt103.2.1) bt101.2).bind fun bt110 => (some (bt110.1, bt110.2))) else (none))) else (some (0, 5)))) else (some (0, 5))) else (some (0, 5)))) else (some (0, 5))))
set_option maxHeartbeats 8000000 in
set_option maxRecDepth 100000 in
theorem words_Cents.calls (k : Nat) (a0 : ByteArray) (r1 : Int) (r2 : Int) (w : World) (h : words_Cents.f k a0 = some (r1, r2)) :
    Calls Tryd.prog 7 #[.string a0] w fun e w' => e = .returned (.tuple #[.int .i64 r1, .int .i64 r2]) ∧ Drawn0 w w' := by
  have H : ((strings_CutPrefix.f a0 (⟨#[45]⟩ : ByteArray)).bind fun bt101 => ((strings_Cut.f bt101.1 (⟨#[46]⟩ : ByteArray)).bind fun bt103 => (if bt103.2.2 = true then ((words_plain.f k bt103.1).bind fun t106 => (if t106 = true then (if (bt103.2.1.size : Int) = 2 then ((words_digits.f k bt103.2.1).bind fun t107 => (if t107 = true then (if bt101.2 = true then (if bt101.1.toList = ([48, 46, 48, 48] : List UInt8) then (some (0, 5)) else (if bt103.1.size + bt103.2.1.size ≤ 9223372036854775807 then ((words_number.f k (bt103.1 ++ bt103.2.1) bt101.2).bind fun bt108 => (some (bt108.1, bt108.2))) else (none))) else (if bt103.1.size + bt103.2.1.size ≤ 9223372036854775807 then ((words_number.f k (bt103.1 ++ bt103.2.1) bt101.2).bind fun bt110 => (some (bt110.1, bt110.2))) else (none))) else (some (0, 5)))) else (some (0, 5))) else (some (0, 5)))) else (some (0, 5))))) = some (r1, r2) := h
  clear h
  replace H := bnd H
  obtain ⟨⟨t101, t102⟩, A20, H⟩ := H
  replace H : ((strings_Cut.f t101 (⟨#[46]⟩ : ByteArray)).bind fun bt103 => (if bt103.2.2 = true then ((words_plain.f k bt103.1).bind fun t106 => (if t106 = true then (if (bt103.2.1.size : Int) = 2 then ((words_digits.f k bt103.2.1).bind fun t107 => (if t107 = true then (if t102 = true then (if t101.toList = ([48, 46, 48, 48] : List UInt8) then (some (0, 5)) else (if bt103.1.size + bt103.2.1.size ≤ 9223372036854775807 then ((words_number.f k (bt103.1 ++ bt103.2.1) t102).bind fun bt108 => (some (bt108.1, bt108.2))) else (none))) else (if bt103.1.size + bt103.2.1.size ≤ 9223372036854775807 then ((words_number.f k (bt103.1 ++ bt103.2.1) t102).bind fun bt110 => (some (bt110.1, bt110.2))) else (none))) else (some (0, 5)))) else (some (0, 5))) else (some (0, 5)))) else (some (0, 5)))) = some (r1, r2) := H
  have A2 := Aside0.mk A20
  clear A20
  replace H := bnd H
  obtain ⟨⟨t103, t104, t105⟩, A30, H⟩ := H
  replace H : (if t105 = true then ((words_plain.f k t103).bind fun t106 => (if t106 = true then (if (t104.size : Int) = 2 then ((words_digits.f k t104).bind fun t107 => (if t107 = true then (if t102 = true then (if t101.toList = ([48, 46, 48, 48] : List UInt8) then (some (0, 5)) else (if t103.size + t104.size ≤ 9223372036854775807 then ((words_number.f k (t103 ++ t104) t102).bind fun bt108 => (some (bt108.1, bt108.2))) else (none))) else (if t103.size + t104.size ≤ 9223372036854775807 then ((words_number.f k (t103 ++ t104) t102).bind fun bt110 => (some (bt110.1, bt110.2))) else (none))) else (some (0, 5)))) else (some (0, 5))) else (some (0, 5)))) else (some (0, 5))) = some (r1, r2) := H
  have A3 := Aside0.mk A30
  clear A30
  by_cases c4 : t105 = true
  · subst c4
    rw [if_pos rfl] at H
    replace H := bnd H
    obtain ⟨t106, A50, H⟩ := H
    have A5 := Aside0.mk A50
    clear A50
    by_cases c6 : t106 = true
    · subst c6
      rw [if_pos rfl] at H
      by_cases c7 : (t104.size : Int) = 2
      · rw [if_pos c7] at H
        have c7b0 : ((t104.size : Int) == 2) = true := beq_iff_eq.mpr c7
        have c7b1 : ((t104.size : Int) != 2) = false := bne_eq_false_iff_eq.mpr c7
        clear c7
        replace H := bnd H
        obtain ⟨t107, A80, H⟩ := H
        have A8 := Aside0.mk A80
        clear A80
        by_cases c9 : t107 = true
        · subst c9
          rw [if_pos rfl] at H
          by_cases c10 : t102 = true
          · subst c10
            rw [if_pos rfl] at H
            go_enter Tryd.func7, Tryd.ntmps7
            go_wp2_with (first | ((with_reducible refine gate_callee (f := 17) rfl ?_); refine goesL_ (some 11) rfl rfl Tryd.func17 (by kernel_rfl) rfl #[.string a0, .string (⟨#[45]⟩ : ByteArray)] rfl arg ?_; (with_reducible refine (strings_CutPrefix.calls a0 (⟨#[45]⟩ : ByteArray) t101 true _ A2.out).mono ?_); rintro e w' ⟨rfl, ⟨nd, rfl⟩⟩; refine ⟨_, rfl, ?_⟩) | ((with_reducible refine gate_callee (f := 18) rfl ?_); refine goesL_ (some 16) rfl rfl Tryd.func18 (by kernel_rfl) rfl #[.string t101, .string (⟨#[46]⟩ : ByteArray)] rfl arg ?_; (with_reducible refine (strings_Cut.calls t101 (⟨#[46]⟩ : ByteArray) t103 t104 true _ A3.out).mono ?_); rintro e w' ⟨rfl, ⟨nd, rfl⟩⟩; refine ⟨_, rfl, ?_⟩) | (go_at_call 19; (with_reducible refine (words_plain.calls k t103 true _ A5.out).mono ?_); rintro e w' ⟨rfl, ⟨nd, rfl⟩⟩))
            by_cases c11 : t101.toList = ([48, 46, 48, 48] : List UInt8)
            · rw [if_pos c11] at H
              have c11b0 : (t101.toList == ([48, 46, 48, 48] : List UInt8)) = true := beq_iff_eq.mpr c11
              have c11b1 : (t101.toList != ([48, 46, 48, 48] : List UInt8)) = false := bne_eq_false_iff_eq.mpr c11
              clear c11
              simp only [Option.some.injEq, Prod.mk.injEq] at H
              obtain ⟨rfl, rfl⟩ := H
              go_wp2_with ((go_at_call 20; (with_reducible refine (words_digits.calls k t104 true _ A8.out).mono ?_); rintro e w' ⟨rfl, ⟨nd, rfl⟩⟩))
              go_ret2
              exact ⟨eqs, drz⟩
            · rw [if_neg c11] at H
              have c11b0 : (t101.toList == ([48, 46, 48, 48] : List UInt8)) = false := beq_eq_false_iff_ne.mpr c11
              have c11b1 : (t101.toList != ([48, 46, 48, 48] : List UInt8)) = true := bne_iff_ne.mpr c11
              by_cases c12 : t103.size + t104.size ≤ 9223372036854775807
              · rw [if_pos c12] at H
                have c12b0 := eq_true c12
                have c12b1 := decide_eq_true c12
                try have c12b2 : (9223372036854775807 < t103.size + t104.size) = False := eq_false (Nat.not_lt.2 c12)
                replace H := bnd H
                obtain ⟨⟨t108, t109⟩, A130, H⟩ := H
                replace H : (some (t108, t109)) = some (r1, r2) := H
                have A13 := Aside0.mk A130
                clear A130
                simp only [Option.some.injEq, Prod.mk.injEq] at H
                obtain ⟨rfl, rfl⟩ := H
                go_wp2_with (first | (go_at_call 20; (with_reducible refine (words_digits.calls k t104 true _ A8.out).mono ?_); rintro e w' ⟨rfl, ⟨nd, rfl⟩⟩) | ((with_reducible refine gate_callee (f := 21) rfl ?_); refine goesL_ (some 48) rfl rfl Tryd.func21 (by kernel_rfl) rfl #[.string (t103 ++ t104), .bool true] rfl arg ?_; (with_reducible refine (words_number.calls k (t103 ++ t104) true t108 t109 _ A13.out).mono ?_); rintro e w' ⟨rfl, ⟨nd, rfl⟩⟩; refine ⟨_, rfl, ?_⟩))
                go_ret2
                exact ⟨eqs, drz⟩
              · rw [if_neg c12] at H
                exact absurd H (by simp)
          · replace c10 := Bool.eq_false_iff.mpr c10
            subst c10
            rw [if_neg (show ¬ (false = true) by decide)] at H
            by_cases c14 : t103.size + t104.size ≤ 9223372036854775807
            · rw [if_pos c14] at H
              have c14b0 := eq_true c14
              have c14b1 := decide_eq_true c14
              try have c14b2 : (9223372036854775807 < t103.size + t104.size) = False := eq_false (Nat.not_lt.2 c14)
              replace H := bnd H
              obtain ⟨⟨t110, t111⟩, A150, H⟩ := H
              replace H : (some (t110, t111)) = some (r1, r2) := H
              have A15 := Aside0.mk A150
              clear A150
              simp only [Option.some.injEq, Prod.mk.injEq] at H
              obtain ⟨rfl, rfl⟩ := H
              go_enter Tryd.func7, Tryd.ntmps7
              go_wp2_with (first | ((with_reducible refine gate_callee (f := 17) rfl ?_); refine goesL_ (some 11) rfl rfl Tryd.func17 (by kernel_rfl) rfl #[.string a0, .string (⟨#[45]⟩ : ByteArray)] rfl arg ?_; (with_reducible refine (strings_CutPrefix.calls a0 (⟨#[45]⟩ : ByteArray) t101 false _ A2.out).mono ?_); rintro e w' ⟨rfl, ⟨nd, rfl⟩⟩; refine ⟨_, rfl, ?_⟩) | ((with_reducible refine gate_callee (f := 18) rfl ?_); refine goesL_ (some 16) rfl rfl Tryd.func18 (by kernel_rfl) rfl #[.string t101, .string (⟨#[46]⟩ : ByteArray)] rfl arg ?_; (with_reducible refine (strings_Cut.calls t101 (⟨#[46]⟩ : ByteArray) t103 t104 true _ A3.out).mono ?_); rintro e w' ⟨rfl, ⟨nd, rfl⟩⟩; refine ⟨_, rfl, ?_⟩) | (go_at_call 19; (with_reducible refine (words_plain.calls k t103 true _ A5.out).mono ?_); rintro e w' ⟨rfl, ⟨nd, rfl⟩⟩) | (go_at_call 20; (with_reducible refine (words_digits.calls k t104 true _ A8.out).mono ?_); rintro e w' ⟨rfl, ⟨nd, rfl⟩⟩) | ((with_reducible refine gate_callee (f := 21) rfl ?_); refine goesL_ (some 48) rfl rfl Tryd.func21 (by kernel_rfl) rfl #[.string (t103 ++ t104), .bool false] rfl arg ?_; (with_reducible refine (words_number.calls k (t103 ++ t104) false t110 t111 _ A15.out).mono ?_); rintro e w' ⟨rfl, ⟨nd, rfl⟩⟩; refine ⟨_, rfl, ?_⟩))
              go_ret2
              exact ⟨eqs, drz⟩
            · rw [if_neg c14] at H
              exact absurd H (by simp)
        · replace c9 := Bool.eq_false_iff.mpr c9
          subst c9
          rw [if_neg (show ¬ (false = true) by decide)] at H
          simp only [Option.some.injEq, Prod.mk.injEq] at H
          obtain ⟨rfl, rfl⟩ := H
          go_enter Tryd.func7, Tryd.ntmps7
          go_wp2_with (first | ((with_reducible refine gate_callee (f := 17) rfl ?_); refine goesL_ (some 11) rfl rfl Tryd.func17 (by kernel_rfl) rfl #[.string a0, .string (⟨#[45]⟩ : ByteArray)] rfl arg ?_; (with_reducible refine (strings_CutPrefix.calls a0 (⟨#[45]⟩ : ByteArray) t101 t102 _ A2.out).mono ?_); rintro e w' ⟨rfl, ⟨nd, rfl⟩⟩; refine ⟨_, rfl, ?_⟩) | ((with_reducible refine gate_callee (f := 18) rfl ?_); refine goesL_ (some 16) rfl rfl Tryd.func18 (by kernel_rfl) rfl #[.string t101, .string (⟨#[46]⟩ : ByteArray)] rfl arg ?_; (with_reducible refine (strings_Cut.calls t101 (⟨#[46]⟩ : ByteArray) t103 t104 true _ A3.out).mono ?_); rintro e w' ⟨rfl, ⟨nd, rfl⟩⟩; refine ⟨_, rfl, ?_⟩) | (go_at_call 19; (with_reducible refine (words_plain.calls k t103 true _ A5.out).mono ?_); rintro e w' ⟨rfl, ⟨nd, rfl⟩⟩) | (go_at_call 20; (with_reducible refine (words_digits.calls k t104 false _ A8.out).mono ?_); rintro e w' ⟨rfl, ⟨nd, rfl⟩⟩))
          go_ret2
          exact ⟨eqs, drz⟩
      · rw [if_neg c7] at H
        have c7b0 : ((t104.size : Int) == 2) = false := beq_eq_false_iff_ne.mpr c7
        have c7b1 : ((t104.size : Int) != 2) = true := bne_iff_ne.mpr c7
        simp only [Option.some.injEq, Prod.mk.injEq] at H
        obtain ⟨rfl, rfl⟩ := H
        go_enter Tryd.func7, Tryd.ntmps7
        go_wp2_with (first | ((with_reducible refine gate_callee (f := 17) rfl ?_); refine goesL_ (some 11) rfl rfl Tryd.func17 (by kernel_rfl) rfl #[.string a0, .string (⟨#[45]⟩ : ByteArray)] rfl arg ?_; (with_reducible refine (strings_CutPrefix.calls a0 (⟨#[45]⟩ : ByteArray) t101 t102 _ A2.out).mono ?_); rintro e w' ⟨rfl, ⟨nd, rfl⟩⟩; refine ⟨_, rfl, ?_⟩) | ((with_reducible refine gate_callee (f := 18) rfl ?_); refine goesL_ (some 16) rfl rfl Tryd.func18 (by kernel_rfl) rfl #[.string t101, .string (⟨#[46]⟩ : ByteArray)] rfl arg ?_; (with_reducible refine (strings_Cut.calls t101 (⟨#[46]⟩ : ByteArray) t103 t104 true _ A3.out).mono ?_); rintro e w' ⟨rfl, ⟨nd, rfl⟩⟩; refine ⟨_, rfl, ?_⟩) | (go_at_call 19; (with_reducible refine (words_plain.calls k t103 true _ A5.out).mono ?_); rintro e w' ⟨rfl, ⟨nd, rfl⟩⟩))
        go_ret2
        exact ⟨eqs, drz⟩
    · replace c6 := Bool.eq_false_iff.mpr c6
      subst c6
      rw [if_neg (show ¬ (false = true) by decide)] at H
      simp only [Option.some.injEq, Prod.mk.injEq] at H
      obtain ⟨rfl, rfl⟩ := H
      go_enter Tryd.func7, Tryd.ntmps7
      go_wp2_with (first | ((with_reducible refine gate_callee (f := 17) rfl ?_); refine goesL_ (some 11) rfl rfl Tryd.func17 (by kernel_rfl) rfl #[.string a0, .string (⟨#[45]⟩ : ByteArray)] rfl arg ?_; (with_reducible refine (strings_CutPrefix.calls a0 (⟨#[45]⟩ : ByteArray) t101 t102 _ A2.out).mono ?_); rintro e w' ⟨rfl, ⟨nd, rfl⟩⟩; refine ⟨_, rfl, ?_⟩) | ((with_reducible refine gate_callee (f := 18) rfl ?_); refine goesL_ (some 16) rfl rfl Tryd.func18 (by kernel_rfl) rfl #[.string t101, .string (⟨#[46]⟩ : ByteArray)] rfl arg ?_; (with_reducible refine (strings_Cut.calls t101 (⟨#[46]⟩ : ByteArray) t103 t104 true _ A3.out).mono ?_); rintro e w' ⟨rfl, ⟨nd, rfl⟩⟩; refine ⟨_, rfl, ?_⟩) | (go_at_call 19; (with_reducible refine (words_plain.calls k t103 false _ A5.out).mono ?_); rintro e w' ⟨rfl, ⟨nd, rfl⟩⟩))
      go_ret2
      exact ⟨eqs, drz⟩
  · replace c4 := Bool.eq_false_iff.mpr c4
    subst c4
    rw [if_neg (show ¬ (false = true) by decide)] at H
    simp only [Option.some.injEq, Prod.mk.injEq] at H
    obtain ⟨rfl, rfl⟩ := H
    go_enter Tryd.func7, Tryd.ntmps7
    go_wp2_with (first | ((with_reducible refine gate_callee (f := 17) rfl ?_); refine goesL_ (some 11) rfl rfl Tryd.func17 (by kernel_rfl) rfl #[.string a0, .string (⟨#[45]⟩ : ByteArray)] rfl arg ?_; (with_reducible refine (strings_CutPrefix.calls a0 (⟨#[45]⟩ : ByteArray) t101 t102 _ A2.out).mono ?_); rintro e w' ⟨rfl, ⟨nd, rfl⟩⟩; refine ⟨_, rfl, ?_⟩) | ((with_reducible refine gate_callee (f := 18) rfl ?_); refine goesL_ (some 16) rfl rfl Tryd.func18 (by kernel_rfl) rfl #[.string t101, .string (⟨#[46]⟩ : ByteArray)] rfl arg ?_; (with_reducible refine (strings_Cut.calls t101 (⟨#[46]⟩ : ByteArray) t103 t104 false _ A3.out).mono ?_); rintro e w' ⟨rfl, ⟨nd, rfl⟩⟩; refine ⟨_, rfl, ?_⟩))
    go_ret2
    exact ⟨eqs, drz⟩
mutual
def contangotop_TopMoneyBack.j0 : Nat → List (S32) → Int → Int → Int → Bool → Option (Bool)
  | 0, _, _, _, _, _ => none
  | k + 1, x0, x1, x7, x8, x42 => if x42 = true then ((contangotop_goes06.f k).bind fun t103 => (some t103)) else ((rate_Convert.f k x0 x1 x7 x8 5).bind fun bt104 => (if bt104.2 = 0 then ((words_Money.f bt104.1).bind fun t107 => ((words_Cents.f k t107).bind fun bt108 => ((rate_Convert.f k x0 bt104.1 x8 x7 5).bind fun bt110 => (if bt108.1 = bt104.1 then (contangotop_TopMoneyBack.j1 k x0 x1 x7 x8 bt110.1 bt110.2 (bt108.2 != 0)) else (contangotop_TopMoneyBack.j1 k x0 x1 x7 x8 bt110.1 bt110.2 true))))) else (if bt104.1 = 0 then ((contangotop_goes06.f k).bind fun t106 => (some t106)) else (none))))
def contangotop_TopMoneyBack.j1 : Nat → List (S32) → Int → Int → Int → Int → Int → Bool → Option (Bool)
  | 0, _, _, _, _, _, _, _ => none
  | k + 1, x0, x1, x7, x8, x13, x14, x79 => if x79 = true then (none) else (if x14 = 0 then (if 0 ≤ x7 then (if x7 < (x0.length : Int) then (if 0 ≤ x8 then (if x8 < (x0.length : Int) then (if (wrap64 (2 * ((rd_T32 x0 x7).f1))) = 0 then (none) else (if (mx (wrap64 (x13 - x1)) (wrap64 (x1 - x13))) ≤ (wrap64 (Int.tdiv (wrap64 (((rd_T32 x0 x7).f1) + ((rd_T32 x0 x8).f1))) (wrap64 (2 * ((rd_T32 x0 x7).f1))))) then ((contangotop_goes06.f k).bind fun t115 => (some t115)) else (none))) else (none)) else (none)) else (none)) else (none)) else (if x14 = 3 then ((contangotop_goes06.f k).bind fun t116 => (some t116)) else (none)))
end
def contangotop_TopMoneyBack.f (k : Nat) (l0 : List (S32)) (a1 : Int) (a2_0 : Int) (a2_1 : Int) : Option (Bool) := (rate_Check.f k l0).bind fun t102 => (if t102 = 0 then (if a2_0 < 0 then (contangotop_TopMoneyBack.j0 k l0 a1 a2_0 a2_1 true) else (if a2_1 < 0 then (contangotop_TopMoneyBack.j0 k l0 a1 a2_0 a2_1 true) else (if a2_0 ≥ (l0.length : Int) then (contangotop_TopMoneyBack.j0 k l0 a1 a2_0 a2_1 true) else (contangotop_TopMoneyBack.j0 k l0 a1 a2_0 a2_1 (decide (a2_1 ≥ (l0.length : Int))))))) else (contangotop_TopMoneyBack.j0 k l0 a1 a2_0 a2_1 true))
def contangotop_TopMoneyBack.T14 : Bool × List (List Nat × List Nat) := (true, [([], []), ([], []), ([], []), ([1, 2], [1, 2]), ([3], [3]), ([4], [4]), ([], []), ([], []), ([6, 7], [6, 7]), ([8], [8]), ([9], [9]), ([5, 10], [5, 10]), ([], []), ([], []), ([12, 13], [12, 13]), ([14], [14]), ([15], [15]), ([16], [16]), ([11, 17], [11, 17]), ([0, 18], [0, 18]), ([19], [19]), ([20, 20], [20]), ([20, 21], [20, 21]), ([22, 21, 0, 1, 2, 3, 4, 5, 6, 7, 8, 9, 10, 11, 12, 13, 14, 15, 16, 17, 18, 19, 20, 21, 22], [22])])
def contangotop_TopMoneyBack.B14 : List Nat := [0, 0, 0, 6, 14, 30, 0, 0, 192, 448, 960, 2046, 0, 0, 12288, 28672, 61440, 126976, 262142, 524287, 1048575, 2097151, 4194303, 8388607]
theorem contangotop_TopMoneyBack.tab14 : rtab .any (opsOf Tryd.f3 14) = contangotop_TopMoneyBack.T14 := by kernel_rfl
theorem contangotop_TopMoneyBack.bits14 : waitsOk contangotop_TopMoneyBack.T14.2 contangotop_TopMoneyBack.B14 = true := by kernel_rfl
set_option maxHeartbeats 8000000 in
set_option maxRecDepth 100000 in
theorem contangotop_TopMoneyBack.calls (k : Nat) (A0 : Option Addr) (c0 : Nat) (l0 : List (S32)) (a1 : Int) (a2_0 : Int) (a2_1 : Int) (r : Bool) (w : World) (hr0 : Kd.C k32 w A0 l0.length l0) (hc0 : l0.length ≤ c0) (h : contangotop_TopMoneyBack.f k l0 a1 a2_0 a2_1 = some r) (hGL : GlobD w) :
    Calls Tryd.prog 3 #[.slice A0 l0.length c0, .int .i64 a1, .agg #[.int .i64 a2_0, .int .i64 a2_1]] w fun e w' => e = .returned (.bool r) ∧ Below w.heap.size w w' := by
  have hu23 := Tryd.underlying23
  have HR0 := Aside0.mk hr0
  have HC0 := Aside0.mk hc0
  clear hr0 hc0
  have HB := Aside0.mk (Below.refl w.heap.size w)
  have HGL := Aside0.mk hGL
  clear hGL
  have H : ((rate_Check.f k l0).bind fun t102 => (if t102 = 0 then (if a2_0 < 0 then (contangotop_TopMoneyBack.j0 k l0 a1 a2_0 a2_1 true) else (if a2_1 < 0 then (contangotop_TopMoneyBack.j0 k l0 a1 a2_0 a2_1 true) else (if a2_0 ≥ (l0.length : Int) then (contangotop_TopMoneyBack.j0 k l0 a1 a2_0 a2_1 true) else (contangotop_TopMoneyBack.j0 k l0 a1 a2_0 a2_1 (decide (a2_1 ≥ (l0.length : Int))))))) else (contangotop_TopMoneyBack.j0 k l0 a1 a2_0 a2_1 true))) = some r := h
  clear h
  have HC4 := Aside0.mk H
  clear H
  go_enter Tryd.func3, Tryd.ntmps3
  try go_wp2_with (first | ((with_reducible refine gate_dst (N := 5) rfl ?_); (try (refine gate_guard (by rfl) ?_; dsimp only)); refine box_event ?hg (N := 5) ?hd (cs := #[.int .i64 a2_0, .int .i64 a2_1]) (t := 23) ?hr ?_; (case hd => rfl); (case hg => rfl); (case hr => first | (go_simp; done) | (go_simp; rfl)); intro gb101 hg w5 hbox hb; have BK101 := Aside0.mk (hbox); have GW101 := Aside0.mk ((gsz hg : w.heap.size ≤ gb101)); have GE101 := Aside0.mk ((gsz hg : w.heap.size ≤ gb101)); replace HB := Aside0.mk (below_step bel hb); clear hb hbox hg))
  have n0_ := Aside0.mk (blk_drew BK101.out)
  have n1_ := Aside0.mk (below_drew1 HB.out)
  clear BK101
  clear HB
  have BK101 := n0_
  have HB := n1_
  clear n0_ n1_
  refine start_ (n := 6) (S := fun w' => w'.cell? ⟨gb101, 0, none⟩ = some (.int .i64 a2_0) ∧ w'.cell? ⟨gb101, 1, none⟩ = some (.int .i64 a2_1)) (ds := []) #[false, false, false, false, false, false] (by kernel_rfl) rfl rfl ⟨(blk_cell BK101.out 0).trans rfl, (blk_cell BK101.out 1).trans rfl⟩ (fun hHeld => ?_)
  generalize w5.drew = w6 at BK101 HB hHeld ⊢
  refine pure_ (i := 0) (N := some 16) (v := ?_) (a' := ?_) #[true, false, false, false, false, false] rfl rfl (by kernel_rfl) (fun _ _ _ h => h) (Or.inl ⟨by rfl, ?_⟩) ?_ ?_
  rotate_left
  · intro w'
    go_simp
    with_reducible rfl
  rotate_left
  · simp only [Act.put, List.setIfInBounds_toArray, List.set_cons_zero, List.set_cons_succ, i64_w, i32_w]
    rfl
  refine pure_ (i := 2) (N := some 18) (v := ?_) (a' := ?_) #[true, false, true, false, false, false] rfl rfl (by kernel_rfl) (fun _ _ _ h => h) (Or.inl ⟨by rfl, ?_⟩) ?_ ?_
  rotate_left
  · intro w'
    go_simp
    with_reducible rfl
  rotate_left
  · simp only [Act.put, List.setIfInBounds_toArray, List.set_cons_zero, List.set_cons_succ, i64_w, i32_w]
    rfl
  refine take_ (i := 1) (N := some 17) (v := ?_) (a' := ?_) #[true, true, true, false, false, false] rfl rfl (by kernel_rfl) (fun _ _ _ h => h) (Or.inl ⟨by rfl, ?_⟩) hHeld ?_ ?_
  rotate_left
  · rintro w' ⟨s0, s1⟩
    go_simp
    with_reducible rfl
  rotate_left
  · simp only [Act.put, List.setIfInBounds_toArray, List.set_cons_zero, List.set_cons_succ, i64_w, i32_w]
    rfl
  refine pure_ (i := 4) (N := some 7) (v := ?_) (a' := ?_) #[true, true, true, false, true, false] rfl rfl (by kernel_rfl) (fun _ _ _ h => h) (Or.inl ⟨by rfl, ?_⟩) ?_ ?_
  rotate_left
  · intro w'
    go_simp
    with_reducible rfl
  rotate_left
  · simp only [Act.put, List.setIfInBounds_toArray, List.set_cons_zero, List.set_cons_succ, i64_w, i32_w]
    rfl
  refine take_ (i := 3) (N := some 19) (v := ?_) (a' := ?_) #[true, true, true, true, true, false] rfl rfl (by kernel_rfl) (fun _ _ _ h => h) (Or.inl ⟨by rfl, ?_⟩) hHeld ?_ ?_
  rotate_left
  · rintro w' ⟨s0, s1⟩
    go_simp
    with_reducible rfl
  rotate_left
  · simp only [Act.put, List.setIfInBounds_toArray, List.set_cons_zero, List.set_cons_succ, i64_w, i32_w]
    rfl
  refine pure_ (i := 5) (N := some 8) (v := ?_) (a' := ?_) #[true, true, true, true, true, true] rfl rfl (by kernel_rfl) (fun _ _ _ h => h) (Or.inl ⟨by rfl, ?_⟩) ?_ ?_
  rotate_left
  · intro w'
    go_simp
    with_reducible rfl
  rotate_left
  · simp only [Act.put, List.setIfInBounds_toArray, List.set_cons_zero, List.set_cons_succ, i64_w, i32_w]
    rfl
  refine done_ (by kernel_rfl) ?_
  go_upto_region 2 with (fail)
  go_cut [42] (fun v42 wc => ∃ (kq : Nat) (x42_3 : Bool), v42 = .bool x42_3 ∧ Aside0 (contangotop_TopMoneyBack.j0 kq l0 a1 a2_0 a2_1 x42_3 = some r) ∧ Aside0 (kq ≤ k) ∧ Aside0 (wc.heap[gb101]? = some (.cells #[.int .i64 a2_0, .int .i64 a2_1] 23 (0, 0))) ∧ Aside0 (Below w.heap.size w wc))
  case first =>
    have H := HC4.out
    clear HC4
    replace H := bnd H
    obtain ⟨t102, A70, H⟩ := H
    have A7 := Aside0.mk A70
    clear A70
    by_cases c8 : t102 = 0
    · rw [if_pos c8] at H
      have c8b0 : (t102 == 0) = true := beq_iff_eq.mpr c8
      have c8b1 : (t102 != 0) = false := bne_eq_false_iff_eq.mpr c8
      clear c8
      (first | rw [c8b0] | (simp only [i64_w, i32_w]; rw [c8b0]) | skip)
      by_cases c9 : a2_0 < 0
      · rw [if_pos c9] at H
        have c9b0 := decide_eq_true c9
        clear c9
        have H' := Aside0.mk H
        clear H
        go_wp2_with (first | ((with_reducible refine gate_callee (f := 4) rfl ?_); refine goesL_ (some 21) rfl rfl Tryd.func4 (by kernel_rfl) rfl #[.slice A0 l0.length c0] rfl arg ?_; (with_reducible refine (rate_Check.calls k _ _ l0 t102 _ ?side1 ?side2 A7.out).mono ?_); (case side1 => repeat (first | exact (Kd.C_below HR0.out HB.out) | (with_reducible refine Kd.C_alloc ?_ _) | (with_reducible refine Kd.C_drewN ?_ _) | (with_reducible refine Kd.C_drew ?_))); (case side2 => exact HC0.out); rintro e w10 ⟨rfl, hb⟩; refine ⟨_, rfl, ?_⟩; replace BK101 := Aside0.mk (blk_below (g := gb101) (bw BK101.out) hb); replace HB := Aside0.mk (below_step bel hb); (try clear hb); (try clear hb2); (try clear hk); (try clear hi)))
        go_meet
        case rel => exact ⟨_, (true), eqs, H', ⟨by first | omega | exact Nat.le_refl _⟩, ⟨bw BK101.out⟩, ⟨bel⟩⟩
      · rw [if_neg c9] at H
        have c9b0 := decide_eq_false c9
        clear c9
        by_cases c11 : a2_1 < 0
        · rw [if_pos c11] at H
          have c11b0 := decide_eq_true c11
          clear c11
          have H' := Aside0.mk H
          clear H
          go_wp2_with (first | ((with_reducible refine gate_callee (f := 4) rfl ?_); refine goesL_ (some 21) rfl rfl Tryd.func4 (by kernel_rfl) rfl #[.slice A0 l0.length c0] rfl arg ?_; (with_reducible refine (rate_Check.calls k _ _ l0 t102 _ ?side1 ?side2 A7.out).mono ?_); (case side1 => repeat (first | exact (Kd.C_below HR0.out HB.out) | (with_reducible refine Kd.C_alloc ?_ _) | (with_reducible refine Kd.C_drewN ?_ _) | (with_reducible refine Kd.C_drew ?_))); (case side2 => exact HC0.out); rintro e w12 ⟨rfl, hb⟩; refine ⟨_, rfl, ?_⟩; replace BK101 := Aside0.mk (blk_below (g := gb101) (bw BK101.out) hb); replace HB := Aside0.mk (below_step bel hb); (try clear hb); (try clear hb2); (try clear hk); (try clear hi)))
          go_meet
          case rel => exact ⟨_, (true), eqs, H', ⟨by first | omega | exact Nat.le_refl _⟩, ⟨bw BK101.out⟩, ⟨bel⟩⟩
        · rw [if_neg c11] at H
          have c11b0 := decide_eq_false c11
          clear c11
          by_cases c13 : a2_0 ≥ (l0.length : Int)
          · rw [if_pos c13] at H
            have c13b0 : decide ((l0.length : Int) ≤ a2_0) = true := decide_eq_true c13
            clear c13
            have H' := Aside0.mk H
            clear H
            go_wp2_with (first | ((with_reducible refine gate_callee (f := 4) rfl ?_); refine goesL_ (some 21) rfl rfl Tryd.func4 (by kernel_rfl) rfl #[.slice A0 l0.length c0] rfl arg ?_; (with_reducible refine (rate_Check.calls k _ _ l0 t102 _ ?side1 ?side2 A7.out).mono ?_); (case side1 => repeat (first | exact (Kd.C_below HR0.out HB.out) | (with_reducible refine Kd.C_alloc ?_ _) | (with_reducible refine Kd.C_drewN ?_ _) | (with_reducible refine Kd.C_drew ?_))); (case side2 => exact HC0.out); rintro e w14 ⟨rfl, hb⟩; refine ⟨_, rfl, ?_⟩; replace BK101 := Aside0.mk (blk_below (g := gb101) (bw BK101.out) hb); replace HB := Aside0.mk (below_step bel hb); (try clear hb); (try clear hb2); (try clear hk); (try clear hi)))
            go_meet
            case rel => exact ⟨_, (true), eqs, H', ⟨by first | omega | exact Nat.le_refl _⟩, ⟨bw BK101.out⟩, ⟨bel⟩⟩
          · rw [if_neg c13] at H
            have c13b0 : decide ((l0.length : Int) ≤ a2_0) = false := decide_eq_false c13
            clear c13
            have H' := Aside0.mk H
            clear H
            go_wp2_with (first | ((with_reducible refine gate_callee (f := 4) rfl ?_); refine goesL_ (some 21) rfl rfl Tryd.func4 (by kernel_rfl) rfl #[.slice A0 l0.length c0] rfl arg ?_; (with_reducible refine (rate_Check.calls k _ _ l0 t102 _ ?side1 ?side2 A7.out).mono ?_); (case side1 => repeat (first | exact (Kd.C_below HR0.out HB.out) | (with_reducible refine Kd.C_alloc ?_ _) | (with_reducible refine Kd.C_drewN ?_ _) | (with_reducible refine Kd.C_drew ?_))); (case side2 => exact HC0.out); rintro e w15 ⟨rfl, hb⟩; refine ⟨_, rfl, ?_⟩; replace BK101 := Aside0.mk (blk_below (g := gb101) (bw BK101.out) hb); replace HB := Aside0.mk (below_step bel hb); (try clear hb); (try clear hb2); (try clear hk); (try clear hi)))
            go_meet
            case rel => exact ⟨_, (decide (a2_1 ≥ (l0.length : Int))), eqs, H', ⟨by first | omega | exact Nat.le_refl _⟩, ⟨bw BK101.out⟩, ⟨bel⟩⟩
    · rw [if_neg c8] at H
      have c8b0 : (t102 == 0) = false := beq_eq_false_iff_ne.mpr c8
      have c8b1 : (t102 != 0) = true := bne_iff_ne.mpr c8
      (first | rw [c8b0] | (simp only [i64_w, i32_w]; rw [c8b0]) | skip)
      have H' := Aside0.mk H
      clear H
      go_wp2_with (first | ((with_reducible refine gate_callee (f := 4) rfl ?_); refine goesL_ (some 21) rfl rfl Tryd.func4 (by kernel_rfl) rfl #[.slice A0 l0.length c0] rfl arg ?_; (with_reducible refine (rate_Check.calls k _ _ l0 t102 _ ?side1 ?side2 A7.out).mono ?_); (case side1 => repeat (first | exact (Kd.C_below HR0.out HB.out) | (with_reducible refine Kd.C_alloc ?_ _) | (with_reducible refine Kd.C_drewN ?_ _) | (with_reducible refine Kd.C_drew ?_))); (case side2 => exact HC0.out); rintro e w16 ⟨rfl, hb⟩; refine ⟨_, rfl, ?_⟩; replace BK101 := Aside0.mk (blk_below (g := gb101) (bw BK101.out) hb); replace HB := Aside0.mk (below_step bel hb); (try clear hb); (try clear hb2); (try clear hk); (try clear hi)))
      go_meet
      case rel => exact ⟨_, (true), eqs, H', ⟨by first | omega | exact Nat.le_refl _⟩, ⟨bw BK101.out⟩, ⟨bel⟩⟩
  case rest =>
    clear HC4
    try clear c1
    try clear p2
    try clear c3
    try clear c4
    try clear c8
    try clear c8b0
    try clear c8b1
    try clear c9
    try clear c9b0
    try clear c11
    try clear c11b0
    try clear c13
    try clear c13b0
    obtain ⟨kq, x42_3, rfl, HA, HJ3, BK101, HB⟩ := hcut
    cases kq with
    | zero => exact absurd HA.out (by simp [contangotop_TopMoneyBack.j0])
    | succ kj3 =>
      have H := HA.out
      clear HA
      simp only [contangotop_TopMoneyBack.j0] at H
      by_cases c17 : x42_3 = true
      · subst c17
        rw [if_pos rfl] at H
        replace H := bnd H
        obtain ⟨t103, A180, H⟩ := H
        have A18 := Aside0.mk A180
        clear A180
        obtain rfl := Option.some.inj H
        go_wp2_with (first | ((with_reducible refine gate_callee (f := 5) rfl ?_); refine goesL_ (some 43) rfl rfl Tryd.func5 (by kernel_rfl) rfl #[] rfl arg ?_; (with_reducible refine (contangotop_goes06.calls kj3  t103 _ A18.out (glob_of HGL.out bel)).mono ?_); rintro e w19 ⟨rfl, hb⟩; refine ⟨_, rfl, ?_⟩; replace BK101 := Aside0.mk (blk_below (g := gb101) (bw BK101.out) hb); replace HB := Aside0.mk (below_step bel hb); (try clear hb); (try clear hb2); (try clear hk); (try clear hi)))
        go_ret
        exact ⟨ers, bel⟩
      · replace c17 := Bool.eq_false_iff.mpr c17
        subst c17
        rw [if_neg (show ¬ (false = true) by decide)] at H
        replace H := bnd H
        obtain ⟨⟨t104, t105⟩, A200, H⟩ := H
        replace H : (if t105 = 0 then ((words_Money.f t104).bind fun t107 => ((words_Cents.f kj3 t107).bind fun bt108 => ((rate_Convert.f kj3 l0 t104 a2_1 a2_0 5).bind fun bt110 => (if bt108.1 = t104 then (contangotop_TopMoneyBack.j1 kj3 l0 a1 a2_0 a2_1 bt110.1 bt110.2 (bt108.2 != 0)) else (contangotop_TopMoneyBack.j1 kj3 l0 a1 a2_0 a2_1 bt110.1 bt110.2 true))))) else (if t104 = 0 then ((contangotop_goes06.f kj3).bind fun t106 => (some t106)) else (none))) = some r := H
        have A20 := Aside0.mk A200
        clear A200
        by_cases c21 : t105 = 0
        · rw [if_pos c21] at H
          have c21b0 : (t105 == 0) = true := beq_iff_eq.mpr c21
          have c21b1 : (t105 != 0) = false := bne_eq_false_iff_eq.mpr c21
          clear c21
          replace H := bnd H
          obtain ⟨t107, A220, H⟩ := H
          have A22 := Aside0.mk A220
          clear A220
          replace H := bnd H
          obtain ⟨⟨t108, t109⟩, A230, H⟩ := H
          replace H : ((rate_Convert.f kj3 l0 t104 a2_1 a2_0 5).bind fun bt110 => (if t108 = t104 then (contangotop_TopMoneyBack.j1 kj3 l0 a1 a2_0 a2_1 bt110.1 bt110.2 (t109 != 0)) else (contangotop_TopMoneyBack.j1 kj3 l0 a1 a2_0 a2_1 bt110.1 bt110.2 true))) = some r := H
          have A23 := Aside0.mk A230
          clear A230
          replace H := bnd H
          obtain ⟨⟨t110, t111⟩, A240, H⟩ := H
          replace H : (if t108 = t104 then (contangotop_TopMoneyBack.j1 kj3 l0 a1 a2_0 a2_1 t110 t111 (t109 != 0)) else (contangotop_TopMoneyBack.j1 kj3 l0 a1 a2_0 a2_1 t110 t111 true)) = some r := H
          have A24 := Aside0.mk A240
          clear A240
          have HC25 := Aside0.mk H
          clear H
          go_upto_region 9 with (first | ((with_reducible refine gate_callee (f := 6) rfl ?_); refine goesL_ (some 49) rfl rfl Tryd.func6 (by kernel_rfl) rfl #[.slice A0 l0.length c0, .int .i64 a1, .int .i64 a2_0, .int .i64 a2_1, .int .i64 5] rfl arg ?_; (with_reducible refine (rate_Convert.calls kj3 _ _ l0 a1 a2_0 a2_1 5 t104 t105 _ ?side1 ?side2 A20.out).mono ?_); (case side1 => repeat (first | exact (Kd.C_below HR0.out HB.out) | (with_reducible refine Kd.C_alloc ?_ _) | (with_reducible refine Kd.C_drewN ?_ _) | (with_reducible refine Kd.C_drew ?_))); (case side2 => exact HC0.out); rintro e w26 ⟨rfl, hb⟩; refine ⟨_, rfl, ?_⟩; replace BK101 := Aside0.mk (blk_below (g := gb101) (bw BK101.out) hb); replace HB := Aside0.mk (below_step bel hb); (try clear hb); (try clear hb2); (try clear hk); (try clear hi)) | ((with_reducible refine gate_callee (f := 8) rfl ?_); refine goesL_ (some 61) rfl rfl Tryd.func8 (by kernel_rfl) rfl #[.int .i64 t104] rfl arg ?_; (with_reducible refine (words_Money.calls t104 t107 _ A22.out).mono ?_); rintro e w27 ⟨rfl, hb⟩; refine ⟨_, rfl, ?_⟩; replace BK101 := Aside0.mk (blk_below (g := gb101) (bw BK101.out) hb); replace HB := Aside0.mk (below_step bel hb); (try clear hb); (try clear hb2); (try clear hk); (try clear hi)) | ((with_reducible refine gate_callee (f := 7) rfl ?_); refine goesL_ (some 62) rfl rfl Tryd.func7 (by kernel_rfl) rfl #[.string t107] rfl arg ?_; (with_reducible refine (words_Cents.calls kj3 t107 t108 t109 _ A23.out).mono ?_); rintro e w' ⟨rfl, ⟨nd, rfl⟩⟩; refine ⟨_, rfl, ?_⟩) | ((with_reducible refine gate_callee (f := 6) rfl ?_); refine goesL_ (some 70) rfl rfl Tryd.func6 (by kernel_rfl) rfl #[.slice A0 l0.length c0, .int .i64 t104, .int .i64 a2_1, .int .i64 a2_0, .int .i64 5] rfl arg ?_; (with_reducible refine (rate_Convert.calls kj3 _ _ l0 t104 a2_1 a2_0 5 t110 t111 _ ?side1 ?side2 A24.out).mono ?_); (case side1 => repeat (first | exact (Kd.C_below HR0.out bel) | (with_reducible refine Kd.C_alloc ?_ _) | (with_reducible refine Kd.C_drewN ?_ _) | (with_reducible refine Kd.C_drew ?_))); (case side2 => exact HC0.out); rintro e w28 ⟨rfl, hb⟩; refine ⟨_, rfl, ?_⟩; replace BK101 := Aside0.mk (blk_below (g := gb101) (bw BK101.out) hb); replace HB := Aside0.mk (below_step bel hb); (try clear hb); (try clear hb2); (try clear hk); (try clear hi)))
          (try simp only [Act.put, List.setIfInBounds_toArray, List.set_cons_zero, List.set_cons_succ])
          go_cut [79] (fun v79 wc => ∃ (kq : Nat) (x79_24 : Bool), v79 = .bool x79_24 ∧ Aside0 (contangotop_TopMoneyBack.j1 kq l0 a1 a2_0 a2_1 t110 t111 x79_24 = some r) ∧ Aside0 (kq ≤ kj3) ∧ Aside0 (wc.heap[gb101]? = some (.cells #[.int .i64 a2_0, .int .i64 a2_1] 23 (0, 0))) ∧ Aside0 (Below w.heap.size w wc))
          case first =>
            have H := HC25.out
            clear HC25
            by_cases c29 : t108 = t104
            · rw [if_pos c29] at H
              have c29b0 : (t108 == t104) = true := beq_iff_eq.mpr c29
              have c29b1 : (t108 != t104) = false := bne_eq_false_iff_eq.mpr c29
              clear c29
              (first | rw [c29b0] | (simp only [i64_w, i32_w]; rw [c29b0]) | skip)
              have H' := Aside0.mk H
              clear H
              go_wp2
              go_meet
              case rel => exact ⟨_, ((t109 != 0)), eqs, H', ⟨by have := HJ3.out; first | omega | exact Nat.le_refl _⟩, ⟨bw BK101.out⟩, ⟨bel⟩⟩
            · rw [if_neg c29] at H
              have c29b0 : (t108 == t104) = false := beq_eq_false_iff_ne.mpr c29
              have c29b1 : (t108 != t104) = true := bne_iff_ne.mpr c29
              (first | rw [c29b0] | (simp only [i64_w, i32_w]; rw [c29b0]) | skip)
              have H' := Aside0.mk H
              clear H
              go_wp2
              go_meet
              case rel => exact ⟨_, (true), eqs, H', ⟨by have := HJ3.out; first | omega | exact Nat.le_refl _⟩, ⟨bw BK101.out⟩, ⟨bel⟩⟩
          case rest =>
            clear HC25
            try clear c1
            try clear c2
            try clear p2
            try clear c3
            try clear c4
            try clear c5
            try clear c6
            try clear c7
            try clear c8
            try clear c8b0
            try clear c8b1
            try clear c9
            try clear c9b0
            try clear c11
            try clear c11b0
            try clear c13
            try clear c13b0
            try clear c17
            try clear c21
            try clear c21b0
            try clear c21b1
            try clear c29
            try clear c29b0
            try clear c29b1
            try clear p2
            obtain ⟨kq, x79_24, rfl, HA, HJ24, BK101, HB⟩ := hcut
            cases kq with
            | zero => exact absurd HA.out (by simp [contangotop_TopMoneyBack.j1])
            | succ kj24 =>
              have H := HA.out
              clear HA
              simp only [contangotop_TopMoneyBack.j1] at H
              by_cases c30 : x79_24 = true
              · subst c30
                rw [if_pos rfl] at H
                exact absurd H (by simp)
              · replace c30 := Bool.eq_false_iff.mpr c30
                subst c30
                rw [if_neg (show ¬ (false = true) by decide)] at H
                by_cases c31 : t111 = 0
                · rw [if_pos c31] at H
                  have c31b0 : (t111 == 0) = true := beq_iff_eq.mpr c31
                  have c31b1 : (t111 != 0) = false := bne_eq_false_iff_eq.mpr c31
                  clear c31
                  obtain ⟨ji32, hji32⟩ : ∃ j_ : Int, (mx (wrap64 (t110 - a1)) (wrap64 (a1 - t110))) = j_ := ⟨_, rfl⟩
                  replace H : (if 0 ≤ a2_0 then (if a2_0 < (l0.length : Int) then (if 0 ≤ a2_1 then (if a2_1 < (l0.length : Int) then (if (wrap64 (2 * ((rd_T32 l0 a2_0).f1))) = 0 then (none) else (if (ji32) ≤ (wrap64 (Int.tdiv (wrap64 (((rd_T32 l0 a2_0).f1) + ((rd_T32 l0 a2_1).f1))) (wrap64 (2 * ((rd_T32 l0 a2_0).f1))))) then ((contangotop_goes06.f kj24).bind fun t115 => (some t115)) else (none))) else (none)) else (none)) else (none)) else (none)) = some r := by first | (rw [hji32] at H; exact H) | (simp only [hji32] at H ⊢; exact H)
                  have hji32_ : (if (wrap64 (t110 - a1)) < (wrap64 (a1 - t110)) then (wrap64 (a1 - t110)) else (wrap64 (t110 - a1))) = ji32 := hji32
                  by_cases c33 : 0 ≤ a2_0
                  · rw [if_pos c33] at H
                    have c33b0 := decide_eq_true c33
                    clear c33
                    by_cases c34 : a2_0 < (l0.length : Int)
                    · rw [if_pos c34] at H
                      have c34b0 := decide_eq_true c34
                      clear c34
                      by_cases c35 : 0 ≤ a2_1
                      · rw [if_pos c35] at H
                        have c35b0 := decide_eq_true c35
                        clear c35
                        by_cases c36 : a2_1 < (l0.length : Int)
                        · rw [if_pos c36] at H
                          have c36b0 := decide_eq_true c36
                          clear c36
                          by_cases c37 : (wrap64 (2 * ((rd_T32 l0 a2_0).f1))) = 0
                          · rw [if_pos c37] at H
                            exact absurd H (by simp)
                          · rw [if_neg c37] at H
                            have c37b0 : ((wrap64 (2 * ((rd_T32 l0 a2_0).f1))) == 0) = false := beq_eq_false_iff_ne.mpr c37
                            have c37b1 : ((wrap64 (2 * ((rd_T32 l0 a2_0).f1))) != 0) = true := bne_iff_ne.mpr c37
                            by_cases c38 : (ji32) ≤ (wrap64 (Int.tdiv (wrap64 (((rd_T32 l0 a2_0).f1) + ((rd_T32 l0 a2_1).f1))) (wrap64 (2 * ((rd_T32 l0 a2_0).f1)))))
                            · rw [if_pos c38] at H
                              have c38b0 := decide_eq_true c38
                              clear c38
                              replace H := bnd H
                              obtain ⟨t115, A390, H⟩ := H
                              have A39 := Aside0.mk A390
                              clear A390
                              obtain rfl := Option.some.inj H
                              try go_wp2
                              have n0_ := Aside0.mk (blk_drew BK101.out)
                              have n1_ := Aside0.mk (below_drew1 HB.out)
                              clear BK101
                              clear HB
                              have BK101 := n0_
                              have HB := n1_
                              clear n0_ n1_
                              have p112 : 0 ≤ (a2_0 : Int) := dt
                              have q112 : a2_0 < (l0.length : Int) := dt
                              obtain ⟨ad112, e112, hx112_0, hx112_1⟩ := at_T32 HR0.out a2_0 p112 q112
                              have hw112_1 := hx112_1
                              have hw112_0 := hx112_0
                              cases e112
                              replace hx112_0 := (HB.out.cell (World.block_lt_of_cell? w _ hx112_0)).trans hx112_0
                              replace hx112_1 := (HB.out.cell (World.block_lt_of_cell? w _ hx112_1)).trans hx112_1
                              replace p112 := eq_true p112
                              replace q112 := eq_true q112
                              have p113 : 0 ≤ (a2_1 : Int) := dt
                              have q113 : a2_1 < (l0.length : Int) := dt
                              obtain ⟨ad113, e113, hx113_0, hx113_1⟩ := at_T32 HR0.out a2_1 p113 q113
                              have hw113_1 := hx113_1
                              have hw113_0 := hx113_0
                              obtain rfl : ad112 = ad113 := (by injection e113)
                              replace hx113_0 := (HB.out.cell (World.block_lt_of_cell? w _ hx113_0)).trans hx113_0
                              replace hx113_1 := (HB.out.cell (World.block_lt_of_cell? w _ hx113_1)).trans hx113_1
                              replace p113 := eq_true p113
                              replace q113 := eq_true q113
                              have p114 : 0 ≤ (a2_0 : Int) := dt
                              have q114 : a2_0 < (l0.length : Int) := dt
                              obtain ⟨ad114, e114, hx114_0, hx114_1⟩ := at_T32 HR0.out a2_0 p114 q114
                              have hw114_1 := hx114_1
                              have hw114_0 := hx114_0
                              obtain rfl : ad112 = ad114 := (by injection e114)
                              replace hx114_0 := (HB.out.cell (World.block_lt_of_cell? w _ hx114_0)).trans hx114_0
                              replace hx114_1 := (HB.out.cell (World.block_lt_of_cell? w _ hx114_1)).trans hx114_1
                              replace p114 := eq_true p114
                              replace q114 := eq_true q114
                              refine start_ (n := 24) (S := fun w' => w'.cell? (ad112.add ((a2_0).toNat * 2)) = some (.string ((rd_T32 l0 a2_0).f0)) ∧ w'.cell? ⟨(ad112.add ((a2_0).toNat * 2)).block, (ad112.add ((a2_0).toNat * 2)).off + 1, none⟩ = some (.int .i64 ((rd_T32 l0 a2_0).f1)) ∧ w'.cell? (ad112.add ((a2_1).toNat * 2)) = some (.string ((rd_T32 l0 a2_1).f0)) ∧ w'.cell? ⟨(ad112.add ((a2_1).toNat * 2)).block, (ad112.add ((a2_1).toNat * 2)).off + 1, none⟩ = some (.int .i64 ((rd_T32 l0 a2_1).f1)) ∧ w'.cell? (ad112.add ((a2_0).toNat * 2)) = some (.string ((rd_T32 l0 a2_0).f0)) ∧ w'.cell? ⟨(ad112.add ((a2_0).toNat * 2)).block, (ad112.add ((a2_0).toNat * 2)).off + 1, none⟩ = some (.int .i64 ((rd_T32 l0 a2_0).f1))) (ds := []) #[false, false, false, false, false, false, false, false, false, false, false, false, false, false, false, false, false, false, false, false, false, false, false, false] (by kernel_rfl) rfl rfl ⟨((HB.out.cell (World.block_lt_of_cell? w _ hw112_0)).trans hw112_0), ((HB.out.cell (World.block_lt_of_cell? w _ hw112_1)).trans hw112_1), ((HB.out.cell (World.block_lt_of_cell? w _ hw113_0)).trans hw113_0), ((HB.out.cell (World.block_lt_of_cell? w _ hw113_1)).trans hw113_1), ((HB.out.cell (World.block_lt_of_cell? w _ hw114_0)).trans hw114_0), ((HB.out.cell (World.block_lt_of_cell? w _ hw114_1)).trans hw114_1)⟩ (fun hHeld => ?_); refine with_tabW contangotop_TopMoneyBack.tab14 contangotop_TopMoneyBack.bits14 (fun HT_ HW_ => ?_)
                              generalize wc.drew = w40 at BK101 HB hx112_0 hx112_1 hx113_0 hx113_1 hx114_0 hx114_1 hHeld ⊢
                              refine pure_ (i := 0) (N := some 94) (v := ?_) (a' := ?_) #[true, false, false, false, false, false, false, false, false, false, false, false, false, false, false, false, false, false, false, false, false, false, false, false] rfl rfl (any_of HT_.out (by kernel_rfl)) (fun _ _ _ h => h) (Or.inl ⟨by rfl, ?_⟩) ?_ ?_
                              rotate_left
                              · intro w'
                                go_simp
                                with_reducible rfl
                              rotate_left
                              · simp only [Act.put, List.setIfInBounds_toArray, List.set_cons_zero, List.set_cons_succ, i64_w, i32_w]
                                rfl
                              refine pure_ (i := 1) (N := some 95) (v := ?_) (a' := ?_) #[true, true, false, false, false, false, false, false, false, false, false, false, false, false, false, false, false, false, false, false, false, false, false, false] rfl rfl (any_of HT_.out (by kernel_rfl)) (fun _ _ _ h => h) (Or.inl ⟨by rfl, ?_⟩) ?_ ?_
                              rotate_left
                              · intro w'
                                go_simp
                                with_reducible rfl
                              rotate_left
                              · simp only [Act.put, List.setIfInBounds_toArray, List.set_cons_zero, List.set_cons_succ, i64_w, i32_w]
                                rfl
                              refine pure_ (i := 2) (N := some 96) (v := ?_) (a' := ?_) #[true, true, true, false, false, false, false, false, false, false, false, false, false, false, false, false, false, false, false, false, false, false, false, false] rfl rfl (any_of HT_.out (by kernel_rfl)) (fun _ _ _ h => h) (Or.inl ⟨by rfl, ?_⟩) ?_ ?_
                              rotate_left
                              · intro w'
                                go_simp
                                with_reducible rfl
                              rotate_left
                              · simp only [Act.put, List.setIfInBounds_toArray, List.set_cons_zero, List.set_cons_succ, i64_w, i32_w]
                                rfl
                              refine pure_ (i := 3) (N := some 97) (v := ?_) (a' := ?_) #[true, true, true, true, false, false, false, false, false, false, false, false, false, false, false, false, false, false, false, false, false, false, false, false] rfl rfl (any_of HT_.out (by kernel_rfl)) (fun _ _ _ h => h) (Or.inl ⟨by rfl, ?_⟩) ?_ ?_
                              rotate_left
                              · intro w'
                                go_simp
                                with_reducible rfl
                              rotate_left
                              · simp only [Act.put, List.setIfInBounds_toArray, List.set_cons_zero, List.set_cons_succ, i64_w, i32_w]
                                rfl
                              refine pure_ (i := 4) (N := some 98) (v := ?_) (a' := ?_) #[true, true, true, true, true, false, false, false, false, false, false, false, false, false, false, false, false, false, false, false, false, false, false, false] rfl rfl (any_of HT_.out (by kernel_rfl)) (fun _ _ _ h => h) (Or.inl ⟨by rfl, ?_⟩) ?_ ?_
                              rotate_left
                              · intro w'
                                go_simp
                                with_reducible rfl
                              rotate_left
                              · simp only [Act.put, List.setIfInBounds_toArray, List.set_cons_zero, List.set_cons_succ, i64_w, i32_w]
                                rfl
                              refine pure_ (i := 6) (N := some 100) (v := ?_) (a' := ?_) #[true, true, true, true, true, false, true, false, false, false, false, false, false, false, false, false, false, false, false, false, false, false, false, false] rfl rfl (any_of HT_.out (by kernel_rfl)) (fun _ _ _ h => h) (Or.inl ⟨by rfl, ?_⟩) ?_ ?_
                              rotate_left
                              · intro w'
                                go_simp
                                with_reducible rfl
                              rotate_left
                              · simp only [Act.put, List.setIfInBounds_toArray, List.set_cons_zero, List.set_cons_succ, i64_w, i32_w]
                                rfl
                              refine pure_ (i := 7) (N := some 101) (v := ?_) (a' := ?_) #[true, true, true, true, true, false, true, true, false, false, false, false, false, false, false, false, false, false, false, false, false, false, false, false] rfl rfl (any_of HT_.out (by kernel_rfl)) (fun _ _ _ h => h) (Or.inl ⟨by rfl, ?_⟩) ?_ ?_
                              rotate_left
                              · intro w'
                                go_simp
                                with_reducible rfl
                              rotate_left
                              · simp only [Act.put, List.setIfInBounds_toArray, List.set_cons_zero, List.set_cons_succ, i64_w, i32_w]
                                rfl
                              refine pure_ (i := 8) (N := some 102) (v := ?_) (a' := ?_) #[true, true, true, true, true, false, true, true, true, false, false, false, false, false, false, false, false, false, false, false, false, false, false, false] rfl rfl (any_of HT_.out (by kernel_rfl)) (fun _ _ _ h => h) (Or.inl ⟨by rfl, ?_⟩) ?_ ?_
                              rotate_left
                              · intro w'
                                go_simp
                                with_reducible rfl
                              rotate_left
                              · simp only [Act.put, List.setIfInBounds_toArray, List.set_cons_zero, List.set_cons_succ, i64_w, i32_w]
                                rfl
                              refine pure_ (i := 9) (N := some 103) (v := ?_) (a' := ?_) #[true, true, true, true, true, false, true, true, true, true, false, false, false, false, false, false, false, false, false, false, false, false, false, false] rfl rfl (any_of HT_.out (by kernel_rfl)) (fun _ _ _ h => h) (Or.inl ⟨by rfl, ?_⟩) ?_ ?_
                              rotate_left
                              · intro w'
                                go_simp
                                with_reducible rfl
                              rotate_left
                              · simp only [Act.put, List.setIfInBounds_toArray, List.set_cons_zero, List.set_cons_succ, i64_w, i32_w]
                                rfl
                              refine pure_ (i := 12) (N := some 106) (v := ?_) (a' := ?_) #[true, true, true, true, true, false, true, true, true, true, false, false, true, false, false, false, false, false, false, false, false, false, false, false] rfl rfl (any_of HT_.out (by kernel_rfl)) (fun _ _ _ h => h) (Or.inl ⟨by rfl, ?_⟩) ?_ ?_
                              rotate_left
                              · intro w'
                                go_simp
                                with_reducible rfl
                              rotate_left
                              · simp only [Act.put, List.setIfInBounds_toArray, List.set_cons_zero, List.set_cons_succ, i64_w, i32_w]
                                rfl
                              refine pure_ (i := 13) (N := some 107) (v := ?_) (a' := ?_) #[true, true, true, true, true, false, true, true, true, true, false, false, true, true, false, false, false, false, false, false, false, false, false, false] rfl rfl (any_of HT_.out (by kernel_rfl)) (fun _ _ _ h => h) (Or.inl ⟨by rfl, ?_⟩) ?_ ?_
                              rotate_left
                              · intro w'
                                go_simp
                                with_reducible rfl
                              rotate_left
                              · simp only [Act.put, List.setIfInBounds_toArray, List.set_cons_zero, List.set_cons_succ, i64_w, i32_w]
                                rfl
                              refine pure_ (i := 14) (N := some 108) (v := ?_) (a' := ?_) #[true, true, true, true, true, false, true, true, true, true, false, false, true, true, true, false, false, false, false, false, false, false, false, false] rfl rfl (any_of HT_.out (by kernel_rfl)) (fun _ _ _ h => h) (Or.inl ⟨by rfl, ?_⟩) ?_ ?_
                              rotate_left
                              · intro w'
                                go_simp
                                with_reducible rfl
                              rotate_left
                              · simp only [Act.put, List.setIfInBounds_toArray, List.set_cons_zero, List.set_cons_succ, i64_w, i32_w]
                                rfl
                              refine pure_ (i := 15) (N := some 109) (v := ?_) (a' := ?_) #[true, true, true, true, true, false, true, true, true, true, false, false, true, true, true, true, false, false, false, false, false, false, false, false] rfl rfl (any_of HT_.out (by kernel_rfl)) (fun _ _ _ h => h) (Or.inl ⟨by rfl, ?_⟩) ?_ ?_
                              rotate_left
                              · intro w'
                                go_simp
                                with_reducible rfl
                              rotate_left
                              · simp only [Act.put, List.setIfInBounds_toArray, List.set_cons_zero, List.set_cons_succ, i64_w, i32_w]
                                rfl
                              refine take_ (i := 5) (N := some 99) (v := ?_) (a' := ?_) #[true, true, true, true, true, true, true, true, true, true, false, false, true, true, true, true, false, false, false, false, false, false, false, false] rfl rfl (take_ofW HT_.out HW_.out (by kernel_rfl)) (fun _ _ _ h => h) (Or.inl ⟨by rfl, ?_⟩) hHeld ?_ ?_
                              rotate_left
                              · rintro w' ⟨s0, s1, s2, s3, s4, s5⟩
                                go_simp
                                with_reducible rfl
                              rotate_left
                              · simp only [Act.put, List.setIfInBounds_toArray, List.set_cons_zero, List.set_cons_succ, i64_w, i32_w]
                                rfl
                              refine take_ (i := 10) (N := some 104) (v := ?_) (a' := ?_) #[true, true, true, true, true, true, true, true, true, true, true, false, true, true, true, true, false, false, false, false, false, false, false, false] rfl rfl (take_ofW HT_.out HW_.out (by kernel_rfl)) (fun _ _ _ h => h) (Or.inl ⟨by rfl, ?_⟩) hHeld ?_ ?_
                              rotate_left
                              · rintro w' ⟨s0, s1, s2, s3, s4, s5⟩
                                go_simp
                                with_reducible rfl
                              rotate_left
                              · simp only [Act.put, List.setIfInBounds_toArray, List.set_cons_zero, List.set_cons_succ, i64_w, i32_w]
                                rfl
                              refine pure_ (i := 11) (N := some 105) (v := ?_) (a' := ?_) #[true, true, true, true, true, true, true, true, true, true, true, true, true, true, true, true, false, false, false, false, false, false, false, false] rfl rfl (any_of HT_.out (by kernel_rfl)) (fun _ _ _ h => h) (Or.inl ⟨by rfl, ?_⟩) ?_ ?_
                              rotate_left
                              · intro w'
                                go_simp
                                with_reducible rfl
                              rotate_left
                              · simp only [Act.put, List.setIfInBounds_toArray, List.set_cons_zero, List.set_cons_succ, i64_w, i32_w]
                                rfl
                              refine take_ (i := 16) (N := some 110) (v := ?_) (a' := ?_) #[true, true, true, true, true, true, true, true, true, true, true, true, true, true, true, true, true, false, false, false, false, false, false, false] rfl rfl (take_ofW HT_.out HW_.out (by kernel_rfl)) (fun _ _ _ h => h) (Or.inl ⟨by rfl, ?_⟩) hHeld ?_ ?_
                              rotate_left
                              · rintro w' ⟨s0, s1, s2, s3, s4, s5⟩
                                go_simp
                                with_reducible rfl
                              rotate_left
                              · simp only [Act.put, List.setIfInBounds_toArray, List.set_cons_zero, List.set_cons_succ, i64_w, i32_w]
                                rfl
                              refine pure_ (i := 17) (N := some 111) (v := ?_) (a' := ?_) #[true, true, true, true, true, true, true, true, true, true, true, true, true, true, true, true, true, true, false, false, false, false, false, false] rfl rfl (any_of HT_.out (by kernel_rfl)) (fun _ _ _ h => h) (Or.inl ⟨by rfl, ?_⟩) ?_ ?_
                              rotate_left
                              · intro w'
                                go_simp
                                with_reducible rfl
                              rotate_left
                              · simp only [Act.put, List.setIfInBounds_toArray, List.set_cons_zero, List.set_cons_succ, i64_w, i32_w]
                                rfl
                              refine pure_ (i := 18) (N := some 112) (v := ?_) (a' := ?_) #[true, true, true, true, true, true, true, true, true, true, true, true, true, true, true, true, true, true, true, false, false, false, false, false] rfl rfl (any_of HT_.out (by kernel_rfl)) (fun _ _ _ h => h) (Or.inl ⟨by rfl, ?_⟩) ?_ ?_
                              rotate_left
                              · intro w'
                                go_simp
                                with_reducible rfl
                              rotate_left
                              · simp only [Act.put, List.setIfInBounds_toArray, List.set_cons_zero, List.set_cons_succ, i64_w, i32_w]
                                rfl
                              refine pure_ (i := 19) (N := some 113) (v := ?_) (a' := ?_) #[true, true, true, true, true, true, true, true, true, true, true, true, true, true, true, true, true, true, true, true, false, false, false, false] rfl rfl (any_of HT_.out (by kernel_rfl)) (fun _ _ _ h => h) (Or.inl ⟨by rfl, ?_⟩) ?_ ?_
                              rotate_left
                              · intro w'
                                go_simp
                                with_reducible rfl
                              rotate_left
                              · simp only [Act.put, List.setIfInBounds_toArray, List.set_cons_zero, List.set_cons_succ, i64_w, i32_w]
                                rfl
                              refine pure_ (i := 20) (N := some 114) (v := ?_) (a' := ?_) #[true, true, true, true, true, true, true, true, true, true, true, true, true, true, true, true, true, true, true, true, true, false, false, false] rfl rfl (any_of HT_.out (by kernel_rfl)) (fun _ _ _ h => h) (Or.inl ⟨by rfl, ?_⟩) ?_ ?_
                              rotate_left
                              · intro w'
                                go_simp
                                with_reducible rfl
                              rotate_left
                              · simp only [Act.put, List.setIfInBounds_toArray, List.set_cons_zero, List.set_cons_succ, i64_w, i32_w]
                                rfl
                              refine one_ (i := 21) (N := some 115) #[true, true, true, true, true, true, true, true, true, true, true, true, true, true, true, true, true, true, true, true, true, true, false, false] rfl rfl (one_of HT_.out (by kernel_rfl)) (by decide) (fun K hK => ?_)
                              refine goes_ Tryd.func5 (by kernel_rfl) rfl #[] (by rfl) rfl rfl arg ?_
                              with_reducible refine (contangotop_goes06.calls kj24  t115 _ A39.out (glob_of HGL.out bel)).mono ?_
                              rintro e w41 ⟨rfl, hb⟩
                              refine ⟨_, rfl, ?_⟩
                              have n0_ := Aside0.mk (blk_below (g := gb101) (bw BK101.out) hb)
                              have n1_ := Aside0.mk (below_step bel hb)
                              clear BK101
                              clear HB
                              have BK101 := n0_
                              have HB := n1_
                              clear n0_ n1_
                              (try clear hb)
                              (try clear hb2)
                              (try clear hk)
                              (try clear hi)
                              refine hK.out _ _ ⟨((HB.out.cell (World.block_lt_of_cell? w _ hw112_0)).trans hw112_0), ((HB.out.cell (World.block_lt_of_cell? w _ hw112_1)).trans hw112_1), ((HB.out.cell (World.block_lt_of_cell? w _ hw113_0)).trans hw113_0), ((HB.out.cell (World.block_lt_of_cell? w _ hw113_1)).trans hw113_1), ((HB.out.cell (World.block_lt_of_cell? w _ hw114_0)).trans hw114_0), ((HB.out.cell (World.block_lt_of_cell? w _ hw114_1)).trans hw114_1)⟩ (fun hHeld => ?_)
                              clear hK K
                              refine norm_ (a' := ?_) ?_ ?_
                              rotate_left
                              · show Act.put _ (some 115) _ = _
                                simp only [Act.put, List.setIfInBounds_toArray, List.set_cons_zero, List.set_cons_succ, i64_w, i32_w]
                                rfl
                              refine pure_ (i := 22) (N := some 116) (v := ?_) (a' := ?_) #[true, true, true, true, true, true, true, true, true, true, true, true, true, true, true, true, true, true, true, true, true, true, true, false] rfl rfl (any_of HT_.out (by kernel_rfl)) (fun _ _ _ h => h) (Or.inl ⟨by rfl, ?_⟩) ?_ ?_
                              rotate_left
                              · intro w'
                                go_simp
                                with_reducible rfl
                              rotate_left
                              · simp only [Act.put, List.setIfInBounds_toArray, List.set_cons_zero, List.set_cons_succ, i64_w, i32_w]
                                rfl
                              refine pure_ (i := 23) (N := some 6) (v := ?_) (a' := ?_) #[true, true, true, true, true, true, true, true, true, true, true, true, true, true, true, true, true, true, true, true, true, true, true, true] rfl rfl (any_of HT_.out (by kernel_rfl)) (fun _ _ _ h => h) (Or.inl ⟨by rfl, ?_⟩) ?_ ?_
                              rotate_left
                              · intro w'
                                go_simp
                                with_reducible rfl
                              rotate_left
                              · simp only [Act.put, List.setIfInBounds_toArray, List.set_cons_zero, List.set_cons_succ, i64_w, i32_w]
                                rfl
                              refine done_ (done_of HT_.out (by kernel_rfl)) ?_
                              try go_wp2
                              go_ret
                              exact ⟨by first | rfl | (simp [errW_none, errW_some] <;> rfl) | (simp only [← hji32]; first | rfl | (simp [errW_none, errW_some] <;> rfl)) | (simp [*, errW_none, errW_some] <;> rfl), bel⟩
                            · rw [if_neg c38] at H
                              have c38b0 := decide_eq_false c38
                              clear c38
                              exact absurd H (by simp)
                        · rw [if_neg c36] at H
                          exact absurd H (by simp)
                      · rw [if_neg c35] at H
                        exact absurd H (by simp)
                    · rw [if_neg c34] at H
                      exact absurd H (by simp)
                  · rw [if_neg c33] at H
                    exact absurd H (by simp)
                · rw [if_neg c31] at H
                  have c31b0 : (t111 == 0) = false := beq_eq_false_iff_ne.mpr c31
                  have c31b1 : (t111 != 0) = true := bne_iff_ne.mpr c31
                  by_cases c42 : t111 = 3
                  · rw [if_pos c42] at H
                    have c42b0 : (t111 == 3) = true := beq_iff_eq.mpr c42
                    have c42b1 : (t111 != 3) = false := bne_eq_false_iff_eq.mpr c42
                    clear c42
                    replace H := bnd H
                    obtain ⟨t116, A430, H⟩ := H
                    have A43 := Aside0.mk A430
                    clear A430
                    obtain rfl := Option.some.inj H
                    go_wp2_with (first | (go_at_call 5; (with_reducible refine (contangotop_goes06.calls kj24  t116 _ A43.out (glob_of HGL.out bel)).mono ?_); rintro e w44 ⟨rfl, hb⟩; replace BK101 := Aside0.mk (blk_below (g := gb101) (bw BK101.out) hb); replace HB := Aside0.mk (below_step bel hb); (try clear hb); (try clear hb2); (try clear hk); (try clear hi)))
                    go_ret
                    exact ⟨ers, bel⟩
                  · rw [if_neg c42] at H
                    exact absurd H (by simp)
        · rw [if_neg c21] at H
          have c21b0 : (t105 == 0) = false := beq_eq_false_iff_ne.mpr c21
          have c21b1 : (t105 != 0) = true := bne_iff_ne.mpr c21
          by_cases c45 : t104 = 0
          · rw [if_pos c45] at H
            have c45b0 : (t104 == 0) = true := beq_iff_eq.mpr c45
            have c45b1 : (t104 != 0) = false := bne_eq_false_iff_eq.mpr c45
            clear c45
            replace H := bnd H
            obtain ⟨t106, A460, H⟩ := H
            have A46 := Aside0.mk A460
            clear A460
            obtain rfl := Option.some.inj H
            go_wp2_with (first | ((with_reducible refine gate_callee (f := 6) rfl ?_); refine goesL_ (some 49) rfl rfl Tryd.func6 (by kernel_rfl) rfl #[.slice A0 l0.length c0, .int .i64 a1, .int .i64 a2_0, .int .i64 a2_1, .int .i64 5] rfl arg ?_; (with_reducible refine (rate_Convert.calls kj3 _ _ l0 a1 a2_0 a2_1 5 t104 t105 _ ?side1 ?side2 A20.out).mono ?_); (case side1 => repeat (first | exact (Kd.C_below HR0.out HB.out) | (with_reducible refine Kd.C_alloc ?_ _) | (with_reducible refine Kd.C_drewN ?_ _) | (with_reducible refine Kd.C_drew ?_))); (case side2 => exact HC0.out); rintro e w47 ⟨rfl, hb⟩; refine ⟨_, rfl, ?_⟩; replace BK101 := Aside0.mk (blk_below (g := gb101) (bw BK101.out) hb); replace HB := Aside0.mk (below_step bel hb); (try clear hb); (try clear hb2); (try clear hk); (try clear hi)) | (go_at_call 5; (with_reducible refine (contangotop_goes06.calls kj3  t106 _ A46.out (glob_of HGL.out bel)).mono ?_); rintro e w48 ⟨rfl, hb⟩; replace BK101 := Aside0.mk (blk_below (g := gb101) (bw BK101.out) hb); replace HB := Aside0.mk (below_step bel hb); (try clear hb); (try clear hb2); (try clear hk); (try clear hi)))
            go_ret
            exact ⟨ers, bel⟩
          · rw [if_neg c45] at H
            exact absurd H (by simp)
end Go.Proofs.YtliooghmpkdmoaaDoor.X
end
section
namespace Go.Proofs.YtliooghmpkdmoaaDoor.Opn
open Go.ChangeShapes Go.WideShapes Go.Proofs.YtliooghmpkdmoaaDoorW.PrintWords
set_option linter.unusedVariables false
set_option linter.unusedSimpArgs false
structure Opens (P : Program) (t : TypeId) {α : Type} (d : Kd α) (Ok : α → Prop) : Prop where
  sz : d.sz = P.cellsOf t
  opens : ∀ {H : Type} {enc : TypeId × Value → H} {w : World} {base : Nat} {spare : Nat → Bool} {held : Bool} {fuel : Nat} {cs : List Value} {x : DataW H × List MemPlace},
    DataW.trod enc P w base spare held fuel t cs = some x → (∀ n ∈ x.1.weights P t, n ≤ reachBytes) → ∃ v, d.K w v cs ∧ Ok v
theorem opens_int {P : Program} {t : TypeId} {k : IntKind} (ht : P.underlying t = some (.int k)) (hc : P.cellsOf t = 1) : Opens P t (Kd.int k) (fun n => (Lit.int k n).wf = true) := by
  refine ⟨hc.symm, fun h _ => ?_⟩
  obtain ⟨n, rfl, _, hw⟩ := DataW.trod_int ht h
  exact ⟨n, rfl, hw⟩
theorem opens_string {P : Program} {t : TypeId} (ht : P.underlying t = some .string) (hc : P.cellsOf t = 1) : Opens P t Kd.string (fun s => s.size ≤ 140737488351232) := by
  refine ⟨hc.symm, fun h hw => ?_⟩
  obtain ⟨s, rfl, rfl, hs⟩ := DataW.trod_string ht h
  refine ⟨s, rfl, ?_⟩
  have := hw s.data.toList.length (by simp [DataW.weights])
  rw [Array.length_toList] at this
  exact this
theorem weights_all {H : Type} {P : Program} {e : TypeId} : ∀ {ds : List (DataW H)} {j : Nat} {d : DataW H}, ds[j]? = some d → ∀ n ∈ d.weights P e, n ∈ DataW.weightsAll P e ds
  | d0 :: ds, 0, d, hd, n, hn => by
    simp only [List.getElem?_cons_zero, Option.some.injEq] at hd
    subst hd
    simp only [DataW.weightsAll, List.mem_append]
    exact Or.inl hn
  | d0 :: ds, j + 1, d, hd, n, hn => by
    simp only [List.getElem?_cons_succ] at hd
    simp only [DataW.weightsAll, List.mem_append]
    exact Or.inr (weights_all hd n hn)
  | [], _, _, hd, _, _ => by simp at hd
theorem list_of {α : Type} {n : Nat} {p : Nat → α → Prop} (h : ∀ i, i < n → ∃ x, p i x) : ∃ l : List α, l.length = n ∧ ∀ i x, l[i]? = some x → p i x := by
  induction n with
  | zero => exact ⟨[], rfl, fun i x hx => by simp at hx⟩
  | succ n ih =>
    obtain ⟨l, hl, hp⟩ := ih (fun i hi => h i (by omega))
    obtain ⟨x, hx⟩ := h n (by omega)
    refine ⟨l ++ [x], by simp [hl], fun i y hy => ?_⟩
    by_cases hi : i < l.length
    · rw [List.getElem?_append_left hi] at hy
      exact hp i y hy
    · rw [List.getElem?_append_right (by omega)] at hy
      have : i - l.length = 0 := by
        cases hk : i - l.length with
        | zero => rfl
        | succ m => rw [hk] at hy; simp at hy
      rw [this] at hy
      simp at hy
      subst hy
      have : i = n := by omega
      subst this
      exact hx
theorem opens_slice {P : Program} {t e : TypeId} {α : Type} {d : Kd α} {Ok : α → Prop} (h : Opens P e d Ok) (ht : P.underlying t = some (.slice e)) (hc : P.cellsOf t = 1) {B : Nat} (hB : P.bytesOf e = B) :
    Opens P t (Kd.slice e d) (fun l => l.length ≤ maxLen ∧ l.length * B ≤ 140737488351232 ∧ ∀ x ∈ l, Ok x) := by
  subst hB
  refine ⟨hc.symm, fun {H enc w base spare held fuel cs x} hx hw => ?_⟩
  rcases DataW.trod_slice ht hx with ⟨rfl, rfl⟩ | ⟨a, len, cap, elems, rest, n, _, rfl, rfl, hb, hl, hm, hlen, hel, hsp, hns⟩
  · exact ⟨[], ⟨none, 0, rfl, Nat.le_refl _, Kd.C_nil _ _⟩, by simp⟩
  simp only [DataW.weights, ht] at hw
  have hw1 : (elems.length + rest.length) * P.bytesOf e ≤ reachBytes := by
    have := hw ((elems.length + rest.length) * P.bytesOf e) (by simp)
    exact this
  have hone : ∀ i, i < len → ∃ v : α, ∃ c, w.cells? base (a.add (i * P.cellsOf e)) (P.cellsOf e) = some c ∧ d.K w v c ∧ Ok v := by
    intro i hi
    have h1 := hel i hi
    rw [List.getElem?_eq_getElem (by omega)] at h1
    obtain ⟨c, hc1, hc2⟩ := Option.bind_eq_some_iff.1 h1
    obtain ⟨v, hv, hok⟩ := h.opens hc2 (fun n hn => hw n (by
      simp only [List.mem_cons, List.mem_append]
      right; left
      refine weights_all (j := i) ?_ n hn
      rw [List.getElem?_map, List.getElem?_eq_getElem (by omega)]
      rfl))
    exact ⟨v, c, hc1, hv, hok⟩
  obtain ⟨l, hl1, hl2⟩ := list_of hone
  subst hl1
  refine ⟨l, ⟨some a, cap, rfl, hl, rfl, ?_, fun _ => ⟨a, rfl, fun j p hj => ?_⟩⟩, ?_, ?_, ?_⟩
  · unfold maxLen at hm; omega
  · obtain ⟨c, hc1, hc2, _⟩ := hl2 j p hj
    obtain ⟨_, hlen2, hcell⟩ := World.cells?_some hc1
    refine ⟨c, by rw [h.sz]; exact hlen2, hc2, fun i u hu => ?_⟩
    have hi : i < P.cellsOf e := by
      have := (List.getElem?_eq_some_iff.1 hu).1
      omega
    have := hcell i hi
    rw [hu, ← Deep.add_add, h.sz] at *
    exact this
  · exact Nat.le_trans hl hm
  · have h2 : l.length * P.bytesOf e ≤ (elems.length + rest.length) * P.bytesOf e := Nat.mul_le_mul_right _ (by omega)
    exact Nat.le_trans h2 hw1
  · intro x hx
    obtain ⟨j, hj⟩ := List.getElem?_of_mem hx
    obtain ⟨c, _, _, ho⟩ := hl2 j x hj
    exact ho
structure OpensF (P : Program) (fs : List Field) (off : Nat) {α : Type} (d : Kd α) (Ok : α → Prop) : Prop where
  opens : ∀ {H : Type} {enc : TypeId × Value → H} {w : World} {base : Nat} {spare : Nat → Bool} {held : Bool} {n : Nat} {cs : List Value} {xs : List (DataW H × List MemPlace)},
    xs.length = fs.length → (∀ (i : Nat) (f : Field), fs[i]? = some f → DataW.trod enc P w base spare held n f.type ((cs.drop f.offset).take (P.cellsOf f.type)) = xs[i]?) →
    (∀ m ∈ DataW.weightsEach P (fs.map (·.type)) (xs.map (·.1)), m ≤ reachBytes) → ∃ v, d.K w v ((cs.drop off).take d.sz) ∧ Ok v
theorem opensF_one {P : Program} {f : Field} {off : Nat} {α : Type} {d : Kd α} {Ok : α → Prop} (h : Opens P f.type d Ok) (ho : f.offset = off) : OpensF P [f] off d Ok := by
  refine ⟨fun {H enc w base spare held n cs xs} hl hx hw => ?_⟩
  match xs, hl with
  | [x], _ =>
    have h1 := hx 0 f rfl
    obtain ⟨v, hv, hok⟩ := h.opens h1 (fun n hn => hw n (by simpa [DataW.weightsEach] using hn))
    refine ⟨v, ?_, hok⟩
    rw [h.sz, ← ho]
    exact hv
theorem opensF_cons {P : Program} {f : Field} {fs : List Field} {off : Nat} {α β : Type} {d : Kd α} {d' : Kd β} {Ok : α → Prop} {Ok' : β → Prop} (h : Opens P f.type d Ok) (ho : f.offset = off) (h' : OpensF P fs (off + d.sz) d' Ok') :
    OpensF P (f :: fs) off (Kd.pair d d') (fun p => Ok p.1 ∧ Ok' p.2) := by
  refine ⟨fun {H enc w base spare held n cs xs} hl hx hw => ?_⟩
  match xs, hl with
  | x :: xs, hl =>
    have h1 := hx 0 f rfl
    obtain ⟨v, hv, hok⟩ := h.opens h1 (fun n hn => hw n (by
      simp only [List.map_cons, DataW.weightsEach, List.mem_append]; exact Or.inl hn))
    obtain ⟨v', hv', hok'⟩ := h'.opens (cs := cs) (xs := xs) (by simpa using hl) (fun i g hg => by
      have := hx (i + 1) g (by simpa using hg)
      simpa using this) (fun m hm => hw m (by simp only [List.map_cons, DataW.weightsEach, List.mem_append]; exact Or.inr hm))
    refine ⟨(v, v'), ⟨(cs.drop off).take d.sz, (cs.drop (off + d.sz)).take d'.sz, ?_, ?_, hv'⟩, hok, hok'⟩
    · show (cs.drop off).take (d.sz + d'.sz) = _
      rw [List.take_add, List.drop_drop]
    · rw [h.sz, ← ho]; exact hv
theorem opens_struct {P : Program} {t : TypeId} {fs : Array Field} {α β : Type} {d : Kd α} {Ok : α → Prop} (h : OpensF P fs.toList 0 d Ok) (ht : P.underlying t = some (.struct fs)) (hc : d.sz = P.cellsOf t) (f : β → α) (mk : α → β) (hf : ∀ a, f (mk a) = a) :
    Opens P t (Kd.iso d f) (fun b => Ok (f b)) := by
  refine ⟨hc, fun {H enc w base spare held fuel cs x} hx hw => ?_⟩
  obtain ⟨xs, n, _, rfl, hlen, hsz, hall⟩ := DataW.trod_struct ht hx
  simp only [DataW.weights, ht] at hw
  obtain ⟨v, hv, hok⟩ := h.opens (cs := cs) (xs := xs) (by simpa using hsz) (fun i f hf => hall i f (by simpa using hf)) hw
  refine ⟨mk v, ?_, by rw [hf]; exact hok⟩
  show d.K w (f (mk v)) cs
  rw [hf]
  rw [List.drop_zero, hc, ← hlen, List.take_length] at hv
  exact hv
def fldA (e : TypeId) (i : Nat) : Field := { name := "", type := e, offset := i, embedded := false, tag := "", pkgPath := "", byteOffset := 0 }
theorem weights_same {H : Type} {P : Program} {e : TypeId} : ∀ (fs : List Field) (ds : List (DataW H)), fs.length = ds.length → (∀ f ∈ fs, f.type = e) → DataW.weightsEach P (fs.map (·.type)) ds = DataW.weightsAll P e ds
  | [], [], _, _ => by simp [DataW.weightsEach, DataW.weightsAll]
  | [], d :: ds, h, _ => by simp at h
  | f :: fs, [], h, _ => by simp at h
  | f :: fs, d :: ds, h, hf => by
    simp only [List.map_cons, DataW.weightsEach, DataW.weightsAll]
    rw [weights_same fs ds (by simpa using h) (fun g hg => hf g (by simp [hg])), hf f (by simp)]
theorem opens_array {P : Program} {t e : TypeId} {n : Nat} {fs : List Field} {α β : Type} {d : Kd α} {Ok : α → Prop} (h : OpensF P fs 0 d Ok) (ht : P.underlying t = some (.array n e)) (hc : d.sz = P.cellsOf t) (hn : fs.length = n) (hfs : ∀ (i : Nat) (f : Field), fs[i]? = some f → f.type = e ∧ f.offset = i * P.cellsOf e) (f : β → α) (mk : α → β) (hf : ∀ a, f (mk a) = a) :
    Opens P t (Kd.iso d f) (fun b => Ok (f b)) := by
  refine ⟨hc, fun {H enc w base spare held fuel cs x} hx hw => ?_⟩
  obtain ⟨xs, m, _, rfl, hlen, hsz, hall⟩ := DataW.trod_array ht hx
  simp only [DataW.weights, ht] at hw
  rw [← weights_same fs (xs.map (·.1)) (by rw [List.length_map, hsz, hn]) (fun g hg => by
    obtain ⟨j, hj⟩ := List.getElem?_of_mem hg
    exact (hfs j g hj).1)] at hw
  obtain ⟨v, hv, hok⟩ := h.opens (cs := cs) (xs := xs) (by rw [hsz, hn]) (fun i g hg => by
    have hi : i < n := by
      have := (List.getElem?_eq_some_iff.1 hg).1
      omega
    obtain ⟨e1, e2⟩ := hfs i g hg
    rw [e1, e2]
    exact hall i hi) hw
  refine ⟨mk v, ?_, by rw [hf]; exact hok⟩
  show d.K w (f (mk v)) cs
  rw [hf]
  rw [List.drop_zero, hc, ← hlen, List.take_length] at hv
  exact hv
theorem okWide_arr {P : Program} {w : World} {r : Reach} {base : Nat} {t e : TypeId} {n : Nat} {v : Value} (ht : P.underlying t = some (.array n e)) (h : Value.okWide P w r base t v) : ∃ cs, v = .agg cs ∧ cs.size = P.cellsOf t := by
  simp only [Value.okWide, ht] at h
  obtain ⟨cs, h1, h2, _⟩ := h
  exact ⟨cs, h1, h2⟩
theorem opens_imp {P : Program} {t : TypeId} {α : Type} {d : Kd α} {Ok Ok' : α → Prop} (h : Opens P t d Ok) (hi : ∀ v, Ok v → Ok' v) : Opens P t d Ok' :=
  ⟨h.sz, fun hx hw => let ⟨v, hv, ho⟩ := h.opens hx hw; ⟨v, hv, hi v ho⟩⟩
end Go.Proofs.YtliooghmpkdmoaaDoor.Opn
end
section
namespace Go.Proofs.YtliooghmpkdmoaaDoor.X
open Go.RowKit Go.Proofs.YtliooghmpkdmoaaDoorW.PrintWords Go.Proofs.YtliooghmpkdmoaaDoorW.PrintLast Go.Proofs.YtliooghmpkdmoaaDoorW.PrintMore
attribute [local go_sem] max2_int min2_int max_two min_two max_three min_three max_four min_four
set_option linter.unusedVariables false
set_option linter.unusedSimpArgs false
def ok32 (v : S32) : Prop := v.f0.size ≤ 140737488351232 ∧ ((Lit.int .i64 v.f1).wf = true)
theorem opens32 : Opn.Opens Tryd.prog 32 k32 ok32 := by
  have hu := Tryd.underlying32
  refine Opn.opens_imp (Opn.opens_struct (Ok := fun (p : ByteArray × (Int)) => p.1.size ≤ 140737488351232 ∧ ((Lit.int .i64 p.2).wf = true)) ?hF hu (by kernel_rfl) (fun x : S32 => (x.f0, x.f1)) (fun a => ⟨a.1, a.2⟩) (fun _ => rfl)) ?hI
  case hF =>
    refine Opn.opensF_cons (Ok := fun (p : ByteArray) => p.size ≤ 140737488351232) (Ok' := fun (p : Int) => (Lit.int .i64 p).wf = true) (h := ?_) (ho := ?_) (h' := ?_)
    · exact Opn.opens_string Tryd.underlying9 (by kernel_rfl)
    · rfl
    · skip
      refine Opn.opensF_one (Ok := fun (p : Int) => (Lit.int .i64 p).wf = true) (h := ?_) (ho := ?_)
      · exact Opn.opens_int Tryd.underlying3 (by kernel_rfl)
      · rfl
  case hI => exact fun v h => h
def ok23 (v : S23) : Prop := (Lit.int .i64 v.f0).wf = true ∧ ((Lit.int .i64 v.f1).wf = true)
theorem opens23 : Opn.Opens Tryd.prog 23 k23 ok23 := by
  have hu := Tryd.underlying23
  refine Opn.opens_imp (Opn.opens_array (fs := [Opn.fldA 3 0, Opn.fldA 3 1]) (Ok := fun (p : Int × (Int)) => (Lit.int .i64 p.1).wf = true ∧ ((Lit.int .i64 p.2).wf = true)) ?hF hu (by kernel_rfl) rfl ?hA (fun x : S23 => (x.f0, x.f1)) (fun a => ⟨a.1, a.2⟩) (fun _ => rfl)) ?hI
  case hF =>
    refine Opn.opensF_cons (Ok := fun (p : Int) => (Lit.int .i64 p).wf = true) (Ok' := fun (p : Int) => (Lit.int .i64 p).wf = true) (h := ?_) (ho := ?_) (h' := ?_)
    · exact Opn.opens_int Tryd.underlying3 (by kernel_rfl)
    · rfl
    · skip
      refine Opn.opensF_one (Ok := fun (p : Int) => (Lit.int .i64 p).wf = true) (h := ?_) (ho := ?_)
      · exact Opn.opens_int Tryd.underlying3 (by kernel_rfl)
      · rfl
  case hA =>
    have hc : Tryd.prog.cellsOf 3 = 1 := by kernel_rfl
    rw [hc]
    intro i f hf
    match i, hf with
    | 0, hf => cases hf; exact ⟨rfl, rfl⟩
    | 1, hf => cases hf; exact ⟨rfl, rfl⟩
    | i + 2, hf => exact absurd hf (by simp)
  case hI => exact fun v h => h
end Go.Proofs.YtliooghmpkdmoaaDoor.X
end
section
namespace Go.Proofs.YtliooghmpkdmoaaDoor.P
open Go.RowKit Go.Proofs.YtliooghmpkdmoaaDoorW.PrintWords Go.Proofs.YtliooghmpkdmoaaDoorW.PrintMore Go.Proofs.YtliooghmpkdmoaaDoor.X
theorem Ev_succ {α : Type} {g : Nat → Option α} {r : α} (h : Ev (fun k => g (k + 1)) r) : Ev g r := Ev.step (fun _ => rfl) h
theorem Ev_all {α : Type} {g : Nat → Option α} {r : α} (h : ∀ k, g k = some r) : Ev g r := ⟨0, fun k _ => h k⟩
theorem Ev_bind {α β : Type} {g : Nat → Option α} {f : Nat → α → Option β} {a : α} {r : β} (h : Ev g a) (k : Ev (fun n => f n a) r) : Ev (fun n => (g n).bind (f n)) r := Ev.bind h k
theorem Ev_id {α : Type} {g : Nat → Option α} {r : α} (h : Ev g r) : Ev (fun n => (g n).bind fun x => some x) r := Ev.bind h (Ev.now _)
theorem w_id {x : Int} (h1 : -9223372036854775808 ≤ x) (h2 : x ≤ 9223372036854775807) : wrap64 x = x := by unfold wrap64; omega
theorem w_succ {i n : Nat} (h : i < n) (hn : n ≤ 9223372036854775807) : wrap64 ((i : Int) + 1) = ((i + 1 : Nat) : Int) := by rw [w_id (by omega) (by omega)]; omega
theorem wf_rng {a : Int} (h : (Lit.int .i64 a).wf = true) : -9223372036854775808 ≤ a ∧ a ≤ 9223372036854775807 := by
  simpa [Lit.wf, IntKind.min, IntKind.max, IntKind.signed, IntKind.bits] using h
theorem rd_nat (xs : List Int) (i : Nat) (h : i < xs.length) : rd xs (i : Int) = xs[i] := by simp [rd, h]
theorem drop_cons {α : Type} (l : List α) (i : Nat) (h : i < l.length) : l.drop i = l[i] :: l.drop (i + 1) := (List.getElem_cons_drop h).symm
theorem ba_ext {a b : ByteArray} (h : a.toList = b.toList) : a = b := by
  have e : ∀ c : ByteArray, c.toList = c.data.toList := fun c => ByteArray.toList_eq c
  rw [e, e] at h
  cases a; cases b
  congr 1
  exact Array.toList_inj.1 h
end Go.Proofs.YtliooghmpkdmoaaDoor.P
end
section
namespace Go.Proofs.YtliooghmpkdmoaaDoor.P
set_option linter.unusedVariables false
set_option linter.unusedSimpArgs false
open Go.RowKit Go.Proofs.YtliooghmpkdmoaaDoorW.PrintWords Go.Proofs.YtliooghmpkdmoaaDoorW.PrintMore Go.Proofs.YtliooghmpkdmoaaDoor.X
theorem uwrap (n : Int) : IntKind.u64.wrap n = n % 18446744073709551616 := by simp [IntKind.wrap, IntKind.bits, IntKind.signed]
theorem u_id {x : Int} (h1 : 0 ≤ x) (h2 : x < 18446744073709551616) : IntKind.u64.wrap x = x := by rw [uwrap]; omega
def fitsM (n : Int) : Bool := decide (-1152921504606846976 ≤ n) && decide (n ≤ 1152921504606846976)
theorem fitsM_iff (n : Int) : fitsM n = true ↔ -1152921504606846976 ≤ n ∧ n ≤ 1152921504606846976 := by simp [fitsM]
theorem fitsM_f (n : Int) : cents_Fits.f n = some (fitsM n) := by
  unfold cents_Fits.f fitsM
  by_cases h : n ≥ -1152921504606846976
  · rw [if_pos h, decide_eq_true (show -1152921504606846976 ≤ n from h), Bool.true_and]
  · rw [if_neg h, decide_eq_false (show ¬ -1152921504606846976 ≤ n from h), Bool.false_and]
def szI (n : Int) : Int := if n < 0 then -n else n
theorem szI_rng {n : Int} (h : fitsM n = true) : 0 ≤ szI n ∧ szI n ≤ 1152921504606846976 := by
  rw [fitsM_iff] at h; unfold szI; split <;> omega
theorem szI_pos {n : Int} (h : n ≠ 0) : 1 ≤ szI n := by unfold szI; split <;> omega
theorem size_f {n : Int} (h : fitsM n = true) : cents_size.f n = some (szI n) := by
  rw [fitsM_iff] at h
  unfold cents_size.f szI
  by_cases c : n < 0
  · rw [if_pos c, if_pos c, w_id (by omega) (by omega), u_id (by omega) (by omega)]
  · rw [if_neg c, if_neg c, u_id (by omega) (by omega)]
theorem maskN (a : Nat) (ha : a < 18446744073709551616) : Go.bits .and .u64 (a : Int) 4294967295 = ((a % 4294967296 : Nat) : Int) := by
  have h := bits_and_u64_nat a 4294967295 ha (by omega)
  have e : a &&& 4294967295 = a % 4294967296 := Nat.and_two_pow_sub_one_eq_mod a 32
  rw [e] at h
  exact h
theorem divN (a : Nat) : (a : Int) / 4294967296 = ((a / 4294967296 : Nat) : Int) := by omega
theorem mulN (a b : Nat) : (a : Int) * (b : Int) = ((a * b : Nat) : Int) := (Int.natCast_mul a b).symm
theorem addN (a b : Nat) : (a : Int) + (b : Int) = ((a + b : Nat) : Int) := (Int.natCast_add a b).symm
theorem wrapN (a : Nat) (ha : a < 18446744073709551616) : IntKind.u64.wrap (a : Int) = (a : Int) := by rw [uwrap]; omega
theorem wrapM (a : Nat) : IntKind.u64.wrap (a : Int) = ((a % 18446744073709551616 : Nat) : Int) := by rw [uwrap]; omega
theorem mul64_f (x y : Nat) (hx : x < 18446744073709551616) (hy : y < 18446744073709551616) : bits_Mul64.f (x : Int) (y : Int) = some (((x * y / 18446744073709551616 : Nat) : Int), ((x * y % 18446744073709551616 : Nat) : Int)) := by
  obtain ⟨bd, bt, bw, hhi⟩ := Lib.mul64_hi x y hx hy
  have ba := Lib.half_mul_le (a := x / 4294967296) (b := y / 4294967296) (by omega) (by omega)
  have bb := Lib.half_mul_le (a := x / 4294967296) (b := y % 4294967296) (by omega) (by omega)
  have bc := Lib.half_mul_le (a := x % 4294967296) (b := y / 4294967296) (by omega) (by omega)
  have ba' : x / 4294967296 * (y / 4294967296) < 18446744073709551616 := by omega
  have bb' : x / 4294967296 * (y % 4294967296) < 18446744073709551616 := by omega
  have bc' : x % 4294967296 * (y / 4294967296) < 18446744073709551616 := by omega
  have bh1 : x / 4294967296 * (y / 4294967296) + (x / 4294967296 * (y % 4294967296) + x % 4294967296 * (y % 4294967296) / 4294967296) / 4294967296 < 18446744073709551616 := by omega
  have bh : x / 4294967296 * (y / 4294967296) + (x / 4294967296 * (y % 4294967296) + x % 4294967296 * (y % 4294967296) / 4294967296) / 4294967296 + ((x / 4294967296 * (y % 4294967296) + x % 4294967296 * (y % 4294967296) / 4294967296) % 4294967296 + x % 4294967296 * (y / 4294967296)) / 4294967296 < 18446744073709551616 := by omega
  unfold bits_Mul64.f
  simp only [maskN x hx, maskN y hy, divN, mulN, addN, wrapN _ bd, wrapN _ bb', wrapN _ bt, maskN _ bt, wrapN _ bc', wrapN _ bw, wrapN _ ba', wrapN _ bh1, wrapN _ bh, wrapM (x * y)]
  rw [hhi]
def awayP (m : Int) (bl : Bool) (q r y : Int) : Bool := if m = 5 then decide (y - r < r) || (r == y - r && q % 2 == 1) else awayAll m bl
def mdQ (a b c : Int) : Int := szI a * szI b / szI c
def mdR (a b c : Int) : Int := szI a * szI b % szI c
def mdN (a b c m : Int) : Int := if 0 < mdR a b c ∧ awayP m (belowB a b c) (mdQ a b c) (mdR a b c) (szI c) = true then mdQ a b c + 1 else mdQ a b c
def mdV (a b c m : Int) : Int × Int := if 1152921504606846976 < mdN a b c m then (0, 3) else (if belowB a b c = true then -mdN a b c m else mdN a b c m, 0)
def mulDiv (a b c m : Int) : Int × Int := if fitsM a = true ∧ fitsM b = true ∧ fitsM c = true ∧ 1 ≤ m ∧ m ≤ 5 then (if c = 0 then (0, 4) else mdV a b c m) else (0, 2)
theorem mdR_rng {a b c : Int} (ha : fitsM a = true) (hb : fitsM b = true) (hc : fitsM c = true) (h0 : c ≠ 0) : 0 ≤ mdQ a b c ∧ 0 ≤ mdR a b c ∧ mdR a b c < szI c ∧ mdQ a b c ≤ szI a * szI b := by
  have ra := szI_rng ha
  have rb := szI_rng hb
  have pc := szI_pos h0
  have hp := Int.mul_nonneg ra.1 rb.1
  unfold mdQ mdR
  refine ⟨Int.ediv_nonneg hp (by omega), Int.emod_nonneg _ (by omega), Int.emod_lt_of_pos _ (by omega), ?_⟩
  exact Int.ediv_le_self _ hp
theorem div64_0 (k : Nat) {lo y : Int} (h1 : 0 ≤ lo) (h2 : lo < 18446744073709551616) (hy : 1 ≤ y) : bits_Div64.f k 0 lo y = some (lo / y, lo % y) := by
  unfold bits_Div64.f
  have e1 := Int.tdiv_eq_ediv_of_nonneg (b := y) h1
  have e2 := Int.tmod_eq_emod_of_nonneg (b := y) h1
  have b1 := Int.ediv_nonneg h1 (show 0 ≤ y by omega)
  have b2 := Int.ediv_le_self y h1
  rw [if_neg (by omega), if_neg (by omega), if_pos rfl, e1, e2, u_id (by omega) (by omega)]
theorem signed_f {q : Int} (bl : Bool) (h : 0 ≤ q) (h2 : q ≤ 2305843009213693953) : cents_signed.f q bl = some (if 1152921504606846976 < q then (0, 3) else (if bl = true then -q else q, 0)) := by
  unfold cents_signed.f
  by_cases c : q > 1152921504606846976
  · rw [if_pos c, if_pos (show 1152921504606846976 < q from c)]
  · rw [if_neg c, if_neg (show ¬ 1152921504606846976 < q from c)]
    have e : wrap64 q = q := w_id (by omega) (by omega)
    have e2 : wrap64 (-q) = -q := w_id (by omega) (by omega)
    rw [e, e2]
    cases bl <;> rfl
theorem awayB_P {m : Int} {bl : Bool} {q r y : Int} (hq : 0 ≤ q) (hr : 0 ≤ r) (hry : r < y) (hy : y ≤ 1152921504606846976) : awayB m bl q r y = awayP m bl q r y := by
  unfold awayB awayP
  have e : IntKind.u64.wrap (y - r) = y - r := u_id (by omega) (by omega)
  have e2 := Int.tmod_eq_emod_of_nonneg (b := 2) hq
  rw [e, e2]
end Go.Proofs.YtliooghmpkdmoaaDoor.P
end
section
namespace Go.Proofs.YtliooghmpkdmoaaDoor.P
set_option linter.unusedVariables false
set_option linter.unusedSimpArgs false
set_option linter.unusedSectionVars false
open Go.RowKit Go.Proofs.YtliooghmpkdmoaaDoorW.PrintWords Go.Proofs.YtliooghmpkdmoaaDoorW.PrintMore Go.Proofs.YtliooghmpkdmoaaDoor.X
theorem qd_up {B v y1 y0 u u1 q r : Nat} (hv : v = y1 * B + y0) (hu : u < v) (h1 : u1 < B) (hq : u = q * y1 + r) (ht : B ≤ q ∨ B * r + u1 < q * y0) : u * B + u1 < q * v := by
  rcases ht with h | h
  · have a : (u + 1) * B ≤ v * B := Nat.mul_le_mul_right B hu
    have b : v * B ≤ q * v := by rw [Nat.mul_comm v B]; exact Nat.mul_le_mul_right v h
    have c : (u + 1) * B = u * B + B := by rw [Nat.add_mul, Nat.one_mul]
    omega
  · have e : q * v = q * y1 * B + q * y0 := by rw [hv, Nat.mul_add, Nat.mul_assoc]
    have e2 : u * B = q * y1 * B + B * r := by rw [hq, Nat.add_mul, Nat.mul_comm r B]
    omega
theorem qd_dn {B v y1 y0 u u1 q r : Nat} (hv : v = y1 * B + y0) (hq : u = q * y1 + r) (ht : q * y0 ≤ B * r + u1) : q * v ≤ u * B + u1 := by
  have e : q * v = q * y1 * B + q * y0 := by rw [hv, Nat.mul_add, Nat.mul_assoc]
  have e2 : u * B = q * y1 * B + B * r := by rw [hq, Nat.add_mul, Nat.mul_comm r B]
  omega
theorem qd_big {B y0 q r u1 : Nat} (h0 : y0 < B) (hq : q ≤ B) (hr : B ≤ r) : q * y0 ≤ B * r + u1 := by
  have a : q * y0 ≤ B * y0 := Nat.mul_le_mul_right y0 hq
  have b : B * y0 ≤ B * r := Nat.mul_le_mul_left B (by omega)
  omega
theorem qd_start {B v y1 y0 u : Nat} (hv : v = y1 * B + y0) (hu : u < v) (h0 : y0 < B) (hy : B ≤ 2 * y1) : u / y1 ≤ B + 1 := by
  have : u < y1 * (B + 2) := by
    have : y1 * (B + 2) = y1 * B + 2 * y1 := by rw [Nat.mul_add, Nat.mul_comm y1 2]
    omega
  have := Nat.div_lt_of_lt_mul this
  omega
theorem qd_eq {N v q : Nat} (hv : 0 < v) (h1 : q * v ≤ N) (h2 : N / v ≤ q) : q = N / v := by
  have := (Nat.le_div_iff_mul_le hv).2 h1
  omega
theorem qd_le {N v q : Nat} (hv : 0 < v) (h : N < q * v) : N / v ≤ q - 1 ∧ 1 ≤ q := by
  have := (Nat.div_lt_iff_lt_mul hv).2 h
  generalize N / v = z at this ⊢
  omega
theorem bitLen_lo : ∀ (n x : Nat), x < 2 ^ n → n ≤ 64 → x ≠ 0 → 2 ^ Lib.bitLen x ≤ 2 * x
  | 0, x, h, _, h0 => absurd (by omega) h0
  | n + 1, x, h, hn, h0 => by
    have h64 : x < 2 ^ 64 := Nat.lt_of_lt_of_le h (Nat.pow_le_pow_right (by decide) hn)
    by_cases c : x / 2 = 0
    · have : x = 1 := by omega
      subst this
      decide
    · rw [Lib.bitLen_half x h0 h64, Nat.pow_add]
      have := bitLen_lo n (x / 2) (by rw [Nat.pow_succ] at h; omega) (by omega) c
      omega
theorem bitLen_hi : ∀ (n x : Nat), x < 2 ^ n → n ≤ 64 → x < 2 ^ Lib.bitLen x
  | 0, x, h, _ => by
    have : x = 0 := by omega
    subst this
    decide
  | n + 1, x, h, hn => by
    have h64 : x < 2 ^ 64 := Nat.lt_of_lt_of_le h (Nat.pow_le_pow_right (by decide) hn)
    by_cases c : x = 0
    · subst c
      decide
    · rw [Lib.bitLen_half x c h64, Nat.pow_add]
      have := bitLen_hi n (x / 2) (by rw [Nat.pow_succ] at h; omega) (by omega)
      omega
theorem word_rest {u u1 c : Nat} (h1 : u1 < 4294967296) (hc : c ≤ u * 4294967296 + u1) (hr : u * 4294967296 + u1 - c < 18446744073709551616) :
    IntKind.u64.wrap (IntKind.u64.wrap (IntKind.u64.wrap ((u : Int) * 4294967296) + (u1 : Int)) - IntKind.u64.wrap (c : Int)) = ((u * 4294967296 + u1 - c : Nat) : Int) := by
  rw [uwrap, uwrap, uwrap, uwrap]
  omega
section
variable {v y1 y0 s u u1 u0 : Nat} {X : Int × Int} (hv : v = y1 * 4294967296 + y0) (h0 : y0 < 4294967296) (hy1 : 2147483648 ≤ y1) (hy2 : y1 < 4294967296)
include hv h0 hy1 hy2
theorem d_l0 (hu : u < v) (h1 : u1 < 4294967296) (K : Ev (fun k => bits_Div64.j2 k (v : Int) (s : Int) (y1 : Int) (y0 : Int) (u : Int) (u1 : Int) (u0 : Int) (((u * 4294967296 + u1) / v : Nat) : Int)) X) :
    ∀ q r : Nat, u = q * y1 + r → (u * 4294967296 + u1) / v ≤ q → r < 4294967296 → q ≤ 4294967297 → Ev (fun k => bits_Div64.l0 k (v : Int) (s : Int) (y1 : Int) (y0 : Int) (u : Int) (u1 : Int) (u0 : Int) (q : Int) (r : Int)) X := by
  have hv0 : 0 < v := by omega
  intro q
  induction q with
  | zero =>
    intro r hq hle hr hb
    refine Ev_succ ?_
    simp only [bits_Div64.l0]
    simp only [if_neg (show ¬ (((0 : Nat) : Int) ≥ 4294967296) by omega)]
    have e : decide (IntKind.u64.wrap (((0 : Nat) : Int) * (y0 : Int)) > IntKind.u64.wrap (IntKind.u64.wrap (4294967296 * (r : Int)) + (u1 : Int))) = false := by
      rw [decide_eq_false_iff_not, show ((0 : Nat) : Int) * (y0 : Int) = 0 by simp, uwrap, uwrap, uwrap]
      omega
    rw [e]
    refine Ev_succ ?_
    simp only [bits_Div64.j1, Bool.false_eq_true, if_false]
    have e2 : (0 : Nat) = (u * 4294967296 + u1) / v := by generalize (u * 4294967296 + u1) / v = z at hle; omega
    rw [e2]
    exact K
  | succ q ih =>
    intro r hq hle hr hb
    refine Ev_succ ?_
    have hT : (4294967296 ≤ q + 1 ∨ 4294967296 * r + u1 < (q + 1) * y0) → Ev (fun k => bits_Div64.j1 k (v : Int) (s : Int) (y1 : Int) (y0 : Int) (u : Int) (u1 : Int) (u0 : Int) ((q + 1 : Nat) : Int) (r : Int) true) X := by
      intro ht
      have hlt := qd_up hv hu h1 hq ht
      have hl2 := (qd_le hv0 hlt).1
      have hq2 : u = q * y1 + (r + y1) := by rw [hq, Nat.add_mul, Nat.one_mul]; omega
      refine Ev_succ ?_
      simp only [bits_Div64.j1, if_true]
      have e1 : IntKind.u64.wrap ((r : Int) + (y1 : Int)) = ((r + y1 : Nat) : Int) := by rw [uwrap]; omega
      have e2 : IntKind.u64.wrap (((q + 1 : Nat) : Int) - 1) = (q : Int) := by rw [uwrap]; omega
      rw [e1, e2]
      by_cases c : 4294967296 ≤ r + y1
      · simp only [if_pos (show ((r + y1 : Nat) : Int) ≥ 4294967296 by omega)]
        have hd := qd_dn hv hq2 (u1 := u1) (qd_big h0 (by omega) c)
        have := qd_eq hv0 hd (by omega)
        rw [this]
        exact K
      · simp only [if_neg (show ¬ (((r + y1 : Nat) : Int) ≥ 4294967296) by omega)]
        exact ih (r + y1) hq2 (by omega) (by omega) (by omega)
    simp only [bits_Div64.l0]
    by_cases c : 4294967296 ≤ q + 1
    · simp only [if_pos (show ((q + 1 : Nat) : Int) ≥ 4294967296 by omega)]
      exact hT (Or.inl c)
    · simp only [if_neg (show ¬ (((q + 1 : Nat) : Int) ≥ 4294967296) by omega)]
      have b1 : (q + 1) * y0 < 18446744073709551616 := by
        have a : (q + 1) * y0 ≤ 4294967295 * y0 := Nat.mul_le_mul_right y0 (by omega)
        omega
      have e1 : IntKind.u64.wrap (((q + 1 : Nat) : Int) * (y0 : Int)) = (((q + 1) * y0 : Nat) : Int) := by rw [mulN, wrapN _ b1]
      have e2 : IntKind.u64.wrap (IntKind.u64.wrap (4294967296 * (r : Int)) + (u1 : Int)) = ((4294967296 * r + u1 : Nat) : Int) := by rw [uwrap, uwrap]; omega
      rw [e1, e2]
      by_cases c2 : 4294967296 * r + u1 < (q + 1) * y0
      · rw [decide_eq_true (by omega)]
        exact hT (Or.inr c2)
      · rw [decide_eq_false (by omega)]
        refine Ev_succ ?_
        simp only [bits_Div64.j1, Bool.false_eq_true, if_false]
        have hd := qd_dn hv hq (u1 := u1) (by omega)
        rw [qd_eq hv0 hd hle]
        exact K
theorem d_fin {U Q1 : Nat} (hU : U < v) (hv64 : v < 18446744073709551616) (h0' : u0 < 4294967296) (hQ : Q1 < 4294967296) :
    (IntKind.u64.wrap (IntKind.u64.wrap ((Q1 : Int) * 4294967296) + (((U * 4294967296 + u0) / v : Nat) : Int)), shr .u64 (IntKind.u64.wrap (IntKind.u64.wrap (IntKind.u64.wrap ((U : Int) * 4294967296) + (u0 : Int)) - IntKind.u64.wrap ((((U * 4294967296 + u0) / v : Nat) : Int) * (v : Int)))) (s : Int)) = (((Q1 * 4294967296 + (U * 4294967296 + u0) / v : Nat) : Int), shr .u64 (((U * 4294967296 + u0) % v : Nat) : Int) (s : Int)) := by
  have hv0 : 0 < v := by omega
  have hm := Nat.div_add_mod (U * 4294967296 + u0) v
  have hl := Nat.mod_lt (U * 4294967296 + u0) hv0
  have hq : (U * 4294967296 + u0) / v < 4294967296 := by
    rw [Nat.div_lt_iff_lt_mul hv0]
    omega
  rw [mulN, Nat.mul_comm ((U * 4294967296 + u0) / v) v]
  generalize (U * 4294967296 + u0) / v = z at hm hq ⊢
  generalize (U * 4294967296 + u0) % v = y at hm hl ⊢
  generalize v * z = m at hm ⊢
  rw [word_rest (by omega) (by omega) (by omega)]
  have e : U * 4294967296 + u0 - m = y := by omega
  have e2 : IntKind.u64.wrap (IntKind.u64.wrap ((Q1 : Int) * 4294967296) + (z : Int)) = ((Q1 * 4294967296 + z : Nat) : Int) := by rw [uwrap, uwrap]; omega
  rw [e, e2]
theorem d_l1 {U Q1 : Nat} (hU : U < v) (h0' : u0 < 4294967296) (hQ : Q1 < 4294967296) :
    ∀ q r : Nat, U = q * y1 + r → (U * 4294967296 + u0) / v ≤ q → r < 4294967296 → q ≤ 4294967297 → Ev (fun k => bits_Div64.l1 k (v : Int) (s : Int) (y1 : Int) (y0 : Int) (u0 : Int) (Q1 : Int) (r : Int) (U : Int) (q : Int)) (((Q1 * 4294967296 + (U * 4294967296 + u0) / v : Nat) : Int), shr .u64 (((U * 4294967296 + u0) % v : Nat) : Int) (s : Int)) := by
  have hv0 : 0 < v := by omega
  have hfin := d_fin (s := s) hv h0 hy1 hy2 hU (by omega) h0' hQ
  have hs : 0 ≤ (s : Int) := by omega
  intro q
  induction q with
  | zero =>
    intro r hq hle hr hb
    refine Ev_succ ?_
    simp only [bits_Div64.l1]
    simp only [if_neg (show ¬ (((0 : Nat) : Int) ≥ 4294967296) by omega)]
    have e : decide (IntKind.u64.wrap (((0 : Nat) : Int) * (y0 : Int)) > IntKind.u64.wrap (IntKind.u64.wrap (4294967296 * (r : Int)) + (u0 : Int))) = false := by
      rw [decide_eq_false_iff_not, show ((0 : Nat) : Int) * (y0 : Int) = 0 by simp, uwrap, uwrap, uwrap]
      omega
    rw [e]
    refine Ev_succ ?_
    simp only [bits_Div64.j4, Bool.false_eq_true, if_false, if_pos hs]
    have e2 : (0 : Nat) = (U * 4294967296 + u0) / v := by generalize (U * 4294967296 + u0) / v = z at hle; omega
    rw [e2, hfin]
    exact Ev.now _
  | succ q ih =>
    intro r hq hle hr hb
    refine Ev_succ ?_
    have hT : (4294967296 ≤ q + 1 ∨ 4294967296 * r + u0 < (q + 1) * y0) → Ev (fun k => bits_Div64.j4 k (v : Int) (s : Int) (y1 : Int) (y0 : Int) (u0 : Int) (Q1 : Int) (r : Int) (U : Int) ((q + 1 : Nat) : Int) true) (((Q1 * 4294967296 + (U * 4294967296 + u0) / v : Nat) : Int), shr .u64 (((U * 4294967296 + u0) % v : Nat) : Int) (s : Int)) := by
      intro ht
      have hlt := qd_up hv hU h0' hq ht
      have hl2 := (qd_le hv0 hlt).1
      have hq2 : U = q * y1 + (r + y1) := by rw [hq, Nat.add_mul, Nat.one_mul]; omega
      refine Ev_succ ?_
      simp only [bits_Div64.j4, if_true]
      have e1 : IntKind.u64.wrap ((r : Int) + (y1 : Int)) = ((r + y1 : Nat) : Int) := by rw [uwrap]; omega
      have e2 : IntKind.u64.wrap (((q + 1 : Nat) : Int) - 1) = (q : Int) := by rw [uwrap]; omega
      rw [e1, e2]
      by_cases c : 4294967296 ≤ r + y1
      · simp only [if_pos (show ((r + y1 : Nat) : Int) ≥ 4294967296 by omega), if_pos hs]
        have hd := qd_dn hv hq2 (u1 := u0) (qd_big h0 (by omega) c)
        have := qd_eq hv0 hd (by omega)
        rw [this, hfin]
        exact Ev.now _
      · simp only [if_neg (show ¬ (((r + y1 : Nat) : Int) ≥ 4294967296) by omega)]
        exact ih (r + y1) hq2 (by omega) (by omega) (by omega)
    simp only [bits_Div64.l1]
    by_cases c : 4294967296 ≤ q + 1
    · simp only [if_pos (show ((q + 1 : Nat) : Int) ≥ 4294967296 by omega)]
      exact hT (Or.inl c)
    · simp only [if_neg (show ¬ (((q + 1 : Nat) : Int) ≥ 4294967296) by omega)]
      have b1 : (q + 1) * y0 < 18446744073709551616 := by
        have a : (q + 1) * y0 ≤ 4294967295 * y0 := Nat.mul_le_mul_right y0 (by omega)
        omega
      have e1 : IntKind.u64.wrap (((q + 1 : Nat) : Int) * (y0 : Int)) = (((q + 1) * y0 : Nat) : Int) := by rw [mulN, wrapN _ b1]
      have e2 : IntKind.u64.wrap (IntKind.u64.wrap (4294967296 * (r : Int)) + (u0 : Int)) = ((4294967296 * r + u0 : Nat) : Int) := by rw [uwrap, uwrap]; omega
      rw [e1, e2]
      by_cases c2 : 4294967296 * r + u0 < (q + 1) * y0
      · rw [decide_eq_true (by omega)]
        exact hT (Or.inr c2)
      · rw [decide_eq_false (by omega)]
        refine Ev_succ ?_
        simp only [bits_Div64.j4, Bool.false_eq_true, if_false, if_pos hs]
        have hd := qd_dn hv hq (u1 := u0) (by omega)
        rw [qd_eq hv0 hd hle, hfin]
        exact Ev.now _
theorem d_guess {U : Nat} (hU : U < v) : IntKind.u64.wrap (Int.tdiv (U : Int) (y1 : Int)) = ((U / y1 : Nat) : Int) ∧ IntKind.u64.wrap ((U : Int) - IntKind.u64.wrap (IntKind.u64.wrap (Int.tdiv (U : Int) (y1 : Int)) * (y1 : Int))) = ((U % y1 : Nat) : Int) ∧ U = U / y1 * y1 + U % y1 ∧ U % y1 < 4294967296 ∧ U / y1 ≤ 4294967297 ∧ (∀ u1, u1 < 4294967296 → (U * 4294967296 + u1) / v ≤ U / y1) := by
  have hvB : y1 * 4294967296 ≤ v := by omega
  have hv0 : 0 < v := by omega
  have hg := qd_start hv hU h0 (by omega)
  have hm := Nat.div_add_mod U y1
  have hl := Nat.mod_lt U (show 0 < y1 by omega)
  rw [Nat.mul_comm] at hm
  have e : IntKind.u64.wrap (Int.tdiv (U : Int) (y1 : Int)) = ((U / y1 : Nat) : Int) := by
    rw [Int.tdiv_eq_ediv_of_nonneg (by omega), ← Int.natCast_ediv, uwrap]
    generalize U / y1 = z at hg ⊢
    omega
  refine ⟨e, ?_, hm.symm, by omega, by omega, ?_⟩
  · rw [e, mulN]
    generalize U / y1 * y1 = z at hm ⊢
    generalize U % y1 = r at hm hl ⊢
    rw [uwrap, uwrap]
    omega
  · intro u1 hu1
    have h2 : U * 4294967296 + u1 < (U / y1 + 1) * v := by
      have b : (U / y1 + 1) * y1 = U / y1 * y1 + y1 := by rw [Nat.add_mul, Nat.one_mul]
      have c : U + 1 ≤ (U / y1 + 1) * y1 := by rw [b]; omega
      have d := Nat.mul_le_mul_right 4294967296 c
      have e : (U / y1 + 1) * y1 * 4294967296 ≤ (U / y1 + 1) * v := by
        rw [Nat.mul_assoc]
        exact Nat.mul_le_mul_left (U / y1 + 1) hvB
      exact Nat.lt_of_lt_of_le (show U * 4294967296 + u1 < (U + 1) * 4294967296 by clear d e c b; omega) (Nat.le_trans d e)
    have h3 := (qd_le hv0 h2).1
    rw [Nat.add_sub_cancel] at h3
    exact h3
theorem d_j2 (z U : Nat) (hm : v * z + U = u * 4294967296 + u1) (hl : U < v) (hu : u < v) (h1 : u1 < 4294967296) (h0' : u0 < 4294967296) : Ev (fun k => bits_Div64.j2 k (v : Int) (s : Int) (y1 : Int) (y0 : Int) (u : Int) (u1 : Int) (u0 : Int) (z : Int)) (((((u * 4294967296 + u1) * 4294967296 + u0) / v : Nat) : Int), shr .u64 ((((u * 4294967296 + u1) * 4294967296 + u0) % v : Nat) : Int) (s : Int)) := by
  have hv0 : 0 < v := by omega
  have hQ : z < 4294967296 := by
    rcases Nat.lt_or_ge z 4294967296 with h | h
    · exact h
    · have a := Nat.mul_le_mul_left v h
      omega
  have eN : (u * 4294967296 + u1) * 4294967296 + u0 = (U * 4294967296 + u0) + z * 4294967296 * v := by
    rw [← hm, Nat.add_mul, Nat.mul_right_comm z 4294967296 v, Nat.mul_comm z v]
    omega
  have e1 : ((u * 4294967296 + u1) * 4294967296 + u0) / v = z * 4294967296 + (U * 4294967296 + u0) / v := by
    rw [eN, Nat.add_mul_div_right _ _ hv0, Nat.add_comm]
  have e2 : ((u * 4294967296 + u1) * 4294967296 + u0) % v = (U * 4294967296 + u0) % v := by
    rw [eN, Nat.add_mul_mod_self_right]
  rw [e1, e2]
  refine Ev_succ ?_
  simp only [bits_Div64.j2]
  have eW : IntKind.u64.wrap (IntKind.u64.wrap (IntKind.u64.wrap ((u : Int) * 4294967296) + (u1 : Int)) - IntKind.u64.wrap ((z : Int) * (v : Int))) = (U : Int) := by
    rw [mulN, Nat.mul_comm z v]
    generalize v * z = m at hm ⊢
    rw [word_rest h1 (by omega) (by omega)]
    omega
  simp only [eW, if_neg (show ¬ (y1 : Int) = 0 by omega)]
  obtain ⟨g1, g2, g3, g4, g5, g6⟩ := d_guess hv h0 hy1 hy2 hl
  rw [g2, g1]
  exact d_l1 hv h0 hy1 hy2 hl h0' hQ (U / y1) (U % y1) g3 (g6 u0 h0') g4 g5
end
theorem shl_nat {x s : Nat} (hs : s ≤ 64) : shl .u64 (x : Int) (s : Int) = ((x * 2 ^ s % 18446744073709551616 : Nat) : Int) := by
  show IntKind.u64.wrap ((x : Int) * 2 ^ min (s : Int).toNat 64) = _
  rw [Int.toNat_natCast, Nat.min_eq_left hs, uwrap]
  have : (x : Int) * 2 ^ s = ((x * 2 ^ s : Nat) : Int) := by rw [Int.natCast_mul, Int.natCast_pow]; rfl
  rw [this]
  omega
theorem shr_nat {x s : Nat} (hs : s ≤ 64) : shr .u64 (x : Int) (s : Int) = ((x / 2 ^ s : Nat) : Int) := by
  show (x : Int) / 2 ^ min (s : Int).toNat 64 = _
  rw [Int.toNat_natCast, Nat.min_eq_left hs, Int.natCast_ediv, Int.natCast_pow]
  rfl
theorem or_nat {a b s : Nat} (h : b < 2 ^ s) (h2 : a * 2 ^ s + b < 18446744073709551616) : Go.bits .or .u64 ((a * 2 ^ s : Nat) : Int) (b : Int) = ((a * 2 ^ s + b : Nat) : Int) := by
  rw [bits_or_u64_nat _ _ (by omega) (by omega), Nat.mul_comm a, ← Nat.two_pow_add_eq_or_of_lt h a]
theorem div64_n {hi lo y P Q : Nat} (hPQ : Q * P = 18446744073709551616) (hh : hi < y) (hl : lo < 18446744073709551616) :
    (hi * P + lo / Q) * 18446744073709551616 + lo * P % 18446744073709551616 = (hi * 18446744073709551616 + lo) * P ∧ hi * P + lo / Q < y * P ∧ lo / Q < P := by
  have hP : 0 < P := by
    rcases Nat.eq_zero_or_pos P with h | h
    · subst h; omega
    · exact h
  have hQ : 0 < Q := by
    rcases Nat.eq_zero_or_pos Q with h | h
    · subst h; omega
    · exact h
  have hm := Nat.div_add_mod lo Q
  have hr := Nat.mod_lt lo hQ
  have hd : lo / Q < P := by
    rw [Nat.div_lt_iff_lt_mul hQ, Nat.mul_comm, hPQ]
    exact hl
  have e1 : lo * P = lo / Q * 18446744073709551616 + lo % Q * P := by
    have : lo * P = (Q * (lo / Q) + lo % Q) * P := by rw [hm]
    rw [this, Nat.add_mul, Nat.mul_right_comm, hPQ, Nat.mul_comm 18446744073709551616]
  have h2 : lo % Q * P < 18446744073709551616 := by
    rw [← hPQ]
    exact Nat.mul_lt_mul_of_pos_right hr hP
  have e2 : lo * P % 18446744073709551616 = lo % Q * P := by
    rw [e1, Nat.add_comm, Nat.add_mul_mod_self_right, Nat.mod_eq_of_lt h2]
  refine ⟨?_, ?_, hd⟩
  · rw [e2, Nat.add_mul, Nat.add_mul, e1, Nat.mul_right_comm hi P]
    omega
  · have := Nat.mul_le_mul_right P (show hi + 1 ≤ y from hh)
    rw [Nat.add_mul, Nat.one_mul] at this
    omega
theorem div64_f {hi lo y : Nat} (hh : hi < y) (hl : lo < 18446744073709551616) (hy : y < 18446744073709551616) :
    Ev (fun k => bits_Div64.f k (hi : Int) (lo : Int) (y : Int)) ((((hi * 18446744073709551616 + lo) / y : Nat) : Int), (((hi * 18446744073709551616 + lo) % y : Nat) : Int)) := by
  by_cases c0 : hi = 0
  · subst c0
    refine Ev_all fun k => ?_
    have := div64_0 k (lo := (lo : Int)) (y := (y : Int)) (by omega) (by omega) (by omega)
    rw [show ((0 : Nat) : Int) = 0 from rfl, this, Nat.zero_mul, Nat.zero_add, Int.natCast_ediv, Int.natCast_emod]
  · have hb1 := bitLen_lo 64 y hy (by decide) (by omega)
    have hb2 := bitLen_hi 64 y hy (by decide)
    have hb3 := Lib.bitLen_le y 64 (by decide) hy
    obtain ⟨b, hb⟩ : ∃ b, Lib.bitLen y = b := ⟨_, rfl⟩
    rw [hb] at hb1 hb2 hb3
    obtain ⟨s, hs⟩ : ∃ s, s = 64 - b := ⟨_, rfl⟩
    have hPQ : 2 ^ b * 2 ^ s = 18446744073709551616 := by
      rw [← Nat.pow_add, show b + s = 64 by omega]
    obtain ⟨n1, n2, n3⟩ := div64_n (hi := hi) (lo := lo) (y := y) hPQ hh hl
    have hv1 : y * 2 ^ s < 18446744073709551616 := by
      rw [← hPQ]
      exact Nat.mul_lt_mul_of_pos_right hb2 (Nat.two_pow_pos s)
    have hv2 : 18446744073709551616 ≤ 2 * (y * 2 ^ s) := by
      rw [← hPQ, ← Nat.mul_assoc]
      exact Nat.mul_le_mul_right _ hb1
    have hhs : hi * 2 ^ s ≤ y * 2 ^ s := Nat.mul_le_mul_right _ (by omega)
    unfold bits_Div64.f
    have eL : bits_LeadingZeros64.f (y : Int) = some (s : Int) := by
      unfold bits_LeadingZeros64.f
      rw [if_pos (by omega), Int.toNat_natCast, hb]
      congr 1
      omega
    have e1 : IntKind.u64.wrap (s : Int) = (s : Int) := u_id (by omega) (by omega)
    have e2 : IntKind.u64.wrap (64 - (s : Int)) = (b : Int) := by rw [u_id (by omega) (by omega)]; omega
    have e3 : shl .u64 (y : Int) (s : Int) = ((y * 2 ^ s : Nat) : Int) := by rw [shl_nat (by omega), Nat.mod_eq_of_lt hv1]
    have e4 : shl .u64 (hi : Int) (s : Int) = ((hi * 2 ^ s : Nat) : Int) := by rw [shl_nat (by omega), Nat.mod_eq_of_lt (by omega)]
    have e5 : shr .u64 (lo : Int) (b : Int) = ((lo / 2 ^ b : Nat) : Int) := shr_nat (by omega)
    have e6 : Go.bits .or .u64 ((hi * 2 ^ s : Nat) : Int) ((lo / 2 ^ b : Nat) : Int) = ((hi * 2 ^ s + lo / 2 ^ b : Nat) : Int) := or_nat n3 (by omega)
    have e7 : shl .u64 (lo : Int) (s : Int) = ((lo * 2 ^ s % 18446744073709551616 : Nat) : Int) := shl_nat (by omega)
    simp only [if_neg (show ¬ (y : Int) = 0 by omega), if_neg (show ¬ (y : Int) ≤ (hi : Int) by omega), if_neg (show ¬ (hi : Int) = 0 by omega), eL, Option.bind_some, e1, e2, e3, e4, e5, e6, e7, if_pos (show 0 ≤ (s : Int) by omega), if_pos (show 0 ≤ (b : Int) by omega)]
    have hw := Nat.mod_lt (lo * 2 ^ s) (show 0 < 18446744073709551616 by decide)
    have hdiv := Nat.mul_div_mul_right (hi * 18446744073709551616 + lo) y (Nat.two_pow_pos s)
    have hmod := Nat.mul_mod_mul_right (2 ^ s) (hi * 18446744073709551616 + lo) y
    have hsh := Nat.mul_div_cancel ((hi * 18446744073709551616 + lo) % y) (Nat.two_pow_pos s)
    rw [← n1] at hdiv hmod
    clear n1 n3 hb1 hb2 hPQ hhs eL e3 e4 e5 e6 e7
    generalize hi * 2 ^ s + lo / 2 ^ b = u at *
    generalize lo * 2 ^ s % 18446744073709551616 = w at *
    generalize y * 2 ^ s = v at *
    have hvv := Nat.div_add_mod v 4294967296
    have hv0 := Nat.mod_lt v (show 0 < 4294967296 by decide)
    have hww := Nat.div_add_mod w 4294967296
    have hw0 := Nat.mod_lt w (show 0 < 4294967296 by decide)
    rw [maskN v hv1, maskN w hw, divN, divN]
    generalize v / 4294967296 = y1 at *
    generalize v % 4294967296 = y0 at *
    generalize w / 4294967296 = u1 at *
    generalize w % 4294967296 = u0 at *
    simp only [if_neg (show ¬ (y1 : Int) = 0 by omega)]
    have hv : v = y1 * 4294967296 + y0 := by omega
    obtain ⟨g1, g2, g3, g4, g5, g6⟩ := d_guess hv hv0 (by omega) (by omega) n2
    rw [g2, g1]
    have eN : (u * 4294967296 + u1) * 4294967296 + u0 = u * 18446744073709551616 + w := by omega
    have hv3 : 0 < v := by omega
    have J := d_j2 (s := s) hv hv0 (by omega) (by omega) ((u * 4294967296 + u1) / v) ((u * 4294967296 + u1) % v) (Nat.div_add_mod _ v) (Nat.mod_lt _ hv3) n2 (show u1 < 4294967296 by omega) hw0
    rw [eN, hdiv, hmod, shr_nat (by omega), hsh] at J
    exact d_l0 hv hv0 (by omega) (by omega) n2 (by omega) J (u / y1) (u % y1) g3 (g6 u1 (by omega)) g4 g5
theorem mulDiv_ev (a b c m : Int) : Ev (fun k => cents_MulDiv.f k a b c m) (mulDiv a b c m) := by
  unfold cents_MulDiv.f mulDiv
  simp only [fitsM_f, Option.bind_some]
  by_cases c1 : fitsM a = true ∧ fitsM b = true ∧ fitsM c = true ∧ 1 ≤ m ∧ m ≤ 5
  · simp only [if_pos c1]
    obtain ⟨ha, hb, hc, hm1, hm2⟩ := c1
    by_cases c2 : c = 0
    · simp only [if_pos c2]
      exact Ev.now _
    · simp only [if_neg c2, size_f ha, size_f hb, size_f hc, Option.bind_some]
      have ra := szI_rng ha
      have rb := szI_rng hb
      have rc := szI_rng hc
      have pc := szI_pos c2
      have hR := mdR_rng ha hb hc c2
      obtain ⟨x, hx⟩ : ∃ x : Nat, szI a = (x : Int) := ⟨(szI a).toNat, by omega⟩
      obtain ⟨y, hy⟩ : ∃ y : Nat, szI b = (y : Int) := ⟨(szI b).toNat, by omega⟩
      obtain ⟨z, hz⟩ : ∃ z : Nat, szI c = (z : Int) := ⟨(szI c).toNat, by omega⟩
      have hQ : mdQ a b c = ((x * y / z : Nat) : Int) := by unfold mdQ; rw [hx, hy, hz, mulN, Int.natCast_ediv]
      have hRR : mdR a b c = ((x * y % z : Nat) : Int) := by unfold mdR; rw [hx, hy, hz, mulN, Int.natCast_emod]
      have hzp : 0 < z := by omega
      rw [hx, hy, hz, mul64_f x y (by omega) (by omega)]
      simp only [Option.bind_some]
      have hm := Nat.div_add_mod (x * y) 18446744073709551616
      have hl := Nat.mod_lt (x * y) (show 0 < 18446744073709551616 by decide)
      by_cases c3 : (z : Int) ≤ ((x * y / 18446744073709551616 : Nat) : Int)
      · simp only [if_pos c3]
        have h1 : 18446744073709551616 ≤ x * y / z := by
          rw [Nat.le_div_iff_mul_le hzp]
          have := Nat.mul_le_mul_left 18446744073709551616 (show z ≤ x * y / 18446744073709551616 by omega)
          omega
        have h2 : 1152921504606846976 < mdN a b c m := by
          unfold mdN
          rw [hQ]
          split <;> omega
        unfold mdV
        rw [if_pos h2]
        exact Ev.now _
      · simp only [if_neg c3]
        refine Ev_bind (div64_f (by omega) hl (by omega)) ?_
        rw [show x * y / 18446744073709551616 * 18446744073709551616 + x * y % 18446744073709551616 = x * y by omega, ← hQ, ← hRR, ← hz]
        rw [awayB_P hR.1 hR.2.1 hR.2.2.1 rc.2]
        refine Ev_all fun k => ?_
        unfold mdV
        by_cases c4 : 1152921504606846976 < mdQ a b c
        · have : 1152921504606846976 < mdN a b c m := by unfold mdN; split <;> omega
          rw [if_pos c4, if_pos this]
        · rw [if_neg c4]
          have e1 : IntKind.u64.wrap (mdQ a b c + 1) = mdQ a b c + 1 := u_id (by omega) (by omega)
          rw [e1]
          show cents_signed.f (mdN a b c m) (belowB a b c) = _
          have : 0 ≤ mdN a b c m ∧ mdN a b c m ≤ 1152921504606846977 := by unfold mdN; split <;> omega
          rw [signed_f _ this.1 (by omega)]
  · simp only [if_neg c1]
    exact Ev.now _
end Go.Proofs.YtliooghmpkdmoaaDoor.P
end
section
namespace Go.Proofs.YtliooghmpkdmoaaDoor.P
set_option linter.unusedVariables false
set_option linter.unusedSimpArgs false
open Go.RowKit Go.Proofs.YtliooghmpkdmoaaDoorW.PrintWords Go.Proofs.YtliooghmpkdmoaaDoorW.PrintMore Go.Proofs.YtliooghmpkdmoaaDoor.X
def letterB (n : Int) : Bool := decide (97 ≤ n) && decide (n ≤ 122)
def digitB (n : Int) : Bool := decide (48 ≤ n) && decide (n ≤ 57)
theorem letter_f (n : Int) : words_letter.f n = some (letterB n) := by
  unfold words_letter.f letterB
  by_cases h : 97 ≤ n
  · rw [if_pos h, decide_eq_true h, Bool.true_and]
  · rw [if_neg h, decide_eq_false h, Bool.false_and]
theorem digit_f (n : Int) : words_digit.f n = some (digitB n) := by
  unfold words_digit.f digitB
  by_cases h : 48 ≤ n
  · rw [if_pos h, decide_eq_true h, Bool.true_and]
  · rw [if_neg h, decide_eq_false h, Bool.false_and]
def chB (s : ByteArray) (i : Nat) : Bool := letterB (bt s (i : Int)) || (!(i == 0) && digitB (bt s (i : Int)))
def nameFrom (s : ByteArray) : Nat → Nat → Bool
  | 0, _ => true
  | d + 1, i => chB s i && nameFrom s d (i + 1)
def nameB (s : ByteArray) : Bool := decide (0 < s.size) && decide (s.size ≤ 12) && nameFrom s s.size 0
theorem nameLoop (s : ByteArray) (hs : s.size ≤ 12) (h0 : letterB (bt s 0) = true) : ∀ (d i : Nat), i + d = s.size → Ev (fun k => words_Name.l0 k s s.size i) (nameFrom s d i)
  | 0, i, hd => by
    refine Ev_succ ?_
    simp only [words_Name.l0, if_neg (show ¬ ((i : Int) < (s.size : Int)) by omega)]
    exact Ev.now _
  | d + 1, i, hd => by
    have hi : i < s.size := by omega
    have ih := nameLoop s hs h0 d (i + 1) (by omega)
    refine Ev_succ ?_
    simp only [words_Name.l0, if_pos (show (i : Int) < (s.size : Int) by omega), if_pos (show 0 ≤ (i : Int) by omega), letter_f, digit_f, Option.bind_some, w_succ hi (by omega), nameFrom, chB]
    cases h1 : letterB (bt s (i : Int)) with
    | true => simp only [if_true, Bool.true_or, Bool.true_and]; exact ih
    | false =>
      simp only [Bool.false_eq_true, if_false, Bool.false_or]
      have hi0 : (i == 0) = false := by
        rw [← Bool.not_eq_true, beq_iff_eq]
        rintro rfl
        rw [show ((0 : Nat) : Int) = 0 from rfl, h0] at h1
        cases h1
      simp only [hi0, Bool.not_false, Bool.true_and]
      cases h2 : digitB (bt s (i : Int)) with
      | true => simp only [if_true, Bool.true_and]; exact ih
      | false => simp only [Bool.false_eq_true, if_false, Bool.false_and]; exact Ev.now _
theorem name_f (s : ByteArray) : Ev (fun k => words_Name.f k s) (nameB s) := by
  have hj : nameB s = false → Ev (fun k => words_Name.j0 k s true) (nameB s) := by
    intro h
    rw [h]
    refine Ev_succ ?_
    simp only [words_Name.j0, if_true]
    exact Ev.now _
  unfold words_Name.f
  by_cases c0 : s.toList = []
  · simp only [if_pos c0]
    refine hj ?_
    have : s.size = 0 := by
      have e : s.toList = s.data.toList := ByteArray.toList_eq s
      rw [e] at c0
      have := congrArg List.length c0
      simpa using this
    simp [nameB, this]
  · simp only [if_neg c0]
    by_cases c1 : (s.size : Int) > 12
    · simp only [if_pos c1]
      exact hj (by simp [nameB]; omega)
    · have hp : 0 < s.size := by
        rcases Nat.eq_zero_or_pos s.size with h | h
        · exfalso
          apply c0
          have e : s.toList = s.data.toList := ByteArray.toList_eq s
          rw [e]
          exact List.length_eq_zero_iff.1 (by simpa using h)
        · exact h
      simp only [if_neg c1, if_pos (show 0 < (s.size : Int) by omega), letter_f, Option.bind_some]
      have hn : nameB s = nameFrom s s.size 0 := by
        unfold nameB
        rw [decide_eq_true hp, decide_eq_true (show s.size ≤ 12 by omega)]
        simp
      cases h1 : letterB (bt s 0) with
      | false =>
        refine hj ?_
        rw [hn]
        obtain ⟨d, hd⟩ : ∃ d, s.size = d + 1 := ⟨s.size - 1, by omega⟩
        rw [hd]
        simp [nameFrom, chB, h1]
      | true =>
        refine Ev_succ ?_
        simp only [words_Name.j0, Bool.not_true, Bool.false_eq_true, if_false]
        rw [hn]
        exact nameLoop s (by omega) h1 s.size 0 (by omega)
abbrev Rt := S32
theorem idxN_ev : ∀ (l : List Rt) (i : Int), ∃ j, Ev (fun k => idxN k l i) j
  | [], i => ⟨-1, Ev.now _⟩
  | x :: r, i => by
    have hn := name_f x.f0
    cases h : nameB x.f0 with
    | true =>
      obtain ⟨j, hj⟩ := idxN_ev r (i + 1)
      rw [h] at hn
      exact ⟨j, Ev_bind hn (by simpa using hj)⟩
    | false =>
      rw [h] at hn
      exact ⟨i, Ev_bind hn (by simpa using Ev.now i)⟩
theorem sameR_ev (l : List Rt) : ∀ (r : List Rt) (i : Int), ∃ b, sameR l r i = some b
  | [], i => ⟨_, rfl⟩
  | x :: r, i => by
    unfold sameR rate_Find.f
    obtain ⟨j, hj⟩ := rate_Find.tot x.f0 l 0
    rw [hj]
    simp only [Option.bind_some]
    split
    · exact sameR_ev l r (i + 1)
    · exact ⟨_, rfl⟩
theorem idxQ_ev : ∀ (l : List Rt) (i : Int), 0 ≤ i → ∃ j, idxQ l i = some j ∧ (j < 0 → ∀ x ∈ l, lowR x.f1 = false)
  | [], i, _ => ⟨_, rfl, fun _ x h => by cases h⟩
  | x :: r, i, hi => by
    unfold idxQ
    cases h : lowR x.f1 with
    | true => exact ⟨i, by simp, fun hj => by omega⟩
    | false =>
      obtain ⟨j, hj, hr⟩ := idxQ_ev r (i + 1) (by omega)
      refine ⟨j, by simpa using hj, fun hj0 y hy => ?_⟩
      rcases List.mem_cons.1 hy with rfl | hy
      · exact h
      · exact hr hj0 y hy
theorem rcheck_ev (l : List Rt) : ∃ v, Ev (fun k => rate_Check.f k l) v ∧ (v = 0 → 0 < l.length ∧ l.length ≤ 8 ∧ ∀ x ∈ l, 1 ≤ x.f1 ∧ x.f1 ≤ 1000000000000) := by
  unfold rate_Check.f
  by_cases c : l.length = 0 ∨ 8 < l.length
  · exact ⟨8, by simp only [if_pos c]; exact Ev.now _, fun h => absurd h (by decide)⟩
  · obtain ⟨j, hj⟩ := idxN_ev l 0
    obtain ⟨b, hb⟩ := sameR_ev l l 0
    obtain ⟨q, hq, hq2⟩ := idxQ_ev l 0 (by omega)
    simp only [if_neg c, hb, hq, Option.bind_some]
    by_cases c1 : 0 ≤ j
    · exact ⟨10, Ev_bind hj (by simp only [if_pos c1]; exact Ev.now _), fun h => absurd h (by decide)⟩
    · by_cases c2 : b = false
      · exact ⟨12, Ev_bind hj (by simp only [if_neg c1, if_pos c2]; exact Ev.now _), fun h => absurd h (by decide)⟩
      · by_cases c3 : (rd_T32 l 0).f1 = 1000000 ∧ q < 0
        · refine ⟨0, Ev_bind hj (by simp only [if_neg c1, if_neg c2, if_pos c3]; exact Ev.now _), fun _ => ⟨by omega, by omega, fun x hx => ?_⟩⟩
          have := hq2 c3.2 x hx
          simp only [lowR, Bool.or_eq_false_iff, decide_eq_false_iff_not] at this
          omega
        · exact ⟨25, Ev_bind hj (by simp only [if_neg c1, if_neg c2, if_neg c3]; exact Ev.now _), fun h => absurd h (by decide)⟩
theorem conv_ev {l : List Rt} {i j : Nat} (hi : i < l.length) (hj : j < l.length) (hc : Ev (fun k => rate_Check.f k l) 0) (n : Int) : Ev (fun k => rate_Convert.f k l n (i : Int) (j : Int) 5) (mulDiv n (rd_T32 l (i : Int)).f1 (rd_T32 l (j : Int)).f1 5) := by
  unfold rate_Convert.f
  refine Ev_bind hc ?_
  simp only [if_true, if_neg (show ¬ (i : Int) < 0 by omega), if_neg (show ¬ (i : Int) ≥ (l.length : Int) by omega), if_neg (show ¬ (j : Int) < 0 by omega), if_neg (show ¬ (j : Int) ≥ (l.length : Int) by omega), if_pos (show 0 ≤ (i : Int) by omega), if_pos (show (i : Int) < (l.length : Int) by omega), if_pos (show 0 ≤ (j : Int) by omega), if_pos (show (j : Int) < (l.length : Int) by omega)]
  exact Ev_bind (mulDiv_ev n _ _ 5) (Ev.now _)
theorem half_near {N b q r : Int} (hb : 1 ≤ b) (hq : 0 ≤ q) (hr : 0 ≤ r) (hrb : r < b) (hN : N = b * q + r) (bl : Bool) : ∃ z, z = (if 0 < r ∧ awayP 5 bl q r b = true then q + 1 else q) ∧ 0 ≤ z ∧ 2 * (z * b) ≤ 2 * N + b ∧ 2 * N ≤ 2 * (z * b) + b := by
  refine ⟨_, rfl, ?_⟩
  have e : awayP 5 bl q r b = (decide (b - r < r) || (r == b - r && q % 2 == 1)) := by unfold awayP; rw [if_pos rfl]
  rw [e]
  have eb : q * b = b * q := Int.mul_comm q b
  split
  · rename_i h
    have h2 : b - r ≤ r := by
      rcases Bool.or_eq_true_iff.1 h.2 with h | h
      · have := of_decide_eq_true h; omega
      · have := beq_iff_eq.1 (Bool.and_eq_true_iff.1 h).1; omega
    have : (q + 1) * b = b * q + b := by rw [Int.add_mul, eb, Int.one_mul]
    omega
  · rename_i h
    have h2 : r ≤ b - r := by
      rcases Int.lt_or_le (b - r) r with c | c
      · exact absurd ⟨by omega, by simp [c]⟩ h
      · exact c
    omega
theorem mdN_near {a b c : Int} (ha : fitsM a = true) (hb : fitsM b = true) (hc : fitsM c = true) (h0 : c ≠ 0) : 0 ≤ mdN a b c 5 ∧ 2 * (mdN a b c 5 * szI c) ≤ 2 * (szI a * szI b) + szI c ∧ 2 * (szI a * szI b) ≤ 2 * (mdN a b c 5 * szI c) + szI c := by
  have hR := mdR_rng ha hb hc h0
  have hm := Int.mul_ediv_add_emod (szI a * szI b) (szI c)
  obtain ⟨z, hz, h1, h2, h3⟩ := half_near (szI_pos h0) hR.1 hR.2.1 hR.2.2.1 hm.symm (belowB a b c)
  have : mdN a b c 5 = z := by rw [hz]; rfl
  rw [this]
  exact ⟨h1, h2, h3⟩
theorem mulDiv_ok {n a b : Int} (h : (mulDiv n a b 5).2 = 0) (hb : b ≠ 0) : fitsM n = true ∧ fitsM a = true ∧ fitsM b = true ∧ mdN n a b 5 ≤ 1152921504606846976 ∧ (mulDiv n a b 5).1 = (if belowB n a b = true then -mdN n a b 5 else mdN n a b 5) := by
  unfold mulDiv at h ⊢
  by_cases c : fitsM n = true ∧ fitsM a = true ∧ fitsM b = true ∧ 1 ≤ (5 : Int) ∧ (5 : Int) ≤ 5
  · rw [if_pos c, if_neg hb] at h ⊢
    unfold mdV at h ⊢
    by_cases c2 : 1152921504606846976 < mdN n a b 5
    · rw [if_pos c2] at h
      exact absurd h (by decide)
    · rw [if_neg c2]
      exact ⟨c.1, c.2.1, c.2.2.1, by omega, rfl⟩
  · rw [if_neg c] at h
    exact absurd h (by decide)
theorem mulDiv_bad {n a b : Int} (h : (mulDiv n a b 5).2 ≠ 0) : (mulDiv n a b 5).1 = 0 := by
  unfold mulDiv mdV at h ⊢
  repeat' split
  all_goals first | rfl | (exfalso; apply h; simp_all)
theorem mulDiv_over {n a b : Int} (hn : fitsM n = true) (ha : fitsM a = true) (hb : fitsM b = true) (h0 : b ≠ 0) : (mulDiv n a b 5).2 = 0 ∨ (mulDiv n a b 5).2 = 3 := by
  unfold mulDiv mdV
  rw [if_pos ⟨hn, ha, hb, by decide, by decide⟩, if_neg h0]
  split
  · exact Or.inr rfl
  · exact Or.inl rfl
theorem below_pos {n a b : Int} (ha : 1 ≤ a) (hb : 1 ≤ b) : belowB n a b = decide (n < 0) := by
  unfold belowB
  rw [decide_eq_false (show ¬ a < 0 by omega), decide_eq_false (show ¬ b < 0 by omega)]
  cases decide (n < 0) <;> rfl
theorem there_back {n a b : Int} (ha : 1 ≤ a) (hb : 1 ≤ b) (h1 : (mulDiv n a b 5).2 = 0) (h2 : (mulDiv (mulDiv n a b 5).1 b a 5).2 = 0) :
    2 * a * ((mulDiv (mulDiv n a b 5).1 b a 5).1 - n) ≤ a + b ∧ 2 * a * (n - (mulDiv (mulDiv n a b 5).1 b a 5).1) ≤ a + b := by
  obtain ⟨f1, f2, f3, f4, f5⟩ := mulDiv_ok h1 (by omega)
  generalize hm : (mulDiv n a b 5).1 = m at h2 f5
  obtain ⟨g1, g2, g3, g4, g5⟩ := mulDiv_ok h2 (by omega)
  generalize hk : (mulDiv m b a 5).1 = k at g5 ⊢
  obtain ⟨p0, p1, p2⟩ := mdN_near f1 f2 f3 (by omega)
  obtain ⟨q0, q1, q2⟩ := mdN_near g1 g2 g3 (by omega)
  rw [below_pos ha hb] at f5
  rw [below_pos hb ha] at g5
  have sa : szI a = a := by unfold szI; rw [if_neg (by omega)]
  have sb : szI b = b := by unfold szI; rw [if_neg (by omega)]
  have sm : szI m = mdN n a b 5 := by
    rw [f5]
    unfold szI
    repeat' split
    all_goals omega
  rw [sm, sa, sb] at q1 q2
  rw [sa, sb] at p1 p2
  generalize mdN n a b 5 = N1 at *
  generalize mdN m b a 5 = N2 at *

  have hA : 2 * (N2 * a) ≤ 2 * (szI n * a) + b + a ∧ 2 * (szI n * a) ≤ 2 * (N2 * a) + b + a := by omega
  have hz : N1 = 0 → N2 = 0 := by
    intro h
    rw [h, Int.zero_mul] at q1 q2
    rcases Int.lt_or_le 0 N2 with c | c
    · have := Int.mul_le_mul_of_nonneg_right (show 1 ≤ N2 from c) (show 0 ≤ a by omega)
      omega
    · omega
  have e1 : ∀ x : Int, 2 * a * x = 2 * (x * a) := fun x => by rw [Int.mul_assoc, Int.mul_comm a x]
  rw [e1, e1]
  by_cases c : n < 0
  · rw [decide_eq_true c, if_pos rfl] at f5
    have sn : szI n = -n := by unfold szI; rw [if_pos c]
    rw [sn, Int.neg_mul] at hA
    have ek : k = -N2 := by
      by_cases c2 : N1 = 0
      · have := hz c2
        rw [g5, this]
        split <;> rfl
      · rw [decide_eq_true (show m < 0 by omega), if_pos rfl] at g5
        exact g5
    rw [ek, Int.sub_mul, Int.sub_mul, Int.neg_mul]
    omega
  · rw [decide_eq_false c] at f5
    have sn : szI n = n := by unfold szI; rw [if_neg c]
    rw [sn] at hA
    have ek : k = N2 := by
      rw [decide_eq_false (show ¬ m < 0 by simp only [Bool.false_eq_true, if_false] at f5; omega)] at g5
      simpa using g5
    rw [ek, Int.sub_mul, Int.sub_mul]
    omega
theorem by_rng (s : ByteArray) : ∀ x ∈ bytesOf s, 0 ≤ x ∧ x < 256 := by
  intro x hx
  unfold bytesOf at hx
  obtain ⟨b, hb, rfl⟩ := List.mem_map.1 hx
  have := b.toNat_lt
  omega
theorem by_len (s : ByteArray) : (bytesOf s).length = s.size := bytesOf_length s
theorem by_str (L : List Int) (h : ∀ x ∈ L, 0 ≤ x ∧ x < 256) : bytesOf (strOfNums L) = L := by
  unfold bytesOf
  rw [strOfNums_data, List.map_map]
  conv => rhs; rw [← List.map_id L]
  refine List.map_congr_left fun x hx => ?_
  have := h x hx
  simp only [Function.comp, id, UInt8.toNat_ofNat']
  omega
theorem by_data (s : ByteArray) : s.data.toList = (bytesOf s).map fun n => UInt8.ofNat n.toNat := by
  unfold bytesOf
  rw [List.map_map]
  conv => lhs; rw [← List.map_id s.data.toList]
  refine List.map_congr_left fun x hx => ?_
  simp only [Function.comp, id, Int.toNat_natCast, UInt8.ofNat_toNat]
theorem str_by (s : ByteArray) : strOfNums (bytesOf s) = s := by
  cases s with
  | mk d =>
    unfold strOfNums
    rw [← by_data]
theorem by_inj {a b : ByteArray} (h : bytesOf a = bytesOf b) : a = b := by rw [← str_by a, ← str_by b, h]
theorem by_app (a b : ByteArray) : bytesOf (a ++ b) = bytesOf a ++ bytesOf b := by
  unfold bytesOf
  rw [show (a ++ b).data = a.data ++ b.data from ByteArray.data_append, Array.toList_append, List.map_append]
theorem by_ext (s : ByteArray) (i j : Nat) : bytesOf (s.extract i j) = ((bytesOf s).take j).drop i := by
  unfold bytesOf
  rw [ByteArray.data_extract, Array.toList_extract, ← List.map_take, ← List.map_drop]
  congr 1
  rw [List.extract_eq_take_drop, List.drop_take]
theorem by_toList (s : ByteArray) (l : List UInt8) : s.toList = l ↔ bytesOf s = l.map fun b => (b.toNat : Int) := by
  rw [ByteArray.toList_eq]
  unfold bytesOf
  constructor
  · intro h
    rw [h]
  · intro h
    have e := congrArg (List.map fun n : Int => UInt8.ofNat n.toNat) h
    simpa [List.map_map, Function.comp_def] using e
theorem by_eq (a b : ByteArray) : a.toList = b.toList ↔ a = b := ⟨ba_ext, fun h => h ▸ rfl⟩
theorem by_emp (s : ByteArray) : s.toList = ([] : List UInt8) ↔ bytesOf s = [] := by rw [by_toList]; simp
theorem by_bt (s : ByteArray) (i : Nat) (h : i < (bytesOf s).length) : bt s (i : Int) = (bytesOf s)[i] := by
  rw [← rd_bytesOf, rd_nat _ _ h]
theorem by_drop (s : ByteArray) (i : Nat) (h : i < s.size) : (bytesOf s).drop i = bt s (i : Int) :: (bytesOf s).drop (i + 1) := by
  have h' : i < (bytesOf s).length := by rw [by_len]; exact h
  rw [drop_cons _ _ h', by_bt s i h']
theorem by_end (s : ByteArray) (i : Nat) (h : s.size ≤ i) : (bytesOf s).drop i = [] := List.drop_of_length_le (by rw [by_len]; exact h)
def idxL : List Int → Int → Option Nat
  | [], _ => none
  | x :: r, c => if x = c then some 0 else (idxL r c).map (· + 1)
theorem idx_byte (l : List UInt8) (c : UInt8) : Lib.indexByte l c = match idxL (l.map fun b => (b.toNat : Int)) (c.toNat : Int) with | some i => (i : Int) | none => -1 := by
  induction l with
  | nil => rfl
  | cons x r ih =>
    unfold Lib.indexByte
    simp only [List.map_cons, idxL]
    by_cases h : x = c
    · subst h
      simp
    · have h1 : (x == c) = false := by simpa using h
      have h2 : ¬ ((x.toNat : Int) = (c.toNat : Int)) := fun e => h (UInt8.toNat_inj.1 (by omega))
      rw [h1, if_neg h2]
      simp only [Bool.false_eq_true, if_false]
      rw [ih]
      cases hI : idxL (r.map fun b => (b.toNat : Int)) (c.toNat : Int) with
      | none => simp
      | some i =>
        have h3 : ((i : Int) == -1) = false := by
          rw [beq_eq_false_iff_ne]
          omega
        simp [h3]
theorem idx_some {L : List Int} {c : Int} {i : Nat} (h : idxL L c = some i) : i < L.length ∧ L[i]? = some c ∧ c ∉ L.take i ∧ L = L.take i ++ c :: L.drop (i + 1) := by
  induction L generalizing i with
  | nil => cases h
  | cons x r ih =>
    simp only [idxL] at h
    by_cases hx : x = c
    · rw [if_pos hx] at h
      obtain rfl := Option.some.inj h
      subst hx
      simp
    · rw [if_neg hx] at h
      obtain ⟨j, hj, rfl⟩ := Option.map_eq_some_iff.1 h
      obtain ⟨h1, h2, h3, h4⟩ := ih hj
      refine ⟨by simpa using h1, by simpa using h2, ?_, ?_⟩
      · simp only [List.take_succ_cons, List.mem_cons, not_or]
        exact ⟨fun e => hx e.symm, h3⟩
      · simp only [List.take_succ_cons, List.drop_succ_cons, List.cons_append]
        rw [← h4]
theorem idx_of {A R : List Int} {c : Int} (h : c ∉ A) : idxL (A ++ c :: R) c = some A.length := by
  induction A with
  | nil => simp [idxL]
  | cons x r ih =>
    simp only [List.mem_cons, not_or] at h
    simp only [List.cons_append, idxL, if_neg (fun e => h.1 (Eq.symm e)), ih h.2, Option.map_some, List.length_cons]
end Go.Proofs.YtliooghmpkdmoaaDoor.P
end
