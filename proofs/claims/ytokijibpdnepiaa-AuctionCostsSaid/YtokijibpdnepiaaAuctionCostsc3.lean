/- For AuctionCosts: contracts, and facts on lists and numbers, that it uses (part 3). -/
import Derived.Test.YtokijibpdnepiaaAuctionCostsc2
section
namespace Go.Proofs.Ytokijibpdnepiaa.P
set_option linter.unusedVariables false
set_option linter.unusedSimpArgs false
open Go.RowKit Go.Proofs.YtokijibpdnepiaaW.PrintWords Go.Proofs.YtokijibpdnepiaaW.PrintMore Go.Proofs.Ytokijibpdnepiaa.X
def fits (n : Int) : Bool := decide (-1152921504606846976 ≤ n) && decide (n ≤ 1152921504606846976)
theorem fits_iff (n : Int) : fits n = true ↔ -1152921504606846976 ≤ n ∧ n ≤ 1152921504606846976 := by simp [fits]
theorem fits_f (n : Int) : cents_Fits.f n = some (fits n) := by
  unfold cents_Fits.f fits
  by_cases h : n ≥ -1152921504606846976
  · rw [if_pos h, decide_eq_true (show -1152921504606846976 ≤ n from h), Bool.true_and]
  · rw [if_neg h, decide_eq_false (show ¬ -1152921504606846976 ≤ n from h), Bool.false_and]
def fitting (n : Int) : Int × Int := if fits n = true then (n, 0) else (0, 3)
theorem fitting_f (n : Int) : cents_fitting.f n = some (fitting n) := by
  unfold cents_fitting.f fitting
  simp only [fits_f, Option.bind_some]
  split <;> rfl
def sumE (l : List Int) : Int × Int := if l.all fits = true then fitting l.sum else (0, 2)
theorem sumLoop (l : List Int) (hl : l.length ≤ 1073741824) : ∀ (d i : Nat) (hi lo : Int), i + d = l.length → -(268435457 * (i : Int)) ≤ hi → hi ≤ 268435457 * (i : Int) → 0 ≤ lo → lo ≤ 4294967295 * (i : Int) →
    Ev (fun k => cents_Sum.l0 k l hi lo l.length i) (if (l.drop i).all fits = true then fitting (hi * 4294967296 + lo + (l.drop i).sum) else (0, 2))
  | 0, i, hi, lo, hd, h1, h2, h3, h4 => by
    refine Ev_succ ?_
    rw [List.drop_of_length_le (by omega)]
    have e1 : wrap64 (hi + lo / 4294967296) = hi + lo / 4294967296 := w_id (by omega) (by omega)
    simp only [cents_Sum.l0, if_neg (show ¬ ((i : Int) < (l.length : Int)) by omega), e1, i64_and32, List.all_nil, if_true, List.sum_nil, Int.add_zero]
    by_cases c1 : hi + lo / 4294967296 < -268435456
    · simp only [if_pos c1]
      have : fitting (hi * 4294967296 + lo) = (0, 3) := by
        unfold fitting
        rw [if_neg]
        rw [fits_iff]
        omega
      rw [this]
      exact Ev.now _
    · by_cases c2 : hi + lo / 4294967296 > 268435456
      · simp only [if_neg c1, if_pos c2]
        have : fitting (hi * 4294967296 + lo) = (0, 3) := by
          unfold fitting
          rw [if_neg]
          rw [fits_iff]
          omega
        rw [this]
        exact Ev.now _
      · have e2 : wrap64 ((hi + lo / 4294967296) * 4294967296) = (hi + lo / 4294967296) * 4294967296 := w_id (by omega) (by omega)
        have e3 : wrap64 ((hi + lo / 4294967296) * 4294967296 + lo % 4294967296) = hi * 4294967296 + lo := by rw [w_id (by omega) (by omega)]; omega
        simp only [if_neg c1, if_neg c2, e2, e3, fitting_f, Option.bind_some]
        exact Ev.now _
  | d + 1, i, hi, lo, hd, h1, h2, h3, h4 => by
    have hlt : i < l.length := by omega
    rw [drop_cons l i hlt]
    refine Ev_succ ?_
    simp only [cents_Sum.l0, if_pos (show (i : Int) < (l.length : Int) by omega), if_pos (show 0 ≤ (i : Int) by omega), rd_nat l i hlt, fits_f, Option.bind_some, i64_and32, List.all_cons, List.sum_cons]
    by_cases hf : fits l[i] = true
    case neg =>
      have hf' : fits l[i] = false := by simpa using hf
      simp only [hf', Bool.false_eq_true, if_false, Bool.false_and]; exact Ev.now _
    case pos =>
      have hb := (fits_iff _).1 hf
      have e1 : wrap64 (hi + l[i] / 4294967296) = hi + l[i] / 4294967296 := w_id (by omega) (by omega)
      have e2 : wrap64 (lo + l[i] % 4294967296) = lo + l[i] % 4294967296 := w_id (by omega) (by omega)
      have ih := sumLoop l hl d (i + 1) (hi + l[i] / 4294967296) (lo + l[i] % 4294967296) (by omega) (by omega) (by omega) (by omega) (by omega)
      rw [← w_succ hlt (by omega)] at ih
      simp only [hf, if_true, Bool.true_and, e1, e2]
      have e4 : (hi + l[i] / 4294967296) * 4294967296 + (lo + l[i] % 4294967296) + (l.drop (i + 1)).sum = hi * 4294967296 + lo + (l[i] + (l.drop (i + 1)).sum) := by omega
      rw [e4] at ih
      exact ih
theorem sum_f (l : List Int) (hl : l.length ≤ 1073741824) : Ev (fun k => cents_Sum.f k l) (sumE l) := by
  have := sumLoop l hl l.length 0 0 0 (by omega) (by omega) (by omega) (by omega) (by omega)
  simpa [cents_Sum.f, sumE] using this
end Go.Proofs.Ytokijibpdnepiaa.P
end
section
namespace Go.Proofs.Ytokijibpdnepiaa.P
set_option linter.unusedVariables false
set_option linter.unusedSimpArgs false
open Go.RowKit Go.Proofs.YtokijibpdnepiaaW.PrintWords Go.Proofs.YtokijibpdnepiaaW.PrintMore Go.Proofs.Ytokijibpdnepiaa.X
theorem fitsR_f (n : Int) : contangoref01_Fits.f n = some (fits n) := by
  unfold contangoref01_Fits.f fits
  by_cases h : n ≥ -1152921504606846976
  · rw [if_pos h, decide_eq_true (show -1152921504606846976 ≤ n from h), Bool.true_and]
  · rw [if_neg h, decide_eq_false (show ¬ -1152921504606846976 ≤ n from h), Bool.false_and]
theorem td (n : Int) : 1073741824 * n.tdiv 1073741824 + n.tmod 1073741824 = n ∧ -1073741824 < n.tmod 1073741824 ∧ n.tmod 1073741824 < 1073741824 :=
  ⟨Int.mul_tdiv_add_tmod n 1073741824, Int.lt_tmod_of_pos n (by omega), Int.tmod_lt_of_pos n (by omega)⟩
theorem sumRLoop (l : List Int) (hl : l.length ≤ 1048576) : ∀ (d i : Nat) (hi lo : Int), i + d = l.length → -(1073741825 * (i : Int)) ≤ hi → hi ≤ 1073741825 * (i : Int) → -(1073741824 * (i : Int)) ≤ lo → lo ≤ 1073741824 * (i : Int) →
    Ev (fun k => contangoref01_Sum.l0 k l hi lo i) (if (l.drop i).all fits = true then fitting (hi * 1073741824 + lo + (l.drop i).sum) else (0, 2))
  | 0, i, hi, lo, hd, h1, h2, h3, h4 => by
    refine Ev_succ ?_
    rw [List.drop_of_length_le (by omega)]
    obtain ⟨t1, t2, t3⟩ := td lo
    have e0 : wrap64 (lo.tdiv 1073741824) = lo.tdiv 1073741824 := w_id (by omega) (by omega)
    have e1 : wrap64 (hi + lo.tdiv 1073741824) = hi + lo.tdiv 1073741824 := w_id (by omega) (by omega)
    simp only [contangoref01_Sum.l0, if_neg (show ¬ ((i : Int) < (l.length : Int)) by omega), e0, e1, List.all_nil, if_true, List.sum_nil, Int.add_zero]
    by_cases c1 : hi + lo.tdiv 1073741824 < -1073741825
    · simp only [if_pos c1]
      have : fitting (hi * 1073741824 + lo) = (0, 3) := by
        unfold fitting
        rw [if_neg]
        rw [fits_iff]
        omega
      rw [this]
      exact Ev.now _
    · by_cases c2 : hi + lo.tdiv 1073741824 > 1073741825
      · simp only [if_neg c1, if_pos c2]
        have : fitting (hi * 1073741824 + lo) = (0, 3) := by
          unfold fitting
          rw [if_neg]
          rw [fits_iff]
          omega
        rw [this]
        exact Ev.now _
      · have e2 : wrap64 ((hi + lo.tdiv 1073741824) * 1073741824) = (hi + lo.tdiv 1073741824) * 1073741824 := w_id (by omega) (by omega)
        have e3 : wrap64 ((hi + lo.tdiv 1073741824) * 1073741824 + lo.tmod 1073741824) = hi * 1073741824 + lo := by rw [w_id (by omega) (by omega)]; omega
        simp only [if_neg c1, if_neg c2, e2, e3, fitsR_f, Option.bind_some, fitting]
        by_cases c3 : fits (hi * 1073741824 + lo) = true
        · simp only [if_pos c3]; exact Ev.now _
        · simp only [if_neg c3]; exact Ev.now _
  | d + 1, i, hi, lo, hd, h1, h2, h3, h4 => by
    have hlt : i < l.length := by omega
    rw [drop_cons l i hlt]
    refine Ev_succ ?_
    simp only [contangoref01_Sum.l0, if_pos (show (i : Int) < (l.length : Int) by omega), if_pos (show 0 ≤ (i : Int) by omega), rd_nat l i hlt, fitsR_f, Option.bind_some, List.all_cons, List.sum_cons]
    by_cases hf : fits l[i] = true
    case neg =>
      have hf' : fits l[i] = false := by simpa using hf
      simp only [hf', Bool.false_eq_true, if_false, Bool.false_and]; exact Ev.now _
    case pos =>
      have hb := (fits_iff _).1 hf
      obtain ⟨t1, t2, t3⟩ := td l[i]
      have e0 : wrap64 (l[i].tdiv 1073741824) = l[i].tdiv 1073741824 := w_id (by omega) (by omega)
      have e1 : wrap64 (hi + l[i].tdiv 1073741824) = hi + l[i].tdiv 1073741824 := w_id (by omega) (by omega)
      have e2 : wrap64 (lo + l[i].tmod 1073741824) = lo + l[i].tmod 1073741824 := w_id (by omega) (by omega)
      have ih := sumRLoop l hl d (i + 1) (hi + l[i].tdiv 1073741824) (lo + l[i].tmod 1073741824) (by omega) (by omega) (by omega) (by omega) (by omega)
      rw [← w_succ hlt (by omega)] at ih
      simp only [hf, if_true, Bool.true_and, e0, e1, e2]
      have e4 : (hi + l[i].tdiv 1073741824) * 1073741824 + (lo + l[i].tmod 1073741824) + (l.drop (i + 1)).sum = hi * 1073741824 + lo + (l[i] + (l.drop (i + 1)).sum) := by omega
      rw [e4] at ih
      exact ih
theorem sumR_f (l : List Int) (hl : l.length ≤ 1048576) : Ev (fun k => contangoref01_Sum.f k l) (sumE l) := by
  have := sumRLoop l hl l.length 0 0 0 (by omega) (by omega) (by omega) (by omega) (by omega)
  simpa [contangoref01_Sum.f, sumE] using this
end Go.Proofs.Ytokijibpdnepiaa.P
end
section
namespace Go.Proofs.Ytokijibpdnepiaa.P
set_option linter.unusedVariables false
set_option linter.unusedSimpArgs false
open Go.RowKit Go.Proofs.YtokijibpdnepiaaW.PrintWords Go.Proofs.YtokijibpdnepiaaW.PrintMore Go.Proofs.Ytokijibpdnepiaa.X
abbrev Aw := S52
theorem rdAw (l : List Aw) (i : Nat) (h : i < l.length) : rd_T52 l (i : Int) = l[i] := by simp [rd_T52, h]
def costErr (a : Aw) : Int := if a.f1 < 0 ∨ a.f1 > 1048576 then 18 else if priceB a.f2 = true then 0 else 28
def costGo : List Aw → Int
  | [] => 0
  | a :: t => if costErr a = 0 then costGo t else costErr a
def cost (l : List Aw) : Int × Int := if l.length > 1024 then (0, 8) else if costGo l = 0 then sumE (l.map fun a => a.f1 * a.f2) else (0, costGo l)
theorem costErr_zero {a : Aw} (h : costErr a = 0) : 0 ≤ a.f1 ∧ a.f1 ≤ 1048576 ∧ -68719476736 ≤ a.f2 ∧ a.f2 ≤ 68719476736 := by
  unfold costErr at h
  by_cases c1 : a.f1 < 0 ∨ a.f1 > 1048576
  · rw [if_pos c1] at h; omega
  · rw [if_neg c1] at h
    by_cases c2 : priceB a.f2 = true
    · have := c2
      simp only [priceB, Bool.and_eq_true, decide_eq_true_eq] at this
      omega
    · rw [if_neg c2] at h; omega
theorem mul_rng45 {a b : Int} (h1 : 0 ≤ a) (h2 : a ≤ 1048576) (h3 : -68719476736 ≤ b) (h4 : b ≤ 68719476736) : -72057594037927936 ≤ a * b ∧ a * b ≤ 72057594037927936 := by
  have e1 := Int.mul_le_mul_of_nonneg_left h4 h1
  have e2 := Int.mul_le_mul_of_nonneg_left h3 h1
  omega
theorem costLoop (l : List Aw) (hl : l.length ≤ 1024) : ∀ (d i : Nat) (acc : List Int), i + d = l.length → acc.length = i → Ev (fun k => auction_Cost.l0 k acc l l.length i) (if costGo (l.drop i) = 0 then sumE (acc ++ (l.drop i).map fun a => a.f1 * a.f2) else (0, costGo (l.drop i)))
  | 0, i, acc, hd, ha => by
    rw [List.drop_of_length_le (by omega)]
    refine Ev_succ ?_
    simp only [auction_Cost.l0, if_neg (show ¬ ((i : Int) < (l.length : Int)) by omega), costGo, if_true, List.map_nil, List.append_nil]
    refine Ev_bind (sum_f acc (by omega)) (Ev.now _)
  | d + 1, i, acc, hd, ha => by
    have hi : i < l.length := by omega
    have ih := fun x => costLoop l hl d (i + 1) (acc ++ [x]) (by omega) (by simp [ha])
    rw [drop_cons l i hi, costGo]
    have hj : ∀ b, (b = true ↔ (l[i].f1 < 0 ∨ l[i].f1 > 1048576)) → Ev (fun k => auction_Cost.j1 k acc l l.length i b l[i].f0 l[i].f1 l[i].f2) (if (if costErr l[i] = 0 then costGo (l.drop (i + 1)) else costErr l[i]) = 0 then sumE (acc ++ (l[i] :: l.drop (i + 1)).map fun a => a.f1 * a.f2) else (0, if costErr l[i] = 0 then costGo (l.drop (i + 1)) else costErr l[i])) := by
      intro b hb
      refine Ev_succ ?_
      by_cases c : b = true
      · subst c
        have e : costErr l[i] = 18 := by unfold costErr; rw [if_pos (hb.1 rfl)]
        rw [e]
        simp only [auction_Cost.j1, if_true]
        exact Ev.now _
      · have cf : b = false := by simpa using c
        subst cf
        have hn : ¬ (l[i].f1 < 0 ∨ l[i].f1 > 1048576) := fun h => c (hb.2 h)
        simp only [auction_Cost.j1, Bool.false_eq_true, if_false, price_f, Option.bind_some]
        by_cases c1 : priceB l[i].f2 = true
        · have e : costErr l[i] = 0 := by unfold costErr; rw [if_neg hn, if_pos c1]
          obtain ⟨b1, b2, b3, b4⟩ := costErr_zero e
          have hm := mul_rng45 b1 b2 b3 b4
          have ew : wrap64 (l[i].f1 * l[i].f2) = l[i].f1 * l[i].f2 := w_id (by omega) (by omega)
          rw [e, if_pos rfl]
          simp only [if_pos c1, if_pos (show acc.length < 17592186044416 by omega), ew, w_succ hi (show l.length ≤ 9223372036854775807 by omega)]
          have := ih (l[i].f1 * l[i].f2)
          rw [List.append_assoc] at this
          exact this
        · have e : costErr l[i] = 28 := by unfold costErr; rw [if_neg hn, if_neg c1]
          rw [e]
          simp only [if_neg c1]
          exact Ev.now _
    refine Ev_succ ?_
    simp only [auction_Cost.l0, if_pos (show (i : Int) < (l.length : Int) by omega), if_pos (show 0 ≤ (i : Int) by omega), rdAw l i hi]
    by_cases c : l[i].f1 < 0
    · simp only [if_pos c]
      exact hj true (by simp [c])
    · simp only [if_neg c]
      refine hj _ ?_
      rw [decide_eq_true_iff]
      exact ⟨Or.inr, fun h => h.resolve_left c⟩
theorem cost_f (l : List Aw) : Ev (fun k => auction_Cost.f k l) (cost l) := by
  unfold auction_Cost.f cost
  by_cases h : l.length > 1024
  · simp only [if_pos (show (l.length : Int) > 1024 by omega), if_pos h]
    exact Ev.now _
  · simp only [if_neg (show ¬ ((l.length : Int) > 1024) by omega), if_neg h]
    exact costLoop l (by omega) l.length 0 [] (by omega) rfl
theorem costRLoop (l : List Aw) (hl : l.length ≤ 1024) : ∀ (d i : Nat) (acc : List Int), i + d = l.length → acc.length = i → Ev (fun k => contangoref45_Cost.l0 k l acc i) (if costGo (l.drop i) = 0 then sumE (acc ++ (l.drop i).map fun a => a.f1 * a.f2) else (0, costGo (l.drop i)))
  | 0, i, acc, hd, ha => by
    rw [List.drop_of_length_le (by omega)]
    refine Ev_succ ?_
    simp only [contangoref45_Cost.l0, if_neg (show ¬ ((i : Int) < (l.length : Int)) by omega), costGo, if_true, List.map_nil, List.append_nil]
    refine Ev_bind (sumR_f acc (by omega)) (Ev.now _)
  | d + 1, i, acc, hd, ha => by
    have hi : i < l.length := by omega
    have ih := fun x => costRLoop l hl d (i + 1) (acc ++ [x]) (by omega) (by simp [ha])
    rw [drop_cons l i hi, costGo]
    have hj : ∀ b, (b = true ↔ (l[i].f1 < 0 ∨ l[i].f1 > 1048576)) → Ev (fun k => contangoref45_Cost.j1 k l acc i b) (if (if costErr l[i] = 0 then costGo (l.drop (i + 1)) else costErr l[i]) = 0 then sumE (acc ++ (l[i] :: l.drop (i + 1)).map fun a => a.f1 * a.f2) else (0, if costErr l[i] = 0 then costGo (l.drop (i + 1)) else costErr l[i])) := by
      intro b hb
      refine Ev_succ ?_
      by_cases c : b = true
      · subst c
        have e : costErr l[i] = 18 := by unfold costErr; rw [if_pos (hb.1 rfl)]
        rw [e]
        simp only [contangoref45_Cost.j1, if_true]
        exact Ev.now _
      · have cf : b = false := by simpa using c
        subst cf
        have hn : ¬ (l[i].f1 < 0 ∨ l[i].f1 > 1048576) := fun h => c (hb.2 h)
        simp only [contangoref45_Cost.j1, Bool.false_eq_true, if_false, if_pos (show 0 ≤ (i : Int) by omega), if_pos (show (i : Int) < (l.length : Int) by omega), rdAw l i hi, priceR_f, Option.bind_some]
        by_cases c1 : priceB l[i].f2 = true
        · have e : costErr l[i] = 0 := by unfold costErr; rw [if_neg hn, if_pos c1]
          obtain ⟨b1, b2, b3, b4⟩ := costErr_zero e
          have hm := mul_rng45 b1 b2 b3 b4
          have ew : wrap64 (l[i].f2 * l[i].f1) = l[i].f1 * l[i].f2 := by rw [Int.mul_comm, w_id (by omega) (by omega)]
          rw [e, if_pos rfl]
          simp only [if_pos c1, if_pos (show acc.length < 17592186044416 by omega), ew, w_succ hi (show l.length ≤ 9223372036854775807 by omega)]
          have := ih (l[i].f1 * l[i].f2)
          rw [List.append_assoc] at this
          exact this
        · have e : costErr l[i] = 28 := by unfold costErr; rw [if_neg hn, if_neg c1]
          rw [e]
          simp only [if_neg c1]
          exact Ev.now _
    refine Ev_succ ?_
    simp only [contangoref45_Cost.l0, if_pos (show (i : Int) < (l.length : Int) by omega), if_pos (show 0 ≤ (i : Int) by omega), rdAw l i hi]
    by_cases c : l[i].f1 < 0
    · simp only [if_pos c]
      exact hj true (by simp [c])
    · simp only [if_neg c]
      refine hj _ ?_
      rw [decide_eq_true_iff]
      exact ⟨Or.inr, fun h => h.resolve_left c⟩
theorem costR_f (l : List Aw) : Ev (fun k => contangoref45_Cost.f k l) (cost l) := by
  unfold contangoref45_Cost.f cost
  by_cases h : l.length > 1024
  · simp only [if_pos (show (l.length : Int) > 1024 by omega), if_pos h]
    exact Ev.now _
  · simp only [if_neg (show ¬ ((l.length : Int) > 1024) by omega), if_neg h]
    exact costRLoop l (by omega) l.length 0 [] (by omega) rfl
end Go.Proofs.Ytokijibpdnepiaa.P
end
section
namespace Go.Proofs.Ytokijibpdnepiaa.P
open Go.RowKit Go.Proofs.YtokijibpdnepiaaW.PrintWords Go.Proofs.YtokijibpdnepiaaW.PrintMore Go.Proofs.Ytokijibpdnepiaa.X
set_option maxRecDepth 100000 in
theorem goes45 : Ev (fun k => contangolaw45_goes.f k) true := Ev.of (k := 40) (contangolaw45_goes.mono) (by decide +kernel)
end Go.Proofs.Ytokijibpdnepiaa.P
end
section
namespace Go.Proofs.Ytokijibpdnepiaa.Pure
set_option linter.unusedVariables false
set_option linter.unusedSimpArgs false
open Go.RowKit Go.Proofs.YtokijibpdnepiaaW.PrintWords Go.Proofs.YtokijibpdnepiaaW.PrintMore Go.Proofs.Ytokijibpdnepiaa.X Go.Proofs.Ytokijibpdnepiaa.P
theorem AuctionCosts : ∀ (l0 : List (S52)), (l0.length ≤ maxLen ∧ l0.length * 32 ≤ 140737488351232 ∧ ∀ x ∈ l0, ok52 x) → ∃ k, X.contangolaw45_AuctionCosts.f k l0 = some true := by
  intro l hl
  apply Ev.rounds
  unfold contangolaw45_AuctionCosts.f
  by_cases c : (l.length : Int) > 3000
  · simp only [if_pos c]; exact Ev_id goes45
  · simp only [if_neg c]
    refine Ev_bind (cost_f l) ?_
    refine Ev_bind (costR_f l) ?_
    simp only [if_true]
    exact Ev_id goes45
end Go.Proofs.Ytokijibpdnepiaa.Pure
end
