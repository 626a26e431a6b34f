/- For AuctionOne: contracts, and facts on lists and numbers, that it uses (part 3). -/
import Derived.Test.YtokijibpdnepiaaAuctionOnec2
section
namespace Go.Proofs.Ytokijibpdnepiaa.P
set_option linter.unusedVariables false
set_option linter.unusedSimpArgs false
open Go.RowKit Go.Proofs.YtokijibpdnepiaaW.PrintWords Go.Proofs.YtokijibpdnepiaaW.PrintMore Go.Proofs.Ytokijibpdnepiaa.X
abbrev Bid := S33
theorem rdBid (l : List Bid) (i : Nat) (h : i < l.length) : rd_T33 l (i : Int) = l[i] := by simp [rd_T33, h]
def priceB (n : Int) : Bool := decide (-68719476736 ≤ n) && decide (n ≤ 68719476736)
theorem price_f (n : Int) : auction_priced.f n = some (priceB n) := by
  unfold auction_priced.f priceB
  by_cases h : n ≥ -68719476736
  · rw [if_pos h, decide_eq_true (show -68719476736 ≤ n from h), Bool.true_and]
  · rw [if_neg h, decide_eq_false (show ¬ -68719476736 ≤ n from h), Bool.false_and]
def bidErr (b : Bid) : Int := if nameB b.f0 = true then (if b.f1 < 1 ∨ b.f1 > 1048576 then 18 else if priceB b.f2 = true then (if b.f3 < 0 ∨ b.f3 > 86399 then 28 else 0) else 28) else 10
def bidGo : List Bid → Int
  | [] => 0
  | b :: t => if bidErr b = 0 then bidGo t else bidErr b
def bidCheck (l : List Bid) : Int := if l.length > 1024 then 8 else bidGo l
theorem bidLoop (l : List Bid) (hl : l.length ≤ 1024) : ∀ (d i : Nat), i + d = l.length → Ev (fun k => auction_Check.l0 k l l.length i) (bidGo (l.drop i))
  | 0, i, hd => by
    rw [List.drop_of_length_le (by omega)]
    refine Ev_succ ?_
    simp only [auction_Check.l0, if_neg (show ¬ ((i : Int) < (l.length : Int)) by omega)]
    exact Ev.now _
  | d + 1, i, hd => by
    have hi : i < l.length := by omega
    have ih := bidLoop l hl d (i + 1) (by omega)
    rw [← w_succ hi (by omega)] at ih
    rw [drop_cons l i hi, bidGo]
    have hj : ∀ b, (b = true ↔ (l[i].f1 < 1 ∨ l[i].f1 > 1048576)) → nameB l[i].f0 = true → Ev (fun k => auction_Check.j1 k l l.length i b l[i].f0 l[i].f1 l[i].f2 l[i].f3) (if bidErr l[i] = 0 then bidGo (l.drop (i + 1)) else bidErr l[i]) := by
      intro b hb hn
      refine Ev_succ ?_
      unfold bidErr
      rw [if_pos hn]
      by_cases c : b = true
      · subst c
        rw [if_pos (hb.1 rfl)]
        simp only [auction_Check.j1, if_true]
        exact Ev.now _
      · have cf : b = false := by simpa using c
        subst cf
        rw [if_neg (fun h => c (hb.2 h))]
        simp only [auction_Check.j1, Bool.false_eq_true, if_false, price_f, Option.bind_some]
        by_cases c1 : priceB l[i].f2 = true
        · simp only [if_pos c1]
          by_cases c2 : l[i].f3 < 0
          · rw [if_pos (Or.inl c2)]
            simp only [if_pos c2]
            exact Ev.now _
          · by_cases c3 : l[i].f3 > 86399
            · rw [if_pos (Or.inr c3)]
              simp only [if_neg c2, if_pos c3]
              exact Ev.now _
            · rw [if_neg (show ¬ (l[i].f3 < 0 ∨ l[i].f3 > 86399) by omega)]
              simp only [if_neg c2, if_neg c3, if_true]
              exact ih
        · simp only [if_neg c1]
          exact Ev.now _
    refine Ev_succ ?_
    simp only [auction_Check.l0, if_pos (show (i : Int) < (l.length : Int) by omega), if_pos (show 0 ≤ (i : Int) by omega), rdBid l i hi]
    refine Ev_bind (name_f l[i].f0) ?_
    by_cases hn : nameB l[i].f0 = true
    · simp only [if_pos hn]
      by_cases c : l[i].f1 < 1
      · simp only [if_pos c]
        exact hj true (by simp [c]) hn
      · simp only [if_neg c]
        refine hj _ ?_ hn
        rw [decide_eq_true_iff]
        exact ⟨Or.inr, fun h => h.resolve_left c⟩
    · simp only [if_neg hn]
      have e : bidErr l[i] = 10 := by unfold bidErr; rw [if_neg hn]
      rw [e, if_neg (by decide)]
      exact Ev.now _
theorem bidCheck_f (l : List Bid) : Ev (fun k => auction_Check.f k l) (bidCheck l) := by
  unfold auction_Check.f bidCheck
  by_cases h : l.length > 1024
  · simp only [if_pos (show (l.length : Int) > 1024 by omega), if_pos h]
    exact Ev.now _
  · simp only [if_neg (show ¬ ((l.length : Int) > 1024) by omega), if_neg h]
    exact bidLoop l (by omega) l.length 0 (by omega)
theorem bidGo_zero : ∀ (l : List Bid), bidGo l = 0 → ∀ b ∈ l, bidErr b = 0
  | [], _, b, hb => by simp at hb
  | x :: t, h, b, hb => by
    unfold bidGo at h
    by_cases c : bidErr x = 0
    · rw [if_pos c] at h
      rcases List.mem_cons.1 hb with e | e
      · rw [e]; exact c
      · exact bidGo_zero t h b e
    · rw [if_neg c] at h; exact absurd h c
theorem bidErr_zero {b : Bid} (h : bidErr b = 0) : 1 ≤ b.f1 ∧ b.f1 ≤ 1048576 ∧ -68719476736 ≤ b.f2 ∧ b.f2 ≤ 68719476736 := by
  unfold bidErr at h
  by_cases c : nameB b.f0 = true
  · rw [if_pos c] at h
    by_cases c1 : b.f1 < 1 ∨ b.f1 > 1048576
    · rw [if_pos c1] at h; omega
    · rw [if_neg c1] at h
      by_cases c2 : priceB b.f2 = true
      · have := c2
        simp only [priceB, Bool.and_eq_true, decide_eq_true_eq] at this
        omega
      · rw [if_neg c2] at h; omega
  · rw [if_neg c] at h; omega
theorem bidCheck_zero {l : List Bid} (h : bidCheck l = 0) : l.length ≤ 1024 ∧ ∀ b ∈ l, 1 ≤ b.f1 ∧ b.f1 ≤ 1048576 ∧ -68719476736 ≤ b.f2 ∧ b.f2 ≤ 68719476736 := by
  unfold bidCheck at h
  by_cases c : l.length > 1024
  · rw [if_pos c] at h; omega
  · rw [if_neg c] at h; exact ⟨by omega, fun b hb => bidErr_zero (bidGo_zero l h b hb)⟩
end Go.Proofs.Ytokijibpdnepiaa.P
end
section
namespace Go.Proofs.Ytokijibpdnepiaa.P
set_option linter.unusedVariables false
set_option linter.unusedSimpArgs false
open Go.RowKit Go.Proofs.YtokijibpdnepiaaW.PrintWords Go.Proofs.YtokijibpdnepiaaW.PrintMore Go.Proofs.Ytokijibpdnepiaa.X
def lt (a b : Bid) : Bool := if a.f2 = b.f2 then (if a.f3 = b.f3 then Op.bytesLess a.f0.toList b.f0.toList else decide (a.f3 < b.f3)) else decide (a.f2 < b.f2)
theorem lt_iff (a b : Bid) : lt a b = true ↔ a.f2 < b.f2 ∨ a.f2 = b.f2 ∧ (a.f3 < b.f3 ∨ a.f3 = b.f3 ∧ Op.bytesLess a.f0.toList b.f0.toList = true) := by
  unfold lt
  by_cases h : a.f2 = b.f2
  · rw [if_pos h]
    by_cases h2 : a.f3 = b.f3
    · rw [if_pos h2]
      constructor
      · intro e; exact Or.inr ⟨h, Or.inr ⟨h2, e⟩⟩
      · rintro (e | ⟨_, e | ⟨_, e⟩⟩)
        · omega
        · omega
        · exact e
    · rw [if_neg h2, decide_eq_true_iff]
      constructor
      · intro e; exact Or.inr ⟨h, Or.inl e⟩
      · rintro (e | ⟨_, e | ⟨e, _⟩⟩)
        · omega
        · exact e
        · exact absurd e h2
  · rw [if_neg h, decide_eq_true_iff]
    constructor
    · intro e; exact Or.inl e
    · rintro (e | ⟨e, _⟩)
      · exact e
      · exact absurd e h
theorem lt_asymm {a b : Bid} (h : lt a b = true) : lt b a = false := by
  rw [← Bool.not_eq_true]
  intro k
  rw [lt_iff] at h k
  rcases h with h | ⟨h1, h | ⟨h2, h3⟩⟩
  · rcases k with k | ⟨k1, _⟩ <;> omega
  · rcases k with k | ⟨k1, k | ⟨k2, _⟩⟩ <;> omega
  · rcases k with k | ⟨k1, k | ⟨k2, k3⟩⟩
    · omega
    · omega
    · rw [bl_asymm h3] at k3; cases k3
theorem lt_le {x y z : Bid} (h : lt x y = true) (k : lt z y = false) : lt x z = true := by
  have k' : ¬ lt z y = true := by rw [k]; decide
  rw [lt_iff] at h k' ⊢
  rcases h with h | ⟨h1, h | ⟨h2, h3⟩⟩
  · have : y.f2 ≤ z.f2 := by
      by_cases c : z.f2 < y.f2
      · exact absurd (Or.inl c) k'
      · omega
    left; omega
  · by_cases c : z.f2 < y.f2
    · exact absurd (Or.inl c) k'
    · by_cases c2 : z.f2 = y.f2
      · by_cases c3 : z.f3 < y.f3
        · exact absurd (Or.inr ⟨c2, Or.inl c3⟩) k'
        · right; exact ⟨by omega, Or.inl (by omega)⟩
      · left; omega
  · by_cases c : z.f2 < y.f2
    · exact absurd (Or.inl c) k'
    · by_cases c2 : z.f2 = y.f2
      · by_cases c3 : z.f3 < y.f3
        · exact absurd (Or.inr ⟨c2, Or.inl c3⟩) k'
        · by_cases c4 : z.f3 = y.f3
          · have c5 : Op.bytesLess z.f0.toList y.f0.toList = false := by
              rw [← Bool.not_eq_true]
              intro e
              exact k' (Or.inr ⟨c2, Or.inr ⟨c4, e⟩⟩)
            right
            refine ⟨by omega, Or.inr ⟨by omega, ?_⟩⟩
            by_cases c6 : Op.bytesLess y.f0.toList z.f0.toList = true
            · exact bl_trans _ _ _ h3 c6
            · rw [← bl_eq (by simpa using c6) c5]; exact h3
          · right; exact ⟨by omega, Or.inl (by omega)⟩
      · left; omega
theorem ordV_lt (a b : Bid) : ordV a b < 0 ↔ lt a b = true := by
  unfold ordV auction_Rank_1.f cmp_Compare_int.f cmp_Compare_string.f cmp_isNaN_int.f cmp_isNaN_string.f lt
  simp only [bne_self_eq_false, Option.bind_some, Bool.false_eq_true, if_false]
  by_cases h : a.f2 = b.f2
  · rw [if_pos h, if_pos h]
    by_cases h2 : a.f3 = b.f3
    · rw [if_pos h2, if_pos h2]
      by_cases h3 : Op.bytesLess a.f0.toList b.f0.toList = true
      · rw [if_pos h3, h3]; simp
      · rw [if_neg h3]
        have : Op.bytesLess a.f0.toList b.f0.toList = false := by simpa using h3
        rw [this]
        split <;> simp
    · rw [if_neg h2, if_neg h2, decide_eq_true_iff]
      by_cases h3 : a.f3 < b.f3
      · rw [if_pos h3]; simp [h3]
      · rw [if_neg h3]
        split <;> simp <;> omega
  · rw [if_neg h, if_neg h, decide_eq_true_iff]
    by_cases h3 : a.f2 < b.f2
    · rw [if_pos h3]; simp [h3]
    · rw [if_neg h3]
      split <;> simp <;> omega
abbrev gb (l : List Bid) (i : Nat) : Bid := l.getD i z33
theorem gb_eq (l : List Bid) (i : Nat) (h : i < l.length) : gb l i = l[i] := by simp [gb, List.getD, h]
theorem rd_gb (l : List Bid) (i : Nat) : rd_T33 l (i : Int) = gb l i := by simp [rd_T33, gb]
def Sorted (l : List Bid) : Prop := l.Pairwise fun a b => lt b a = false
theorem sorted_at {l : List Bid} (h : Sorted l) {i j : Nat} (hij : i < j) (hj : j < l.length) : lt (gb l j) (gb l i) = false := by
  rw [gb_eq l j hj, gb_eq l i (by omega)]
  exact (List.pairwise_iff_getElem.1 h) i j (by omega) hj hij
theorem insAt_facts (s : List Bid) (x : Bid) (hs : Sorted s) : ∀ n, n ≤ s.length → (∀ j, insAt s x n ≤ j → j < n → lt x (gb s j) = true) ∧ (∀ j, j < insAt s x n → lt x (gb s j) = false)
  | 0, _ => ⟨fun j _ h => by omega, fun j h => by simp [insAt] at h⟩
  | n + 1, hn => by
    obtain ⟨h1, h2⟩ := insAt_facts s x hs n (by omega)
    have e : insAt s x (n + 1) = if ordV x (rd_T33 s (n : Int)) < 0 then insAt s x n else n + 1 := rfl
    rw [e, rd_gb]
    by_cases c : ordV x (gb s n) < 0
    · rw [if_pos c]
      refine ⟨fun j hj hjn => ?_, h2⟩
      by_cases ej : j = n
      · rw [ej]; exact (ordV_lt _ _).1 c
      · exact h1 j hj (by omega)
    · rw [if_neg c]
      refine ⟨fun j hj hjn => by omega, fun j hj => ?_⟩
      have hxn : lt x (gb s n) = false := by rw [← Bool.not_eq_true]; exact fun h => c ((ordV_lt _ _).2 h)
      by_cases ej : j = n
      · rw [ej]; exact hxn
      · rw [← Bool.not_eq_true]
        intro hx
        have := lt_le hx (sorted_at hs (show j < n by omega) (by omega))
        rw [this] at hxn
        cases hxn
theorem insB_sorted {s : List Bid} (hs : Sorted s) (x : Bid) : Sorted (insB s x) := by
  obtain ⟨h1, h2⟩ := insAt_facts s x hs s.length (Nat.le_refl _)
  have hq := insAt_le s x s.length
  unfold insB
  generalize insAt s x s.length = q at h1 h2 hq
  have hp := hs
  unfold Sorted at hp ⊢
  rw [← List.take_append_drop q s, List.pairwise_append] at hp
  obtain ⟨p1, p2, p3⟩ := hp
  rw [List.append_assoc, List.pairwise_append]
  refine ⟨p1, List.pairwise_cons.2 ⟨fun y hy => ?_, p2⟩, fun a ha b hb => ?_⟩
  · have hy : y ∈ s.drop q := hy
    obtain ⟨i, hi, rfl⟩ := List.getElem_of_mem hy
    rw [List.length_drop] at hi
    rw [List.getElem_drop, ← gb_eq s (q + i) (by omega)]
    exact lt_asymm (h1 (q + i) (by omega) (by omega))
  · rcases List.mem_cons.1 hb with e | e
    · rw [e]
      obtain ⟨i, hi, rfl⟩ := List.getElem_of_mem ha
      rw [List.length_take] at hi
      rw [List.getElem_take, ← gb_eq s i (by omega)]
      exact h2 i (by omega)
    · exact p3 a ha b e
theorem insB_perm (s : List Bid) (x : Bid) : (insB s x).Perm (x :: s) := by
  unfold insB
  rw [List.append_assoc]
  have h : (s.take (insAt s x s.length) ++ ([x] ++ s.drop (insAt s x s.length))).Perm ([x] ++ (s.take (insAt s x s.length) ++ s.drop (insAt s x s.length))) := by
    rw [← List.append_assoc, ← List.append_assoc]
    exact List.perm_append_comm.append_right _
  rw [List.take_append_drop] at h
  exact h
def rankP (l : List Bid) : List Bid := l.foldl insB []
theorem rank_snoc (l : List Bid) (x : Bid) : rankP (l ++ [x]) = insB (rankP l) x := by unfold rankP; rw [List.foldl_append]; rfl
theorem rank_len (l : List Bid) : (rankP l).length = l.length := by
  unfold rankP; rw [fold_len]; simp
theorem rank_facts : ∀ (l : List Bid), Sorted (rankP l) ∧ (rankP l).Perm l := by
  intro l
  generalize hn : l.length = n
  induction n generalizing l with
  | zero =>
    have : l = [] := List.eq_nil_of_length_eq_zero hn
    subst this
    exact ⟨List.Pairwise.nil, List.Perm.refl _⟩
  | succ n ih =>
    have hne : l ≠ [] := by intro e; subst e; simp at hn
    rw [← List.dropLast_concat_getLast hne]
    obtain ⟨h1, h2⟩ := ih l.dropLast (by simp [hn])
    rw [rank_snoc]
    exact ⟨insB_sorted h1 _, (insB_perm _ _).trans ((h2.cons _).trans (List.perm_append_comm (l₁ := [l.getLast hne]) (l₂ := l.dropLast)))⟩
where
  gb_eq' (l : List Bid) (m : Nat) (h : m < l.length) : ∀ {p : Bid → Bool}, List.countP (fun k => p (gb l k)) [m] = List.countP p [l[m]] := by
    intro p
    simp only [List.countP_cons, List.countP_nil, gb_eq l m h]
def rank (l : List Bid) : List Bid × Int := if bidCheck l = 0 then (rankP l, 0) else ([], bidCheck l)
theorem rank_f (l : List Bid) : Ev (fun k => auction_Rank.f k l) (rank l) := by
  unfold auction_Rank.f rank
  refine Ev_bind (bidCheck_f l) ?_
  by_cases h : bidCheck l = 0
  · have := (bidCheck_zero h).1
    simp only [if_pos h, if_pos (show l.length < 137438953471 by omega)]
    exact Ev.now _
  · simp only [if_neg h]
    exact Ev.now _
end Go.Proofs.Ytokijibpdnepiaa.P
end
section
namespace Go.Proofs.Ytokijibpdnepiaa.P
set_option linter.unusedVariables false
set_option linter.unusedSimpArgs false
open Go.RowKit Go.Proofs.YtokijibpdnepiaaW.PrintWords Go.Proofs.YtokijibpdnepiaaW.PrintMore Go.Proofs.Ytokijibpdnepiaa.X
def fits (n : Int) : Bool := decide (-1152921504606846976 ≤ n) && decide (n ≤ 1152921504606846976)
theorem fits_iff (n : Int) : fits n = true ↔ -1152921504606846976 ≤ n ∧ n ≤ 1152921504606846976 := by simp [fits]
theorem fits_f (n : Int) : cents_Fits.f n = some (fits n) := by
  unfold cents_Fits.f fits
  by_cases h : n ≥ -1152921504606846976
  · rw [if_pos h, decide_eq_true (show -1152921504606846976 ≤ n from h), Bool.true_and]
  · rw [if_neg h, decide_eq_false (show ¬ -1152921504606846976 ≤ n from h), Bool.false_and]
def fitting (n : Int) : Int × Int := if fits n = true then (n, 0) else (0, 3)
theorem fitting_f (n : Int) : cents_fitting.f n = some (fitting n) := by
  unfold cents_fitting.f fitting
  simp only [fits_f, Option.bind_some]
  split <;> rfl
def sumE (l : List Int) : Int × Int := if l.all fits = true then fitting l.sum else (0, 2)
theorem sumLoop (l : List Int) (hl : l.length ≤ 1073741824) : ∀ (d i : Nat) (hi lo : Int), i + d = l.length → -(268435457 * (i : Int)) ≤ hi → hi ≤ 268435457 * (i : Int) → 0 ≤ lo → lo ≤ 4294967295 * (i : Int) →
    Ev (fun k => cents_Sum.l0 k l hi lo l.length i) (if (l.drop i).all fits = true then fitting (hi * 4294967296 + lo + (l.drop i).sum) else (0, 2))
  | 0, i, hi, lo, hd, h1, h2, h3, h4 => by
    refine Ev_succ ?_
    rw [List.drop_of_length_le (by omega)]
    have e1 : wrap64 (hi + lo / 4294967296) = hi + lo / 4294967296 := w_id (by omega) (by omega)
    simp only [cents_Sum.l0, if_neg (show ¬ ((i : Int) < (l.length : Int)) by omega), e1, i64_and32, List.all_nil, if_true, List.sum_nil, Int.add_zero]
    by_cases c1 : hi + lo / 4294967296 < -268435456
    · simp only [if_pos c1]
      have : fitting (hi * 4294967296 + lo) = (0, 3) := by
        unfold fitting
        rw [if_neg]
        rw [fits_iff]
        omega
      rw [this]
      exact Ev.now _
    · by_cases c2 : hi + lo / 4294967296 > 268435456
      · simp only [if_neg c1, if_pos c2]
        have : fitting (hi * 4294967296 + lo) = (0, 3) := by
          unfold fitting
          rw [if_neg]
          rw [fits_iff]
          omega
        rw [this]
        exact Ev.now _
      · have e2 : wrap64 ((hi + lo / 4294967296) * 4294967296) = (hi + lo / 4294967296) * 4294967296 := w_id (by omega) (by omega)
        have e3 : wrap64 ((hi + lo / 4294967296) * 4294967296 + lo % 4294967296) = hi * 4294967296 + lo := by rw [w_id (by omega) (by omega)]; omega
        simp only [if_neg c1, if_neg c2, e2, e3, fitting_f, Option.bind_some]
        exact Ev.now _
  | d + 1, i, hi, lo, hd, h1, h2, h3, h4 => by
    have hlt : i < l.length := by omega
    rw [drop_cons l i hlt]
    refine Ev_succ ?_
    simp only [cents_Sum.l0, if_pos (show (i : Int) < (l.length : Int) by omega), if_pos (show 0 ≤ (i : Int) by omega), rd_nat l i hlt, fits_f, Option.bind_some, i64_and32, List.all_cons, List.sum_cons]
    by_cases hf : fits l[i] = true
    case neg =>
      have hf' : fits l[i] = false := by simpa using hf
      simp only [hf', Bool.false_eq_true, if_false, Bool.false_and]; exact Ev.now _
    case pos =>
      have hb := (fits_iff _).1 hf
      have e1 : wrap64 (hi + l[i] / 4294967296) = hi + l[i] / 4294967296 := w_id (by omega) (by omega)
      have e2 : wrap64 (lo + l[i] % 4294967296) = lo + l[i] % 4294967296 := w_id (by omega) (by omega)
      have ih := sumLoop l hl d (i + 1) (hi + l[i] / 4294967296) (lo + l[i] % 4294967296) (by omega) (by omega) (by omega) (by omega) (by omega)
      rw [← w_succ hlt (by omega)] at ih
      simp only [hf, if_true, Bool.true_and, e1, e2]
      have e4 : (hi + l[i] / 4294967296) * 4294967296 + (lo + l[i] % 4294967296) + (l.drop (i + 1)).sum = hi * 4294967296 + lo + (l[i] + (l.drop (i + 1)).sum) := by omega
      rw [e4] at ih
      exact ih
theorem sum_f (l : List Int) (hl : l.length ≤ 1073741824) : Ev (fun k => cents_Sum.f k l) (sumE l) := by
  have := sumLoop l hl l.length 0 0 0 (by omega) (by omega) (by omega) (by omega) (by omega)
  simpa [cents_Sum.f, sumE] using this
end Go.Proofs.Ytokijibpdnepiaa.P
end
section
namespace Go.Proofs.Ytokijibpdnepiaa.P
set_option linter.unusedVariables false
set_option linter.unusedSimpArgs false
open Go.RowKit Go.Proofs.YtokijibpdnepiaaW.PrintWords Go.Proofs.YtokijibpdnepiaaW.PrintMore Go.Proofs.Ytokijibpdnepiaa.X
abbrev Aw := S52
theorem rdAw (l : List Aw) (i : Nat) (h : i < l.length) : rd_T52 l (i : Int) = l[i] := by simp [rd_T52, h]
def awardGo (cap : Int) : Int → List Bid → List Aw × Int
  | left, [] => ([], left)
  | left, b :: t => if left = 0 ∨ b.f2 > cap then ([], left) else (⟨b.f0, mn left b.f1, b.f2⟩ :: (awardGo cap (left - mn left b.f1) t).1, (awardGo cap (left - mn left b.f1) t).2)
theorem mn_rng {a b : Int} (ha : 0 ≤ a) (hb : 1 ≤ b) : mn a b ≤ a ∧ mn a b ≤ b ∧ 0 ≤ mn a b ∧ (a ≠ 0 → 1 ≤ mn a b) ∧ (mn a b < b → mn a b = a) := by
  unfold mn; split <;> omega
theorem awardLoop (cap : Int) (l : List Bid) (hl : l.length ≤ 1024) (hq : ∀ b ∈ l, 1 ≤ b.f1) : ∀ (d i : Nat) (acc : List Aw) (left : Int), i + d = l.length → acc.length ≤ i → 0 ≤ left → left ≤ 1048576 →
    Ev (fun k => auction_Award.l0 k cap acc left l l.length i) (acc ++ (awardGo cap left (l.drop i)).1, (awardGo cap left (l.drop i)).2, 0)
  | 0, i, acc, left, hd, ha, h1, h2 => by
    rw [List.drop_of_length_le (by omega)]
    refine Ev_succ ?_
    simp only [auction_Award.l0, if_neg (show ¬ ((i : Int) < (l.length : Int)) by omega), awardGo, List.append_nil]
    exact Ev.now _
  | d + 1, i, acc, left, hd, ha, h1, h2 => by
    have hi : i < l.length := by omega
    have hm := mn_rng h1 (hq _ (List.getElem_mem hi))
    rw [drop_cons l i hi, awardGo]
    refine Ev_succ ?_
    simp only [auction_Award.l0, if_pos (show (i : Int) < (l.length : Int) by omega), if_pos (show 0 ≤ (i : Int) by omega), rdBid l i hi]
    by_cases c : left = 0
    · rw [if_pos (Or.inl c)]
      simp only [if_pos c, List.append_nil]
      exact Ev.now _
    · by_cases c2 : l[i].f2 > cap
      · rw [if_pos (Or.inr c2)]
        simp only [if_neg c, if_pos c2, List.append_nil]
        exact Ev.now _
      · have e1 : wrap64 (left - mn left l[i].f1) = left - mn left l[i].f1 := w_id (by omega) (by omega)
        rw [if_neg (show ¬ (left = 0 ∨ l[i].f2 > cap) from fun h => h.elim c c2)]
        simp only [if_neg c, if_neg c2, if_pos (show acc.length < 4398046511104 by omega), e1, w_succ hi (by omega)]
        have ih := awardLoop cap l hl hq d (i + 1) (acc ++ [⟨l[i].f0, mn left l[i].f1, l[i].f2⟩]) (left - mn left l[i].f1) (by omega) (by simp; omega) (by omega) (by omega)
        rw [List.append_assoc] at ih
        exact ih
def award (qty : Int) (l : List Bid) (cap : Int) : List Aw × Int × Int :=
  if bidCheck l = 0 then (if qty < 0 ∨ qty > 1048576 then ([], 0, 18) else if priceB cap = true then ((awardGo cap qty (rankP l)).1, (awardGo cap qty (rankP l)).2, 0) else ([], 0, 28)) else ([], 0, bidCheck l)
theorem rank_good {l : List Bid} (h : bidCheck l = 0) : (rankP l).length = l.length ∧ l.length ≤ 1024 ∧ (∀ b ∈ rankP l, 1 ≤ b.f1 ∧ b.f1 ≤ 1048576 ∧ -68719476736 ≤ b.f2 ∧ b.f2 ≤ 68719476736) ∧ ∀ i j (h : j < (rankP l).length) (hij : i < j), ((rankP l)[i]'(by omega)).f2 ≤ (rankP l)[j].f2 := by
  obtain ⟨h1, h2⟩ := bidCheck_zero h
  obtain ⟨s1, s2⟩ := rank_facts l
  refine ⟨rank_len l, h1, fun b hb => h2 b (s2.mem_iff.1 hb), fun i j hj hij => ?_⟩
  have := (List.pairwise_iff_getElem.1 s1) i j (by omega) hj hij
  by_cases c : (rankP l)[j].f2 < ((rankP l)[i]'(by omega)).f2
  · rw [(lt_iff _ _).2 (Or.inl c)] at this; cases this
  · omega
theorem award_f (qty : Int) (l : List Bid) (cap : Int) : Ev (fun k => auction_Award.f k qty l cap) (award qty l cap) := by
  unfold auction_Award.f award
  refine Ev_bind (rank_f l) ?_
  unfold rank
  by_cases h : bidCheck l = 0
  · obtain ⟨g1, g2, g3, g4⟩ := rank_good h
    simp only [if_pos h, if_true]
    have hj : ∀ b, (b = true ↔ (qty < 0 ∨ qty > 1048576)) → Ev (fun k => auction_Award.j0 k qty cap [] (rankP l) b) (if qty < 0 ∨ qty > 1048576 then ([], 0, 18) else if priceB cap = true then ((awardGo cap qty (rankP l)).1, (awardGo cap qty (rankP l)).2, 0) else ([], 0, 28)) := by
      intro b hb
      refine Ev_succ ?_
      by_cases c : b = true
      · subst c
        rw [if_pos (hb.1 rfl)]
        simp only [auction_Award.j0, if_true]
        exact Ev.now _
      · have cf : b = false := by simpa using c
        subst cf
        have hn : ¬ (qty < 0 ∨ qty > 1048576) := fun h => c (hb.2 h)
        rw [if_neg hn]
        simp only [auction_Award.j0, Bool.false_eq_true, if_false, price_f, Option.bind_some]
        by_cases c1 : priceB cap = true
        · simp only [if_pos c1]
          have := awardLoop cap (rankP l) (by omega) (fun b hb => (g3 b hb).1) (rankP l).length 0 [] qty (by omega) (by simp) (by omega) (by omega)
          simpa using this
        · simp only [if_neg c1]
          exact Ev.now _
    by_cases c : qty < 0
    · simp only [if_pos c]
      have := hj true (by simp [c])
      exact this
    · simp only [if_neg c]
      refine hj _ ?_
      rw [decide_eq_true_iff]
      exact ⟨Or.inr, fun h => h.resolve_left c⟩
  · simp only [if_neg h]
    exact Ev.now _
theorem awardGo_facts (cap : Int) : ∀ (l : List Bid) (left : Int), 0 ≤ left → (∀ b ∈ l, 1 ≤ b.f1) → (awardGo cap left l).1.length ≤ l.length ∧ ∀ i (h : i < (awardGo cap left l).1.length) (h2 : i < l.length), (awardGo cap left l).1[i].f0 = l[i].f0 ∧ (awardGo cap left l).1[i].f2 = l[i].f2 ∧ l[i].f2 ≤ cap ∧ 1 ≤ (awardGo cap left l).1[i].f1 ∧ (awardGo cap left l).1[i].f1 ≤ l[i].f1 ∧ (i + 1 < (awardGo cap left l).1.length → (awardGo cap left l).1[i].f1 = l[i].f1)
  | [], left, h0, _ => by simp [awardGo]
  | b :: t, left, h0, hq => by
    by_cases c : left = 0 ∨ b.f2 > cap
    · have e : awardGo cap left (b :: t) = ([], left) := by rw [awardGo, if_pos c]
      rw [e]; simp
    · have e : awardGo cap left (b :: t) = (⟨b.f0, mn left b.f1, b.f2⟩ :: (awardGo cap (left - mn left b.f1) t).1, (awardGo cap (left - mn left b.f1) t).2) := by rw [awardGo, if_neg c]
      rw [e]
      dsimp only
      have hm := mn_rng h0 (hq b (by simp))
      obtain ⟨a1, a2⟩ := awardGo_facts cap t (left - mn left b.f1) (by omega) fun x hx => hq x (by simp [hx])
      refine ⟨by simp only [List.length_cons]; omega, fun i h h2 => ?_⟩
      cases i with
      | zero =>
        have c1 : left ≠ 0 := fun e => c (Or.inl e)
        have c2 : ¬ b.f2 > cap := fun e => c (Or.inr e)
        refine ⟨rfl, rfl, by simp only [List.getElem_cons_zero]; omega, ?_, ?_, fun h3 => ?_⟩
        · exact hm.2.2.2.1 c1
        · exact hm.2.1
        · simp only [List.getElem_cons_zero]
          by_cases e : mn left b.f1 < b.f1
          · have e2 := hm.2.2.2.2 e
            simp only [List.length_cons] at h3
            rw [e2, Int.sub_self] at h3
            have : (awardGo cap 0 t).1 = [] := by cases t <;> simp [awardGo]
            rw [this] at h3
            simp at h3
          · omega
      | succ j =>
        have h' : j < (awardGo cap (left - mn left b.f1) t).1.length := by simpa using h
        have h2' : j < t.length := by simpa using h2
        have := a2 j h' h2'
        simp only [List.getElem_cons_succ, List.length_cons]
        refine ⟨this.1, this.2.1, this.2.2.1, this.2.2.2.1, this.2.2.2.2.1, fun h3 => this.2.2.2.2.2 (by omega)⟩
theorem award_len (qty : Int) (l : List Bid) (cap : Int) : (award qty l cap).1.length ≤ 1024 ∧ ((award qty l cap).2.2 ≠ 0 → (award qty l cap).1 = [] ∧ (award qty l cap).2.1 = 0) := by
  unfold award
  by_cases h : bidCheck l = 0
  · rw [if_pos h]
    obtain ⟨g1, g2, g3, g4⟩ := rank_good h
    by_cases c : qty < 0 ∨ qty > 1048576
    · rw [if_pos c]; simp
    · rw [if_neg c]
      by_cases c1 : priceB cap = true
      · rw [if_pos c1]
        have := (awardGo_facts cap (rankP l) qty (by omega) fun b hb => (g3 b hb).1).1
        exact ⟨by show (awardGo cap qty (rankP l)).1.length ≤ 1024; omega, fun h => absurd rfl h⟩
      · rw [if_neg c1]; simp
  · rw [if_neg h]; simp
def setP (p : Int) (a : Aw) : Aw := ⟨a.f0, a.f1, p⟩
def lastP (l : List Aw) : Int := match l.getLast? with | some a => a.f2 | none => 0
theorem lastP_at (l : List Aw) (h : 0 < l.length) : lastP l = (l[l.length - 1]).f2 := by
  unfold lastP
  rw [List.getLast?_eq_getElem?, List.getElem?_eq_getElem (show l.length - 1 < l.length by omega)]
def uniform (qty : Int) (l : List Bid) (cap : Int) : List Aw × Int × Int × Int := ((award qty l cap).1.map (setP (lastP (award qty l cap).1)), lastP (award qty l cap).1, (award qty l cap).2.1, (award qty l cap).2.2)
theorem at_mid (A B : List Aw) (b : Aw) (f : Aw → Aw) : rd_T52 (A.map f ++ b :: B) (A.length : Int) = b := by
  rw [rdAw _ _ (by simp)]
  rw [List.getElem_append_right (by simp)]
  simp
theorem put_mid (A B : List Aw) (b x : Aw) (f : Aw → Aw) : (A.map f ++ b :: B).set A.length x = A.map f ++ x :: B := by
  rw [List.set_append_right _ _ (by simp)]
  simp
theorem uniLoop (p left e : Int) (n : Nat) (hn : n ≤ 4611686018427387904) : ∀ (B A : List Aw), A.length + B.length = n → Ev (fun k => auction_Uniform.l0 k (A.map (setP p) ++ B) p left e n A.length) ((A ++ B).map (setP p), p, left, e)
  | [], A, h => by
    refine Ev_succ ?_
    simp only [List.length_nil, Nat.add_zero] at h
    subst h
    simp only [auction_Uniform.l0, if_neg (show ¬ ((A.length : Int) < (A.length : Int)) by omega), List.append_nil]
    exact Ev.now _
  | b :: B, A, h => by
    have ih := uniLoop p left e n hn B (A ++ [b]) (by simp at h ⊢; omega)
    have e1 : (A ++ [b]).map (setP p) ++ B = A.map (setP p) ++ setP p b :: B := by simp
    have e2 : (A ++ [b]).length = A.length + 1 := by simp
    rw [e1, e2, List.append_assoc] at ih
    simp only [List.length_cons] at h
    refine Ev_succ ?_
    simp only [auction_Uniform.l0, if_pos (show (A.length : Int) < (n : Int) by omega), if_pos (show 0 ≤ (A.length : Int) by omega), if_pos (show (A.length : Int) < ((A.map (setP p) ++ b :: B).length : Int) by simp; omega), at_mid, Int.toNat_natCast, put_mid, w_succ (show A.length < n by omega) (show n ≤ 9223372036854775807 by omega)]
    exact ih
theorem uniform_f (qty : Int) (l : List Bid) (cap : Int) : Ev (fun k => auction_Uniform.f k qty l cap) (uniform qty l cap) := by
  unfold auction_Uniform.f uniform
  refine Ev_bind (award_f qty l cap) ?_
  have hl := (award_len qty l cap).1
  generalize award qty l cap = r at hl
  obtain ⟨o, left, e⟩ := r
  dsimp only at hl ⊢
  have hgo : ∀ p, Ev (fun k => auction_Uniform.j0 k o p left e) (o.map (setP p), p, left, e) := by
    intro p
    refine Ev_succ ?_
    simp only [auction_Uniform.j0]
    exact uniLoop p left e o.length (by omega) o [] (by simp)
  by_cases c : 0 < o.length
  · have hp := w_pred c (by omega)
    simp only [if_pos (show (o.length : Int) > 0 by omega), hp, if_pos (show 0 ≤ ((o.length - 1 : Nat) : Int) by omega), if_pos (show ((o.length - 1 : Nat) : Int) < (o.length : Int) by omega), rdAw o (o.length - 1) (by omega), ← lastP_at o c]
    exact hgo _
  · have : o = [] := List.eq_nil_of_length_eq_zero (by omega)
    subst this
    simp only [if_neg (show ¬ (((([] : List Aw).length : Nat) : Int) > 0) by simp)]
    exact hgo 0
def costErr (a : Aw) : Int := if a.f1 < 0 ∨ a.f1 > 1048576 then 18 else if priceB a.f2 = true then 0 else 28
def costGo : List Aw → Int
  | [] => 0
  | a :: t => if costErr a = 0 then costGo t else costErr a
def cost (l : List Aw) : Int × Int := if l.length > 1024 then (0, 8) else if costGo l = 0 then sumE (l.map fun a => a.f1 * a.f2) else (0, costGo l)
theorem costErr_zero {a : Aw} (h : costErr a = 0) : 0 ≤ a.f1 ∧ a.f1 ≤ 1048576 ∧ -68719476736 ≤ a.f2 ∧ a.f2 ≤ 68719476736 := by
  unfold costErr at h
  by_cases c1 : a.f1 < 0 ∨ a.f1 > 1048576
  · rw [if_pos c1] at h; omega
  · rw [if_neg c1] at h
    by_cases c2 : priceB a.f2 = true
    · have := c2
      simp only [priceB, Bool.and_eq_true, decide_eq_true_eq] at this
      omega
    · rw [if_neg c2] at h; omega
theorem mul_rng45 {a b : Int} (h1 : 0 ≤ a) (h2 : a ≤ 1048576) (h3 : -68719476736 ≤ b) (h4 : b ≤ 68719476736) : -72057594037927936 ≤ a * b ∧ a * b ≤ 72057594037927936 := by
  have e1 := Int.mul_le_mul_of_nonneg_left h4 h1
  have e2 := Int.mul_le_mul_of_nonneg_left h3 h1
  omega
theorem costLoop (l : List Aw) (hl : l.length ≤ 1024) : ∀ (d i : Nat) (acc : List Int), i + d = l.length → acc.length = i → Ev (fun k => auction_Cost.l0 k acc l l.length i) (if costGo (l.drop i) = 0 then sumE (acc ++ (l.drop i).map fun a => a.f1 * a.f2) else (0, costGo (l.drop i)))
  | 0, i, acc, hd, ha => by
    rw [List.drop_of_length_le (by omega)]
    refine Ev_succ ?_
    simp only [auction_Cost.l0, if_neg (show ¬ ((i : Int) < (l.length : Int)) by omega), costGo, if_true, List.map_nil, List.append_nil]
    refine Ev_bind (sum_f acc (by omega)) (Ev.now _)
  | d + 1, i, acc, hd, ha => by
    have hi : i < l.length := by omega
    have ih := fun x => costLoop l hl d (i + 1) (acc ++ [x]) (by omega) (by simp [ha])
    rw [drop_cons l i hi, costGo]
    have hj : ∀ b, (b = true ↔ (l[i].f1 < 0 ∨ l[i].f1 > 1048576)) → Ev (fun k => auction_Cost.j1 k acc l l.length i b l[i].f0 l[i].f1 l[i].f2) (if (if costErr l[i] = 0 then costGo (l.drop (i + 1)) else costErr l[i]) = 0 then sumE (acc ++ (l[i] :: l.drop (i + 1)).map fun a => a.f1 * a.f2) else (0, if costErr l[i] = 0 then costGo (l.drop (i + 1)) else costErr l[i])) := by
      intro b hb
      refine Ev_succ ?_
      by_cases c : b = true
      · subst c
        have e : costErr l[i] = 18 := by unfold costErr; rw [if_pos (hb.1 rfl)]
        rw [e]
        simp only [auction_Cost.j1, if_true]
        exact Ev.now _
      · have cf : b = false := by simpa using c
        subst cf
        have hn : ¬ (l[i].f1 < 0 ∨ l[i].f1 > 1048576) := fun h => c (hb.2 h)
        simp only [auction_Cost.j1, Bool.false_eq_true, if_false, price_f, Option.bind_some]
        by_cases c1 : priceB l[i].f2 = true
        · have e : costErr l[i] = 0 := by unfold costErr; rw [if_neg hn, if_pos c1]
          obtain ⟨b1, b2, b3, b4⟩ := costErr_zero e
          have hm := mul_rng45 b1 b2 b3 b4
          have ew : wrap64 (l[i].f1 * l[i].f2) = l[i].f1 * l[i].f2 := w_id (by omega) (by omega)
          rw [e, if_pos rfl]
          simp only [if_pos c1, if_pos (show acc.length < 17592186044416 by omega), ew, w_succ hi (show l.length ≤ 9223372036854775807 by omega)]
          have := ih (l[i].f1 * l[i].f2)
          rw [List.append_assoc] at this
          exact this
        · have e : costErr l[i] = 28 := by unfold costErr; rw [if_neg hn, if_neg c1]
          rw [e]
          simp only [if_neg c1]
          exact Ev.now _
    refine Ev_succ ?_
    simp only [auction_Cost.l0, if_pos (show (i : Int) < (l.length : Int) by omega), if_pos (show 0 ≤ (i : Int) by omega), rdAw l i hi]
    by_cases c : l[i].f1 < 0
    · simp only [if_pos c]
      exact hj true (by simp [c])
    · simp only [if_neg c]
      refine hj _ ?_
      rw [decide_eq_true_iff]
      exact ⟨Or.inr, fun h => h.resolve_left c⟩
theorem cost_f (l : List Aw) : Ev (fun k => auction_Cost.f k l) (cost l) := by
  unfold auction_Cost.f cost
  by_cases h : l.length > 1024
  · simp only [if_pos (show (l.length : Int) > 1024 by omega), if_pos h]
    exact Ev.now _
  · simp only [if_neg (show ¬ ((l.length : Int) > 1024) by omega), if_neg h]
    exact costLoop l (by omega) l.length 0 [] (by omega) rfl
end Go.Proofs.Ytokijibpdnepiaa.P
end
section
namespace Go.Proofs.Ytokijibpdnepiaa.P
open Go.RowKit Go.Proofs.YtokijibpdnepiaaW.PrintWords Go.Proofs.YtokijibpdnepiaaW.PrintMore Go.Proofs.Ytokijibpdnepiaa.X
set_option maxRecDepth 100000 in
theorem goes45 : Ev (fun k => contangolaw45_goes.f k) true := Ev.of (k := 40) (contangolaw45_goes.mono) (by decide +kernel)
end Go.Proofs.Ytokijibpdnepiaa.P
end
section
namespace Go.Proofs.Ytokijibpdnepiaa.Pure
set_option linter.unusedVariables false
set_option linter.unusedSimpArgs false
open Go.RowKit Go.Proofs.YtokijibpdnepiaaW.PrintWords Go.Proofs.YtokijibpdnepiaaW.PrintMore Go.Proofs.Ytokijibpdnepiaa.X Go.Proofs.Ytokijibpdnepiaa.P
theorem costSum_le (p : Int) : ∀ (l : List Aw), (∀ a ∈ l, 0 ≤ a.f1 ∧ a.f2 ≤ p) → (l.map fun a => a.f1 * a.f2).sum ≤ ((l.map (setP p)).map fun a => a.f1 * a.f2).sum
  | [], _ => Int.le_refl _
  | a :: t, h => by
    have h1 := h a (by simp)
    have h2 := costSum_le p t fun x hx => h x (by simp [hx])
    have h3 : a.f1 * a.f2 ≤ a.f1 * p := Int.mul_le_mul_of_nonneg_left h1.2 h1.1
    simp only [List.map_cons, List.sum_cons, setP] at h2 ⊢
    omega
theorem costGo_zero : ∀ (l : List Aw), costGo l = 0 → ∀ a ∈ l, costErr a = 0
  | [], _, a, ha => by simp at ha
  | x :: t, h, a, ha => by
    unfold costGo at h
    by_cases c : costErr x = 0
    · rw [if_pos c] at h
      rcases List.mem_cons.1 ha with e | e
      · rw [e]; exact c
      · exact costGo_zero t h a e
    · rw [if_neg c] at h; exact absurd h c
theorem sumE_fst {l : List Int} (h : (sumE l).2 = 0) : (sumE l).1 = l.sum := by
  unfold sumE at h ⊢
  split
  · rename_i c
    rw [if_pos c] at h
    unfold fitting at h ⊢
    split
    · rfl
    · rename_i c2; rw [if_neg c2] at h; exact absurd h (by decide)
  · rename_i c; rw [if_neg c] at h; exact absurd h (by decide)
theorem cost_le (p : Int) (l : List Aw) (hp : ∀ a ∈ l, a.f2 ≤ p) (h1 : (cost l).2 = 0) (h2 : (cost (l.map (setP p))).2 = 0) : (cost l).1 ≤ (cost (l.map (setP p))).1 := by
  unfold cost at h1 h2 ⊢
  rw [List.length_map] at h2 ⊢
  by_cases c : l.length > 1024
  · rw [if_pos c] at h1; exact absurd h1 (by decide)
  · rw [if_neg c] at h1 h2
    rw [if_neg c, if_neg c]
    by_cases c1 : costGo l = 0
    · rw [if_pos c1] at h1 ⊢
      by_cases c2 : costGo (l.map (setP p)) = 0
      · rw [if_pos c2] at h2 ⊢
        rw [sumE_fst h1, sumE_fst h2]
        exact costSum_le p l fun a ha => ⟨(costErr_zero (costGo_zero l c1 a ha)).1, hp a ha⟩
      · rw [if_neg c2] at h2; exact absurd h2 c2
    · rw [if_neg c1] at h1; exact absurd h1 c1
theorem oneL0 (a : List Aw) (ha : a.length ≤ 1024) (hs : ∀ i j (h : j < a.length) (hij : i < j), (a[i]'(by omega)).f2 ≤ a[j].f2) : ∀ (d i : Nat) (b : Bool), i + d = a.length → (b = true ∨ i < a.length) →
    Ev (fun k => contangolaw45_AuctionOne.l0 k a (a.map (setP (lastP a))) (lastP a) b a.length i) true
  | 0, i, b, hd, hb => by
    have hbt : b = true := by rcases hb with h | h; exact h; omega
    subst hbt
    refine Ev_succ ?_
    simp only [contangolaw45_AuctionOne.l0, if_neg (show ¬ ((i : Int) < (a.length : Int)) by omega)]
    refine Ev_bind (cost_f a) ?_
    refine Ev_bind (cost_f _) ?_
    simp only [if_true]
    by_cases c1 : (cost a).2 = 0
    · simp only [if_pos c1]
      by_cases c2 : (cost (a.map (setP (lastP a)))).2 = 0
      · have hle := cost_le (lastP a) a (fun x hx => by
          obtain ⟨j, hj, rfl⟩ := List.getElem_of_mem hx
          rw [lastP_at a (by omega)]
          by_cases e : j = a.length - 1
          · subst e; exact Int.le_refl _
          · exact hs j (a.length - 1) (by omega) (by omega)) c1 c2
        simp only [if_pos c2, if_pos hle]
        exact Ev_id goes45
      · simp only [if_neg c2]
        exact Ev_id goes45
    · simp only [if_neg c1]
      exact Ev_id goes45
  | d + 1, i, b, hd, hb => by
    have hi : i < a.length := by omega
    have hi2 : i < (a.map (setP (lastP a))).length := by rw [List.length_map]; exact hi
    have hle : ¬ a[i].f2 > lastP a := by
      rw [lastP_at a (by omega)]
      by_cases e : i = a.length - 1
      · subst e; omega
      · have := hs i (a.length - 1) (by omega) (by omega); omega
    have eb : (a.map (setP (lastP a)))[i] = setP (lastP a) a[i] := by simp
    refine Ev_succ ?_
    simp only [contangolaw45_AuctionOne.l0, if_pos (show (i : Int) < (a.length : Int) by omega), if_pos (show 0 ≤ (i : Int) by omega), if_pos (show (i : Int) < ((a.map (setP (lastP a))).length : Int) by rw [List.length_map]; omega), rdAw a i hi, rdAw _ i hi2, eb, setP, if_true, if_neg hle, w_succ hi (show a.length ≤ 9223372036854775807 by omega)]
    by_cases c : b = true
    · simp only [if_pos c]
      exact oneL0 a ha hs d (i + 1) true (by omega) (Or.inl rfl)
    · simp only [if_neg c]
      refine oneL0 a ha hs d (i + 1) _ (by omega) ?_
      by_cases e : i + 1 < a.length
      · exact Or.inr e
      · refine Or.inl ?_
        have e2 : i = a.length - 1 := by omega
        rw [lastP_at a (by omega)]
        subst e2
        exact beq_self_eq_true _
theorem award_sorted (qty : Int) (l : List Bid) (cap : Int) : (award qty l cap).1.Pairwise (fun a b => a.f2 ≤ b.f2) := by
  by_cases hc : bidCheck l = 0
  · by_cases hq : qty < 0 ∨ qty > 1048576
    · have e : award qty l cap = ([], 0, 18) := by unfold award; rw [if_pos hc, if_pos hq]
      rw [e]; exact List.Pairwise.nil
    · by_cases hp : priceB cap = true
      · have e : award qty l cap = ((awardGo cap qty (rankP l)).1, (awardGo cap qty (rankP l)).2, 0) := by unfold award; rw [if_pos hc, if_neg hq, if_pos hp]
        obtain ⟨g1, g2, g3, g4⟩ := rank_good hc
        obtain ⟨f1, f2⟩ := awardGo_facts cap (rankP l) qty (by omega) fun b hb => (g3 b hb).1
        rw [e]
        refine List.pairwise_iff_getElem.2 fun i j hi h hij => ?_
        dsimp only at hi h ⊢
        have hi := f2 i (by omega) (by omega)
        have hj := f2 j h (by omega)
        exact Int.le_trans (Int.le_of_eq hi.2.1) (Int.le_trans (g4 i j (by omega) hij) (Int.le_of_eq hj.2.1.symm))
      · have e : award qty l cap = ([], 0, 28) := by unfold award; rw [if_pos hc, if_neg hq, if_neg hp]
        rw [e]; exact List.Pairwise.nil
  · have e : award qty l cap = ([], 0, bidCheck l) := by unfold award; rw [if_neg hc]
    rw [e]; exact List.Pairwise.nil
theorem AuctionOne : ∀ (a0 : Int) (l1 : List (S33)) (a2 : Int), (Lit.int .i64 a0).wf = true → (l1.length ≤ maxLen ∧ l1.length * 40 ≤ 140737488351232 ∧ ∀ x ∈ l1, ok33 x) → (Lit.int .i64 a2).wf = true → ∃ k, X.contangolaw45_AuctionOne.f k a0 l1 a2 = some true := by
  intro qty l cap _ hl _
  apply Ev.rounds
  unfold contangolaw45_AuctionOne.f
  by_cases c : (l.length : Int) > 300
  · simp only [if_pos c]; exact Ev_id goes45
  · simp only [if_neg c]
    obtain ⟨hal, hae⟩ := award_len qty l cap
    have hs0 := award_sorted qty l cap
    refine Ev_bind (award_f qty l cap) ?_
    refine Ev_bind (uniform_f qty l cap) ?_
    unfold uniform
    generalize award qty l cap = r at hal hae hs0
    obtain ⟨a, left, e⟩ := r
    dsimp only at hal hae hs0 ⊢
    have hs : ∀ i j (h : j < a.length) (hij : i < j), (a[i]'(by omega)).f2 ≤ a[j].f2 := fun i j h hij => (List.pairwise_iff_getElem.1 hs0) i j (by omega) h hij
    simp only [if_true, List.length_map, bne_self_eq_false]
    refine Ev_succ ?_
    simp only [contangolaw45_AuctionOne.j0, Bool.false_eq_true, if_false]
    by_cases ce : e = 0
    · simp only [if_pos ce]
      by_cases c0 : (a.length : Int) = 0
      · have ea : a = [] := List.eq_nil_of_length_eq_zero (by omega)
        simp only [if_pos c0]
        refine Ev_succ ?_
        simp only [contangolaw45_AuctionOne.j1]
        refine oneL0 a (by omega) hs a.length 0 _ (by omega) (Or.inl ?_)
        subst ea; rfl
      · simp only [if_neg c0]
        refine Ev_succ ?_
        simp only [contangolaw45_AuctionOne.j1]
        exact oneL0 a (by omega) hs a.length 0 _ (by omega) (Or.inr (by omega))
    · obtain ⟨rfl, rfl⟩ := hae ce
      simp only [if_neg ce, show lastP ([] : List Aw) = 0 from rfl, if_true]
      exact Ev_id goes45
end Go.Proofs.Ytokijibpdnepiaa.Pure
end
