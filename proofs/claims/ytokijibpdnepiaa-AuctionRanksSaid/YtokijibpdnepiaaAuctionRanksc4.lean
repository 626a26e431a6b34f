/- For AuctionRanks: contracts, and facts on lists and numbers, that it uses (part 4). -/
import Derived.Test.YtokijibpdnepiaaAuctionRanksc3
section
namespace Go.Proofs.Ytokijibpdnepiaa.P
set_option linter.unusedVariables false
set_option linter.unusedSimpArgs false
open Go.RowKit Go.Proofs.YtokijibpdnepiaaW.PrintWords Go.Proofs.YtokijibpdnepiaaW.PrintMore Go.Proofs.Ytokijibpdnepiaa.X
def lt (a b : Bid) : Bool := if a.f2 = b.f2 then (if a.f3 = b.f3 then Op.bytesLess a.f0.toList b.f0.toList else decide (a.f3 < b.f3)) else decide (a.f2 < b.f2)
theorem lt_iff (a b : Bid) : lt a b = true ↔ a.f2 < b.f2 ∨ a.f2 = b.f2 ∧ (a.f3 < b.f3 ∨ a.f3 = b.f3 ∧ Op.bytesLess a.f0.toList b.f0.toList = true) := by
  unfold lt
  by_cases h : a.f2 = b.f2
  · rw [if_pos h]
    by_cases h2 : a.f3 = b.f3
    · rw [if_pos h2]
      constructor
      · intro e; exact Or.inr ⟨h, Or.inr ⟨h2, e⟩⟩
      · rintro (e | ⟨_, e | ⟨_, e⟩⟩)
        · omega
        · omega
        · exact e
    · rw [if_neg h2, decide_eq_true_iff]
      constructor
      · intro e; exact Or.inr ⟨h, Or.inl e⟩
      · rintro (e | ⟨_, e | ⟨e, _⟩⟩)
        · omega
        · exact e
        · exact absurd e h2
  · rw [if_neg h, decide_eq_true_iff]
    constructor
    · intro e; exact Or.inl e
    · rintro (e | ⟨e, _⟩)
      · exact e
      · exact absurd e h
theorem lt_asymm {a b : Bid} (h : lt a b = true) : lt b a = false := by
  rw [← Bool.not_eq_true]
  intro k
  rw [lt_iff] at h k
  rcases h with h | ⟨h1, h | ⟨h2, h3⟩⟩
  · rcases k with k | ⟨k1, _⟩ <;> omega
  · rcases k with k | ⟨k1, k | ⟨k2, _⟩⟩ <;> omega
  · rcases k with k | ⟨k1, k | ⟨k2, k3⟩⟩
    · omega
    · omega
    · rw [bl_asymm h3] at k3; cases k3
theorem lt_self (a : Bid) : lt a a = false := by
  rw [← Bool.not_eq_true]
  intro h
  have := lt_asymm h
  rw [h] at this
  cases this
theorem lt_le {x y z : Bid} (h : lt x y = true) (k : lt z y = false) : lt x z = true := by
  have k' : ¬ lt z y = true := by rw [k]; decide
  rw [lt_iff] at h k' ⊢
  rcases h with h | ⟨h1, h | ⟨h2, h3⟩⟩
  · have : y.f2 ≤ z.f2 := by
      by_cases c : z.f2 < y.f2
      · exact absurd (Or.inl c) k'
      · omega
    left; omega
  · by_cases c : z.f2 < y.f2
    · exact absurd (Or.inl c) k'
    · by_cases c2 : z.f2 = y.f2
      · by_cases c3 : z.f3 < y.f3
        · exact absurd (Or.inr ⟨c2, Or.inl c3⟩) k'
        · right; exact ⟨by omega, Or.inl (by omega)⟩
      · left; omega
  · by_cases c : z.f2 < y.f2
    · exact absurd (Or.inl c) k'
    · by_cases c2 : z.f2 = y.f2
      · by_cases c3 : z.f3 < y.f3
        · exact absurd (Or.inr ⟨c2, Or.inl c3⟩) k'
        · by_cases c4 : z.f3 = y.f3
          · have c5 : Op.bytesLess z.f0.toList y.f0.toList = false := by
              rw [← Bool.not_eq_true]
              intro e
              exact k' (Or.inr ⟨c2, Or.inr ⟨c4, e⟩⟩)
            right
            refine ⟨by omega, Or.inr ⟨by omega, ?_⟩⟩
            by_cases c6 : Op.bytesLess y.f0.toList z.f0.toList = true
            · exact bl_trans _ _ _ h3 c6
            · rw [← bl_eq (by simpa using c6) c5]; exact h3
          · right; exact ⟨by omega, Or.inl (by omega)⟩
      · left; omega
theorem ordV_lt (a b : Bid) : ordV a b < 0 ↔ lt a b = true := by
  unfold ordV auction_Rank_1.f cmp_Compare_int.f cmp_Compare_string.f cmp_isNaN_int.f cmp_isNaN_string.f lt
  simp only [bne_self_eq_false, Option.bind_some, Bool.false_eq_true, if_false]
  by_cases h : a.f2 = b.f2
  · rw [if_pos h, if_pos h]
    by_cases h2 : a.f3 = b.f3
    · rw [if_pos h2, if_pos h2]
      by_cases h3 : Op.bytesLess a.f0.toList b.f0.toList = true
      · rw [if_pos h3, h3]; simp
      · rw [if_neg h3]
        have : Op.bytesLess a.f0.toList b.f0.toList = false := by simpa using h3
        rw [this]
        split <;> simp
    · rw [if_neg h2, if_neg h2, decide_eq_true_iff]
      by_cases h3 : a.f3 < b.f3
      · rw [if_pos h3]; simp [h3]
      · rw [if_neg h3]
        split <;> simp <;> omega
  · rw [if_neg h, if_neg h, decide_eq_true_iff]
    by_cases h3 : a.f2 < b.f2
    · rw [if_pos h3]; simp [h3]
    · rw [if_neg h3]
      split <;> simp <;> omega
theorem better_f (a b : Bid) : contangoref45_better.f a.f0 a.f1 a.f2 a.f3 b.f0 b.f1 b.f2 b.f3 = some (lt a b) := by
  unfold contangoref45_better.f lt
  split
  · split <;> rfl
  · rfl
abbrev gb (l : List Bid) (i : Nat) : Bid := l.getD i z33
theorem gb_eq (l : List Bid) (i : Nat) (h : i < l.length) : gb l i = l[i] := by simp [gb, List.getD, h]
theorem rd_gb (l : List Bid) (i : Nat) : rd_T33 l (i : Int) = gb l i := by simp [rd_T33, gb]
def Sorted (l : List Bid) : Prop := l.Pairwise fun a b => lt b a = false
theorem sorted_at {l : List Bid} (h : Sorted l) {i j : Nat} (hij : i < j) (hj : j < l.length) : lt (gb l j) (gb l i) = false := by
  rw [gb_eq l j hj, gb_eq l i (by omega)]
  exact (List.pairwise_iff_getElem.1 h) i j (by omega) hj hij
theorem insAt_facts (s : List Bid) (x : Bid) (hs : Sorted s) : ∀ n, n ≤ s.length → (∀ j, insAt s x n ≤ j → j < n → lt x (gb s j) = true) ∧ (∀ j, j < insAt s x n → lt x (gb s j) = false)
  | 0, _ => ⟨fun j _ h => by omega, fun j h => by simp [insAt] at h⟩
  | n + 1, hn => by
    obtain ⟨h1, h2⟩ := insAt_facts s x hs n (by omega)
    have e : insAt s x (n + 1) = if ordV x (rd_T33 s (n : Int)) < 0 then insAt s x n else n + 1 := rfl
    rw [e, rd_gb]
    by_cases c : ordV x (gb s n) < 0
    · rw [if_pos c]
      refine ⟨fun j hj hjn => ?_, h2⟩
      by_cases ej : j = n
      · rw [ej]; exact (ordV_lt _ _).1 c
      · exact h1 j hj (by omega)
    · rw [if_neg c]
      refine ⟨fun j hj hjn => by omega, fun j hj => ?_⟩
      have hxn : lt x (gb s n) = false := by rw [← Bool.not_eq_true]; exact fun h => c ((ordV_lt _ _).2 h)
      by_cases ej : j = n
      · rw [ej]; exact hxn
      · rw [← Bool.not_eq_true]
        intro hx
        have := lt_le hx (sorted_at hs (show j < n by omega) (by omega))
        rw [this] at hxn
        cases hxn
theorem insB_sorted {s : List Bid} (hs : Sorted s) (x : Bid) : Sorted (insB s x) := by
  obtain ⟨h1, h2⟩ := insAt_facts s x hs s.length (Nat.le_refl _)
  have hq := insAt_le s x s.length
  unfold insB
  generalize insAt s x s.length = q at h1 h2 hq
  have hp := hs
  unfold Sorted at hp ⊢
  rw [← List.take_append_drop q s, List.pairwise_append] at hp
  obtain ⟨p1, p2, p3⟩ := hp
  rw [List.append_assoc, List.pairwise_append]
  refine ⟨p1, List.pairwise_cons.2 ⟨fun y hy => ?_, p2⟩, fun a ha b hb => ?_⟩
  · have hy : y ∈ s.drop q := hy
    obtain ⟨i, hi, rfl⟩ := List.getElem_of_mem hy
    rw [List.length_drop] at hi
    rw [List.getElem_drop, ← gb_eq s (q + i) (by omega)]
    exact lt_asymm (h1 (q + i) (by omega) (by omega))
  · rcases List.mem_cons.1 hb with e | e
    · rw [e]
      obtain ⟨i, hi, rfl⟩ := List.getElem_of_mem ha
      rw [List.length_take] at hi
      rw [List.getElem_take, ← gb_eq s i (by omega)]
      exact h2 i (by omega)
    · exact p3 a ha b e
theorem insB_perm (s : List Bid) (x : Bid) : (insB s x).Perm (x :: s) := by
  unfold insB
  rw [List.append_assoc]
  have h : (s.take (insAt s x s.length) ++ ([x] ++ s.drop (insAt s x s.length))).Perm ([x] ++ (s.take (insAt s x s.length) ++ s.drop (insAt s x s.length))) := by
    rw [← List.append_assoc, ← List.append_assoc]
    exact List.perm_append_comm.append_right _
  rw [List.take_append_drop] at h
  exact h
theorem insB_get (s : List Bid) (x : Bid) (j : Nat) : gb (insB s x) j = if j < insAt s x s.length then gb s j else if j = insAt s x s.length then x else gb s (j - 1) := by
  have hq := insAt_le s x s.length
  unfold insB
  generalize insAt s x s.length = q at hq
  have ht : (s.take q).length = q := by rw [List.length_take]; omega
  unfold gb
  rw [List.append_assoc]
  by_cases c : j < q
  · rw [if_pos c]
    simp only [List.getD, List.getElem?_append_left (show j < (s.take q).length by omega), List.getElem?_take, if_pos c]
  · rw [if_neg c]
    simp only [List.getD, List.getElem?_append_right (show (s.take q).length ≤ j by omega), ht]
    by_cases c2 : j = q
    · rw [if_pos c2, c2, Nat.sub_self]; rfl
    · rw [if_neg c2]
      obtain ⟨m, hm⟩ : ∃ m, j - q = m + 1 := ⟨j - q - 1, by omega⟩
      rw [hm]
      simp only [List.getD, List.singleton_append, List.getElem?_cons_succ, List.getElem?_drop]
      rw [show q + m = j - 1 by omega]
def rankP (l : List Bid) : List Bid := l.foldl insB []
theorem rank_snoc (l : List Bid) (x : Bid) : rankP (l ++ [x]) = insB (rankP l) x := by unfold rankP; rw [List.foldl_append]; rfl
theorem rank_len (l : List Bid) : (rankP l).length = l.length := by
  unfold rankP; rw [fold_len]; simp
theorem rank_facts : ∀ (l : List Bid), Sorted (rankP l) ∧ (rankP l).Perm l := by
  intro l
  generalize hn : l.length = n
  induction n generalizing l with
  | zero =>
    have : l = [] := List.eq_nil_of_length_eq_zero hn
    subst this
    exact ⟨List.Pairwise.nil, List.Perm.refl _⟩
  | succ n ih =>
    have hne : l ≠ [] := by intro e; subst e; simp at hn
    rw [← List.dropLast_concat_getLast hne]
    obtain ⟨h1, h2⟩ := ih l.dropLast (by simp [hn])
    rw [rank_snoc]
    exact ⟨insB_sorted h1 _, (insB_perm _ _).trans ((h2.cons _).trans (List.perm_append_comm (l₁ := [l.getLast hne]) (l₂ := l.dropLast)))⟩
def ahead (l : List Bid) (i k : Nat) : Bool := lt (gb l k) (gb l i) || (!(lt (gb l i) (gb l k)) && decide (k < i))
def cnt (l : List Bid) (m i : Nat) : Nat := (List.range m).countP (ahead l i)
theorem cnt_succ (l : List Bid) (m i : Nat) : cnt l (m + 1) i = cnt l m i + if ahead l i m = true then 1 else 0 := by
  unfold cnt
  rw [List.range_succ, List.countP_append, List.countP_cons, List.countP_nil, Nat.zero_add]
theorem countP_range (p : Bid → Bool) (l : List Bid) : ∀ m, m ≤ l.length → (List.range m).countP (fun k => p (gb l k)) = (l.take m).countP p
  | 0, _ => rfl
  | m + 1, h => by
    rw [List.range_succ, List.countP_append, countP_range p l m (by omega), List.take_succ_eq_append_getElem (by omega), List.countP_append, gb_eq' l m (by omega)]
where
  gb_eq' (l : List Bid) (m : Nat) (h : m < l.length) : ∀ {p : Bid → Bool}, List.countP (fun k => p (gb l k)) [m] = List.countP p [l[m]] := by
    intro p
    simp only [List.countP_cons, List.countP_nil, gb_eq l m h]
theorem countP_front (p : Bid → Bool) (s : List Bid) (q : Nat) (hq : q ≤ s.length) (h1 : ∀ j, j < q → p (gb s j) = true) (h2 : ∀ j, q ≤ j → j < s.length → p (gb s j) = false) : s.countP p = q := by
  rw [← List.take_append_drop q s, List.countP_append]
  have e1 : (s.take q).countP p = q := by
    have : (s.take q).countP p = (s.take q).length := List.countP_eq_length.2 fun x hx => by
      obtain ⟨i, hi, rfl⟩ := List.getElem_of_mem hx
      rw [List.length_take] at hi
      rw [List.getElem_take, ← gb_eq s i (by omega)]
      exact h1 i (by omega)
    rw [this, List.length_take]; omega
  have e2 : (s.drop q).countP p = 0 := List.countP_eq_zero.2 fun x hx => by
    obtain ⟨i, hi, rfl⟩ := List.getElem_of_mem hx
    rw [List.length_drop] at hi
    rw [List.getElem_drop, ← gb_eq s (q + i) (by omega), h2 (q + i) (by omega) (by omega)]
    decide
  omega
theorem placed (l : List Bid) : ∀ m, m ≤ l.length → (∀ i, i < m → cnt l m i < m ∧ gb (rankP (l.take m)) (cnt l m i) = gb l i) ∧ (∀ j, j < m → ∃ i, i < m ∧ cnt l m i = j)
  | 0, _ => ⟨fun i h => by omega, fun j h => by omega⟩
  | m + 1, hm => by
    obtain ⟨p1, p2⟩ := placed l m (by omega)
    obtain ⟨hs, hp⟩ := rank_facts (l.take m)
    have hlen : (rankP (l.take m)).length = m := by rw [rank_len, List.length_take]; omega
    have hx : l[m]'(by omega) = gb l m := (gb_eq l m (by omega)).symm
    rw [List.take_succ_eq_append_getElem (by omega), rank_snoc, hx]
    obtain ⟨f1, f2⟩ := insAt_facts (rankP (l.take m)) (gb l m) hs _ (Nat.le_refl _)
    have hq := insAt_le (rankP (l.take m)) (gb l m) (rankP (l.take m)).length
    have hget := insB_get (rankP (l.take m)) (gb l m)
    have hcntm : cnt l (m + 1) m = insAt (rankP (l.take m)) (gb l m) (rankP (l.take m)).length := by
      have e0 : cnt l (m + 1) m = (List.range m).countP (fun k => !(lt (gb l m) (gb l k))) := by
        rw [cnt_succ]
        have : ahead l m m = false := by unfold ahead; rw [lt_self]; simp
        rw [this]
        simp only [Bool.false_eq_true, if_false, Nat.add_zero]
        unfold cnt
        refine List.countP_congr fun k hk => ?_
        have hk' : k < m := List.mem_range.1 hk
        unfold ahead
        rw [decide_eq_true hk', Bool.and_true]
        cases h : lt (gb l k) (gb l m) with
        | true => rw [lt_asymm h]; simp
        | false => simp
      rw [e0, countP_range (fun b => !(lt (gb l m) b)) l m (by omega), ← hp.countP_eq]
      refine countP_front _ _ _ hq (fun j hj => ?_) (fun j hj hj2 => ?_)
      · rw [f2 j hj]; rfl
      · rw [f1 j hj hj2]; rfl
    generalize insAt (rankP (l.take m)) (gb l m) (rankP (l.take m)).length = q at f1 f2 hq hget hcntm
    rw [hlen] at hq f1
    have hold : ∀ i, i < m → cnt l (m + 1) i = if cnt l m i < q then cnt l m i else cnt l m i + 1 := fun i hi => by
      obtain ⟨c1, c2⟩ := p1 i hi
      rw [cnt_succ]
      have ha : ahead l i m = lt (gb l m) (gb l i) := by
        unfold ahead
        rw [decide_eq_false (show ¬ m < i by omega), Bool.and_false, Bool.or_false]
      rw [ha, ← c2]
      by_cases c : cnt l m i < q
      · rw [if_pos c, f2 _ c]; simp
      · rw [if_neg c, f1 _ (by omega) c1, if_pos rfl]
    refine ⟨fun i hi => ?_, fun j hj => ?_⟩
    · by_cases ei : i = m
      · subst ei
        rw [hcntm, hget, if_neg (Nat.lt_irrefl _), if_pos rfl]
        exact ⟨by omega, rfl⟩
      · obtain ⟨c1, c2⟩ := p1 i (by omega)
        rw [hold i (by omega), hget]
        by_cases c : cnt l m i < q
        · rw [if_pos c, if_pos c]; exact ⟨by omega, c2⟩
        · rw [if_neg c, if_neg (by omega), if_neg (by omega), Nat.add_sub_cancel]; exact ⟨by omega, c2⟩
    · by_cases c : j < q
      · obtain ⟨i, hi, e⟩ := p2 j (by omega)
        exact ⟨i, by omega, by rw [hold i hi, e, if_pos c]⟩
      · by_cases c2 : j = q
        · exact ⟨m, by omega, by rw [hcntm, c2]⟩
        · obtain ⟨i, hi, e⟩ := p2 (j - 1) (by omega)
          exact ⟨i, by omega, by rw [hold i hi, e, if_neg (by omega)]; omega⟩
theorem refRankL1 (l : List Bid) (hl : l.length ≤ 1024) (out : List Bid) (i : Nat) (hi : i < l.length) (r : List Bid × Int) : ∀ (d k n : Nat), k + d = l.length → n = cnt l k i →
    Ev (fun f => if 0 ≤ ((cnt l l.length i : Nat) : Int) then (if ((cnt l l.length i : Nat) : Int) < (out.length : Int) then contangoref45_Rank.l0 f l (out.set (cnt l l.length i) (gb l i)) ((i + 1 : Nat) : Int) else none) else none) r →
    Ev (fun f => contangoref45_Rank.l1 f l out i n k) r
  | 0, k, n, hd, hn, h => by
    have hk : k = l.length := by omega
    subst hk
    subst hn
    refine Ev_succ ?_
    simp only [contangoref45_Rank.l1, if_neg (show ¬ ((l.length : Int) < (l.length : Int)) by omega), if_pos (show 0 ≤ (i : Int) by omega), if_pos (show (i : Int) < (l.length : Int) by omega), rd_gb, w_succ hi (show l.length ≤ 9223372036854775807 by omega), Int.toNat_natCast]
    exact h
  | d + 1, k, n, hd, hn, h => by
    have hk : k < l.length := by omega
    have hcl : cnt l k i ≤ k := by unfold cnt; have := List.countP_le_length (p := ahead l i) (l := List.range k); rw [List.length_range] at this; exact this
    have ih := refRankL1 l hl out i hi r d (k + 1) (cnt l (k + 1) i) (by omega) rfl h
    have e1 : wrap64 ((cnt l k i : Nat) + 1 : Int) = ((cnt l k i + 1 : Nat) : Int) := by rw [w_id (by omega) (by omega)]; omega
    rw [cnt_succ] at ih
    subst hn
    refine Ev_succ ?_
    simp only [contangoref45_Rank.l1, if_pos (show (k : Int) < (l.length : Int) by omega), if_pos (show 0 ≤ (k : Int) by omega), if_pos (show 0 ≤ (i : Int) by omega), if_pos (show (i : Int) < (l.length : Int) by omega), rd_gb, better_f, Option.bind_some, w_succ hk (show l.length ≤ 9223372036854775807 by omega), e1]
    unfold ahead at ih
    by_cases c : lt (gb l k) (gb l i) = true
    · simp only [if_pos c]
      rw [c, Bool.true_or, if_pos rfl] at ih
      exact ih
    · have cf : lt (gb l k) (gb l i) = false := by simpa using c
      simp only [if_neg c]
      rw [cf, Bool.false_or] at ih
      by_cases c2 : lt (gb l i) (gb l k) = true
      · simp only [if_pos c2]
        rw [c2] at ih
        simp only [Bool.not_true, Bool.false_and, Bool.false_eq_true, if_false, Nat.add_zero] at ih
        exact ih
      · have c2f : lt (gb l i) (gb l k) = false := by simpa using c2
        simp only [if_neg c2]
        rw [c2f] at ih
        simp only [Bool.not_false, Bool.true_and, decide_eq_true_eq] at ih
        by_cases c3 : k < i
        · simp only [if_pos (show (k : Int) < (i : Int) by omega)]
          rw [if_pos c3] at ih
          exact ih
        · simp only [if_neg (show ¬ (k : Int) < (i : Int) by omega)]
          rw [if_neg c3, Nat.add_zero] at ih
          exact ih
theorem gb_set (out : List Bid) (p j : Nat) (x : Bid) (hp : p < out.length) : gb (out.set p x) j = if j = p then x else gb out j := by
  unfold gb
  by_cases c : j = p
  · subst c; rw [if_pos rfl]; simp [List.getD, hp]
  · rw [if_neg c]; simp [List.getD, List.getElem?_set_ne (Ne.symm c)]
theorem gb_ext {a b : List Bid} (hl : a.length = b.length) (h : ∀ j, j < a.length → gb a j = gb b j) : a = b :=
  List.ext_getElem hl fun i h1 h2 => by have := h i h1; rwa [gb_eq a i h1, gb_eq b i h2] at this
theorem refRankL0 (l : List Bid) (hl : l.length ≤ 1024) : ∀ (d i : Nat) (out : List Bid), i + d = l.length → out.length = l.length → (∀ k, k < i → gb out (cnt l l.length k) = gb (rankP l) (cnt l l.length k)) →
    Ev (fun f => contangoref45_Rank.l0 f l out i) (rankP l, 0)
  | 0, i, out, hd, ho, h => by
    have e : out = rankP l := gb_ext (by rw [rank_len, ho]) fun j hj => by
      obtain ⟨k, hk, e⟩ := (placed l l.length (Nat.le_refl _)).2 j (by omega)
      rw [← e]
      exact h k (by omega)
    subst e
    refine Ev_succ ?_
    simp only [contangoref45_Rank.l0, if_neg (show ¬ ((i : Int) < (l.length : Int)) by omega)]
    exact Ev.now _
  | d + 1, i, out, hd, ho, h => by
    have hi : i < l.length := by omega
    have hp := (placed l l.length (Nat.le_refl _)).1 i hi
    rw [List.take_length] at hp
    refine Ev_succ ?_
    simp only [contangoref45_Rank.l0, if_pos (show (i : Int) < (l.length : Int) by omega)]
    refine refRankL1 l hl out i hi _ l.length 0 0 (by omega) rfl ?_
    simp only [if_pos (show 0 ≤ ((cnt l l.length i : Nat) : Int) by omega), if_pos (show ((cnt l l.length i : Nat) : Int) < (out.length : Int) by omega)]
    refine refRankL0 l hl d (i + 1) _ (by omega) (by simp [ho]) fun k hk => ?_
    rw [gb_set _ _ _ _ (by omega)]
    by_cases c : cnt l l.length k = cnt l l.length i
    · rw [if_pos c, c, hp.2]
    · rw [if_neg c]
      refine h k ?_
      by_cases e : k = i
      · subst e; exact absurd rfl c
      · omega
def rank (l : List Bid) : List Bid × Int := if bidCheck l = 0 then (rankP l, 0) else ([], bidCheck l)
theorem rank_f (l : List Bid) : Ev (fun k => auction_Rank.f k l) (rank l) := by
  unfold auction_Rank.f rank
  refine Ev_bind (bidCheck_f l) ?_
  by_cases h : bidCheck l = 0
  · have := (bidCheck_zero h).1
    simp only [if_pos h, if_pos (show l.length < 137438953471 by omega)]
    exact Ev.now _
  · simp only [if_neg h]
    exact Ev.now _
theorem rankR_f (l : List Bid) (hs : ∀ b ∈ l, b.f0.size ≤ 4611686018427387904) : Ev (fun k => contangoref45_Rank.f k l) (rank l) := by
  unfold contangoref45_Rank.f rank
  refine Ev_bind (bidCheckR_f l hs) ?_
  by_cases h : bidCheck l = 0
  · have hl := (bidCheck_zero h).1
    simp only [if_pos h, if_pos (show 0 ≤ (l.length : Int) by omega), Int.toNat_natCast, if_pos (show l.length ≤ 7036874417766 by omega)]
    exact refRankL0 l hl l.length 0 _ (by omega) (by simp) (fun k hk => by omega)
  · simp only [if_neg h]
    exact Ev.now _
theorem rank_small (l : List Bid) : (rank l).1.length ≤ 1024 := by
  unfold rank
  by_cases h : bidCheck l = 0
  · rw [if_pos h]; have := (bidCheck_zero h).1; rw [rank_len]; omega
  · rw [if_neg h]; simp
end Go.Proofs.Ytokijibpdnepiaa.P
end
section
namespace Go.Proofs.Ytokijibpdnepiaa.P
set_option linter.unusedVariables false
set_option linter.unusedSimpArgs false
open Go.RowKit Go.Proofs.YtokijibpdnepiaaW.PrintWords Go.Proofs.YtokijibpdnepiaaW.PrintMore Go.Proofs.Ytokijibpdnepiaa.X
theorem bidSame (a : List Bid) (ha : a.length ≤ 4611686018427387904) : ∀ (d i : Nat), i + d = a.length → Ev (fun k => contangoref45_Bids.l0 k a a i) true
  | 0, i, hd => by
    refine Ev_succ ?_
    simp only [contangoref45_Bids.l0, if_neg (show ¬ ((i : Int) < (a.length : Int)) by omega)]
    exact Ev.now _
  | d + 1, i, hd => by
    have hi : i < a.length := by omega
    refine Ev_succ ?_
    simp only [contangoref45_Bids.l0, if_pos (show (i : Int) < (a.length : Int) by omega), if_pos (show 0 ≤ (i : Int) by omega), beq_self_eq_true, Bool.not_true, Bool.or_false, Bool.false_eq_true, if_false, w_succ hi (by omega)]
    exact bidSame a ha d (i + 1) (by omega)
theorem bidSame_f (a : List Bid) (ha : a.length ≤ 4611686018427387904) : Ev (fun k => contangoref45_Bids.f k a a) true := by
  unfold contangoref45_Bids.f
  simp only [if_true]
  exact bidSame a ha a.length 0 (by omega)
end Go.Proofs.Ytokijibpdnepiaa.P
end
section
namespace Go.Proofs.Ytokijibpdnepiaa.P
open Go.RowKit Go.Proofs.YtokijibpdnepiaaW.PrintWords Go.Proofs.YtokijibpdnepiaaW.PrintMore Go.Proofs.Ytokijibpdnepiaa.X
set_option maxRecDepth 100000 in
theorem goes45 : Ev (fun k => contangolaw45_goes.f k) true := Ev.of (k := 40) (contangolaw45_goes.mono) (by decide +kernel)
end Go.Proofs.Ytokijibpdnepiaa.P
end
section
namespace Go.Proofs.Ytokijibpdnepiaa.Pure
set_option linter.unusedVariables false
set_option linter.unusedSimpArgs false
open Go.RowKit Go.Proofs.YtokijibpdnepiaaW.PrintWords Go.Proofs.YtokijibpdnepiaaW.PrintMore Go.Proofs.Ytokijibpdnepiaa.X Go.Proofs.Ytokijibpdnepiaa.P
theorem wipe (l : List Bid) (hl : l.length ≤ 4611686018427387904) (n : Nat) (hn : n ≤ 4611686018427387904) : ∀ (d i : Nat) (v : List Bid), i + d = n → v.length = n → Ev (fun k => contangolaw45_AuctionRanks.l0 k l l v n i) true
  | 0, i, v, hd, hv => by
    refine Ev_succ ?_
    simp only [contangolaw45_AuctionRanks.l0, if_neg (show ¬ ((i : Int) < (n : Int)) by omega)]
    refine Ev_bind (bidSame_f l hl) ?_
    simp only [if_true]
    exact Ev_id goes45
  | d + 1, i, v, hd, hv => by
    have hi : i < n := by omega
    refine Ev_succ ?_
    simp only [contangolaw45_AuctionRanks.l0, if_pos (show (i : Int) < (n : Int) by omega), if_pos (show 0 ≤ (i : Int) by omega), if_pos (show (i : Int) < (v.length : Int) by omega), w_succ hi (show n ≤ 9223372036854775807 by omega)]
    exact wipe l hl n hn d (i + 1) _ (by omega) (by simp [hv])
theorem AuctionRanks : ∀ (l0 : List (S33)), (l0.length ≤ maxLen ∧ l0.length * 40 ≤ 140737488351232 ∧ ∀ x ∈ l0, ok33 x) → ∃ k, X.contangolaw45_AuctionRanks.f k l0 = some true := by
  intro l hl
  apply Ev.rounds
  have bl : l.length < 3518437208883 := by omega
  have hz : ∀ b ∈ l, b.f0.size ≤ 4611686018427387904 := fun b hb => by have := (hl.2.2 b hb).1; omega
  have hj : ∀ b, Ev (fun k => contangolaw45_AuctionRanks.j0 k l b) true := by
    intro b
    refine Ev_succ ?_
    cases b with
    | true =>
      simp only [contangolaw45_AuctionRanks.j0, if_true]
      exact Ev_id goes45
    | false =>
      simp only [contangolaw45_AuctionRanks.j0, Bool.false_eq_true, if_false, Option.bind_some, List.length_nil, Nat.zero_add, if_pos bl, List.nil_append]
      refine Ev_bind (rank_f l) ?_
      refine Ev_bind (rankR_f l hz) ?_
      refine Ev_bind (bidCheck_f l) ?_
      refine Ev_bind (bidCheckR_f l hz) ?_
      simp only [if_true]
      have hs := rank_small l
      refine Ev_bind (bidSame_f (rank l).1 (by omega)) ?_
      simp only [if_true, bne_self_eq_false]
      refine Ev_succ ?_
      simp only [contangolaw45_AuctionRanks.j1, Bool.false_eq_true, if_false]
      exact wipe l (by omega) (rank l).1.length (by omega) (rank l).1.length 0 _ (by omega) rfl
  unfold contangolaw45_AuctionRanks.f
  by_cases c : (l.length : Int) > 300
  · simp only [if_pos c]
    by_cases c2 : (l.length : Int) ≤ 1024
    · simp only [if_pos c2]; exact hj _
    · simp only [if_neg c2]; exact hj _
  · simp only [if_neg c]; exact hj _
end Go.Proofs.Ytokijibpdnepiaa.Pure
end
