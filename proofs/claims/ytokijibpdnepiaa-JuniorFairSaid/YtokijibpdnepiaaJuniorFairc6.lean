/- For JuniorFair: contracts, and facts on lists and numbers, that it uses (part 6). -/
import Derived.Test.YtokijibpdnepiaaJuniorFairc5
section
namespace Go.Proofs.Ytokijibpdnepiaa.P
set_option linter.unusedVariables false
set_option linter.unusedSimpArgs false
open Go.RowKit Go.Proofs.YtokijibpdnepiaaW.PrintWords Go.Proofs.YtokijibpdnepiaaW.PrintMore Go.Proofs.Ytokijibpdnepiaa.X
def lt (a b : Bid) : Bool := if a.f2 = b.f2 then (if a.f3 = b.f3 then Op.bytesLess a.f0.toList b.f0.toList else decide (a.f3 < b.f3)) else decide (a.f2 < b.f2)
theorem lt_iff (a b : Bid) : lt a b = true ↔ a.f2 < b.f2 ∨ a.f2 = b.f2 ∧ (a.f3 < b.f3 ∨ a.f3 = b.f3 ∧ Op.bytesLess a.f0.toList b.f0.toList = true) := by
  unfold lt
  by_cases h : a.f2 = b.f2
  · rw [if_pos h]
    by_cases h2 : a.f3 = b.f3
    · rw [if_pos h2]
      constructor
      · intro e; exact Or.inr ⟨h, Or.inr ⟨h2, e⟩⟩
      · rintro (e | ⟨_, e | ⟨_, e⟩⟩)
        · omega
        · omega
        · exact e
    · rw [if_neg h2, decide_eq_true_iff]
      constructor
      · intro e; exact Or.inr ⟨h, Or.inl e⟩
      · rintro (e | ⟨_, e | ⟨e, _⟩⟩)
        · omega
        · exact e
        · exact absurd e h2
  · rw [if_neg h, decide_eq_true_iff]
    constructor
    · intro e; exact Or.inl e
    · rintro (e | ⟨e, _⟩)
      · exact e
      · exact absurd e h
theorem lt_asymm {a b : Bid} (h : lt a b = true) : lt b a = false := by
  rw [← Bool.not_eq_true]
  intro k
  rw [lt_iff] at h k
  rcases h with h | ⟨h1, h | ⟨h2, h3⟩⟩
  · rcases k with k | ⟨k1, _⟩ <;> omega
  · rcases k with k | ⟨k1, k | ⟨k2, _⟩⟩ <;> omega
  · rcases k with k | ⟨k1, k | ⟨k2, k3⟩⟩
    · omega
    · omega
    · rw [bl_asymm h3] at k3; cases k3
theorem lt_self (a : Bid) : lt a a = false := by
  rw [← Bool.not_eq_true]
  intro h
  have := lt_asymm h
  rw [h] at this
  cases this
theorem lt_le {x y z : Bid} (h : lt x y = true) (k : lt z y = false) : lt x z = true := by
  have k' : ¬ lt z y = true := by rw [k]; decide
  rw [lt_iff] at h k' ⊢
  rcases h with h | ⟨h1, h | ⟨h2, h3⟩⟩
  · have : y.f2 ≤ z.f2 := by
      by_cases c : z.f2 < y.f2
      · exact absurd (Or.inl c) k'
      · omega
    left; omega
  · by_cases c : z.f2 < y.f2
    · exact absurd (Or.inl c) k'
    · by_cases c2 : z.f2 = y.f2
      · by_cases c3 : z.f3 < y.f3
        · exact absurd (Or.inr ⟨c2, Or.inl c3⟩) k'
        · right; exact ⟨by omega, Or.inl (by omega)⟩
      · left; omega
  · by_cases c : z.f2 < y.f2
    · exact absurd (Or.inl c) k'
    · by_cases c2 : z.f2 = y.f2
      · by_cases c3 : z.f3 < y.f3
        · exact absurd (Or.inr ⟨c2, Or.inl c3⟩) k'
        · by_cases c4 : z.f3 = y.f3
          · have c5 : Op.bytesLess z.f0.toList y.f0.toList = false := by
              rw [← Bool.not_eq_true]
              intro e
              exact k' (Or.inr ⟨c2, Or.inr ⟨c4, e⟩⟩)
            right
            refine ⟨by omega, Or.inr ⟨by omega, ?_⟩⟩
            by_cases c6 : Op.bytesLess y.f0.toList z.f0.toList = true
            · exact bl_trans _ _ _ h3 c6
            · rw [← bl_eq (by simpa using c6) c5]; exact h3
          · right; exact ⟨by omega, Or.inl (by omega)⟩
      · left; omega
theorem ordV_lt (a b : Bid) : ordV a b < 0 ↔ lt a b = true := by
  unfold ordV auction_Rank_1.f cmp_Compare_int.f cmp_Compare_string.f cmp_isNaN_int.f cmp_isNaN_string.f lt
  simp only [bne_self_eq_false, Option.bind_some, Bool.false_eq_true, if_false]
  by_cases h : a.f2 = b.f2
  · rw [if_pos h, if_pos h]
    by_cases h2 : a.f3 = b.f3
    · rw [if_pos h2, if_pos h2]
      by_cases h3 : Op.bytesLess a.f0.toList b.f0.toList = true
      · rw [if_pos h3, h3]; simp
      · rw [if_neg h3]
        have : Op.bytesLess a.f0.toList b.f0.toList = false := by simpa using h3
        rw [this]
        split <;> simp
    · rw [if_neg h2, if_neg h2, decide_eq_true_iff]
      by_cases h3 : a.f3 < b.f3
      · rw [if_pos h3]; simp [h3]
      · rw [if_neg h3]
        split <;> simp <;> omega
  · rw [if_neg h, if_neg h, decide_eq_true_iff]
    by_cases h3 : a.f2 < b.f2
    · rw [if_pos h3]; simp [h3]
    · rw [if_neg h3]
      split <;> simp <;> omega
theorem better_f (a b : Bid) : contangoref45_better.f a.f0 a.f1 a.f2 a.f3 b.f0 b.f1 b.f2 b.f3 = some (lt a b) := by
  unfold contangoref45_better.f lt
  split
  · split <;> rfl
  · rfl
abbrev gb (l : List Bid) (i : Nat) : Bid := l.getD i z33
theorem gb_eq (l : List Bid) (i : Nat) (h : i < l.length) : gb l i = l[i] := by simp [gb, List.getD, h]
theorem rd_gb (l : List Bid) (i : Nat) : rd_T33 l (i : Int) = gb l i := by simp [rd_T33, gb]
def Sorted (l : List Bid) : Prop := l.Pairwise fun a b => lt b a = false
theorem sorted_at {l : List Bid} (h : Sorted l) {i j : Nat} (hij : i < j) (hj : j < l.length) : lt (gb l j) (gb l i) = false := by
  rw [gb_eq l j hj, gb_eq l i (by omega)]
  exact (List.pairwise_iff_getElem.1 h) i j (by omega) hj hij
theorem insAt_facts (s : List Bid) (x : Bid) (hs : Sorted s) : ∀ n, n ≤ s.length → (∀ j, insAt s x n ≤ j → j < n → lt x (gb s j) = true) ∧ (∀ j, j < insAt s x n → lt x (gb s j) = false)
  | 0, _ => ⟨fun j _ h => by omega, fun j h => by simp [insAt] at h⟩
  | n + 1, hn => by
    obtain ⟨h1, h2⟩ := insAt_facts s x hs n (by omega)
    have e : insAt s x (n + 1) = if ordV x (rd_T33 s (n : Int)) < 0 then insAt s x n else n + 1 := rfl
    rw [e, rd_gb]
    by_cases c : ordV x (gb s n) < 0
    · rw [if_pos c]
      refine ⟨fun j hj hjn => ?_, h2⟩
      by_cases ej : j = n
      · rw [ej]; exact (ordV_lt _ _).1 c
      · exact h1 j hj (by omega)
    · rw [if_neg c]
      refine ⟨fun j hj hjn => by omega, fun j hj => ?_⟩
      have hxn : lt x (gb s n) = false := by rw [← Bool.not_eq_true]; exact fun h => c ((ordV_lt _ _).2 h)
      by_cases ej : j = n
      · rw [ej]; exact hxn
      · rw [← Bool.not_eq_true]
        intro hx
        have := lt_le hx (sorted_at hs (show j < n by omega) (by omega))
        rw [this] at hxn
        cases hxn
theorem insB_sorted {s : List Bid} (hs : Sorted s) (x : Bid) : Sorted (insB s x) := by
  obtain ⟨h1, h2⟩ := insAt_facts s x hs s.length (Nat.le_refl _)
  have hq := insAt_le s x s.length
  unfold insB
  generalize insAt s x s.length = q at h1 h2 hq
  have hp := hs
  unfold Sorted at hp ⊢
  rw [← List.take_append_drop q s, List.pairwise_append] at hp
  obtain ⟨p1, p2, p3⟩ := hp
  rw [List.append_assoc, List.pairwise_append]
  refine ⟨p1, List.pairwise_cons.2 ⟨fun y hy => ?_, p2⟩, fun a ha b hb => ?_⟩
  · have hy : y ∈ s.drop q := hy
    obtain ⟨i, hi, rfl⟩ := List.getElem_of_mem hy
    rw [List.length_drop] at hi
    rw [List.getElem_drop, ← gb_eq s (q + i) (by omega)]
    exact lt_asymm (h1 (q + i) (by omega) (by omega))
  · rcases List.mem_cons.1 hb with e | e
    · rw [e]
      obtain ⟨i, hi, rfl⟩ := List.getElem_of_mem ha
      rw [List.length_take] at hi
      rw [List.getElem_take, ← gb_eq s i (by omega)]
      exact h2 i (by omega)
    · exact p3 a ha b e
theorem insB_perm (s : List Bid) (x : Bid) : (insB s x).Perm (x :: s) := by
  unfold insB
  rw [List.append_assoc]
  have h : (s.take (insAt s x s.length) ++ ([x] ++ s.drop (insAt s x s.length))).Perm ([x] ++ (s.take (insAt s x s.length) ++ s.drop (insAt s x s.length))) := by
    rw [← List.append_assoc, ← List.append_assoc]
    exact List.perm_append_comm.append_right _
  rw [List.take_append_drop] at h
  exact h
theorem insB_get (s : List Bid) (x : Bid) (j : Nat) : gb (insB s x) j = if j < insAt s x s.length then gb s j else if j = insAt s x s.length then x else gb s (j - 1) := by
  have hq := insAt_le s x s.length
  unfold insB
  generalize insAt s x s.length = q at hq
  have ht : (s.take q).length = q := by rw [List.length_take]; omega
  unfold gb
  rw [List.append_assoc]
  by_cases c : j < q
  · rw [if_pos c]
    simp only [List.getD, List.getElem?_append_left (show j < (s.take q).length by omega), List.getElem?_take, if_pos c]
  · rw [if_neg c]
    simp only [List.getD, List.getElem?_append_right (show (s.take q).length ≤ j by omega), ht]
    by_cases c2 : j = q
    · rw [if_pos c2, c2, Nat.sub_self]; rfl
    · rw [if_neg c2]
      obtain ⟨m, hm⟩ : ∃ m, j - q = m + 1 := ⟨j - q - 1, by omega⟩
      rw [hm]
      simp only [List.getD, List.singleton_append, List.getElem?_cons_succ, List.getElem?_drop]
      rw [show q + m = j - 1 by omega]
def rankP (l : List Bid) : List Bid := l.foldl insB []
theorem rank_snoc (l : List Bid) (x : Bid) : rankP (l ++ [x]) = insB (rankP l) x := by unfold rankP; rw [List.foldl_append]; rfl
theorem rank_len (l : List Bid) : (rankP l).length = l.length := by
  unfold rankP; rw [fold_len]; simp
theorem rank_facts : ∀ (l : List Bid), Sorted (rankP l) ∧ (rankP l).Perm l := by
  intro l
  generalize hn : l.length = n
  induction n generalizing l with
  | zero =>
    have : l = [] := List.eq_nil_of_length_eq_zero hn
    subst this
    exact ⟨List.Pairwise.nil, List.Perm.refl _⟩
  | succ n ih =>
    have hne : l ≠ [] := by intro e; subst e; simp at hn
    rw [← List.dropLast_concat_getLast hne]
    obtain ⟨h1, h2⟩ := ih l.dropLast (by simp [hn])
    rw [rank_snoc]
    exact ⟨insB_sorted h1 _, (insB_perm _ _).trans ((h2.cons _).trans (List.perm_append_comm (l₁ := [l.getLast hne]) (l₂ := l.dropLast)))⟩
def ahead (l : List Bid) (i k : Nat) : Bool := lt (gb l k) (gb l i) || (!(lt (gb l i) (gb l k)) && decide (k < i))
def cnt (l : List Bid) (m i : Nat) : Nat := (List.range m).countP (ahead l i)
theorem cnt_succ (l : List Bid) (m i : Nat) : cnt l (m + 1) i = cnt l m i + if ahead l i m = true then 1 else 0 := by
  unfold cnt
  rw [List.range_succ, List.countP_append, List.countP_cons, List.countP_nil, Nat.zero_add]
theorem countP_range (p : Bid → Bool) (l : List Bid) : ∀ m, m ≤ l.length → (List.range m).countP (fun k => p (gb l k)) = (l.take m).countP p
  | 0, _ => rfl
  | m + 1, h => by
    rw [List.range_succ, List.countP_append, countP_range p l m (by omega), List.take_succ_eq_append_getElem (by omega), List.countP_append, gb_eq' l m (by omega)]
where
  gb_eq' (l : List Bid) (m : Nat) (h : m < l.length) : ∀ {p : Bid → Bool}, List.countP (fun k => p (gb l k)) [m] = List.countP p [l[m]] := by
    intro p
    simp only [List.countP_cons, List.countP_nil, gb_eq l m h]
theorem countP_front (p : Bid → Bool) (s : List Bid) (q : Nat) (hq : q ≤ s.length) (h1 : ∀ j, j < q → p (gb s j) = true) (h2 : ∀ j, q ≤ j → j < s.length → p (gb s j) = false) : s.countP p = q := by
  rw [← List.take_append_drop q s, List.countP_append]
  have e1 : (s.take q).countP p = q := by
    have : (s.take q).countP p = (s.take q).length := List.countP_eq_length.2 fun x hx => by
      obtain ⟨i, hi, rfl⟩ := List.getElem_of_mem hx
      rw [List.length_take] at hi
      rw [List.getElem_take, ← gb_eq s i (by omega)]
      exact h1 i (by omega)
    rw [this, List.length_take]; omega
  have e2 : (s.drop q).countP p = 0 := List.countP_eq_zero.2 fun x hx => by
    obtain ⟨i, hi, rfl⟩ := List.getElem_of_mem hx
    rw [List.length_drop] at hi
    rw [List.getElem_drop, ← gb_eq s (q + i) (by omega), h2 (q + i) (by omega) (by omega)]
    decide
  omega
theorem placed (l : List Bid) : ∀ m, m ≤ l.length → (∀ i, i < m → cnt l m i < m ∧ gb (rankP (l.take m)) (cnt l m i) = gb l i) ∧ (∀ j, j < m → ∃ i, i < m ∧ cnt l m i = j)
  | 0, _ => ⟨fun i h => by omega, fun j h => by omega⟩
  | m + 1, hm => by
    obtain ⟨p1, p2⟩ := placed l m (by omega)
    obtain ⟨hs, hp⟩ := rank_facts (l.take m)
    have hlen : (rankP (l.take m)).length = m := by rw [rank_len, List.length_take]; omega
    have hx : l[m]'(by omega) = gb l m := (gb_eq l m (by omega)).symm
    rw [List.take_succ_eq_append_getElem (by omega), rank_snoc, hx]
    obtain ⟨f1, f2⟩ := insAt_facts (rankP (l.take m)) (gb l m) hs _ (Nat.le_refl _)
    have hq := insAt_le (rankP (l.take m)) (gb l m) (rankP (l.take m)).length
    have hget := insB_get (rankP (l.take m)) (gb l m)
    have hcntm : cnt l (m + 1) m = insAt (rankP (l.take m)) (gb l m) (rankP (l.take m)).length := by
      have e0 : cnt l (m + 1) m = (List.range m).countP (fun k => !(lt (gb l m) (gb l k))) := by
        rw [cnt_succ]
        have : ahead l m m = false := by unfold ahead; rw [lt_self]; simp
        rw [this]
        simp only [Bool.false_eq_true, if_false, Nat.add_zero]
        unfold cnt
        refine List.countP_congr fun k hk => ?_
        have hk' : k < m := List.mem_range.1 hk
        unfold ahead
        rw [decide_eq_true hk', Bool.and_true]
        cases h : lt (gb l k) (gb l m) with
        | true => rw [lt_asymm h]; simp
        | false => simp
      rw [e0, countP_range (fun b => !(lt (gb l m) b)) l m (by omega), ← hp.countP_eq]
      refine countP_front _ _ _ hq (fun j hj => ?_) (fun j hj hj2 => ?_)
      · rw [f2 j hj]; rfl
      · rw [f1 j hj hj2]; rfl
    generalize insAt (rankP (l.take m)) (gb l m) (rankP (l.take m)).length = q at f1 f2 hq hget hcntm
    rw [hlen] at hq f1
    have hold : ∀ i, i < m → cnt l (m + 1) i = if cnt l m i < q then cnt l m i else cnt l m i + 1 := fun i hi => by
      obtain ⟨c1, c2⟩ := p1 i hi
      rw [cnt_succ]
      have ha : ahead l i m = lt (gb l m) (gb l i) := by
        unfold ahead
        rw [decide_eq_false (show ¬ m < i by omega), Bool.and_false, Bool.or_false]
      rw [ha, ← c2]
      by_cases c : cnt l m i < q
      · rw [if_pos c, f2 _ c]; simp
      · rw [if_neg c, f1 _ (by omega) c1, if_pos rfl]
    refine ⟨fun i hi => ?_, fun j hj => ?_⟩
    · by_cases ei : i = m
      · subst ei
        rw [hcntm, hget, if_neg (Nat.lt_irrefl _), if_pos rfl]
        exact ⟨by omega, rfl⟩
      · obtain ⟨c1, c2⟩ := p1 i (by omega)
        rw [hold i (by omega), hget]
        by_cases c : cnt l m i < q
        · rw [if_pos c, if_pos c]; exact ⟨by omega, c2⟩
        · rw [if_neg c, if_neg (by omega), if_neg (by omega), Nat.add_sub_cancel]; exact ⟨by omega, c2⟩
    · by_cases c : j < q
      · obtain ⟨i, hi, e⟩ := p2 j (by omega)
        exact ⟨i, by omega, by rw [hold i hi, e, if_pos c]⟩
      · by_cases c2 : j = q
        · exact ⟨m, by omega, by rw [hcntm, c2]⟩
        · obtain ⟨i, hi, e⟩ := p2 (j - 1) (by omega)
          exact ⟨i, by omega, by rw [hold i hi, e, if_neg (by omega)]; omega⟩
theorem refRankL1 (l : List Bid) (hl : l.length ≤ 1024) (out : List Bid) (i : Nat) (hi : i < l.length) (r : List Bid × Int) : ∀ (d k n : Nat), k + d = l.length → n = cnt l k i →
    Ev (fun f => if 0 ≤ ((cnt l l.length i : Nat) : Int) then (if ((cnt l l.length i : Nat) : Int) < (out.length : Int) then contangoref45_Rank.l0 f l (out.set (cnt l l.length i) (gb l i)) ((i + 1 : Nat) : Int) else none) else none) r →
    Ev (fun f => contangoref45_Rank.l1 f l out i n k) r
  | 0, k, n, hd, hn, h => by
    have hk : k = l.length := by omega
    subst hk
    subst hn
    refine Ev_succ ?_
    simp only [contangoref45_Rank.l1, if_neg (show ¬ ((l.length : Int) < (l.length : Int)) by omega), if_pos (show 0 ≤ (i : Int) by omega), if_pos (show (i : Int) < (l.length : Int) by omega), rd_gb, w_succ hi (show l.length ≤ 9223372036854775807 by omega), Int.toNat_natCast]
    exact h
  | d + 1, k, n, hd, hn, h => by
    have hk : k < l.length := by omega
    have hcl : cnt l k i ≤ k := by unfold cnt; have := List.countP_le_length (p := ahead l i) (l := List.range k); rw [List.length_range] at this; exact this
    have ih := refRankL1 l hl out i hi r d (k + 1) (cnt l (k + 1) i) (by omega) rfl h
    have e1 : wrap64 ((cnt l k i : Nat) + 1 : Int) = ((cnt l k i + 1 : Nat) : Int) := by rw [w_id (by omega) (by omega)]; omega
    rw [cnt_succ] at ih
    subst hn
    refine Ev_succ ?_
    simp only [contangoref45_Rank.l1, if_pos (show (k : Int) < (l.length : Int) by omega), if_pos (show 0 ≤ (k : Int) by omega), if_pos (show 0 ≤ (i : Int) by omega), if_pos (show (i : Int) < (l.length : Int) by omega), rd_gb, better_f, Option.bind_some, w_succ hk (show l.length ≤ 9223372036854775807 by omega), e1]
    unfold ahead at ih
    by_cases c : lt (gb l k) (gb l i) = true
    · simp only [if_pos c]
      rw [c, Bool.true_or, if_pos rfl] at ih
      exact ih
    · have cf : lt (gb l k) (gb l i) = false := by simpa using c
      simp only [if_neg c]
      rw [cf, Bool.false_or] at ih
      by_cases c2 : lt (gb l i) (gb l k) = true
      · simp only [if_pos c2]
        rw [c2] at ih
        simp only [Bool.not_true, Bool.false_and, Bool.false_eq_true, if_false, Nat.add_zero] at ih
        exact ih
      · have c2f : lt (gb l i) (gb l k) = false := by simpa using c2
        simp only [if_neg c2]
        rw [c2f] at ih
        simp only [Bool.not_false, Bool.true_and, decide_eq_true_eq] at ih
        by_cases c3 : k < i
        · simp only [if_pos (show (k : Int) < (i : Int) by omega)]
          rw [if_pos c3] at ih
          exact ih
        · simp only [if_neg (show ¬ (k : Int) < (i : Int) by omega)]
          rw [if_neg c3, Nat.add_zero] at ih
          exact ih
theorem gb_set (out : List Bid) (p j : Nat) (x : Bid) (hp : p < out.length) : gb (out.set p x) j = if j = p then x else gb out j := by
  unfold gb
  by_cases c : j = p
  · subst c; rw [if_pos rfl]; simp [List.getD, hp]
  · rw [if_neg c]; simp [List.getD, List.getElem?_set_ne (Ne.symm c)]
theorem gb_ext {a b : List Bid} (hl : a.length = b.length) (h : ∀ j, j < a.length → gb a j = gb b j) : a = b :=
  List.ext_getElem hl fun i h1 h2 => by have := h i h1; rwa [gb_eq a i h1, gb_eq b i h2] at this
theorem refRankL0 (l : List Bid) (hl : l.length ≤ 1024) : ∀ (d i : Nat) (out : List Bid), i + d = l.length → out.length = l.length → (∀ k, k < i → gb out (cnt l l.length k) = gb (rankP l) (cnt l l.length k)) →
    Ev (fun f => contangoref45_Rank.l0 f l out i) (rankP l, 0)
  | 0, i, out, hd, ho, h => by
    have e : out = rankP l := gb_ext (by rw [rank_len, ho]) fun j hj => by
      obtain ⟨k, hk, e⟩ := (placed l l.length (Nat.le_refl _)).2 j (by omega)
      rw [← e]
      exact h k (by omega)
    subst e
    refine Ev_succ ?_
    simp only [contangoref45_Rank.l0, if_neg (show ¬ ((i : Int) < (l.length : Int)) by omega)]
    exact Ev.now _
  | d + 1, i, out, hd, ho, h => by
    have hi : i < l.length := by omega
    have hp := (placed l l.length (Nat.le_refl _)).1 i hi
    rw [List.take_length] at hp
    refine Ev_succ ?_
    simp only [contangoref45_Rank.l0, if_pos (show (i : Int) < (l.length : Int) by omega)]
    refine refRankL1 l hl out i hi _ l.length 0 0 (by omega) rfl ?_
    simp only [if_pos (show 0 ≤ ((cnt l l.length i : Nat) : Int) by omega), if_pos (show ((cnt l l.length i : Nat) : Int) < (out.length : Int) by omega)]
    refine refRankL0 l hl d (i + 1) _ (by omega) (by simp [ho]) fun k hk => ?_
    rw [gb_set _ _ _ _ (by omega)]
    by_cases c : cnt l l.length k = cnt l l.length i
    · rw [if_pos c, c, hp.2]
    · rw [if_neg c]
      refine h k ?_
      by_cases e : k = i
      · subst e; exact absurd rfl c
      · omega
def rank (l : List Bid) : List Bid × Int := if bidCheck l = 0 then (rankP l, 0) else ([], bidCheck l)
theorem rankR_f (l : List Bid) (hs : ∀ b ∈ l, b.f0.size ≤ 4611686018427387904) : Ev (fun k => contangoref45_Rank.f k l) (rank l) := by
  unfold contangoref45_Rank.f rank
  refine Ev_bind (bidCheckR_f l hs) ?_
  by_cases h : bidCheck l = 0
  · have hl := (bidCheck_zero h).1
    simp only [if_pos h, if_pos (show 0 ≤ (l.length : Int) by omega), Int.toNat_natCast, if_pos (show l.length ≤ 7036874417766 by omega)]
    exact refRankL0 l hl l.length 0 _ (by omega) (by simp) (fun k hk => by omega)
  · simp only [if_neg h]
    exact Ev.now _
end Go.Proofs.Ytokijibpdnepiaa.P
end
section
namespace Go.Proofs.Ytokijibpdnepiaa.P
set_option linter.unusedVariables false
set_option linter.unusedSimpArgs false
open Go.RowKit Go.Proofs.YtokijibpdnepiaaW.PrintWords Go.Proofs.YtokijibpdnepiaaW.PrintMore Go.Proofs.Ytokijibpdnepiaa.X
abbrev Aw := S52
theorem rdAw (l : List Aw) (i : Nat) (h : i < l.length) : rd_T52 l (i : Int) = l[i] := by simp [rd_T52, h]
def awardGo (cap : Int) : Int → List Bid → List Aw × Int
  | left, [] => ([], left)
  | left, b :: t => if left = 0 ∨ b.f2 > cap then ([], left) else (⟨b.f0, mn left b.f1, b.f2⟩ :: (awardGo cap (left - mn left b.f1) t).1, (awardGo cap (left - mn left b.f1) t).2)
theorem mn_rng {a b : Int} (ha : 0 ≤ a) (hb : 1 ≤ b) : mn a b ≤ a ∧ mn a b ≤ b ∧ 0 ≤ mn a b ∧ (a ≠ 0 → 1 ≤ mn a b) ∧ (mn a b < b → mn a b = a) := by
  unfold mn; split <;> omega
theorem awardRSkip (cap : Int) (l : List Bid) (hl : l.length ≤ 1024) (hq : ∀ b ∈ l, 1 ≤ b.f1) (left : Int) (acc : List Aw) : ∀ (d i : Nat), i + d = l.length → (left = 0 ∨ ∀ j (h : j < l.length), i ≤ j → l[j].f2 > cap) → Ev (fun k => contangoref45_Award.l0 k cap l acc left i) (acc, left, 0)
  | 0, i, hd, h => by
    refine Ev_succ ?_
    simp only [contangoref45_Award.l0, if_neg (show ¬ ((i : Int) < (l.length : Int)) by omega)]
    exact Ev.now _
  | d + 1, i, hd, h => by
    have hi : i < l.length := by omega
    have ih := awardRSkip cap l hl hq left acc d (i + 1) (by omega) (h.imp id fun h j hj hij => h j hj (by omega))
    refine Ev_succ ?_
    simp only [contangoref45_Award.l0, if_pos (show (i : Int) < (l.length : Int) by omega), if_pos (show 0 ≤ (i : Int) by omega), rdBid l i hi, w_succ hi (show l.length ≤ 9223372036854775807 by omega)]
    by_cases c : mn left l[i].f1 > 0
    · have hb : l[i].f2 > cap := by
        rcases h with h | h
        · have := hq _ (List.getElem_mem hi)
          rw [h] at c; unfold mn at c; split at c <;> omega
        · exact h i hi (Nat.le_refl _)
      simp only [if_pos c, if_neg (show ¬ l[i].f2 ≤ cap by omega)]
      exact ih
    · simp only [if_neg c]
      exact ih
theorem awardRLoop (cap : Int) (l : List Bid) (hl : l.length ≤ 1024) (hq : ∀ b ∈ l, 1 ≤ b.f1) (hs : ∀ i j (h : j < l.length) (hij : i < j), (l[i]'(by omega)).f2 ≤ l[j].f2) : ∀ (d i : Nat) (acc : List Aw) (left : Int), i + d = l.length → acc.length ≤ i → 0 ≤ left → left ≤ 1048576 →
    Ev (fun k => contangoref45_Award.l0 k cap l acc left i) (acc ++ (awardGo cap left (l.drop i)).1, (awardGo cap left (l.drop i)).2, 0)
  | 0, i, acc, left, hd, ha, h1, h2 => by
    rw [List.drop_of_length_le (by omega)]
    refine Ev_succ ?_
    simp only [contangoref45_Award.l0, if_neg (show ¬ ((i : Int) < (l.length : Int)) by omega), awardGo, List.append_nil]
    exact Ev.now _
  | d + 1, i, acc, left, hd, ha, h1, h2 => by
    have hi : i < l.length := by omega
    have hm := mn_rng h1 (hq _ (List.getElem_mem hi))
    have hskip : (left = 0 ∨ l[i].f2 > cap) → Ev (fun k => contangoref45_Award.l0 k cap l acc left i) (acc, left, 0) := fun h =>
      awardRSkip cap l hl hq left acc (d + 1) i hd (h.imp id fun h j hj hij => by
        by_cases e : i = j
        · subst e; exact h
        · have := hs i j hj (by omega); omega)
    rw [drop_cons l i hi, awardGo]
    by_cases c : left = 0 ∨ l[i].f2 > cap
    · rw [if_pos c, List.append_nil]
      exact hskip c
    · have c1 : left ≠ 0 := fun e => c (Or.inl e)
      have c2 : ¬ l[i].f2 > cap := fun e => c (Or.inr e)
      have e1 : wrap64 (left - mn left l[i].f1) = left - mn left l[i].f1 := w_id (by omega) (by omega)
      have hm4 := hm.2.2.2.1 c1
      rw [if_neg c]
      refine Ev_succ ?_
      simp only [contangoref45_Award.l0, if_pos (show (i : Int) < (l.length : Int) by omega), if_pos (show 0 ≤ (i : Int) by omega), rdBid l i hi, if_pos (show mn left l[i].f1 > 0 by omega), if_pos (show l[i].f2 ≤ cap by omega), if_pos (show acc.length < 4398046511104 by omega), e1, w_succ hi (show l.length ≤ 9223372036854775807 by omega)]
      have ih := awardRLoop cap l hl hq hs d (i + 1) (acc ++ [⟨l[i].f0, mn left l[i].f1, l[i].f2⟩]) (left - mn left l[i].f1) (by omega) (by simp; omega) (by omega) (by omega)
      rw [List.append_assoc] at ih
      exact ih
def award (qty : Int) (l : List Bid) (cap : Int) : List Aw × Int × Int :=
  if bidCheck l = 0 then (if qty < 0 ∨ qty > 1048576 then ([], 0, 18) else if priceB cap = true then ((awardGo cap qty (rankP l)).1, (awardGo cap qty (rankP l)).2, 0) else ([], 0, 28)) else ([], 0, bidCheck l)
theorem rank_good {l : List Bid} (h : bidCheck l = 0) : (rankP l).length = l.length ∧ l.length ≤ 1024 ∧ (∀ b ∈ rankP l, 1 ≤ b.f1 ∧ b.f1 ≤ 1048576 ∧ -68719476736 ≤ b.f2 ∧ b.f2 ≤ 68719476736) ∧ ∀ i j (h : j < (rankP l).length) (hij : i < j), ((rankP l)[i]'(by omega)).f2 ≤ (rankP l)[j].f2 := by
  obtain ⟨h1, h2⟩ := bidCheck_zero h
  obtain ⟨s1, s2⟩ := rank_facts l
  refine ⟨rank_len l, h1, fun b hb => h2 b (s2.mem_iff.1 hb), fun i j hj hij => ?_⟩
  have := (List.pairwise_iff_getElem.1 s1) i j (by omega) hj hij
  by_cases c : (rankP l)[j].f2 < ((rankP l)[i]'(by omega)).f2
  · rw [(lt_iff _ _).2 (Or.inl c)] at this; cases this
  · omega
theorem awardR_f (qty : Int) (l : List Bid) (cap : Int) (hz : ∀ b ∈ l, b.f0.size ≤ 4611686018427387904) : Ev (fun k => contangoref45_Award.f k qty l cap) (award qty l cap) := by
  unfold contangoref45_Award.f award
  refine Ev_bind (rankR_f l hz) ?_
  unfold rank
  by_cases h : bidCheck l = 0
  · obtain ⟨g1, g2, g3, g4⟩ := rank_good h
    simp only [if_pos h, if_true]
    have hj : ∀ b, (b = true ↔ (qty < 0 ∨ qty > 1048576)) → Ev (fun k => contangoref45_Award.j0 k qty cap (rankP l) b) (if qty < 0 ∨ qty > 1048576 then ([], 0, 18) else if priceB cap = true then ((awardGo cap qty (rankP l)).1, (awardGo cap qty (rankP l)).2, 0) else ([], 0, 28)) := by
      intro b hb
      refine Ev_succ ?_
      by_cases c : b = true
      · subst c
        rw [if_pos (hb.1 rfl)]
        simp only [contangoref45_Award.j0, if_true]
        exact Ev.now _
      · have cf : b = false := by simpa using c
        subst cf
        have hn : ¬ (qty < 0 ∨ qty > 1048576) := fun h => c (hb.2 h)
        rw [if_neg hn]
        simp only [contangoref45_Award.j0, Bool.false_eq_true, if_false, priceR_f, Option.bind_some]
        by_cases c1 : priceB cap = true
        · simp only [if_pos c1]
          have := awardRLoop cap (rankP l) (by omega) (fun b hb => (g3 b hb).1) g4 (rankP l).length 0 [] qty (by omega) (by simp) (by omega) (by omega)
          simpa using this
        · simp only [if_neg c1]
          exact Ev.now _
    by_cases c : qty < 0
    · simp only [if_pos c]
      have := hj true (by simp [c])
      exact this
    · simp only [if_neg c]
      refine hj _ ?_
      rw [decide_eq_true_iff]
      exact ⟨Or.inr, fun h => h.resolve_left c⟩
  · simp only [if_neg h]
    exact Ev.now _
theorem awardGo_facts (cap : Int) : ∀ (l : List Bid) (left : Int), 0 ≤ left → (∀ b ∈ l, 1 ≤ b.f1) → (awardGo cap left l).1.length ≤ l.length ∧ ∀ i (h : i < (awardGo cap left l).1.length) (h2 : i < l.length), (awardGo cap left l).1[i].f0 = l[i].f0 ∧ (awardGo cap left l).1[i].f2 = l[i].f2 ∧ l[i].f2 ≤ cap ∧ 1 ≤ (awardGo cap left l).1[i].f1 ∧ (awardGo cap left l).1[i].f1 ≤ l[i].f1 ∧ (i + 1 < (awardGo cap left l).1.length → (awardGo cap left l).1[i].f1 = l[i].f1)
  | [], left, h0, _ => by simp [awardGo]
  | b :: t, left, h0, hq => by
    by_cases c : left = 0 ∨ b.f2 > cap
    · have e : awardGo cap left (b :: t) = ([], left) := by rw [awardGo, if_pos c]
      rw [e]; simp
    · have e : awardGo cap left (b :: t) = (⟨b.f0, mn left b.f1, b.f2⟩ :: (awardGo cap (left - mn left b.f1) t).1, (awardGo cap (left - mn left b.f1) t).2) := by rw [awardGo, if_neg c]
      rw [e]
      dsimp only
      have hm := mn_rng h0 (hq b (by simp))
      obtain ⟨a1, a2⟩ := awardGo_facts cap t (left - mn left b.f1) (by omega) fun x hx => hq x (by simp [hx])
      refine ⟨by simp only [List.length_cons]; omega, fun i h h2 => ?_⟩
      cases i with
      | zero =>
        have c1 : left ≠ 0 := fun e => c (Or.inl e)
        have c2 : ¬ b.f2 > cap := fun e => c (Or.inr e)
        refine ⟨rfl, rfl, by simp only [List.getElem_cons_zero]; omega, ?_, ?_, fun h3 => ?_⟩
        · exact hm.2.2.2.1 c1
        · exact hm.2.1
        · simp only [List.getElem_cons_zero]
          by_cases e : mn left b.f1 < b.f1
          · have e2 := hm.2.2.2.2 e
            simp only [List.length_cons] at h3
            rw [e2, Int.sub_self] at h3
            have : (awardGo cap 0 t).1 = [] := by cases t <;> simp [awardGo]
            rw [this] at h3
            simp at h3
          · omega
      | succ j =>
        have h' : j < (awardGo cap (left - mn left b.f1) t).1.length := by simpa using h
        have h2' : j < t.length := by simpa using h2
        have := a2 j h' h2'
        simp only [List.getElem_cons_succ, List.length_cons]
        refine ⟨this.1, this.2.1, this.2.2.1, this.2.2.2.1, this.2.2.2.2.1, fun h3 => this.2.2.2.2.2 (by omega)⟩
theorem award_len (qty : Int) (l : List Bid) (cap : Int) : (award qty l cap).1.length ≤ 1024 ∧ ((award qty l cap).2.2 ≠ 0 → (award qty l cap).1 = [] ∧ (award qty l cap).2.1 = 0) := by
  unfold award
  by_cases h : bidCheck l = 0
  · rw [if_pos h]
    obtain ⟨g1, g2, g3, g4⟩ := rank_good h
    by_cases c : qty < 0 ∨ qty > 1048576
    · rw [if_pos c]; simp
    · rw [if_neg c]
      by_cases c1 : priceB cap = true
      · rw [if_pos c1]
        have := (awardGo_facts cap (rankP l) qty (by omega) fun b hb => (g3 b hb).1).1
        exact ⟨by show (awardGo cap qty (rankP l)).1.length ≤ 1024; omega, fun h => absurd rfl h⟩
      · rw [if_neg c1]; simp
  · rw [if_neg h]; simp
end Go.Proofs.Ytokijibpdnepiaa.P
end
section
namespace Go.Proofs.Ytokijibpdnepiaa.P
set_option linter.unusedVariables false
set_option linter.unusedSimpArgs false
open Go.RowKit Go.Proofs.YtokijibpdnepiaaW.PrintWords Go.Proofs.YtokijibpdnepiaaW.PrintMore Go.Proofs.Ytokijibpdnepiaa.X
def atOf : Option Nat → Int
  | none => -1
  | some j => (j : Int)
def valB (l : List Bid) : Option Nat → Int × Bool
  | none => (0, false)
  | some j => ((rd_T33 l (j : Int)).f2, true)
theorem at_none {t : Int} (h : atOf none = t) : t < 0 := by rw [← h]; decide
theorem at_some {j : Nat} {t : Int} (h : atOf (some j) = t) : t = (j : Int) := h.symm
theorem bestR_loop (l : List Bid) (name : ByteArray) (hl : l.length ≤ 4611686018427387904) : ∀ (d i : Nat) (o : Option Nat), i + d = l.length → (∀ j, o = some j → j < l.length) → Ev (fun k => contangoref46_Best.l0 k l name (atOf o) i) ((l.drop i).foldl (bestStep name) (valB l o))
  | 0, i, o, hd, ho => by
    rw [List.drop_of_length_le (by omega), List.foldl_nil]
    obtain ⟨t, ht⟩ : ∃ t, atOf o = t := ⟨_, rfl⟩
    rw [ht]
    refine Ev_succ ?_
    simp only [contangoref46_Best.l0, if_neg (show ¬ ((i : Int) < (l.length : Int)) by omega)]
    cases o with
    | none => simp only [if_pos (at_none ht)]; exact Ev.now _
    | some j =>
      have hj := ho j rfl
      have t1 := at_some ht
      simp only [if_neg (show ¬ t < 0 by omega), if_pos (show 0 ≤ t by omega), if_pos (show t < (l.length : Int) by omega)]
      rw [t1]; exact Ev.now _
  | d + 1, i, o, hd, ho => by
    have hi : i < l.length := by omega
    rw [drop_cons l i hi, List.foldl_cons]
    obtain ⟨t, ht⟩ : ∃ t, atOf o = t := ⟨_, rfl⟩
    rw [ht]
    refine Ev_succ ?_
    have hri := rdBid l i hi
    simp only [contangoref46_Best.l0, if_pos (show (i : Int) < (l.length : Int) by omega), if_pos (show 0 ≤ (i : Int) by omega), hri, w_succ hi (by omega)]
    have hnew : valB l (some i) = (l[i].f2, true) := by simp only [valB, hri]
    have ihn := bestR_loop l name hl d (i + 1) (some i) (by omega) (fun j h => by cases h; exact hi)
    have iho := bestR_loop l name hl d (i + 1) o (by omega) ho
    rw [ht] at iho
    by_cases e : l[i].f0.toList = name.toList
    · simp only [if_pos e]
      cases o with
      | none =>
        have hs : bestStep name (valB l none) l[i] = valB l (some i) := by rw [hnew]; simp [bestStep, valB, e]
        simp only [if_pos (at_none ht)]
        rw [hs]
        exact ihn
      | some j =>
        have hj := ho j rfl
        have t1 := at_some ht
        simp only [if_neg (show ¬ t < 0 by omega), if_pos (show 0 ≤ t by omega), if_pos (show t < (l.length : Int) by omega)]
        by_cases c : l[i].f2 < (rd_T33 l t).f2
        · have hs : bestStep name (valB l (some j)) l[i] = valB l (some i) := by rw [hnew]; rw [t1] at c; simp [bestStep, valB, e, c]
          simp only [if_pos c]
          rw [hs]
          exact ihn
        · have hs : bestStep name (valB l (some j)) l[i] = valB l (some j) := by rw [t1] at c; simp [bestStep, valB, e, c]
          simp only [if_neg c]
          rw [hs]
          exact iho
    · have hs : bestStep name (valB l o) l[i] = valB l o := by simp [bestStep, e]
      simp only [if_neg e]
      rw [hs]
      exact iho
theorem bestR_f (l : List Bid) (name : ByteArray) (hl : l.length ≤ 4611686018427387904) : Ev (fun k => contangoref46_Best.f k l name) (bestOf l name) := by
  unfold contangoref46_Best.f bestOf
  exact bestR_loop l name hl l.length 0 none (by omega) (fun j h => by cases h)
def hasA (name : ByteArray) (a : Aw) : Bool := decide (0 < a.f1) && a.f0.toList == name.toList
theorem seen_any (name : ByteArray) : ∀ (l : List Aw) (seen : List ByteArray), strHas (l.foldl awSeen seen) name = (strHas seen name || l.any (hasA name))
  | [], seen => by simp
  | a :: l, seen => by
    rw [List.foldl_cons, seen_any name l, List.any_cons]
    by_cases e : 0 < a.f1
    · have : strHas (awSeen seen a) name = (a.f0.toList == name.toList || strHas seen name) := by simp [awSeen, e, strHas]
      rw [this]
      simp only [hasA, e, decide_true, Bool.true_and]
      cases (a.f0.toList == name.toList) <;> cases strHas seen name <;> simp
    · have : awSeen seen a = seen := by simp [awSeen, e]
      rw [this]
      simp [hasA, e]
theorem worst_some : ∀ (l : List Aw) (s : Int × Bool), (l.foldl awStep s).2 = (s.2 || l.any fun a => decide (0 < a.f1))
  | [], s => by simp
  | a :: l, s => by
    rw [List.foldl_cons, worst_some l, List.any_cons]
    by_cases e : 0 < a.f1
    · have : (awStep s a).2 = true := by
        unfold awStep
        rw [if_pos e]
        by_cases h : s.2 = true
        · rw [if_pos h]; split
          · rfl
          · exact h
        · rw [if_neg h]
      rw [this]
      simp [e]
    · have : awStep s a = s := by simp [awStep, e]
      rw [this]
      simp [e]
def clsL (l : List Bid) (seen : List ByteArray) (worst : Int × Bool) (slack : Int) : List ByteArray → List Int → List Int
  | s :: ns, m :: ms => (if 0 < m then 1 else if wellF l seen worst slack s = true then 3 else 2) :: clsL l seen worst slack ns ms
  | _, _ => []
theorem clsGo_f (l : List Bid) (seen : List ByteArray) (worst : Int × Bool) (slack : Int) : ∀ (ns : List ByteArray) (ms acc : List Int), ns.length = ms.length → (∀ s ∈ ns, s.size ≤ maxLen) → acc.length + ns.length < 17592186044416 → clsGo l seen worst slack acc ns ms = some (acc ++ clsL l seen worst slack ns ms)
  | [], ms, acc, _, _, _ => by simp [clsGo, clsL]
  | s :: ns, [], acc, h, _, _ => by simp at h
  | s :: ns, m :: ms, acc, h, hs, ha => by
    simp only [List.length_cons] at h ha
    rw [clsGo, if_pos ⟨hs s (by simp), by omega⟩, clsGo_f l seen worst slack ns ms _ (by omega) (fun x hx => hs x (by simp [hx])) (by simp; omega), clsL]
    simp
def clsRest (names : List ByteArray) (mi : List Int) (l : List Bid) (aw : List Aw) (slack : Int) : List Int × Int :=
  if slack < 0 then ([], 2) else if 68719476736 < slack then ([], 2) else if 1024 < aw.length then ([], 8) else (clsL l (aw.foldl awSeen []) (aw.foldl awStep (0, false)) slack names mi, 0)
def classes (names : List ByteArray) (must : List Int) (l : List Bid) (aw : List Aw) (slack : Int) : List Int × Int :=
  if bidCheck l ≠ 0 then ([], bidCheck l) else if (missing names must l).2 ≠ 0 then ([], (missing names must l).2) else if ascAll names = false then ([], 12) else clsRest names (missing names must l).1 l aw slack
theorem missE_full (l : List Bid) : ∀ (ns : List ByteArray) (acc ms : List Int), ns.length = ms.length → (missE l acc ns ms).2 = 0 → (missE l acc ns ms).1.length = acc.length + ns.length
  | [], acc, ms, _, _ => by simp [missE]
  | s :: ns, acc, [], h, _ => by simp at h
  | s :: ns, acc, m :: ms, h, h0 => by
    simp only [missE] at h0 ⊢
    by_cases c : nameB s = true
    · rw [if_pos c] at h0 ⊢
      by_cases c2 : m < 0 ∨ 1048576 < m
      · rw [if_pos c2] at h0; simp at h0
      · rw [if_neg c2] at h0 ⊢
        rw [missE_full l ns _ ms (by simpa using h) h0]
        simp; omega
    · rw [if_neg c] at h0; simp at h0
theorem missing_full (names : List ByteArray) (must : List Int) (l : List Bid) (hb : bidCheck l = 0) (h0 : (missing names must l).2 = 0) : (missing names must l).1.length = names.length := by
  unfold missing at h0 ⊢
  rw [if_pos hb] at h0 ⊢
  by_cases hl : names.length = must.length
  · rw [if_pos hl] at h0 ⊢
    rw [missE_full l names [] must hl h0]; simp
  · rw [if_neg hl] at h0; simp at h0
theorem classes_f (names : List ByteArray) (must : List Int) (l : List Bid) (aw : List Aw) (slack : Int) (hn : names.length ≤ 1048576) (hs : ∀ s ∈ names, s.size ≤ maxLen) (ha : ∀ a ∈ aw, a.f0.size ≤ maxLen) : Ev (fun k => junior_Classes.f k names must l aw slack) (classes names must l aw slack) := by
  unfold junior_Classes.f classes
  refine Ev_bind (bidCheck_f l) ?_
  by_cases hb : bidCheck l ≠ 0
  · simp only [if_pos hb]; exact Ev.now _
  simp only [if_neg hb]
  refine Ev_bind (missing_f names must l hn) ?_
  by_cases hm : (missing names must l).2 ≠ 0
  · simp only [if_pos hm]; exact Ev.now _
  simp only [if_neg hm]
  have hlen := missing_full names must l (Decidable.not_not.1 hb) (Decidable.not_not.1 hm)
  refine Ev_all fun k => ?_
  unfold clsTail clsRest
  by_cases c1 : ascAll names = false
  · rw [if_pos c1, if_pos c1]
  rw [if_neg c1, if_neg c1]
  by_cases c2 : slack < 0
  · rw [if_pos c2, if_pos c2]
  rw [if_neg c2, if_neg c2]
  by_cases c3 : 68719476736 < slack
  · rw [if_pos c3, if_pos c3]
  rw [if_neg c3, if_neg c3]
  by_cases c4 : 1024 < aw.length
  · rw [if_pos c4, if_pos c4]
  rw [if_neg c4, if_neg c4, if_pos ha, clsGo_f l _ _ slack names _ [] hlen.symm hs (by simp; omega)]
  rfl
end Go.Proofs.Ytokijibpdnepiaa.P
end
section
namespace Go.Proofs.Ytokijibpdnepiaa.P
open Go.RowKit Go.Proofs.YtokijibpdnepiaaW.PrintWords Go.Proofs.YtokijibpdnepiaaW.PrintMore Go.Proofs.Ytokijibpdnepiaa.X
set_option maxRecDepth 100000 in
theorem goes46 : Ev (fun k => contangolaw46_goes.f k) true := Ev.of (k := 40) (contangolaw46_goes.mono) (by decide +kernel)
end Go.Proofs.Ytokijibpdnepiaa.P
end
section
namespace Go.Proofs.Ytokijibpdnepiaa.Pure
set_option linter.unusedVariables false
set_option linter.unusedSimpArgs false
open Go.RowKit Go.Proofs.YtokijibpdnepiaaW.PrintWords Go.Proofs.YtokijibpdnepiaaW.PrintMore Go.Proofs.Ytokijibpdnepiaa.X Go.Proofs.Ytokijibpdnepiaa.P
theorem aw_names (q : Int) (l : List Bid) (cap : Int) : ∀ a ∈ (award q l cap).1, a.f0.size ≤ maxLen := by
  unfold award
  by_cases h : bidCheck l = 0
  · rw [if_pos h]
    obtain ⟨g1, g2, g3, g4⟩ := rank_good h
    by_cases c : q < 0 ∨ q > 1048576
    · rw [if_pos c]; simp
    · rw [if_neg c]
      by_cases c1 : priceB cap = true
      · rw [if_pos c1]
        intro a ha
        obtain ⟨f1, f2⟩ := awardGo_facts cap (rankP l) q (by omega) fun b hb => (g3 b hb).1
        obtain ⟨i, hi, e⟩ := List.getElem_of_mem ha
        have h3 := (f2 i hi (Nat.lt_of_lt_of_le hi f1)).1
        rw [← e, h3]
        have hm : (rankP l)[i]'(Nat.lt_of_lt_of_le hi f1) ∈ l := (rank_facts l).2.mem_iff.1 (List.getElem_mem _)
        have := nameB_size (bidCheck_names h _ hm)
        unfold maxLen; omega
      · rw [if_neg c1]; simp
  · rw [if_neg h]; simp
theorem aw_step {s : Int × Bool} {a : Aw} (h : 0 < a.f1) : (awStep s a).2 = true ∧ a.f2 ≤ (awStep s a).1 ∧ (s.2 = true → s.1 ≤ (awStep s a).1) := by
  unfold awStep
  rw [if_pos h]
  by_cases c : s.2 = true
  · rw [if_pos c]
    by_cases c2 : s.1 < a.f2
    · rw [if_pos c2]; exact ⟨rfl, Int.le_refl _, fun _ => by simp only; omega⟩
    · rw [if_neg c2]; exact ⟨c, by omega, fun _ => Int.le_refl _⟩
  · rw [if_neg c]; exact ⟨rfl, Int.le_refl _, fun h => absurd h c⟩
theorem worst_up : ∀ (l : List Aw) (s : Int × Bool), s.2 = true → s.1 ≤ (l.foldl awStep s).1
  | [], s, _ => Int.le_refl _
  | a :: l, s, h => by
    rw [List.foldl_cons]
    by_cases c : 0 < a.f1
    · obtain ⟨h1, h2, h3⟩ := aw_step (s := s) c
      have := worst_up l (awStep s a) h1
      have := h3 h
      omega
    · have e : awStep s a = s := by unfold awStep; rw [if_neg c]
      rw [e]
      exact worst_up l s h
theorem worst_ge : ∀ (l : List Aw) (s : Int × Bool) (a : Aw), a ∈ l → 0 < a.f1 → a.f2 ≤ (l.foldl awStep s).1
  | x :: l, s, a, ha, h => by
    rw [List.foldl_cons]
    rcases List.mem_cons.1 ha with e | e
    · obtain ⟨h1, h2, _⟩ := aw_step (s := s) (a := x) (by rw [← e]; exact h)
      have := worst_up l (awStep s x) h1
      rw [e]
      omega
    · exact worst_ge l _ a e h
theorem best_rng (name : ByteArray) : ∀ (l : List Bid) (s : Int × Bool), (∀ b ∈ l, -68719476736 ≤ b.f2 ∧ b.f2 ≤ 68719476736) → (-68719476736 ≤ s.1 ∧ s.1 ≤ 68719476736) → (-68719476736 ≤ (l.foldl (bestStep name) s).1 ∧ (l.foldl (bestStep name) s).1 ≤ 68719476736)
  | [], s, _, hs => hs
  | b :: l, s, h, hs => by
    rw [List.foldl_cons]
    refine best_rng name l _ (fun x hx => h x (by simp [hx])) ?_
    have hb := h b (by simp)
    unfold bestStep
    by_cases c : b.f0.toList = name.toList
    · rw [if_pos c]
      by_cases c2 : s.2 = true
      · rw [if_pos c2]
        by_cases c3 : b.f2 < s.1
        · rw [if_pos c3]; exact hb
        · rw [if_neg c3]; exact hs
      · rw [if_neg c2]; exact hb
    · rw [if_neg c]; exact hs
theorem clsL_get (l : List Bid) (seen : List ByteArray) (worst : Int × Bool) (slack : Int) : ∀ (ns : List ByteArray) (ms : List Int), ns.length = ms.length → (clsL l seen worst slack ns ms).length = ns.length ∧ ∀ i (h : i < (clsL l seen worst slack ns ms).length) (h1 : i < ns.length) (h2 : i < ms.length), (clsL l seen worst slack ns ms)[i] = if 0 < ms[i] then 1 else if wellF l seen worst slack ns[i] = true then 3 else 2
  | [], ms, _ => ⟨rfl, fun i h h1 h2 => by simp at h1⟩
  | s :: ns, [], h => by simp at h
  | s :: ns, m :: ms, h => by
    obtain ⟨q1, q2⟩ := clsL_get l seen worst slack ns ms (by simpa using h)
    refine ⟨by simp only [clsL, List.length_cons, q1], fun i hi h1 h2 => ?_⟩
    cases i with
    | zero => rfl
    | succ j =>
      simp only [clsL, List.getElem_cons_succ]
      exact q2 j (by simpa [clsL] using hi) (by simpa using h1) (by simpa using h2)
section
variable (aw aw3 : List Aw) (C mi : List Int) (names : List ByteArray) (must : List Int) (l : List Bid) (slack : Int)
theorem fair_l1 (i : Nat) (b1 : Int) (b2 : Bool) (hn : i < names.length) (hC : i < C.length) (hm : i < mi.length) (hbig : aw.length ≤ 1048576 ∧ names.length ≤ 1048576) (h0 : Ev (fun k => contangolaw46_JuniorFair.l0 k aw C mi ((i + 1 : Nat) : Int) names must l aw3 slack) true)
    (H1 : ∀ k (h : k < aw.length), aw[k].f0.toList = names[i].toList → 0 < aw[k].f1 → C[i] ≠ 2) (H2 : ∀ k (h : k < aw.length), mi[i] = 0 → b2 = true → 0 < aw[k].f1 → b1 ≤ aw[k].f2 → C[i] = 3) (H3 : 0 < mi[i] ↔ C[i] = 1) (H4 : aw.length = 0 → C[i] ≠ 3) :
    ∀ (d k : Nat), k + d = aw.length → Ev (fun n => contangolaw46_JuniorFair.l1 n aw C mi i b1 b2 k names must l aw3 slack) true
  | 0, k, hd => by
    refine Ev_succ ?_
    have e1 : ((decide (mi[i] > 0)) != (C[i] == 1)) = false := by
      by_cases c : 0 < mi[i]
      · rw [decide_eq_true (show mi[i] > 0 from c), beq_iff_eq.2 (H3.1 c)]; rfl
      · rw [decide_eq_false (show ¬ mi[i] > 0 from c), beq_eq_false_iff_ne.2 (fun h => c (H3.2 h))]; rfl
    simp only [contangolaw46_JuniorFair.l1, if_neg (show ¬ ((k : Int) < (aw.length : Int)) by omega), if_pos (show 0 ≤ (i : Int) by omega), if_pos (show (i : Int) < (mi.length : Int) by omega), if_pos (show (i : Int) < (C.length : Int) by omega), rd_nat mi i hm, rd_nat C i hC, e1, Bool.false_eq_true, if_false, w_succ hn (by omega)]
    by_cases c : (aw.length : Int) = 0
    · simp only [if_pos c, if_neg (H4 (by omega))]; exact h0
    · simp only [if_neg c]; exact h0
  | d + 1, k, hd => by
    have hk : k < aw.length := by omega
    have hra := rdAw aw k hk
    have ih := fair_l1 i b1 b2 hn hC hm hbig h0 H1 H2 H3 H4 d (k + 1) (by omega)
    have hj3 : Ev (fun n => contangolaw46_JuniorFair.j3 n aw C mi i b1 b2 k false names must l aw3 slack) true := by
      refine Ev_succ ?_
      simp only [contangolaw46_JuniorFair.j3, Bool.false_eq_true, if_false, if_pos (show 0 ≤ (i : Int) by omega), if_pos (show (i : Int) < (mi.length : Int) by omega), rd_nat mi i hm, if_pos (show 0 ≤ (k : Int) by omega), if_pos (show (k : Int) < (aw.length : Int) by omega), hra, if_pos (show (i : Int) < (C.length : Int) by omega), rd_nat C i hC, w_succ hk (by omega)]
      by_cases c1 : mi[i] = 0
      · simp only [if_pos c1]
        by_cases c2 : b2 = true
        · simp only [if_pos c2]
          by_cases c3 : aw[k].f1 > 0
          · simp only [if_pos c3]
            by_cases c4 : b1 ≤ aw[k].f2
            · simp only [if_pos c4, if_pos (H2 k hk c1 c2 c3 c4)]; exact ih
            · simp only [if_neg c4]; exact ih
          · simp only [if_neg c3]; exact ih
        · simp only [if_neg c2]; exact ih
      · simp only [if_neg c1]; exact ih
    refine Ev_succ ?_
    simp only [contangolaw46_JuniorFair.l1, if_pos (show (k : Int) < (aw.length : Int) by omega), if_pos (show 0 ≤ (k : Int) by omega), if_pos (show 0 ≤ (i : Int) by omega), if_pos (show (i : Int) < (names.length : Int) by omega), hra, rdOf_nat ByteArray.empty names i hn, if_pos (show (i : Int) < (C.length : Int) by omega), rd_nat C i hC]
    by_cases c1 : aw[k].f0.toList = names[i].toList
    · simp only [if_pos c1]
      by_cases c2 : aw[k].f1 > 0
      · have e2 : (C[i] == 2) = false := beq_eq_false_iff_ne.2 (H1 k hk c1 c2)
        simp only [if_pos c2, e2]; exact hj3
      · simp only [if_neg c2]; exact hj3
    · simp only [if_neg c1]; exact hj3
theorem fair_l0 (hlen : C.length = names.length) (hml : mi.length = names.length) (hbig : aw.length ≤ 1048576 ∧ names.length ≤ 1048576 ∧ l.length ≤ 1048576)
    (H1 : ∀ i (hn : i < names.length) (hC : i < C.length) k (h : k < aw.length), aw[k].f0.toList = names[i].toList → 0 < aw[k].f1 → C[i] ≠ 2)
    (H2 : ∀ i (hn : i < names.length) (hC : i < C.length) (hm : i < mi.length) k (h : k < aw.length), mi[i] = 0 → (bestOf l names[i]).2 = true → 0 < aw[k].f1 → (bestOf l names[i]).1 ≤ aw[k].f2 → C[i] = 3)
    (H3 : ∀ i (hC : i < C.length) (hm : i < mi.length), 0 < mi[i] ↔ C[i] = 1) (H4 : aw.length = 0 → ∀ i (hC : i < C.length), C[i] ≠ 3) :
    ∀ (d i : Nat), i + d = names.length → Ev (fun k => contangolaw46_JuniorFair.l0 k aw C mi i names must l aw3 slack) true
  | 0, i, hd => by
    refine Ev_succ ?_
    simp only [contangolaw46_JuniorFair.l0, if_neg (show ¬ ((i : Int) < (C.length : Int)) by omega)]
    exact Ev_id goes46
  | d + 1, i, hd => by
    have hn : i < names.length := by omega
    have hC : i < C.length := by omega
    have hm : i < mi.length := by omega
    have ih := fair_l0 hlen hml hbig H1 H2 H3 H4 d (i + 1) (by omega)
    refine Ev_succ ?_
    simp only [contangolaw46_JuniorFair.l0, if_pos (show (i : Int) < (C.length : Int) by omega), if_pos (show 0 ≤ (i : Int) by omega), if_pos (show (i : Int) < (names.length : Int) by omega), rdOf_nat ByteArray.empty names i hn]
    refine Ev_bind (bestR_f l names[i] (by omega)) ?_
    exact fair_l1 aw aw3 C mi names must l slack i _ _ hn hC hm ⟨hbig.1, hbig.2.1⟩ ih (H1 i hn hC) (H2 i hn hC hm) (H3 i hC hm) (fun h => H4 h i hC) aw.length 0 (by omega)
end
theorem JuniorFair : ∀ (x0 : S56) (x1 : S70), ok56 x0 → ok70 x1 → ∃ k, X.contangolaw46_JuniorFair.f k x0.f0 x0.f1 x0.f2 x0.f3 x0.f4 x1.f0 x1.f1 = some true := by
  intro x ask hx _
  obtain ⟨names, must, l, aw3, slack⟩ := x
  obtain ⟨q, cap⟩ := ask
  obtain ⟨hn, hm, hl, ha, hs⟩ := hx
  apply Ev.rounds
  dsimp only at hn hm hl ha hs ⊢
  have hz : ∀ b ∈ l, b.f0.size ≤ 4611686018427387904 := fun b hb => by have := (hl.2.2 b hb).1; omega
  have hzn : ∀ s ∈ names, s.size ≤ 4611686018427387904 := fun s hs => by have := hn.2.2 s hs; omega
  have hzm : ∀ s ∈ names, s.size ≤ maxLen := fun s hs => by have := hn.2.2 s hs; unfold maxLen; omega
  have hfew : ∃ b, contangolaw46_few.f names must l aw3 slack = some b ∧ (b = true → names.length ≤ 200 ∧ l.length ≤ 300) := by
    unfold contangolaw46_few.f
    by_cases c1 : (names.length : Int) ≤ 200
    · rw [if_pos c1]
      by_cases c2 : (must.length : Int) ≤ 200
      · rw [if_pos c2]
        by_cases c3 : (l.length : Int) ≤ 300
        · rw [if_pos c3]; exact ⟨_, rfl, fun _ => ⟨by omega, by omega⟩⟩
        · rw [if_neg c3]; exact ⟨_, rfl, fun h => by cases h⟩
      · rw [if_neg c2]; exact ⟨_, rfl, fun h => by cases h⟩
    · rw [if_neg c1]; exact ⟨_, rfl, fun h => by cases h⟩
  obtain ⟨b, hb, hlen⟩ := hfew
  unfold contangolaw46_JuniorFair.f
  refine Ev_bind (Ev_all fun _ => hb) ?_
  cases b with
  | false => simp only [Bool.false_eq_true, if_false]; exact Ev_id goes46
  | true =>
    obtain ⟨n200, l300⟩ := hlen rfl
    simp only [if_true]
    refine Ev_bind (awardR_f q l cap hz) ?_
    have haz := aw_names q l cap
    have hal := (award_len q l cap).1
    refine Ev_bind (classes_f names must l (award q l cap).1 slack (by omega) hzm haz) ?_
    have jt : ∀ (A : List Aw) (C : List Int) (e : Int), (e = 0 ∨ C.length = 0) → Ev (fun k => contangolaw46_JuniorFair.j0 k A C e true names must l aw3 slack) true := fun A C e h => by
      refine Ev_succ ?_
      simp only [contangolaw46_JuniorFair.j0, if_true]
      by_cases c : e = 0
      · simp only [if_pos c]; exact Ev_id goes46
      · simp only [if_neg c, if_pos (show (C.length : Int) = 0 by have := h.resolve_left c; omega)]; exact Ev_id goes46
    have he : ∀ aw, (classes names must l aw slack).2 = 0 ∨ (classes names must l aw slack).1.length = 0 := fun aw => by
      unfold classes clsRest
      repeat' split
      all_goals first | exact Or.inl rfl | exact Or.inr rfl
    by_cases f0 : (award q l cap).2.2 = 0
    case neg => simp only [if_neg f0]; exact jt _ _ _ (he _)
    simp only [if_pos f0]
    by_cases e0 : (classes names must l (award q l cap).1 slack).2 = 0
    case neg => rw [bne_iff_ne.2 e0]; exact jt _ _ _ (he _)
    rw [bne_eq_false_iff_eq.2 e0]
    refine Ev_succ ?_
    simp only [contangolaw46_JuniorFair.j0, Bool.false_eq_true, if_false]
    refine Ev_bind (missingR_f names must l (by omega) hzn hz) ?_
    generalize hA : (award q l cap).1 = aw at *

    have hc := e0
    unfold classes at hc
    by_cases d1 : bidCheck l ≠ 0
    · rw [if_pos d1] at hc; exact absurd hc d1
    rw [if_neg d1] at hc
    have z1 := Decidable.not_not.1 d1
    by_cases d2 : (missing names must l).2 ≠ 0
    · rw [if_pos d2] at hc; exact absurd hc d2
    rw [if_neg d2] at hc
    have z2 := Decidable.not_not.1 d2
    by_cases d3 : ascAll names = false
    · rw [if_pos d3] at hc; simp at hc
    rw [if_neg d3] at hc
    unfold clsRest at hc
    by_cases d4 : slack < 0
    · rw [if_pos d4] at hc; simp at hc
    rw [if_neg d4] at hc
    by_cases d5 : 68719476736 < slack
    · rw [if_pos d5] at hc; simp at hc
    rw [if_neg d5] at hc
    by_cases d6 : 1024 < aw.length
    · rw [if_pos d6] at hc; simp at hc
    have hC : (classes names must l aw slack).1 = clsL l (aw.foldl awSeen []) (aw.foldl awStep (0, false)) slack names (missing names must l).1 := by
      unfold classes clsRest
      rw [if_neg d1, if_neg d2, if_neg d3, if_neg d4, if_neg d5, if_neg d6]
    have hml := missing_full names must l z1 z2
    obtain ⟨q1, q2⟩ := clsL_get l (aw.foldl awSeen []) (aw.foldl awStep (0, false)) slack names (missing names must l).1 hml.symm
    rw [hC]
    generalize hCC : clsL l (aw.foldl awSeen []) (aw.foldl awStep (0, false)) slack names (missing names must l).1 = C at *
    generalize (missing names must l).1 = mi at *
    simp only [if_pos (show (C.length : Int) = (names.length : Int) by omega)]
    have hbr := (bidCheck_zero z1).2
    refine fair_l0 aw aw3 C mi names must l slack q1 hml ⟨by omega, by omega, by omega⟩ ?_ ?_ ?_ ?_ names.length 0 (by omega)
    · intro i hi hCi k hk e hq2 h2
      have hg := q2 i hCi hi (by omega)
      rw [h2] at hg
      by_cases c : 0 < mi[i]'(by omega)
      · rw [if_pos c] at hg; simp at hg
      · rw [if_neg c] at hg
        have hw : wellF l (aw.foldl awSeen []) (aw.foldl awStep (0, false)) slack names[i] = true := by
          unfold wellF
          rw [seen_any, if_pos]
          have : aw.any (hasA names[i]) = true := List.any_eq_true.2 ⟨aw[k], List.getElem_mem hk, by simp [hasA, hq2, e]⟩
          rw [this, Bool.or_true]
        rw [if_pos hw] at hg; simp at hg
    · intro i hi hCi hmi k hk hm0 hb2 hq2 hle
      have hg := q2 i hCi hi hmi
      rw [hg, if_neg (by omega)]
      have hw : wellF l (aw.foldl awSeen []) (aw.foldl awStep (0, false)) slack names[i] = true := by
        unfold wellF
        by_cases c : strHas (aw.foldl awSeen []) names[i] = true
        · rw [if_pos c]
        · have w2 : (aw.foldl awStep (0, false)).2 = true := by
            rw [worst_some]
            have : (aw.any fun a => decide (0 < a.f1)) = true := List.any_eq_true.2 ⟨aw[k], List.getElem_mem hk, by simpa using hq2⟩
            rw [this, Bool.or_true]
          have wg := worst_ge aw (0, false) aw[k] (List.getElem_mem hk) hq2
          have br := best_rng names[i] l (0, false) (fun b hb => ⟨(hbr b hb).2.2.1, (hbr b hb).2.2.2⟩) (by constructor <;> decide)
          have br2 : -68719476736 ≤ (bestOf l names[i]).1 ∧ (bestOf l names[i]).1 ≤ 68719476736 := br
          rw [if_neg c, if_pos hb2, if_pos w2, w_id (by omega) (by omega)]
          exact decide_eq_true (by omega)
      rw [if_pos hw]
    · intro i hCi hmi
      have hg := q2 i hCi (by omega) hmi
      rw [hg]
      by_cases c : 0 < mi[i]
      · rw [if_pos c]; exact ⟨fun _ => rfl, fun _ => c⟩
      · rw [if_neg c]
        refine ⟨fun h => absurd h c, fun h => ?_⟩
        split at h <;> simp at h
    · intro h0 i hCi h3
      have hg := q2 i hCi (by omega) (by omega)
      rw [h3] at hg
      have : aw = [] := List.length_eq_zero_iff.1 h0
      by_cases c : 0 < mi[i]'(by omega)
      · rw [if_pos c] at hg; simp at hg
      · have hw : wellF l (aw.foldl awSeen []) (aw.foldl awStep (0, false)) slack names[i] = false := by
          rw [this]
          unfold wellF
          simp [strHas]
        rw [if_neg c, hw] at hg; simp at hg
end Go.Proofs.Ytokijibpdnepiaa.Pure
end
