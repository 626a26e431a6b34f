/- For AuctionBest: contracts, and facts on lists and numbers, that it uses (part 3). -/
import Derived.Test.YtokijibpdnepiaaAuctionBestc2
section
namespace Go.Proofs.Ytokijibpdnepiaa.P
set_option linter.unusedVariables false
set_option linter.unusedSimpArgs false
open Go.RowKit Go.Proofs.YtokijibpdnepiaaW.PrintWords Go.Proofs.YtokijibpdnepiaaW.PrintMore Go.Proofs.Ytokijibpdnepiaa.X
def lt (a b : Bid) : Bool := if a.f2 = b.f2 then (if a.f3 = b.f3 then Op.bytesLess a.f0.toList b.f0.toList else decide (a.f3 < b.f3)) else decide (a.f2 < b.f2)
theorem lt_iff (a b : Bid) : lt a b = true ↔ a.f2 < b.f2 ∨ a.f2 = b.f2 ∧ (a.f3 < b.f3 ∨ a.f3 = b.f3 ∧ Op.bytesLess a.f0.toList b.f0.toList = true) := by
  unfold lt
  by_cases h : a.f2 = b.f2
  · rw [if_pos h]
    by_cases h2 : a.f3 = b.f3
    · rw [if_pos h2]
      constructor
      · intro e; exact Or.inr ⟨h, Or.inr ⟨h2, e⟩⟩
      · rintro (e | ⟨_, e | ⟨_, e⟩⟩)
        · omega
        · omega
        · exact e
    · rw [if_neg h2, decide_eq_true_iff]
      constructor
      · intro e; exact Or.inr ⟨h, Or.inl e⟩
      · rintro (e | ⟨_, e | ⟨e, _⟩⟩)
        · omega
        · exact e
        · exact absurd e h2
  · rw [if_neg h, decide_eq_true_iff]
    constructor
    · intro e; exact Or.inl e
    · rintro (e | ⟨e, _⟩)
      · exact e
      · exact absurd e h
theorem lt_asymm {a b : Bid} (h : lt a b = true) : lt b a = false := by
  rw [← Bool.not_eq_true]
  intro k
  rw [lt_iff] at h k
  rcases h with h | ⟨h1, h | ⟨h2, h3⟩⟩
  · rcases k with k | ⟨k1, _⟩ <;> omega
  · rcases k with k | ⟨k1, k | ⟨k2, _⟩⟩ <;> omega
  · rcases k with k | ⟨k1, k | ⟨k2, k3⟩⟩
    · omega
    · omega
    · rw [bl_asymm h3] at k3; cases k3
theorem lt_le {x y z : Bid} (h : lt x y = true) (k : lt z y = false) : lt x z = true := by
  have k' : ¬ lt z y = true := by rw [k]; decide
  rw [lt_iff] at h k' ⊢
  rcases h with h | ⟨h1, h | ⟨h2, h3⟩⟩
  · have : y.f2 ≤ z.f2 := by
      by_cases c : z.f2 < y.f2
      · exact absurd (Or.inl c) k'
      · omega
    left; omega
  · by_cases c : z.f2 < y.f2
    · exact absurd (Or.inl c) k'
    · by_cases c2 : z.f2 = y.f2
      · by_cases c3 : z.f3 < y.f3
        · exact absurd (Or.inr ⟨c2, Or.inl c3⟩) k'
        · right; exact ⟨by omega, Or.inl (by omega)⟩
      · left; omega
  · by_cases c : z.f2 < y.f2
    · exact absurd (Or.inl c) k'
    · by_cases c2 : z.f2 = y.f2
      · by_cases c3 : z.f3 < y.f3
        · exact absurd (Or.inr ⟨c2, Or.inl c3⟩) k'
        · by_cases c4 : z.f3 = y.f3
          · have c5 : Op.bytesLess z.f0.toList y.f0.toList = false := by
              rw [← Bool.not_eq_true]
              intro e
              exact k' (Or.inr ⟨c2, Or.inr ⟨c4, e⟩⟩)
            right
            refine ⟨by omega, Or.inr ⟨by omega, ?_⟩⟩
            by_cases c6 : Op.bytesLess y.f0.toList z.f0.toList = true
            · exact bl_trans _ _ _ h3 c6
            · rw [← bl_eq (by simpa using c6) c5]; exact h3
          · right; exact ⟨by omega, Or.inl (by omega)⟩
      · left; omega
theorem ordV_lt (a b : Bid) : ordV a b < 0 ↔ lt a b = true := by
  unfold ordV auction_Rank_1.f cmp_Compare_int.f cmp_Compare_string.f cmp_isNaN_int.f cmp_isNaN_string.f lt
  simp only [bne_self_eq_false, Option.bind_some, Bool.false_eq_true, if_false]
  by_cases h : a.f2 = b.f2
  · rw [if_pos h, if_pos h]
    by_cases h2 : a.f3 = b.f3
    · rw [if_pos h2, if_pos h2]
      by_cases h3 : Op.bytesLess a.f0.toList b.f0.toList = true
      · rw [if_pos h3, h3]; simp
      · rw [if_neg h3]
        have : Op.bytesLess a.f0.toList b.f0.toList = false := by simpa using h3
        rw [this]
        split <;> simp
    · rw [if_neg h2, if_neg h2, decide_eq_true_iff]
      by_cases h3 : a.f3 < b.f3
      · rw [if_pos h3]; simp [h3]
      · rw [if_neg h3]
        split <;> simp <;> omega
  · rw [if_neg h, if_neg h, decide_eq_true_iff]
    by_cases h3 : a.f2 < b.f2
    · rw [if_pos h3]; simp [h3]
    · rw [if_neg h3]
      split <;> simp <;> omega
abbrev gb (l : List Bid) (i : Nat) : Bid := l.getD i z33
theorem gb_eq (l : List Bid) (i : Nat) (h : i < l.length) : gb l i = l[i] := by simp [gb, List.getD, h]
theorem rd_gb (l : List Bid) (i : Nat) : rd_T33 l (i : Int) = gb l i := by simp [rd_T33, gb]
def Sorted (l : List Bid) : Prop := l.Pairwise fun a b => lt b a = false
theorem sorted_at {l : List Bid} (h : Sorted l) {i j : Nat} (hij : i < j) (hj : j < l.length) : lt (gb l j) (gb l i) = false := by
  rw [gb_eq l j hj, gb_eq l i (by omega)]
  exact (List.pairwise_iff_getElem.1 h) i j (by omega) hj hij
theorem insAt_facts (s : List Bid) (x : Bid) (hs : Sorted s) : ∀ n, n ≤ s.length → (∀ j, insAt s x n ≤ j → j < n → lt x (gb s j) = true) ∧ (∀ j, j < insAt s x n → lt x (gb s j) = false)
  | 0, _ => ⟨fun j _ h => by omega, fun j h => by simp [insAt] at h⟩
  | n + 1, hn => by
    obtain ⟨h1, h2⟩ := insAt_facts s x hs n (by omega)
    have e : insAt s x (n + 1) = if ordV x (rd_T33 s (n : Int)) < 0 then insAt s x n else n + 1 := rfl
    rw [e, rd_gb]
    by_cases c : ordV x (gb s n) < 0
    · rw [if_pos c]
      refine ⟨fun j hj hjn => ?_, h2⟩
      by_cases ej : j = n
      · rw [ej]; exact (ordV_lt _ _).1 c
      · exact h1 j hj (by omega)
    · rw [if_neg c]
      refine ⟨fun j hj hjn => by omega, fun j hj => ?_⟩
      have hxn : lt x (gb s n) = false := by rw [← Bool.not_eq_true]; exact fun h => c ((ordV_lt _ _).2 h)
      by_cases ej : j = n
      · rw [ej]; exact hxn
      · rw [← Bool.not_eq_true]
        intro hx
        have := lt_le hx (sorted_at hs (show j < n by omega) (by omega))
        rw [this] at hxn
        cases hxn
theorem insB_sorted {s : List Bid} (hs : Sorted s) (x : Bid) : Sorted (insB s x) := by
  obtain ⟨h1, h2⟩ := insAt_facts s x hs s.length (Nat.le_refl _)
  have hq := insAt_le s x s.length
  unfold insB
  generalize insAt s x s.length = q at h1 h2 hq
  have hp := hs
  unfold Sorted at hp ⊢
  rw [← List.take_append_drop q s, List.pairwise_append] at hp
  obtain ⟨p1, p2, p3⟩ := hp
  rw [List.append_assoc, List.pairwise_append]
  refine ⟨p1, List.pairwise_cons.2 ⟨fun y hy => ?_, p2⟩, fun a ha b hb => ?_⟩
  · have hy : y ∈ s.drop q := hy
    obtain ⟨i, hi, rfl⟩ := List.getElem_of_mem hy
    rw [List.length_drop] at hi
    rw [List.getElem_drop, ← gb_eq s (q + i) (by omega)]
    exact lt_asymm (h1 (q + i) (by omega) (by omega))
  · rcases List.mem_cons.1 hb with e | e
    · rw [e]
      obtain ⟨i, hi, rfl⟩ := List.getElem_of_mem ha
      rw [List.length_take] at hi
      rw [List.getElem_take, ← gb_eq s i (by omega)]
      exact h2 i (by omega)
    · exact p3 a ha b e
theorem insB_perm (s : List Bid) (x : Bid) : (insB s x).Perm (x :: s) := by
  unfold insB
  rw [List.append_assoc]
  have h : (s.take (insAt s x s.length) ++ ([x] ++ s.drop (insAt s x s.length))).Perm ([x] ++ (s.take (insAt s x s.length) ++ s.drop (insAt s x s.length))) := by
    rw [← List.append_assoc, ← List.append_assoc]
    exact List.perm_append_comm.append_right _
  rw [List.take_append_drop] at h
  exact h
def rankP (l : List Bid) : List Bid := l.foldl insB []
theorem rank_snoc (l : List Bid) (x : Bid) : rankP (l ++ [x]) = insB (rankP l) x := by unfold rankP; rw [List.foldl_append]; rfl
theorem rank_len (l : List Bid) : (rankP l).length = l.length := by
  unfold rankP; rw [fold_len]; simp
theorem rank_facts : ∀ (l : List Bid), Sorted (rankP l) ∧ (rankP l).Perm l := by
  intro l
  generalize hn : l.length = n
  induction n generalizing l with
  | zero =>
    have : l = [] := List.eq_nil_of_length_eq_zero hn
    subst this
    exact ⟨List.Pairwise.nil, List.Perm.refl _⟩
  | succ n ih =>
    have hne : l ≠ [] := by intro e; subst e; simp at hn
    rw [← List.dropLast_concat_getLast hne]
    obtain ⟨h1, h2⟩ := ih l.dropLast (by simp [hn])
    rw [rank_snoc]
    exact ⟨insB_sorted h1 _, (insB_perm _ _).trans ((h2.cons _).trans (List.perm_append_comm (l₁ := [l.getLast hne]) (l₂ := l.dropLast)))⟩
where
  gb_eq' (l : List Bid) (m : Nat) (h : m < l.length) : ∀ {p : Bid → Bool}, List.countP (fun k => p (gb l k)) [m] = List.countP p [l[m]] := by
    intro p
    simp only [List.countP_cons, List.countP_nil, gb_eq l m h]
def rank (l : List Bid) : List Bid × Int := if bidCheck l = 0 then (rankP l, 0) else ([], bidCheck l)
theorem rank_f (l : List Bid) : Ev (fun k => auction_Rank.f k l) (rank l) := by
  unfold auction_Rank.f rank
  refine Ev_bind (bidCheck_f l) ?_
  by_cases h : bidCheck l = 0
  · have := (bidCheck_zero h).1
    simp only [if_pos h, if_pos (show l.length < 137438953471 by omega)]
    exact Ev.now _
  · simp only [if_neg h]
    exact Ev.now _
end Go.Proofs.Ytokijibpdnepiaa.P
end
section
namespace Go.Proofs.Ytokijibpdnepiaa.P
set_option linter.unusedVariables false
set_option linter.unusedSimpArgs false
open Go.RowKit Go.Proofs.YtokijibpdnepiaaW.PrintWords Go.Proofs.YtokijibpdnepiaaW.PrintMore Go.Proofs.Ytokijibpdnepiaa.X
abbrev Aw := S52
theorem rdAw (l : List Aw) (i : Nat) (h : i < l.length) : rd_T52 l (i : Int) = l[i] := by simp [rd_T52, h]
def awardGo (cap : Int) : Int → List Bid → List Aw × Int
  | left, [] => ([], left)
  | left, b :: t => if left = 0 ∨ b.f2 > cap then ([], left) else (⟨b.f0, mn left b.f1, b.f2⟩ :: (awardGo cap (left - mn left b.f1) t).1, (awardGo cap (left - mn left b.f1) t).2)
theorem mn_rng {a b : Int} (ha : 0 ≤ a) (hb : 1 ≤ b) : mn a b ≤ a ∧ mn a b ≤ b ∧ 0 ≤ mn a b ∧ (a ≠ 0 → 1 ≤ mn a b) ∧ (mn a b < b → mn a b = a) := by
  unfold mn; split <;> omega
theorem awardLoop (cap : Int) (l : List Bid) (hl : l.length ≤ 1024) (hq : ∀ b ∈ l, 1 ≤ b.f1) : ∀ (d i : Nat) (acc : List Aw) (left : Int), i + d = l.length → acc.length ≤ i → 0 ≤ left → left ≤ 1048576 →
    Ev (fun k => auction_Award.l0 k cap acc left l l.length i) (acc ++ (awardGo cap left (l.drop i)).1, (awardGo cap left (l.drop i)).2, 0)
  | 0, i, acc, left, hd, ha, h1, h2 => by
    rw [List.drop_of_length_le (by omega)]
    refine Ev_succ ?_
    simp only [auction_Award.l0, if_neg (show ¬ ((i : Int) < (l.length : Int)) by omega), awardGo, List.append_nil]
    exact Ev.now _
  | d + 1, i, acc, left, hd, ha, h1, h2 => by
    have hi : i < l.length := by omega
    have hm := mn_rng h1 (hq _ (List.getElem_mem hi))
    rw [drop_cons l i hi, awardGo]
    refine Ev_succ ?_
    simp only [auction_Award.l0, if_pos (show (i : Int) < (l.length : Int) by omega), if_pos (show 0 ≤ (i : Int) by omega), rdBid l i hi]
    by_cases c : left = 0
    · rw [if_pos (Or.inl c)]
      simp only [if_pos c, List.append_nil]
      exact Ev.now _
    · by_cases c2 : l[i].f2 > cap
      · rw [if_pos (Or.inr c2)]
        simp only [if_neg c, if_pos c2, List.append_nil]
        exact Ev.now _
      · have e1 : wrap64 (left - mn left l[i].f1) = left - mn left l[i].f1 := w_id (by omega) (by omega)
        rw [if_neg (show ¬ (left = 0 ∨ l[i].f2 > cap) from fun h => h.elim c c2)]
        simp only [if_neg c, if_neg c2, if_pos (show acc.length < 4398046511104 by omega), e1, w_succ hi (by omega)]
        have ih := awardLoop cap l hl hq d (i + 1) (acc ++ [⟨l[i].f0, mn left l[i].f1, l[i].f2⟩]) (left - mn left l[i].f1) (by omega) (by simp; omega) (by omega) (by omega)
        rw [List.append_assoc] at ih
        exact ih
def award (qty : Int) (l : List Bid) (cap : Int) : List Aw × Int × Int :=
  if bidCheck l = 0 then (if qty < 0 ∨ qty > 1048576 then ([], 0, 18) else if priceB cap = true then ((awardGo cap qty (rankP l)).1, (awardGo cap qty (rankP l)).2, 0) else ([], 0, 28)) else ([], 0, bidCheck l)
theorem rank_good {l : List Bid} (h : bidCheck l = 0) : (rankP l).length = l.length ∧ l.length ≤ 1024 ∧ (∀ b ∈ rankP l, 1 ≤ b.f1 ∧ b.f1 ≤ 1048576 ∧ -68719476736 ≤ b.f2 ∧ b.f2 ≤ 68719476736) ∧ ∀ i j (h : j < (rankP l).length) (hij : i < j), ((rankP l)[i]'(by omega)).f2 ≤ (rankP l)[j].f2 := by
  obtain ⟨h1, h2⟩ := bidCheck_zero h
  obtain ⟨s1, s2⟩ := rank_facts l
  refine ⟨rank_len l, h1, fun b hb => h2 b (s2.mem_iff.1 hb), fun i j hj hij => ?_⟩
  have := (List.pairwise_iff_getElem.1 s1) i j (by omega) hj hij
  by_cases c : (rankP l)[j].f2 < ((rankP l)[i]'(by omega)).f2
  · rw [(lt_iff _ _).2 (Or.inl c)] at this; cases this
  · omega
theorem award_f (qty : Int) (l : List Bid) (cap : Int) : Ev (fun k => auction_Award.f k qty l cap) (award qty l cap) := by
  unfold auction_Award.f award
  refine Ev_bind (rank_f l) ?_
  unfold rank
  by_cases h : bidCheck l = 0
  · obtain ⟨g1, g2, g3, g4⟩ := rank_good h
    simp only [if_pos h, if_true]
    have hj : ∀ b, (b = true ↔ (qty < 0 ∨ qty > 1048576)) → Ev (fun k => auction_Award.j0 k qty cap [] (rankP l) b) (if qty < 0 ∨ qty > 1048576 then ([], 0, 18) else if priceB cap = true then ((awardGo cap qty (rankP l)).1, (awardGo cap qty (rankP l)).2, 0) else ([], 0, 28)) := by
      intro b hb
      refine Ev_succ ?_
      by_cases c : b = true
      · subst c
        rw [if_pos (hb.1 rfl)]
        simp only [auction_Award.j0, if_true]
        exact Ev.now _
      · have cf : b = false := by simpa using c
        subst cf
        have hn : ¬ (qty < 0 ∨ qty > 1048576) := fun h => c (hb.2 h)
        rw [if_neg hn]
        simp only [auction_Award.j0, Bool.false_eq_true, if_false, price_f, Option.bind_some]
        by_cases c1 : priceB cap = true
        · simp only [if_pos c1]
          have := awardLoop cap (rankP l) (by omega) (fun b hb => (g3 b hb).1) (rankP l).length 0 [] qty (by omega) (by simp) (by omega) (by omega)
          simpa using this
        · simp only [if_neg c1]
          exact Ev.now _
    by_cases c : qty < 0
    · simp only [if_pos c]
      have := hj true (by simp [c])
      exact this
    · simp only [if_neg c]
      refine hj _ ?_
      rw [decide_eq_true_iff]
      exact ⟨Or.inr, fun h => h.resolve_left c⟩
  · simp only [if_neg h]
    exact Ev.now _
theorem awardGo_facts (cap : Int) : ∀ (l : List Bid) (left : Int), 0 ≤ left → (∀ b ∈ l, 1 ≤ b.f1) → (awardGo cap left l).1.length ≤ l.length ∧ ∀ i (h : i < (awardGo cap left l).1.length) (h2 : i < l.length), (awardGo cap left l).1[i].f0 = l[i].f0 ∧ (awardGo cap left l).1[i].f2 = l[i].f2 ∧ l[i].f2 ≤ cap ∧ 1 ≤ (awardGo cap left l).1[i].f1 ∧ (awardGo cap left l).1[i].f1 ≤ l[i].f1 ∧ (i + 1 < (awardGo cap left l).1.length → (awardGo cap left l).1[i].f1 = l[i].f1)
  | [], left, h0, _ => by simp [awardGo]
  | b :: t, left, h0, hq => by
    by_cases c : left = 0 ∨ b.f2 > cap
    · have e : awardGo cap left (b :: t) = ([], left) := by rw [awardGo, if_pos c]
      rw [e]; simp
    · have e : awardGo cap left (b :: t) = (⟨b.f0, mn left b.f1, b.f2⟩ :: (awardGo cap (left - mn left b.f1) t).1, (awardGo cap (left - mn left b.f1) t).2) := by rw [awardGo, if_neg c]
      rw [e]
      dsimp only
      have hm := mn_rng h0 (hq b (by simp))
      obtain ⟨a1, a2⟩ := awardGo_facts cap t (left - mn left b.f1) (by omega) fun x hx => hq x (by simp [hx])
      refine ⟨by simp only [List.length_cons]; omega, fun i h h2 => ?_⟩
      cases i with
      | zero =>
        have c1 : left ≠ 0 := fun e => c (Or.inl e)
        have c2 : ¬ b.f2 > cap := fun e => c (Or.inr e)
        refine ⟨rfl, rfl, by simp only [List.getElem_cons_zero]; omega, ?_, ?_, fun h3 => ?_⟩
        · exact hm.2.2.2.1 c1
        · exact hm.2.1
        · simp only [List.getElem_cons_zero]
          by_cases e : mn left b.f1 < b.f1
          · have e2 := hm.2.2.2.2 e
            simp only [List.length_cons] at h3
            rw [e2, Int.sub_self] at h3
            have : (awardGo cap 0 t).1 = [] := by cases t <;> simp [awardGo]
            rw [this] at h3
            simp at h3
          · omega
      | succ j =>
        have h' : j < (awardGo cap (left - mn left b.f1) t).1.length := by simpa using h
        have h2' : j < t.length := by simpa using h2
        have := a2 j h' h2'
        simp only [List.getElem_cons_succ, List.length_cons]
        refine ⟨this.1, this.2.1, this.2.2.1, this.2.2.2.1, this.2.2.2.2.1, fun h3 => this.2.2.2.2.2 (by omega)⟩
theorem award_len (qty : Int) (l : List Bid) (cap : Int) : (award qty l cap).1.length ≤ 1024 ∧ ((award qty l cap).2.2 ≠ 0 → (award qty l cap).1 = [] ∧ (award qty l cap).2.1 = 0) := by
  unfold award
  by_cases h : bidCheck l = 0
  · rw [if_pos h]
    obtain ⟨g1, g2, g3, g4⟩ := rank_good h
    by_cases c : qty < 0 ∨ qty > 1048576
    · rw [if_pos c]; simp
    · rw [if_neg c]
      by_cases c1 : priceB cap = true
      · rw [if_pos c1]
        have := (awardGo_facts cap (rankP l) qty (by omega) fun b hb => (g3 b hb).1).1
        exact ⟨by show (awardGo cap qty (rankP l)).1.length ≤ 1024; omega, fun h => absurd rfl h⟩
      · rw [if_neg c1]; simp
  · rw [if_neg h]; simp
end Go.Proofs.Ytokijibpdnepiaa.P
end
section
namespace Go.Proofs.Ytokijibpdnepiaa.P
open Go.RowKit Go.Proofs.YtokijibpdnepiaaW.PrintWords Go.Proofs.YtokijibpdnepiaaW.PrintMore Go.Proofs.Ytokijibpdnepiaa.X
set_option maxRecDepth 100000 in
theorem goes45 : Ev (fun k => contangolaw45_goes.f k) true := Ev.of (k := 40) (contangolaw45_goes.mono) (by decide +kernel)
end Go.Proofs.Ytokijibpdnepiaa.P
end
section
namespace Go.Proofs.Ytokijibpdnepiaa.Pure
set_option linter.unusedVariables false
set_option linter.unusedSimpArgs false
open Go.RowKit Go.Proofs.YtokijibpdnepiaaW.PrintWords Go.Proofs.YtokijibpdnepiaaW.PrintMore Go.Proofs.Ytokijibpdnepiaa.X Go.Proofs.Ytokijibpdnepiaa.P
def sumQ : List Aw → Int
  | [] => 0
  | a :: t => a.f1 + sumQ t
def mayS (cap : Int) : List Bid → Int
  | [] => 0
  | b :: t => (if b.f2 ≤ cap then b.f1 else 0) + mayS cap t
theorem sumQ_nonneg : ∀ (l : List Aw), (∀ a ∈ l, 1 ≤ a.f1) → 0 ≤ sumQ l
  | [], _ => Int.le_refl _
  | a :: t, h => by
    have h1 := h a (by simp)
    have h2 := sumQ_nonneg t fun x hx => h x (by simp [hx])
    simp only [sumQ]; omega
theorem mayS_rng (cap : Int) : ∀ (l : List Bid), (∀ b ∈ l, 1 ≤ b.f1 ∧ b.f1 ≤ 1048576) → 0 ≤ mayS cap l ∧ mayS cap l ≤ 1048576 * (l.length : Int)
  | [], _ => by simp [mayS]
  | b :: t, h => by
    have h1 := h b (by simp)
    have h2 := mayS_rng cap t fun x hx => h x (by simp [hx])
    simp only [mayS, List.length_cons]
    split <;> omega
theorem mayS_none (cap : Int) : ∀ (l : List Bid), (∀ b ∈ l, b.f2 > cap) → mayS cap l = 0
  | [], _ => rfl
  | b :: t, h => by
    have h1 := h b (by simp)
    have h2 := mayS_none cap t fun x hx => h x (by simp [hx])
    simp only [mayS, if_neg (show ¬ b.f2 ≤ cap by omega), h2, Int.add_zero]
theorem awardGo_sum (cap : Int) : ∀ (l : List Bid) (left : Int), sumQ (awardGo cap left l).1 + (awardGo cap left l).2 = left
  | [], left => by simp [awardGo, sumQ]
  | b :: t, left => by
    by_cases c : left = 0 ∨ b.f2 > cap
    · have e : awardGo cap left (b :: t) = ([], left) := by rw [awardGo, if_pos c]
      rw [e]; simp [sumQ]
    · have e : awardGo cap left (b :: t) = (⟨b.f0, mn left b.f1, b.f2⟩ :: (awardGo cap (left - mn left b.f1) t).1, (awardGo cap (left - mn left b.f1) t).2) := by rw [awardGo, if_neg c]
      rw [e]
      have := awardGo_sum cap t (left - mn left b.f1)
      simp only [sumQ]
      omega
theorem awardGo_left (cap : Int) : ∀ (l : List Bid) (left : Int), 0 ≤ left → (∀ b ∈ l, 1 ≤ b.f1 ∧ b.f1 ≤ 1048576) → l.Pairwise (fun a b => a.f2 ≤ b.f2) → (awardGo cap left l).2 = mx (left - mayS cap l) 0
  | [], left, h0, _, _ => by
    show left = mx (left - 0) 0
    unfold mx; split <;> omega
  | b :: t, left, h0, hq, hs => by
    have hq1 := hq b (by simp)
    have hqt : ∀ x ∈ t, 1 ≤ x.f1 ∧ x.f1 ≤ 1048576 := fun x hx => hq x (by simp [hx])
    have hr := mayS_rng cap t hqt
    obtain ⟨hs1, hs2⟩ := List.pairwise_cons.1 hs
    by_cases c2 : b.f2 > cap
    · have e : awardGo cap left (b :: t) = ([], left) := by rw [awardGo, if_pos (Or.inr c2)]
      have e2 : mayS cap (b :: t) = 0 := mayS_none cap _ fun x hx => by
        rcases List.mem_cons.1 hx with h | h
        · rw [h]; exact c2
        · have := hs1 x h; omega
      rw [e, e2]; simp only [mx]; split <;> omega
    · by_cases c1 : left = 0
      · have e : awardGo cap left (b :: t) = ([], left) := by rw [awardGo, if_pos (Or.inl c1)]
        rw [e]
        simp only [mayS, mx]
        split <;> split <;> omega
      · have e : awardGo cap left (b :: t) = (⟨b.f0, mn left b.f1, b.f2⟩ :: (awardGo cap (left - mn left b.f1) t).1, (awardGo cap (left - mn left b.f1) t).2) := by rw [awardGo, if_neg (fun h => h.elim c1 c2)]
        rw [e]
        have hm := mn_rng h0 hq1.1
        have ih := awardGo_left cap t (left - mn left b.f1) (by omega) hqt hs2
        show (awardGo cap (left - mn left b.f1) t).2 = _
        rw [ih]
        simp only [mayS, if_pos (show b.f2 ≤ cap by omega), mx, mn]
        split <;> split <;> split <;> omega
theorem bestL1 (qty cap left M : Int) (out : List Aw) (R : List Bid) (hq : 0 ≤ qty ∧ qty ≤ 1048576) (hR : R.length ≤ 1024) (hlen : out.length ≤ R.length)
    (hf : ∀ i (h : i < out.length) (h2 : i < R.length), out[i].f0 = R[i].f0 ∧ out[i].f2 = R[i].f2 ∧ R[i].f2 ≤ cap ∧ 1 ≤ out[i].f1 ∧ out[i].f1 ≤ R[i].f1 ∧ (i + 1 < out.length → out[i].f1 = R[i].f1))
    (hM : 0 ≤ M ∧ M ≤ 1073741824) (hl : left = mx (qty - M) 0) : ∀ (d i : Nat) (s : Int), i + d = out.length → s + sumQ (out.drop i) = qty → 0 ≤ s → Ev (fun k => contangolaw45_AuctionBest.l1 k qty cap out left R s M out.length i) true
  | 0, i, s, hd, hs, h0 => by
    rw [List.drop_of_length_le (by omega)] at hs
    simp only [sumQ, Int.add_zero] at hs
    have e1 : wrap64 (qty - M) = qty - M := w_id (by omega) (by omega)
    refine Ev_succ ?_
    simp only [contangolaw45_AuctionBest.l1, if_neg (show ¬ ((i : Int) < (out.length : Int)) by omega), if_pos hs, e1, if_pos hl]
    exact Ev_id goes45
  | d + 1, i, s, hd, hs, h0 => by
    have hi : i < out.length := by omega
    have hi2 : i < R.length := by omega
    obtain ⟨f0, f2, f3, f4, f5, f6⟩ := hf i hi hi2
    have hnn := sumQ_nonneg (out.drop (i + 1)) fun a ha => by
      obtain ⟨j, hj, rfl⟩ := List.getElem_of_mem ha
      rw [List.length_drop] at hj
      rw [List.getElem_drop]
      exact (hf (i + 1 + j) (by omega) (by omega)).2.2.2.1
    rw [drop_cons out i hi] at hs
    simp only [sumQ] at hs
    have e1 : wrap64 (s + out[i].f1) = s + out[i].f1 := w_id (by omega) (by omega)
    have ih := bestL1 qty cap left M out R hq hR hlen hf hM hl d (i + 1) (s + out[i].f1) (by omega) (by omega) (by omega)
    refine Ev_succ ?_
    simp only [contangolaw45_AuctionBest.l1, if_pos (show (i : Int) < (out.length : Int) by omega), if_pos (show 0 ≤ (i : Int) by omega), if_neg (show ¬ ((i : Int) ≥ (R.length : Int)) by omega), if_pos (show (i : Int) < (R.length : Int) by omega), rdAw out i hi, rdBid R i hi2,
      if_pos (show out[i].f0.toList = R[i].f0.toList by rw [f0]), if_pos f2, if_neg (show ¬ out[i].f2 > cap by omega), if_neg (show ¬ out[i].f1 < 1 by omega), if_neg (show ¬ out[i].f1 > R[i].f1 by omega), e1, w_succ hi (show out.length ≤ 9223372036854775807 by omega)]
    by_cases c : i + 1 < out.length
    · simp only [if_pos (show ((i + 1 : Nat) : Int) < (out.length : Int) by omega), if_pos (f6 c)]
      exact ih
    · simp only [if_neg (show ¬ ((i + 1 : Nat) : Int) < (out.length : Int) by omega)]
      exact ih
theorem bestL0 (qty cap left M : Int) (out : List Aw) (R : List Bid) (hR : R.length ≤ 1024) (hqs : ∀ b ∈ R, 1 ≤ b.f1 ∧ b.f1 ≤ 1048576) (hs : ∀ i j (h : j < R.length) (hij : i < j), (R[i]'(by omega)).f2 ≤ R[j].f2)
    (h : Ev (fun k => contangolaw45_AuctionBest.l1 k qty cap out left R left M out.length 0) true) : ∀ (d i : Nat) (m : Int), i + d = R.length → m + mayS cap (R.drop i) = M → 0 ≤ m → m ≤ 1048576 * (i : Int) → Ev (fun k => contangolaw45_AuctionBest.l0 k qty cap out left R left m R.length i) true
  | 0, i, m, hd, hm, h0, h1 => by
    rw [List.drop_of_length_le (by omega)] at hm
    simp only [mayS, Int.add_zero] at hm
    subst hm
    refine Ev_succ ?_
    simp only [contangolaw45_AuctionBest.l0, if_neg (show ¬ ((i : Int) < (R.length : Int)) by omega)]
    exact h
  | d + 1, i, m, hd, hm, h0, h1 => by
    have hi : i < R.length := by omega
    have hb := hqs _ (List.getElem_mem hi)
    rw [drop_cons R i hi] at hm
    simp only [mayS] at hm
    have e1 : wrap64 (m + R[i].f1) = m + R[i].f1 := w_id (by omega) (by omega)
    have hsort : ∀ (c : i > 0), ¬ R[i].f2 < (R[i - 1]'(by omega)).f2 := fun c => by have := hs (i - 1) i hi (by omega); omega
    have ih := fun m' => bestL0 qty cap left M out R hR hqs hs h d (i + 1) m' (by omega)
    refine Ev_succ ?_
    simp only [contangolaw45_AuctionBest.l0, if_pos (show (i : Int) < (R.length : Int) by omega), if_pos (show 0 ≤ (i : Int) by omega), rdBid R i hi, e1, w_succ hi (show R.length ≤ 9223372036854775807 by omega)]
    by_cases c : R[i].f2 ≤ cap
    · rw [if_pos c] at hm
      simp only [if_pos c]
      have ih' := ih (m + R[i].f1) (by omega) (by omega) (by omega)
      by_cases c2 : i > 0
      · have ep := w_pred c2 (by omega)
        simp only [if_pos (show (i : Int) > 0 by omega), ep, if_pos (show 0 ≤ ((i - 1 : Nat) : Int) by omega), if_pos (show ((i - 1 : Nat) : Int) < (R.length : Int) by omega), rdBid R (i - 1) (by omega), if_neg (hsort c2)]
        exact ih'
      · simp only [if_neg (show ¬ (i : Int) > 0 by omega)]
        exact ih'
    · rw [if_neg c] at hm
      simp only [if_neg c]
      have ih' := ih m (by omega) (by omega) (by omega)
      by_cases c2 : i > 0
      · have ep := w_pred c2 (by omega)
        simp only [if_pos (show (i : Int) > 0 by omega), ep, if_pos (show 0 ≤ ((i - 1 : Nat) : Int) by omega), if_pos (show ((i - 1 : Nat) : Int) < (R.length : Int) by omega), rdBid R (i - 1) (by omega), if_neg (hsort c2)]
        exact ih'
      · simp only [if_neg (show ¬ (i : Int) > 0 by omega)]
        exact ih'
theorem AuctionBest : ∀ (a0 : Int) (l1 : List (S33)) (a2 : Int), (Lit.int .i64 a0).wf = true → (l1.length ≤ maxLen ∧ l1.length * 40 ≤ 140737488351232 ∧ ∀ x ∈ l1, ok33 x) → (Lit.int .i64 a2).wf = true → ∃ k, X.contangolaw45_AuctionBest.f k a0 l1 a2 = some true := by
  intro qty l cap _ hl _
  apply Ev.rounds
  unfold contangolaw45_AuctionBest.f
  by_cases c : (l.length : Int) > 300
  · simp only [if_pos c]; exact Ev_id goes45
  · simp only [if_neg c]
    have hal := award_len qty l cap
    refine Ev_bind (award_f qty l cap) ?_
    refine Ev_bind (rank_f l) ?_
    have hbad : (award qty l cap).2.2 ≠ 0 → ∀ R, Ev (fun k => contangolaw45_AuctionBest.j0 k qty cap (award qty l cap).1 (award qty l cap).2.1 R true) true := by
      intro he R
      obtain ⟨e1, e2⟩ := hal.2 he
      refine Ev_succ ?_
      simp only [contangolaw45_AuctionBest.j0, e1, e2, if_true, List.length_nil, if_pos (show ((0 : Nat) : Int) = 0 from rfl)]
      exact Ev_id goes45
    by_cases hc : bidCheck l = 0
    · obtain ⟨g1, g2, g3, g4⟩ := rank_good hc
      have er : rank l = (rankP l, 0) := by unfold rank; rw [if_pos hc]
      rw [er]
      simp only [bne_self_eq_false]
      by_cases he : (award qty l cap).2.2 = 0
      · simp only [if_pos he]
        have hq : ¬ (qty < 0 ∨ qty > 1048576) := fun h => by
          unfold award at he; rw [if_pos hc, if_pos h] at he; exact absurd he (by decide)
        have hp : priceB cap = true := by
          by_cases h : priceB cap = true
          · exact h
          · unfold award at he; rw [if_pos hc, if_neg hq, if_neg h] at he; exact absurd he (by decide)
        have ea : award qty l cap = ((awardGo cap qty (rankP l)).1, (awardGo cap qty (rankP l)).2, 0) := by unfold award; rw [if_pos hc, if_neg hq, if_pos hp]
        rw [ea]
        dsimp only
        have hqr : 0 ≤ qty ∧ qty ≤ 1048576 := by omega
        have hb1 : ∀ b ∈ rankP l, 1 ≤ b.f1 ∧ b.f1 ≤ 1048576 := fun b hb => ⟨(g3 b hb).1, (g3 b hb).2.1⟩
        obtain ⟨hf1, hf2⟩ := awardGo_facts cap (rankP l) qty hqr.1 fun b hb => (hb1 b hb).1
        have hpw : (rankP l).Pairwise (fun a b => a.f2 ≤ b.f2) := List.pairwise_iff_getElem.2 fun i j hi hj hij => g4 i j hj hij
        have hleft := awardGo_left cap (rankP l) qty hqr.1 hb1 hpw
        have hsum := awardGo_sum cap (rankP l) qty
        have hM := mayS_rng cap (rankP l) hb1
        refine Ev_succ ?_
        simp only [contangolaw45_AuctionBest.j0, Bool.false_eq_true, if_false]
        refine bestL0 qty cap _ (mayS cap (rankP l)) _ (rankP l) (by omega) hb1 g4 ?_ (rankP l).length 0 0 (by omega) (by rw [List.drop_zero]; omega) (by omega) (by omega)
        refine bestL1 qty cap _ (mayS cap (rankP l)) _ (rankP l) hqr (by omega) hf1 hf2 ⟨hM.1, by omega⟩ hleft _ 0 _ (by rw [Nat.zero_add]) (by rw [List.drop_zero]; omega) ?_
        rw [hleft]; unfold mx; split <;> omega
      · simp only [if_neg he]
        exact hbad he _
    · have he : (award qty l cap).2.2 ≠ 0 := by unfold award; rw [if_neg hc]; exact hc
      simp only [if_neg he]
      exact hbad he _
end Go.Proofs.Ytokijibpdnepiaa.Pure
end
