/- For MarkPuts: contracts, and facts on lists and numbers, that it uses (part 5). -/
import Derived.Test.YtocndpddghefhaaMarkPutsc4
section
namespace Go.Proofs.Ytocndpddghefhaa.P
set_option linter.unusedVariables false
set_option linter.unusedSimpArgs false
open Go.RowKit Go.Proofs.YtocndpddghefhaaW.PrintWords Go.Proofs.YtocndpddghefhaaW.PrintMore Go.Proofs.Ytocndpddghefhaa.X
abbrev Mark := S62
theorem rdMark (l : List Mark) (i : Nat) (h : i < l.length) : rd_T62 l (i : Int) = l[i] := by simp [rd_T62, h]
def behindS (p : Option Ser) (s : Ser) : Bool := match p with | some q => decide (cmpS q s ≥ 0) | none => false
def prOk (n : Int) : Prop := -16777216 ≤ n ∧ n ≤ 16777216
instance (n : Int) : Decidable (prOk n) := by unfold prOk; infer_instance
def mkGo : Option Ser → List Mark → Int
  | _, [] => 0
  | p, m :: t => if behindS p m.f0 = true then 19 else if prOk m.f1 then mkGo (some m.f0) t else 17
def mkCheck (l : List Mark) : Int := if l.length > 128 then 8 else mkGo none l
def prevS (l : List Mark) (i : Nat) : Option Ser := if i = 0 then none else (l[i - 1]?).map (·.f0)
theorem prevS_succ (l : List Mark) (i : Nat) (h : i < l.length) : prevS l (i + 1) = some l[i].f0 := by
  unfold prevS
  rw [if_neg (by omega), Nat.add_sub_cancel, List.getElem?_eq_getElem h]
  rfl
theorem mkLoop (l : List Mark) (hl : l.length ≤ 1024) : ∀ (d i : Nat), i + d = l.length → Ev (fun k => mark_CheckAll.l0 k l l l.length i) (mkGo (prevS l i) (l.drop i))
  | 0, i, hd => by
    rw [List.drop_of_length_le (by omega)]
    refine Ev_succ ?_
    simp only [mark_CheckAll.l0, if_neg (show ¬ ((i : Int) < (l.length : Int)) by omega), mkGo]
    exact Ev.now _
  | d + 1, i, hd => by
    have hi : i < l.length := by omega
    have ih := mkLoop l hl d (i + 1) (by omega)
    rw [prevS_succ l i hi] at ih
    rw [drop_cons l i hi, mkGo]
    have hj : ∀ b, b = behindS (prevS l i) l[i].f0 → Ev (fun k => mark_CheckAll.j1 k l l l.length i b l[i].f0.f0 l[i].f0.f1 l[i].f0.f2 l[i].f0.f3 l[i].f1) (if behindS (prevS l i) l[i].f0 = true then 19 else if prOk l[i].f1 then mkGo (some l[i].f0) (l.drop (i + 1)) else 17) := by
      intro b hb
      rw [← hb]
      refine Ev_succ ?_
      cases b with
      | true => simp only [mark_CheckAll.j1, if_true]; exact Ev.now _
      | false =>
        simp only [mark_CheckAll.j1, Bool.false_eq_true, if_false, mprice_f, Option.bind_some, and_iff, w_succ hi (show l.length ≤ 9223372036854775807 by omega)]
        refine Ev_if (fun c => ?_) (fun c => ?_)
        · rw [if_pos (show prOk l[i].f1 from c)]; exact ih
        · rw [if_neg (show ¬ prOk l[i].f1 from c)]; exact Ev.now _
    refine Ev_succ ?_
    simp only [mark_CheckAll.l0, if_pos (show (i : Int) < (l.length : Int) by omega), if_pos (show 0 ≤ (i : Int) by omega), rdMark l i hi]
    by_cases c : 0 < i
    · simp only [if_pos (show (i : Int) > 0 by omega), w_pred c (show i ≤ 9223372036854775807 by omega), if_pos (show 0 ≤ ((i - 1 : Nat) : Int) by omega), if_pos (show ((i - 1 : Nat) : Int) < (l.length : Int) by omega), rdMark l (i - 1) (by omega), cmpS_f, Option.bind_some]
      refine hj _ ?_
      unfold behindS prevS
      rw [if_neg (by omega), List.getElem?_eq_getElem (show i - 1 < l.length by omega)]
      rfl
    · simp only [if_neg (show ¬ (i : Int) > 0 by omega)]
      refine hj false ?_
      unfold behindS prevS
      rw [if_pos (by omega)]
theorem mkCheck_f (l : List Mark) : Ev (fun k => mark_CheckAll.f k l) (mkCheck l) := by
  unfold mark_CheckAll.f mkCheck
  by_cases c : l.length > 128
  · rw [if_pos c]; simp only [if_pos (show (l.length : Int) > 128 by omega)]; exact Ev.now _
  · rw [if_neg c]; simp only [if_neg (show ¬ (l.length : Int) > 128 by omega)]
    exact mkLoop l (by omega) l.length 0 (by omega)
def LtM (a b : Mark) : Prop := cmpS a.f0 b.f0 < 0
theorem mkGo_zero : ∀ (l : List Mark) (p : Option Ser), mkGo p l = 0 ↔ l.Pairwise LtM ∧ (∀ q, p = some q → ∀ m ∈ l, cmpS q m.f0 < 0) ∧ ∀ m ∈ l, prOk m.f1
  | [], p => by simp [mkGo]
  | m :: t, p => by
    rw [mkGo]
    constructor
    · intro h
      by_cases c : behindS p m.f0 = true
      · rw [if_pos c] at h; omega
      rw [if_neg c] at h
      by_cases c2 : prOk m.f1
      · rw [if_pos c2] at h
        obtain ⟨h1, h2, h3⟩ := (mkGo_zero t _).1 h
        have hm : ∀ q, p = some q → cmpS q m.f0 < 0 := by
          rintro q rfl
          have : ¬ cmpS q m.f0 ≥ 0 := fun hx => c (by unfold behindS; exact decide_eq_true hx)
          omega
        refine ⟨List.pairwise_cons.2 ⟨fun x hx => h2 m.f0 rfl x hx, h1⟩, fun q hq x hx => ?_, fun x hx => ?_⟩
        · rcases List.mem_cons.1 hx with e | e
          · rw [e]; exact hm q hq
          · exact cmpS_trans (hm q hq) (h2 m.f0 rfl x e)
        · rcases List.mem_cons.1 hx with e | e
          · rw [e]; exact c2
          · exact h3 x e
      · rw [if_neg c2] at h; omega
    · rintro ⟨h1, h2, h3⟩
      obtain ⟨h4, h5⟩ := List.pairwise_cons.1 h1
      have c : ¬ behindS p m.f0 = true := by
        cases p with
        | none => unfold behindS; exact Bool.false_ne_true
        | some q =>
          have := h2 q rfl m (by simp)
          show ¬ (decide (cmpS q m.f0 ≥ 0) = true)
          rw [decide_eq_false (show ¬ cmpS q m.f0 ≥ 0 by omega)]; decide
      rw [if_neg c, if_pos (h3 m (by simp))]
      exact (mkGo_zero t _).2 ⟨h5, fun q hq x hx => by obtain rfl := Option.some.inj hq; exact h4 x hx, fun x hx => h3 x (by simp [hx])⟩
theorem mkCheck_zero (l : List Mark) : mkCheck l = 0 ↔ l.length ≤ 128 ∧ l.Pairwise LtM ∧ ∀ m ∈ l, prOk m.f1 := by
  unfold mkCheck
  by_cases c : l.length > 128
  · rw [if_pos c]; exact ⟨fun h => by omega, fun h => by omega⟩
  · rw [if_neg c, mkGo_zero]
    exact ⟨fun h => ⟨by omega, h.1, h.2.2⟩, fun h => ⟨h.2.1, fun q hq => (by cases hq), h.2.2⟩⟩
def fndR (s : Ser) : List Mark → Int × Bool
  | [] => (0, false)
  | m :: r => if eqS m.f0 s = true then (m.f1, true) else fndR s r
theorem fnd_fndR (s : Ser) : ∀ (l : List Mark) (i : Nat), (fnd s l i = -1 ∧ fndR s l = (0, false)) ∨ ∃ (j : Nat) (h : j < l.length), fnd s l i = ((i + j : Nat) : Int) ∧ fndR s l = (l[j].f1, true)
  | [], i => Or.inl ⟨rfl, rfl⟩
  | m :: r, i => by
    rw [fnd, fndR]
    have es : serB m.f0 s = eqS m.f0 s := rfl
    rw [es]
    by_cases c : eqS m.f0 s = true
    · rw [if_pos c, if_pos c]; exact Or.inr ⟨0, by simp, rfl, rfl⟩
    · rw [if_neg c, if_neg c]
      have e : ((i : Int) + 1) = ((i + 1 : Nat) : Int) := by omega
      rw [e]
      rcases fnd_fndR s r (i + 1) with h | ⟨j, h1, h2, h3⟩
      · exact Or.inl h
      · exact Or.inr ⟨j + 1, by simp; omega, by rw [h2]; omega, by rw [h3]; rfl⟩
theorem find_f (l : List Mark) (s : Ser) : mark_Find.f l s.f0 s.f1 s.f2 s.f3 = some (fndR s l) := by
  unfold mark_Find.f
  have := fnd_fndR s l 0
  rw [show ((0 : Nat) : Int) = 0 from rfl] at this
  show (if fnd s l 0 < 0 then some (0, false) else some ((rd_T62 l (fnd s l 0)).f1, true)) = _
  rcases this with ⟨h1, h2⟩ | ⟨j, hj, h1, h2⟩
  · rw [h1, h2, if_pos (by decide)]
  · rw [h1, h2, Nat.zero_add, if_neg (by omega), rdMark l j hj]
theorem cmpM_eq (a b : Ser) : cmpM a b = cmpS a b := by unfold cmpM; rw [cmpS_f]; rfl
theorem lt_at {l : List Mark} (h : l.Pairwise LtM) {i j : Nat} (hi : i < j) (hj : j < l.length) : cmpS (l[i]'(by omega)).f0 l[j].f0 < 0 := (List.pairwise_iff_getElem.1 h) i j (by omega) hj hi
theorem bsM_spec (l : List Mark) (s : Ser) (hs : l.Pairwise LtM) : ∀ (k lo hi : Nat), lo ≤ hi → hi ≤ l.length → hi - lo ≤ k →
    (∀ i (h : i < l.length), i < lo → cmpS l[i].f0 s < 0) → (∀ i (h : i < l.length), hi ≤ i → ¬ cmpS l[i].f0 s < 0) →
    (∀ i (h : i < l.length), i < bsM l s k lo hi → cmpS l[i].f0 s < 0) ∧ (∀ i (h : i < l.length), bsM l s k lo hi ≤ i → ¬ cmpS l[i].f0 s < 0)
  | 0, lo, hi, h1, h2, h3, h4, h5 => by
    have : lo = hi := by omega
    subst this
    exact ⟨h4, h5⟩
  | k + 1, lo, hi, h1, h2, h3, h4, h5 => by
    unfold bsM
    by_cases c : lo < hi
    · rw [if_pos c]
      obtain ⟨mid, hm⟩ : ∃ mid, (lo + hi) / 2 = mid := ⟨_, rfl⟩
      rw [hm, rdMark l mid (by omega), cmpM_eq]
      by_cases c2 : cmpS (l[mid]'(by omega)).f0 s < 0
      · rw [if_pos c2]
        refine bsM_spec l s hs k (mid + 1) hi (by omega) h2 (by omega) (fun i h hi => ?_) h5
        by_cases e : i = mid
        · subst e; exact c2
        · exact cmpS_trans (lt_at hs (show i < mid by omega) (by omega)) c2
      · rw [if_neg c2]
        refine bsM_spec l s hs k lo mid (by omega) (by omega) (by omega) h4 (fun i h hi hlt => ?_)
        by_cases e : i = mid
        · subst e; exact c2 hlt
        · exact c2 (cmpS_trans (lt_at hs (show mid < i by omega) h) hlt)
    · rw [if_neg c]
      have : lo = hi := by omega
      subst this
      exact ⟨h4, h5⟩
theorem markAt_le (l : List Mark) (s : Ser) : markAt l s ≤ l.length := (bsM_le l s l.length 0 l.length (Nat.zero_le _)).2
theorem markAt_spec (l : List Mark) (s : Ser) (hs : l.Pairwise LtM) : (∀ i (h : i < l.length), i < markAt l s → cmpS l[i].f0 s < 0) ∧ (∀ i (h : i < l.length), markAt l s ≤ i → ¬ cmpS l[i].f0 s < 0) :=
  bsM_spec l s hs l.length 0 l.length (Nat.zero_le _) (Nat.le_refl _) (Nat.le_refl _) (fun i h hi => by omega) (fun i h hi => by omega)
theorem markIs_iff (l : List Mark) (s : Ser) : markIs l s = true ↔ ∃ h : markAt l s < l.length, l[markAt l s].f0 = s := by
  unfold markIs
  by_cases h : markAt l s < l.length
  · rw [decide_eq_true h, Bool.true_and, rdMark l _ h, cmpM_eq, beq_iff_eq]
    exact ⟨fun e => ⟨h, cmpS_zero e⟩, fun ⟨_, e⟩ => by rw [e, cmpS_self]⟩
  · rw [decide_eq_false h, Bool.false_and]
    exact ⟨fun e => (by cases e), fun ⟨h2, _⟩ => absurd h2 h⟩
def restM (l : List Mark) (s : Ser) : List Mark := if markIs l s = true then l.drop (markAt l s + 1) else l.drop (markAt l s)
def putL (l : List Mark) (m : Mark) : List Mark := l.take (markAt l m.f0) ++ m :: restM l m.f0
def putE (l : List Mark) (m : Mark) : List Mark × Int := if mkCheck l = 0 then (if prOk m.f1 then (if (putL l m).length > 128 then ([], 8) else (putL l m, 0)) else ([], 17)) else ([], mkCheck l)
theorem putL_len (l : List Mark) (m : Mark) : (putL l m).length = if markIs l m.f0 = true then l.length else l.length + 1 := by
  have h := markAt_le l m.f0
  unfold putL restM
  rw [List.length_append, List.length_cons, List.length_take]
  by_cases c : markIs l m.f0 = true
  · obtain ⟨hlt, _⟩ := (markIs_iff l m.f0).1 c
    rw [if_pos c, if_pos c, List.length_drop]; omega
  · rw [if_neg c, if_neg c, List.length_drop]; omega
theorem putL_set (l : List Mark) (m : Mark) (c : markIs l m.f0 = true) : l.set (markAt l m.f0) m = putL l m := by
  obtain ⟨hlt, _⟩ := (markIs_iff l m.f0).1 c
  unfold putL restM
  rw [if_pos c, List.set_eq_take_append_cons_drop, if_pos hlt]
theorem rest_above {l : List Mark} (s : Ser) (hs : l.Pairwise LtM) : ∀ x ∈ restM l s, cmpS s x.f0 < 0 := by
  obtain ⟨_, h2⟩ := markAt_spec l s hs
  intro x hx
  unfold restM at hx
  by_cases c : markIs l s = true
  · rw [if_pos c] at hx
    obtain ⟨hlt, he⟩ := (markIs_iff l s).1 c
    obtain ⟨i, hi, rfl⟩ := List.getElem_of_mem hx
    rw [List.length_drop] at hi
    rw [List.getElem_drop]
    have := lt_at hs (show markAt l s < markAt l s + 1 + i by omega) (by omega)
    rw [he] at this
    exact this
  · rw [if_neg c] at hx
    obtain ⟨i, hi, rfl⟩ := List.getElem_of_mem hx
    rw [List.length_drop] at hi
    rw [List.getElem_drop]
    refine cmpS_total (h2 (markAt l s + i) (by omega) (by omega)) fun e => ?_
    by_cases e0 : i = 0
    · subst e0
      exact c ((markIs_iff l s).2 ⟨by omega, e⟩)
    · have h0 := lt_at hs (show markAt l s < markAt l s + i by omega) (by omega)
      rw [e] at h0
      exact h2 (markAt l s) (by omega) (Nat.le_refl _) h0
theorem front_below {l : List Mark} (s : Ser) (hs : l.Pairwise LtM) : ∀ x ∈ l.take (markAt l s), cmpS x.f0 s < 0 := by
  obtain ⟨h1, _⟩ := markAt_spec l s hs
  intro x hx
  obtain ⟨i, hi, rfl⟩ := List.getElem_of_mem hx
  rw [List.length_take] at hi
  rw [List.getElem_take]
  exact h1 i (by omega) (by omega)
theorem putL_sorted {l : List Mark} (m : Mark) (hs : l.Pairwise LtM) : (putL l m).Pairwise LtM := by
  have hf := front_below m.f0 hs
  have hr := rest_above m.f0 hs
  unfold putL
  refine List.pairwise_append.2 ⟨hs.sublist (List.take_sublist _ _), List.pairwise_cons.2 ⟨fun x hx => hr x hx, ?_⟩, fun x hx y hy => ?_⟩
  · unfold restM; split <;> exact hs.sublist (List.drop_sublist _ _)
  · rcases List.mem_cons.1 hy with e | e
    · rw [e]; exact hf x hx
    · exact cmpS_trans (hf x hx) (hr y e)
theorem put_f (l : List Mark) (m : Mark) : Ev (fun k => mark_Put.f k l m.f0.f0 m.f0.f1 m.f0.f2 m.f0.f3 m.f1) (putE l m) := by
  unfold mark_Put.f putE
  refine Ev_bind (mkCheck_f l) ?_
  by_cases h : mkCheck l = 0
  · obtain ⟨h1, h2, h3⟩ := (mkCheck_zero l).1 h
    have hlen := putL_len l m
    simp only [if_pos h, if_neg (show ¬ mkCheck l ≠ 0 from fun x => x h), mprice_f, Option.bind_some]
    by_cases c : prOk m.f1
    · have cb : (decide (-16777216 ≤ m.f1) && decide (m.f1 ≤ 16777216)) = true := (and_iff _ _).2 c
      simp only [cb, if_pos c, if_neg (show ¬ (true = false) by decide), if_pos (show l.length < 137438953470 by omega)]
      show Ev (fun _ => if markIs l m.f0 = true then some (l.set (markAt l m.f0) m, 0) else if 128 ≤ l.length then some ([], 8) else some (l.take (markAt l m.f0) ++ [m] ++ l.drop (markAt l m.f0), 0)) _
      by_cases c2 : markIs l m.f0 = true
      · rw [if_pos c2] at hlen
        rw [if_pos c2, if_neg (by omega), putL_set l m c2]; exact Ev.now _
      · rw [if_neg c2] at hlen
        rw [if_neg c2]
        by_cases c3 : 128 ≤ l.length
        · rw [if_pos c3, if_pos (by omega)]; exact Ev.now _
        · rw [if_neg c3, if_neg (by omega)]
          have e : l.take (markAt l m.f0) ++ [m] ++ l.drop (markAt l m.f0) = putL l m := by unfold putL restM; rw [if_neg c2, List.append_assoc]; rfl
          rw [e]; exact Ev.now _
    · have cb : (decide (-16777216 ≤ m.f1) && decide (m.f1 ≤ 16777216)) = false := by rw [← Bool.not_eq_true, and_iff]; exact c
      simp only [cb, if_neg c, if_true]; exact Ev.now _
  · simp only [if_neg h, if_pos (show mkCheck l ≠ 0 from h)]; exact Ev.now _
theorem fndR_append (s : Ser) : ∀ (a b : List Mark), (∀ x ∈ a, x.f0 ≠ s) → fndR s (a ++ b) = fndR s b
  | [], b, _ => rfl
  | x :: a, b, h => by
    rw [List.cons_append, fndR, eqS_ne (h x (by simp)), if_neg (by decide)]
    exact fndR_append s a b fun y hy => h y (by simp [hy])
theorem fndR_mid (s : Ser) : ∀ (a : List Mark) (x : Mark) (b : List Mark), x.f0 ≠ s → fndR s (a ++ x :: b) = fndR s (a ++ b)
  | [], x, b, h => by rw [List.nil_append, fndR, eqS_ne h, if_neg (by decide)]; rfl
  | y :: a, x, b, h => by
    rw [List.cons_append, List.cons_append, fndR, fndR, fndR_mid s a x b h]
theorem put_found {l : List Mark} (m : Mark) (hs : l.Pairwise LtM) : fndR m.f0 (putL l m) = (m.f1, true) := by
  unfold putL
  rw [fndR_append m.f0 _ _ fun x hx => cmpS_ne (front_below m.f0 hs x hx), fndR, eqS_refl, if_pos rfl]
theorem put_other {l : List Mark} (m : Mark) (s : Ser) (h : s ≠ m.f0) : fndR s (putL l m) = fndR s l := by
  unfold putL
  rw [fndR_mid s _ m _ (fun e => h e.symm)]
  unfold restM
  by_cases c : markIs l m.f0 = true
  · obtain ⟨hlt, he⟩ := (markIs_iff l m.f0).1 c
    rw [if_pos c]
    have : fndR s (l.take (markAt l m.f0) ++ l[markAt l m.f0] :: l.drop (markAt l m.f0 + 1)) = fndR s (l.take (markAt l m.f0) ++ l.drop (markAt l m.f0 + 1)) := fndR_mid s _ _ _ (by rw [he]; exact fun e => h e.symm)
    rw [← this, ← drop_cons l _ hlt, List.take_append_drop]
  · rw [if_neg c, List.take_append_drop]
theorem put_check {l : List Mark} (m : Mark) (h : mkCheck l = 0) (hp : prOk m.f1) (hlen : ¬ (putL l m).length > 128) : mkCheck (putL l m) = 0 := by
  obtain ⟨h1, h2, h3⟩ := (mkCheck_zero l).1 h
  refine (mkCheck_zero _).2 ⟨by omega, putL_sorted m h2, fun x hx => ?_⟩
  unfold putL at hx
  rcases List.mem_append.1 hx with e | e
  · exact h3 x (List.mem_of_mem_take e)
  · rcases List.mem_cons.1 e with e | e
    · rw [e]; exact hp
    · unfold restM at e
      split at e <;> exact h3 x (List.mem_of_mem_drop e)
end Go.Proofs.Ytocndpddghefhaa.P
end
section
namespace Go.Proofs.Ytocndpddghefhaa.P
open Go.RowKit Go.Proofs.YtocndpddghefhaaW.PrintWords Go.Proofs.YtocndpddghefhaaW.PrintMore Go.Proofs.Ytocndpddghefhaa.X
set_option maxRecDepth 100000 in
theorem goes18 : Ev (fun k => contangolaw18_goes.f k) true := Ev.of (k := 70) (contangolaw18_goes.mono) (by decide +kernel)
end Go.Proofs.Ytocndpddghefhaa.P
end
section
namespace Go.Proofs.Ytocndpddghefhaa.Pure
set_option linter.unusedVariables false
set_option linter.unusedSimpArgs false
open Go.RowKit Go.Proofs.YtocndpddghefhaaW.PrintWords Go.Proofs.YtocndpddghefhaaW.PrintMore Go.Proofs.Ytocndpddghefhaa.X Go.Proofs.Ytocndpddghefhaa.P
theorem bad {l : List S62} {m : S62} {s : S60} {c : Int} (e : putE l m = ([], c)) (hc : ¬ c = 0) : Ev (fun k => contangolaw18_MarkPuts.f k l m.f0.f0 m.f0.f1 m.f0.f2 m.f0.f3 m.f1 s.f0 s.f1 s.f2 s.f3) true := by
  unfold contangolaw18_MarkPuts.f
  have h := put_f l m
  rw [e] at h
  refine Ev_bind h ?_
  simp only [if_neg hc, List.length_nil, Int.ofNat_zero, Int.natCast_zero, if_true]
  exact Ev_id goes18
theorem MarkPuts : ∀ (l0 : List (S62)) (x1 : S62) (x2 : S60), (l0.length ≤ maxLen ∧ l0.length * 48 ≤ 140737488351232 ∧ ∀ x ∈ l0, ok62 x) → ok62 x1 → ok60 x2 → ∃ k, X.contangolaw18_MarkPuts.f k l0 x1.f0.f0 x1.f0.f1 x1.f0.f2 x1.f0.f3 x1.f1 x2.f0 x2.f1 x2.f2 x2.f3 = some true := by
  intro l m s hl _ _
  apply Ev.rounds
  by_cases h : mkCheck l = 0
  case neg => exact bad (show putE l m = ([], mkCheck l) by unfold putE; rw [if_neg h]) h
  by_cases hp : prOk m.f1
  case neg => exact bad (show putE l m = ([], 17) by unfold putE; rw [if_pos h, if_neg hp]) (by decide)
  by_cases h8 : (putL l m).length > 128
  case pos => exact bad (show putE l m = ([], 8) by unfold putE; rw [if_pos h, if_pos hp, if_pos h8]) (by decide)
  have e : putE l m = (putL l m, 0) := by unfold putE; rw [if_pos h, if_pos hp, if_neg h8]
  obtain ⟨_, hs, _⟩ := (mkCheck_zero l).1 h
  have hc := put_check m h hp h8
  have he := put_f l m
  rw [e] at he
  unfold contangolaw18_MarkPuts.f
  refine Ev_bind he ?_
  simp only [if_true, find_f (putL l m) m.f0, find_f l s, find_f (putL l m) s, Option.bind_some, put_found m hs]
  refine Ev_if (fun c => ?_) (fun c => ?_)
  · refine Ev_bind (mkCheck_f _) ?_
    simp only [if_pos hc]
    exact Ev_id goes18
  · have hne : s ≠ m.f0 := fun x => c (show eqS s m.f0 = true from (eqS_iff _ _).2 x)
    simp only [put_other m s hne, if_true, beq_self_eq_true]
    refine Ev_bind (mkCheck_f _) ?_
    simp only [if_pos hc]
    exact Ev_id goes18
end Go.Proofs.Ytocndpddghefhaa.Pure
end
