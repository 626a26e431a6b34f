/- For TradeCounts: contracts, and facts on lists and numbers, that it uses (part 6). -/
import Derived.Test.YthpmmofleddpnaaDoorTradeCountsc5
section
namespace Go.Proofs.YthpmmofleddpnaaDoor.Pure
set_option linter.unusedVariables false
set_option linter.unusedSimpArgs false
open Go.RowKit Go.Proofs.YthpmmofleddpnaaDoorW.PrintWords Go.Proofs.YthpmmofleddpnaaDoorW.PrintMore Go.Proofs.YthpmmofleddpnaaDoor.X Go.Proofs.YthpmmofleddpnaaDoor.P
def hasA (m n : ByteArray) (t : Trd) : Bool := (t.f6.f0.toList == m.toList && t.f6.f1.toList == n.toList) || (t.f7.f0.toList == m.toList && t.f7.f1.toList == n.toList)
def ofA (m n : ByteArray) (l : List Trd) : List Trd := l.filter (hasA m n)
theorem tof_loop (l : List Trd) (m n : ByteArray) (hl : l.length ≤ 977343669120) : ∀ (d i : Nat) (o : List Trd), i + d = l.length → o.length ≤ i → Ev (fun k => trade_Of.l0 k o l l.length (i : Int) m n) (o ++ ofA m n (l.drop i))
  | 0, i, o, hd, ho => by
    refine Ev_succ ?_
    simp only [trade_Of.l0, if_neg (show ¬ (i : Int) < (l.length : Int) by omega)]
    rw [List.drop_of_length_le (by omega), show ofA m n [] = [] from rfl, List.append_nil]
    exact Ev.now _
  | d + 1, i, o, hd, ho => by
    have hi : i < l.length := by omega
    refine Ev_succ ?_
    rw [drop_cons l i hi]
    simp only [trade_Of.l0, if_pos (show (i : Int) < (l.length : Int) by omega), if_pos (show 0 ≤ (i : Int) by omega), rdT l i hi, w_succ hi (by omega), if_pos (show o.length < 977343669134 by omega)]
    have yes : hasA m n l[i] = true → Ev (fun k => trade_Of.l0 k (o ++ [l[i]]) l l.length ((i + 1 : Nat) : Int) m n) (o ++ ofA m n (l[i] :: l.drop (i + 1))) := fun h => by
      have ih := tof_loop l m n hl d (i + 1) (o ++ [l[i]]) (by omega) (by simp; omega)
      rw [show ofA m n (l[i] :: l.drop (i + 1)) = l[i] :: ofA m n (l.drop (i + 1)) from List.filter_cons_of_pos h]
      rw [List.append_assoc, List.singleton_append] at ih
      exact ih
    by_cases c1 : (l[i].f6.f0.toList == m.toList && l[i].f6.f1.toList == n.toList) = true
    · simp only [if_pos c1]
      exact yes (by unfold hasA; rw [c1]; rfl)
    · simp only [if_neg c1]
      by_cases c2 : (l[i].f7.f0.toList == m.toList && l[i].f7.f1.toList == n.toList) = true
      · simp only [if_pos c2]
        exact yes (by unfold hasA; rw [c2, Bool.or_true])
      · simp only [if_neg c2]
        have hn : ¬ hasA m n l[i] = true := by unfold hasA; rw [Bool.or_eq_true]; exact fun h => h.elim c1 c2
        rw [show ofA m n (l[i] :: l.drop (i + 1)) = ofA m n (l.drop (i + 1)) from List.filter_cons_of_neg hn]
        exact tof_loop l m n hl d (i + 1) o (by omega) (by omega)
theorem rtof_loop (l : List Trd) (m n : ByteArray) (hl : l.length ≤ 977343669120) : ∀ (d i : Nat) (o : List Trd), i + d = l.length → o.length ≤ i → Ev (fun k => contangoref12_Of.l0 k l o (i : Int) m n) (o ++ ofA m n (l.drop i))
  | 0, i, o, hd, ho => by
    refine Ev_succ ?_
    simp only [contangoref12_Of.l0, if_neg (show ¬ (i : Int) < (l.length : Int) by omega)]
    rw [List.drop_of_length_le (by omega), show ofA m n [] = [] from rfl, List.append_nil]
    exact Ev.now _
  | d + 1, i, o, hd, ho => by
    have hi : i < l.length := by omega
    refine Ev_succ ?_
    rw [drop_cons l i hi]
    simp only [contangoref12_Of.l0, if_pos (show (i : Int) < (l.length : Int) by omega), if_pos (show 0 ≤ (i : Int) by omega), rdT l i hi, w_succ hi (by omega), if_pos (show o.length < 977343669134 by omega)]
    have yes : hasA m n l[i] = true → Ev (fun k => contangoref12_Of.l0 k l (o ++ [l[i]]) ((i + 1 : Nat) : Int) m n) (o ++ ofA m n (l[i] :: l.drop (i + 1))) := fun h => by
      have ih := rtof_loop l m n hl d (i + 1) (o ++ [l[i]]) (by omega) (by simp; omega)
      rw [show ofA m n (l[i] :: l.drop (i + 1)) = l[i] :: ofA m n (l.drop (i + 1)) from List.filter_cons_of_pos h]
      rw [List.append_assoc, List.singleton_append] at ih
      exact ih
    by_cases c1 : (l[i].f6.f0.toList == m.toList && l[i].f6.f1.toList == n.toList) = true
    · simp only [if_pos c1]
      exact yes (by unfold hasA; rw [c1]; rfl)
    · simp only [if_neg c1]
      by_cases c2 : (l[i].f7.f0.toList == m.toList && l[i].f7.f1.toList == n.toList) = true
      · simp only [if_pos c2]
        exact yes (by unfold hasA; rw [c2, Bool.or_true])
      · simp only [if_neg c2]
        have hn : ¬ hasA m n l[i] = true := by unfold hasA; rw [Bool.or_eq_true]; exact fun h => h.elim c1 c2
        rw [show ofA m n (l[i] :: l.drop (i + 1)) = ofA m n (l.drop (i + 1)) from List.filter_cons_of_neg hn]
        exact rtof_loop l m n hl d (i + 1) o (by omega) (by omega)
def isS (s : S23) (t : Trd) : Bool := t.f3.f0.toList == s.f0.toList && (t.f3.f1 == s.f1 && (t.f3.f2 == s.f2 && t.f3.f3 == s.f3))
def volA (s : S23) : Int → List Trd → Int
  | n, [] => n
  | n, t :: r => if isS s t = true ∧ t.f4 ≥ 1 ∧ t.f4 ≤ 1048576 then volA s (wrap64 (n + t.f4)) r else volA s n r
theorem vol_loop (l : List Trd) (s : S23) (hl : l.length ≤ 977343669120) : ∀ (d i : Nat) (n : Int), i + d = l.length → Ev (fun k => trade_Volume.l0 k n l l.length (i : Int) s.f0 s.f1 s.f2 s.f3) (volA s n (l.drop i))
  | 0, i, n, hd => by
    refine Ev_succ ?_
    simp only [trade_Volume.l0, if_neg (show ¬ (i : Int) < (l.length : Int) by omega)]
    rw [List.drop_of_length_le (by omega)]
    exact Ev.now _
  | d + 1, i, n, hd => by
    have hi : i < l.length := by omega
    refine Ev_succ ?_
    rw [drop_cons l i hi, volA]
    simp only [trade_Volume.l0, if_pos (show (i : Int) < (l.length : Int) by omega), if_pos (show 0 ≤ (i : Int) by omega), rdT l i hi, w_succ hi (by omega)]
    have e : (l[i].f3.f0.toList == s.f0.toList && (l[i].f3.f1 == s.f1 && (l[i].f3.f2 == s.f2 && l[i].f3.f3 == s.f3))) = isS s l[i] := rfl
    rw [e]
    have ih := fun n => vol_loop l s hl d (i + 1) n (by omega)
    by_cases c1 : isS s l[i] = true
    case neg => simp only [if_neg c1, if_neg (fun h : isS s l[i] = true ∧ l[i].f4 ≥ 1 ∧ l[i].f4 ≤ 1048576 => c1 h.1)]; exact ih n
    by_cases c2 : l[i].f4 ≥ 1
    case neg => simp only [if_pos c1, if_neg c2, if_neg (fun h : isS s l[i] = true ∧ l[i].f4 ≥ 1 ∧ l[i].f4 ≤ 1048576 => c2 h.2.1)]; exact ih n
    by_cases c3 : l[i].f4 ≤ 1048576
    case neg => simp only [if_pos c1, if_pos c2, if_neg c3, if_neg (fun h : isS s l[i] = true ∧ l[i].f4 ≥ 1 ∧ l[i].f4 ≤ 1048576 => c3 h.2.2)]; exact ih n
    have c4 : isS s l[i] = true ∧ l[i].f4 ≥ 1 ∧ l[i].f4 ≤ 1048576 := ⟨c1, c2, c3⟩
    simp only [if_pos c1, if_pos c2, if_pos c3, if_pos c4]
    exact ih _
set_option maxRecDepth 20000 in
theorem rvol_loop (l : List Trd) (s : S23) (hl : l.length ≤ 977343669120) : ∀ (d i : Nat) (n : Int), i + d = min l.length 1024 → Ev (fun k => contangoref12_Volume.l0 k l n (i : Int) s.f0 s.f1 s.f2 s.f3) (volA s n ((l.take 1024).drop i))
  | 0, i, n, hd => by
    refine Ev_succ (Ev_succ ?_)
    have hf : (l.take 1024).drop i = [] := List.drop_of_length_le (by rw [List.length_take]; omega)
    rw [hf]
    by_cases c : (i : Int) < (l.length : Int)
    · simp only [contangoref12_Volume.l0, contangoref12_Volume.j1, if_pos c, decide_eq_false (show ¬ (i : Int) < 1024 by omega), Bool.false_eq_true, if_false]
      exact Ev.now _
    · simp only [contangoref12_Volume.l0, contangoref12_Volume.j1, if_neg c, Bool.false_eq_true, if_false]
      exact Ev.now _
  | d + 1, i, n, hd => by
    have hi : i < l.length := by omega
    have hi2 : i < (l.take 1024).length := by rw [List.length_take]; omega
    have hg : (l.take 1024)[i] = l[i] := List.getElem_take
    refine Ev_succ (Ev_succ ?_)
    rw [drop_cons _ i hi2, hg, volA]
    simp only [contangoref12_Volume.l0, contangoref12_Volume.j1, if_pos (show (i : Int) < (l.length : Int) by omega), decide_eq_true (show (i : Int) < 1024 by omega), if_true, if_pos (show 0 ≤ (i : Int) by omega), rdT l i hi, w_succ hi (by omega)]
    have e : (l[i].f3.f0.toList == s.f0.toList && (l[i].f3.f1 == s.f1 && (l[i].f3.f2 == s.f2 && l[i].f3.f3 == s.f3))) = isS s l[i] := rfl
    rw [e]
    have ih := fun n => rvol_loop l s hl d (i + 1) n (by omega)
    by_cases c1 : isS s l[i] = true
    case neg => simp only [if_neg c1, if_neg (fun h : isS s l[i] = true ∧ l[i].f4 ≥ 1 ∧ l[i].f4 ≤ 1048576 => c1 h.1)]; exact ih n
    by_cases c2 : l[i].f4 ≥ 1
    case neg => simp only [if_pos c1, if_neg c2, if_neg (fun h : isS s l[i] = true ∧ l[i].f4 ≥ 1 ∧ l[i].f4 ≤ 1048576 => c2 h.2.1)]; exact ih n
    by_cases c3 : l[i].f4 ≤ 1048576
    case neg => simp only [if_pos c1, if_pos c2, if_neg c3, if_neg (fun h : isS s l[i] = true ∧ l[i].f4 ≥ 1 ∧ l[i].f4 ≤ 1048576 => c3 h.2.2)]; exact ih n
    have c4 : isS s l[i] = true ∧ l[i].f4 ≥ 1 ∧ l[i].f4 ≤ 1048576 := ⟨c1, c2, c3⟩
    simp only [if_pos c1, if_pos c2, if_pos c3, if_pos c4]
    exact ih _
theorem TradeCounts : ∀ (l0 : List (S27)) (x1 : S25) (x2 : S23), (l0.length ≤ maxLen ∧ l0.length * 144 ≤ 140737488351232 ∧ ∀ x ∈ l0, ok27 x) → ok25 x1 → ok23 x2 → ∃ k, X.contangolaw12_TradeCounts.f k l0 x1.f0 x1.f1 x2.f0 x2.f1 x2.f2 x2.f3 = some true := by
  intro l a s h0 h1 h2
  have hl : l.length ≤ 977343669120 := by have := h0.2.1; omega
  have hol : (ofA a.f0 a.f1 l).length ≤ l.length := List.length_filter_le _ _
  refine Ev.rounds ?_
  unfold contangolaw12_TradeCounts.f
  have h3 := tof_loop l a.f0 a.f1 hl l.length 0 [] (by omega) (by simp)
  rw [List.drop_zero, List.nil_append] at h3
  refine Ev_bind (g := fun k => trade_Of.f k l a.f0 a.f1) h3 ?_
  have h4 := rtof_loop l a.f0 a.f1 hl l.length 0 [] (by omega) (by simp)
  rw [List.drop_zero, List.nil_append] at h4
  refine Ev_bind (g := fun k => contangoref12_Of.f k l a.f0 a.f1) h4 ?_
  refine Ev_bind (sameT_f (ofA a.f0 a.f1 l) (by omega)) ?_
  simp only [if_true]
  have hm : mn (l.length : Int) 1024 = ((min l.length 1024 : Nat) : Int) := by unfold mn; split <;> omega
  have ht : l.take (min l.length 1024) = l.take 1024 := by
    by_cases c : l.length ≤ 1024
    · rw [Nat.min_eq_left c, List.take_length, List.take_of_length_le c]
    · rw [Nat.min_eq_right (by omega)]
  have h5 : Ev (fun k => trade_Volume.f k l s.f0 s.f1 s.f2 s.f3) (volA s 0 (l.take 1024)) := by
    unfold trade_Volume.f
    simp only [hm, if_pos (show (0 : Int) ≤ ((min l.length 1024 : Nat) : Int) by omega), if_pos (show ((min l.length 1024 : Nat) : Int) ≤ (l.length : Int) by omega), Option.bind_some, Int.toNat_natCast, ht]
    have := vol_loop (l.take 1024) s (by rw [List.length_take]; omega) (l.take 1024).length 0 0 (by omega)
    rw [List.drop_zero] at this
    exact this
  refine Ev_bind h5 ?_
  have h6 := rvol_loop l s hl (min l.length 1024) 0 0 (by omega)
  rw [List.drop_zero] at h6
  refine Ev_bind (g := fun k => contangoref12_Volume.f k l s.f0 s.f1 s.f2 s.f3) h6 ?_
  simp only [if_true]
  exact Ev_id goes12
end Go.Proofs.YthpmmofleddpnaaDoor.Pure
end
