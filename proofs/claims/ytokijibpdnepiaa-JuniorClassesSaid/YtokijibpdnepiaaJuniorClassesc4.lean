/- For JuniorClasses: contracts, and facts on lists and numbers, that it uses (part 4). -/
import Derived.Deep.RegionLaw
import Derived.Laws.CopyOwn
import Derived.Laws.CopyRow
import Derived.Lib.AppendZerosOnto
import Derived.Lib.Overlaps
import Derived.Lib.Walk
import Derived.Test.YtokijibpdnepiaaJuniorClassesc3
section
namespace Go.Proofs.Ytokijibpdnepiaa.P
set_option linter.unusedVariables false
set_option linter.unusedSimpArgs false
open Go.RowKit Go.Proofs.YtokijibpdnepiaaW.PrintWords Go.Proofs.YtokijibpdnepiaaW.PrintMore Go.Proofs.Ytokijibpdnepiaa.X
theorem nameB_size {s : ByteArray} (h : nameB s = true) : s.size ≤ 12 := by
  simp only [nameB, Bool.and_eq_true, decide_eq_true_eq] at h
  exact h.1.2
def bidSum : List Bid → ByteArray → Int
  | [], _ => 0
  | b :: t, s => (if b.f0.toList = s.toList then b.f1 else 0) + bidSum t s
theorem bidSum_rng (s : ByteArray) : ∀ (l : List Bid), (∀ b ∈ l, 1 ≤ b.f1 ∧ b.f1 ≤ 1048576) → 0 ≤ bidSum l s ∧ bidSum l s ≤ 1048576 * (l.length : Int)
  | [], _ => by simp [bidSum]
  | b :: t, h => by
    have h1 := h b (by simp)
    have h2 := bidSum_rng s t fun x hx => h x (by simp [hx])
    simp only [bidSum, List.length_cons]
    split <;> omega
theorem bidOf_fold (s : ByteArray) : ∀ (l : List Bid) (n : Int), (∀ b ∈ l, 1 ≤ b.f1 ∧ b.f1 ≤ 1048576) → 0 ≤ n → n + 1048576 * (l.length : Int) ≤ 4611686018427387904 → l.foldl (fun n b => if b.f0.toList = s.toList then wrap64 (n + b.f1) else n) n = n + bidSum l s
  | [], n, _, _, _ => by simp [bidSum]
  | b :: t, n, h, h0, h1 => by
    have hb := h b (by simp)
    simp only [List.length_cons] at h1
    have ew : wrap64 (n + b.f1) = n + b.f1 := w_id (by omega) (by omega)
    rw [List.foldl_cons]
    by_cases c : b.f0.toList = s.toList
    · rw [if_pos c, ew, bidOf_fold s t _ (fun x hx => h x (by simp [hx])) (by omega) (by omega)]
      simp only [bidSum, if_pos c]; omega
    · rw [if_neg c, bidOf_fold s t _ (fun x hx => h x (by simp [hx])) h0 (by omega)]
      simp only [bidSum, if_neg c]; omega
theorem bidOf_sum (l : List Bid) (s : ByteArray) (h : ∀ b ∈ l, 1 ≤ b.f1 ∧ b.f1 ≤ 1048576) (hl : l.length ≤ 1024) : bidOf l s = bidSum l s := by
  unfold bidOf
  rw [bidOf_fold s l 0 h (Int.le_refl _) (by omega), Int.zero_add]
def missE (l : List Bid) : List Int → List ByteArray → List Int → List Int × Int
  | acc, [], _ => (acc, 0)
  | acc, _ :: _, [] => (acc, 0)
  | acc, s :: ns, m :: ms => if nameB s = true then (if m < 0 ∨ 1048576 < m then ([], 18) else missE l (acc ++ [mx (m - bidSum l s) 0]) ns ms) else ([], 10)
def missing (names : List ByteArray) (least : List Int) (l : List Bid) : List Int × Int := if bidCheck l = 0 then (if names.length = least.length then missE l [] names least else ([], 8)) else ([], bidCheck l)
theorem bidCheck_names {l : List Bid} (h : bidCheck l = 0) : ∀ b ∈ l, nameB b.f0 = true := by
  unfold bidCheck at h
  by_cases c : l.length > 1024
  · rw [if_pos c] at h; omega
  · rw [if_neg c] at h
    intro b hb
    have := bidGo_zero l h b hb
    unfold bidErr at this
    by_cases c : nameB b.f0 = true
    · exact c
    · rw [if_neg c] at this; omega
theorem missGo_f (l : List Bid) (hl : l.length ≤ 1024) (hq : ∀ b ∈ l, 1 ≤ b.f1 ∧ b.f1 ≤ 1048576) : ∀ (ns : List ByteArray) (ms : List Int) (acc : List Int), ns.length = ms.length → acc.length + ns.length ≤ 1073741824 → Ev (fun k => missGo k l acc ns ms) (missE l acc ns ms)
  | [], ms, acc, _, _ => by simp only [missGo, missE]; exact Ev.now _
  | s :: ns, [], acc, h, _ => by simp at h
  | s :: ns, m :: ms, acc, h, ha => by
    simp only [missGo, missE]
    refine Ev_bind (name_f s) ?_
    by_cases c : nameB s = true
    · simp only [if_pos c, if_neg (show ¬ nameB s = false by rw [c]; decide)]
      by_cases c1 : m < 0
      · simp only [if_pos c1, if_pos (show m < 0 ∨ 1048576 < m from Or.inl c1)]; exact Ev.now _
      · by_cases c2 : 1048576 < m
        · simp only [if_neg c1, if_pos c2, if_pos (show m < 0 ∨ 1048576 < m from Or.inr c2)]; exact Ev.now _
        · have hs := nameB_size c
          have hr := bidSum_rng s l hq
          simp only [List.length_cons] at ha h
          have ew : wrap64 (m - bidOf l s) = m - bidSum l s := by rw [bidOf_sum l s hq hl, w_id (by omega) (by omega)]
          simp only [if_neg c1, if_neg c2, if_neg (show ¬ (m < 0 ∨ 1048576 < m) by omega), if_pos (show s.size ≤ maxLen ∧ acc.length < 17592186044416 from ⟨by unfold maxLen; omega, by omega⟩), ew]
          exact missGo_f l hl hq ns ms _ (by omega) (by simp; omega)
    · have cf : nameB s = false := by simpa using c
      simp only [cf, if_true, Bool.false_eq_true, if_false]; exact Ev.now _
theorem missing_f (names : List ByteArray) (least : List Int) (l : List Bid) (hn : names.length ≤ 1048576) : Ev (fun k => auction_Missing.f k names least l) (missing names least l) := by
  unfold auction_Missing.f missing
  refine Ev_bind (bidCheck_f l) ?_
  by_cases h : bidCheck l = 0
  · obtain ⟨h1, h2⟩ := bidCheck_zero h
    simp only [if_pos h, if_neg (show ¬ bidCheck l ≠ 0 from fun x => x h)]
    by_cases hl : names.length = least.length
    · simp only [if_pos hl, if_neg (show ¬ names.length ≠ least.length from fun x => x hl), if_pos (show l.length ≤ 1024 ∧ (∀ b ∈ l, b.f0.size ≤ maxLen) from ⟨h1, fun b hb => by have := nameB_size (bidCheck_names h b hb); unfold maxLen; omega⟩)]
      exact missGo_f l h1 (fun b hb => ⟨(h2 b hb).1, (h2 b hb).2.1⟩) names least [] hl (by simp; omega)
    · simp only [if_neg hl, if_pos (show names.length ≠ least.length from hl)]; exact Ev.now _
  · simp only [if_neg h, if_pos (show bidCheck l ≠ 0 from h)]; exact Ev.now _
theorem missRL1 (names : List ByteArray) (least : List Int) (l : List Bid) (hl : l.length ≤ 1024) (hq : ∀ b ∈ l, 1 ≤ b.f1 ∧ b.f1 ≤ 1048576) (acc : List Int) (i : Nat) (hi : i < names.length) (r : List Int × Int) : ∀ (d j : Nat) (n : Int), j + d = l.length → n ≤ 1048576 → -(1048576 * (j : Int)) ≤ n →
    Ev (fun k => if acc.length < 17592186044416 then contangoref45_Missing.l0 k names least l (acc ++ [mx (n - bidSum (l.drop j) names[i]) 0]) (wrap64 ((i : Int) + 1)) else none) r → Ev (fun k => contangoref45_Missing.l1 k names least l acc i n j) r
  | 0, j, n, hd, h1, h2, h => by
    rw [List.drop_of_length_le (by omega)] at h
    simp only [bidSum, Int.sub_zero] at h
    refine Ev_succ ?_
    simp only [contangoref45_Missing.l1, if_neg (show ¬ ((j : Int) < (l.length : Int)) by omega)]
    exact h
  | d + 1, j, n, hd, h1, h2, h => by
    have hj : j < l.length := by omega
    have hb := hq _ (List.getElem_mem hj)
    rw [drop_cons l j hj] at h
    simp only [bidSum] at h
    refine Ev_succ ?_
    simp only [contangoref45_Missing.l1, if_pos (show (j : Int) < (l.length : Int) by omega), if_pos (show 0 ≤ (j : Int) by omega), if_pos (show 0 ≤ (i : Int) by omega), if_pos (show (i : Int) < (names.length : Int) by omega), rdBid l j hj, rdOf_nat _ names i hi, w_succ hj (show l.length ≤ 9223372036854775807 by omega)]
    by_cases c : l[j].f0.toList = names[i].toList
    · rw [if_pos c] at h
      have ew : wrap64 (n - l[j].f1) = n - l[j].f1 := w_id (by omega) (by omega)
      simp only [if_pos c, ew]
      refine missRL1 names least l hl hq acc i hi r d (j + 1) _ (by omega) (by omega) (by omega) ?_
      rw [show n - l[j].f1 - bidSum (l.drop (j + 1)) names[i] = n - (l[j].f1 + bidSum (l.drop (j + 1)) names[i]) by omega]
      exact h
    · rw [if_neg c, Int.zero_add] at h
      simp only [if_neg c]
      exact missRL1 names least l hl hq acc i hi r d (j + 1) n (by omega) h1 (by omega) h
theorem missRL0 (names : List ByteArray) (least : List Int) (l : List Bid) (hl : l.length ≤ 1024) (hq : ∀ b ∈ l, 1 ≤ b.f1 ∧ b.f1 ≤ 1048576) (hz : ∀ s ∈ names, s.size ≤ 4611686018427387904) (hn : names.length = least.length) (hb : names.length ≤ 1048576) : ∀ (d i : Nat) (acc : List Int), i + d = names.length → acc.length = i →
    Ev (fun k => contangoref45_Missing.l0 k names least l acc i) (missE l acc (names.drop i) (least.drop i))
  | 0, i, acc, hd, ha => by
    rw [List.drop_of_length_le (by omega)]
    refine Ev_succ ?_
    simp only [contangoref45_Missing.l0, if_neg (show ¬ ((i : Int) < (names.length : Int)) by omega), missE]
    exact Ev.now _
  | d + 1, i, acc, hd, ha => by
    have hi : i < names.length := by omega
    have hi2 : i < least.length := by omega
    rw [drop_cons names i hi, drop_cons least i hi2]
    simp only [missE]
    refine Ev_succ ?_
    simp only [contangoref45_Missing.l0, if_pos (show (i : Int) < (names.length : Int) by omega), if_pos (show 0 ≤ (i : Int) by omega), rdOf_nat _ names i hi, if_pos (show (i : Int) < (least.length : Int) by omega), rd_nat least i hi2]
    refine Ev_bind (nameR_f names[i] (hz _ (List.getElem_mem hi))) ?_
    by_cases c : nameB names[i] = true
    · simp only [if_pos c]
      have hj1 : ∀ b, (b = true ↔ (least[i] < 0 ∨ 1048576 < least[i])) → Ev (fun k => contangoref45_Missing.j1 k names least l acc i b) (if least[i] < 0 ∨ 1048576 < least[i] then ([], 18) else missE l (acc ++ [mx (least[i] - bidSum l names[i]) 0]) (names.drop (i + 1)) (least.drop (i + 1))) := by
        intro b hbb
        refine Ev_succ ?_
        by_cases c1 : b = true
        · subst c1
          rw [if_pos (hbb.1 rfl)]
          simp only [contangoref45_Missing.j1, if_true]
          exact Ev.now _
        · have cf : b = false := by simpa using c1
          subst cf
          have hn1 : ¬ (least[i] < 0 ∨ 1048576 < least[i]) := fun h => c1 (hbb.2 h)
          rw [if_neg hn1]
          simp only [contangoref45_Missing.j1, Bool.false_eq_true, if_false, if_pos (show 0 ≤ (i : Int) by omega), if_pos (show (i : Int) < (least.length : Int) by omega), rd_nat least i hi2]
          refine missRL1 names least l hl hq acc i hi _ l.length 0 least[i] (by omega) (by omega) (by omega) ?_
          rw [List.drop_zero]
          simp only [if_pos (show acc.length < 17592186044416 by omega), w_succ hi (show names.length ≤ 9223372036854775807 by omega)]
          exact missRL0 names least l hl hq hz hn hb d (i + 1) _ (by omega) (by simp [ha])
      by_cases c1 : least[i] < 0
      · simp only [if_pos c1]
        exact hj1 true (by simp [c1])
      · simp only [if_neg c1]
        refine hj1 _ ?_
        rw [decide_eq_true_iff]
        exact ⟨Or.inr, fun h => h.resolve_left c1⟩
    · simp only [if_neg c]
      exact Ev.now _
theorem missingR_f (names : List ByteArray) (least : List Int) (l : List Bid) (hn : names.length ≤ 1048576) (hz : ∀ s ∈ names, s.size ≤ 4611686018427387904) (hzb : ∀ b ∈ l, b.f0.size ≤ 4611686018427387904) : Ev (fun k => contangoref45_Missing.f k names least l) (missing names least l) := by
  unfold contangoref45_Missing.f missing
  refine Ev_bind (bidCheckR_f l hzb) ?_
  by_cases h : bidCheck l = 0
  · obtain ⟨h1, h2⟩ := bidCheck_zero h
    simp only [if_pos h]
    by_cases hl : names.length = least.length
    · simp only [if_pos hl, if_pos (show (names.length : Int) = (least.length : Int) by omega)]
      have := missRL0 names least l h1 (fun b hb => ⟨(h2 b hb).1, (h2 b hb).2.1⟩) hz hl hn names.length 0 [] (by omega) rfl
      rw [List.drop_zero, List.drop_zero] at this
      exact this
    · simp only [if_neg hl, if_neg (show ¬ (names.length : Int) = (least.length : Int) by omega)]; exact Ev.now _
  · simp only [if_neg h]; exact Ev.now _
end Go.Proofs.Ytokijibpdnepiaa.P
end
section
namespace Go.Proofs.Ytokijibpdnepiaa.X
open Go.RowKit Go.Proofs.YtokijibpdnepiaaW.PrintWords
theorem below_drew {B : Nat} {w0 w : World} (h : Below B w0 w) : Below B w0 w.drew := ⟨h.os, h.tape, h.output, h.size, h.block⟩
end Go.Proofs.Ytokijibpdnepiaa.X
end
section
namespace Go.Proofs.Ytokijibpdnepiaa.X
open Go.RowKit Go.Proofs.YtokijibpdnepiaaW.PrintWords Go.Proofs.YtokijibpdnepiaaW.PrintLast Go.Proofs.YtokijibpdnepiaaW.PrintMore
attribute [local go_sem] max2_int min2_int max_two min_two max_three min_three max_four min_four
set_option linter.unusedVariables false
set_option linter.unusedSimpArgs false
theorem own_lt {α : Type} {d : Kd α} {e base : Nat} {w : World} {ok : Nat → Prop} {v : Value} {xs : List α} (h : d.R e w base ok v xs) : ∀ k, v.ownBlock = some k → k < w.heap.size := by
  intro k hk
  obtain ⟨_, _, ⟨_, h2⟩, _⟩ := h
  rcases h2 with ⟨rfl, _⟩ | ⟨g, cap, cur, rfl, _, hg, _⟩
  · simp [Value.ownBlock] at hk
  · have : g = k := by simpa [Value.ownBlock] using hk
    rw [← this]; exact blk_lt hg
theorem run_store_fn {P : Program} {w : World} (a : Addr) (m : Mode) (f : Fn) (x y : Array Value) : (store a (.func f x y) m).run P w = stored P w a (.func f x y) m := run_store P w a _ m rfl
attribute [local go_sem] run_store_fn
end Go.Proofs.Ytokijibpdnepiaa.X
end
section
namespace Go.Proofs.Ytokijibpdnepiaa.P
set_option linter.unusedVariables false
set_option linter.unusedSimpArgs false
open Go.RowKit Go.Proofs.YtokijibpdnepiaaW.PrintWords Go.Proofs.YtokijibpdnepiaaW.PrintMore Go.Proofs.Ytokijibpdnepiaa.X
def lt (a b : Bid) : Bool := if a.f2 = b.f2 then (if a.f3 = b.f3 then Op.bytesLess a.f0.toList b.f0.toList else decide (a.f3 < b.f3)) else decide (a.f2 < b.f2)
end Go.Proofs.Ytokijibpdnepiaa.P
end
section
namespace Go.Proofs.Ytokijibpdnepiaa.P
set_option linter.unusedVariables false
set_option linter.unusedSimpArgs false
open Go.RowKit Go.Proofs.YtokijibpdnepiaaW.PrintWords Go.Proofs.YtokijibpdnepiaaW.PrintMore Go.Proofs.Ytokijibpdnepiaa.X
abbrev Aw := S52
theorem rdAw (l : List Aw) (i : Nat) (h : i < l.length) : rd_T52 l (i : Int) = l[i] := by simp [rd_T52, h]
end Go.Proofs.Ytokijibpdnepiaa.P
end
section
namespace Go.Proofs.Ytokijibpdnepiaa.P
set_option linter.unusedVariables false
set_option linter.unusedSimpArgs false
open Go.RowKit Go.Proofs.YtokijibpdnepiaaW.PrintWords Go.Proofs.YtokijibpdnepiaaW.PrintMore Go.Proofs.Ytokijibpdnepiaa.X
theorem ints46 (a : List Int) (ha : a.length ≤ 4611686018427387904) : ∀ (d i : Nat), i + d = a.length → Ev (fun k => contangoref46_Ints.l0 k a a i) true
  | 0, i, hd => by
    refine Ev_succ ?_
    simp only [contangoref46_Ints.l0, if_neg (show ¬ ((i : Int) < (a.length : Int)) by omega)]
    exact Ev.now _
  | d + 1, i, hd => by
    have hi : i < a.length := by omega
    refine Ev_succ ?_
    simp only [contangoref46_Ints.l0, if_pos (show (i : Int) < (a.length : Int) by omega), if_pos (show 0 ≤ (i : Int) by omega), if_true, w_succ hi (by omega)]
    exact ints46 a ha d (i + 1) (by omega)
theorem ints46_f (a : List Int) (ha : a.length ≤ 4611686018427387904) : Ev (fun k => contangoref46_Ints.f k a a) true := by
  unfold contangoref46_Ints.f
  simp only [if_true]
  exact ints46 a ha a.length 0 (by omega)
end Go.Proofs.Ytokijibpdnepiaa.P
end
section
namespace Go.Proofs.Ytokijibpdnepiaa.P
set_option linter.unusedVariables false
set_option linter.unusedSimpArgs false
open Go.RowKit Go.Proofs.YtokijibpdnepiaaW.PrintWords Go.Proofs.YtokijibpdnepiaaW.PrintMore Go.Proofs.Ytokijibpdnepiaa.X
def atOf : Option Nat → Int
  | none => -1
  | some j => (j : Int)
def valB (l : List Bid) : Option Nat → Int × Bool
  | none => (0, false)
  | some j => ((rd_T33 l (j : Int)).f2, true)
theorem at_none {t : Int} (h : atOf none = t) : t < 0 := by rw [← h]; decide
theorem at_some {j : Nat} {t : Int} (h : atOf (some j) = t) : t = (j : Int) := h.symm
theorem bestR_loop (l : List Bid) (name : ByteArray) (hl : l.length ≤ 4611686018427387904) : ∀ (d i : Nat) (o : Option Nat), i + d = l.length → (∀ j, o = some j → j < l.length) → Ev (fun k => contangoref46_Best.l0 k l name (atOf o) i) ((l.drop i).foldl (bestStep name) (valB l o))
  | 0, i, o, hd, ho => by
    rw [List.drop_of_length_le (by omega), List.foldl_nil]
    obtain ⟨t, ht⟩ : ∃ t, atOf o = t := ⟨_, rfl⟩
    rw [ht]
    refine Ev_succ ?_
    simp only [contangoref46_Best.l0, if_neg (show ¬ ((i : Int) < (l.length : Int)) by omega)]
    cases o with
    | none => simp only [if_pos (at_none ht)]; exact Ev.now _
    | some j =>
      have hj := ho j rfl
      have t1 := at_some ht
      simp only [if_neg (show ¬ t < 0 by omega), if_pos (show 0 ≤ t by omega), if_pos (show t < (l.length : Int) by omega)]
      rw [t1]; exact Ev.now _
  | d + 1, i, o, hd, ho => by
    have hi : i < l.length := by omega
    rw [drop_cons l i hi, List.foldl_cons]
    obtain ⟨t, ht⟩ : ∃ t, atOf o = t := ⟨_, rfl⟩
    rw [ht]
    refine Ev_succ ?_
    have hri := rdBid l i hi
    simp only [contangoref46_Best.l0, if_pos (show (i : Int) < (l.length : Int) by omega), if_pos (show 0 ≤ (i : Int) by omega), hri, w_succ hi (by omega)]
    have hnew : valB l (some i) = (l[i].f2, true) := by simp only [valB, hri]
    have ihn := bestR_loop l name hl d (i + 1) (some i) (by omega) (fun j h => by cases h; exact hi)
    have iho := bestR_loop l name hl d (i + 1) o (by omega) ho
    rw [ht] at iho
    by_cases e : l[i].f0.toList = name.toList
    · simp only [if_pos e]
      cases o with
      | none =>
        have hs : bestStep name (valB l none) l[i] = valB l (some i) := by rw [hnew]; simp [bestStep, valB, e]
        simp only [if_pos (at_none ht)]
        rw [hs]
        exact ihn
      | some j =>
        have hj := ho j rfl
        have t1 := at_some ht
        simp only [if_neg (show ¬ t < 0 by omega), if_pos (show 0 ≤ t by omega), if_pos (show t < (l.length : Int) by omega)]
        by_cases c : l[i].f2 < (rd_T33 l t).f2
        · have hs : bestStep name (valB l (some j)) l[i] = valB l (some i) := by rw [hnew]; rw [t1] at c; simp [bestStep, valB, e, c]
          simp only [if_pos c]
          rw [hs]
          exact ihn
        · have hs : bestStep name (valB l (some j)) l[i] = valB l (some j) := by rw [t1] at c; simp [bestStep, valB, e, c]
          simp only [if_neg c]
          rw [hs]
          exact iho
    · have hs : bestStep name (valB l o) l[i] = valB l o := by simp [bestStep, e]
      simp only [if_neg e]
      rw [hs]
      exact iho
theorem bestR_f (l : List Bid) (name : ByteArray) (hl : l.length ≤ 4611686018427387904) : Ev (fun k => contangoref46_Best.f k l name) (bestOf l name) := by
  unfold contangoref46_Best.f bestOf
  exact bestR_loop l name hl l.length 0 none (by omega) (fun j h => by cases h)
def valA (l : List Aw) : Option Nat → Int × Bool
  | none => (0, false)
  | some j => ((rd_T52 l (j : Int)).f2, true)
theorem topR_loop (l : List Aw) (hl : l.length ≤ 4611686018427387904) : ∀ (d i : Nat) (o : Option Nat), i + d = l.length → (∀ j, o = some j → j < l.length) → ∃ o2 : Option Nat, Ev (fun k => contangoref46_top.l0 k l (atOf o) i) (atOf o2) ∧ (∀ j, o2 = some j → j < l.length) ∧ valA l o2 = (l.drop i).foldl awStep (valA l o)
  | 0, i, o, hd, ho => by
    refine ⟨o, ?_, ho, by rw [List.drop_of_length_le (by omega), List.foldl_nil]⟩
    refine Ev_succ ?_
    simp only [contangoref46_top.l0, if_neg (show ¬ ((i : Int) < (l.length : Int)) by omega)]
    exact Ev.now _
  | d + 1, i, o, hd, ho => by
    have hi : i < l.length := by omega
    rw [drop_cons l i hi, List.foldl_cons]
    have hri := rdAw l i hi
    have hnew : valA l (some i) = (l[i].f2, true) := by simp only [valA, hri]
    obtain ⟨t, ht⟩ : ∃ t, atOf o = t := ⟨_, rfl⟩
    rw [ht]
    obtain ⟨o2, h1, h2, h3⟩ := topR_loop l hl d (i + 1) (some i) (by omega) (fun j h => by cases h; exact hi)
    obtain ⟨o3, g1, g2, g3⟩ := topR_loop l hl d (i + 1) o (by omega) ho
    rw [ht] at g1
    by_cases e : 0 < l[i].f1
    · cases o with
      | none =>
        have hs : awStep (valA l none) l[i] = valA l (some i) := by rw [hnew]; simp [awStep, valA, e]
        refine ⟨o2, Ev_succ ?_, h2, by rw [hs]; exact h3⟩
        simp only [contangoref46_top.l0, if_pos (show (i : Int) < (l.length : Int) by omega), if_pos (show 0 ≤ (i : Int) by omega), hri, w_succ hi (by omega), if_pos (show l[i].f1 > 0 from e), if_pos (at_none ht)]
        exact h1
      | some j =>
        have hj := ho j rfl
        have t1 := at_some ht
        by_cases c : (rd_T52 l t).f2 < l[i].f2
        · have hs : awStep (valA l (some j)) l[i] = valA l (some i) := by rw [hnew]; rw [t1] at c; simp [awStep, valA, e, c]
          refine ⟨o2, Ev_succ ?_, h2, by rw [hs]; exact h3⟩
          simp only [contangoref46_top.l0, if_pos (show (i : Int) < (l.length : Int) by omega), if_pos (show 0 ≤ (i : Int) by omega), hri, w_succ hi (by omega), if_pos (show l[i].f1 > 0 from e), if_neg (show ¬ t < 0 by omega), if_pos (show 0 ≤ t by omega), if_pos (show t < (l.length : Int) by omega), if_pos (show l[i].f2 > (rd_T52 l t).f2 from c)]
          exact h1
        · have hs : awStep (valA l (some j)) l[i] = valA l (some j) := by rw [t1] at c; simp [awStep, valA, e, c]
          refine ⟨o3, Ev_succ ?_, g2, by rw [hs]; exact g3⟩
          simp only [contangoref46_top.l0, if_pos (show (i : Int) < (l.length : Int) by omega), if_pos (show 0 ≤ (i : Int) by omega), hri, w_succ hi (by omega), if_pos (show l[i].f1 > 0 from e), if_neg (show ¬ t < 0 by omega), if_pos (show 0 ≤ t by omega), if_pos (show t < (l.length : Int) by omega), if_neg (show ¬ l[i].f2 > (rd_T52 l t).f2 from c)]
          exact g1
    · have hs : awStep (valA l o) l[i] = valA l o := by simp [awStep, e]
      refine ⟨o3, Ev_succ ?_, g2, by rw [hs]; exact g3⟩
      simp only [contangoref46_top.l0, if_pos (show (i : Int) < (l.length : Int) by omega), if_pos (show 0 ≤ (i : Int) by omega), hri, w_succ hi (by omega), if_neg (show ¬ l[i].f1 > 0 from e)]
      exact g1
def hasA (name : ByteArray) (a : Aw) : Bool := decide (0 < a.f1) && a.f0.toList == name.toList
theorem hasR_loop (l : List Aw) (name : ByteArray) (hl : l.length ≤ 4611686018427387904) : ∀ (d i : Nat), i + d = l.length → Ev (fun k => contangoref46_has.l0 k l name i) ((l.drop i).any (hasA name))
  | 0, i, hd => by
    rw [List.drop_of_length_le (by omega), List.any_nil]
    refine Ev_succ ?_
    simp only [contangoref46_has.l0, if_neg (show ¬ ((i : Int) < (l.length : Int)) by omega)]
    exact Ev.now _
  | d + 1, i, hd => by
    have hi : i < l.length := by omega
    rw [drop_cons l i hi, List.any_cons]
    have hri := rdAw l i hi
    have ih := hasR_loop l name hl d (i + 1) (by omega)
    refine Ev_succ ?_
    simp only [contangoref46_has.l0, if_pos (show (i : Int) < (l.length : Int) by omega), if_pos (show 0 ≤ (i : Int) by omega), hri, w_succ hi (by omega)]
    by_cases e : 0 < l[i].f1
    · by_cases e2 : l[i].f0.toList = name.toList
      · have : hasA name l[i] = true := by simp [hasA, e, e2]
        simp only [if_pos (show l[i].f1 > 0 from e), if_pos e2, this, Bool.true_or]; exact Ev.now _
      · have : hasA name l[i] = false := by simp [hasA, e2]
        simp only [if_pos (show l[i].f1 > 0 from e), if_neg e2, this, Bool.false_or]; exact ih
    · have : hasA name l[i] = false := by simp [hasA, e]
      simp only [if_neg (show ¬ l[i].f1 > 0 from e), this, Bool.false_or]; exact ih
theorem seen_any (name : ByteArray) : ∀ (l : List Aw) (seen : List ByteArray), strHas (l.foldl awSeen seen) name = (strHas seen name || l.any (hasA name))
  | [], seen => by simp
  | a :: l, seen => by
    rw [List.foldl_cons, seen_any name l, List.any_cons]
    by_cases e : 0 < a.f1
    · have : strHas (awSeen seen a) name = (a.f0.toList == name.toList || strHas seen name) := by simp [awSeen, e, strHas]
      rw [this]
      simp only [hasA, e, decide_true, Bool.true_and]
      cases (a.f0.toList == name.toList) <;> cases strHas seen name <;> simp
    · have : awSeen seen a = seen := by simp [awSeen, e]
      rw [this]
      simp [hasA, e]
theorem worst_some : ∀ (l : List Aw) (s : Int × Bool), (l.foldl awStep s).2 = (s.2 || l.any fun a => decide (0 < a.f1))
  | [], s => by simp
  | a :: l, s => by
    rw [List.foldl_cons, worst_some l, List.any_cons]
    by_cases e : 0 < a.f1
    · have : (awStep s a).2 = true := by
        unfold awStep
        rw [if_pos e]
        by_cases h : s.2 = true
        · rw [if_pos h]; split
          · rfl
          · exact h
        · rw [if_neg h]
      rw [this]
      simp [e]
    · have : awStep s a = s := by simp [awStep, e]
      rw [this]
      simp [e]
def clsL (l : List Bid) (seen : List ByteArray) (worst : Int × Bool) (slack : Int) : List ByteArray → List Int → List Int
  | s :: ns, m :: ms => (if 0 < m then 1 else if wellF l seen worst slack s = true then 3 else 2) :: clsL l seen worst slack ns ms
  | _, _ => []
theorem clsL_len (l : List Bid) (seen : List ByteArray) (worst : Int × Bool) (slack : Int) : ∀ (ns : List ByteArray) (ms : List Int), (clsL l seen worst slack ns ms).length ≤ ns.length
  | [], ms => by simp [clsL]
  | s :: ns, [] => by simp [clsL]
  | s :: ns, m :: ms => by
    have := clsL_len l seen worst slack ns ms
    simp only [clsL, List.length_cons]; omega
theorem clsGo_f (l : List Bid) (seen : List ByteArray) (worst : Int × Bool) (slack : Int) : ∀ (ns : List ByteArray) (ms acc : List Int), ns.length = ms.length → (∀ s ∈ ns, s.size ≤ maxLen) → acc.length + ns.length < 17592186044416 → clsGo l seen worst slack acc ns ms = some (acc ++ clsL l seen worst slack ns ms)
  | [], ms, acc, _, _, _ => by simp [clsGo, clsL]
  | s :: ns, [], acc, h, _, _ => by simp at h
  | s :: ns, m :: ms, acc, h, hs, ha => by
    simp only [List.length_cons] at h ha
    rw [clsGo, if_pos ⟨hs s (by simp), by omega⟩, clsGo_f l seen worst slack ns ms _ (by omega) (fun x hx => hs x (by simp [hx])) (by simp; omega), clsL]
    simp
def clsRest (names : List ByteArray) (mi : List Int) (l : List Bid) (aw : List Aw) (slack : Int) : List Int × Int :=
  if slack < 0 then ([], 2) else if 68719476736 < slack then ([], 2) else if 1024 < aw.length then ([], 8) else (clsL l (aw.foldl awSeen []) (aw.foldl awStep (0, false)) slack names mi, 0)
def classes (names : List ByteArray) (must : List Int) (l : List Bid) (aw : List Aw) (slack : Int) : List Int × Int :=
  if bidCheck l ≠ 0 then ([], bidCheck l) else if (missing names must l).2 ≠ 0 then ([], (missing names must l).2) else if ascAll names = false then ([], 12) else clsRest names (missing names must l).1 l aw slack
theorem missE_full (l : List Bid) : ∀ (ns : List ByteArray) (acc ms : List Int), ns.length = ms.length → (missE l acc ns ms).2 = 0 → (missE l acc ns ms).1.length = acc.length + ns.length
  | [], acc, ms, _, _ => by simp [missE]
  | s :: ns, acc, [], h, _ => by simp at h
  | s :: ns, acc, m :: ms, h, h0 => by
    simp only [missE] at h0 ⊢
    by_cases c : nameB s = true
    · rw [if_pos c] at h0 ⊢
      by_cases c2 : m < 0 ∨ 1048576 < m
      · rw [if_pos c2] at h0; simp at h0
      · rw [if_neg c2] at h0 ⊢
        rw [missE_full l ns _ ms (by simpa using h) h0]
        simp; omega
    · rw [if_neg c] at h0; simp at h0
theorem missing_full (names : List ByteArray) (must : List Int) (l : List Bid) (hb : bidCheck l = 0) (h0 : (missing names must l).2 = 0) : (missing names must l).1.length = names.length := by
  unfold missing at h0 ⊢
  rw [if_pos hb] at h0 ⊢
  by_cases hl : names.length = must.length
  · rw [if_pos hl] at h0 ⊢
    rw [missE_full l names [] must hl h0]; simp
  · rw [if_neg hl] at h0; simp at h0
theorem classes_f (names : List ByteArray) (must : List Int) (l : List Bid) (aw : List Aw) (slack : Int) (hn : names.length ≤ 1048576) (hs : ∀ s ∈ names, s.size ≤ maxLen) (ha : ∀ a ∈ aw, a.f0.size ≤ maxLen) : Ev (fun k => junior_Classes.f k names must l aw slack) (classes names must l aw slack) := by
  unfold junior_Classes.f classes
  refine Ev_bind (bidCheck_f l) ?_
  by_cases hb : bidCheck l ≠ 0
  · simp only [if_pos hb]; exact Ev.now _
  simp only [if_neg hb]
  refine Ev_bind (missing_f names must l hn) ?_
  by_cases hm : (missing names must l).2 ≠ 0
  · simp only [if_pos hm]; exact Ev.now _
  simp only [if_neg hm]
  have hlen := missing_full names must l (Decidable.not_not.1 hb) (Decidable.not_not.1 hm)
  refine Ev_all fun k => ?_
  unfold clsTail clsRest
  by_cases c1 : ascAll names = false
  · rw [if_pos c1, if_pos c1]
  rw [if_neg c1, if_neg c1]
  by_cases c2 : slack < 0
  · rw [if_pos c2, if_pos c2]
  rw [if_neg c2, if_neg c2]
  by_cases c3 : 68719476736 < slack
  · rw [if_pos c3, if_pos c3]
  rw [if_neg c3, if_neg c3]
  by_cases c4 : 1024 < aw.length
  · rw [if_pos c4, if_pos c4]
  rw [if_neg c4, if_neg c4, if_pos ha, clsGo_f l _ _ slack names _ [] hlen.symm hs (by simp; omega)]
  rfl
theorem classes_len (names : List ByteArray) (must : List Int) (l : List Bid) (aw : List Aw) (slack : Int) : (classes names must l aw slack).1.length ≤ names.length := by
  unfold classes clsRest
  repeat' split
  all_goals first | exact clsL_len _ _ _ _ _ _ | simp
theorem clsR_loop (names : List ByteArray) (mi : List Int) (l : List Bid) (aw : List Aw) (slack : Int) (hn : names.length ≤ 1048576) (hm : mi.length = names.length) (hl : l.length ≤ 4611686018427387904) (ha : aw.length ≤ 4611686018427387904) (o : Option Nat) (ho : ∀ j, o = some j → j < aw.length) (hv : valA aw o = aw.foldl awStep (0, false)) (t : Int) (ht : atOf o = t) : ∀ (d i : Nat) (acc : List Int), i + d = names.length → acc.length ≤ i → Ev (fun k => contangoref46_Classes.l1 k names l aw slack mi acc t i) (acc ++ clsL l (aw.foldl awSeen []) (aw.foldl awStep (0, false)) slack (names.drop i) (mi.drop i), 0)
  | 0, i, acc, hd, hacc => by
    rw [List.drop_of_length_le (show names.length ≤ i by omega)]
    refine Ev_succ ?_
    simp only [contangoref46_Classes.l1, if_neg (show ¬ ((i : Int) < (names.length : Int)) by omega), clsL, List.append_nil]
    exact Ev.now _
  | d + 1, i, acc, hd, hacc => by
    have hi : i < names.length := by omega
    have him : i < mi.length := by omega
    rw [drop_cons names i hi, drop_cons mi i him, clsL]
    have ih := fun c => clsR_loop names mi l aw slack hn hm hl ha o ho hv t ht d (i + 1) (acc ++ [c]) (by omega) (by simp; omega)
    have j3 : ∀ b : Bool, b = wellF l (aw.foldl awSeen []) (aw.foldl awStep (0, false)) slack names[i] → Ev (fun k => contangoref46_Classes.j3 k names l aw slack mi acc t i 2 b) (acc ++ (if 0 < mi[i] then 1 else if wellF l (aw.foldl awSeen []) (aw.foldl awStep (0, false)) slack names[i] = true then 3 else 2) :: clsL l (aw.foldl awSeen []) (aw.foldl awStep (0, false)) slack (names.drop (i + 1)) (mi.drop (i + 1)), 0) := by
      intro b hb
      refine Ev_succ ?_
      rw [← hb]
      have hap : ∀ (c : Int) (T : List Int), acc ++ c :: T = (acc ++ [c]) ++ T := fun c T => by simp
      have hac : acc.length < 17592186044416 := by omega
      cases b with
      | true =>
        by_cases c : 0 < mi[i]
        · simp only [contangoref46_Classes.j3, if_true, if_pos (show 0 ≤ (i : Int) by omega), if_pos (show (i : Int) < (mi.length : Int) by omega), rd_nat mi i him, if_pos (show mi[i] > 0 from c), if_pos c, if_pos hac, w_succ hi (by omega)]
          have q := ih 1
          rw [List.append_assoc, List.singleton_append] at q
          exact q
        · simp only [contangoref46_Classes.j3, if_true, if_pos (show 0 ≤ (i : Int) by omega), if_pos (show (i : Int) < (mi.length : Int) by omega), rd_nat mi i him, if_neg (show ¬ mi[i] > 0 from c), if_neg c, if_pos hac, w_succ hi (by omega)]
          have q := ih 3
          rw [List.append_assoc, List.singleton_append] at q
          exact q
      | false =>
        by_cases c : 0 < mi[i]
        · simp only [contangoref46_Classes.j3, Bool.false_eq_true, if_false, if_pos (show 0 ≤ (i : Int) by omega), if_pos (show (i : Int) < (mi.length : Int) by omega), rd_nat mi i him, if_pos (show mi[i] > 0 from c), if_pos c, if_pos hac, w_succ hi (by omega)]
          have q := ih 1
          rw [List.append_assoc, List.singleton_append] at q
          exact q
        · simp only [contangoref46_Classes.j3, Bool.false_eq_true, if_false, if_pos (show 0 ≤ (i : Int) by omega), if_pos (show (i : Int) < (mi.length : Int) by omega), rd_nat mi i him, if_neg (show ¬ mi[i] > 0 from c), if_neg c, if_pos hac, w_succ hi (by omega)]
          have q := ih 2
          rw [List.append_assoc, List.singleton_append] at q
          exact q
    refine Ev_succ ?_
    simp only [contangoref46_Classes.l1, if_pos (show (i : Int) < (names.length : Int) by omega), if_pos (show 0 ≤ (i : Int) by omega), rdOf_nat ByteArray.empty names i hi]
    refine Ev_bind (bestR_f l names[i] hl) ?_
    have hsa := seen_any names[i] aw []
    have hws := worst_some aw (0, false)
    rw [← hv] at hws
    have hsn : strHas [] names[i] = false := rfl
    rw [hsn, Bool.false_or] at hsa
    cases o with
    | none =>
      simp only [if_neg (show ¬ (t ≥ 0) by have := at_none ht; omega)]
      refine j3 false ?_
      simp only [valA, Bool.false_or] at hws
      have hno : aw.any (hasA names[i]) = false := by
        rw [List.any_eq_false]
        intro a haw
        have := List.any_eq_false.1 hws.symm a haw
        simp [hasA]
        intro h
        exact absurd h (by simpa using this)
      unfold wellF
      rw [hsa, hno, ← hv]
      simp [valA]
    | some j =>
      have hj := ho j rfl
      have hvp : aw.foldl awStep (0, false) = ((rd_T52 aw t).f2, true) := by rw [← hv, at_some ht]; rfl
      have t1 := at_some ht
      simp only [if_pos (show t ≥ 0 by omega)]
      refine Ev_bind (show Ev (fun k => contangoref46_has.f k aw names[i]) (aw.any (hasA names[i])) by unfold contangoref46_has.f; exact hasR_loop aw names[i] ha aw.length 0 (by omega)) ?_
      cases hh : aw.any (hasA names[i]) with
      | true =>
        simp only [if_true]
        refine j3 true ?_
        unfold wellF
        rw [hsa, hh, if_pos rfl]
      | false =>
        simp only [Bool.false_eq_true, if_false]
        by_cases c : (bestOf l names[i]).2 = true
        · simp only [if_pos c, if_pos (show 0 ≤ t by omega), if_pos (show t < (aw.length : Int) by omega)]
          refine j3 _ ?_
          unfold wellF
          rw [hsa, hh, if_neg (by decide), if_pos c, hvp, if_pos rfl]
        · simp only [if_neg c]
          refine j3 false ?_
          unfold wellF
          rw [hsa, hh, if_neg (by decide), if_neg c]
theorem clsRest_f (names : List ByteArray) (mi : List Int) (l : List Bid) (aw : List Aw) (slack : Int) (hn : names.length ≤ 1048576) (hm : mi.length = names.length) (hl : l.length ≤ 4611686018427387904) (ha : aw.length ≤ 4611686018427387904) :
    Ev (fun k => if slack < 0 then contangoref46_Classes.j1 k names l aw slack mi true else contangoref46_Classes.j1 k names l aw slack mi (decide (slack > 68719476736))) (clsRest names mi l aw slack) := by
  unfold clsRest
  by_cases c2 : slack < 0
  · simp only [if_pos c2]
    refine Ev_succ ?_
    simp only [contangoref46_Classes.j1, if_true]; exact Ev.now _
  simp only [if_neg c2]
  by_cases c3 : 68719476736 < slack
  · simp only [if_pos c3, decide_eq_true (show slack > 68719476736 from c3)]
    refine Ev_succ ?_
    simp only [contangoref46_Classes.j1, if_true]; exact Ev.now _
  simp only [if_neg c3, decide_eq_false (show ¬ slack > 68719476736 from c3)]
  refine Ev_succ ?_
  simp only [contangoref46_Classes.j1, Bool.false_eq_true, if_false]
  by_cases c4 : 1024 < aw.length
  · simp only [if_pos c4, if_pos (show (aw.length : Int) > 1024 by omega)]; exact Ev.now _
  simp only [if_neg c4, if_neg (show ¬ (aw.length : Int) > 1024 by omega)]
  obtain ⟨o, h1, h2, h3⟩ := topR_loop aw ha aw.length 0 none (by omega) (fun j h => by cases h)
  refine Ev_bind (show Ev (fun k => contangoref46_top.f k aw) (atOf o) by unfold contangoref46_top.f; exact h1) ?_
  have := clsR_loop names mi l aw slack hn hm hl ha o h2 (by rw [h3]; rfl) _ rfl names.length 0 [] (by omega) (by simp)
  simpa using this
theorem ascR_loop (names : List ByteArray) (mi : List Int) (l : List Bid) (aw : List Aw) (slack : Int) (hn : names.length ≤ 1048576) (hm : mi.length = names.length) (hl : l.length ≤ 4611686018427387904) (ha : aw.length ≤ 4611686018427387904) : ∀ (d j : Nat), names.length ≤ j + d → Ev (fun k => contangoref46_Classes.l0 k names l aw slack mi ((j + 1 : Nat) : Int)) (if ascAll (names.drop j) = false then ([], 12) else clsRest names mi l aw slack)
  | 0, j, hd => by
    rw [List.drop_of_length_le (by omega)]
    refine Ev_succ ?_
    simp only [contangoref46_Classes.l0, if_neg (show ¬ (((j + 1 : Nat) : Int) < (names.length : Int)) by omega), ascAll, Bool.true_eq_false, if_false]
    exact clsRest_f names mi l aw slack hn hm hl ha
  | d + 1, j, hd => by
    by_cases hi : j + 1 < names.length
    · have hj : j < names.length := by omega
      have hd2 := drop_cons names (j + 1) hi
      have ih := ascR_loop names mi l aw slack hn hm hl ha d (j + 1) (by omega)
      rw [hd2] at ih
      rw [drop_cons names j hj, hd2]
      have hp : wrap64 (((j + 1 : Nat) : Int) - 1) = (j : Int) := by rw [w_id (by omega) (by omega)]; omega
      refine Ev_succ ?_
      simp only [contangoref46_Classes.l0, if_pos (show (((j + 1 : Nat) : Int) < (names.length : Int)) by omega), if_pos (show 0 ≤ ((j + 1 : Nat) : Int) by omega), hp, if_pos (show 0 ≤ (j : Int) by omega), if_pos (show ((j : Int) < (names.length : Int)) by omega), rdOf_nat ByteArray.empty names j hj, rdOf_nat ByteArray.empty names (j + 1) hi, w_succ hi (by omega)]
      have e1 : ascAll (names[j] :: names[j + 1] :: names.drop (j + 1 + 1)) = if Op.bytesLess names[j].toList names[j + 1].toList = true then ascAll (names[j + 1] :: names.drop (j + 1 + 1)) else false := rfl
      rw [e1]
      by_cases c : Op.bytesLess names[j].toList names[j + 1].toList = true
      · simp only [if_pos c]; exact ih
      · simp only [if_neg c, if_true]; exact Ev.now _
    · have e1 : ascAll (names.drop j) = true := by
        by_cases hj : j < names.length
        · rw [drop_cons names j hj, List.drop_of_length_le (by omega)]; rfl
        · rw [List.drop_of_length_le (by omega)]; rfl
      refine Ev_succ ?_
      simp only [contangoref46_Classes.l0, if_neg (show ¬ (((j + 1 : Nat) : Int) < (names.length : Int)) by omega), e1, Bool.true_eq_false, if_false]
      exact clsRest_f names mi l aw slack hn hm hl ha
theorem classesR_f (names : List ByteArray) (must : List Int) (l : List Bid) (aw : List Aw) (slack : Int) (hn : names.length ≤ 1048576) (hz : ∀ s ∈ names, s.size ≤ 4611686018427387904) (hzb : ∀ b ∈ l, b.f0.size ≤ 4611686018427387904) (hl : l.length ≤ 4611686018427387904) (ha : aw.length ≤ 4611686018427387904) : Ev (fun k => contangoref46_Classes.f k names must l aw slack) (classes names must l aw slack) := by
  unfold contangoref46_Classes.f classes
  refine Ev_bind (bidCheckR_f l hzb) ?_
  by_cases hb : bidCheck l ≠ 0
  · simp only [if_pos hb, if_neg hb]; exact Ev.now _
  have hb0 := Decidable.not_not.1 hb
  simp only [if_neg hb, if_pos hb0]
  refine Ev_bind (missingR_f names must l hn hz hzb) ?_
  by_cases hm : (missing names must l).2 ≠ 0
  · simp only [if_pos hm, if_neg hm]; exact Ev.now _
  have hm0 := Decidable.not_not.1 hm
  simp only [if_neg hm, if_pos hm0]
  have := ascR_loop names _ l aw slack hn (missing_full names must l hb0 hm0) hl ha names.length 0 (by omega)
  simpa using this
end Go.Proofs.Ytokijibpdnepiaa.P
end
section
namespace Go.Proofs.Ytokijibpdnepiaa.P
open Go.RowKit Go.Proofs.YtokijibpdnepiaaW.PrintWords Go.Proofs.YtokijibpdnepiaaW.PrintMore Go.Proofs.Ytokijibpdnepiaa.X
set_option maxRecDepth 100000 in
theorem goes46 : Ev (fun k => contangolaw46_goes.f k) true := Ev.of (k := 40) (contangolaw46_goes.mono) (by decide +kernel)
end Go.Proofs.Ytokijibpdnepiaa.P
end
section
namespace Go.Proofs.Ytokijibpdnepiaa.Pure
set_option linter.unusedVariables false
set_option linter.unusedSimpArgs false
open Go.RowKit Go.Proofs.YtokijibpdnepiaaW.PrintWords Go.Proofs.YtokijibpdnepiaaW.PrintMore Go.Proofs.Ytokijibpdnepiaa.X Go.Proofs.Ytokijibpdnepiaa.P
theorem JuniorClasses : ∀ (x0 : S56) (a1 : ByteArray), ok56 x0 → a1.size ≤ 140737488351232 → ∃ k, X.contangolaw46_JuniorClasses.f k x0.f0 x0.f1 x0.f2 x0.f3 x0.f4 a1 = some true := by
  intro x name hx _
  obtain ⟨names, must, l, aw, slack⟩ := x
  obtain ⟨hn, hm, hl, ha, hs⟩ := hx
  apply Ev.rounds
  dsimp only at hn hm hl ha hs ⊢
  have hz : ∀ b ∈ l, b.f0.size ≤ 4611686018427387904 := fun b hb => by have := (hl.2.2 b hb).1; omega
  have hzn : ∀ s ∈ names, s.size ≤ 4611686018427387904 := fun s hs => by have := hn.2.2 s hs; omega
  have hzm : ∀ s ∈ names, s.size ≤ maxLen := fun s hs => by have := hn.2.2 s hs; unfold maxLen; omega
  have haz : ∀ a ∈ aw, a.f0.size ≤ maxLen := fun a h => by have := (ha.2.2 a h).1; unfold maxLen; omega
  have hfew : ∃ b, contangolaw46_few.f names must l aw slack = some b ∧ (b = true → names.length ≤ 200) := by
    unfold contangolaw46_few.f
    by_cases c1 : (names.length : Int) ≤ 200
    · rw [if_pos c1]
      by_cases c2 : (must.length : Int) ≤ 200
      · rw [if_pos c2]
        by_cases c3 : (l.length : Int) ≤ 300
        · rw [if_pos c3]; exact ⟨_, rfl, fun _ => by omega⟩
        · rw [if_neg c3]; exact ⟨_, rfl, fun h => by cases h⟩
      · rw [if_neg c2]; exact ⟨_, rfl, fun h => by cases h⟩
    · rw [if_neg c1]; exact ⟨_, rfl, fun h => by cases h⟩
  obtain ⟨b, hb, hlen⟩ := hfew
  unfold contangolaw46_JuniorClasses.f
  refine Ev_bind (Ev_all fun _ => hb) ?_
  cases b with
  | false => simp only [Bool.false_eq_true, if_false]; exact Ev_id goes46
  | true =>
    have h2 := hlen rfl
    have hcl := classes_len names must l aw slack
    simp only [if_true]
    refine Ev_bind (classes_f names must l aw slack (by omega) hzm haz) ?_
    refine Ev_bind (classesR_f names must l aw slack (by omega) hzn hz (by omega) (by omega)) ?_
    refine Ev_bind (Ev_all fun _ => (rfl : junior_Best.f l name = some (bestOf l name))) ?_
    refine Ev_bind (bestR_f l name (by omega)) ?_
    refine Ev_bind (ints46_f _ (by omega)) ?_
    simp only [if_true, beq_self_eq_true]
    exact Ev_id goes46
end Go.Proofs.Ytokijibpdnepiaa.Pure
end
