/- For ProductTexts: contracts, and facts on lists and numbers, that it uses (part 5). -/
import Derived.Lib.Bytealg
import Derived.Lib.SplitLaws
import Derived.Test.YtieifncibojciaaDoorProductTextsc4
section
namespace Go.Proofs.YtieifncibojciaaDoor.P
set_option linter.unusedVariables false
set_option linter.unusedSimpArgs false
open Go.RowKit Go.Proofs.YtieifncibojciaaDoorW.PrintWords Go.Proofs.YtieifncibojciaaDoorW.PrintMore Go.Proofs.YtieifncibojciaaDoor.X
theorem by_rng (s : ByteArray) : ∀ x ∈ bytesOf s, 0 ≤ x ∧ x < 256 := by
  intro x hx
  unfold bytesOf at hx
  obtain ⟨b, hb, rfl⟩ := List.mem_map.1 hx
  have := b.toNat_lt
  omega
theorem by_len (s : ByteArray) : (bytesOf s).length = s.size := bytesOf_length s
theorem by_str (L : List Int) (h : ∀ x ∈ L, 0 ≤ x ∧ x < 256) : bytesOf (strOfNums L) = L := by
  unfold bytesOf
  rw [strOfNums_data, List.map_map]
  conv => rhs; rw [← List.map_id L]
  refine List.map_congr_left fun x hx => ?_
  have := h x hx
  simp only [Function.comp, id, UInt8.toNat_ofNat']
  omega
theorem by_data (s : ByteArray) : s.data.toList = (bytesOf s).map fun n => UInt8.ofNat n.toNat := by
  unfold bytesOf
  rw [List.map_map]
  conv => lhs; rw [← List.map_id s.data.toList]
  refine List.map_congr_left fun x hx => ?_
  simp only [Function.comp, id, Int.toNat_natCast, UInt8.ofNat_toNat]
theorem str_by (s : ByteArray) : strOfNums (bytesOf s) = s := by
  cases s with
  | mk d =>
    unfold strOfNums
    rw [← by_data]
theorem by_inj {a b : ByteArray} (h : bytesOf a = bytesOf b) : a = b := by rw [← str_by a, ← str_by b, h]
theorem by_app (a b : ByteArray) : bytesOf (a ++ b) = bytesOf a ++ bytesOf b := by
  unfold bytesOf
  rw [show (a ++ b).data = a.data ++ b.data from ByteArray.data_append, Array.toList_append, List.map_append]
theorem by_ext (s : ByteArray) (i j : Nat) : bytesOf (s.extract i j) = ((bytesOf s).take j).drop i := by
  unfold bytesOf
  rw [ByteArray.data_extract, Array.toList_extract, ← List.map_take, ← List.map_drop]
  congr 1
  rw [List.extract_eq_take_drop, List.drop_take]
theorem by_toList (s : ByteArray) (l : List UInt8) : s.toList = l ↔ bytesOf s = l.map fun b => (b.toNat : Int) := by
  rw [ByteArray.toList_eq]
  unfold bytesOf
  constructor
  · intro h
    rw [h]
  · intro h
    have e := congrArg (List.map fun n : Int => UInt8.ofNat n.toNat) h
    simpa [List.map_map, Function.comp_def] using e
theorem by_eq (a b : ByteArray) : a.toList = b.toList ↔ a = b := ⟨ba_ext, fun h => h ▸ rfl⟩
theorem by_emp (s : ByteArray) : s.toList = ([] : List UInt8) ↔ bytesOf s = [] := by rw [by_toList]; simp
theorem by_bt (s : ByteArray) (i : Nat) (h : i < (bytesOf s).length) : bt s (i : Int) = (bytesOf s)[i] := by
  rw [← rd_bytesOf, rd_nat _ _ h]
theorem by_drop (s : ByteArray) (i : Nat) (h : i < s.size) : (bytesOf s).drop i = bt s (i : Int) :: (bytesOf s).drop (i + 1) := by
  have h' : i < (bytesOf s).length := by rw [by_len]; exact h
  rw [drop_cons _ _ h', by_bt s i h']
theorem by_end (s : ByteArray) (i : Nat) (h : s.size ≤ i) : (bytesOf s).drop i = [] := List.drop_of_length_le (by rw [by_len]; exact h)
theorem str_app (a b : List Int) : strOfNums (a ++ b) = strOfNums a ++ strOfNums b := by
  apply by_inj
  rw [by_app]
  unfold bytesOf
  simp only [strOfNums_data, List.map_append]
def idxL : List Int → Int → Option Nat
  | [], _ => none
  | x :: r, c => if x = c then some 0 else (idxL r c).map (· + 1)
theorem idx_byte (l : List UInt8) (c : UInt8) : Lib.indexByte l c = match idxL (l.map fun b => (b.toNat : Int)) (c.toNat : Int) with | some i => (i : Int) | none => -1 := by
  induction l with
  | nil => rfl
  | cons x r ih =>
    unfold Lib.indexByte
    simp only [List.map_cons, idxL]
    by_cases h : x = c
    · subst h
      simp
    · have h1 : (x == c) = false := by simpa using h
      have h2 : ¬ ((x.toNat : Int) = (c.toNat : Int)) := fun e => h (UInt8.toNat_inj.1 (by omega))
      rw [h1, if_neg h2]
      simp only [Bool.false_eq_true, if_false]
      rw [ih]
      cases hI : idxL (r.map fun b => (b.toNat : Int)) (c.toNat : Int) with
      | none => simp
      | some i =>
        have h3 : ((i : Int) == -1) = false := by
          rw [beq_eq_false_iff_ne]
          omega
        simp [h3]
theorem idx_some {L : List Int} {c : Int} {i : Nat} (h : idxL L c = some i) : i < L.length ∧ L[i]? = some c ∧ c ∉ L.take i ∧ L = L.take i ++ c :: L.drop (i + 1) := by
  induction L generalizing i with
  | nil => cases h
  | cons x r ih =>
    simp only [idxL] at h
    by_cases hx : x = c
    · rw [if_pos hx] at h
      obtain rfl := Option.some.inj h
      subst hx
      simp
    · rw [if_neg hx] at h
      obtain ⟨j, hj, rfl⟩ := Option.map_eq_some_iff.1 h
      obtain ⟨h1, h2, h3, h4⟩ := ih hj
      refine ⟨by simpa using h1, by simpa using h2, ?_, ?_⟩
      · simp only [List.take_succ_cons, List.mem_cons, not_or]
        exact ⟨fun e => hx e.symm, h3⟩
      · simp only [List.take_succ_cons, List.drop_succ_cons, List.cons_append]
        rw [← h4]
theorem idx_none {L : List Int} {c : Int} (h : idxL L c = none) : c ∉ L := by
  induction L with
  | nil => simp
  | cons x r ih =>
    simp only [idxL] at h
    by_cases hx : x = c
    · rw [if_pos hx] at h; cases h
    · rw [if_neg hx] at h
      have h' : idxL r c = none := by simpa using h
      simp only [List.mem_cons, not_or]
      exact ⟨fun e => hx e.symm, ih h'⟩
end Go.Proofs.YtieifncibojciaaDoor.P
end
section
namespace Go.Proofs.YtieifncibojciaaDoor.P
set_option linter.unusedVariables false
set_option linter.unusedSimpArgs false
open Go.RowKit Go.Proofs.YtieifncibojciaaDoorW.PrintWords Go.Proofs.YtieifncibojciaaDoorW.PrintMore Go.Proofs.YtieifncibojciaaDoor.X
def splitI (c : Int) : List Int → List (List Int)
  | [] => [[]]
  | x :: r => if x = c then [] :: splitI c r else (match splitI c r with | p :: q => (x :: p) :: q | [] => [[x]])
theorem splitI_ne (c : Int) (L : List Int) : splitI c L ≠ [] := by
  cases L with
  | nil => simp [splitI]
  | cons x r =>
    unfold splitI
    split
    · simp
    · split <;> simp
theorem splitI_none {c : Int} : ∀ {L : List Int}, c ∉ L → splitI c L = [L]
  | [], _ => rfl
  | x :: r, h => by
    simp only [List.mem_cons, not_or] at h
    unfold splitI
    rw [if_neg (fun e => h.1 e.symm), splitI_none h.2]
theorem splitI_app {c : Int} : ∀ {A : List Int} (R : List Int), c ∉ A → splitI c (A ++ c :: R) = A :: splitI c R
  | [], R, _ => by rw [List.nil_append, splitI, if_pos rfl]
  | x :: r, R, h => by
    simp only [List.mem_cons, not_or] at h
    rw [List.cons_append, splitI, if_neg (fun e => h.1 e.symm), splitI_app R h.2]
theorem splitB_step (c : UInt8) (s : ByteArray) (ih : ∀ t : ByteArray, t.size < s.size → (Lib.splitB ⟨#[c]⟩ 0 (Lib.countB t ⟨#[c]⟩) t).map bytesOf = splitI (c.toNat : Int) (bytesOf t)) : (Lib.splitB ⟨#[c]⟩ 0 (Lib.countB s ⟨#[c]⟩) s).map bytesOf = splitI (c.toNat : Int) (bytesOf s) := by
  have hix : Lib.indexB s ⟨#[c]⟩ = match idxL (bytesOf s) (c.toNat : Int) with | some i => (i : Int) | none => -1 := by
    have := idx_byte s.data.toList c
    rw [← Lib.index_one] at this
    exact this
  cases hI : idxL (bytesOf s) (c.toNat : Int) with
  | none =>
    rw [hI] at hix
    rw [Lib.countB_miss s _ hix, splitI_none (idx_none hI)]
    rfl
  | some i =>
    rw [hI] at hix
    obtain ⟨h1, h2, h3, h4⟩ := idx_some hI
    have hc := Lib.countB_hit s ⟨#[c]⟩ i (Nat.le_refl _) hix
    have e1 : (⟨#[c]⟩ : ByteArray).size = 1 := rfl
    rw [e1] at hc
    have hsz : (s.extract (i + 1) s.size).size < s.size := by
      rw [by_len] at h1
      rw [ByteArray.size_extract]
      omega
    have ih := ih (s.extract (i + 1) s.size) hsz
    rw [show Lib.countB s ⟨#[c]⟩ = Lib.countB (s.extract (i + 1) s.size) ⟨#[c]⟩ + 1 by omega, Lib.splitB_hit _ _ _ _ i hix, List.map_cons, e1, ih]
    have e2 : bytesOf (s.extract 0 (i + 0)) = (bytesOf s).take i := by rw [by_ext, List.drop_zero, Nat.add_zero]
    have e3 : bytesOf (s.extract (i + 1) s.size) = (bytesOf s).drop (i + 1) := by rw [by_ext, ← by_len, List.take_length]
    rw [e2, e3]
    conv => rhs; rw [h4]
    rw [splitI_app _ h3]
theorem splitB_map (c : UInt8) (n : Nat) : ∀ s : ByteArray, s.size ≤ n → (Lib.splitB ⟨#[c]⟩ 0 (Lib.countB s ⟨#[c]⟩) s).map bytesOf = splitI (c.toNat : Int) (bytesOf s) := by
  induction n with
  | zero => exact fun s hs => splitB_step c s fun t ht => absurd ht (by omega)
  | succ n ih => exact fun s hs => splitB_step c s fun t ht => ih t (by omega)
theorem split_f (s : ByteArray) (c : UInt8) (hs : s.size < 4294967281) : ∃ l, strings_Split.f s (⟨#[c]⟩ : ByteArray) = some l ∧ l.map bytesOf = splitI (c.toNat : Int) (bytesOf s) := by
  refine ⟨_, ?_, splitB_map c s.size s (Nat.le_refl _)⟩
  unfold strings_Split.f
  rw [if_pos ⟨rfl, hs⟩]
def okB (b : Int) : Bool := decide (32 < b) && decide (b ≤ 126)
def goodP (p : List Int) : Bool := !p.isEmpty && p.all okB
theorem sp_len (c : Int) : ∀ L : List Int, (splitI c L).length ≤ L.length + 1
  | [] => by simp [splitI]
  | x :: r => by
    have ih := sp_len c r
    unfold splitI
    split
    · simp only [List.length_cons]; omega
    · split
      · rename_i p q h
        rw [h] at ih
        simp only [List.length_cons] at ih ⊢
        omega
      · simp
theorem field_loop (acc : List ByteArray) (x : ByteArray) (ps : List ByteArray) (n j : Int) (hx : x.size ≤ 4611686018427387904) (ha : acc.length < 8796093022208) : ∀ (d i : Nat), i + d = x.size → (((bytesOf x).drop i).all okB = false → Ev (fun k => words_Fields.l1 k acc 0 x ps n j x.size i) (([], 5) : List ByteArray × Int)) ∧ (((bytesOf x).drop i).all okB = true → ∀ r, Ev (fun k => words_Fields.l0 k (acc ++ [x]) 0 ps n (wrap64 (j + 1))) r → Ev (fun k => words_Fields.l1 k acc 0 x ps n j x.size i) r)
  | 0, i, hd => by
    rw [by_end x i (by omega)]
    refine ⟨fun h => absurd h (by decide), fun _ r hr => ?_⟩
    refine Ev_succ ?_
    simp only [words_Fields.l1, if_neg (show ¬ ((i : Int) < (x.size : Int)) by omega), if_pos ha]
    exact hr
  | d + 1, i, hd => by
    have hi : i < x.size := by omega
    have ih := field_loop acc x ps n j hx ha d (i + 1) (by omega)
    rw [by_drop x i hi, List.all_cons]
    have hb : okB (bt x (i : Int)) = true ↔ (32 < bt x (i : Int) ∧ bt x (i : Int) ≤ 126) := by unfold okB; simp
    by_cases c1 : bt x (i : Int) ≤ 32
    · have hf : okB (bt x (i : Int)) = false := by
        rw [← Bool.not_eq_true, hb]; omega
      rw [hf, Bool.false_and]
      refine ⟨fun _ => Ev_succ ?_, fun h => absurd h (by decide)⟩
      simp only [words_Fields.l1, if_pos (show (i : Int) < (x.size : Int) by omega), if_pos (show 0 ≤ (i : Int) by omega), if_pos c1, if_neg (show ¬ (5 : Int) = 0 by decide)]
      exact Ev.now _
    · by_cases c2 : bt x (i : Int) > 126
      · have hf : okB (bt x (i : Int)) = false := by
          rw [← Bool.not_eq_true, hb]; omega
        rw [hf, Bool.false_and]
        refine ⟨fun _ => Ev_succ ?_, fun h => absurd h (by decide)⟩
        simp only [words_Fields.l1, if_pos (show (i : Int) < (x.size : Int) by omega), if_pos (show 0 ≤ (i : Int) by omega), if_neg c1, if_pos c2, if_neg (show ¬ (5 : Int) = 0 by decide)]
        exact Ev.now _
      · have hf : okB (bt x (i : Int)) = true := by rw [hb]; omega
        rw [hf, Bool.true_and]
        refine ⟨fun h => Ev_succ ?_, fun h r hr => Ev_succ ?_⟩
        · simp only [words_Fields.l1, if_pos (show (i : Int) < (x.size : Int) by omega), if_pos (show 0 ≤ (i : Int) by omega), if_neg c1, if_neg c2, w_succ hi (by omega)]
          exact ih.1 h
        · simp only [words_Fields.l1, if_pos (show (i : Int) < (x.size : Int) by omega), if_pos (show 0 ≤ (i : Int) by omega), if_neg c1, if_neg c2, w_succ hi (by omega)]
          exact ih.2 h r hr
theorem fields_loop (ps : List ByteArray) (hp : ps.length < 8796093022208) (hz : ∀ p ∈ ps, p.size ≤ 4611686018427387904) : ∀ (d i : Nat), i + d = ps.length → Ev (fun k => words_Fields.l0 k (ps.take i) 0 ps ps.length i) (if ((ps.drop i).all fun p => goodP (bytesOf p)) = true then (ps, 0) else ([], 5))
  | 0, i, hd => by
    refine Ev_succ ?_
    simp only [words_Fields.l0, if_neg (show ¬ ((i : Int) < (ps.length : Int)) by omega), if_true]
    rw [List.drop_of_length_le (by omega), List.take_of_length_le (by omega)]
    exact Ev.now _
  | d + 1, i, hd => by
    have hi : i < ps.length := by omega
    have ih := fields_loop ps hp hz d (i + 1) (by omega)
    have hr : rdOf ByteArray.empty ps (i : Int) = ps[i] := rdOf_nat _ _ _ hi
    refine Ev_succ ?_
    simp only [words_Fields.l0, if_pos (show (i : Int) < (ps.length : Int) by omega), if_pos (show 0 ≤ (i : Int) by omega), hr]
    rw [drop_cons ps i hi, List.all_cons]
    by_cases c : ps[i].toList = []
    · have hg : goodP (bytesOf ps[i]) = false := by rw [(by_emp _).1 c]; rfl
      simp only [if_pos c, if_neg (show ¬ (5 : Int) = 0 by decide), hg, Bool.false_and, Bool.false_eq_true, if_false]
      exact Ev.now _
    · have hne : bytesOf ps[i] ≠ [] := fun h => c ((by_emp _).2 h)
      have hem : (bytesOf ps[i]).isEmpty = false := by simpa using hne
      have hl := field_loop (ps.take i) ps[i] ps ps.length i (hz _ (List.getElem_mem hi)) (by rw [List.length_take]; omega) ps[i].size 0 (by omega)
      rw [List.drop_zero] at hl
      simp only [if_neg c]
      have hg : goodP (bytesOf ps[i]) = (bytesOf ps[i]).all okB := by unfold goodP; rw [hem]; simp
      rw [hg]
      cases ha : (bytesOf ps[i]).all okB with
      | false =>
        simp only [Bool.false_and, Bool.false_eq_true, if_false]
        exact hl.1 ha
      | true =>
        rw [Bool.true_and]
        refine hl.2 ha _ ?_
        rw [w_succ hi (by omega), show ps.take i ++ [ps[i]] = ps.take (i + 1) from (List.take_append_getElem hi)]
        exact ih
def fieldsE (L : List Int) : List (List Int) × Int := if 512 < L.length then ([], 8) else if L = [] then ([], 0) else if (splitI 32 L).all goodP = true then (splitI 32 L, 0) else ([], 5)
theorem map_str (l : List ByteArray) : (l.map bytesOf).map strOfNums = l := by
  rw [List.map_map]
  conv => rhs; rw [← List.map_id l]
  exact List.map_congr_left fun x _ => str_by x
def fieldsS (s : ByteArray) : List ByteArray × Int := ((fieldsE (bytesOf s)).1.map strOfNums, (fieldsE (bytesOf s)).2)
theorem fields_f (s : ByteArray) : Ev (fun k => words_Fields.f k s) (fieldsS s) := by
  unfold words_Fields.f fieldsS fieldsE
  rw [by_len]
  by_cases c1 : 512 < s.size
  · simp only [if_pos c1, if_pos (show (s.size : Int) > 512 by omega)]
    exact Ev.now _
  simp only [if_neg c1, if_neg (show ¬ (s.size : Int) > 512 by omega)]
  by_cases c2 : s.toList = []
  · simp only [if_pos c2, if_pos ((by_emp s).1 c2)]
    exact Ev.now _
  simp only [if_neg c2, if_neg (fun h => c2 ((by_emp s).2 h))]
  obtain ⟨l, h1, h2⟩ := split_f s 32 (by omega)
  rw [h1]
  simp only [Option.bind_some]
  have hlen : l.length ≤ s.size + 1 := by
    have := sp_len 32 (bytesOf s)
    rw [show ((32 : UInt8).toNat : Int) = 32 from rfl] at h2
    rw [← h2, List.length_map, by_len] at this
    exact this
  have hsz : ∀ p ∈ l, p.size ≤ 4611686018427387904 := by
    intro p hp
    have hm : bytesOf p ∈ splitI 32 (bytesOf s) := by
      rw [show ((32 : UInt8).toNat : Int) = 32 from rfl] at h2
      rw [← h2]
      exact List.mem_map_of_mem hp
    have key : ∀ (L : List Int), ∀ q ∈ splitI 32 L, q.length ≤ L.length := by
      intro L
      induction L with
      | nil => intro q hq; simp [splitI] at hq; subst hq; simp
      | cons x r ih =>
        intro q hq
        unfold splitI at hq
        split at hq
        · rcases List.mem_cons.1 hq with h | h
          · subst h; simp
          · have := ih q h; simp; omega
        · split at hq
          · rename_i p1 q1 he
            rcases List.mem_cons.1 hq with h | h
            · subst h
              have := ih p1 (by rw [he]; simp)
              simp; omega
            · have := ih q (by rw [he]; simp [h])
              simp; omega
          · simp at hq; subst hq; simp
    have := key _ _ hm
    rw [by_len, by_len] at this
    omega
  have hf := fields_loop l (by omega) hsz l.length 0 (by omega)
  rw [List.take_zero, List.drop_zero] at hf
  have hall : (l.all fun p => goodP (bytesOf p)) = (splitI 32 (bytesOf s)).all goodP := by
    rw [show ((32 : UInt8).toNat : Int) = 32 from rfl] at h2
    rw [← h2, List.all_map]
    rfl
  rw [hall] at hf
  by_cases c3 : (splitI 32 (bytesOf s)).all goodP = true
  · rw [if_pos c3] at hf
    simp only [if_pos c3]
    rw [show ((32 : UInt8).toNat : Int) = 32 from rfl] at h2
    rw [← h2, map_str]
    exact hf
  · rw [if_neg c3] at hf
    simp only [if_neg c3]
    exact hf
def joinI : List (List Int) → List Int
  | [] => []
  | [x] => x
  | x :: y :: r => x ++ 32 :: joinI (y :: r)
theorem join_bytes : ∀ l : List ByteArray, bytesOf ⟨(Lib.join (l.map (·.data.toList)) (⟨#[32]⟩ : ByteArray).data.toList).toArray⟩ = joinI (l.map bytesOf)
  | [] => rfl
  | [x] => by
    show List.map _ (Lib.join [x.data.toList] [32]).toArray.toList = _
    rw [Lib.join_one]
    rfl
  | x :: y :: r => by
    have ih := join_bytes (y :: r)
    have e : Lib.join ((x :: y :: r).map (·.data.toList)) [32] = x.data.toList ++ 32 :: Lib.join ((y :: r).map (·.data.toList)) [32] := by
      simp only [List.map_cons, Lib.join_cons, Lib.joinTail, List.flatten_cons]
      rfl
    show List.map _ (Lib.join ((x :: y :: r).map (·.data.toList)) [32]).toArray.toList = _
    rw [e]
    have ih2 : List.map (fun b : UInt8 => (b.toNat : Int)) (Lib.join ((y :: r).map (·.data.toList)) [32]) = joinI ((y :: r).map bytesOf) := ih
    simp only [List.toList_toArray, List.map_append, List.map_cons, joinI] at ih2 ⊢
    rw [ih2]
    rfl
def joinS (l : List ByteArray) : ByteArray := strOfNums (joinI (l.map bytesOf))
theorem join_rng (l : List ByteArray) : ∀ x ∈ joinI (l.map bytesOf), 0 ≤ x ∧ x < 256 := by
  rw [← join_bytes]
  exact by_rng _
theorem joinS_by (l : List ByteArray) : bytesOf (joinS l) = joinI (l.map bytesOf) := by_str _ (join_rng l)
theorem join_len : ∀ l : List (List Int), (joinI l).length ≤ (l.map fun x => x.length + 1).sum
  | [] => by simp [joinI]
  | [x] => by simp [joinI]
  | x :: y :: r => by
    have := join_len (y :: r)
    simp only [joinI, List.length_append, List.length_cons, List.map_cons, List.sum_cons] at this ⊢
    omega
def sumZ (l : List ByteArray) : Nat := (l.map fun x => x.size + 1).sum
theorem join_f (l : List ByteArray) (h : sumZ l ≤ 140737488355328) : words_Join.f l = some (joinS l) := by
  have hb := join_bytes l
  have hl : (Lib.join (l.map (·.data.toList)) (⟨#[32]⟩ : ByteArray).data.toList).length ≤ 140737488355328 := by
    have h1 := join_len (l.map bytesOf)
    have e : (l.map bytesOf).map (fun x => x.length + 1) = l.map fun x => x.size + 1 := by
      rw [List.map_map]
      exact List.map_congr_left fun x _ => by simp [by_len]
    rw [e, ← hb, by_len] at h1
    exact Nat.le_trans h1 h
  have hn : l.length ≤ 140737488355328 := by
    have : l.length ≤ sumZ l := by
      unfold sumZ
      clear hb hl h
      induction l with
      | nil => simp
      | cons x r ih => simp only [List.map_cons, List.sum_cons, List.length_cons]; omega
    omega
  unfold words_Join.f words_together.f strings_Join.f
  rw [if_pos ⟨hl, hn⟩]
  simp only [Option.bind_some]
  congr 1
  apply by_inj
  rw [hb, joinS_by]
end Go.Proofs.YtieifncibojciaaDoor.P
end
section
namespace Go.Proofs.YtieifncibojciaaDoor.P
set_option linter.unusedVariables false
set_option linter.unusedSimpArgs false
open Go.RowKit Go.Proofs.YtieifncibojciaaDoorW.PrintWords Go.Proofs.YtieifncibojciaaDoorW.PrintMore Go.Proofs.YtieifncibojciaaDoor.X
def letterB (n : Int) : Bool := decide (97 ≤ n) && decide (n ≤ 122)
def digitB (n : Int) : Bool := decide (48 ≤ n) && decide (n ≤ 57)
theorem letter_f (n : Int) : words_letter.f n = some (letterB n) := by
  unfold words_letter.f letterB
  by_cases h : 97 ≤ n
  · rw [if_pos h, decide_eq_true h, Bool.true_and]
  · rw [if_neg h, decide_eq_false h, Bool.false_and]
theorem digit_f (n : Int) : words_digit.f n = some (digitB n) := by
  unfold words_digit.f digitB
  by_cases h : 48 ≤ n
  · rw [if_pos h, decide_eq_true h, Bool.true_and]
  · rw [if_neg h, decide_eq_false h, Bool.false_and]
def chB (s : ByteArray) (i : Nat) : Bool := letterB (bt s (i : Int)) || (!(i == 0) && digitB (bt s (i : Int)))
def nameFrom (s : ByteArray) : Nat → Nat → Bool
  | 0, _ => true
  | d + 1, i => chB s i && nameFrom s d (i + 1)
def nameB (s : ByteArray) : Bool := decide (0 < s.size) && decide (s.size ≤ 12) && nameFrom s s.size 0
theorem nameLoop (s : ByteArray) (hs : s.size ≤ 12) (h0 : letterB (bt s 0) = true) : ∀ (d i : Nat), i + d = s.size → Ev (fun k => words_Name.l0 k s s.size i) (nameFrom s d i)
  | 0, i, hd => by
    refine Ev_succ ?_
    simp only [words_Name.l0, if_neg (show ¬ ((i : Int) < (s.size : Int)) by omega)]
    exact Ev.now _
  | d + 1, i, hd => by
    have hi : i < s.size := by omega
    have ih := nameLoop s hs h0 d (i + 1) (by omega)
    refine Ev_succ ?_
    simp only [words_Name.l0, if_pos (show (i : Int) < (s.size : Int) by omega), if_pos (show 0 ≤ (i : Int) by omega), letter_f, digit_f, Option.bind_some, w_succ hi (by omega), nameFrom, chB]
    cases h1 : letterB (bt s (i : Int)) with
    | true => simp only [if_true, Bool.true_or, Bool.true_and]; exact ih
    | false =>
      simp only [Bool.false_eq_true, if_false, Bool.false_or]
      have hi0 : (i == 0) = false := by
        rw [← Bool.not_eq_true, beq_iff_eq]
        rintro rfl
        rw [show ((0 : Nat) : Int) = 0 from rfl, h0] at h1
        cases h1
      simp only [hi0, Bool.not_false, Bool.true_and]
      cases h2 : digitB (bt s (i : Int)) with
      | true => simp only [if_true, Bool.true_and]; exact ih
      | false => simp only [Bool.false_eq_true, if_false, Bool.false_and]; exact Ev.now _
theorem name_f (s : ByteArray) : Ev (fun k => words_Name.f k s) (nameB s) := by
  have hj : nameB s = false → Ev (fun k => words_Name.j0 k s true) (nameB s) := by
    intro h
    rw [h]
    refine Ev_succ ?_
    simp only [words_Name.j0, if_true]
    exact Ev.now _
  unfold words_Name.f
  by_cases c0 : s.toList = []
  · simp only [if_pos c0]
    refine hj ?_
    have : s.size = 0 := by
      have e : s.toList = s.data.toList := ByteArray.toList_eq s
      rw [e] at c0
      have := congrArg List.length c0
      simpa using this
    simp [nameB, this]
  · simp only [if_neg c0]
    by_cases c1 : (s.size : Int) > 12
    · simp only [if_pos c1]
      exact hj (by simp [nameB]; omega)
    · have hp : 0 < s.size := by
        rcases Nat.eq_zero_or_pos s.size with h | h
        · exfalso
          apply c0
          have e : s.toList = s.data.toList := ByteArray.toList_eq s
          rw [e]
          exact List.length_eq_zero_iff.1 (by simpa using h)
        · exact h
      simp only [if_neg c1, if_pos (show 0 < (s.size : Int) by omega), letter_f, Option.bind_some]
      have hn : nameB s = nameFrom s s.size 0 := by
        unfold nameB
        rw [decide_eq_true hp, decide_eq_true (show s.size ≤ 12 by omega)]
        simp
      cases h1 : letterB (bt s 0) with
      | false =>
        refine hj ?_
        rw [hn]
        obtain ⟨d, hd⟩ : ∃ d, s.size = d + 1 := ⟨s.size - 1, by omega⟩
        rw [hd]
        simp [nameFrom, chB, h1]
      | true =>
        refine Ev_succ ?_
        simp only [words_Name.j0, Bool.not_true, Bool.false_eq_true, if_false]
        rw [hn]
        exact nameLoop s (by omega) h1 s.size 0 (by omega)
theorem nameRLoop (s : ByteArray) (hs : s.size ≤ 4611686018427387904) : ∀ (d i : Nat), i + d = s.size → Ev (fun k => contangoref03_Name.l0 k s i) (nameFrom s d i && (decide (0 < s.size) && decide (s.size ≤ 12)))
  | 0, i, hd => by
    refine Ev_succ ?_
    simp only [contangoref03_Name.l0, if_neg (show ¬ ((i : Int) < (s.size : Int)) by omega), nameFrom, Bool.true_and]
    by_cases c : (s.size : Int) > 0
    · simp only [if_pos c, decide_eq_true (show 0 < s.size by omega), Bool.true_and]
      have : decide ((s.size : Int) ≤ 12) = decide (s.size ≤ 12) := by rw [decide_eq_decide]; omega
      rw [this]
      exact Ev.now _
    · simp only [if_neg c, decide_eq_false (show ¬ 0 < s.size by omega), Bool.false_and]
      exact Ev.now _
  | d + 1, i, hd => by
    have hi : i < s.size := by omega
    have ih := nameRLoop s hs d (i + 1) (by omega)
    rw [← w_succ hi (by omega)] at ih
    refine Ev_succ ?_
    simp only [contangoref03_Name.l0, if_pos (show (i : Int) < (s.size : Int) by omega), if_pos (show 0 ≤ (i : Int) by omega), nameFrom]
    have step : chB s i = true → Ev (fun k => contangoref03_Name.l0 k s (wrap64 ((i : Int) + 1))) (chB s i && nameFrom s d (i + 1) && (decide (0 < s.size) && decide (s.size ≤ 12))) := by
      intro h
      rw [h, Bool.true_and]
      exact ih
    have stop : chB s i = false → Ev (fun _ => (some false : Option Bool)) (chB s i && nameFrom s d (i + 1) && (decide (0 < s.size) && decide (s.size ≤ 12))) := by
      intro h
      rw [h, Bool.false_and, Bool.false_and]
      exact Ev.now _
    have rest : letterB (bt s (i : Int)) = false → Ev (fun k => if (i : Int) = 0 then some false else if bt s (i : Int) < 48 then some false else if bt s (i : Int) > 57 then some false else contangoref03_Name.l0 k s (wrap64 ((i : Int) + 1))) (chB s i && nameFrom s d (i + 1) && (decide (0 < s.size) && decide (s.size ≤ 12))) := by
      intro hl
      by_cases c0 : (i : Int) = 0
      · have hi0 : (i == 0) = true := by rw [beq_iff_eq]; omega
        simp only [if_pos c0]
        exact stop (by unfold chB; rw [hl, hi0]; rfl)
      · by_cases c1 : bt s (i : Int) < 48
        · simp only [if_neg c0, if_pos c1]; exact stop (by simp [chB, hl, digitB]; omega)
        · by_cases c2 : bt s (i : Int) > 57
          · simp only [if_neg c0, if_neg c1, if_pos c2]; exact stop (by simp [chB, hl, digitB]; omega)
          · simp only [if_neg c0, if_neg c1, if_neg c2]; exact step (by simp [chB, hl, digitB]; omega)
    by_cases g1 : bt s (i : Int) ≥ 97
    · by_cases g2 : bt s (i : Int) ≤ 122
      · simp only [if_pos g1, if_pos g2]; exact step (by simp [chB, letterB]; omega)
      · simp only [if_pos g1, if_neg g2]; exact rest (by simp [letterB]; omega)
    · simp only [if_neg g1]; exact rest (by simp [letterB]; omega)
theorem nameR_f (s : ByteArray) (hs : s.size ≤ 4611686018427387904) : Ev (fun k => contangoref03_Name.f k s) (nameB s) := by
  have h := nameRLoop s hs s.size 0 (by omega)
  have e : nameB s = (nameFrom s s.size 0 && (decide (0 < s.size) && decide (s.size ≤ 12))) := by
    unfold nameB
    rw [Bool.and_comm]
  rw [e]
  exact h
end Go.Proofs.YtieifncibojciaaDoor.P
end
section
namespace Go.Proofs.YtieifncibojciaaDoor.P
set_option linter.unusedVariables false
set_option linter.unusedSimpArgs false
open Go.RowKit Go.Proofs.YtieifncibojciaaDoorW.PrintWords Go.Proofs.YtieifncibojciaaDoorW.PrintMore Go.Proofs.YtieifncibojciaaDoor.X
def plainL (L : List Int) : Bool := !L.isEmpty && !(decide (1 < L.length) && L.head? == some 48) && L.all digitB
def numV (n : Int) (L : List Int) : Int := L.foldl (fun n b => 10 * n + (b - 48)) n
def numR (n : Int) (L : List Int) (minus : Bool) : Int × Int := if 1152921504606846976 < numV n L then (0, 3) else (if minus then -(numV n L) else numV n L, 0)
def unsign (L : List Int) : List Int × Bool := if L.head? = some 45 then (L.tail, true) else (L, false)
def intL (L : List Int) : Int × Int := if plainL (unsign L).1 = true ∧ ¬((unsign L).2 = true ∧ (unsign L).1 = [48]) then numR 0 (unsign L).1 (unsign L).2 else (0, 5)
theorem dig_rng {x : Int} (h : digitB x = true) : 48 ≤ x ∧ x ≤ 57 := by
  unfold digitB at h
  simp only [Bool.and_eq_true, decide_eq_true_eq] at h
  exact h
theorem numV_mono : ∀ (L : List Int) (n : Int), 0 ≤ n → (∀ x ∈ L, digitB x = true) → n ≤ numV n L
  | [], n, _, _ => Int.le_refl _
  | x :: L, n, h, hd => by
    have h1 := dig_rng (hd x (by simp))
    have := numV_mono L (10 * n + (x - 48)) (by omega) fun y hy => hd y (by simp [hy])
    unfold numV at this ⊢
    rw [List.foldl_cons]
    omega
theorem num_step (n d : Int) (h0 : 0 ≤ n) (h1 : n ≤ 1152921504606846976) (h2 : 0 ≤ d) (h3 : d ≤ 9) : (10 * n + d ≤ 9223372036854775807 ∧ wrap64 (wrap64 (10 * n) + d) = 10 * n + d) ∨ (9223372036854775807 < 10 * n + d ∧ wrap64 (wrap64 (10 * n) + d) < 0) := by
  unfold wrap64
  omega
theorem neg_w (n : Int) (h0 : 0 ≤ n) (h1 : n ≤ 1152921504606846976) : wrap64 (-n) = -n := w_id (by omega) (by omega)
theorem digits_loop (s : ByteArray) (hs : s.size ≤ 4611686018427387904) : ∀ (d i : Nat), i + d = s.size → Ev (fun k => words_digits.l0 k s s.size i) (((bytesOf s).drop i).all digitB)
  | 0, i, hd => by
    refine Ev_succ ?_
    simp only [words_digits.l0, if_neg (show ¬ ((i : Int) < (s.size : Int)) by omega)]
    rw [by_end s i (by omega)]
    exact Ev.now _
  | d + 1, i, hd => by
    have hi : i < s.size := by omega
    have ih := digits_loop s hs d (i + 1) (by omega)
    refine Ev_succ ?_
    simp only [words_digits.l0, if_pos (show (i : Int) < (s.size : Int) by omega), if_pos (show 0 ≤ (i : Int) by omega), digit_f, Option.bind_some, w_succ hi (by omega)]
    rw [by_drop s i hi, List.all_cons]
    cases h : digitB (bt s (i : Int)) with
    | true => simp only [if_true, Bool.true_and]; exact ih
    | false => simp only [Bool.false_eq_true, if_false, Bool.false_and]; exact Ev.now _
theorem digits_f (s : ByteArray) (hs : s.size ≤ 4611686018427387904) : Ev (fun k => words_digits.f k s) ((bytesOf s).all digitB) := by
  unfold words_digits.f
  exact digits_loop s hs s.size 0 (by omega)
theorem number_loop (s : ByteArray) (minus : Bool) (hs : s.size ≤ 4611686018427387904) (hall : ∀ x ∈ bytesOf s, digitB x = true) : ∀ (d i : Nat) (n : Int), i + d = s.size → 0 ≤ n → n ≤ 1152921504606846976 → Ev (fun k => words_number.l0 k s minus n s.size i) (numR n ((bytesOf s).drop i) minus)
  | 0, i, n, hd, h0, h1 => by
    refine Ev_succ ?_
    simp only [words_number.l0, if_neg (show ¬ ((i : Int) < (s.size : Int)) by omega)]
    rw [by_end s i (by omega)]
    have hc : numR n [] minus = (if minus then -n else n, 0) := by
      unfold numR numV
      rw [List.foldl_nil, if_neg (show ¬ 1152921504606846976 < n by omega)]
    rw [hc]
    cases minus with
    | true => simp only [if_true, neg_w n h0 h1]; exact Ev.now _
    | false => simp only [Bool.false_eq_true, if_false]; exact Ev.now _
  | d + 1, i, n, hd, h0, h1 => by
    have hi : i < s.size := by omega
    have hb : digitB (bt s (i : Int)) = true := hall _ (by
      have h' : i < (bytesOf s).length := by rw [by_len]; exact hi
      rw [by_bt s i h']
      exact List.getElem_mem h')
    have hb2 := dig_rng hb
    refine Ev_succ ?_
    simp only [words_number.l0, if_pos (show (i : Int) < (s.size : Int) by omega), if_pos (show 0 ≤ (i : Int) by omega), w_succ hi (by omega), Int.emod_eq_of_lt (show 0 ≤ bt s (i : Int) - 48 by omega) (show bt s (i : Int) - 48 < 256 by omega)]
    rw [by_drop s i hi]
    have hr : ∀ x ∈ (bytesOf s).drop (i + 1), digitB x = true := fun x hx => hall x (List.mem_of_mem_drop hx)
    have hm := numV_mono ((bytesOf s).drop (i + 1)) (10 * n + (bt s (i : Int) - 48)) (by omega) hr
    have hc : numR n (bt s (i : Int) :: (bytesOf s).drop (i + 1)) minus = numR (10 * n + (bt s (i : Int) - 48)) ((bytesOf s).drop (i + 1)) minus := by
      unfold numR numV
      rw [List.foldl_cons]
    rw [hc]
    rcases num_step n (bt s (i : Int) - 48) h0 h1 (by omega) (by omega) with ⟨h2, h3⟩ | ⟨h2, h3⟩
    · simp only [h3, if_neg (show ¬ 10 * n + (bt s (i : Int) - 48) < 0 by omega)]
      by_cases h4 : 10 * n + (bt s (i : Int) - 48) > 1152921504606846976
      · simp only [if_pos h4]
        have : numR (10 * n + (bt s (i : Int) - 48)) ((bytesOf s).drop (i + 1)) minus = (0, 3) := by
          unfold numR
          rw [if_pos (by omega)]
        rw [this]
        exact Ev.now _
      · simp only [if_neg h4]
        exact number_loop s minus hs hall d (i + 1) _ (by omega) (by omega) (by omega)
    · simp only [if_pos h3]
      have : numR (10 * n + (bt s (i : Int) - 48)) ((bytesOf s).drop (i + 1)) minus = (0, 3) := by
        unfold numR
        rw [if_pos (by omega)]
      rw [this]
      exact Ev.now _
theorem number_f (s : ByteArray) (minus : Bool) (hs : s.size ≤ 4611686018427387904) (hall : ∀ x ∈ bytesOf s, digitB x = true) : Ev (fun k => words_number.f k s minus) (numR 0 (bytesOf s) minus) := by
  unfold words_number.f
  exact number_loop s minus hs hall s.size 0 0 (by omega) (by omega) (by omega)
theorem plain_all {L : List Int} (h : plainL L = true) : ∀ x ∈ L, digitB x = true := by
  unfold plainL at h
  simp only [Bool.and_eq_true] at h
  exact List.all_eq_true.1 h.2
theorem bt_head (s : ByteArray) (h : 0 < s.size) : (bytesOf s).head? = some (bt s 0) := by
  have := by_drop s 0 h
  rw [List.drop_zero] at this
  rw [this]
  rfl
theorem plain_f (s : ByteArray) (hs : s.size ≤ 4611686018427387904) : Ev (fun k => words_plain.f k s) (plainL (bytesOf s)) := by
  unfold words_plain.f plainL
  have hd := digits_f s hs
  by_cases c0 : s.toList = []
  · simp only [if_pos c0]
    rw [(by_emp s).1 c0]
    exact Ev.now _
  · simp only [if_neg c0]
    have h1 : bytesOf s ≠ [] := fun h => c0 ((by_emp s).2 h)
    have h2 : (bytesOf s).isEmpty = false := by simpa using h1
    have h3 : 0 < s.size := by
      rw [← by_len]
      exact List.length_pos_iff.2 h1
    rw [h2]
    simp only [Bool.not_false, Bool.true_and]
    by_cases c1 : (s.size : Int) > 1
    · simp only [if_pos c1, if_pos (show 0 < (s.size : Int) by omega)]
      have h4 : decide (1 < (bytesOf s).length) = true := by
        rw [by_len]
        exact decide_eq_true (by omega)
      rw [h4, bt_head s h3]
      simp only [Bool.true_and]
      by_cases c2 : bt s 0 = 48
      · simp only [if_pos c2, c2]
        simp
        exact Ev.now _
      · have h5 : (some (bt s 0) == some (48 : Int)) = false := by simpa using c2
        simp only [if_neg c2, h5, Bool.not_false, Bool.true_and]
        exact Ev_id hd
    · simp only [if_neg c1]
      have h4 : decide (1 < (bytesOf s).length) = false := by
        rw [by_len]
        exact decide_eq_false (by omega)
      rw [h4]
      simp only [Bool.false_and, Bool.not_false, Bool.true_and]
      exact Ev_id hd
theorem cutp_f (s : ByteArray) : strings_CutPrefix.f s (⟨#[45]⟩ : ByteArray) = some (strOfNums (unsign (bytesOf s)).1, (unsign (bytesOf s)).2) := by
  have hsz : (⟨#[45]⟩ : ByteArray).size = 1 := rfl
  have hl : bytesOf (⟨#[45]⟩ : ByteArray) = [45] := rfl
  have h0 : stringslite_HasPrefix.f s (⟨#[45]⟩ : ByteArray) = some (decide ((bytesOf s).head? = some 45)) := by
    unfold stringslite_HasPrefix.f
    rw [hsz]
    by_cases c : (s.size : Int) ≥ ((1 : Nat) : Int)
    · rw [if_pos c, if_pos (by omega), if_pos (by omega)]
      congr 1
      have h3 : 0 < s.size := by omega
      have hd := by_drop s 0 h3
      rw [List.drop_zero] at hd
      have he : bytesOf (s.extract 0 1) = [bt s 0] := by rw [by_ext, hd]; rfl
      rw [bt_head s h3]
      rw [Bool.eq_iff_iff, beq_iff_eq, decide_eq_true_eq, by_eq]
      constructor
      · intro h
        have := congrArg bytesOf h
        rw [show (((1 : Nat) : Int)).toNat = 1 from rfl, he, hl] at this
        simpa using this
      · intro h
        apply by_inj
        rw [show (((1 : Nat) : Int)).toNat = 1 from rfl, he, hl]
        simpa using h
    · rw [if_neg c]
      have h4 : bytesOf s = [] := List.length_eq_zero_iff.1 (by rw [by_len]; omega)
      rw [h4]
      simp
  unfold strings_CutPrefix.f stringslite_CutPrefix.f
  rw [h0]
  simp only [Option.bind_some]
  unfold unsign
  by_cases c : (bytesOf s).head? = some 45
  · have h3 : 0 < s.size := by
      rw [← by_len]
      rcases hb : bytesOf s with _ | ⟨x, r⟩
      · rw [hb] at c; simp at c
      · simp
    rw [if_pos (decide_eq_true c), if_pos c, hsz, if_pos (by omega), if_pos (by omega)]
    simp only [Option.bind_some]
    congr 2
    apply by_inj
    rw [by_ext, by_str _ fun x hx => by_rng s x (List.mem_of_mem_tail hx), show (((1 : Nat) : Int)).toNat = 1 from rfl, ← by_len, List.take_length, List.drop_one]
  · rw [if_neg (by simpa using c), if_neg c]
    simp only [Option.bind_some]
    rw [str_by]
theorem unsign_rng {L : List Int} (h : ∀ x ∈ L, 0 ≤ x ∧ x < 256) : ∀ x ∈ (unsign L).1, 0 ≤ x ∧ x < 256 := by
  unfold unsign
  split
  · exact fun x hx => h x (List.mem_of_mem_tail hx)
  · exact h
theorem unsign_len (L : List Int) : (unsign L).1.length ≤ L.length := by
  unfold unsign
  split
  · simp
  · exact Nat.le_refl _
theorem int_f (s : ByteArray) (hs : s.size ≤ 4611686018427387904) : Ev (fun k => words_Int.f k s) (intL (bytesOf s)) := by
  unfold words_Int.f intL
  rw [cutp_f]
  simp only [Option.bind_some]
  have hb := by_str (unsign (bytesOf s)).1 (unsign_rng (by_rng s))
  have hsz : (strOfNums (unsign (bytesOf s)).1).size ≤ 4611686018427387904 := by
    rw [strOfNums_size]
    have := unsign_len (bytesOf s)
    rw [by_len] at this
    omega
  refine Ev_bind (plain_f _ hsz) ?_
  rw [hb]
  generalize (unsign (bytesOf s)).2 = m
  generalize hT : (unsign (bytesOf s)).1 = T at hb hsz
  by_cases c0 : plainL T = true
  · simp only [if_pos c0]
    have hn := number_f (strOfNums T) m hsz (by rw [hb]; exact plain_all c0)
    rw [hb] at hn
    cases m with
    | false =>
      simp only [Bool.false_eq_true, if_false, false_and, not_false_eq_true, and_true, if_pos c0]
      exact Ev_bind hn (Ev.now _)
    | true =>
      simp only [if_true, true_and]
      by_cases c1 : (strOfNums T).toList = ([48] : List UInt8)
      · have c2 : T = [48] := by
          have := (by_toList (strOfNums T) [48]).1 c1
          rw [hb] at this
          exact this
        simp only [if_pos c1]
        rw [if_neg (by rintro ⟨_, h⟩; exact h c2)]
        exact Ev.now _
      · have c2 : ¬ T = [48] := by
          intro h
          apply c1
          rw [by_toList, hb, h]
          rfl
        simp only [if_neg c1]
        rw [if_pos ⟨c0, c2⟩]
        exact Ev_bind hn (Ev.now _)
  · simp only [if_neg c0]
    rw [if_neg (fun h => c0 h.1)]
    exact Ev.now _
theorem plain_zero {w : List Int} (h : plainL w = true) (h0 : numV 0 w = 0) : w = [48] := by
  have ha := plain_all h
  unfold plainL at h
  rcases w with _ | ⟨x, r⟩
  · simp at h
  · have hx := dig_rng (ha x (by simp))
    have hm := numV_mono r (x - 48) (by omega) fun y hy => ha y (by simp [hy])
    have he : numV 0 (x :: r) = numV (x - 48) r := by
      unfold numV
      rw [List.foldl_cons]
      congr 1
      omega
    rw [he] at h0
    obtain rfl : x = 48 := by omega
    rcases r with _ | ⟨y, r⟩
    · rfl
    · simp at h
end Go.Proofs.YtieifncibojciaaDoor.P
end
section
namespace Go.Proofs.YtieifncibojciaaDoor.P
set_option linter.unusedVariables false
set_option linter.unusedSimpArgs false
open Go.RowKit Go.Proofs.YtieifncibojciaaDoorW.PrintWords Go.Proofs.YtieifncibojciaaDoorW.PrintMore Go.Proofs.YtieifncibojciaaDoor.X
def digs (n : Nat) : List Int := if n < 10 then [48 + (n : Int)] else digs (n / 10) ++ [48 + ((n % 10 : Nat) : Int)]
termination_by n
decreasing_by omega
theorem digs_lt {n : Nat} (h : n < 10) : digs n = [48 + (n : Int)] := by rw [digs, if_pos h]
theorem digs_ge {n : Nat} (h : 10 ≤ n) : digs n = digs (n / 10) ++ [48 + ((n % 10 : Nat) : Int)] := by rw [digs, if_neg (by omega)]
theorem digs_ind {p : Nat → Prop} (h0 : ∀ n, n < 10 → p n) (h1 : ∀ n, 10 ≤ n → p (n / 10) → p n) (n : Nat) : p n := by
  induction n using Nat.strongRecOn with
  | _ n ih =>
    by_cases h : n < 10
    · exact h0 n h
    · exact h1 n (by omega) (ih _ (by omega))
theorem digitB_of {x : Int} (h1 : 48 ≤ x) (h2 : x ≤ 57) : digitB x = true := by
  unfold digitB
  rw [decide_eq_true h1, decide_eq_true h2, Bool.and_true]
theorem digs_all (n : Nat) : ∀ x ∈ digs n, digitB x = true := by
  induction n using digs_ind with
  | h0 n h =>
    rw [digs_lt h]
    intro x hx
    obtain rfl := List.mem_singleton.1 hx
    exact digitB_of (by omega) (by omega)
  | h1 n h ih =>
    rw [digs_ge h]
    intro x hx
    rcases List.mem_append.1 hx with h2 | h2
    · exact ih x h2
    · obtain rfl := List.mem_singleton.1 h2
      exact digitB_of (by omega) (by omega)
theorem digs_rng (n : Nat) : ∀ x ∈ digs n, 0 ≤ x ∧ x < 256 := fun x hx => by have := dig_rng (digs_all n x hx); omega
theorem digs_len : ∀ (k n : Nat), 0 < k → n < 10 ^ k → (digs n).length ≤ k
  | 0, n, h, _ => absurd h (by decide)
  | k + 1, n, _, h => by
    by_cases h2 : n < 10
    · rw [digs_lt h2]; simp
    · rw [digs_ge (by omega)]
      have hk : 0 < k := by
        rcases Nat.eq_zero_or_pos k with rfl | h3
        · simp at h; omega
        · exact h3
      have := digs_len k (n / 10) hk (by rw [Nat.pow_succ] at h; omega)
      simp only [List.length_append, List.length_cons, List.length_nil]
      omega
theorem decL_digs : ∀ (k : Nat) (u : Int) (acc : List Int), 0 < k → 0 ≤ u → u < 10 ^ k → decL k u acc = digs u.toNat ++ acc
  | 0, u, acc, h, _, _ => absurd h (by decide)
  | k + 1, u, acc, _, h0, h1 => by
    unfold decL
    by_cases c : u / 10 = 0
    · rw [if_pos c, digs_lt (by omega), show 48 + u % 10 = 48 + (u.toNat : Int) by omega]
      rfl
    · rw [if_neg c, digs_ge (by omega)]
      have hk : 0 < k := by
        rcases Nat.eq_zero_or_pos k with rfl | h3
        · simp at h1; omega
        · exact h3
      rw [decL_digs k (u / 10) _ hk (by omega) (by rw [Int.pow_succ] at h1; omega), show (u / 10).toNat = u.toNat / 10 by omega, show 48 + u % 10 = 48 + ((u.toNat % 10 : Nat) : Int) by omega, List.append_assoc]
      rfl
theorem decimal_f (u : Int) (h0 : 0 ≤ u) (h1 : u < 18446744073709551616) : words_decimal.f u = some (strOfNums (digs u.toNat)) := by
  unfold words_decimal.f
  rw [if_pos ⟨h0, h1⟩, decL_digs 20 u [] (by decide) h0 (by omega), List.append_nil]
def sgnL (n : Int) : List Int := if n < 0 then [45] else []
theorem len20 (n : Nat) (h : n < 18446744073709551616) : (digs n).length ≤ 20 := digs_len 20 n (by decide) (by omega)
def textL (n : Int) : List Int := sgnL n ++ digs n.natAbs
theorem wsize_f (n : Int) (h1 : -9223372036854775808 ≤ n) (h2 : n ≤ 9223372036854775807) : words_size.f n = some ((n.natAbs : Int), strOfNums (sgnL n)) := by
  unfold words_size.f sgnL
  by_cases c : n < 0
  · rw [if_pos c, if_pos c]
    have : IntKind.u64.wrap (-(IntKind.u64.wrap n)) = (n.natAbs : Int) := by
      simp only [IntKind.wrap, IntKind.bits, IntKind.signed, Bool.false_and, Bool.false_eq_true, if_false]
      omega
    rw [this]
    rfl
  · rw [if_neg c, if_neg c]
    have : IntKind.u64.wrap n = (n.natAbs : Int) := by
      simp only [IntKind.wrap, IntKind.bits, IntKind.signed, Bool.false_and, Bool.false_eq_true, if_false]
      omega
    rw [this]
    rfl
theorem flat_join (l : List ByteArray) : bytesOf ⟨(Lib.join (l.map (·.data.toList)) (⟨#[]⟩ : ByteArray).data.toList).toArray⟩ = (l.map bytesOf).flatten := by
  unfold bytesOf
  show ((Lib.join (l.map (·.data.toList)) []).toArray.toList).map _ = _
  rw [List.toList_toArray]
  unfold Lib.join
  rw [List.intercalate]
  have e : ∀ m : List (List UInt8), (List.intersperse [] m).flatten = m.flatten := by
    intro m
    induction m with
    | nil => rfl
    | cons x r ih =>
      cases r with
      | nil => rfl
      | cons y r =>
        simp only [List.intersperse_cons_cons, List.flatten_cons, List.nil_append] at ih ⊢
        rw [ih]
  rw [e, List.map_flatten, List.map_map]
  rfl
theorem join0_f (l : List ByteArray) (h : (l.map bytesOf).flatten.length ≤ 140737488355328) (h2 : l.length ≤ 140737488355328) : strings_Join.f l (⟨#[]⟩ : ByteArray) = some (strOfNums (l.map bytesOf).flatten) := by
  unfold strings_Join.f
  have e := flat_join l
  have hl : (Lib.join (l.map (·.data.toList)) (⟨#[]⟩ : ByteArray).data.toList).length = (l.map bytesOf).flatten.length := by
    rw [← e, by_len]
    rfl
  rw [if_pos ⟨by rw [hl]; exact h, h2⟩]
  congr 1
  apply by_inj
  rw [e, by_str]
  intro x hx
  obtain ⟨y, hy, hx⟩ := List.mem_flatten.1 hx
  obtain ⟨s, _, rfl⟩ := List.mem_map.1 hy
  exact by_rng s x hx
theorem sgn_rng (n : Int) : ∀ x ∈ sgnL n, 0 ≤ x ∧ x < 256 := by
  unfold sgnL
  intro x hx
  split at hx
  · obtain rfl := List.mem_singleton.1 hx; omega
  · cases hx
theorem sgn_len (n : Int) : (sgnL n).length ≤ 1 := by
  unfold sgnL
  split <;> simp
theorem bnd {α β : Type} {x : Option α} {a : α} {f : α → Option β} {r : Option β} (h : x = some a) (k : f a = r) : x.bind f = r := by rw [h]; exact k
theorem dec_nat (n : Nat) (h : n < 18446744073709551616) : words_decimal.f (n : Int) = some (strOfNums (digs n)) := by
  have := decimal_f (n : Int) (by omega) (by omega)
  rwa [Int.toNat_natCast] at this
theorem text_join (n : Int) (h1 : -9223372036854775808 ≤ n) (h2 : n ≤ 9223372036854775807) : strings_Join.f [strOfNums (sgnL n), strOfNums (digs n.natAbs)] (⟨#[]⟩ : ByteArray) = some (strOfNums (textL n)) := by
  have e : ([strOfNums (sgnL n), strOfNums (digs n.natAbs)].map bytesOf).flatten = textL n := by
    simp only [List.map_cons, List.map_nil, List.flatten_cons, List.flatten_nil, List.append_nil]
    rw [by_str _ (sgn_rng n), by_str _ (digs_rng _), textL]
  have hl : (textL n).length ≤ 140737488355328 := by
    unfold textL
    rw [List.length_append]
    have := sgn_len n
    have := len20 n.natAbs (by omega)
    omega
  rw [join0_f _ (by rw [e]; exact hl) (by simp), e]
theorem text_f (n : Int) (h1 : -9223372036854775808 ≤ n) (h2 : n ≤ 9223372036854775807) : words_Text.f n = some (strOfNums (textL n)) := by
  unfold words_Text.f words_together.f
  refine bnd (wsize_f n h1 h2) ?_
  refine bnd (dec_nat n.natAbs (by omega)) ?_
  exact bnd (bnd (text_join n h1 h2) (Eq.refl _)) (Eq.refl _)
theorem digs_size (n : Nat) (h : n < 18446744073709551616) : (strOfNums (digs n)).size ≤ 20 := by
  rw [strOfNums_size]
  exact digs_len 20 n (by decide) (by omega)
end Go.Proofs.YtieifncibojciaaDoor.P
end
section
namespace Go.Proofs.YtieifncibojciaaDoor.P
set_option linter.unusedVariables false
set_option linter.unusedSimpArgs false
open Go.RowKit Go.Proofs.YtieifncibojciaaDoorW.PrintWords Go.Proofs.YtieifncibojciaaDoorW.PrintMore Go.Proofs.YtieifncibojciaaDoor.X
abbrev Prod9 := S45
theorem Ev_or {α : Type} {g : Nat → Bool → Option α} {a b : Prop} [Decidable a] [Decidable b] {r : α} (ht : (a ∨ b) → Ev (fun k => g k true) r) (hf : ¬ (a ∨ b) → Ev (fun k => g k false) r) : Ev (fun k => if a then g k true else g k (decide b)) r := by
  by_cases ca : a
  · simp only [if_pos ca]; exact ht (Or.inl ca)
  · simp only [if_neg ca]
    by_cases cb : b
    · rw [decide_eq_true cb]; exact ht (Or.inr cb)
    · rw [decide_eq_false cb]; exact hf (fun h => h.elim ca cb)
theorem Ev_if {α : Type} {c : Prop} [Decidable c] {f g : Nat → Option α} {r : α} (h1 : c → Ev f r) (h2 : ¬ c → Ev g r) : Ev (fun k => if c then f k else g k) r := by
  by_cases h : c
  · simp only [if_pos h]; exact h1 h
  · simp only [if_neg h]; exact h2 h
def prodT (p : Prod9) : Int := if -16777216 ≤ p.f4 ∧ p.f4 ≤ 16777216 ∧ -16777216 ≤ p.f5 ∧ p.f5 ≤ 16777216 ∧ p.f4 ≤ p.f5 ∧ Int.tmod p.f4 p.f3 = 0 ∧ Int.tmod p.f5 p.f3 = 0 then 0 else 17
def prodE (p : Prod9) : Int := if nameB p.f0 = true then (if p.f1 < 0 ∨ p.f1 ≥ 8 then 25 else if p.f2 < 1 ∨ p.f2 > 4096 then 2 else if p.f3 < 1 ∨ p.f3 > 16777216 then 16 else prodT p) else 10
theorem pwithin_f (n : Int) : product_within.f n 16777216 = some (decide (-16777216 ≤ n) && decide (n ≤ 16777216)) := by
  unfold product_within.f
  have e : wrap64 (-16777216) = -16777216 := w_id (by omega) (by omega)
  rw [e]
  by_cases h : n ≥ -16777216
  · rw [if_pos h, decide_eq_true (show -16777216 ≤ n from h), Bool.true_and]
  · rw [if_neg h, decide_eq_false (show ¬ -16777216 ≤ n from h), Bool.false_and]
theorem within9_f (n a b : Int) : contangoref09_within.f n a b = some (decide (a ≤ n) && decide (n ≤ b)) := by
  unfold contangoref09_within.f
  by_cases h : n ≥ a
  · rw [if_pos h, decide_eq_true (show a ≤ n from h), Bool.true_and]
  · rw [if_neg h, decide_eq_false (show ¬ a ≤ n from h), Bool.false_and]
theorem and_iff (a b : Prop) [Decidable a] [Decidable b] : (decide a && decide b) = true ↔ a ∧ b := by simp
theorem prodT_of {p : Prod9} (h : ¬ (-16777216 ≤ p.f4 ∧ p.f4 ≤ 16777216 ∧ -16777216 ≤ p.f5 ∧ p.f5 ≤ 16777216 ∧ p.f4 ≤ p.f5 ∧ Int.tmod p.f4 p.f3 = 0 ∧ Int.tmod p.f5 p.f3 = 0)) : prodT p = 17 := if_neg h
theorem prod_f (p : Prod9) : Ev (fun k => product_Check.f k p.f0 p.f1 p.f2 p.f3 p.f4 p.f5 p.f6) (prodE p) := by
  have h3 : ¬ (p.f3 < 1 ∨ p.f3 > 16777216) → Ev (fun k => product_Check.j3 k false p.f0 p.f1 p.f2 p.f3 p.f4 p.f5 p.f6) (prodT p) := by
    intro c
    refine Ev_succ ?_
    simp only [product_Check.j3, Bool.false_eq_true, if_false, pwithin_f, Option.bind_some, and_iff]
    refine Ev_if (fun c1 => Ev_if (fun c2 => Ev_if (fun c3 => ?_) fun c3 => Ev_if (fun c4 => by omega) fun c4 => Ev_if (fun c5 => Ev_if (fun c6 => ?_) fun c6 => ?_) fun c5 => ?_) fun c2 => ?_) fun c1 => ?_
    · rw [prodT_of (by omega)]; exact Ev.now _
    · have : prodT p = 0 := if_pos ⟨c1.1, c1.2, c2.1, c2.2, by omega, c5, c6⟩
      rw [this]; exact Ev.now _
    · rw [prodT_of (fun h => c6 h.2.2.2.2.2.2)]; exact Ev.now _
    · rw [prodT_of (fun h => c5 h.2.2.2.2.2.1)]; exact Ev.now _
    · rw [prodT_of (by omega)]; exact Ev.now _
    · rw [prodT_of (by omega)]; exact Ev.now _
  have h0 : nameB p.f0 = true → Ev (fun k => product_Check.j0 k false p.f0 p.f1 p.f2 p.f3 p.f4 p.f5 p.f6) (prodE p) := by
    intro hn
    refine Ev_succ ?_
    unfold prodE
    rw [if_pos hn]
    simp only [product_Check.j0, Bool.false_eq_true, if_false]
    refine Ev_or (g := fun k b => product_Check.j1 k b p.f0 p.f1 p.f2 p.f3 p.f4 p.f5 p.f6) (fun c => ?_) (fun c => ?_)
    · rw [if_pos c]; refine Ev_succ ?_; simp only [product_Check.j1, if_true]; exact Ev.now _
    rw [if_neg c]
    refine Ev_succ ?_
    simp only [product_Check.j1, Bool.false_eq_true, if_false]
    refine Ev_or (g := fun k b => product_Check.j2 k b p.f0 p.f1 p.f2 p.f3 p.f4 p.f5 p.f6) (fun c => ?_) (fun c => ?_)
    · rw [if_pos c]; refine Ev_succ ?_; simp only [product_Check.j2, if_true]; exact Ev.now _
    rw [if_neg c]
    refine Ev_succ ?_
    simp only [product_Check.j2, Bool.false_eq_true, if_false]
    refine Ev_or (g := fun k b => product_Check.j3 k b p.f0 p.f1 p.f2 p.f3 p.f4 p.f5 p.f6) (fun c => ?_) (fun c => ?_)
    · rw [if_pos c]; refine Ev_succ ?_; simp only [product_Check.j3, if_true]; exact Ev.now _
    rw [if_neg c]
    exact h3 c
  have h1 : nameB p.f0 = false → Ev (fun k => product_Check.j0 k true p.f0 p.f1 p.f2 p.f3 p.f4 p.f5 p.f6) (prodE p) := by
    intro hn
    refine Ev_succ ?_
    unfold prodE
    rw [if_neg (by rw [hn]; decide)]
    simp only [product_Check.j0, if_true]
    exact Ev.now _
  unfold product_Check.f
  refine Ev_if (fun c => ?_) (fun c => ?_)
  · refine h1 ?_
    simp only [Bool.and_eq_true, beq_iff_eq] at c
    have e : p.f0.size = 0 := by
      have : p.f0.data.toList = [] := by rw [← ByteArray.toList_eq]; exact c.1
      have h2 : p.f0.data.toList.length = 0 := by rw [this]; rfl
      simpa using h2
    unfold nameB
    rw [e]; rfl
  · refine Ev_bind (name_f p.f0) ?_
    cases hn : nameB p.f0 with
    | true => exact h0 hn
    | false => exact h1 hn
theorem prodR_f (p : Prod9) (hs : p.f0.size ≤ 4611686018427387904) : Ev (fun k => contangoref09_Check.f k p.f0 p.f1 p.f2 p.f3 p.f4 p.f5 p.f6) (prodE p) := by
  unfold contangoref09_Check.f
  refine Ev_bind (nameR_f p.f0 hs) ?_
  unfold prodE
  simp only [within9_f, Option.bind_some, and_iff]
  refine Ev_if (fun c => ?_) (fun c => ?_)
  case refine_2 => rw [if_neg c]; exact Ev.now _
  rw [if_pos c]
  refine Ev_if (fun c => ?_) (fun c => ?_)
  case refine_2 => rw [if_pos (show p.f1 < 0 ∨ p.f1 ≥ 8 by omega)]; exact Ev.now _
  rw [if_neg (show ¬ (p.f1 < 0 ∨ p.f1 ≥ 8) by omega)]
  refine Ev_if (fun c => ?_) (fun c => ?_)
  case refine_2 => rw [if_pos (show p.f2 < 1 ∨ p.f2 > 4096 by omega)]; exact Ev.now _
  rw [if_neg (show ¬ (p.f2 < 1 ∨ p.f2 > 4096) by omega)]
  refine Ev_if (fun c => ?_) (fun c => ?_)
  case refine_2 => rw [if_pos (show p.f3 < 1 ∨ p.f3 > 16777216 by omega)]; exact Ev.now _
  rw [if_neg (show ¬ (p.f3 < 1 ∨ p.f3 > 16777216) by omega)]
  refine Ev_if (fun c1 => Ev_if (fun c2 => Ev_if (fun c3 => ?_) fun c3 => Ev_if (fun c4 => by omega) fun c4 => Ev_if (fun c5 => Ev_if (fun c6 => ?_) fun c6 => ?_) fun c5 => ?_) fun c2 => ?_) fun c1 => ?_
  · rw [prodT_of (by omega)]; exact Ev.now _
  · have : prodT p = 0 := if_pos ⟨c1.1, c1.2, c2.1, c2.2, by omega, c5, c6⟩
    rw [this]; exact Ev.now _
  · rw [prodT_of (fun h => c6 h.2.2.2.2.2.2)]; exact Ev.now _
  · rw [prodT_of (fun h => c5 h.2.2.2.2.2.1)]; exact Ev.now _
  · rw [prodT_of (by omega)]; exact Ev.now _
  · rw [prodT_of (by omega)]; exact Ev.now _
end Go.Proofs.YtieifncibojciaaDoor.P
end
section
namespace Go.Proofs.YtieifncibojciaaDoor.P
set_option linter.unusedVariables false
set_option linter.unusedSimpArgs false
open Go.RowKit Go.Proofs.YtieifncibojciaaDoorW.PrintWords Go.Proofs.YtieifncibojciaaDoorW.PrintMore Go.Proofs.YtieifncibojciaaDoor.X
theorem fields_sz {s : ByteArray} : ∀ x ∈ (fieldsS s).1, x.size ≤ 4611686018427387904 := by
  intro x hx
  unfold fieldsS fieldsE at hx
  by_cases c1 : 512 < (bytesOf s).length
  · rw [if_pos c1] at hx; simp at hx
  rw [if_neg c1] at hx
  by_cases c2 : bytesOf s = []
  · rw [if_pos c2] at hx; simp at hx
  rw [if_neg c2] at hx
  by_cases c3 : (splitI 32 (bytesOf s)).all goodP = true
  case neg => rw [if_neg c3] at hx; simp at hx
  rw [if_pos c3] at hx
  obtain ⟨p, hp, rfl⟩ := List.mem_map.1 hx
  rw [strOfNums_size]
  have key : ∀ (L : List Int), ∀ q ∈ splitI 32 L, q.length ≤ L.length := by
    intro L
    induction L with
    | nil => intro q hq; simp [splitI] at hq; subst hq; simp
    | cons x r ih =>
      intro q hq
      unfold splitI at hq
      split at hq
      · rcases List.mem_cons.1 hq with h | h
        · subst h; simp
        · have := ih q h; simp; omega
      · split at hq
        · rename_i p1 q1 he
          rcases List.mem_cons.1 hq with h | h
          · subst h
            have := ih p1 (by rw [he]; simp)
            simp; omega
          · have := ih q (by rw [he]; simp [h])
            simp; omega
        · simp at hq; subst hq; simp
  have := key _ p hp
  omega
def textS (n : Int) : ByteArray := strOfNums (textL n)
theorem textS_size (n : Int) (h1 : -9223372036854775808 ≤ n) (h2 : n ≤ 9223372036854775807) : (textS n).size ≤ 21 := by
  unfold textS
  rw [strOfNums_size]
  unfold textL
  rw [List.length_append]
  have := sgn_len n
  have := len20 n.natAbs (by omega)
  omega
def numsE : List ByteArray → Option (List Int)
  | [] => some []
  | x :: r => if (intL (bytesOf x)).2 = 0 then (numsE r).map ((intL (bytesOf x)).1 :: ·) else none
theorem numsE_f : ∀ l : List ByteArray, (∀ x ∈ l, x.size ≤ 4611686018427387904) → Ev (fun k => prsNums k l) (numsE l)
  | [], _ => Ev.now _
  | x :: r, h => by
    have ih := numsE_f r fun y hy => h y (by simp [hy])
    unfold prsNums numsE
    refine Ev_bind (int_f x (h x (by simp))) ?_
    by_cases c : (intL (bytesOf x)).2 = 0
    · simp only [if_pos c]
      exact Ev_bind ih (Ev.now _)
    · simp only [if_neg c]
      exact Ev.now _
def gP (l : List ByteArray) (o : Option (List Int)) : Prod9 × Int :=
  match o with
  | none => (z45, 5)
  | some n => if (prsKind (rdOf ByteArray.empty l 6)).isSome = true then (if prodE ⟨rdOf ByteArray.empty l 0, rd n 0, rd n 1, rd n 2, rd n 3, rd n 4, kb (prsKind (rdOf ByteArray.empty l 6))⟩ = 0 then (⟨rdOf ByteArray.empty l 0, rd n 0, rd n 1, rd n 2, rd n 3, rd n 4, kb (prsKind (rdOf ByteArray.empty l 6))⟩, 0) else (z45, prodE ⟨rdOf ByteArray.empty l 0, rd n 0, rd n 1, rd n 2, rd n 3, rd n 4, kb (prsKind (rdOf ByteArray.empty l 6))⟩)) else (z45, 5)
def parseP (s : ByteArray) : Prod9 × Int := if (fieldsS s).2 = 0 then (if (fieldsS s).1.length = 7 then gP (fieldsS s).1 (numsE (((fieldsS s).1.drop 1).take 5)) else (z45, 5)) else (z45, (fieldsS s).2)
def tP (q : Prod9 × Int) : ByteArray × Int × Int × Int × Int × Int × Bool × Int := (q.1.f0, q.1.f1, q.1.f2, q.1.f3, q.1.f4, q.1.f5, q.1.f6, q.2)
theorem parseP_f (s : ByteArray) : Ev (fun k => product_Parse.f k s) (tP (parseP s)) := by
  unfold product_Parse.f parseP
  refine Ev_bind (fields_f s) ?_
  by_cases c1 : (fieldsS s).2 = 0
  case neg => simp only [if_neg c1]; exact Ev.now _
  simp only [if_pos c1]
  by_cases c2 : (fieldsS s).1.length = 7
  case neg => simp only [if_neg c2]; exact Ev.now _
  simp only [if_pos c2]
  refine Ev_bind (numsE_f _ fun x hx => fields_sz x (List.mem_of_mem_drop (List.mem_of_mem_take hx))) ?_
  cases numsE (((fieldsS s).1.drop 1).take 5) with
  | none => exact Ev.now _
  | some n =>
    unfold product_Parse.g gP
    by_cases c3 : (prsKind (rdOf ByteArray.empty (fieldsS s).1 6)).isSome = true
    case neg => simp only [if_neg c3]; exact Ev.now _
    simp only [if_pos c3]
    refine Ev_bind (prod_f ⟨rdOf ByteArray.empty (fieldsS s).1 0, rd n 0, rd n 1, rd n 2, rd n 3, rd n 4, kb (prsKind (rdOf ByteArray.empty (fieldsS s).1 6))⟩) ?_
    by_cases c4 : prodE ⟨rdOf ByteArray.empty (fieldsS s).1 0, rd n 0, rd n 1, rd n 2, rd n 3, rd n 4, kb (prsKind (rdOf ByteArray.empty (fieldsS s).1 6))⟩ = 0
    · simp only [if_pos c4]; exact Ev.now _
    · simp only [if_neg c4]; exact Ev.now _
def kindS (b : Bool) : ByteArray := if b = true then (⟨#[112, 104, 121, 115, 105, 99, 97, 108]⟩ : ByteArray) else (⟨#[99, 97, 115, 104]⟩ : ByteArray)
def lineP (p : Prod9) : List ByteArray := [p.f0, textS p.f1, textS p.f2, textS p.f3, textS p.f4, textS p.f5, kindS p.f6]
def I64 (n : Int) : Prop := -9223372036854775808 ≤ n ∧ n ≤ 9223372036854775807
theorem print_f (p : Prod9) (h0 : p.f0.size ≤ 140737488351232) (h1 : I64 p.f1) (h2 : I64 p.f2) (h3 : I64 p.f3) (h4 : I64 p.f4) (h5 : I64 p.f5) : Ev (fun k => product_Print.f k p.f0 p.f1 p.f2 p.f3 p.f4 p.f5 p.f6) (joinS (lineP p)) := by
  unfold product_Print.f
  simp only [Option.bind_some]
  have step : ∀ (acc : List ByteArray) (i : Nat) (n : Int) (r : ByteArray), i < 5 → acc.length ≤ 10 → I64 n → rd [p.f1, p.f2, p.f3, p.f4, p.f5] (i : Int) = n → Ev (fun k => product_Print.l0 k (acc ++ [textS n]) [p.f1, p.f2, p.f3, p.f4, p.f5] 5 ((i + 1 : Nat) : Int) p.f0 p.f1 p.f2 p.f3 p.f4 p.f5 p.f6) r → Ev (fun k => product_Print.l0 k acc [p.f1, p.f2, p.f3, p.f4, p.f5] 5 (i : Int) p.f0 p.f1 p.f2 p.f3 p.f4 p.f5 p.f6) r := by
    intro acc i n r hi ha hn hr ih
    refine Ev_succ ?_
    have hl : (([p.f1, p.f2, p.f3, p.f4, p.f5] : List Int).length : Int) = 5 := rfl
    have ht : words_Text.f n = some (textS n) := text_f n hn.1 hn.2
    simp only [product_Print.l0, if_pos (show (i : Int) < 5 by omega), if_pos (show 0 ≤ (i : Int) by omega), hl, hr, ht, Option.bind_some, if_pos (show acc.length < 8796093022208 by omega), w_succ hi (by omega)]
    exact ih
  refine step [p.f0] 0 p.f1 _ (by decide) (by simp) h1 rfl ?_
  refine step _ 1 p.f2 _ (by decide) (by simp) h2 rfl ?_
  refine step _ 2 p.f3 _ (by decide) (by simp) h3 rfl ?_
  refine step _ 3 p.f4 _ (by decide) (by simp) h4 rfl ?_
  refine step _ 4 p.f5 _ (by decide) (by simp) h5 rfl ?_
  refine Ev_succ ?_
  have hk : product_kind.f p.f6 = some (kindS p.f6) := by unfold product_kind.f kindS; cases p.f6 <;> rfl
  have hz : sumZ (lineP p) ≤ 140737488355328 := by
    have z1 := textS_size p.f1 h1.1 h1.2
    have z2 := textS_size p.f2 h2.1 h2.2
    have z3 := textS_size p.f3 h3.1 h3.2
    have z4 := textS_size p.f4 h4.1 h4.2
    have z5 := textS_size p.f5 h5.1 h5.2
    have z6 : (kindS p.f6).size ≤ 8 := by unfold kindS; cases p.f6 <;> decide
    simp only [sumZ, lineP, List.map_cons, List.map_nil, List.sum_cons, List.sum_nil]
    omega
  have hj := join_f (lineP p) hz
  have hl : ([p.f0] ++ [textS p.f1] ++ [textS p.f2] ++ [textS p.f3] ++ [textS p.f4] ++ [textS p.f5] ++ [kindS p.f6] : List ByteArray) = lineP p := rfl
  have hlen : ([p.f0] ++ [textS p.f1] ++ [textS p.f2] ++ [textS p.f3] ++ [textS p.f4] ++ [textS p.f5] : List ByteArray).length < 8796093022208 := by simp
  simp only [product_Print.l0, if_neg (show ¬ ((4 + 1 : Nat) : Int) < 5 by decide), hk, Option.bind_some, if_pos hlen, hl, hj]
  exact Ev.now _
end Go.Proofs.YtieifncibojciaaDoor.P
end
section
namespace Go.Proofs.YtieifncibojciaaDoor.P
set_option linter.unusedVariables false
set_option linter.unusedSimpArgs false
open Go.RowKit Go.Proofs.YtieifncibojciaaDoorW.PrintWords Go.Proofs.YtieifncibojciaaDoorW.PrintMore Go.Proofs.YtieifncibojciaaDoor.X
theorem rdigits_loop (s : ByteArray) (hs : s.size ≤ 4611686018427387904) : ∀ (d i : Nat), i + d = s.size → Ev (fun k => contangoref03_digits.l0 k s i) (((bytesOf s).drop i).all digitB && (decide (s.size = 1) || (decide (1 < s.size) && bt s 0 != 48)))
  | 0, i, hd => by
    refine Ev_succ ?_
    simp only [contangoref03_digits.l0, if_neg (show ¬ ((i : Int) < (s.size : Int)) by omega)]
    rw [by_end s i (by omega)]
    simp only [List.all_nil, Bool.true_and]
    by_cases c : (s.size : Int) = 1
    · simp only [if_pos c, decide_eq_true (show s.size = 1 by omega), Bool.true_or]
      exact Ev.now _
    · simp only [if_neg c, decide_eq_false (show ¬ s.size = 1 by omega), Bool.false_or]
      by_cases c2 : (s.size : Int) > 1
      · simp only [if_pos c2, if_pos (show 0 < (s.size : Int) by omega), decide_eq_true (show 1 < s.size by omega), Bool.true_and]
        exact Ev.now _
      · simp only [if_neg c2, decide_eq_false (show ¬ 1 < s.size by omega), Bool.false_and]
        exact Ev.now _
  | d + 1, i, hd => by
    have hi : i < s.size := by omega
    have ih := rdigits_loop s hs d (i + 1) (by omega)
    refine Ev_succ ?_
    simp only [contangoref03_digits.l0, if_pos (show (i : Int) < (s.size : Int) by omega), if_pos (show 0 ≤ (i : Int) by omega), w_succ hi (by omega)]
    rw [by_drop s i hi, List.all_cons]
    by_cases c1 : bt s (i : Int) < 48
    · have : digitB (bt s (i : Int)) = false := by
        unfold digitB
        rw [decide_eq_false (by omega), Bool.false_and]
      simp only [if_pos c1, this, Bool.false_and]
      exact Ev.now _
    · simp only [if_neg c1]
      by_cases c2 : bt s (i : Int) > 57
      · have : digitB (bt s (i : Int)) = false := by
          unfold digitB
          rw [decide_eq_false (show ¬ bt s (i : Int) ≤ 57 by omega), Bool.and_false]
        simp only [if_pos c2, this, Bool.false_and]
        exact Ev.now _
      · have : digitB (bt s (i : Int)) = true := by
          unfold digitB
          rw [decide_eq_true (by omega), decide_eq_true (by omega), Bool.true_and]
        simp only [if_neg c2, this, Bool.true_and]
        exact ih
theorem rdigits_f (s : ByteArray) (hs : s.size ≤ 4611686018427387904) : Ev (fun k => contangoref03_digits.f k s) (plainL (bytesOf s)) := by
  have h := rdigits_loop s hs s.size 0 (by omega)
  have e : (((bytesOf s).drop 0).all digitB && (decide (s.size = 1) || (decide (1 < s.size) && bt s 0 != 48))) = plainL (bytesOf s) := by
    rw [List.drop_zero]
    unfold plainL
    rcases Nat.eq_zero_or_pos s.size with h0 | h0
    · have h4 : bytesOf s = [] := List.length_eq_zero_iff.1 (by rw [by_len]; omega)
      rw [h4, h0]
      rfl
    · have h2 : (bytesOf s).isEmpty = false := by
        have : bytesOf s ≠ [] := by
          intro h
          have := congrArg List.length h
          rw [by_len] at this
          have h5 : s.size = 0 := this
          omega
        simpa using this
      rw [h2, bt_head s h0, by_len, Bool.and_comm]
      simp only [Bool.not_false, Bool.true_and]
      congr 1
      by_cases c : s.size = 1
      · rw [c]; simp
      · rw [decide_eq_false c, decide_eq_true (show 1 < s.size by omega)]
        simp [bne]
  rw [← e]
  unfold contangoref03_digits.f
  exact h
theorem value_loop (s : ByteArray) (hs : s.size ≤ 4611686018427387904) (hall : ∀ x ∈ bytesOf s, digitB x = true) : ∀ (d i : Nat) (n : Int), i + d = s.size → 0 ≤ n → n ≤ 1152921504606846979 → ∃ r, Ev (fun k => contangoref03_value.l0 k s n i) r ∧ ((numV n ((bytesOf s).drop i) ≤ 1152921504606846976 ∧ r = numV n ((bytesOf s).drop i)) ∨ (1152921504606846976 < numV n ((bytesOf s).drop i) ∧ 1152921504606846976 < r))
  | 0, i, n, hd, h0, h1 => by
    refine ⟨n, Ev_succ ?_, ?_⟩
    · simp only [contangoref03_value.l0, if_neg (show ¬ ((i : Int) < (s.size : Int)) by omega)]
      exact Ev.now _
    · rw [by_end s i (by omega)]
      show (n ≤ 1152921504606846976 ∧ n = n) ∨ (1152921504606846976 < n ∧ 1152921504606846976 < n)
      rcases Int.lt_or_le 1152921504606846976 n with h | h
      · exact Or.inr ⟨h, h⟩
      · exact Or.inl ⟨h, rfl⟩
  | d + 1, i, n, hd, h0, h1 => by
    have hi : i < s.size := by omega
    have hb : digitB (bt s (i : Int)) = true := hall _ (by
      have h' : i < (bytesOf s).length := by rw [by_len]; exact hi
      rw [by_bt s i h']
      exact List.getElem_mem h')
    have hb2 := dig_rng hb
    have hr : ∀ x ∈ (bytesOf s).drop (i + 1), digitB x = true := fun x hx => hall x (List.mem_of_mem_drop hx)
    have hm := numV_mono ((bytesOf s).drop (i + 1)) (10 * n + (bt s (i : Int) - 48)) (by omega) hr
    have hc : numV n (bt s (i : Int) :: (bytesOf s).drop (i + 1)) = numV (10 * n + (bt s (i : Int) - 48)) ((bytesOf s).drop (i + 1)) := rfl
    rw [by_drop s i hi, hc]
    by_cases c : n > 115292150460684697
    · refine ⟨1152921504606846977, Ev_succ ?_, ?_⟩
      · simp only [contangoref03_value.l0, if_pos (show (i : Int) < (s.size : Int) by omega), if_pos c]
        exact Ev.now _
      · omega
    · have hw : wrap64 (wrap64 (10 * n) + (bt s (i : Int) - 48)) = 10 * n + (bt s (i : Int) - 48) := by
        rw [w_id (x := 10 * n) (by omega) (by omega), w_id (by omega) (by omega)]
      obtain ⟨r, h2, h3⟩ := value_loop s hs hall d (i + 1) (10 * n + (bt s (i : Int) - 48)) (by omega) (by omega) (by omega)
      refine ⟨r, Ev_succ ?_, h3⟩
      simp only [contangoref03_value.l0, if_pos (show (i : Int) < (s.size : Int) by omega), if_neg c, if_pos (show 0 ≤ (i : Int) by omega), w_succ hi (by omega), Int.emod_eq_of_lt (show 0 ≤ bt s (i : Int) - 48 by omega) (show bt s (i : Int) - 48 < 256 by omega), hw]
      exact h2
def sgnR (v : Int) (m : Bool) : Int × Int := if m = true ∧ v = 0 then (0, 5) else if 1152921504606846976 < v then (0, 3) else (if m then -v else v, 0)
theorem rsigned_f (v : Int) (m : Bool) (h0 : 0 ≤ v) : Ev (fun k => contangoref03_signed.f k v m) (sgnR v m) := by
  have hj : ∀ b : Bool, b = (m && v == 0) → Ev (fun k => contangoref03_signed.j0 k v m b) (sgnR v m) := by
    intro b hb
    refine Ev_succ ?_
    unfold sgnR
    subst hb
    cases m with
    | false =>
      simp only [contangoref03_signed.j0, Bool.false_and, Bool.false_eq_true, if_false, false_and]
      by_cases c2 : v > 1152921504606846976
      · simp only [if_pos c2]
        exact Ev.now _
      · simp only [if_neg c2]
        exact Ev.now _
    | true =>
      by_cases c : v = 0
      · simp only [contangoref03_signed.j0, c, beq_self_eq_true, Bool.and_self, if_true, and_self]
        exact Ev.now _
      · have c' : (v == 0) = false := by simpa using c
        simp only [contangoref03_signed.j0, c', Bool.and_false, Bool.false_eq_true, if_false, c, and_false, if_true]
        by_cases c2 : v > 1152921504606846976
        · simp only [if_pos c2]
          exact Ev.now _
        · simp only [if_neg c2, neg_w v h0 (show v ≤ 1152921504606846976 by omega)]
          exact Ev.now _
  unfold contangoref03_signed.f
  cases m with
  | false => simp only [Bool.false_eq_true, if_false]; exact hj _ (by simp)
  | true => simp only [if_true]; exact hj _ (by simp)
theorem vs_f (s : ByteArray) (m : Bool) (hs : s.size ≤ 4611686018427387904) (hall : ∀ x ∈ bytesOf s, digitB x = true) : Ev (fun k => (contangoref03_value.f k s).bind fun t102 => ((contangoref03_signed.f k t102 m).bind fun bt103 => (some (bt103.1, bt103.2)))) (sgnR (numV 0 (bytesOf s)) m) := by
  obtain ⟨r, h1, h2⟩ := value_loop s hs hall s.size 0 0 (by omega) (by omega) (by omega)
  rw [List.drop_zero] at h2
  have hv := numV_mono (bytesOf s) 0 (by omega) hall
  have hr0 : 0 ≤ r := by omega
  have he : sgnR r m = sgnR (numV 0 (bytesOf s)) m := by
    rcases h2 with ⟨h2, rfl⟩ | ⟨h2, h3⟩
    · rfl
    · unfold sgnR
      rw [if_neg (show ¬ (m = true ∧ r = 0) from fun h => by have := h.2; omega), if_neg (show ¬ (m = true ∧ numV 0 (bytesOf s) = 0) from fun h => by have := h.2; omega), if_pos h3, if_pos h2]
  rw [← he]
  refine Ev_bind (f := fun k t102 => ((contangoref03_signed.f k t102 m).bind fun bt103 => (some (bt103.1, bt103.2)))) h1 ?_
  exact Ev_bind (rsigned_f r m hr0) (Ev.now _)
def rintT (T : List Int) (m : Bool) : Int × Int := if plainL T = true then sgnR (numV 0 T) m else (0, 5)
theorem rint_j1 (s : ByteArray) (m : Bool) (hs : s.size ≤ 4611686018427387904) : Ev (fun k => contangoref03_Int.j1 k s m) (rintT (bytesOf s) m) := by
  refine Ev_succ ?_
  simp only [contangoref03_Int.j1]
  refine Ev_bind (rdigits_f s hs) ?_
  unfold rintT
  by_cases c : plainL (bytesOf s) = true
  · simp only [if_pos c]
    exact vs_f s m hs (plain_all c)
  · simp only [if_neg c]
    exact Ev.now _
theorem unsign_ext (s : ByteArray) (h : (bytesOf s).head? = some 45) : bytesOf (s.extract 1 s.size) = (bytesOf s).tail := by
  rw [by_ext, ← by_len, List.take_length, List.drop_one]
theorem rint_f (s : ByteArray) (hs : s.size ≤ 4611686018427387904) : Ev (fun k => contangoref03_Int.f k s) (rintT (unsign (bytesOf s)).1 (unsign (bytesOf s)).2) := by
  have hj : ∀ b : Bool, b = decide ((bytesOf s).head? = some 45) → Ev (fun k => contangoref03_Int.j0 k s b) (rintT (unsign (bytesOf s)).1 (unsign (bytesOf s)).2) := by
    intro b hb
    refine Ev_succ ?_
    unfold unsign
    by_cases c : (bytesOf s).head? = some 45
    · rw [decide_eq_true c] at hb
      subst hb
      rw [if_pos c]
      have h3 : 0 < s.size := by
        rw [← by_len]
        rcases hb : bytesOf s with _ | ⟨x, r⟩
        · rw [hb] at c; simp at c
        · simp
      simp only [contangoref03_Int.j0, if_true, if_pos (show 1 ≤ (s.size : Int) by omega)]
      have := rint_j1 (s.extract 1 s.size) true (by rw [ByteArray.size_extract]; omega)
      rw [unsign_ext s c] at this
      exact this
    · rw [decide_eq_false c] at hb
      subst hb
      rw [if_neg c]
      simp only [contangoref03_Int.j0, Bool.false_eq_true, if_false]
      exact rint_j1 s false hs
  unfold contangoref03_Int.f
  by_cases c : (s.size : Int) > 0
  · simp only [if_pos c, if_pos (show 0 < (s.size : Int) by omega)]
    refine hj _ ?_
    rw [bt_head s (by omega)]
    rw [Bool.eq_iff_iff]
    simp
  · simp only [if_neg c]
    refine hj _ ?_
    have h4 : bytesOf s = [] := List.length_eq_zero_iff.1 (by rw [by_len]; omega)
    rw [h4]
    rfl
theorem int_same (L : List Int) : intL L = rintT (unsign L).1 (unsign L).2 := by
  unfold intL rintT sgnR numR
  generalize (unsign L).2 = m
  generalize (unsign L).1 = T
  by_cases c : plainL T = true
  · rw [if_pos c]
    by_cases c2 : m = true ∧ T = [48]
    · rw [if_neg (fun h => h.2 c2), if_pos ⟨c2.1, by rw [c2.2]; rfl⟩]
    · rw [if_pos ⟨c, c2⟩, if_neg (show ¬ (m = true ∧ numV 0 T = 0) from fun h => c2 ⟨h.1, plain_zero c h.2⟩)]
  · rw [if_neg (fun h => c h.1), if_neg c]
end Go.Proofs.YtieifncibojciaaDoor.P
end
section
namespace Go.Proofs.YtieifncibojciaaDoor.P
set_option linter.unusedVariables false
set_option linter.unusedSimpArgs false
open Go.RowKit Go.Proofs.YtieifncibojciaaDoorW.PrintWords Go.Proofs.YtieifncibojciaaDoorW.PrintMore Go.Proofs.YtieifncibojciaaDoor.X
theorem rtext_step (n : Int) (h0 : n ≤ 0) (h1 : -9223372036854775808 ≤ n) (ih : ¬ n > -10 → Ev (fun k => contangoref03_text.f k (-((-n) / 10))) (strOfNums (digs ((-n).toNat / 10)))) : Ev (fun k => contangoref03_text.f k n) (strOfNums (digs (-n).toNat)) := by
  refine Ev_succ ?_
  have hm : Int.tmod n 10 = -((-n) % 10) := by
    have := Int.neg_tmod (a := -n) (b := 10)
    rw [Int.neg_neg] at this
    rw [this, Int.tmod_eq_emod_of_nonneg (by omega)]
  have hq : Int.tdiv n 10 = -((-n) / 10) := by
    have := Int.neg_tdiv (-n) 10
    rw [Int.neg_neg] at this
    rw [this, Int.tdiv_eq_ediv_of_nonneg (by omega)]
  have hw : wrap64 (48 - Int.tmod n 10) % 256 = 48 + (-n) % 10 := by rw [hm, w_id (by omega) (by omega)]; omega
  have hw2 : wrap64 (Int.tdiv n 10) = -((-n) / 10) := by rw [hq, w_id (by omega) (by omega)]
  simp only [contangoref03_text.f, Option.bind_some, hw, hw2]
  by_cases c : n > -10
  · simp only [if_pos c]
    rw [digs_lt (by omega), show (48 + (((-n).toNat : Nat) : Int)) = 48 + (-n) % 10 by omega]
    exact Ev.now _
  · simp only [if_neg c]
    refine Ev_bind (ih c) ?_
    have hp : (-n).toNat / 10 < 10 ^ 20 := by omega
    have hsz := digs_len 20 ((-n).toNat / 10) (by decide) hp
    have hs1 : (strOfNums (digs ((-n).toNat / 10))).size + (strOfNums [48 + (-n) % 10]).size ≤ 9223372036854775807 := by
      rw [strOfNums_size, strOfNums_size]
      simp only [List.length_cons, List.length_nil]
      omega
    have he : digs (-n).toNat = digs ((-n).toNat / 10) ++ [48 + (-n) % 10] := by
      rw [digs_ge (n := (-n).toNat) (by omega), show (48 + (((-n).toNat % 10 : Nat) : Int)) = 48 + (-n) % 10 by omega]
    rw [if_pos hs1, he, str_app]
    exact Ev.now _
theorem rtext_all : ∀ (d : Nat) (n : Int), n ≤ 0 → -9223372036854775808 ≤ n → (-n).toNat < 10 ^ (d + 1) → Ev (fun k => contangoref03_text.f k n) (strOfNums (digs (-n).toNat))
  | 0, n, h0, h1, h2 => rtext_step n h0 h1 fun c => by rw [Nat.zero_add, Nat.pow_one] at h2; omega
  | d + 1, n, h0, h1, h2 => rtext_step n h0 h1 fun c => by
    have hp : (- -((-n) / 10)).toNat < 10 ^ (d + 1) := by rw [Nat.pow_succ] at h2; omega
    have := rtext_all d (-((-n) / 10)) (by omega) (by omega) hp
    rwa [show (- -((-n) / 10)).toNat = (-n).toNat / 10 by omega] at this
theorem rtext_f (n : Int) (h0 : n ≤ 0) (h1 : -9223372036854775808 ≤ n) : Ev (fun k => contangoref03_text.f k n) (strOfNums (digs (-n).toNat)) := rtext_all 19 n h0 h1 (by omega)
theorem rText_f (n : Int) (h1 : -9223372036854775808 ≤ n) (h2 : n ≤ 9223372036854775807) : Ev (fun k => contangoref03_Text.f k n) (strOfNums (textL n)) := by
  unfold contangoref03_Text.f textL sgnL
  rw [str_app]
  by_cases c : n < 0
  · simp only [if_pos c]
    refine Ev_bind (rtext_f n (by omega) h1) ?_
    have e : (-n).toNat = n.natAbs := by omega
    rw [e]
    have := digs_size n.natAbs (by omega)
    rw [if_pos (by omega)]
    exact Ev.now _
  · simp only [if_neg c]
    rw [w_id (x := -n) (by omega) (by omega)]
    refine Ev_bind (rtext_f (-n) (by omega) (by omega)) ?_
    have e : (- -n).toNat = n.natAbs := by omega
    rw [e, show strOfNums [] ++ strOfNums (digs n.natAbs) = strOfNums (digs n.natAbs) by rw [← str_app]; rfl]
    exact Ev.now _
end Go.Proofs.YtieifncibojciaaDoor.P
end
section
namespace Go.Proofs.YtieifncibojciaaDoor.P
set_option linter.unusedVariables false
set_option linter.unusedSimpArgs false
open Go.RowKit Go.Proofs.YtieifncibojciaaDoorW.PrintWords Go.Proofs.YtieifncibojciaaDoorW.PrintMore Go.Proofs.YtieifncibojciaaDoor.X
theorem ok_iff (b : Int) : okB b = true ↔ 32 < b ∧ b ≤ 126 := by unfold okB; simp
theorem good_all : ∀ {L : List Int}, (splitI 32 L).all goodP = true → ∀ x ∈ L, x = 32 ∨ okB x = true
  | [], _, x, hx => by cases hx
  | a :: r, h, x, hx => by
    unfold splitI at h
    by_cases c : a = 32
    · rw [if_pos c, List.all_cons] at h
      exact absurd h (by simp [goodP])
    · rw [if_neg c] at h
      cases hs : splitI 32 r with
      | nil => exact absurd hs (splitI_ne 32 r)
      | cons p q =>
        rw [hs] at h
        simp only [List.all_cons, Bool.and_eq_true] at h
        have h1 := h.1
        unfold goodP at h1
        simp only [List.all_cons, Bool.and_eq_true] at h1
        rcases List.mem_cons.1 hx with e | e
        · subst e; exact Or.inr h1.2.1
        · by_cases hp : p = []
          ·
            subst hp
            cases r with
            | nil => cases e
            | cons b r2 =>
              unfold splitI at hs
              by_cases cb : b = 32
              · rw [if_pos cb] at hs
                injection hs with _ h4
                rcases List.mem_cons.1 e with e2 | e2
                · subst e2; exact Or.inl cb
                · exact good_all (by rw [h4]; exact h.2) x e2
              · rw [if_neg cb] at hs
                cases hs2 : splitI 32 r2 with
                | nil => exact absurd hs2 (splitI_ne 32 r2)
                | cons p2 q2 => rw [hs2] at hs; cases hs
          · refine good_all ?_ x e
            rw [hs, List.all_cons, h.2, Bool.and_true]
            unfold goodP
            have : p.isEmpty = false := by simpa using hp
            rw [this]
            simpa using h1.2.2
theorem ok_no {A : List Int} (h : ∀ b ∈ A, okB b = true) : (32 : Int) ∉ A := fun hm => by have := (ok_iff _).1 (h _ hm); omega
theorem good_of {A : List Int} (h : ∀ b ∈ A, okB b = true) (hn : A ≠ []) : goodP A = true := by
  unfold goodP
  have : A.isEmpty = false := by simpa using hn
  rw [this, List.all_eq_true.2 h]
  rfl
theorem ext_cur (s : ByteArray) (a b : Nat) : s.extract a b = strOfNums (((bytesOf s).take b).drop a) := by
  apply by_inj
  rw [by_ext, by_str]
  intro x hx
  exact by_rng s x (List.mem_of_mem_take (List.mem_of_mem_drop hx))
theorem cur_drop (s : ByteArray) (a i : Nat) (h : a ≤ i) (hi : i ≤ s.size) : (bytesOf s).drop a = ((bytesOf s).take i).drop a ++ (bytesOf s).drop i := by
  conv => lhs; rw [← List.take_append_drop i (bytesOf s)]
  rw [List.drop_append_of_le_length]
  rw [List.length_take, by_len]
  omega
theorem cur_succ (s : ByteArray) (a i : Nat) (h : a ≤ i) (hi : i < s.size) : ((bytesOf s).take (i + 1)).drop a = ((bytesOf s).take i).drop a ++ [bt s (i : Int)] := by
  have hl : i < (bytesOf s).length := by rw [by_len]; exact hi
  rw [by_bt s i hl, ← List.take_append_getElem hl, List.drop_append_of_le_length]
  rw [List.length_take]
  omega
def fieldsG (acc : List ByteArray) (L : List Int) : List ByteArray × Int := if (splitI 32 L).all goodP = true then (acc ++ (splitI 32 L).map strOfNums, 0) else ([], 5)
theorem rfields_loop (s : ByteArray) (hs : s.size ≤ 512) : ∀ (d i a : Nat) (acc : List ByteArray), i + d = s.size → a ≤ i → (∀ b ∈ ((bytesOf s).take i).drop a, okB b = true) → acc.length ≤ i → Ev (fun k => contangoref03_Fields.l0 k s acc a i) (fieldsG acc ((bytesOf s).drop a))
  | 0, i, a, acc, hd, ha, hok, hac => by
    refine Ev_succ ?_
    simp only [contangoref03_Fields.l0, if_pos (show (i : Int) ≤ (s.size : Int) by omega), if_neg (show ¬ (i : Int) < (s.size : Int) by omega)]
    refine Ev_succ ?_
    simp only [contangoref03_Fields.j1, Bool.false_eq_true, if_false, if_neg (show ¬ (i : Int) < (s.size : Int) by omega)]
    refine Ev_succ ?_
    have hcur := cur_drop s a i ha (by omega)
    rw [by_end s i (by omega), List.append_nil] at hcur
    by_cases c : (i : Int) = (a : Int)
    · simp only [contangoref03_Fields.j2, Bool.false_eq_true, if_false, if_pos c]
      have he : (bytesOf s).drop a = [] := by_end s a (by omega)
      unfold fieldsG
      rw [he, if_neg (by decide)]
      exact Ev.now _
    · simp only [contangoref03_Fields.j2, Bool.false_eq_true, if_false, if_neg c, if_pos (show 0 ≤ (a : Int) by omega), if_pos (show (a : Int) ≤ (i : Int) by omega), if_pos (show (i : Int) ≤ (s.size : Int) by omega), if_pos (show acc.length < 8796093022208 by omega), Int.toNat_natCast]
      refine Ev_succ ?_
      rw [w_id (x := (i : Int) + 1) (by omega) (by omega)]
      simp only [contangoref03_Fields.l0, if_neg (show ¬ (i : Int) + 1 ≤ (s.size : Int) by omega)]
      have hne : ((bytesOf s).take i).drop a ≠ [] := by
        intro h
        have := congrArg List.length h
        rw [List.length_drop, List.length_take, by_len] at this
        simp at this
        omega
      unfold fieldsG
      rw [hcur, splitI_none (ok_no hok), ext_cur]
      simp only [List.all_cons, List.all_nil, Bool.and_true, good_of hok hne, if_true, List.map_cons, List.map_nil]
      exact Ev.now _
  | d + 1, i, a, acc, hd, ha, hok, hac => by
    have hi : i < s.size := by omega
    have hcur := cur_drop s a i ha (by omega)
    rw [by_drop s i hi] at hcur
    have hin : bt s (i : Int) ∈ (bytesOf s).drop a := by rw [hcur]; simp
    refine Ev_succ ?_
    simp only [contangoref03_Fields.l0, if_pos (show (i : Int) ≤ (s.size : Int) by omega), if_pos (show (i : Int) < (s.size : Int) by omega), if_pos (show 0 ≤ (i : Int) by omega)]
    have bad : ¬ (bt s (i : Int) = 32 ∨ okB (bt s (i : Int)) = true) → Ev (fun k => contangoref03_Fields.j1 k s acc a i true) (fieldsG acc ((bytesOf s).drop a)) := by
      intro hb
      unfold fieldsG
      rw [if_neg (fun h => hb (good_all h _ hin))]
      refine Ev_succ ?_
      simp only [contangoref03_Fields.j1, if_true]
      exact Ev.now _
    by_cases c1 : bt s (i : Int) < 32
    · simp only [if_pos c1]
      exact bad (by rw [ok_iff]; omega)
    simp only [if_neg c1]
    by_cases c2 : bt s (i : Int) > 126
    · rw [decide_eq_true c2]
      exact bad (by rw [ok_iff]; omega)
    rw [decide_eq_false c2]
    refine Ev_succ ?_
    simp only [contangoref03_Fields.j1, Bool.false_eq_true, if_false, if_pos (show (i : Int) < (s.size : Int) by omega), if_pos (show 0 ≤ (i : Int) by omega)]
    refine Ev_succ ?_
    by_cases c3 : bt s (i : Int) = 32
    · have hb : (bt s (i : Int) != 32) = false := by rw [c3]; rfl
      rw [hb]
      simp only [contangoref03_Fields.j2, Bool.false_eq_true, if_false]
      rw [c3] at hcur
      by_cases c : (i : Int) = (a : Int)
      · simp only [if_pos c]
        have he : ((bytesOf s).take i).drop a = [] := List.drop_of_length_le (by rw [List.length_take]; omega)
        rw [he, List.nil_append] at hcur
        unfold fieldsG
        rw [hcur, splitI, if_pos rfl, List.all_cons, if_neg (by simp [goodP])]
        exact Ev.now _
      · simp only [if_neg c, if_pos (show 0 ≤ (a : Int) by omega), if_pos (show (a : Int) ≤ (i : Int) by omega), if_pos (show (i : Int) ≤ (s.size : Int) by omega), if_pos (show acc.length < 8796093022208 by omega), Int.toNat_natCast, w_succ hi (by omega)]
        have hne : ((bytesOf s).take i).drop a ≠ [] := by
          intro h
          have := congrArg List.length h
          rw [List.length_drop, List.length_take, by_len] at this
          simp at this
          omega
        have ih := rfields_loop s hs d (i + 1) (i + 1) (acc ++ [s.extract a i]) (by omega) (by omega) (by
          intro b hb
          rw [List.drop_of_length_le (by rw [List.length_take]; omega)] at hb
          cases hb) (by simp; omega)
        have e : fieldsG acc ((bytesOf s).drop a) = fieldsG (acc ++ [s.extract a i]) ((bytesOf s).drop (i + 1)) := by
          unfold fieldsG
          rw [hcur, splitI_app _ (ok_no hok), List.all_cons, good_of hok hne, Bool.true_and, ext_cur, List.map_cons]
          simp only [List.append_assoc, List.singleton_append]
        rw [e]
        exact ih
    · have hb : (bt s (i : Int) != 32) = true := bne_iff_ne.2 c3
      rw [hb]
      simp only [contangoref03_Fields.j2, if_true, w_succ hi (by omega)]
      exact rfields_loop s hs d (i + 1) a acc (by omega) (by omega) (by
        intro b hb2
        rw [cur_succ s a i ha hi] at hb2
        rcases List.mem_append.1 hb2 with h | h
        · exact hok b h
        · obtain rfl := List.mem_singleton.1 h
          rw [ok_iff]; omega) (by omega)
theorem rfields_f (s : ByteArray) : Ev (fun k => contangoref03_Fields.f k s) (fieldsS s) := by
  unfold contangoref03_Fields.f fieldsS fieldsE
  rw [by_len]
  by_cases c1 : 512 < s.size
  · simp only [if_pos c1, if_pos (show (s.size : Int) > 512 by omega)]
    exact Ev.now _
  simp only [if_neg c1, if_neg (show ¬ (s.size : Int) > 512 by omega)]
  by_cases c2 : s.toList = []
  · simp only [if_pos c2, if_pos ((by_emp s).1 c2)]
    exact Ev.now _
  simp only [if_neg c2, if_neg (fun h => c2 ((by_emp s).2 h))]
  have h := rfields_loop s (by omega) s.size 0 0 [] (by omega) (by omega) (by intro b hb; simp at hb) (by simp)
  rw [List.drop_zero] at h
  unfold fieldsG at h
  by_cases c3 : (splitI 32 (bytesOf s)).all goodP = true
  · rw [if_pos c3] at h ⊢
    exact h
  · rw [if_neg c3] at h ⊢
    exact h
theorem joinI_snoc : ∀ {A : List (List Int)} (x : List Int), A ≠ [] → joinI (A ++ [x]) = joinI A ++ 32 :: x
  | [], _, h => absurd rfl h
  | [a], x, _ => rfl
  | a :: b :: r, x, _ => by
    have ih := joinI_snoc (A := b :: r) x (by simp)
    show a ++ 32 :: joinI (b :: r ++ [x]) = _
    rw [ih]
    simp [joinI]
theorem sum_take (l : List ByteArray) (i : Nat) : sumZ (l.take i) ≤ sumZ l := by
  unfold sumZ
  conv => rhs; rw [← List.take_append_drop i l, List.map_append, List.sum_append]
  omega
theorem joinS_size (l : List ByteArray) : (joinS l).size ≤ sumZ l := by
  unfold joinS
  rw [strOfNums_size]
  have h1 := join_len (l.map bytesOf)
  have e : (l.map bytesOf).map (fun x => x.length + 1) = l.map fun x => x.size + 1 := by
    rw [List.map_map]
    exact List.map_congr_left fun x _ => by simp [by_len]
  rw [e] at h1
  exact h1
theorem rjoin_loop (l : List ByteArray) (hl : sumZ l ≤ 140737488355328) : ∀ (d i : Nat), i + d = l.length → Ev (fun k => contangoref03_Join.l0 k l (joinS (l.take i)) i) (joinS l)
  | 0, i, hd => by
    refine Ev_succ ?_
    simp only [contangoref03_Join.l0, if_neg (show ¬ (i : Int) < (l.length : Int) by omega)]
    rw [List.take_of_length_le (by omega)]
    exact Ev.now _
  | d + 1, i, hd => by
    have hi : i < l.length := by omega
    have ih := rjoin_loop l hl d (i + 1) (by omega)
    have hr : rdOf ByteArray.empty l (i : Int) = l[i] := rdOf_nat _ _ _ hi
    have ht : l.take (i + 1) = l.take i ++ [l[i]] := (List.take_append_getElem hi).symm
    have z1 := joinS_size (l.take i)
    have z2 := sum_take l (i + 1)
    have z3 : sumZ (l.take (i + 1)) = sumZ (l.take i) + (l[i].size + 1) := by
      rw [ht]
      unfold sumZ
      rw [List.map_append, List.sum_append]
      simp
    have hlen : l.length ≤ sumZ l := by
      unfold sumZ
      clear z1 z2 z3 ht hr ih hi hd hl
      induction l with
      | nil => simp
      | cons x r ih => simp only [List.map_cons, List.sum_cons, List.length_cons]; omega
    have one : (⟨#[32]⟩ : ByteArray).size = 1 := rfl
    refine Ev_succ ?_
    by_cases c : i = 0
    · subst c
      have hz : (joinS (l.take 0)).size = 0 := by rw [List.take_zero]; rfl
      have e : joinS (l.take 1) = joinS (l.take 0) ++ l[0] := by
        apply by_inj
        rw [by_app, joinS_by, joinS_by, ht]
        simp [joinI]
      simp only [contangoref03_Join.l0, if_pos (show ((0 : Nat) : Int) < (l.length : Int) by omega), if_neg (show ¬ ((0 : Nat) : Int) > 0 by decide), if_pos (show 0 ≤ ((0 : Nat) : Int) by decide), hr, if_pos (show (joinS (l.take 0)).size + l[0].size ≤ 9223372036854775807 by omega), w_succ hi (by omega)]
      rw [← e]
      exact ih
    · have e : joinS (l.take (i + 1)) = (joinS (l.take i) ++ (⟨#[32]⟩ : ByteArray)) ++ l[i] := by
        apply by_inj
        rw [by_app, by_app, joinS_by, joinS_by, ht, List.map_append, List.map_cons, List.map_nil, joinI_snoc _ (by
          intro h
          have := congrArg List.length h
          rw [List.length_map, List.length_take, List.length_nil] at this
          omega)]
        rw [List.append_assoc]
        rfl
      have z4 : (joinS (l.take i) ++ (⟨#[32]⟩ : ByteArray)).size = (joinS (l.take i)).size + 1 := by rw [ByteArray.size_append, one]
      simp only [contangoref03_Join.l0, if_pos (show (i : Int) < (l.length : Int) by omega), if_pos (show (i : Int) > 0 by omega), if_pos (show 0 ≤ (i : Int) by omega), if_pos (show (joinS (l.take i)).size + 1 ≤ 9223372036854775807 by omega), hr, if_pos (show (joinS (l.take i) ++ (⟨#[32]⟩ : ByteArray)).size + l[i].size ≤ 9223372036854775807 by omega), w_succ hi (by omega)]
      rw [← e]
      exact ih
theorem rjoin_f (l : List ByteArray) (hl : sumZ l ≤ 140737488355328) : Ev (fun k => contangoref03_Join.f k l) (joinS l) := by
  unfold contangoref03_Join.f
  have h := rjoin_loop l hl l.length 0 (by omega)
  exact h
end Go.Proofs.YtieifncibojciaaDoor.P
end
section
namespace Go.Proofs.YtieifncibojciaaDoor.P
open Go.RowKit Go.Proofs.YtieifncibojciaaDoorW.PrintWords Go.Proofs.YtieifncibojciaaDoorW.PrintMore Go.Proofs.YtieifncibojciaaDoor.X
set_option maxRecDepth 100000 in
theorem goes09 : Ev (fun k => contangolaw09_goes.f k) true := Ev.of (k := 60) (contangolaw09_goes.mono) (by decide +kernel)
end Go.Proofs.YtieifncibojciaaDoor.P
end
section
namespace Go.Proofs.YtieifncibojciaaDoor.Pure
set_option linter.unusedVariables false
set_option linter.unusedSimpArgs false
open Go.RowKit Go.Proofs.YtieifncibojciaaDoorW.PrintWords Go.Proofs.YtieifncibojciaaDoorW.PrintMore Go.Proofs.YtieifncibojciaaDoor.X Go.Proofs.YtieifncibojciaaDoor.P
theorem rnums_f : ∀ l : List ByteArray, (∀ x ∈ l, x.size ≤ 4611686018427387904) → Ev (fun k => rNums k l) (numsE l)
  | [], _ => Ev.now _
  | x :: r, h => by
    have ih := rnums_f r fun y hy => h y (by simp [hy])
    unfold rNums numsE
    have hi := rint_f x (h x (by simp))
    rw [← int_same] at hi
    refine Ev_bind hi ?_
    by_cases c : (intL (bytesOf x)).2 = 0
    · simp only [if_pos c]
      exact Ev_bind ih (Ev.now _)
    · simp only [if_neg c]
      exact Ev.now _
theorem ph_ca : ¬ (⟨#[112, 104, 121, 115, 105, 99, 97, 108]⟩ : ByteArray) = (⟨#[99, 97, 115, 104]⟩ : ByteArray) := by
  intro h
  have := congrArg ByteArray.size h
  exact absurd this (by decide)
theorem kind_ca : prsKind (⟨#[99, 97, 115, 104]⟩ : ByteArray) = some false := by
  unfold prsKind
  rw [if_neg (fun h => ph_ca ((by_eq _ _).1 h)), if_pos rfl]
theorem kind_ph : prsKind (⟨#[112, 104, 121, 115, 105, 99, 97, 108]⟩ : ByteArray) = some true := by
  unfold prsKind
  rw [if_pos rfl]
theorem kind_no {s : ByteArray} (h1 : ¬ s = (⟨#[99, 97, 115, 104]⟩ : ByteArray)) (h2 : ¬ s = (⟨#[112, 104, 121, 115, 105, 99, 97, 108]⟩ : ByteArray)) : prsKind s = none := by
  unfold prsKind
  rw [if_neg (fun h => h2 ((by_eq _ _).1 h).symm), if_neg (fun h => h1 ((by_eq _ _).1 h).symm)]
theorem rg_f (l : List ByteArray) (b : Bool) (o : Option (List Int)) (hk : prsKind (rdOf ByteArray.empty l 6) = some b) (hs : (rdOf ByteArray.empty l 0).size ≤ 4611686018427387904) : Ev (fun k => contangoref09_Parse.g k l b o) (tP (gP l o)) := by
  cases o with
  | none => exact Ev.now _
  | some n =>
    unfold contangoref09_Parse.g gP
    simp only [hk]
    rw [if_pos (show (some b).isSome = true from rfl)]
    have e : kb (some b) = b := rfl
    rw [e]
    refine Ev_bind (prodR_f ⟨rdOf ByteArray.empty l 0, rd n 0, rd n 1, rd n 2, rd n 3, rd n 4, b⟩ hs) ?_
    by_cases c4 : prodE ⟨rdOf ByteArray.empty l 0, rd n 0, rd n 1, rd n 2, rd n 3, rd n 4, b⟩ = 0
    · simp only [if_pos c4]; exact Ev.now _
    · simp only [if_neg c4]; exact Ev.now _
theorem rparse_f (s : ByteArray) : Ev (fun k => contangoref09_Parse.f k s) (tP (parseP s)) := by
  unfold contangoref09_Parse.f parseP
  refine Ev_bind (rfields_f s) ?_
  by_cases c1 : (fieldsS s).2 = 0
  case neg => simp only [if_neg c1]; exact Ev.now _
  simp only [if_pos c1]
  by_cases c2 : (fieldsS s).1.length = 7
  case neg => simp only [if_neg c2]; exact Ev.now _
  simp only [if_pos c2]
  have hs : ∀ x ∈ (fieldsS s).1, x.size ≤ 4611686018427387904 := fields_sz
  have h0 : (rdOf ByteArray.empty (fieldsS s).1 0).size ≤ 4611686018427387904 := by
    have : rdOf ByteArray.empty (fieldsS s).1 ((0 : Nat) : Int) = (fieldsS s).1[0]'(by omega) := rdOf_nat _ _ _ _
    rw [show (0 : Int) = ((0 : Nat) : Int) from rfl, this]
    exact hs _ (List.getElem_mem _)
  have hn := rnums_f (((fieldsS s).1.drop 1).take 5) fun x hx => hs x (List.mem_of_mem_drop (List.mem_of_mem_take hx))
  by_cases c3 : rdOf ByteArray.empty (fieldsS s).1 6 = (⟨#[99, 97, 115, 104]⟩ : ByteArray)
  · simp only [if_pos c3]
    exact Ev_bind hn (rg_f _ false _ (by rw [c3]; exact kind_ca) h0)
  · simp only [if_neg c3]
    by_cases c4 : rdOf ByteArray.empty (fieldsS s).1 6 = (⟨#[112, 104, 121, 115, 105, 99, 97, 108]⟩ : ByteArray)
    · simp only [if_pos c4]
      exact Ev_bind hn (rg_f _ true _ (by rw [c4]; exact kind_ph) h0)
    · simp only [if_neg c4]
      have hk := kind_no c3 c4
      have e : gP (fieldsS s).1 (numsE (((fieldsS s).1.drop 1).take 5)) = (z45, 5) := by
        unfold gP
        cases numsE (((fieldsS s).1.drop 1).take 5) with
        | none => rfl
        | some n =>
          simp only [hk]
          rfl
      rw [e]
      exact Ev.now _
theorem rprint_f (p : Prod9) (h0 : p.f0.size ≤ 140737488351232) (h1 : I64 p.f1) (h2 : I64 p.f2) (h3 : I64 p.f3) (h4 : I64 p.f4) (h5 : I64 p.f5) : Ev (fun k => contangoref09_Print.f k p.f0 p.f1 p.f2 p.f3 p.f4 p.f5 p.f6) (joinS (lineP p)) := by
  have hz : sumZ (lineP p) ≤ 140737488355328 := by
    have z1 := textS_size p.f1 h1.1 h1.2
    have z2 := textS_size p.f2 h2.1 h2.2
    have z3 := textS_size p.f3 h3.1 h3.2
    have z4 := textS_size p.f4 h4.1 h4.2
    have z5 := textS_size p.f5 h5.1 h5.2
    have z6 : (kindS p.f6).size ≤ 8 := by unfold kindS; cases p.f6 <;> decide
    simp only [sumZ, lineP, List.map_cons, List.map_nil, List.sum_cons, List.sum_nil]
    omega
  have hj := rjoin_f (lineP p) hz
  have step : ∀ (acc : List ByteArray) (i : Nat) (n : Int) (r : ByteArray), i < 5 → acc.length ≤ 10 → I64 n → rd [p.f1, p.f2, p.f3, p.f4, p.f5] (i : Int) = n → Ev (fun k => contangoref09_Print.l0 k (kindS p.f6) (acc ++ [textS n]) [p.f1, p.f2, p.f3, p.f4, p.f5] ((i + 1 : Nat) : Int)) r → Ev (fun k => contangoref09_Print.l0 k (kindS p.f6) acc [p.f1, p.f2, p.f3, p.f4, p.f5] (i : Int)) r := by
    intro acc i n r hi ha hn hr ih
    refine Ev_succ ?_
    have hl : (([p.f1, p.f2, p.f3, p.f4, p.f5] : List Int).length : Int) = 5 := rfl
    simp only [contangoref09_Print.l0, hl, if_pos (show (i : Int) < 5 by omega), if_pos (show 0 ≤ (i : Int) by omega), hr, if_pos (show acc.length < 8796093022208 by omega), w_succ hi (by omega)]
    exact Ev_bind (rText_f n hn.1 hn.2) ih
  have main : Ev (fun k => contangoref09_Print.j0 k (kindS p.f6) p.f0 p.f1 p.f2 p.f3 p.f4 p.f5 p.f6) (joinS (lineP p)) := by
    refine Ev_succ ?_
    simp only [contangoref09_Print.j0]
    refine step [p.f0] 0 p.f1 _ (by decide) (by simp) h1 rfl ?_
    refine step _ 1 p.f2 _ (by decide) (by simp) h2 rfl ?_
    refine step _ 2 p.f3 _ (by decide) (by simp) h3 rfl ?_
    refine step _ 3 p.f4 _ (by decide) (by simp) h4 rfl ?_
    refine step _ 4 p.f5 _ (by decide) (by simp) h5 rfl ?_
    refine Ev_succ ?_
    have hl : (([p.f1, p.f2, p.f3, p.f4, p.f5] : List Int).length : Int) = 5 := rfl
    have hlen : ([p.f0] ++ [textS p.f1] ++ [textS p.f2] ++ [textS p.f3] ++ [textS p.f4] ++ [textS p.f5] : List ByteArray).length < 8796093022208 := by simp
    have hll : ([p.f0] ++ [textS p.f1] ++ [textS p.f2] ++ [textS p.f3] ++ [textS p.f4] ++ [textS p.f5] ++ [kindS p.f6] : List ByteArray) = lineP p := rfl
    simp only [contangoref09_Print.l0, hl, if_neg (show ¬ ((4 + 1 : Nat) : Int) < 5 by decide), if_pos hlen, hll]
    exact Ev_id hj
  unfold contangoref09_Print.f
  have hk : kindS p.f6 = if p.f6 = true then (⟨#[112, 104, 121, 115, 105, 99, 97, 108]⟩ : ByteArray) else (⟨#[99, 97, 115, 104]⟩ : ByteArray) := rfl
  by_cases c : p.f6 = true
  · rw [if_pos c] at hk
    rw [hk] at main
    simp only [if_pos c]
    exact main
  · rw [if_neg c] at hk
    rw [hk] at main
    simp only [if_neg c]
    exact main
theorem ProductTexts : ∀ (x0 : S45) (a1 : ByteArray), ok45 x0 → a1.size ≤ 140737488351232 → ∃ k, X.contangolaw09_ProductTexts.f k x0.f0 x0.f1 x0.f2 x0.f3 x0.f4 x0.f5 x0.f6 a1 = some true := by
  intro p s h0 h1
  obtain ⟨o0, o1, o2, o3, o4, o5, _⟩ := h0
  refine Ev.rounds ?_
  unfold contangolaw09_ProductTexts.f
  refine Ev_bind (parseP_f s) ?_
  refine Ev_bind (rparse_f s) ?_
  refine Ev_bind (print_f p o0 (wf_rng o1) (wf_rng o2) (wf_rng o3) (wf_rng o4) (wf_rng o5)) ?_
  refine Ev_bind (rprint_f p o0 (wf_rng o1) (wf_rng o2) (wf_rng o3) (wf_rng o4) (wf_rng o5)) ?_
  simp only [if_true, beq_self_eq_true, Bool.and_self]
  exact Ev_id goes09
end Go.Proofs.YtieifncibojciaaDoor.Pure
end
