/- For TopMoneyBack: contracts, and facts on lists and numbers, that it uses (part 4). -/
import Derived.Test.YtliooghmpkdmoaaDoorTopMoneyBackc3
section
namespace Go.Proofs.YtliooghmpkdmoaaDoor.P
set_option linter.unusedVariables false
set_option linter.unusedSimpArgs false
open Go.RowKit Go.Proofs.YtliooghmpkdmoaaDoorW.PrintWords Go.Proofs.YtliooghmpkdmoaaDoorW.PrintMore Go.Proofs.YtliooghmpkdmoaaDoor.X
def plainL (L : List Int) : Bool := !L.isEmpty && !(decide (1 < L.length) && L.head? == some 48) && L.all digitB
def numV (n : Int) (L : List Int) : Int := L.foldl (fun n b => 10 * n + (b - 48)) n
def numR (n : Int) (L : List Int) (minus : Bool) : Int × Int := if 1152921504606846976 < numV n L then (0, 3) else (if minus then -(numV n L) else numV n L, 0)
def unsign (L : List Int) : List Int × Bool := if L.head? = some 45 then (L.tail, true) else (L, false)
theorem dig_rng {x : Int} (h : digitB x = true) : 48 ≤ x ∧ x ≤ 57 := by
  unfold digitB at h
  simp only [Bool.and_eq_true, decide_eq_true_eq] at h
  exact h
theorem numV_mono : ∀ (L : List Int) (n : Int), 0 ≤ n → (∀ x ∈ L, digitB x = true) → n ≤ numV n L
  | [], n, _, _ => Int.le_refl _
  | x :: L, n, h, hd => by
    have h1 := dig_rng (hd x (by simp))
    have := numV_mono L (10 * n + (x - 48)) (by omega) fun y hy => hd y (by simp [hy])
    unfold numV at this ⊢
    rw [List.foldl_cons]
    omega
theorem num_step (n d : Int) (h0 : 0 ≤ n) (h1 : n ≤ 1152921504606846976) (h2 : 0 ≤ d) (h3 : d ≤ 9) : (10 * n + d ≤ 9223372036854775807 ∧ wrap64 (wrap64 (10 * n) + d) = 10 * n + d) ∨ (9223372036854775807 < 10 * n + d ∧ wrap64 (wrap64 (10 * n) + d) < 0) := by
  unfold wrap64
  omega
theorem neg_w (n : Int) (h0 : 0 ≤ n) (h1 : n ≤ 1152921504606846976) : wrap64 (-n) = -n := w_id (by omega) (by omega)
theorem digits_loop (s : ByteArray) (hs : s.size ≤ 4611686018427387904) : ∀ (d i : Nat), i + d = s.size → Ev (fun k => words_digits.l0 k s s.size i) (((bytesOf s).drop i).all digitB)
  | 0, i, hd => by
    refine Ev_succ ?_
    simp only [words_digits.l0, if_neg (show ¬ ((i : Int) < (s.size : Int)) by omega)]
    rw [by_end s i (by omega)]
    exact Ev.now _
  | d + 1, i, hd => by
    have hi : i < s.size := by omega
    have ih := digits_loop s hs d (i + 1) (by omega)
    refine Ev_succ ?_
    simp only [words_digits.l0, if_pos (show (i : Int) < (s.size : Int) by omega), if_pos (show 0 ≤ (i : Int) by omega), digit_f, Option.bind_some, w_succ hi (by omega)]
    rw [by_drop s i hi, List.all_cons]
    cases h : digitB (bt s (i : Int)) with
    | true => simp only [if_true, Bool.true_and]; exact ih
    | false => simp only [Bool.false_eq_true, if_false, Bool.false_and]; exact Ev.now _
theorem digits_f (s : ByteArray) (hs : s.size ≤ 4611686018427387904) : Ev (fun k => words_digits.f k s) ((bytesOf s).all digitB) := by
  unfold words_digits.f
  exact digits_loop s hs s.size 0 (by omega)
theorem number_loop (s : ByteArray) (minus : Bool) (hs : s.size ≤ 4611686018427387904) (hall : ∀ x ∈ bytesOf s, digitB x = true) : ∀ (d i : Nat) (n : Int), i + d = s.size → 0 ≤ n → n ≤ 1152921504606846976 → Ev (fun k => words_number.l0 k s minus n s.size i) (numR n ((bytesOf s).drop i) minus)
  | 0, i, n, hd, h0, h1 => by
    refine Ev_succ ?_
    simp only [words_number.l0, if_neg (show ¬ ((i : Int) < (s.size : Int)) by omega)]
    rw [by_end s i (by omega)]
    have hc : numR n [] minus = (if minus then -n else n, 0) := by
      unfold numR numV
      rw [List.foldl_nil, if_neg (show ¬ 1152921504606846976 < n by omega)]
    rw [hc]
    cases minus with
    | true => simp only [if_true, neg_w n h0 h1]; exact Ev.now _
    | false => simp only [Bool.false_eq_true, if_false]; exact Ev.now _
  | d + 1, i, n, hd, h0, h1 => by
    have hi : i < s.size := by omega
    have hb : digitB (bt s (i : Int)) = true := hall _ (by
      have h' : i < (bytesOf s).length := by rw [by_len]; exact hi
      rw [by_bt s i h']
      exact List.getElem_mem h')
    have hb2 := dig_rng hb
    refine Ev_succ ?_
    simp only [words_number.l0, if_pos (show (i : Int) < (s.size : Int) by omega), if_pos (show 0 ≤ (i : Int) by omega), w_succ hi (by omega), Int.emod_eq_of_lt (show 0 ≤ bt s (i : Int) - 48 by omega) (show bt s (i : Int) - 48 < 256 by omega)]
    rw [by_drop s i hi]
    have hr : ∀ x ∈ (bytesOf s).drop (i + 1), digitB x = true := fun x hx => hall x (List.mem_of_mem_drop hx)
    have hm := numV_mono ((bytesOf s).drop (i + 1)) (10 * n + (bt s (i : Int) - 48)) (by omega) hr
    have hc : numR n (bt s (i : Int) :: (bytesOf s).drop (i + 1)) minus = numR (10 * n + (bt s (i : Int) - 48)) ((bytesOf s).drop (i + 1)) minus := by
      unfold numR numV
      rw [List.foldl_cons]
    rw [hc]
    rcases num_step n (bt s (i : Int) - 48) h0 h1 (by omega) (by omega) with ⟨h2, h3⟩ | ⟨h2, h3⟩
    · simp only [h3, if_neg (show ¬ 10 * n + (bt s (i : Int) - 48) < 0 by omega)]
      by_cases h4 : 10 * n + (bt s (i : Int) - 48) > 1152921504606846976
      · simp only [if_pos h4]
        have : numR (10 * n + (bt s (i : Int) - 48)) ((bytesOf s).drop (i + 1)) minus = (0, 3) := by
          unfold numR
          rw [if_pos (by omega)]
        rw [this]
        exact Ev.now _
      · simp only [if_neg h4]
        exact number_loop s minus hs hall d (i + 1) _ (by omega) (by omega) (by omega)
    · simp only [if_pos h3]
      have : numR (10 * n + (bt s (i : Int) - 48)) ((bytesOf s).drop (i + 1)) minus = (0, 3) := by
        unfold numR
        rw [if_pos (by omega)]
      rw [this]
      exact Ev.now _
theorem number_f (s : ByteArray) (minus : Bool) (hs : s.size ≤ 4611686018427387904) (hall : ∀ x ∈ bytesOf s, digitB x = true) : Ev (fun k => words_number.f k s minus) (numR 0 (bytesOf s) minus) := by
  unfold words_number.f
  exact number_loop s minus hs hall s.size 0 0 (by omega) (by omega) (by omega)
theorem plain_all {L : List Int} (h : plainL L = true) : ∀ x ∈ L, digitB x = true := by
  unfold plainL at h
  simp only [Bool.and_eq_true] at h
  exact List.all_eq_true.1 h.2
theorem bt_head (s : ByteArray) (h : 0 < s.size) : (bytesOf s).head? = some (bt s 0) := by
  have := by_drop s 0 h
  rw [List.drop_zero] at this
  rw [this]
  rfl
theorem plain_f (s : ByteArray) (hs : s.size ≤ 4611686018427387904) : Ev (fun k => words_plain.f k s) (plainL (bytesOf s)) := by
  unfold words_plain.f plainL
  have hd := digits_f s hs
  by_cases c0 : s.toList = []
  · simp only [if_pos c0]
    rw [(by_emp s).1 c0]
    exact Ev.now _
  · simp only [if_neg c0]
    have h1 : bytesOf s ≠ [] := fun h => c0 ((by_emp s).2 h)
    have h2 : (bytesOf s).isEmpty = false := by simpa using h1
    have h3 : 0 < s.size := by
      rw [← by_len]
      exact List.length_pos_iff.2 h1
    rw [h2]
    simp only [Bool.not_false, Bool.true_and]
    by_cases c1 : (s.size : Int) > 1
    · simp only [if_pos c1, if_pos (show 0 < (s.size : Int) by omega)]
      have h4 : decide (1 < (bytesOf s).length) = true := by
        rw [by_len]
        exact decide_eq_true (by omega)
      rw [h4, bt_head s h3]
      simp only [Bool.true_and]
      by_cases c2 : bt s 0 = 48
      · simp only [if_pos c2, c2]
        simp
        exact Ev.now _
      · have h5 : (some (bt s 0) == some (48 : Int)) = false := by simpa using c2
        simp only [if_neg c2, h5, Bool.not_false, Bool.true_and]
        exact Ev_id hd
    · simp only [if_neg c1]
      have h4 : decide (1 < (bytesOf s).length) = false := by
        rw [by_len]
        exact decide_eq_false (by omega)
      rw [h4]
      simp only [Bool.false_and, Bool.not_false, Bool.true_and]
      exact Ev_id hd
theorem cutp_f (s : ByteArray) : strings_CutPrefix.f s (⟨#[45]⟩ : ByteArray) = some (strOfNums (unsign (bytesOf s)).1, (unsign (bytesOf s)).2) := by
  have hsz : (⟨#[45]⟩ : ByteArray).size = 1 := rfl
  have hl : bytesOf (⟨#[45]⟩ : ByteArray) = [45] := rfl
  have h0 : stringslite_HasPrefix.f s (⟨#[45]⟩ : ByteArray) = some (decide ((bytesOf s).head? = some 45)) := by
    unfold stringslite_HasPrefix.f
    rw [hsz]
    by_cases c : (s.size : Int) ≥ ((1 : Nat) : Int)
    · rw [if_pos c, if_pos (by omega), if_pos (by omega)]
      congr 1
      have h3 : 0 < s.size := by omega
      have hd := by_drop s 0 h3
      rw [List.drop_zero] at hd
      have he : bytesOf (s.extract 0 1) = [bt s 0] := by rw [by_ext, hd]; rfl
      rw [bt_head s h3]
      rw [Bool.eq_iff_iff, beq_iff_eq, decide_eq_true_eq, by_eq]
      constructor
      · intro h
        have := congrArg bytesOf h
        rw [show (((1 : Nat) : Int)).toNat = 1 from rfl, he, hl] at this
        simpa using this
      · intro h
        apply by_inj
        rw [show (((1 : Nat) : Int)).toNat = 1 from rfl, he, hl]
        simpa using h
    · rw [if_neg c]
      have h4 : bytesOf s = [] := List.length_eq_zero_iff.1 (by rw [by_len]; omega)
      rw [h4]
      simp
  unfold strings_CutPrefix.f stringslite_CutPrefix.f
  rw [h0]
  simp only [Option.bind_some]
  unfold unsign
  by_cases c : (bytesOf s).head? = some 45
  · have h3 : 0 < s.size := by
      rw [← by_len]
      rcases hb : bytesOf s with _ | ⟨x, r⟩
      · rw [hb] at c; simp at c
      · simp
    rw [if_pos (decide_eq_true c), if_pos c, hsz, if_pos (by omega), if_pos (by omega)]
    simp only [Option.bind_some]
    congr 2
    apply by_inj
    rw [by_ext, by_str _ fun x hx => by_rng s x (List.mem_of_mem_tail hx), show (((1 : Nat) : Int)).toNat = 1 from rfl, ← by_len, List.take_length, List.drop_one]
  · rw [if_neg (by simpa using c), if_neg c]
    simp only [Option.bind_some]
    rw [str_by]
theorem unsign_rng {L : List Int} (h : ∀ x ∈ L, 0 ≤ x ∧ x < 256) : ∀ x ∈ (unsign L).1, 0 ≤ x ∧ x < 256 := by
  unfold unsign
  split
  · exact fun x hx => h x (List.mem_of_mem_tail hx)
  · exact h
theorem unsign_len (L : List Int) : (unsign L).1.length ≤ L.length := by
  unfold unsign
  split
  · simp
  · exact Nat.le_refl _
theorem plain_zero {w : List Int} (h : plainL w = true) (h0 : numV 0 w = 0) : w = [48] := by
  have ha := plain_all h
  unfold plainL at h
  rcases w with _ | ⟨x, r⟩
  · simp at h
  · have hx := dig_rng (ha x (by simp))
    have hm := numV_mono r (x - 48) (by omega) fun y hy => ha y (by simp [hy])
    have he : numV 0 (x :: r) = numV (x - 48) r := by
      unfold numV
      rw [List.foldl_cons]
      congr 1
      omega
    rw [he] at h0
    obtain rfl : x = 48 := by omega
    rcases r with _ | ⟨y, r⟩
    · rfl
    · simp at h
theorem numV_app (n : Int) (A B : List Int) : numV n (A ++ B) = numV (numV n A) B := by
  unfold numV
  rw [List.foldl_append]
def sgnR (v : Int) (m : Bool) : Int × Int := if m = true ∧ v = 0 then (0, 5) else if 1152921504606846976 < v then (0, 3) else (if m then -v else v, 0)
def cutL (L : List Int) (c : Int) : List Int × List Int × Bool := match idxL L c with
  | some i => (L.take i, L.drop (i + 1), true)
  | none => (L, [], false)
theorem cutL_none {L : List Int} {c : Int} (h : idxL L c = none) : cutL L c = (L, [], false) := by unfold cutL; rw [h]
theorem cutL_some {L : List Int} {c : Int} {i : Nat} (h : idxL L c = some i) : cutL L c = (L.take i, L.drop (i + 1), true) := by unfold cutL; rw [h]
theorem cut_f (s : ByteArray) (c : UInt8) (hs : s.size ≤ 4611686018427387904) : strings_Cut.f s (⟨#[c]⟩ : ByteArray) = some (strOfNums (cutL (bytesOf s) (c.toNat : Int)).1, strOfNums (cutL (bytesOf s) (c.toNat : Int)).2.1, (cutL (bytesOf s) (c.toNat : Int)).2.2) := by
  have hsz : (⟨#[c]⟩ : ByteArray).size = 1 := rfl
  unfold strings_Cut.f stringslite_Cut.f stringslite_Index.f
  rw [if_pos hsz]
  simp only [Option.bind_some]
  rw [show (⟨#[c]⟩ : ByteArray).data.getD 0 0 = c from rfl, idx_byte]
  rw [show s.data.toList.map (fun b => (b.toNat : Int)) = bytesOf s from rfl]
  cases hI : idxL (bytesOf s) (c.toNat : Int) with
  | none =>
    rw [cutL_none hI]
    simp only []
    rw [if_neg (by omega)]
    simp only [Option.bind_some]
    rw [str_by]
    rfl
  | some i =>
    have hi := (idx_some hI).1
    rw [by_len] at hi
    rw [cutL_some hI]
    simp only []
    have hw : wrap64 ((i : Int) + ((⟨#[c]⟩ : ByteArray).size : Int)) = ((i + 1 : Nat) : Int) := by
      rw [hsz, w_id (by omega) (by omega)]
      omega
    rw [hw, if_pos (by omega), if_pos (by omega), if_pos (by omega), if_pos (by omega), if_pos (by omega)]
    simp only [Option.bind_some, Int.toNat_natCast]
    have e1 : s.extract 0 i = strOfNums ((bytesOf s).take i) := by
      apply by_inj
      rw [by_ext, List.drop_zero, by_str _ fun x hx => by_rng s x (List.mem_of_mem_take hx)]
    have e2 : s.extract (i + 1) s.size = strOfNums ((bytesOf s).drop (i + 1)) := by
      apply by_inj
      rw [by_ext, by_str _ fun x hx => by_rng s x (List.mem_of_mem_drop hx), ← by_len, List.take_length]
    rw [e1, e2]
theorem cutL_rng {L : List Int} {c : Int} (h : ∀ x ∈ L, 0 ≤ x ∧ x < 256) : (∀ x ∈ (cutL L c).1, 0 ≤ x ∧ x < 256) ∧ ∀ x ∈ (cutL L c).2.1, 0 ≤ x ∧ x < 256 := by
  cases hI : idxL L c with
  | none => rw [cutL_none hI]; exact ⟨h, fun x hx => by cases hx⟩
  | some i => rw [cutL_some hI]; exact ⟨fun x hx => h x (List.mem_of_mem_take hx), fun x hx => h x (List.mem_of_mem_drop hx)⟩
theorem cutL_len (L : List Int) (c : Int) : (cutL L c).1.length + (cutL L c).2.1.length ≤ L.length := by
  cases hI : idxL L c with
  | none => rw [cutL_none hI]; simp
  | some i =>
    have := (idx_some hI).1
    rw [cutL_some hI]
    simp only [List.length_take, List.length_drop]
    omega
def centsT (T : List Int) (m : Bool) : Int × Int :=
  if (cutL T 46).2.2 = true ∧ plainL (cutL T 46).1 = true ∧ (cutL T 46).2.1.length = 2 ∧ (cutL T 46).2.1.all digitB = true ∧ ¬ (m = true ∧ T = [48, 46, 48, 48]) then numR 0 ((cutL T 46).1 ++ (cutL T 46).2.1) m else (0, 5)
def centsL (L : List Int) : Int × Int := centsT (unsign L).1 (unsign L).2
theorem cents_f (s : ByteArray) (hs : s.size ≤ 4611686018427387904) : Ev (fun k => words_Cents.f k s) (centsL (bytesOf s)) := by
  unfold words_Cents.f centsL
  rw [cutp_f]
  simp only [Option.bind_some]
  have hb := by_str (unsign (bytesOf s)).1 (unsign_rng (by_rng s))
  have hr := unsign_rng (by_rng s)
  have hsz : (strOfNums (unsign (bytesOf s)).1).size ≤ 4611686018427387904 := by
    rw [strOfNums_size]
    have := unsign_len (bytesOf s)
    rw [by_len] at this
    omega
  generalize (unsign (bytesOf s)).2 = m
  generalize (unsign (bytesOf s)).1 = T at hb hsz hr
  rw [cut_f _ _ hsz, hb]
  simp only [Option.bind_some]
  rw [show (((46 : UInt8).toNat : Nat) : Int) = 46 from rfl]
  have hc := cutL_rng (c := 46) hr
  have hl := cutL_len T 46
  rw [strOfNums_size] at hsz
  unfold centsT
  generalize (cutL T 46).1 = A at hc hl
  generalize (cutL T 46).2.1 = B at hc hl
  generalize (cutL T 46).2.2 = ok
  have hA := by_str A hc.1
  have hB := by_str B hc.2
  have sA : (strOfNums A).size ≤ 4611686018427387904 := by rw [strOfNums_size]; omega
  have sB : (strOfNums B).size ≤ 4611686018427387904 := by rw [strOfNums_size]; omega
  cases ok with
  | false =>
    simp only [Bool.false_eq_true, if_false, false_and]
    exact Ev.now _
  | true =>
    simp only [if_true, true_and]
    refine Ev_bind (plain_f _ sA) ?_
    rw [hA]
    by_cases c0 : plainL A = true
    case neg =>
      simp only [if_neg c0]
      rw [if_neg (fun h => c0 h.1)]
      exact Ev.now _
    simp only [if_pos c0]
    by_cases c1 : ((strOfNums B).size : Int) = 2
    case neg =>
      simp only [if_neg c1]
      rw [if_neg (fun h => c1 (by rw [strOfNums_size]; have := h.2.1; omega))]
      exact Ev.now _
    simp only [if_pos c1]
    have c1' : B.length = 2 := by rw [strOfNums_size] at c1; omega
    refine Ev_bind (digits_f _ sB) ?_
    rw [hB]
    by_cases c2 : B.all digitB = true
    case neg =>
      simp only [if_neg c2]
      rw [if_neg (fun h => c2 h.2.2.1)]
      exact Ev.now _
    simp only [if_pos c2]
    have hAB : bytesOf (strOfNums A ++ strOfNums B) = A ++ B := by rw [by_app, hA, hB]
    have hn := number_f (strOfNums A ++ strOfNums B) m (by rw [← by_len, hAB, List.length_append]; omega) (by
      rw [hAB]
      intro x hx
      rcases List.mem_append.1 hx with h | h
      · exact plain_all c0 x h
      · exact List.all_eq_true.1 c2 x h)
    rw [hAB] at hn
    have hsum : (strOfNums A).size + (strOfNums B).size ≤ 9223372036854775807 := by omega
    cases m with
    | false =>
      simp only [Bool.false_eq_true, if_false, false_and, not_false_eq_true, and_true, if_pos hsum]
      rw [if_pos ⟨c0, c1', c2⟩]
      exact Ev_bind hn (Ev.now _)
    | true =>
      simp only [if_true, true_and]
      by_cases c3 : (strOfNums T).toList = ([48, 46, 48, 48] : List UInt8)
      · have c4 : T = [48, 46, 48, 48] := by
          have := (by_toList (strOfNums T) [48, 46, 48, 48]).1 c3
          rw [hb] at this
          exact this
        simp only [if_pos c3]
        rw [if_neg (fun h => h.2.2.2 c4)]
        exact Ev.now _
      · have c4 : ¬ T = [48, 46, 48, 48] := by
          intro h
          apply c3
          rw [by_toList, hb, h]
          rfl
        simp only [if_neg c3, if_pos hsum]
        rw [if_pos ⟨c0, c1', c2, c4⟩]
        exact Ev_bind hn (Ev.now _)
def rcentsT (T : List Int) (m : Bool) : Int × Int := if 3 < T.length ∧ T[T.length - 3]? = some 46 ∧ plainL (T.take (T.length - 3)) = true ∧ plainL (49 :: T.drop (T.length - 2)) = true then sgnR (numV 0 (T.take (T.length - 3) ++ T.drop (T.length - 2))) m else (0, 5)
theorem plain_two {B : List Int} (h : B.length = 2) : plainL (49 :: B) = B.all digitB := by
  unfold plainL
  simp [show digitB 49 = true from rfl]
theorem dot_no {A : List Int} (h : ∀ x ∈ A, digitB x = true) : (46 : Int) ∉ A := fun hm => by
  have := dig_rng (h 46 hm)
  omega
theorem numV_two {A B : List Int} (hA : plainL A = true) (hB : B.length = 2) (hd : B.all digitB = true) : numV 0 (A ++ B) = 0 ↔ A = [48] ∧ B = [48, 48] := by
  constructor
  · intro h
    rw [numV_app] at h
    obtain ⟨x, y, rfl⟩ : ∃ x y, B = [x, y] := by
      rcases B with _ | ⟨x, _ | ⟨y, _ | ⟨z, r⟩⟩⟩
      · cases hB
      · cases hB
      · exact ⟨x, y, rfl⟩
      · simp at hB
    have hx := dig_rng (List.all_eq_true.1 hd x (by simp))
    have hy := dig_rng (List.all_eq_true.1 hd y (by simp))
    have h0 := numV_mono A 0 (by omega) (plain_all hA)
    have he : numV (numV 0 A) [x, y] = 10 * (10 * numV 0 A + (x - 48)) + (y - 48) := rfl
    rw [he] at h
    refine ⟨plain_zero hA (by omega), ?_⟩
    rw [show x = 48 by omega, show y = 48 by omega]
  · rintro ⟨rfl, rfl⟩
    rfl
theorem cents_same (T : List Int) (m : Bool) : centsT T m = rcentsT T m := by
  by_cases c : (cutL T 46).2.2 = true ∧ plainL (cutL T 46).1 = true ∧ (cutL T 46).2.1.length = 2 ∧ (cutL T 46).2.1.all digitB = true
  · unfold centsT rcentsT
    obtain ⟨h1, h2, h3, h4⟩ := c
    cases hI : idxL T 46 with
    | none => rw [cutL_none hI] at h1; cases h1
    | some i =>
      rw [cutL_some hI] at h1 h2 h3 h4 ⊢
      simp only [] at h1 h2 h3 h4 ⊢
      have hi := idx_some hI
      rw [List.length_drop] at h3
      have hlen : T.length = i + 3 := by omega
      have e3 : T.length - 3 = i := by omega
      have e2 : T.length - 2 = i + 1 := by omega
      have hp : 0 < i := by
        rcases Nat.eq_zero_or_pos i with h | h
        · subst h
          simp [plainL] at h2
        · exact h
      have hB : (T.drop (i + 1)).length = 2 := by rw [List.length_drop]; omega
      rw [e3, e2, if_pos (show 3 < T.length ∧ T[i]? = some 46 ∧ plainL (T.take i) = true ∧ plainL (49 :: T.drop (i + 1)) = true from ⟨by omega, hi.2.1, h2, by rw [plain_two hB]; exact h4⟩)]
      have hz := numV_two h2 hB h4
      have hT : (T.take i = [48] ∧ T.drop (i + 1) = [48, 48]) ↔ T = [48, 46, 48, 48] := by
        constructor
        · rintro ⟨a, b⟩
          rw [hi.2.2.2, a, b]
          rfl
        · intro h
          subst h
          simp at hlen
          obtain rfl : i = 1 := by omega
          exact ⟨rfl, rfl⟩
      rw [hT] at hz
      unfold sgnR numR
      by_cases c5 : m = true ∧ T = [48, 46, 48, 48]
      · rw [if_neg (fun h => h.2.2.2.2 c5), if_pos ⟨c5.1, hz.2 c5.2⟩]
      · rw [if_pos ⟨trivial, h2, hB, h4, c5⟩, if_neg (show ¬ (m = true ∧ numV 0 (T.take i ++ T.drop (i + 1)) = 0) from fun h => c5 ⟨h.1, hz.1 h.2⟩)]
  · have hl : centsT T m = (0, 5) := by
      unfold centsT
      rw [if_neg (fun h => c ⟨h.1, h.2.1, h.2.2.1, h.2.2.2.1⟩)]
    rw [hl]
    unfold rcentsT
    by_cases c2 : 3 < T.length ∧ T[T.length - 3]? = some 46 ∧ plainL (T.take (T.length - 3)) = true ∧ plainL (49 :: T.drop (T.length - 2)) = true
    · exfalso
      obtain ⟨g1, g2, g3, g4⟩ := c2
      apply c
      have hs : T = T.take (T.length - 3) ++ 46 :: T.drop (T.length - 2) := by
        have hlt : T.length - 3 < T.length := by omega
        have e : T[T.length - 3] = 46 := by
          rw [List.getElem?_eq_getElem hlt] at g2
          exact Option.some.inj g2
        have := List.take_append_drop (T.length - 3) T
        rw [drop_cons _ _ hlt, e, show T.length - 3 + 1 = T.length - 2 by omega] at this
        exact this.symm
      have hI : idxL T 46 = some (T.length - 3) := by
        have := idx_of (A := T.take (T.length - 3)) (R := T.drop (T.length - 2)) (dot_no (plain_all g3))
        rw [← hs, List.length_take] at this
        rw [this]
        congr 1
        omega
      have hB : (T.drop (T.length - 3 + 1)).length = 2 := by rw [List.length_drop]; omega
      rw [cutL_some hI]
      refine ⟨rfl, g3, hB, ?_⟩
      have := plain_two hB
      rw [show T.length - 3 + 1 = T.length - 2 by omega] at this ⊢
      rw [← this]
      exact g4
    · rw [if_neg c2]
def digs (n : Nat) : List Int := if n < 10 then [48 + (n : Int)] else digs (n / 10) ++ [48 + ((n % 10 : Nat) : Int)]
termination_by n
decreasing_by omega
theorem digs_lt {n : Nat} (h : n < 10) : digs n = [48 + (n : Int)] := by rw [digs, if_pos h]
theorem digs_ge {n : Nat} (h : 10 ≤ n) : digs n = digs (n / 10) ++ [48 + ((n % 10 : Nat) : Int)] := by rw [digs, if_neg (by omega)]
theorem digs_ind {p : Nat → Prop} (h0 : ∀ n, n < 10 → p n) (h1 : ∀ n, 10 ≤ n → p (n / 10) → p n) (n : Nat) : p n := by
  induction n using Nat.strongRecOn with
  | _ n ih =>
    by_cases h : n < 10
    · exact h0 n h
    · exact h1 n (by omega) (ih _ (by omega))
theorem numV_digs (n : Nat) : numV 0 (digs n) = (n : Int) := by
  induction n using digs_ind with
  | h0 n h => rw [digs_lt h]; show 10 * 0 + (48 + (n : Int) - 48) = n; omega
  | h1 n h ih =>
    rw [digs_ge h, numV_app, ih]
    show 10 * ((n / 10 : Nat) : Int) + (48 + ((n % 10 : Nat) : Int) - 48) = n
    omega
theorem digitB_of {x : Int} (h1 : 48 ≤ x) (h2 : x ≤ 57) : digitB x = true := by
  unfold digitB
  rw [decide_eq_true h1, decide_eq_true h2, Bool.and_true]
theorem digs_all (n : Nat) : ∀ x ∈ digs n, digitB x = true := by
  induction n using digs_ind with
  | h0 n h =>
    rw [digs_lt h]
    intro x hx
    obtain rfl := List.mem_singleton.1 hx
    exact digitB_of (by omega) (by omega)
  | h1 n h ih =>
    rw [digs_ge h]
    intro x hx
    rcases List.mem_append.1 hx with h2 | h2
    · exact ih x h2
    · obtain rfl := List.mem_singleton.1 h2
      exact digitB_of (by omega) (by omega)
theorem digs_ne (n : Nat) : digs n ≠ [] := by
  by_cases h : n < 10
  · rw [digs_lt h]; simp
  · rw [digs_ge (by omega)]; simp
theorem digs_rng (n : Nat) : ∀ x ∈ digs n, 0 ≤ x ∧ x < 256 := fun x hx => by have := dig_rng (digs_all n x hx); omega
theorem head_app {A B : List Int} (h : A ≠ []) : (A ++ B).head? = A.head? := by
  cases A with
  | nil => exact absurd rfl h
  | cons x r => rfl
theorem digs_head (n : Nat) (h : 0 < n) : (digs n).head? ≠ some 48 := by
  induction n using digs_ind with
  | h0 n h2 => rw [digs_lt h2]; simp; omega
  | h1 n h2 ih =>
    rw [digs_ge h2, head_app (digs_ne _)]
    exact ih (by omega)
theorem plain_digs (n : Nat) : plainL (digs n) = true := by
  unfold plainL
  have h1 : (digs n).isEmpty = false := by simpa using digs_ne n
  have h2 : (digs n).all digitB = true := List.all_eq_true.2 (digs_all n)
  rw [h1, h2]
  simp only [Bool.not_false, Bool.true_and, Bool.and_true]
  by_cases h : n < 10
  · rw [digs_lt h]; rfl
  · have := digs_head n (by omega)
    have h3 : ((digs n).head? == some 48) = false := by simpa using this
    rw [h3, Bool.and_false]
    rfl
theorem digs_len : ∀ (k n : Nat), 0 < k → n < 10 ^ k → (digs n).length ≤ k
  | 0, n, h, _ => absurd h (by decide)
  | k + 1, n, _, h => by
    by_cases h2 : n < 10
    · rw [digs_lt h2]; simp
    · rw [digs_ge (by omega)]
      have hk : 0 < k := by
        rcases Nat.eq_zero_or_pos k with rfl | h3
        · simp at h; omega
        · exact h3
      have := digs_len k (n / 10) hk (by rw [Nat.pow_succ] at h; omega)
      simp only [List.length_append, List.length_cons, List.length_nil]
      omega
theorem decL_digs : ∀ (k : Nat) (u : Int) (acc : List Int), 0 < k → 0 ≤ u → u < 10 ^ k → decL k u acc = digs u.toNat ++ acc
  | 0, u, acc, h, _, _ => absurd h (by decide)
  | k + 1, u, acc, _, h0, h1 => by
    unfold decL
    by_cases c : u / 10 = 0
    · rw [if_pos c, digs_lt (by omega), show 48 + u % 10 = 48 + (u.toNat : Int) by omega]
      rfl
    · rw [if_neg c, digs_ge (by omega)]
      have hk : 0 < k := by
        rcases Nat.eq_zero_or_pos k with rfl | h3
        · simp at h1; omega
        · exact h3
      rw [decL_digs k (u / 10) _ hk (by omega) (by rw [Int.pow_succ] at h1; omega), show (u / 10).toNat = u.toNat / 10 by omega, show 48 + u % 10 = 48 + ((u.toNat % 10 : Nat) : Int) by omega, List.append_assoc]
      rfl
theorem decimal_f (u : Int) (h0 : 0 ≤ u) (h1 : u < 18446744073709551616) : words_decimal.f u = some (strOfNums (digs u.toNat)) := by
  unfold words_decimal.f
  rw [if_pos ⟨h0, h1⟩, decL_digs 20 u [] (by decide) h0 (by omega), List.append_nil]
def sgnL (n : Int) : List Int := if n < 0 then [45] else []
theorem len20 (n : Nat) (h : n < 18446744073709551616) : (digs n).length ≤ 20 := digs_len 20 n (by decide) (by omega)
theorem wsize_f (n : Int) (h1 : -9223372036854775808 ≤ n) (h2 : n ≤ 9223372036854775807) : words_size.f n = some ((n.natAbs : Int), strOfNums (sgnL n)) := by
  unfold words_size.f sgnL
  by_cases c : n < 0
  · rw [if_pos c, if_pos c]
    have : IntKind.u64.wrap (-(IntKind.u64.wrap n)) = (n.natAbs : Int) := by
      simp only [IntKind.wrap, IntKind.bits, IntKind.signed, Bool.false_and, Bool.false_eq_true, if_false]
      omega
    rw [this]
    rfl
  · rw [if_neg c, if_neg c]
    have : IntKind.u64.wrap n = (n.natAbs : Int) := by
      simp only [IntKind.wrap, IntKind.bits, IntKind.signed, Bool.false_and, Bool.false_eq_true, if_false]
      omega
    rw [this]
    rfl
theorem flat_join (l : List ByteArray) : bytesOf ⟨(Lib.join (l.map (·.data.toList)) (⟨#[]⟩ : ByteArray).data.toList).toArray⟩ = (l.map bytesOf).flatten := by
  unfold bytesOf
  show ((Lib.join (l.map (·.data.toList)) []).toArray.toList).map _ = _
  rw [List.toList_toArray]
  unfold Lib.join
  rw [List.intercalate]
  have e : ∀ m : List (List UInt8), (List.intersperse [] m).flatten = m.flatten := by
    intro m
    induction m with
    | nil => rfl
    | cons x r ih =>
      cases r with
      | nil => rfl
      | cons y r =>
        simp only [List.intersperse_cons_cons, List.flatten_cons, List.nil_append] at ih ⊢
        rw [ih]
  rw [e, List.map_flatten, List.map_map]
  rfl
theorem join0_f (l : List ByteArray) (h : (l.map bytesOf).flatten.length ≤ 140737488355328) (h2 : l.length ≤ 140737488355328) : strings_Join.f l (⟨#[]⟩ : ByteArray) = some (strOfNums (l.map bytesOf).flatten) := by
  unfold strings_Join.f
  have e := flat_join l
  have hl : (Lib.join (l.map (·.data.toList)) (⟨#[]⟩ : ByteArray).data.toList).length = (l.map bytesOf).flatten.length := by
    rw [← e, by_len]
    rfl
  rw [if_pos ⟨by rw [hl]; exact h, h2⟩]
  congr 1
  apply by_inj
  rw [e, by_str]
  intro x hx
  obtain ⟨y, hy, hx⟩ := List.mem_flatten.1 hx
  obtain ⟨s, _, rfl⟩ := List.mem_map.1 hy
  exact by_rng s x hx
theorem sgn_rng (n : Int) : ∀ x ∈ sgnL n, 0 ≤ x ∧ x < 256 := by
  unfold sgnL
  intro x hx
  split at hx
  · obtain rfl := List.mem_singleton.1 hx; omega
  · cases hx
theorem sgn_len (n : Int) : (sgnL n).length ≤ 1 := by
  unfold sgnL
  split <;> simp
theorem bnd {α β : Type} {x : Option α} {a : α} {f : α → Option β} {r : Option β} (h : x = some a) (k : f a = r) : x.bind f = r := by rw [h]; exact k
theorem dec_nat (n : Nat) (h : n < 18446744073709551616) : words_decimal.f (n : Int) = some (strOfNums (digs n)) := by
  have := decimal_f (n : Int) (by omega) (by omega)
  rwa [Int.toNat_natCast] at this
def moneyL (n : Int) : List Int := sgnL n ++ (digs (n.natAbs / 100) ++ (46 :: (digs (n.natAbs / 10 % 10) ++ digs (n.natAbs % 10))))
theorem money_join (n : Int) (h1 : -9223372036854775808 ≤ n) (h2 : n ≤ 9223372036854775807) : strings_Join.f [strOfNums (sgnL n), strOfNums (digs (n.natAbs / 100)), (⟨#[46]⟩ : ByteArray), strOfNums (digs (n.natAbs / 10 % 10)), strOfNums (digs (n.natAbs % 10))] (⟨#[]⟩ : ByteArray) = some (strOfNums (moneyL n)) := by
  have e : ([strOfNums (sgnL n), strOfNums (digs (n.natAbs / 100)), (⟨#[46]⟩ : ByteArray), strOfNums (digs (n.natAbs / 10 % 10)), strOfNums (digs (n.natAbs % 10))].map bytesOf).flatten = moneyL n := by
    simp only [List.map_cons, List.map_nil, List.flatten_cons, List.flatten_nil, List.append_nil]
    rw [by_str _ (sgn_rng n), by_str _ (digs_rng _), by_str _ (digs_rng _), by_str _ (digs_rng _), show bytesOf (⟨#[46]⟩ : ByteArray) = [46] from rfl, moneyL, List.singleton_append]
  have hl : (moneyL n).length ≤ 140737488355328 := by
    unfold moneyL
    simp only [List.length_append, List.length_cons]
    have := sgn_len n
    have := len20 (n.natAbs / 100) (by omega)
    have := len20 (n.natAbs / 10 % 10) (by omega)
    have := len20 (n.natAbs % 10) (by omega)
    omega
  rw [join0_f _ (by rw [e]; exact hl) (by simp), e]
theorem money_f (n : Int) (h1 : -9223372036854775808 ≤ n) (h2 : n ≤ 9223372036854775807) : words_Money.f n = some (strOfNums (moneyL n)) := by
  unfold words_Money.f words_together.f
  refine bnd (wsize_f n h1 h2) ?_
  have wu : ∀ x : Int, 0 ≤ x → x < 18446744073709551616 → IntKind.u64.wrap x = x := fun x a b => dec_u x a b
  have q1 : IntKind.u64.wrap (Int.tdiv (n.natAbs : Int) 100) = ((n.natAbs / 100 : Nat) : Int) := by
    rw [Int.tdiv_eq_ediv_of_nonneg (by omega), wu _ (by omega) (by omega)]; omega
  have q2 : Int.tmod (IntKind.u64.wrap (Int.tdiv (n.natAbs : Int) 10)) 10 = ((n.natAbs / 10 % 10 : Nat) : Int) := by
    rw [Int.tdiv_eq_ediv_of_nonneg (by omega), wu _ (by omega) (by omega), Int.tmod_eq_emod_of_nonneg (by omega)]; omega
  have q3 : Int.tmod (n.natAbs : Int) 10 = ((n.natAbs % 10 : Nat) : Int) := by
    rw [Int.tmod_eq_emod_of_nonneg (by omega)]; omega
  rw [q1, q2, q3]
  refine bnd (dec_nat _ (by omega)) ?_
  refine bnd (dec_nat _ (by omega)) ?_
  refine bnd (dec_nat _ (by omega)) ?_
  exact bnd (bnd (money_join n h1 h2) (Eq.refl _)) (Eq.refl _)
theorem unsign_sgn (n : Int) (T : List Int) (h : T.head? ≠ some 45) : unsign (sgnL n ++ T) = (T, decide (n < 0)) := by
  unfold unsign sgnL
  by_cases c : n < 0
  · rw [if_pos c, decide_eq_true c, List.singleton_append, List.head?_cons, if_pos rfl, List.tail_cons]
  · rw [if_neg c, decide_eq_false c, List.nil_append, if_neg h]
theorem dig_head {T : List Int} (h : ∀ x ∈ T, digitB x = true) : T.head? ≠ some 45 := by
  intro e
  have hm : (45 : Int) ∈ T := List.mem_of_head? e
  have := dig_rng (h _ hm)
  omega
theorem digs_one {n : Nat} (h : n < 10) : digs n = [48 + (n : Int)] := digs_lt h
theorem rcents_parts (A : List Int) (x y : Int) (m : Bool) (hA : plainL A = true) (hx : digitB x = true) (hy : digitB y = true) : rcentsT (A ++ [46, x, y]) m = sgnR (numV 0 (A ++ [x, y])) m := by
  unfold rcentsT
  have hl : (A ++ [46, x, y]).length = A.length + 3 := by simp
  have ht : (A ++ [46, x, y]).take A.length = A := by simp
  have hd : (A ++ [46, x, y]).drop (A.length + 1) = [x, y] := by
    rw [List.drop_append]
    simp
  have hAn : 0 < A.length := by
    cases A with
    | nil => cases hA
    | cons a r => simp
  rw [hl, show A.length + 3 - 3 = A.length by omega, show A.length + 3 - 2 = A.length + 1 by omega, ht, hd]
  have h2 : plainL [49, x, y] = true := by
    rw [plain_two (B := [x, y]) rfl]
    simp [hx, hy]
  rw [if_pos ⟨by omega, by simp, hA, h2⟩]
theorem cents_money (n : Int) : centsL (moneyL n) = if n.natAbs ≤ 1152921504606846976 then (n, 0) else (0, 3) := by
  unfold centsL moneyL
  rw [digs_one (n := n.natAbs / 10 % 10) (by omega), digs_one (n := n.natAbs % 10) (by omega)]
  simp only [List.singleton_append]
  rw [unsign_sgn n _ (by
    rw [head_app (digs_ne _)]
    exact dig_head (digs_all _))]
  rw [cents_same, rcents_parts _ _ _ _ (plain_digs _) (digitB_of (by omega) (by omega)) (digitB_of (by omega) (by omega)), numV_app, numV_digs]
  have e : numV ((n.natAbs / 100 : Nat) : Int) [48 + ((n.natAbs / 10 % 10 : Nat) : Int), 48 + ((n.natAbs % 10 : Nat) : Int)] = (n.natAbs : Int) := by
    show 10 * (10 * ((n.natAbs / 100 : Nat) : Int) + (48 + ((n.natAbs / 10 % 10 : Nat) : Int) - 48)) + (48 + ((n.natAbs % 10 : Nat) : Int) - 48) = _
    omega
  rw [e]
  unfold sgnR
  rw [if_neg (by
    rintro ⟨h1, h2⟩
    have := of_decide_eq_true h1
    omega)]
  by_cases c : n.natAbs ≤ 1152921504606846976
  · rw [if_neg (by omega), if_pos c]
    by_cases c2 : n < 0
    · rw [decide_eq_true c2, if_pos rfl]
      congr 1
      omega
    · rw [decide_eq_false c2, if_neg (by simp)]
      congr 1
      omega
  · rw [if_pos (by omega), if_neg c]
end Go.Proofs.YtliooghmpkdmoaaDoor.P
end
section
namespace Go.Proofs.YtliooghmpkdmoaaDoor.P
open Go.RowKit Go.Proofs.YtliooghmpkdmoaaDoorW.PrintWords Go.Proofs.YtliooghmpkdmoaaDoorW.PrintMore Go.Proofs.YtliooghmpkdmoaaDoor.X
set_option maxRecDepth 100000 in
theorem goes06 : Ev (fun k => contangotop_goes06.f k) true := Ev.of (k := 60) (contangotop_goes06.mono) (by decide +kernel)
end Go.Proofs.YtliooghmpkdmoaaDoor.P
end
section
namespace Go.Proofs.YtliooghmpkdmoaaDoor.Pure
set_option linter.unusedVariables false
set_option linter.unusedSimpArgs false
open Go.RowKit Go.Proofs.YtliooghmpkdmoaaDoorW.PrintWords Go.Proofs.YtliooghmpkdmoaaDoorW.PrintMore Go.Proofs.YtliooghmpkdmoaaDoor.X Go.Proofs.YtliooghmpkdmoaaDoor.P
theorem mb_sz (n : Int) (h1 : -9223372036854775808 ≤ n) (h2 : n ≤ 9223372036854775807) : (strOfNums (moneyL n)).size ≤ 4611686018427387904 := by
  rw [strOfNums_size]
  unfold moneyL
  simp only [List.length_append, List.length_cons]
  have := sgn_len n
  have := len20 (n.natAbs / 100) (by omega)
  have := len20 (n.natAbs / 10 % 10) (by omega)
  have := len20 (n.natAbs % 10) (by omega)
  omega
theorem mb_rng (n : Int) : ∀ x ∈ moneyL n, 0 ≤ x ∧ x < 256 := by
  unfold moneyL
  intro x hx
  simp only [List.mem_append, List.mem_cons] at hx
  rcases hx with h | h | h | h | h
  · exact sgn_rng n x h
  · exact digs_rng _ x h
  · omega
  · exact digs_rng _ x h
  · exact digs_rng _ x h
theorem mb_true (l : List Rt) (n p q : Int) : Ev (fun k => contangotop_TopMoneyBack.j0 k l n p q true) true := by
  refine Ev_succ ?_
  simp only [contangotop_TopMoneyBack.j0, if_true]
  exact Ev_id goes06
theorem mb_end (l : List Rt) (n : Int) (hn : -9223372036854775808 ≤ n ∧ n ≤ 9223372036854775807) (i j : Nat) (hi : i < l.length) (hj : j < l.length)
    (ha : 1 ≤ (rd_T32 l (i : Int)).f1 ∧ (rd_T32 l (i : Int)).f1 ≤ 1000000000000) (hb : 1 ≤ (rd_T32 l (j : Int)).f1 ∧ (rd_T32 l (j : Int)).f1 ≤ 1000000000000)
    (m : Int) (hm : m = (mulDiv n (rd_T32 l (i : Int)).f1 (rd_T32 l (j : Int)).f1 5).1) (h1 : (mulDiv n (rd_T32 l (i : Int)).f1 (rd_T32 l (j : Int)).f1 5).2 = 0) (hf : fitsM n = true) (hfm : fitsM m = true) :
    Ev (fun k => contangotop_TopMoneyBack.j1 k l n (i : Int) (j : Int) (mulDiv m (rd_T32 l (j : Int)).f1 (rd_T32 l (i : Int)).f1 5).1 (mulDiv m (rd_T32 l (j : Int)).f1 (rd_T32 l (i : Int)).f1 5).2 false) true := by
  generalize haa : (rd_T32 l (i : Int)).f1 = a at *
  generalize hbb : (rd_T32 l (j : Int)).f1 = b at *
  have fa : fitsM a = true := (fitsM_iff a).2 (by omega)
  have fb : fitsM b = true := (fitsM_iff b).2 (by omega)
  refine Ev_succ ?_
  simp only [contangotop_TopMoneyBack.j1, Bool.false_eq_true, if_false]
  by_cases c : (mulDiv m b a 5).2 = 0
  · have hk := mulDiv_ok c (by omega)
    have hnear := there_back ha.1 hb.1 h1 (by rw [← hm]; exact c)
    rw [← hm] at hnear
    have hb2 := mdN_near hfm fb fa (by omega)
    have hkr : -1152921504606846976 ≤ (mulDiv m b a 5).1 ∧ (mulDiv m b a 5).1 ≤ 1152921504606846976 := by
      rw [hk.2.2.2.2]
      split <;> omega
    rw [fitsM_iff] at hf
    simp only [if_pos c, if_pos (show 0 ≤ (i : Int) by omega), if_pos (show (i : Int) < (l.length : Int) by omega), if_pos (show 0 ≤ (j : Int) by omega), if_pos (show (j : Int) < (l.length : Int) by omega), haa, hbb]
    have w1 : wrap64 (2 * a) = 2 * a := w_id (by omega) (by omega)
    have w2 : wrap64 (a + b) = a + b := w_id (by omega) (by omega)
    have w3 : wrap64 ((mulDiv m b a 5).1 - n) = (mulDiv m b a 5).1 - n := w_id (by omega) (by omega)
    have w4 : wrap64 (n - (mulDiv m b a 5).1) = n - (mulDiv m b a 5).1 := w_id (by omega) (by omega)
    have w5 : wrap64 (Int.tdiv (a + b) (2 * a)) = (a + b) / (2 * a) := by
      rw [Int.tdiv_eq_ediv_of_nonneg (by omega)]
      have d1 := Int.ediv_nonneg (show 0 ≤ a + b by omega) (show 0 ≤ 2 * a by omega)
      have d2 := Int.ediv_le_self (2 * a) (show 0 ≤ a + b by omega)
      exact w_id (by omega) (by omega)
    rw [w1, w2, w3, w4, w5]
    have hle : mx ((mulDiv m b a 5).1 - n) (n - (mulDiv m b a 5).1) ≤ (a + b) / (2 * a) := by
      have d1 := (Int.le_ediv_iff_mul_le (show 0 < 2 * a by omega)).2 (show ((mulDiv m b a 5).1 - n) * (2 * a) ≤ a + b by rw [Int.mul_comm]; exact hnear.1)
      have d2 := (Int.le_ediv_iff_mul_le (show 0 < 2 * a by omega)).2 (show (n - (mulDiv m b a 5).1) * (2 * a) ≤ a + b by rw [Int.mul_comm]; exact hnear.2)
      unfold mx
      split
      · exact d2
      · exact d1
    simp only [if_neg (show ¬ 2 * a = 0 by omega), if_pos hle]
    exact Ev_id goes06
  · have h3 : (mulDiv m b a 5).2 = 3 := (mulDiv_over hfm fb fa (by omega)).resolve_left c
    simp only [if_neg c, if_pos h3]
    exact Ev_id goes06
theorem TopMoneyBack : ∀ (l0 : List (S32)) (a1 : Int) (x2 : S23), (l0.length ≤ maxLen ∧ l0.length * 24 ≤ 140737488351232 ∧ ∀ x ∈ l0, ok32 x) → (Lit.int .i64 a1).wf = true → ok23 x2 → ∃ k, X.contangotop_TopMoneyBack.f k l0 a1 x2.f0 x2.f1 = some true := by
  intro l n x hl hn hx
  have hnr := wf_rng hn
  obtain ⟨v, hv, hv0⟩ := rcheck_ev l
  refine Ev.rounds ?_
  generalize x.f0 = p
  generalize x.f1 = q
  unfold contangotop_TopMoneyBack.f
  refine Ev_bind hv ?_
  by_cases c0 : v = 0
  case neg => simp only [if_neg c0]; exact mb_true _ _ _ _
  simp only [if_pos c0]
  by_cases c1 : p < 0
  · simp only [if_pos c1]; exact mb_true _ _ _ _
  by_cases c2 : q < 0
  · simp only [if_neg c1, if_pos c2]; exact mb_true _ _ _ _
  by_cases c3 : p ≥ (l.length : Int)
  · simp only [if_neg c1, if_neg c2, if_pos c3]; exact mb_true _ _ _ _
  by_cases c4 : q ≥ (l.length : Int)
  · simp only [if_neg c1, if_neg c2, if_neg c3, decide_eq_true c4]; exact mb_true _ _ _ _
  simp only [if_neg c1, if_neg c2, if_neg c3, decide_eq_false c4]
  subst c0
  obtain ⟨_, _, hall⟩ := hv0 rfl
  obtain ⟨i, rfl⟩ : ∃ i : Nat, p = (i : Int) := ⟨p.toNat, by omega⟩
  obtain ⟨j, rfl⟩ : ∃ j : Nat, q = (j : Int) := ⟨q.toNat, by omega⟩
  have hi : i < l.length := by omega
  have hj : j < l.length := by omega
  have ei : rd_T32 l (i : Int) = l[i] := by simp [rd_T32, hi]
  have ej : rd_T32 l (j : Int) = l[j] := by simp [rd_T32, hj]
  have ra := hall l[i] (List.getElem_mem hi)
  have rb := hall l[j] (List.getElem_mem hj)
  rw [← ei] at ra
  rw [← ej] at rb
  refine Ev_succ ?_
  simp only [contangotop_TopMoneyBack.j0, Bool.false_eq_true, if_false]
  refine Ev_bind (conv_ev hi hj hv n) ?_
  by_cases c5 : (mulDiv n (rd_T32 l (i : Int)).f1 (rd_T32 l (j : Int)).f1 5).2 = 0
  case neg =>
    simp only [if_neg c5, if_pos (mulDiv_bad c5)]
    exact Ev_id goes06
  obtain ⟨f1, f2, f3, f4, f5⟩ := mulDiv_ok c5 (by omega)
  have hb2 := mdN_near f1 f2 f3 (by omega)
  obtain ⟨m, hm⟩ : ∃ m, m = (mulDiv n (rd_T32 l (i : Int)).f1 (rd_T32 l (j : Int)).f1 5).1 := ⟨_, rfl⟩
  have hmr : -1152921504606846976 ≤ m ∧ m ≤ 1152921504606846976 := by
    rw [hm, f5]
    split <;> omega
  simp only [if_pos c5, ← hm]
  rw [money_f m (by omega) (by omega)]
  simp only [Option.bind_some]
  refine Ev_bind (cents_f _ (mb_sz m (by omega) (by omega))) ?_
  rw [by_str _ (mb_rng m), cents_money, if_pos (show m.natAbs ≤ 1152921504606846976 by omega)]
  refine Ev_bind (conv_ev hj hi hv m) ?_
  simp only [if_true, bne_self_eq_false]
  exact mb_end l n hnr i j hi hj ra rb m hm c5 f1 ((fitsM_iff m).2 hmr)
end Go.Proofs.YtliooghmpkdmoaaDoor.Pure
end
