/- For ProductBack: contracts, and facts on lists and numbers, that it uses (part 4). -/
import Derived.Test.YtieifncibojciaaDoorProductBackc3
section
namespace Go.Proofs.YtieifncibojciaaDoor.P
set_option linter.unusedVariables false
set_option linter.unusedSimpArgs false
open Go.RowKit Go.Proofs.YtieifncibojciaaDoorW.PrintWords Go.Proofs.YtieifncibojciaaDoorW.PrintMore Go.Proofs.YtieifncibojciaaDoor.X
def plainL (L : List Int) : Bool := !L.isEmpty && !(decide (1 < L.length) && L.head? == some 48) && L.all digitB
def numV (n : Int) (L : List Int) : Int := L.foldl (fun n b => 10 * n + (b - 48)) n
def numR (n : Int) (L : List Int) (minus : Bool) : Int × Int := if 1152921504606846976 < numV n L then (0, 3) else (if minus then -(numV n L) else numV n L, 0)
def unsign (L : List Int) : List Int × Bool := if L.head? = some 45 then (L.tail, true) else (L, false)
def intL (L : List Int) : Int × Int := if plainL (unsign L).1 = true ∧ ¬((unsign L).2 = true ∧ (unsign L).1 = [48]) then numR 0 (unsign L).1 (unsign L).2 else (0, 5)
theorem dig_rng {x : Int} (h : digitB x = true) : 48 ≤ x ∧ x ≤ 57 := by
  unfold digitB at h
  simp only [Bool.and_eq_true, decide_eq_true_eq] at h
  exact h
theorem numV_mono : ∀ (L : List Int) (n : Int), 0 ≤ n → (∀ x ∈ L, digitB x = true) → n ≤ numV n L
  | [], n, _, _ => Int.le_refl _
  | x :: L, n, h, hd => by
    have h1 := dig_rng (hd x (by simp))
    have := numV_mono L (10 * n + (x - 48)) (by omega) fun y hy => hd y (by simp [hy])
    unfold numV at this ⊢
    rw [List.foldl_cons]
    omega
theorem num_step (n d : Int) (h0 : 0 ≤ n) (h1 : n ≤ 1152921504606846976) (h2 : 0 ≤ d) (h3 : d ≤ 9) : (10 * n + d ≤ 9223372036854775807 ∧ wrap64 (wrap64 (10 * n) + d) = 10 * n + d) ∨ (9223372036854775807 < 10 * n + d ∧ wrap64 (wrap64 (10 * n) + d) < 0) := by
  unfold wrap64
  omega
theorem neg_w (n : Int) (h0 : 0 ≤ n) (h1 : n ≤ 1152921504606846976) : wrap64 (-n) = -n := w_id (by omega) (by omega)
theorem digits_loop (s : ByteArray) (hs : s.size ≤ 4611686018427387904) : ∀ (d i : Nat), i + d = s.size → Ev (fun k => words_digits.l0 k s s.size i) (((bytesOf s).drop i).all digitB)
  | 0, i, hd => by
    refine Ev_succ ?_
    simp only [words_digits.l0, if_neg (show ¬ ((i : Int) < (s.size : Int)) by omega)]
    rw [by_end s i (by omega)]
    exact Ev.now _
  | d + 1, i, hd => by
    have hi : i < s.size := by omega
    have ih := digits_loop s hs d (i + 1) (by omega)
    refine Ev_succ ?_
    simp only [words_digits.l0, if_pos (show (i : Int) < (s.size : Int) by omega), if_pos (show 0 ≤ (i : Int) by omega), digit_f, Option.bind_some, w_succ hi (by omega)]
    rw [by_drop s i hi, List.all_cons]
    cases h : digitB (bt s (i : Int)) with
    | true => simp only [if_true, Bool.true_and]; exact ih
    | false => simp only [Bool.false_eq_true, if_false, Bool.false_and]; exact Ev.now _
theorem digits_f (s : ByteArray) (hs : s.size ≤ 4611686018427387904) : Ev (fun k => words_digits.f k s) ((bytesOf s).all digitB) := by
  unfold words_digits.f
  exact digits_loop s hs s.size 0 (by omega)
theorem number_loop (s : ByteArray) (minus : Bool) (hs : s.size ≤ 4611686018427387904) (hall : ∀ x ∈ bytesOf s, digitB x = true) : ∀ (d i : Nat) (n : Int), i + d = s.size → 0 ≤ n → n ≤ 1152921504606846976 → Ev (fun k => words_number.l0 k s minus n s.size i) (numR n ((bytesOf s).drop i) minus)
  | 0, i, n, hd, h0, h1 => by
    refine Ev_succ ?_
    simp only [words_number.l0, if_neg (show ¬ ((i : Int) < (s.size : Int)) by omega)]
    rw [by_end s i (by omega)]
    have hc : numR n [] minus = (if minus then -n else n, 0) := by
      unfold numR numV
      rw [List.foldl_nil, if_neg (show ¬ 1152921504606846976 < n by omega)]
    rw [hc]
    cases minus with
    | true => simp only [if_true, neg_w n h0 h1]; exact Ev.now _
    | false => simp only [Bool.false_eq_true, if_false]; exact Ev.now _
  | d + 1, i, n, hd, h0, h1 => by
    have hi : i < s.size := by omega
    have hb : digitB (bt s (i : Int)) = true := hall _ (by
      have h' : i < (bytesOf s).length := by rw [by_len]; exact hi
      rw [by_bt s i h']
      exact List.getElem_mem h')
    have hb2 := dig_rng hb
    refine Ev_succ ?_
    simp only [words_number.l0, if_pos (show (i : Int) < (s.size : Int) by omega), if_pos (show 0 ≤ (i : Int) by omega), w_succ hi (by omega), Int.emod_eq_of_lt (show 0 ≤ bt s (i : Int) - 48 by omega) (show bt s (i : Int) - 48 < 256 by omega)]
    rw [by_drop s i hi]
    have hr : ∀ x ∈ (bytesOf s).drop (i + 1), digitB x = true := fun x hx => hall x (List.mem_of_mem_drop hx)
    have hm := numV_mono ((bytesOf s).drop (i + 1)) (10 * n + (bt s (i : Int) - 48)) (by omega) hr
    have hc : numR n (bt s (i : Int) :: (bytesOf s).drop (i + 1)) minus = numR (10 * n + (bt s (i : Int) - 48)) ((bytesOf s).drop (i + 1)) minus := by
      unfold numR numV
      rw [List.foldl_cons]
    rw [hc]
    rcases num_step n (bt s (i : Int) - 48) h0 h1 (by omega) (by omega) with ⟨h2, h3⟩ | ⟨h2, h3⟩
    · simp only [h3, if_neg (show ¬ 10 * n + (bt s (i : Int) - 48) < 0 by omega)]
      by_cases h4 : 10 * n + (bt s (i : Int) - 48) > 1152921504606846976
      · simp only [if_pos h4]
        have : numR (10 * n + (bt s (i : Int) - 48)) ((bytesOf s).drop (i + 1)) minus = (0, 3) := by
          unfold numR
          rw [if_pos (by omega)]
        rw [this]
        exact Ev.now _
      · simp only [if_neg h4]
        exact number_loop s minus hs hall d (i + 1) _ (by omega) (by omega) (by omega)
    · simp only [if_pos h3]
      have : numR (10 * n + (bt s (i : Int) - 48)) ((bytesOf s).drop (i + 1)) minus = (0, 3) := by
        unfold numR
        rw [if_pos (by omega)]
      rw [this]
      exact Ev.now _
theorem number_f (s : ByteArray) (minus : Bool) (hs : s.size ≤ 4611686018427387904) (hall : ∀ x ∈ bytesOf s, digitB x = true) : Ev (fun k => words_number.f k s minus) (numR 0 (bytesOf s) minus) := by
  unfold words_number.f
  exact number_loop s minus hs hall s.size 0 0 (by omega) (by omega) (by omega)
theorem plain_all {L : List Int} (h : plainL L = true) : ∀ x ∈ L, digitB x = true := by
  unfold plainL at h
  simp only [Bool.and_eq_true] at h
  exact List.all_eq_true.1 h.2
theorem bt_head (s : ByteArray) (h : 0 < s.size) : (bytesOf s).head? = some (bt s 0) := by
  have := by_drop s 0 h
  rw [List.drop_zero] at this
  rw [this]
  rfl
theorem plain_f (s : ByteArray) (hs : s.size ≤ 4611686018427387904) : Ev (fun k => words_plain.f k s) (plainL (bytesOf s)) := by
  unfold words_plain.f plainL
  have hd := digits_f s hs
  by_cases c0 : s.toList = []
  · simp only [if_pos c0]
    rw [(by_emp s).1 c0]
    exact Ev.now _
  · simp only [if_neg c0]
    have h1 : bytesOf s ≠ [] := fun h => c0 ((by_emp s).2 h)
    have h2 : (bytesOf s).isEmpty = false := by simpa using h1
    have h3 : 0 < s.size := by
      rw [← by_len]
      exact List.length_pos_iff.2 h1
    rw [h2]
    simp only [Bool.not_false, Bool.true_and]
    by_cases c1 : (s.size : Int) > 1
    · simp only [if_pos c1, if_pos (show 0 < (s.size : Int) by omega)]
      have h4 : decide (1 < (bytesOf s).length) = true := by
        rw [by_len]
        exact decide_eq_true (by omega)
      rw [h4, bt_head s h3]
      simp only [Bool.true_and]
      by_cases c2 : bt s 0 = 48
      · simp only [if_pos c2, c2]
        simp
        exact Ev.now _
      · have h5 : (some (bt s 0) == some (48 : Int)) = false := by simpa using c2
        simp only [if_neg c2, h5, Bool.not_false, Bool.true_and]
        exact Ev_id hd
    · simp only [if_neg c1]
      have h4 : decide (1 < (bytesOf s).length) = false := by
        rw [by_len]
        exact decide_eq_false (by omega)
      rw [h4]
      simp only [Bool.false_and, Bool.not_false, Bool.true_and]
      exact Ev_id hd
theorem cutp_f (s : ByteArray) : strings_CutPrefix.f s (⟨#[45]⟩ : ByteArray) = some (strOfNums (unsign (bytesOf s)).1, (unsign (bytesOf s)).2) := by
  have hsz : (⟨#[45]⟩ : ByteArray).size = 1 := rfl
  have hl : bytesOf (⟨#[45]⟩ : ByteArray) = [45] := rfl
  have h0 : stringslite_HasPrefix.f s (⟨#[45]⟩ : ByteArray) = some (decide ((bytesOf s).head? = some 45)) := by
    unfold stringslite_HasPrefix.f
    rw [hsz]
    by_cases c : (s.size : Int) ≥ ((1 : Nat) : Int)
    · rw [if_pos c, if_pos (by omega), if_pos (by omega)]
      congr 1
      have h3 : 0 < s.size := by omega
      have hd := by_drop s 0 h3
      rw [List.drop_zero] at hd
      have he : bytesOf (s.extract 0 1) = [bt s 0] := by rw [by_ext, hd]; rfl
      rw [bt_head s h3]
      rw [Bool.eq_iff_iff, beq_iff_eq, decide_eq_true_eq, by_eq]
      constructor
      · intro h
        have := congrArg bytesOf h
        rw [show (((1 : Nat) : Int)).toNat = 1 from rfl, he, hl] at this
        simpa using this
      · intro h
        apply by_inj
        rw [show (((1 : Nat) : Int)).toNat = 1 from rfl, he, hl]
        simpa using h
    · rw [if_neg c]
      have h4 : bytesOf s = [] := List.length_eq_zero_iff.1 (by rw [by_len]; omega)
      rw [h4]
      simp
  unfold strings_CutPrefix.f stringslite_CutPrefix.f
  rw [h0]
  simp only [Option.bind_some]
  unfold unsign
  by_cases c : (bytesOf s).head? = some 45
  · have h3 : 0 < s.size := by
      rw [← by_len]
      rcases hb : bytesOf s with _ | ⟨x, r⟩
      · rw [hb] at c; simp at c
      · simp
    rw [if_pos (decide_eq_true c), if_pos c, hsz, if_pos (by omega), if_pos (by omega)]
    simp only [Option.bind_some]
    congr 2
    apply by_inj
    rw [by_ext, by_str _ fun x hx => by_rng s x (List.mem_of_mem_tail hx), show (((1 : Nat) : Int)).toNat = 1 from rfl, ← by_len, List.take_length, List.drop_one]
  · rw [if_neg (by simpa using c), if_neg c]
    simp only [Option.bind_some]
    rw [str_by]
theorem unsign_rng {L : List Int} (h : ∀ x ∈ L, 0 ≤ x ∧ x < 256) : ∀ x ∈ (unsign L).1, 0 ≤ x ∧ x < 256 := by
  unfold unsign
  split
  · exact fun x hx => h x (List.mem_of_mem_tail hx)
  · exact h
theorem unsign_len (L : List Int) : (unsign L).1.length ≤ L.length := by
  unfold unsign
  split
  · simp
  · exact Nat.le_refl _
theorem int_f (s : ByteArray) (hs : s.size ≤ 4611686018427387904) : Ev (fun k => words_Int.f k s) (intL (bytesOf s)) := by
  unfold words_Int.f intL
  rw [cutp_f]
  simp only [Option.bind_some]
  have hb := by_str (unsign (bytesOf s)).1 (unsign_rng (by_rng s))
  have hsz : (strOfNums (unsign (bytesOf s)).1).size ≤ 4611686018427387904 := by
    rw [strOfNums_size]
    have := unsign_len (bytesOf s)
    rw [by_len] at this
    omega
  refine Ev_bind (plain_f _ hsz) ?_
  rw [hb]
  generalize (unsign (bytesOf s)).2 = m
  generalize hT : (unsign (bytesOf s)).1 = T at hb hsz
  by_cases c0 : plainL T = true
  · simp only [if_pos c0]
    have hn := number_f (strOfNums T) m hsz (by rw [hb]; exact plain_all c0)
    rw [hb] at hn
    cases m with
    | false =>
      simp only [Bool.false_eq_true, if_false, false_and, not_false_eq_true, and_true, if_pos c0]
      exact Ev_bind hn (Ev.now _)
    | true =>
      simp only [if_true, true_and]
      by_cases c1 : (strOfNums T).toList = ([48] : List UInt8)
      · have c2 : T = [48] := by
          have := (by_toList (strOfNums T) [48]).1 c1
          rw [hb] at this
          exact this
        simp only [if_pos c1]
        rw [if_neg (by rintro ⟨_, h⟩; exact h c2)]
        exact Ev.now _
      · have c2 : ¬ T = [48] := by
          intro h
          apply c1
          rw [by_toList, hb, h]
          rfl
        simp only [if_neg c1]
        rw [if_pos ⟨c0, c2⟩]
        exact Ev_bind hn (Ev.now _)
  · simp only [if_neg c0]
    rw [if_neg (fun h => c0 h.1)]
    exact Ev.now _
theorem plain_zero {w : List Int} (h : plainL w = true) (h0 : numV 0 w = 0) : w = [48] := by
  have ha := plain_all h
  unfold plainL at h
  rcases w with _ | ⟨x, r⟩
  · simp at h
  · have hx := dig_rng (ha x (by simp))
    have hm := numV_mono r (x - 48) (by omega) fun y hy => ha y (by simp [hy])
    have he : numV 0 (x :: r) = numV (x - 48) r := by
      unfold numV
      rw [List.foldl_cons]
      congr 1
      omega
    rw [he] at h0
    obtain rfl : x = 48 := by omega
    rcases r with _ | ⟨y, r⟩
    · rfl
    · simp at h
theorem numV_app (n : Int) (A B : List Int) : numV n (A ++ B) = numV (numV n A) B := by
  unfold numV
  rw [List.foldl_append]
end Go.Proofs.YtieifncibojciaaDoor.P
end
section
namespace Go.Proofs.YtieifncibojciaaDoor.P
set_option linter.unusedVariables false
set_option linter.unusedSimpArgs false
open Go.RowKit Go.Proofs.YtieifncibojciaaDoorW.PrintWords Go.Proofs.YtieifncibojciaaDoorW.PrintMore Go.Proofs.YtieifncibojciaaDoor.X
def digs (n : Nat) : List Int := if n < 10 then [48 + (n : Int)] else digs (n / 10) ++ [48 + ((n % 10 : Nat) : Int)]
termination_by n
decreasing_by omega
theorem digs_lt {n : Nat} (h : n < 10) : digs n = [48 + (n : Int)] := by rw [digs, if_pos h]
theorem digs_ge {n : Nat} (h : 10 ≤ n) : digs n = digs (n / 10) ++ [48 + ((n % 10 : Nat) : Int)] := by rw [digs, if_neg (by omega)]
theorem digs_ind {p : Nat → Prop} (h0 : ∀ n, n < 10 → p n) (h1 : ∀ n, 10 ≤ n → p (n / 10) → p n) (n : Nat) : p n := by
  induction n using Nat.strongRecOn with
  | _ n ih =>
    by_cases h : n < 10
    · exact h0 n h
    · exact h1 n (by omega) (ih _ (by omega))
theorem numV_digs (n : Nat) : numV 0 (digs n) = (n : Int) := by
  induction n using digs_ind with
  | h0 n h => rw [digs_lt h]; show 10 * 0 + (48 + (n : Int) - 48) = n; omega
  | h1 n h ih =>
    rw [digs_ge h, numV_app, ih]
    show 10 * ((n / 10 : Nat) : Int) + (48 + ((n % 10 : Nat) : Int) - 48) = n
    omega
theorem digitB_of {x : Int} (h1 : 48 ≤ x) (h2 : x ≤ 57) : digitB x = true := by
  unfold digitB
  rw [decide_eq_true h1, decide_eq_true h2, Bool.and_true]
theorem digs_all (n : Nat) : ∀ x ∈ digs n, digitB x = true := by
  induction n using digs_ind with
  | h0 n h =>
    rw [digs_lt h]
    intro x hx
    obtain rfl := List.mem_singleton.1 hx
    exact digitB_of (by omega) (by omega)
  | h1 n h ih =>
    rw [digs_ge h]
    intro x hx
    rcases List.mem_append.1 hx with h2 | h2
    · exact ih x h2
    · obtain rfl := List.mem_singleton.1 h2
      exact digitB_of (by omega) (by omega)
theorem digs_ne (n : Nat) : digs n ≠ [] := by
  by_cases h : n < 10
  · rw [digs_lt h]; simp
  · rw [digs_ge (by omega)]; simp
theorem digs_rng (n : Nat) : ∀ x ∈ digs n, 0 ≤ x ∧ x < 256 := fun x hx => by have := dig_rng (digs_all n x hx); omega
theorem head_app {A B : List Int} (h : A ≠ []) : (A ++ B).head? = A.head? := by
  cases A with
  | nil => exact absurd rfl h
  | cons x r => rfl
theorem digs_head (n : Nat) (h : 0 < n) : (digs n).head? ≠ some 48 := by
  induction n using digs_ind with
  | h0 n h2 => rw [digs_lt h2]; simp; omega
  | h1 n h2 ih =>
    rw [digs_ge h2, head_app (digs_ne _)]
    exact ih (by omega)
theorem plain_digs (n : Nat) : plainL (digs n) = true := by
  unfold plainL
  have h1 : (digs n).isEmpty = false := by simpa using digs_ne n
  have h2 : (digs n).all digitB = true := List.all_eq_true.2 (digs_all n)
  rw [h1, h2]
  simp only [Bool.not_false, Bool.true_and, Bool.and_true]
  by_cases h : n < 10
  · rw [digs_lt h]; rfl
  · have := digs_head n (by omega)
    have h3 : ((digs n).head? == some 48) = false := by simpa using this
    rw [h3, Bool.and_false]
    rfl
theorem digs_len : ∀ (k n : Nat), 0 < k → n < 10 ^ k → (digs n).length ≤ k
  | 0, n, h, _ => absurd h (by decide)
  | k + 1, n, _, h => by
    by_cases h2 : n < 10
    · rw [digs_lt h2]; simp
    · rw [digs_ge (by omega)]
      have hk : 0 < k := by
        rcases Nat.eq_zero_or_pos k with rfl | h3
        · simp at h; omega
        · exact h3
      have := digs_len k (n / 10) hk (by rw [Nat.pow_succ] at h; omega)
      simp only [List.length_append, List.length_cons, List.length_nil]
      omega
theorem digs_back : ∀ (k : Nat) (L : List Int), L.length = k → plainL L = true → digs (numV 0 L).toNat = L
  | k, L, hk, h => by
    rcases List.eq_nil_or_concat L with rfl | ⟨A, x, rfl⟩
    · exact absurd h (by decide)
    have hall := plain_all h
    have hx := dig_rng (hall x (by simp))
    rw [List.concat_eq_append] at h hk hall ⊢
    rw [numV_app]
    rcases hA : A with _ | ⟨a, r⟩
    · rw [List.nil_append]
      have e : numV (numV 0 []) [x] = 10 * 0 + (x - 48) := rfl
      rw [e, digs_lt (by omega)]
      congr 1
      omega
    · rw [← hA]
      have hAn : A ≠ [] := by rw [hA]; simp
      have hhead : (A ++ [x]).head? = A.head? := head_app hAn
      have hlen : 0 < A.length := List.length_pos_iff.2 hAn
      have h48 : A.head? ≠ some 48 := by
        intro h2
        unfold plainL at h
        rw [hhead, h2] at h
        have : decide (1 < (A ++ [x]).length) = true := decide_eq_true (by simp only [List.length_append, List.length_cons, List.length_nil]; omega)
        rw [this] at h
        simp at h
      have hpA : plainL A = true := by
        unfold plainL
        have h1 : A.isEmpty = false := by simpa using hAn
        have h2 : A.all digitB = true := List.all_eq_true.2 fun y hy => hall y (by simp [hy])
        have h3 : (A.head? == some 48) = false := by simpa using h48
        rw [h1, h2, h3]
        simp
      have hpos := numV_mono A 0 (by omega) (plain_all hpA)
      have hne : numV 0 A ≠ 0 := by
        intro h0
        have := plain_zero hpA h0
        rw [this] at h48
        simp at h48
      have ih := digs_back A.length A rfl hpA
      have e : numV (numV 0 A) [x] = 10 * numV 0 A + (x - 48) := rfl
      rw [e, digs_ge (by omega), show (10 * numV 0 A + (x - 48)).toNat / 10 = (numV 0 A).toNat by omega, ih, show (48 + (((10 * numV 0 A + (x - 48)).toNat % 10 : Nat) : Int)) = x by omega]
termination_by k _ _ _ => k
decreasing_by
  subst hA
  simp only [List.length_append, List.length_cons, List.length_nil, List.concat_eq_append] at hk ⊢
  omega
theorem decL_digs : ∀ (k : Nat) (u : Int) (acc : List Int), 0 < k → 0 ≤ u → u < 10 ^ k → decL k u acc = digs u.toNat ++ acc
  | 0, u, acc, h, _, _ => absurd h (by decide)
  | k + 1, u, acc, _, h0, h1 => by
    unfold decL
    by_cases c : u / 10 = 0
    · rw [if_pos c, digs_lt (by omega), show 48 + u % 10 = 48 + (u.toNat : Int) by omega]
      rfl
    · rw [if_neg c, digs_ge (by omega)]
      have hk : 0 < k := by
        rcases Nat.eq_zero_or_pos k with rfl | h3
        · simp at h1; omega
        · exact h3
      rw [decL_digs k (u / 10) _ hk (by omega) (by rw [Int.pow_succ] at h1; omega), show (u / 10).toNat = u.toNat / 10 by omega, show 48 + u % 10 = 48 + ((u.toNat % 10 : Nat) : Int) by omega, List.append_assoc]
      rfl
theorem decimal_f (u : Int) (h0 : 0 ≤ u) (h1 : u < 18446744073709551616) : words_decimal.f u = some (strOfNums (digs u.toNat)) := by
  unfold words_decimal.f
  rw [if_pos ⟨h0, h1⟩, decL_digs 20 u [] (by decide) h0 (by omega), List.append_nil]
def sgnL (n : Int) : List Int := if n < 0 then [45] else []
theorem len20 (n : Nat) (h : n < 18446744073709551616) : (digs n).length ≤ 20 := digs_len 20 n (by decide) (by omega)
def textL (n : Int) : List Int := sgnL n ++ digs n.natAbs
theorem wsize_f (n : Int) (h1 : -9223372036854775808 ≤ n) (h2 : n ≤ 9223372036854775807) : words_size.f n = some ((n.natAbs : Int), strOfNums (sgnL n)) := by
  unfold words_size.f sgnL
  by_cases c : n < 0
  · rw [if_pos c, if_pos c]
    have : IntKind.u64.wrap (-(IntKind.u64.wrap n)) = (n.natAbs : Int) := by
      simp only [IntKind.wrap, IntKind.bits, IntKind.signed, Bool.false_and, Bool.false_eq_true, if_false]
      omega
    rw [this]
    rfl
  · rw [if_neg c, if_neg c]
    have : IntKind.u64.wrap n = (n.natAbs : Int) := by
      simp only [IntKind.wrap, IntKind.bits, IntKind.signed, Bool.false_and, Bool.false_eq_true, if_false]
      omega
    rw [this]
    rfl
theorem flat_join (l : List ByteArray) : bytesOf ⟨(Lib.join (l.map (·.data.toList)) (⟨#[]⟩ : ByteArray).data.toList).toArray⟩ = (l.map bytesOf).flatten := by
  unfold bytesOf
  show ((Lib.join (l.map (·.data.toList)) []).toArray.toList).map _ = _
  rw [List.toList_toArray]
  unfold Lib.join
  rw [List.intercalate]
  have e : ∀ m : List (List UInt8), (List.intersperse [] m).flatten = m.flatten := by
    intro m
    induction m with
    | nil => rfl
    | cons x r ih =>
      cases r with
      | nil => rfl
      | cons y r =>
        simp only [List.intersperse_cons_cons, List.flatten_cons, List.nil_append] at ih ⊢
        rw [ih]
  rw [e, List.map_flatten, List.map_map]
  rfl
theorem join0_f (l : List ByteArray) (h : (l.map bytesOf).flatten.length ≤ 140737488355328) (h2 : l.length ≤ 140737488355328) : strings_Join.f l (⟨#[]⟩ : ByteArray) = some (strOfNums (l.map bytesOf).flatten) := by
  unfold strings_Join.f
  have e := flat_join l
  have hl : (Lib.join (l.map (·.data.toList)) (⟨#[]⟩ : ByteArray).data.toList).length = (l.map bytesOf).flatten.length := by
    rw [← e, by_len]
    rfl
  rw [if_pos ⟨by rw [hl]; exact h, h2⟩]
  congr 1
  apply by_inj
  rw [e, by_str]
  intro x hx
  obtain ⟨y, hy, hx⟩ := List.mem_flatten.1 hx
  obtain ⟨s, _, rfl⟩ := List.mem_map.1 hy
  exact by_rng s x hx
theorem sgn_rng (n : Int) : ∀ x ∈ sgnL n, 0 ≤ x ∧ x < 256 := by
  unfold sgnL
  intro x hx
  split at hx
  · obtain rfl := List.mem_singleton.1 hx; omega
  · cases hx
theorem sgn_len (n : Int) : (sgnL n).length ≤ 1 := by
  unfold sgnL
  split <;> simp
theorem bnd {α β : Type} {x : Option α} {a : α} {f : α → Option β} {r : Option β} (h : x = some a) (k : f a = r) : x.bind f = r := by rw [h]; exact k
theorem dec_nat (n : Nat) (h : n < 18446744073709551616) : words_decimal.f (n : Int) = some (strOfNums (digs n)) := by
  have := decimal_f (n : Int) (by omega) (by omega)
  rwa [Int.toNat_natCast] at this
theorem text_join (n : Int) (h1 : -9223372036854775808 ≤ n) (h2 : n ≤ 9223372036854775807) : strings_Join.f [strOfNums (sgnL n), strOfNums (digs n.natAbs)] (⟨#[]⟩ : ByteArray) = some (strOfNums (textL n)) := by
  have e : ([strOfNums (sgnL n), strOfNums (digs n.natAbs)].map bytesOf).flatten = textL n := by
    simp only [List.map_cons, List.map_nil, List.flatten_cons, List.flatten_nil, List.append_nil]
    rw [by_str _ (sgn_rng n), by_str _ (digs_rng _), textL]
  have hl : (textL n).length ≤ 140737488355328 := by
    unfold textL
    rw [List.length_append]
    have := sgn_len n
    have := len20 n.natAbs (by omega)
    omega
  rw [join0_f _ (by rw [e]; exact hl) (by simp), e]
theorem text_f (n : Int) (h1 : -9223372036854775808 ≤ n) (h2 : n ≤ 9223372036854775807) : words_Text.f n = some (strOfNums (textL n)) := by
  unfold words_Text.f words_together.f
  refine bnd (wsize_f n h1 h2) ?_
  refine bnd (dec_nat n.natAbs (by omega)) ?_
  exact bnd (bnd (text_join n h1 h2) (Eq.refl _)) (Eq.refl _)
end Go.Proofs.YtieifncibojciaaDoor.P
end
section
namespace Go.Proofs.YtieifncibojciaaDoor.P
set_option linter.unusedVariables false
set_option linter.unusedSimpArgs false
open Go.RowKit Go.Proofs.YtieifncibojciaaDoorW.PrintWords Go.Proofs.YtieifncibojciaaDoorW.PrintMore Go.Proofs.YtieifncibojciaaDoor.X
theorem unsign_sgn (n : Int) (T : List Int) (h : T.head? ≠ some 45) : unsign (sgnL n ++ T) = (T, decide (n < 0)) := by
  unfold unsign sgnL
  by_cases c : n < 0
  · rw [if_pos c, decide_eq_true c, List.singleton_append, List.head?_cons, if_pos rfl, List.tail_cons]
  · rw [if_neg c, decide_eq_false c, List.nil_append, if_neg h]
theorem dig_head {T : List Int} (h : ∀ x ∈ T, digitB x = true) : T.head? ≠ some 45 := by
  intro e
  have hm : (45 : Int) ∈ T := List.mem_of_head? e
  have := dig_rng (h _ hm)
  omega
theorem digs_zero {n : Nat} (h : digs n = [48]) : n = 0 := by
  have := numV_digs n
  rw [h] at this
  have e : numV 0 [48] = 0 := rfl
  omega
theorem int_text (n : Int) : intL (textL n) = if n.natAbs ≤ 1152921504606846976 then (n, 0) else (0, 3) := by
  unfold intL textL
  rw [unsign_sgn n _ (dig_head (digs_all _))]
  have hz : ¬ (decide (n < 0) = true ∧ digs n.natAbs = [48]) := by
    rintro ⟨h1, h2⟩
    have := digs_zero h2
    have := of_decide_eq_true h1
    omega
  rw [if_pos ⟨plain_digs _, hz⟩]
  unfold numR
  rw [numV_digs]
  by_cases c : n.natAbs ≤ 1152921504606846976
  · rw [if_neg (by omega), if_pos c]
    by_cases c2 : n < 0
    · rw [decide_eq_true c2, if_pos rfl]
      congr 1
      omega
    · rw [decide_eq_false c2, if_neg (by simp)]
      congr 1
      omega
  · rw [if_pos (by omega), if_neg c]
theorem text_int {L : List Int} (h : (intL L).2 = 0) : textL (intL L).1 = L ∧ -1152921504606846976 ≤ (intL L).1 ∧ (intL L).1 ≤ 1152921504606846976 ∧ plainL (unsign L).1 = true := by
  unfold intL at h ⊢
  by_cases c : plainL (unsign L).1 = true ∧ ¬((unsign L).2 = true ∧ (unsign L).1 = [48])
  case neg => rw [if_neg c] at h; exact absurd h (by decide)
  rw [if_pos c] at h ⊢
  unfold numR at h ⊢
  by_cases c2 : 1152921504606846976 < numV 0 (unsign L).1
  · rw [if_pos c2] at h; exact absurd h (by decide)
  rw [if_neg c2]
  have h0 := numV_mono (unsign L).1 0 (by omega) (plain_all c.1)
  have hb := digs_back _ (unsign L).1 rfl c.1
  unfold unsign at c c2 h0 hb ⊢
  by_cases c3 : L.head? = some 45
  · rw [if_pos c3] at c c2 h0 hb ⊢
    simp only [if_true]
    simp only [] at c c2 h0 hb
    have hne : numV 0 L.tail ≠ 0 := fun e => c.2 ⟨by trivial, plain_zero c.1 e⟩
    refine ⟨?_, by omega, by omega, c.1⟩
    unfold textL sgnL
    rw [if_pos (by omega), show (-(numV 0 L.tail)).natAbs = (numV 0 L.tail).toNat by omega, hb, List.singleton_append]
    cases L with
    | nil => cases c3
    | cons x r =>
      rw [List.head?_cons] at c3
      obtain rfl := Option.some.inj c3
      rfl
  · rw [if_neg c3] at c c2 h0 hb ⊢
    simp only [Bool.false_eq_true, if_false]
    simp only [] at c c2 h0 hb
    refine ⟨?_, by omega, by omega, c.1⟩
    unfold textL sgnL
    rw [if_neg (by omega), show (numV 0 L).natAbs = (numV 0 L).toNat by omega, hb, List.nil_append]
end Go.Proofs.YtieifncibojciaaDoor.P
end
section
namespace Go.Proofs.YtieifncibojciaaDoor.P
set_option linter.unusedVariables false
set_option linter.unusedSimpArgs false
open Go.RowKit Go.Proofs.YtieifncibojciaaDoorW.PrintWords Go.Proofs.YtieifncibojciaaDoorW.PrintMore Go.Proofs.YtieifncibojciaaDoor.X
abbrev Prod9 := S45
theorem Ev_or {α : Type} {g : Nat → Bool → Option α} {a b : Prop} [Decidable a] [Decidable b] {r : α} (ht : (a ∨ b) → Ev (fun k => g k true) r) (hf : ¬ (a ∨ b) → Ev (fun k => g k false) r) : Ev (fun k => if a then g k true else g k (decide b)) r := by
  by_cases ca : a
  · simp only [if_pos ca]; exact ht (Or.inl ca)
  · simp only [if_neg ca]
    by_cases cb : b
    · rw [decide_eq_true cb]; exact ht (Or.inr cb)
    · rw [decide_eq_false cb]; exact hf (fun h => h.elim ca cb)
theorem Ev_if {α : Type} {c : Prop} [Decidable c] {f g : Nat → Option α} {r : α} (h1 : c → Ev f r) (h2 : ¬ c → Ev g r) : Ev (fun k => if c then f k else g k) r := by
  by_cases h : c
  · simp only [if_pos h]; exact h1 h
  · simp only [if_neg h]; exact h2 h
def prodT (p : Prod9) : Int := if -16777216 ≤ p.f4 ∧ p.f4 ≤ 16777216 ∧ -16777216 ≤ p.f5 ∧ p.f5 ≤ 16777216 ∧ p.f4 ≤ p.f5 ∧ Int.tmod p.f4 p.f3 = 0 ∧ Int.tmod p.f5 p.f3 = 0 then 0 else 17
def prodE (p : Prod9) : Int := if nameB p.f0 = true then (if p.f1 < 0 ∨ p.f1 ≥ 8 then 25 else if p.f2 < 1 ∨ p.f2 > 4096 then 2 else if p.f3 < 1 ∨ p.f3 > 16777216 then 16 else prodT p) else 10
theorem pwithin_f (n : Int) : product_within.f n 16777216 = some (decide (-16777216 ≤ n) && decide (n ≤ 16777216)) := by
  unfold product_within.f
  have e : wrap64 (-16777216) = -16777216 := w_id (by omega) (by omega)
  rw [e]
  by_cases h : n ≥ -16777216
  · rw [if_pos h, decide_eq_true (show -16777216 ≤ n from h), Bool.true_and]
  · rw [if_neg h, decide_eq_false (show ¬ -16777216 ≤ n from h), Bool.false_and]
theorem and_iff (a b : Prop) [Decidable a] [Decidable b] : (decide a && decide b) = true ↔ a ∧ b := by simp
theorem prodT_of {p : Prod9} (h : ¬ (-16777216 ≤ p.f4 ∧ p.f4 ≤ 16777216 ∧ -16777216 ≤ p.f5 ∧ p.f5 ≤ 16777216 ∧ p.f4 ≤ p.f5 ∧ Int.tmod p.f4 p.f3 = 0 ∧ Int.tmod p.f5 p.f3 = 0)) : prodT p = 17 := if_neg h
theorem prod_f (p : Prod9) : Ev (fun k => product_Check.f k p.f0 p.f1 p.f2 p.f3 p.f4 p.f5 p.f6) (prodE p) := by
  have h3 : ¬ (p.f3 < 1 ∨ p.f3 > 16777216) → Ev (fun k => product_Check.j3 k false p.f0 p.f1 p.f2 p.f3 p.f4 p.f5 p.f6) (prodT p) := by
    intro c
    refine Ev_succ ?_
    simp only [product_Check.j3, Bool.false_eq_true, if_false, pwithin_f, Option.bind_some, and_iff]
    refine Ev_if (fun c1 => Ev_if (fun c2 => Ev_if (fun c3 => ?_) fun c3 => Ev_if (fun c4 => by omega) fun c4 => Ev_if (fun c5 => Ev_if (fun c6 => ?_) fun c6 => ?_) fun c5 => ?_) fun c2 => ?_) fun c1 => ?_
    · rw [prodT_of (by omega)]; exact Ev.now _
    · have : prodT p = 0 := if_pos ⟨c1.1, c1.2, c2.1, c2.2, by omega, c5, c6⟩
      rw [this]; exact Ev.now _
    · rw [prodT_of (fun h => c6 h.2.2.2.2.2.2)]; exact Ev.now _
    · rw [prodT_of (fun h => c5 h.2.2.2.2.2.1)]; exact Ev.now _
    · rw [prodT_of (by omega)]; exact Ev.now _
    · rw [prodT_of (by omega)]; exact Ev.now _
  have h0 : nameB p.f0 = true → Ev (fun k => product_Check.j0 k false p.f0 p.f1 p.f2 p.f3 p.f4 p.f5 p.f6) (prodE p) := by
    intro hn
    refine Ev_succ ?_
    unfold prodE
    rw [if_pos hn]
    simp only [product_Check.j0, Bool.false_eq_true, if_false]
    refine Ev_or (g := fun k b => product_Check.j1 k b p.f0 p.f1 p.f2 p.f3 p.f4 p.f5 p.f6) (fun c => ?_) (fun c => ?_)
    · rw [if_pos c]; refine Ev_succ ?_; simp only [product_Check.j1, if_true]; exact Ev.now _
    rw [if_neg c]
    refine Ev_succ ?_
    simp only [product_Check.j1, Bool.false_eq_true, if_false]
    refine Ev_or (g := fun k b => product_Check.j2 k b p.f0 p.f1 p.f2 p.f3 p.f4 p.f5 p.f6) (fun c => ?_) (fun c => ?_)
    · rw [if_pos c]; refine Ev_succ ?_; simp only [product_Check.j2, if_true]; exact Ev.now _
    rw [if_neg c]
    refine Ev_succ ?_
    simp only [product_Check.j2, Bool.false_eq_true, if_false]
    refine Ev_or (g := fun k b => product_Check.j3 k b p.f0 p.f1 p.f2 p.f3 p.f4 p.f5 p.f6) (fun c => ?_) (fun c => ?_)
    · rw [if_pos c]; refine Ev_succ ?_; simp only [product_Check.j3, if_true]; exact Ev.now _
    rw [if_neg c]
    exact h3 c
  have h1 : nameB p.f0 = false → Ev (fun k => product_Check.j0 k true p.f0 p.f1 p.f2 p.f3 p.f4 p.f5 p.f6) (prodE p) := by
    intro hn
    refine Ev_succ ?_
    unfold prodE
    rw [if_neg (by rw [hn]; decide)]
    simp only [product_Check.j0, if_true]
    exact Ev.now _
  unfold product_Check.f
  refine Ev_if (fun c => ?_) (fun c => ?_)
  · refine h1 ?_
    simp only [Bool.and_eq_true, beq_iff_eq] at c
    have e : p.f0.size = 0 := by
      have : p.f0.data.toList = [] := by rw [← ByteArray.toList_eq]; exact c.1
      have h2 : p.f0.data.toList.length = 0 := by rw [this]; rfl
      simpa using h2
    unfold nameB
    rw [e]; rfl
  · refine Ev_bind (name_f p.f0) ?_
    cases hn : nameB p.f0 with
    | true => exact h0 hn
    | false => exact h1 hn
def ProdOk (p : Prod9) : Prop := 1 ≤ p.f3 ∧ p.f3 ≤ 16777216 ∧ -16777216 ≤ p.f4 ∧ p.f4 ≤ 16777216 ∧ -16777216 ≤ p.f5 ∧ p.f5 ≤ 16777216 ∧ p.f4 ≤ p.f5 ∧ Int.tmod p.f4 p.f3 = 0 ∧ Int.tmod p.f5 p.f3 = 0
theorem prodE_zero {p : Prod9} (h : prodE p = 0) : ProdOk p := by
  unfold prodE at h
  by_cases c0 : nameB p.f0 = true
  case neg => rw [if_neg c0] at h; omega
  rw [if_pos c0] at h
  by_cases c1 : p.f1 < 0 ∨ p.f1 ≥ 8
  · rw [if_pos c1] at h; omega
  rw [if_neg c1] at h
  by_cases c2 : p.f2 < 1 ∨ p.f2 > 4096
  · rw [if_pos c2] at h; omega
  rw [if_neg c2] at h
  by_cases c3 : p.f3 < 1 ∨ p.f3 > 16777216
  · rw [if_pos c3] at h; omega
  rw [if_neg c3] at h
  unfold prodT at h
  split at h
  · rename_i c
    unfold ProdOk
    exact ⟨by omega, by omega, c.1, c.2.1, c.2.2.1, c.2.2.2.1, c.2.2.2.2.1, c.2.2.2.2.2.1, c.2.2.2.2.2.2⟩
  · omega
end Go.Proofs.YtieifncibojciaaDoor.P
end
section
namespace Go.Proofs.YtieifncibojciaaDoor.P
set_option linter.unusedVariables false
set_option linter.unusedSimpArgs false
open Go.RowKit Go.Proofs.YtieifncibojciaaDoorW.PrintWords Go.Proofs.YtieifncibojciaaDoorW.PrintMore Go.Proofs.YtieifncibojciaaDoor.X
theorem okb_iff (b : Int) : okB b = true ↔ 32 < b ∧ b ≤ 126 := by unfold okB; simp
theorem good_ok {p : List Int} (h : goodP p = true) : p ≠ [] ∧ ∀ x ∈ p, okB x = true := by
  unfold goodP at h
  simp only [Bool.and_eq_true] at h
  refine ⟨fun e => ?_, List.all_eq_true.1 h.2⟩
  rw [e] at h
  exact absurd h.1 (by decide)
theorem ok_good {p : List Int} (hn : p ≠ []) (h : ∀ x ∈ p, okB x = true) : goodP p = true := by
  unfold goodP
  have : p.isEmpty = false := by simpa using hn
  rw [this, List.all_eq_true.2 h]
  rfl
theorem good_no {p : List Int} (h : goodP p = true) : (32 : Int) ∉ p := fun hm => by
  have := (okb_iff _).1 ((good_ok h).2 _ hm)
  omega
theorem fields_of_join {l : List ByteArray} (hl : l ≠ []) (h : ∀ x ∈ l, goodP (bytesOf x) = true) (hs : (joinS l).size ≤ 512) : fieldsS (joinS l) = (l, 0) := by
  unfold fieldsS fieldsE
  rw [joinS_by, if_neg (by rw [← joinS_by, by_len]; omega)]
  have hne : joinI (l.map bytesOf) ≠ [] := by
    cases l with
    | nil => exact absurd rfl hl
    | cons x r =>
      have hx := (good_ok (h x (by simp))).1
      cases r with
      | nil => simpa [joinI] using hx
      | cons y r => simp [joinI]
  have hsp : splitI 32 (joinI (l.map bytesOf)) = l.map bytesOf := split_join _ (by simpa using hl) (by
    intro p hp
    obtain ⟨x, hx, rfl⟩ := List.mem_map.1 hp
    exact good_no (h x hx))
  have hgood : (l.map bytesOf).all goodP = true := by
    rw [List.all_eq_true]
    intro p hp
    obtain ⟨x, hx, rfl⟩ := List.mem_map.1 hp
    exact h x hx
  rw [if_neg hne, hsp, if_pos hgood, map_str]
theorem join_of_fields {s : ByteArray} (h : (fieldsS s).2 = 0) : joinS (fieldsS s).1 = s := by
  unfold fieldsS fieldsE at h ⊢
  by_cases c1 : 512 < (bytesOf s).length
  · rw [if_pos c1] at h; exact absurd h (by decide)
  rw [if_neg c1] at h ⊢
  by_cases c2 : bytesOf s = []
  · rw [if_pos c2]
    apply by_inj
    rw [joinS_by, c2]
    rfl
  rw [if_neg c2] at h ⊢
  by_cases c3 : (splitI 32 (bytesOf s)).all goodP = true
  case neg => rw [if_neg c3] at h; exact absurd h (by decide)
  rw [if_pos c3]
  apply by_inj
  rw [joinS_by]
  have hr : ∀ p ∈ splitI 32 (bytesOf s), ∀ x ∈ p, 0 ≤ x ∧ x < 256 := by
    intro p hp x hx
    have := (okb_iff x).1 ((good_ok ((List.all_eq_true.1 c3) p hp)).2 x hx)
    omega
  have e : ((splitI 32 (bytesOf s)).map strOfNums).map bytesOf = splitI 32 (bytesOf s) := by
    rw [List.map_map]
    conv => rhs; rw [← List.map_id (splitI 32 (bytesOf s))]
    exact List.map_congr_left fun p hp => by simp [by_str p (hr p hp)]
  show joinI (((splitI 32 (bytesOf s)).map strOfNums).map bytesOf) = bytesOf s
  rw [e, join_split]
theorem fields_sz {s : ByteArray} : ∀ x ∈ (fieldsS s).1, x.size ≤ 4611686018427387904 := by
  intro x hx
  unfold fieldsS fieldsE at hx
  by_cases c1 : 512 < (bytesOf s).length
  · rw [if_pos c1] at hx; simp at hx
  rw [if_neg c1] at hx
  by_cases c2 : bytesOf s = []
  · rw [if_pos c2] at hx; simp at hx
  rw [if_neg c2] at hx
  by_cases c3 : (splitI 32 (bytesOf s)).all goodP = true
  case neg => rw [if_neg c3] at hx; simp at hx
  rw [if_pos c3] at hx
  obtain ⟨p, hp, rfl⟩ := List.mem_map.1 hx
  rw [strOfNums_size]
  have key : ∀ (L : List Int), ∀ q ∈ splitI 32 L, q.length ≤ L.length := by
    intro L
    induction L with
    | nil => intro q hq; simp [splitI] at hq; subst hq; simp
    | cons x r ih =>
      intro q hq
      unfold splitI at hq
      split at hq
      · rcases List.mem_cons.1 hq with h | h
        · subst h; simp
        · have := ih q h; simp; omega
      · split at hq
        · rename_i p1 q1 he
          rcases List.mem_cons.1 hq with h | h
          · subst h
            have := ih p1 (by rw [he]; simp)
            simp; omega
          · have := ih q (by rw [he]; simp [h])
            simp; omega
        · simp at hq; subst hq; simp
  have := key _ p hp
  omega
theorem text_rng9 (n : Int) : ∀ x ∈ textL n, okB x = true := by
  unfold textL sgnL
  intro x hx
  rw [okb_iff]
  rcases List.mem_append.1 hx with h | h
  · split at h
    · obtain rfl := List.mem_singleton.1 h; omega
    · cases h
  · have := dig_rng (digs_all _ x h); omega
theorem text_ne (n : Int) : textL n ≠ [] := by
  unfold textL
  intro h
  exact digs_ne _ (List.append_eq_nil_iff.1 h).2
def textS (n : Int) : ByteArray := strOfNums (textL n)
theorem textS_by (n : Int) : bytesOf (textS n) = textL n := by_str _ fun x hx => by have := (okb_iff x).1 (text_rng9 n x hx); omega
theorem textS_good (n : Int) : goodP (bytesOf (textS n)) = true := by
  rw [textS_by]
  exact ok_good (text_ne n) (text_rng9 n)
theorem textS_size (n : Int) (h1 : -9223372036854775808 ≤ n) (h2 : n ≤ 9223372036854775807) : (textS n).size ≤ 21 := by
  unfold textS
  rw [strOfNums_size]
  unfold textL
  rw [List.length_append]
  have := sgn_len n
  have := len20 n.natAbs (by omega)
  omega
theorem nameFrom_okB (s : ByteArray) (hs : s.size ≤ 12) : ∀ (d i : Nat), i + d = s.size → nameFrom s d i = true → ∀ b ∈ (bytesOf s).drop i, okB b = true
  | 0, i, hd, _, b, hb => by rw [by_end s i (by omega)] at hb; cases hb
  | d + 1, i, hd, h, b, hb => by
    have hi : i < s.size := by omega
    unfold nameFrom at h
    simp only [Bool.and_eq_true] at h
    rw [by_drop s i hi] at hb
    rcases List.mem_cons.1 hb with e | e
    · subst e
      have h1 := h.1
      unfold chB letterB digitB at h1
      simp only [Bool.or_eq_true, Bool.and_eq_true, decide_eq_true_eq] at h1
      rw [okb_iff]
      omega
    · exact nameFrom_okB s hs d (i + 1) (by omega) h.2 b e
theorem name_good {s : ByteArray} (h : nameB s = true) : goodP (bytesOf s) = true ∧ s.size ≤ 12 := by
  unfold nameB at h
  simp only [Bool.and_eq_true, decide_eq_true_eq] at h
  obtain ⟨⟨h1, h2⟩, h3⟩ := h
  have hok := nameFrom_okB s h2 s.size 0 (by omega) h3
  rw [List.drop_zero] at hok
  refine ⟨ok_good ?_ hok, h2⟩
  intro e
  have := by_len s
  rw [e, List.length_nil] at this
  omega
def numsE : List ByteArray → Option (List Int)
  | [] => some []
  | x :: r => if (intL (bytesOf x)).2 = 0 then (numsE r).map ((intL (bytesOf x)).1 :: ·) else none
theorem numsE_f : ∀ l : List ByteArray, (∀ x ∈ l, x.size ≤ 4611686018427387904) → Ev (fun k => prsNums k l) (numsE l)
  | [], _ => Ev.now _
  | x :: r, h => by
    have ih := numsE_f r fun y hy => h y (by simp [hy])
    unfold prsNums numsE
    refine Ev_bind (int_f x (h x (by simp))) ?_
    by_cases c : (intL (bytesOf x)).2 = 0
    · simp only [if_pos c]
      exact Ev_bind ih (Ev.now _)
    · simp only [if_neg c]
      exact Ev.now _
def gP (l : List ByteArray) (o : Option (List Int)) : Prod9 × Int :=
  match o with
  | none => (z45, 5)
  | some n => if (prsKind (rdOf ByteArray.empty l 6)).isSome = true then (if prodE ⟨rdOf ByteArray.empty l 0, rd n 0, rd n 1, rd n 2, rd n 3, rd n 4, kb (prsKind (rdOf ByteArray.empty l 6))⟩ = 0 then (⟨rdOf ByteArray.empty l 0, rd n 0, rd n 1, rd n 2, rd n 3, rd n 4, kb (prsKind (rdOf ByteArray.empty l 6))⟩, 0) else (z45, prodE ⟨rdOf ByteArray.empty l 0, rd n 0, rd n 1, rd n 2, rd n 3, rd n 4, kb (prsKind (rdOf ByteArray.empty l 6))⟩)) else (z45, 5)
def parseP (s : ByteArray) : Prod9 × Int := if (fieldsS s).2 = 0 then (if (fieldsS s).1.length = 7 then gP (fieldsS s).1 (numsE (((fieldsS s).1.drop 1).take 5)) else (z45, 5)) else (z45, (fieldsS s).2)
def tP (q : Prod9 × Int) : ByteArray × Int × Int × Int × Int × Int × Bool × Int := (q.1.f0, q.1.f1, q.1.f2, q.1.f3, q.1.f4, q.1.f5, q.1.f6, q.2)
theorem parseP_f (s : ByteArray) : Ev (fun k => product_Parse.f k s) (tP (parseP s)) := by
  unfold product_Parse.f parseP
  refine Ev_bind (fields_f s) ?_
  by_cases c1 : (fieldsS s).2 = 0
  case neg => simp only [if_neg c1]; exact Ev.now _
  simp only [if_pos c1]
  by_cases c2 : (fieldsS s).1.length = 7
  case neg => simp only [if_neg c2]; exact Ev.now _
  simp only [if_pos c2]
  refine Ev_bind (numsE_f _ fun x hx => fields_sz x (List.mem_of_mem_drop (List.mem_of_mem_take hx))) ?_
  cases numsE (((fieldsS s).1.drop 1).take 5) with
  | none => exact Ev.now _
  | some n =>
    unfold product_Parse.g gP
    by_cases c3 : (prsKind (rdOf ByteArray.empty (fieldsS s).1 6)).isSome = true
    case neg => simp only [if_neg c3]; exact Ev.now _
    simp only [if_pos c3]
    refine Ev_bind (prod_f ⟨rdOf ByteArray.empty (fieldsS s).1 0, rd n 0, rd n 1, rd n 2, rd n 3, rd n 4, kb (prsKind (rdOf ByteArray.empty (fieldsS s).1 6))⟩) ?_
    by_cases c4 : prodE ⟨rdOf ByteArray.empty (fieldsS s).1 0, rd n 0, rd n 1, rd n 2, rd n 3, rd n 4, kb (prsKind (rdOf ByteArray.empty (fieldsS s).1 6))⟩ = 0
    · simp only [if_pos c4]; exact Ev.now _
    · simp only [if_neg c4]; exact Ev.now _
def kindS (b : Bool) : ByteArray := if b = true then (⟨#[112, 104, 121, 115, 105, 99, 97, 108]⟩ : ByteArray) else (⟨#[99, 97, 115, 104]⟩ : ByteArray)
def lineP (p : Prod9) : List ByteArray := [p.f0, textS p.f1, textS p.f2, textS p.f3, textS p.f4, textS p.f5, kindS p.f6]
def I64 (n : Int) : Prop := -9223372036854775808 ≤ n ∧ n ≤ 9223372036854775807
theorem print_f (p : Prod9) (h0 : p.f0.size ≤ 140737488351232) (h1 : I64 p.f1) (h2 : I64 p.f2) (h3 : I64 p.f3) (h4 : I64 p.f4) (h5 : I64 p.f5) : Ev (fun k => product_Print.f k p.f0 p.f1 p.f2 p.f3 p.f4 p.f5 p.f6) (joinS (lineP p)) := by
  unfold product_Print.f
  simp only [Option.bind_some]
  have step : ∀ (acc : List ByteArray) (i : Nat) (n : Int) (r : ByteArray), i < 5 → acc.length ≤ 10 → I64 n → rd [p.f1, p.f2, p.f3, p.f4, p.f5] (i : Int) = n → Ev (fun k => product_Print.l0 k (acc ++ [textS n]) [p.f1, p.f2, p.f3, p.f4, p.f5] 5 ((i + 1 : Nat) : Int) p.f0 p.f1 p.f2 p.f3 p.f4 p.f5 p.f6) r → Ev (fun k => product_Print.l0 k acc [p.f1, p.f2, p.f3, p.f4, p.f5] 5 (i : Int) p.f0 p.f1 p.f2 p.f3 p.f4 p.f5 p.f6) r := by
    intro acc i n r hi ha hn hr ih
    refine Ev_succ ?_
    have hl : (([p.f1, p.f2, p.f3, p.f4, p.f5] : List Int).length : Int) = 5 := rfl
    have ht : words_Text.f n = some (textS n) := text_f n hn.1 hn.2
    simp only [product_Print.l0, if_pos (show (i : Int) < 5 by omega), if_pos (show 0 ≤ (i : Int) by omega), hl, hr, ht, Option.bind_some, if_pos (show acc.length < 8796093022208 by omega), w_succ hi (by omega)]
    exact ih
  refine step [p.f0] 0 p.f1 _ (by decide) (by simp) h1 rfl ?_
  refine step _ 1 p.f2 _ (by decide) (by simp) h2 rfl ?_
  refine step _ 2 p.f3 _ (by decide) (by simp) h3 rfl ?_
  refine step _ 3 p.f4 _ (by decide) (by simp) h4 rfl ?_
  refine step _ 4 p.f5 _ (by decide) (by simp) h5 rfl ?_
  refine Ev_succ ?_
  have hk : product_kind.f p.f6 = some (kindS p.f6) := by unfold product_kind.f kindS; cases p.f6 <;> rfl
  have hz : sumZ (lineP p) ≤ 140737488355328 := by
    have z1 := textS_size p.f1 h1.1 h1.2
    have z2 := textS_size p.f2 h2.1 h2.2
    have z3 := textS_size p.f3 h3.1 h3.2
    have z4 := textS_size p.f4 h4.1 h4.2
    have z5 := textS_size p.f5 h5.1 h5.2
    have z6 : (kindS p.f6).size ≤ 8 := by unfold kindS; cases p.f6 <;> decide
    simp only [sumZ, lineP, List.map_cons, List.map_nil, List.sum_cons, List.sum_nil]
    omega
  have hj := join_f (lineP p) hz
  have hl : ([p.f0] ++ [textS p.f1] ++ [textS p.f2] ++ [textS p.f3] ++ [textS p.f4] ++ [textS p.f5] ++ [kindS p.f6] : List ByteArray) = lineP p := rfl
  have hlen : ([p.f0] ++ [textS p.f1] ++ [textS p.f2] ++ [textS p.f3] ++ [textS p.f4] ++ [textS p.f5] : List ByteArray).length < 8796093022208 := by simp
  simp only [product_Print.l0, if_neg (show ¬ ((4 + 1 : Nat) : Int) < 5 by decide), hk, Option.bind_some, if_pos hlen, hl, hj]
  exact Ev.now _
theorem parse_print {p : Prod9} (h : prodE p = 0) : parseP (joinS (lineP p)) = (p, 0) := by
  have hn : nameB p.f0 = true ∧ (0 ≤ p.f1 ∧ p.f1 < 8) ∧ (1 ≤ p.f2 ∧ p.f2 ≤ 4096) := by
    have h' := h
    unfold prodE at h'
    by_cases a : nameB p.f0 = true
    case neg => rw [if_neg a] at h'; exact absurd h' (by decide)
    rw [if_pos a] at h'
    by_cases b : p.f1 < 0 ∨ p.f1 ≥ 8
    · rw [if_pos b] at h'; exact absurd h' (by decide)
    rw [if_neg b] at h'
    by_cases c : p.f2 < 1 ∨ p.f2 > 4096
    · rw [if_pos c] at h'; exact absurd h' (by decide)
    exact ⟨a, by omega, by omega⟩
  obtain ⟨n0, n1, n2⟩ := hn
  have ok := prodE_zero h
  unfold ProdOk at ok
  have g0 := name_good n0
  have hk : goodP (bytesOf (kindS p.f6)) = true := by unfold kindS; cases p.f6 <;> decide
  have hgood : ∀ x ∈ lineP p, goodP (bytesOf x) = true := by
    intro x hx
    simp only [lineP, List.mem_cons, List.mem_nil_iff, or_false] at hx
    rcases hx with rfl | rfl | rfl | rfl | rfl | rfl | rfl
    · exact g0.1
    · exact textS_good _
    · exact textS_good _
    · exact textS_good _
    · exact textS_good _
    · exact textS_good _
    · exact hk
  have hsz : (joinS (lineP p)).size ≤ 512 := by
    unfold joinS
    rw [strOfNums_size]
    have h1 := join_len ((lineP p).map bytesOf)
    have z1 := textS_size p.f1 (by omega) (by omega)
    have z2 := textS_size p.f2 (by omega) (by omega)
    have z3 := textS_size p.f3 (by omega) (by omega)
    have z4 := textS_size p.f4 (by omega) (by omega)
    have z5 := textS_size p.f5 (by omega) (by omega)
    have z6 : (kindS p.f6).size ≤ 8 := by unfold kindS; cases p.f6 <;> decide
    simp only [lineP, List.map_cons, List.map_nil, List.sum_cons, List.sum_nil, by_len] at h1 ⊢
    omega
  have hf := fields_of_join (l := lineP p) (by simp [lineP]) hgood hsz
  have it : ∀ n : Int, -16777216 ≤ n → n ≤ 16777216 → intL (bytesOf (textS n)) = (n, 0) := by
    intro n a b
    rw [textS_by, int_text, if_pos (by omega)]
  have hnum : numsE (((lineP p).drop 1).take 5) = some [p.f1, p.f2, p.f3, p.f4, p.f5] := by
    show numsE [textS p.f1, textS p.f2, textS p.f3, textS p.f4, textS p.f5] = _
    simp only [numsE, it p.f1 (by omega) (by omega), it p.f2 (by omega) (by omega), it p.f3 (by omega) (by omega), it p.f4 (by omega) (by omega), it p.f5 (by omega) (by omega), if_true, Option.map_some]
  have hkk : prsKind (kindS p.f6) = some p.f6 := by
    unfold kindS prsKind
    cases p.f6 with
    | true => rw [if_pos rfl, if_pos rfl]
    | false =>
      have hne : ¬ (⟨#[112, 104, 121, 115, 105, 99, 97, 108]⟩ : ByteArray).toList = (⟨#[99, 97, 115, 104]⟩ : ByteArray).toList := by
        intro h
        have := congrArg ByteArray.size ((by_eq _ _).1 h)
        exact absurd this (by decide)
      rw [show (if false = true then (⟨#[112, 104, 121, 115, 105, 99, 97, 108]⟩ : ByteArray) else (⟨#[99, 97, 115, 104]⟩ : ByteArray)) = (⟨#[99, 97, 115, 104]⟩ : ByteArray) from rfl, if_neg hne, if_pos rfl]
  have hp : (⟨p.f0, p.f1, p.f2, p.f3, p.f4, p.f5, p.f6⟩ : Prod9) = p := rfl
  unfold parseP
  rw [hf]
  show (if (0 : Int) = 0 then (if (lineP p).length = 7 then gP (lineP p) (numsE (((lineP p).drop 1).take 5)) else _) else _) = _
  rw [if_pos rfl, if_pos (show (lineP p).length = 7 from rfl), hnum]
  unfold gP
  have r6 : rdOf ByteArray.empty (lineP p) 6 = kindS p.f6 := rfl
  have r0 : rdOf ByteArray.empty (lineP p) 0 = p.f0 := rfl
  simp only [r6, r0, hkk]
  have e : (⟨p.f0, rd [p.f1, p.f2, p.f3, p.f4, p.f5] 0, rd [p.f1, p.f2, p.f3, p.f4, p.f5] 1, rd [p.f1, p.f2, p.f3, p.f4, p.f5] 2, rd [p.f1, p.f2, p.f3, p.f4, p.f5] 3, rd [p.f1, p.f2, p.f3, p.f4, p.f5] 4, kb (some p.f6)⟩ : Prod9) = p := rfl
  rw [e, if_pos (show (some p.f6).isSome = true from rfl), if_pos h]
theorem numsE_back : ∀ {l : List ByteArray} {n : List Int}, numsE l = some n → n.map textS = l ∧ ∀ x ∈ n, I64 x
  | [], n, h => by obtain rfl := Option.some.inj h; exact ⟨rfl, fun x hx => by cases hx⟩
  | x :: r, n, h => by
    unfold numsE at h
    by_cases c : (intL (bytesOf x)).2 = 0
    case neg => rw [if_neg c] at h; cases h
    rw [if_pos c] at h
    obtain ⟨m, hm, rfl⟩ := Option.map_eq_some_iff.1 h
    obtain ⟨i1, i2⟩ := numsE_back hm
    obtain ⟨t1, t2, t3, _⟩ := text_int c
    refine ⟨?_, ?_⟩
    · rw [List.map_cons, i1]
      congr 1
      unfold textS
      rw [t1, str_by]
    · intro y hy
      rcases List.mem_cons.1 hy with rfl | hy
      · exact ⟨by omega, by omega⟩
      · exact i2 y hy
theorem print_parse {s : ByteArray} (h : (parseP s).2 = 0) : prodE (parseP s).1 = 0 ∧ joinS (lineP (parseP s).1) = s := by
  unfold parseP at h ⊢
  by_cases c1 : (fieldsS s).2 = 0
  case neg => rw [if_neg c1] at h; exact absurd h c1
  rw [if_pos c1] at h ⊢
  by_cases c2 : (fieldsS s).1.length = 7
  case neg => rw [if_neg c2] at h; exact absurd h (by decide)
  rw [if_pos c2] at h ⊢
  have hjs := join_of_fields c1
  generalize (fieldsS s).1 = l at *
  cases hn : numsE ((l.drop 1).take 5) with
  | none => rw [hn] at h; exact absurd (show (5 : Int) = 0 from h) (by decide)
  | some n =>
    rw [hn] at h
    unfold gP at h ⊢
    simp only at h ⊢
    by_cases c3 : (prsKind (rdOf ByteArray.empty l 6)).isSome = true
    case neg => rw [if_neg c3] at h; exact absurd h (by decide)
    rw [if_pos c3] at h ⊢
    by_cases c4 : prodE ⟨rdOf ByteArray.empty l 0, rd n 0, rd n 1, rd n 2, rd n 3, rd n 4, kb (prsKind (rdOf ByteArray.empty l 6))⟩ = 0
    case neg => rw [if_neg c4] at h; exact absurd h c4
    rw [if_pos c4]
    refine ⟨c4, ?_⟩
    obtain ⟨b1, b2⟩ := numsE_back hn
    rcases l with _ | ⟨t0, _ | ⟨t1, _ | ⟨t2, _ | ⟨t3, _ | ⟨t4, _ | ⟨t5, _ | ⟨t6, _ | ⟨t7, r⟩⟩⟩⟩⟩⟩⟩⟩
    case cons.cons.cons.cons.cons.cons.cons.nil =>
      have hb : n.map textS = [t1, t2, t3, t4, t5] := b1
      rcases n with _ | ⟨n1, _ | ⟨n2, _ | ⟨n3, _ | ⟨n4, _ | ⟨n5, _ | ⟨n6, q⟩⟩⟩⟩⟩⟩ <;> simp only [List.map_cons, List.map_nil, List.cons.injEq, reduceCtorEq, and_false, and_true] at hb
      obtain ⟨e1, e2, e3, e4, e5⟩ := hb
      have r6 : rdOf ByteArray.empty [t0, t1, t2, t3, t4, t5, t6] 6 = t6 := rfl
      rw [r6] at c3 ⊢
      have hk : kindS (kb (prsKind t6)) = t6 := by
        unfold prsKind at c3 ⊢
        by_cases d1 : (⟨#[112, 104, 121, 115, 105, 99, 97, 108]⟩ : ByteArray).toList = t6.toList
        · rw [if_pos d1]; exact (by_eq _ _).1 d1
        · rw [if_neg d1] at c3 ⊢
          by_cases d2 : (⟨#[99, 97, 115, 104]⟩ : ByteArray).toList = t6.toList
          · rw [if_pos d2]; exact (by_eq _ _).1 d2
          · rw [if_neg d2] at c3; exact absurd c3 (by decide)
      have hl : lineP ⟨rdOf ByteArray.empty [t0, t1, t2, t3, t4, t5, t6] 0, rd [n1, n2, n3, n4, n5] 0, rd [n1, n2, n3, n4, n5] 1, rd [n1, n2, n3, n4, n5] 2, rd [n1, n2, n3, n4, n5] 3, rd [n1, n2, n3, n4, n5] 4, kb (prsKind t6)⟩ = [t0, t1, t2, t3, t4, t5, t6] := by
        show [t0, textS n1, textS n2, textS n3, textS n4, textS n5, kindS (kb (prsKind t6))] = _
        rw [e1, e2, e3, e4, e5, hk]
      rw [hl]
      exact hjs
    all_goals exact absurd c2 (by simp)
end Go.Proofs.YtieifncibojciaaDoor.P
end
section
namespace Go.Proofs.YtieifncibojciaaDoor.P
open Go.RowKit Go.Proofs.YtieifncibojciaaDoorW.PrintWords Go.Proofs.YtieifncibojciaaDoorW.PrintMore Go.Proofs.YtieifncibojciaaDoor.X
set_option maxRecDepth 100000 in
theorem goes09 : Ev (fun k => contangolaw09_goes.f k) true := Ev.of (k := 60) (contangolaw09_goes.mono) (by decide +kernel)
end Go.Proofs.YtieifncibojciaaDoor.P
end
section
namespace Go.Proofs.YtieifncibojciaaDoor.Pure
set_option linter.unusedVariables false
set_option linter.unusedSimpArgs false
open Go.RowKit Go.Proofs.YtieifncibojciaaDoorW.PrintWords Go.Proofs.YtieifncibojciaaDoorW.PrintMore Go.Proofs.YtieifncibojciaaDoor.X Go.Proofs.YtieifncibojciaaDoor.P
theorem I64_of {n : Int} (h : (Lit.int .i64 n).wf = true) : I64 n := wf_rng h
theorem parse_i64 {s : ByteArray} (h : (parseP s).2 = 0) : (parseP s).1.f0.size ≤ 140737488351232 ∧ I64 (parseP s).1.f1 ∧ I64 (parseP s).1.f2 ∧ I64 (parseP s).1.f3 ∧ I64 (parseP s).1.f4 ∧ I64 (parseP s).1.f5 := by
  have he := (print_parse h).1
  have ok := prodE_zero he
  unfold ProdOk at ok
  generalize (parseP s).1 = p at he ok
  unfold prodE at he
  by_cases a : nameB p.f0 = true
  case neg => rw [if_neg a] at he; exact absurd he (by decide)
  rw [if_pos a] at he
  by_cases b : p.f1 < 0 ∨ p.f1 ≥ 8
  · rw [if_pos b] at he; exact absurd he (by decide)
  rw [if_neg b] at he
  by_cases c : p.f2 < 1 ∨ p.f2 > 4096
  · rw [if_pos c] at he; exact absurd he (by decide)
  have := (name_good a).2
  unfold I64
  omega
theorem back_tail (s : ByteArray) : Ev (fun k => contangolaw09_ProductBack.j0 k s (parseP s).2 false (parseP s).1.f0 (parseP s).1.f1 (parseP s).1.f2 (parseP s).1.f3 (parseP s).1.f4 (parseP s).1.f5 (parseP s).1.f6) true := by
  refine Ev_succ ?_
  simp only [contangolaw09_ProductBack.j0, Bool.false_eq_true, if_false]
  by_cases c : (parseP s).2 = 0
  · simp only [if_pos c]
    obtain ⟨h1, h2⟩ := print_parse c
    obtain ⟨i0, i1, i2, i3, i4, i5⟩ := parse_i64 c
    refine Ev_bind (print_f (parseP s).1 i0 i1 i2 i3 i4 i5) ?_
    rw [h2]
    simp only [if_true]
    refine Ev_bind (prod_f (parseP s).1) ?_
    simp only [if_pos h1]
    exact Ev_id goes09
  · simp only [if_neg c]
    exact Ev_id goes09
theorem ProductBack : ∀ (x0 : S45) (a1 : ByteArray), ok45 x0 → a1.size ≤ 140737488351232 → ∃ k, X.contangolaw09_ProductBack.f k x0.f0 x0.f1 x0.f2 x0.f3 x0.f4 x0.f5 x0.f6 a1 = some true := by
  intro p s h0 h1
  obtain ⟨o0, o1, o2, o3, o4, o5, _⟩ := h0
  refine Ev.rounds ?_
  unfold contangolaw09_ProductBack.f
  refine Ev_bind (print_f p o0 (I64_of o1) (I64_of o2) (I64_of o3) (I64_of o4) (I64_of o5)) ?_
  refine Ev_bind (parseP_f _) ?_
  refine Ev_bind (parseP_f s) ?_
  refine Ev_bind (prod_f p) ?_
  by_cases c : prodE p = 0
  · simp only [if_pos c]
    rw [parse_print c]
    simp only [tP, beq_self_eq_true, Bool.not_true, Bool.or_self, Bool.false_eq_true, if_false, bne_self_eq_false]
    exact back_tail s
  · simp only [if_neg c]
    exact back_tail s
end Go.Proofs.YtieifncibojciaaDoor.Pure
end
