/- For TapeKeeps: contracts, and facts on lists and numbers, that it uses (part 2). -/
import Derived.BigRegion
import Derived.ChangeAlike
import Derived.Deep.CutRange
import Derived.Deep.MidRow
import Derived.RegionTactic
import Derived.Test.YtocndpddghefhaaTapeKeepsc1
section
namespace Go.Proofs.Ytocndpddghefhaa.X.Srt
variable {α : Type}
def g (z : α) (xs : List α) (i : Nat) : α := xs.getD i z
def sw (z : α) (xs : List α) (i j : Nat) : List α := (xs.set i (g z xs j)).set j (g z xs i)
def insIn (z : α) (lt : α → α → Bool) (a : Nat) : Nat → List α → List α
  | 0, xs => xs
  | j + 1, xs => if a < j + 1 then (if lt (g z xs (j + 1)) (g z xs j) = true then insIn z lt a j (sw z xs (j + 1) j) else xs) else xs
def insOut (z : α) (lt : α → α → Bool) (a : Nat) : Nat → Nat → List α → List α
  | 0, _, xs => xs
  | d + 1, i, xs => insOut z lt a d (i + 1) (insIn z lt a i xs)
def insF (z : α) (lt : α → α → Bool) (a b : Nat) (xs : List α) : List α := insOut z lt a (b - (a + 1)) (a + 1) xs
def swapF (z : α) (a b : Nat) : Nat → Nat → List α → List α
  | 0, _, xs => xs
  | d + 1, i, xs => swapF z a b d (i + 1) (sw z xs (a + i) (b + i))
def rotF (z : α) (m : Nat) : Nat → Nat → Nat → List α → List α
  | 0, i, _, xs => swapF z (m - i) m i 0 xs
  | f + 1, i, j, xs => if i = j then swapF z (m - i) m i 0 xs else if j < i then rotF z m f (i - j) j (swapF z (m - i) m j 0 xs) else rotF z m f i (j - i) (swapF z (m - i) (m + j - i) i 0 xs)
def bs (p : Nat → Bool) : Nat → Nat → Nat → Nat
  | 0, lo, _ => lo
  | k + 1, lo, hi => if lo < hi then (if p ((lo + hi) / 2) = true then bs p k ((lo + hi) / 2 + 1) hi else bs p k lo ((lo + hi) / 2)) else lo
def up (z : α) : Nat → Nat → List α → List α
  | 0, _, xs => xs
  | d + 1, k, xs => up z d (k + 1) (sw z xs k (k + 1))
def dn (z : α) (i : Nat) : Nat → List α → List α
  | 0, xs => xs
  | k + 1, xs => if i < k + 1 then dn z i k (sw z xs (k + 1) k) else xs
def symF (z : α) (lt : α → α → Bool) : Nat → Nat → Nat → Nat → List α → List α
  | 0, _, _, _, xs => xs
  | f + 1, a, m, b, xs =>
    if m - a = 1 then (let i := bs (fun h => lt (g z xs h) (g z xs a)) (b - m) m b; up z (i - 1 - a) a xs)
    else if b - m = 1 then (let i := bs (fun h => !lt (g z xs m) (g z xs h)) (m - a) a m; dn z i m xs)
    else
      let mid := (a + b) / 2
      let n := mid + m
      let s0 := if mid < m then n - b else a
      let r0 := if mid < m then mid else m
      let st := bs (fun h => !lt (g z xs (n - 1 - h)) (g z xs h)) (r0 - s0) s0 r0
      let en := n - st
      let x1 := if st < m ∧ m < en then rotF z m (en - st) (m - st) (en - m) xs else xs
      let x2 := if a < st ∧ st < mid then symF z lt f a st mid x1 else x1
      if mid < en ∧ en < b then symF z lt f mid en b x2 else x2
def blkF (z : α) (lt : α → α → Bool) (bz n : Nat) : Nat → Nat → List α → List α
  | 0, a, xs => insF z lt a n xs
  | d + 1, a, xs => if a + bz ≤ n then blkF z lt bz n d (a + bz) (insF z lt a (a + bz) xs) else insF z lt a n xs
def mrgF (z : α) (lt : α → α → Bool) (bz n : Nat) : Nat → Nat → List α → List α
  | 0, _, xs => xs
  | d + 1, a, xs => if a + 2 * bz ≤ n then mrgF z lt bz n d (a + 2 * bz) (symF z lt (2 * bz) a (a + bz) (a + 2 * bz) xs) else if a + bz < n then symF z lt (n - a) a (a + bz) n xs else xs
def rndF (z : α) (lt : α → α → Bool) (n : Nat) : Nat → Nat → List α → List α
  | 0, _, xs => xs
  | d + 1, bz, xs => if bz < n then rndF z lt n d (bz * 2) (mrgF z lt bz n n 0 xs) else xs
def stabF (z : α) (lt : α → α → Bool) (xs : List α) : List α := rndF z lt xs.length xs.length 20 (blkF z lt 20 xs.length xs.length 0 xs)
theorem g_dec (z : α) (A : List α) (x : α) (R : List α) : g z (A ++ x :: R) A.length = x := by simp [g, List.getD]
theorem g_at {z : α} {A : List α} {x : α} {R : List α} {i : Nat} (h : i = A.length) : g z (A ++ x :: R) i = x := by subst h; exact g_dec z A x R
theorem set_dec (A : List α) (x y : α) (R : List α) : (A ++ x :: R).set A.length y = A ++ y :: R := by simp
theorem sw_dec (z : α) (A : List α) (x : α) (B : List α) (y : α) (C : List α) : sw z (A ++ x :: (B ++ y :: C)) A.length (A.length + 1 + B.length) = A ++ y :: (B ++ x :: C) := by
  have e : A ++ x :: (B ++ y :: C) = (A ++ x :: B) ++ y :: C := by simp
  have e2 : A ++ y :: (B ++ y :: C) = (A ++ y :: B) ++ y :: C := by simp
  have h1 : g z (A ++ x :: (B ++ y :: C)) (A.length + 1 + B.length) = y := by rw [e]; exact g_at (by simp; omega)
  unfold sw
  rw [g_dec, h1, set_dec, e2, show A.length + 1 + B.length = (A ++ y :: B).length by simp; omega, set_dec]
  simp
theorem sw_dec' (z : α) (A : List α) (x : α) (B : List α) (y : α) (C : List α) : sw z (A ++ x :: (B ++ y :: C)) (A.length + 1 + B.length) A.length = A ++ y :: (B ++ x :: C) := by
  have e : A ++ x :: (B ++ y :: C) = (A ++ x :: B) ++ y :: C := by simp
  have h1 : g z (A ++ x :: (B ++ y :: C)) (A.length + 1 + B.length) = y := by rw [e]; exact g_at (by simp; omega)
  unfold sw
  rw [g_dec, h1, e, show A.length + 1 + B.length = (A ++ x :: B).length by simp; omega, set_dec, show (A ++ x :: B) ++ x :: C = A ++ x :: (B ++ x :: C) by simp, set_dec]
theorem sw_at {z : α} {A : List α} {x : α} {B : List α} {y : α} {C : List α} {i j : Nat} (hi : i = A.length) (hj : j = A.length + 1 + B.length) : sw z (A ++ x :: (B ++ y :: C)) i j = A ++ y :: (B ++ x :: C) := by subst hi hj; exact sw_dec z A x B y C
theorem sw_at' {z : α} {A : List α} {x : α} {B : List α} {y : α} {C : List α} {i j : Nat} (hi : i = A.length + 1 + B.length) (hj : j = A.length) : sw z (A ++ x :: (B ++ y :: C)) i j = A ++ y :: (B ++ x :: C) := by subst hi hj; exact sw_dec' z A x B y C
theorem swapF_dec (z : α) (P M S : List α) : ∀ (d : Nat) (X1 Y1 X2 Y2 : List α) (a b i : Nat), a = P.length → i = Y1.length → X1.length = Y1.length → X2.length = d → Y2.length = d → b = a + i + d + M.length →
    swapF z a b d i (P ++ (Y1 ++ (X2 ++ (M ++ (X1 ++ (Y2 ++ S)))))) = P ++ (Y1 ++ (Y2 ++ (M ++ (X1 ++ (X2 ++ S)))))
  | 0, X1, Y1, X2, Y2, a, b, i, h1, h2, h3, h4, h5, h6 => by
    rw [List.length_eq_zero_iff.1 h4, List.length_eq_zero_iff.1 h5]; rfl
  | d + 1, X1, Y1, x :: X2, y :: Y2, a, b, i, h1, h2, h3, h4, h5, h6 => by
    simp only [List.length_cons] at h4 h5
    rw [swapF]
    have e := sw_at (z := z) (A := P ++ Y1) (x := x) (B := X2 ++ (M ++ X1)) (y := y) (C := Y2 ++ S) (i := a + i) (j := b + i) (by simp; omega) (by simp; omega)
    simp only [List.append_assoc, List.cons_append] at e ⊢
    rw [e]
    have ih := swapF_dec z P M S d (X1 ++ [x]) (Y1 ++ [y]) X2 Y2 a b (i + 1) h1 (by simp; omega) (by simp; omega) (by omega) (by omega) (by omega)
    simp only [List.append_assoc, List.cons_append, List.nil_append] at ih
    rw [ih]
  | d + 1, X1, Y1, [], Y2, a, b, i, h1, h2, h3, h4, h5, h6 => by simp at h4
  | d + 1, X1, Y1, x :: X2, [], a, b, i, h1, h2, h3, h4, h5, h6 => by simp at h5
theorem swap_dec (z : α) (P X M Y S : List α) (a b d : Nat) (h1 : a = P.length) (h2 : X.length = d) (h3 : Y.length = d) (h4 : b = a + d + M.length) :
    swapF z a b d 0 (P ++ (X ++ (M ++ (Y ++ S)))) = P ++ (Y ++ (M ++ (X ++ S))) := by
  have := swapF_dec z P M S d [] [] X Y a b 0 h1 rfl rfl h2 h3 (by omega)
  simpa using this
theorem rotF_dec (z : α) (S : List α) (m : Nat) : ∀ (f : Nat) (P U V : List α) (i j : Nat), U.length = i → V.length = j → P.length + i = m → 0 < i → 0 < j → i + j ≤ f + 1 → (S' : List α) → rotF z m f i j (P ++ (U ++ (V ++ S'))) = P ++ (V ++ (U ++ S'))
  | 0, P, U, V, i, j, h1, h2, h3, h4, h5, h6, S' => by omega
  | f + 1, P, U, V, i, j, h1, h2, h3, h4, h5, h6, S' => by
    rw [rotF]
    by_cases c : i = j
    · rw [if_pos c]
      have := swap_dec z P U [] V S' (m - i) m i (by omega) h1 (by omega) (by simp; omega)
      simpa using this
    · rw [if_neg c]
      by_cases c2 : j < i
      · rw [if_pos c2]
        have hU : U = U.take j ++ U.drop j := (List.take_append_drop j U).symm
        have := swap_dec z P (U.take j) (U.drop j) V S' (m - i) m j (by omega) (by rw [List.length_take]; omega) h2 (by rw [List.length_drop]; omega)
        rw [show P ++ (U ++ (V ++ S')) = P ++ (U.take j ++ (U.drop j ++ (V ++ S'))) by rw [← List.append_assoc (U.take j), ← hU], this]
        have ih := rotF_dec z S m f (P ++ V) (U.drop j) (U.take j) (i - j) j (by rw [List.length_drop]; omega) (by rw [List.length_take]; omega) (by simp; omega) (by omega) h5 (by omega) S'
        simp only [List.append_assoc] at ih
        rw [ih, ← List.append_assoc (U.take j), ← hU]
      · rw [if_neg c2]
        have hV : V = V.take (j - i) ++ V.drop (j - i) := (List.take_append_drop _ V).symm
        have := swap_dec z P U (V.take (j - i)) (V.drop (j - i)) S' (m - i) (m + j - i) i (by omega) h1 (by rw [List.length_drop]; omega) (by rw [List.length_take]; omega)
        rw [show P ++ (U ++ (V ++ S')) = P ++ (U ++ (V.take (j - i) ++ (V.drop (j - i) ++ S'))) by rw [← List.append_assoc (V.take (j - i)), ← hV], this]
        have ih := rotF_dec z S m f P (V.drop (j - i)) (V.take (j - i)) i (j - i) (by rw [List.length_drop]; omega) (by rw [List.length_take]; omega) h3 h4 (by omega) (by omega) (U ++ S')
        rw [ih, ← List.append_assoc (V.take (j - i)), ← hV]
theorem up_dec (z : α) (x : α) (S : List α) : ∀ (R P : List α) (a d : Nat), a = P.length → d = R.length → up z d a (P ++ x :: (R ++ S)) = P ++ (R ++ x :: S)
  | [], P, a, d, h1, h2 => by subst h2; rfl
  | y :: R, P, a, d, h1, h2 => by
    subst h2
    rw [List.length_cons, up]
    have e := sw_at (z := z) (A := P) (x := x) (B := []) (y := y) (C := R ++ S) (i := a) (j := a + 1) h1 (by simp; omega)
    simp only [List.nil_append, List.cons_append] at e ⊢
    rw [e]
    have ih := up_dec z x S R (P ++ [y]) (a + 1) R.length (by simp; omega) rfl
    simp only [List.append_assoc, List.cons_append, List.nil_append] at ih
    exact ih
theorem dn_dec (z : α) (y : α) (P : List α) (i : Nat) (hi : i = P.length) : ∀ (k : Nat) (L S : List α), i + L.length = k → dn z i k (P ++ (L ++ y :: S)) = P ++ y :: (L ++ S)
  | 0, L, S, h => by
    have : L = [] := List.length_eq_zero_iff.1 (by omega)
    subst this; rfl
  | k + 1, L, S, h => by
    rw [dn]
    by_cases c : i < k + 1
    · rw [if_pos c]
      obtain ⟨L', x, rfl⟩ : ∃ L' x, L = L' ++ [x] := by
        rcases List.eq_nil_or_concat L with e | ⟨L', x, e⟩
        · rw [e] at h; simp at h; omega
        · exact ⟨L', x, by rw [e]; simp⟩
      simp only [List.length_append, List.length_cons, List.length_nil] at h
      have e := sw_at' (z := z) (A := P ++ L') (x := x) (B := []) (y := y) (C := S) (i := k + 1) (j := k) (by simp; omega) (by simp; omega)
      simp only [List.append_assoc, List.nil_append, List.cons_append] at e ⊢
      rw [e, dn_dec z y P i hi k L' (x :: S) (by omega)]
    · rw [if_neg c]
      have : L = [] := List.length_eq_zero_iff.1 (by omega)
      subst this; rfl
section
variable (key : α → Int)
def klt (x y : α) : Bool := decide (key x < key y)
def Kle (x y : α) : Prop := key x ≤ key y
def Sh (X Y : List α) : Prop := X.Perm Y ∧ ∀ n : Int, X.filter (fun x => key x == n) = Y.filter (fun x => key x == n)
variable {key}
theorem Sh.refl (X : List α) : Sh key X X := ⟨List.Perm.refl _, fun _ => rfl⟩
theorem Sh.symm {X Y : List α} (h : Sh key X Y) : Sh key Y X := ⟨h.1.symm, fun n => (h.2 n).symm⟩
theorem Sh.trans {X Y Z : List α} (h : Sh key X Y) (h2 : Sh key Y Z) : Sh key X Z := ⟨h.1.trans h2.1, fun n => (h.2 n).trans (h2.2 n)⟩
theorem Sh.append {X Y X' Y' : List α} (h : Sh key X X') (h2 : Sh key Y Y') : Sh key (X ++ Y) (X' ++ Y') :=
  ⟨h.1.append h2.1, fun n => by rw [List.filter_append, List.filter_append, h.2 n, h2.2 n]⟩
theorem Sh.swap {U V : List α} (h : ∀ x ∈ U, ∀ y ∈ V, key x ≠ key y) : Sh key (U ++ V) (V ++ U) := by
  refine ⟨List.perm_append_comm, fun n => ?_⟩
  rw [List.filter_append, List.filter_append]
  by_cases c : ∃ x ∈ U, key x = n
  · obtain ⟨x, hx, e⟩ := c
    have : V.filter (fun x => key x == n) = [] := List.filter_eq_nil_iff.2 fun y hy => by
      have := h x hx y hy
      simp; omega
    rw [this]; simp
  · have : U.filter (fun x => key x == n) = [] := List.filter_eq_nil_iff.2 fun y hy => by
      intro e
      exact c ⟨y, hy, by simpa using e⟩
    rw [this]; simp
theorem Sh.mem {X Y : List α} (h : Sh key X Y) {x : α} : x ∈ Y ↔ x ∈ X := h.1.symm.mem_iff
theorem Sh.length {X Y : List α} (h : Sh key X Y) : X.length = Y.length := h.1.length_eq
theorem sh_unique : ∀ (X Y : List α), X.Pairwise (Kle key) → Y.Pairwise (Kle key) → Sh key X Y → X = Y
  | [], Y, _, _, h => (List.length_eq_zero_iff.1 (by rw [← h.length]; rfl)).symm
  | x :: X, [], _, _, h => by have := h.length; simp at this
  | x :: X, y :: Y, hX, hY, h => by
    obtain ⟨h1, h2⟩ := List.pairwise_cons.1 hX
    obtain ⟨h3, h4⟩ := List.pairwise_cons.1 hY
    have e1 : key x ≤ key y := by
      have : y ∈ x :: X := h.mem.1 (by simp)
      rcases List.mem_cons.1 this with e | e
      · rw [e]; exact Int.le_refl _
      · exact h1 y e
    have e2 : key y ≤ key x := by
      have : x ∈ y :: Y := h.mem.2 (by simp)
      rcases List.mem_cons.1 this with e | e
      · rw [e]; exact Int.le_refl _
      · exact h3 x e
    have ek : key x = key y := by omega
    have hf := h.2 (key x)
    rw [List.filter_cons_of_pos (by simp), List.filter_cons_of_pos (by simp [ek])] at hf
    obtain ⟨rfl, _⟩ := List.cons.inj hf
    have ht : Sh key X Y := by
      refine ⟨(List.perm_cons x).1 h.1, fun n => ?_⟩
      have := h.2 n
      by_cases c : key x = n
      · rw [List.filter_cons_of_pos (by simp [c]), List.filter_cons_of_pos (by simp [c])] at this
        exact (List.cons.inj this).2
      · rw [List.filter_cons_of_neg (by simp [c]), List.filter_cons_of_neg (by simp [c])] at this
        exact this
    rw [sh_unique X Y h2 h4 ht]
theorem bs_inv (p : Nat → Bool) (lo0 hi0 : Nat) : ∀ (k lo hi : Nat), lo0 ≤ lo → hi ≤ hi0 → lo ≤ hi → hi - lo ≤ k → (lo = lo0 ∨ (lo0 < lo ∧ p (lo - 1) = true)) → (hi = hi0 ∨ (hi < hi0 ∧ p hi = false)) →
    ∃ st, bs p k lo hi = st ∧ lo0 ≤ st ∧ st ≤ hi0 ∧ (st = lo0 ∨ (lo0 < st ∧ p (st - 1) = true)) ∧ (st = hi0 ∨ (st < hi0 ∧ p st = false))
  | 0, lo, hi, h1, h2, h3, h4, h5, h6 => by
    obtain rfl : lo = hi := by omega
    exact ⟨lo, rfl, h1, h2, h5, h6⟩
  | k + 1, lo, hi, h1, h2, h3, h4, h5, h6 => by
    unfold bs
    by_cases c : lo < hi
    · rw [if_pos c]
      by_cases c2 : p ((lo + hi) / 2) = true
      · rw [if_pos c2]
        exact bs_inv p lo0 hi0 k _ _ (by omega) h2 (by omega) (by omega) (Or.inr ⟨by omega, by simpa using c2⟩) h6
      · rw [if_neg c2]
        exact bs_inv p lo0 hi0 k _ _ h1 (by omega) (by omega) (by omega) h5 (Or.inr ⟨by omega, by simpa using c2⟩)
    · rw [if_neg c]
      obtain rfl : lo = hi := by omega
      exact ⟨lo, rfl, h1, h2, h5, h6⟩
theorem bs_spec (p : Nat → Bool) (k lo hi : Nat) (h : lo ≤ hi) (hk : hi - lo ≤ k) : ∃ st, bs p k lo hi = st ∧ lo ≤ st ∧ st ≤ hi ∧ (st = lo ∨ (lo < st ∧ p (st - 1) = true)) ∧ (st = hi ∨ (st < hi ∧ p st = false)) :=
  bs_inv p lo hi k lo hi (Nat.le_refl _) (Nat.le_refl _) h hk (Or.inl rfl) (Or.inl rfl)
theorem take_all {X : List α} (hs : X.Pairwise (Kle key)) (j : Nat) (n : Int) (h : j = 0 ∨ ∃ hj : j - 1 < X.length, key X[j - 1] ≤ n) : ∀ x ∈ X.take j, key x ≤ n := by
  intro x hx
  obtain ⟨i, hi, rfl⟩ := List.getElem_of_mem hx
  rw [List.length_take] at hi
  rw [List.getElem_take]
  rcases h with h | ⟨hj, h⟩
  · omega
  · by_cases c : i = j - 1
    · subst c; exact h
    · have := (List.pairwise_iff_getElem.1 hs) i (j - 1) (by omega) hj (by omega)
      unfold Kle at this
      omega
theorem drop_all {X : List α} (hs : X.Pairwise (Kle key)) (j : Nat) (n : Int) (h : X.length ≤ j ∨ ∃ hj : j < X.length, n ≤ key X[j]) : ∀ x ∈ X.drop j, n ≤ key x := by
  intro x hx
  obtain ⟨i, hi, rfl⟩ := List.getElem_of_mem hx
  rw [List.length_drop] at hi
  rw [List.getElem_drop]
  rcases h with h | ⟨hj, h⟩
  · omega
  · by_cases c : i = 0
    · subst c; exact h
    · have := (List.pairwise_iff_getElem.1 hs) j (j + i) hj (by omega) (by omega)
      unfold Kle at this
      omega
theorem gL (z : α) (P L R : List α) (i j : Nat) (h : i = P.length + j) (hj : j < L.length) : g z (P ++ (L ++ R)) i = L[j] := by
  subst h
  unfold g
  rw [List.getD_eq_getElem?_getD, List.getElem?_append_right (by omega), Nat.add_sub_cancel_left, List.getElem?_append_left hj, List.getElem?_eq_getElem hj]
  rfl
theorem gR (z : α) (P L R S : List α) (i j : Nat) (h : i = P.length + L.length + j) (hj : j < R.length) : g z (P ++ (L ++ (R ++ S))) i = R[j] := by
  have := gL z (P ++ L) R S i j (by simp; omega) hj
  rwa [List.append_assoc] at this
theorem insIn_spec (z : α) (P : List α) (a : Nat) (ha : a = P.length) : ∀ (i : Nat) (L : List α) (x : α) (S : List α), i = a + L.length → L.Pairwise (Kle key) → ∃ T, insIn z (klt key) a i (P ++ (L ++ x :: S)) = P ++ (T ++ S) ∧ T.Pairwise (Kle key) ∧ Sh key (L ++ [x]) T
  | 0, L, x, S, h, hs => by
    have : L = [] := List.length_eq_zero_iff.1 (by omega)
    subst this
    exact ⟨[x], rfl, List.pairwise_singleton _ _, Sh.refl _⟩
  | i + 1, L, x, S, h, hs => by
    rw [insIn]
    by_cases c : a < i + 1
    · rw [if_pos c]
      obtain ⟨L', y, rfl⟩ : ∃ L' y, L = L' ++ [y] := by
        rcases List.eq_nil_or_concat L with e | ⟨L', y, e⟩
        · rw [e] at h; simp at h; omega
        · exact ⟨L', y, by rw [e]; simp⟩
      simp only [List.length_append, List.length_cons, List.length_nil] at h
      have e1 : g z (P ++ (L' ++ [y] ++ x :: S)) (i + 1) = x := by
        have := gL z (P ++ (L' ++ [y])) [x] S (i + 1) 0 (by simp; omega) (by simp)
        simpa using this
      have e2 : g z (P ++ (L' ++ [y] ++ x :: S)) i = y := by
        have := gL z (P ++ L') [y] (x :: S) i 0 (by simp; omega) (by simp)
        simpa using this
      rw [e1, e2]
      obtain ⟨hs1, _, hs3⟩ := List.pairwise_append.1 hs
      unfold klt
      by_cases c2 : key x < key y
      · rw [if_pos (decide_eq_true c2)]
        have e := sw_at' (z := z) (A := P ++ L') (x := y) (B := []) (y := x) (C := S) (i := i + 1) (j := i) (by simp; omega) (by simp; omega)
        simp only [List.append_assoc, List.nil_append, List.cons_append] at e ⊢
        rw [e]
        obtain ⟨T, t1, t2, t3⟩ := insIn_spec z P a ha i L' x (y :: S) (by omega) hs1
        unfold klt at t1
        refine ⟨T ++ [y], by rw [t1]; simp, List.pairwise_append.2 ⟨t2, List.pairwise_singleton _ _, fun u hu v hv => ?_⟩, ?_⟩
        · have hv : v = y := by simpa using hv
          subst hv
          rcases List.mem_append.1 (t3.mem.1 hu) with e | e
          · exact hs3 u e v (by simp)
          · have : u = x := by simpa using e
            subst this
            show key u ≤ key v; omega
        · have s1 : Sh key (L' ++ ([y] ++ [x])) (L' ++ ([x] ++ [y])) := (Sh.refl L').append (Sh.swap fun u hu v hv => by
            have hu : u = y := by simpa using hu
            have hv : v = x := by simpa using hv
            subst hu; subst hv; omega)
          have s2 := s1.trans (by rw [← List.append_assoc]; exact t3.append (Sh.refl [y]))
          exact s2
      · rw [if_neg (by simpa using c2)]
        refine ⟨L' ++ [y] ++ [x], by simp, List.pairwise_append.2 ⟨hs, List.pairwise_singleton _ _, fun u hu v hv => ?_⟩, Sh.refl _⟩
        have hv : v = x := by simpa using hv
        subst hv
        rcases List.mem_append.1 hu with e | e
        · have := hs3 u e y (by simp)
          unfold Kle at this ⊢; omega
        · have : u = y := by simpa using e
          subst this
          show key u ≤ key v; omega
    · rw [if_neg c]
      have : L = [] := List.length_eq_zero_iff.1 (by omega)
      subst this
      exact ⟨[x], rfl, List.pairwise_singleton _ _, Sh.refl _⟩
theorem insOut_spec (z : α) (P : List α) (a : Nat) (ha : a = P.length) (S : List α) : ∀ (R L : List α) (d i : Nat), d = R.length → i = a + L.length → L.Pairwise (Kle key) → ∃ T, insOut z (klt key) a d i (P ++ (L ++ (R ++ S))) = P ++ (T ++ S) ∧ T.Pairwise (Kle key) ∧ Sh key (L ++ R) T
  | [], L, d, i, hd, hi, hs => by
    subst hd
    exact ⟨L, rfl, hs, by rw [List.append_nil]; exact Sh.refl _⟩
  | x :: R, L, d, i, hd, hi, hs => by
    subst hd
    rw [List.length_cons, insOut]
    obtain ⟨T, t1, t2, t3⟩ := insIn_spec (key := key) z P a ha i L x (R ++ S) hi hs
    rw [List.cons_append, t1]
    have hl := t3.length
    simp only [List.length_append, List.length_cons, List.length_nil] at hl
    obtain ⟨T2, u1, u2, u3⟩ := insOut_spec z P a ha S R T R.length (i + 1) rfl (by omega) t2
    refine ⟨T2, u1, u2, ?_⟩
    have : Sh key (L ++ [x] ++ R) T2 := (t3.append (Sh.refl R)).trans u3
    simpa using this
theorem insF_spec (z : α) (P X S : List α) (a b : Nat) (ha : a = P.length) (hb : b = a + X.length) : ∃ T, insF z (klt key) a b (P ++ (X ++ S)) = P ++ (T ++ S) ∧ T.Pairwise (Kle key) ∧ Sh key X T := by
  unfold insF
  cases X with
  | nil =>
    rw [show b - (a + 1) = 0 by simp at hb; omega]
    exact ⟨[], rfl, List.Pairwise.nil, Sh.refl _⟩
  | cons x X =>
    simp only [List.length_cons] at hb
    have := insOut_spec (key := key) z P a ha S X [x] (b - (a + 1)) (a + 1) (by omega) rfl (List.pairwise_singleton _ _)
    simpa using this
theorem sorted_append {X Y : List α} (hX : X.Pairwise (Kle key)) (hY : Y.Pairwise (Kle key)) (h : ∀ x ∈ X, ∀ y ∈ Y, key x ≤ key y) : (X ++ Y).Pairwise (Kle key) := List.pairwise_append.2 ⟨hX, hY, h⟩
theorem symF_one (z : α) (f : Nat) (P R S : List α) (x : α) (a m b : Nat) (ha : a = P.length) (hm : m = a + 1) (hb : b = m + R.length) (hR : R.Pairwise (Kle key)) :
    ∃ T, symF z (klt key) (f + 1) a m b (P ++ ([x] ++ (R ++ S))) = P ++ (T ++ S) ∧ T.Pairwise (Kle key) ∧ Sh key ([x] ++ R) T := by
  rw [symF, if_pos (show m - a = 1 by omega)]
  obtain ⟨st, e, h1, h2, h3, h4⟩ := bs_spec (fun h => klt key (g z (P ++ ([x] ++ (R ++ S))) h) (g z (P ++ ([x] ++ (R ++ S))) a)) (b - m) m b (by omega) (Nat.le_refl _)
  dsimp only
  rw [e]
  have ga : g z (P ++ ([x] ++ (R ++ S))) a = x := gL z P [x] (R ++ S) a 0 (by omega) (by simp)
  rw [ga] at h3 h4
  obtain ⟨j, rfl⟩ : ∃ j, st = m + j := ⟨st - m, by omega⟩
  have hT := take_all hR j (key x - 1) (by
    rcases h3 with h | ⟨h, h3⟩
    · exact Or.inl (by omega)
    · refine Or.inr ⟨by omega, ?_⟩
      rw [gR z P [x] R S (m + j - 1) (j - 1) (by simp; omega) (by omega)] at h3
      have := of_decide_eq_true h3
      omega)
  have hD := drop_all hR j (key x) (by
    rcases h4 with h | ⟨h, h4⟩
    · exact Or.inl (by omega)
    · refine Or.inr ⟨by omega, ?_⟩
      rw [gR z P [x] R S (m + j) j (by simp; omega) (by omega)] at h4
      have := of_decide_eq_false h4
      omega)
  have hR2 : R = R.take j ++ R.drop j := (List.take_append_drop j R).symm
  have hu := up_dec z x (R.drop j ++ S) (R.take j) P a (m + j - 1 - a) ha (by rw [List.length_take]; omega)
  rw [← List.append_assoc (R.take j), ← hR2] at hu
  refine ⟨R.take j ++ ([x] ++ R.drop j), by rw [show [x] ++ (R ++ S) = x :: (R ++ S) from rfl, hu]; simp, ?_, ?_⟩
  · refine sorted_append (hR.sublist (List.take_sublist _ _)) (sorted_append (List.pairwise_singleton _ _) (hR.sublist (List.drop_sublist _ _)) fun u hu v hv => ?_) fun u hu v hv => ?_
    · have hu : u = x := by simpa using hu
      subst hu
      exact hD v hv
    · have h1 := hT u hu
      rcases List.mem_append.1 hv with h | h
      · have : v = x := by simpa using h
        subst this; omega
      · have := hD v h; omega
  · have s1 : Sh key ([x] ++ R.take j ++ R.drop j) (R.take j ++ [x] ++ R.drop j) := (Sh.swap fun u hu v hv => by
      have hu : u = x := by simpa using hu
      subst hu
      have := hT v hv
      omega).append (Sh.refl _)
    rw [List.append_assoc, ← hR2, List.append_assoc] at s1
    exact s1
theorem symF_last (z : α) (f : Nat) (P L S : List α) (y : α) (a m b : Nat) (ha : a = P.length) (hm : m = a + L.length) (hb : b = m + 1) (h2L : ¬ L.length = 1) (hL : L.Pairwise (Kle key)) :
    ∃ T, symF z (klt key) (f + 1) a m b (P ++ (L ++ ([y] ++ S))) = P ++ (T ++ S) ∧ T.Pairwise (Kle key) ∧ Sh key (L ++ [y]) T := by
  rw [symF, if_neg (show ¬ m - a = 1 by omega), if_pos (show b - m = 1 by omega)]
  obtain ⟨st, e, h1, h2, h3, h4⟩ := bs_spec (fun h => !klt key (g z (P ++ (L ++ ([y] ++ S))) m) (g z (P ++ (L ++ ([y] ++ S))) h)) (m - a) a m (by omega) (Nat.le_refl _)
  dsimp only
  rw [e]
  have gm : g z (P ++ (L ++ ([y] ++ S))) m = y := gR z P L [y] S m 0 (by omega) (by simp)
  rw [gm] at h3 h4
  obtain ⟨j, rfl⟩ : ∃ j, st = a + j := ⟨st - a, by omega⟩
  have hT := take_all hL j (key y) (by
    rcases h3 with h | ⟨h, h3⟩
    · exact Or.inl (by omega)
    · refine Or.inr ⟨by omega, ?_⟩
      rw [gL z P L ([y] ++ S) (a + j - 1) (j - 1) (by omega) (by omega)] at h3
      have := of_decide_eq_false (show decide (key y < key L[j - 1]) = false by simpa [klt] using h3)
      omega)
  have hD := drop_all hL j (key y + 1) (by
    rcases h4 with h | ⟨h, h4⟩
    · exact Or.inl (by omega)
    · refine Or.inr ⟨by omega, ?_⟩
      rw [gL z P L ([y] ++ S) (a + j) j (by omega) (by omega)] at h4
      have := of_decide_eq_true (show decide (key y < key L[j]) = true by simpa [klt] using h4)
      omega)
  have hL2 : L = L.take j ++ L.drop j := (List.take_append_drop j L).symm
  have hu := dn_dec z y (P ++ L.take j) (a + j) (by rw [List.length_append, List.length_take]; omega) m (L.drop j) S (by rw [List.length_drop]; omega)
  simp only [List.append_assoc] at hu
  rw [← List.append_assoc (L.take j), ← hL2] at hu
  refine ⟨L.take j ++ ([y] ++ L.drop j), by rw [show [y] ++ S = y :: S from rfl, hu]; simp, ?_, ?_⟩
  · refine sorted_append (hL.sublist (List.take_sublist _ _)) (sorted_append (List.pairwise_singleton _ _) (hL.sublist (List.drop_sublist _ _)) fun u hu v hv => ?_) fun u hu v hv => ?_
    · have hu : u = y := by simpa using hu
      subst hu
      have := hD v hv; omega
    · have h1 := hT u hu
      rcases List.mem_append.1 hv with h | h
      · have : v = y := by simpa using h
        subst this; exact h1
      · have := hD v h; omega
  · have s1 : Sh key (L.take j ++ (L.drop j ++ [y])) (L.take j ++ ([y] ++ L.drop j)) := (Sh.refl _).append (Sh.swap fun q hq v hv => by
      have hv : v = y := by simpa using hv
      have := hD q hq
      rw [hv]
      omega)
    rw [← List.append_assoc (L.take j), ← hL2] at s1
    exact s1
theorem symF_spec (z : α) : ∀ (f : Nat) (P L R S : List α) (a m b : Nat), a = P.length → m = a + L.length → b = m + R.length → 0 < L.length → 0 < R.length → L.length + R.length ≤ f → L.Pairwise (Kle key) → R.Pairwise (Kle key) →
    ∃ T, symF z (klt key) f a m b (P ++ (L ++ (R ++ S))) = P ++ (T ++ S) ∧ T.Pairwise (Kle key) ∧ Sh key (L ++ R) T
  | 0, P, L, R, S, a, m, b, ha, hm, hb, hl, hr, hf, hL, hR => by omega
  | f + 1, P, L, R, S, a, m, b, ha, hm, hb, hl, hr, hf, hL, hR => by
    by_cases c1 : L.length = 1
    · obtain ⟨x, rfl⟩ := List.length_eq_one_iff.1 c1
      exact symF_one z f P R S x a m b ha hm hb hR
    by_cases c2 : R.length = 1
    · obtain ⟨y, rfl⟩ := List.length_eq_one_iff.1 c2
      exact symF_last z f P L S y a m b ha hm hb c1 hL
    rw [symF, if_neg (show ¬ m - a = 1 by omega), if_neg (show ¬ b - m = 1 by omega)]
    dsimp only
    obtain ⟨mid, hmid⟩ : ∃ mid, (a + b) / 2 = mid := ⟨_, rfl⟩
    rw [hmid]
    obtain ⟨s0, hs0⟩ : ∃ s0, (if mid < m then mid + m - b else a) = s0 := ⟨_, rfl⟩
    obtain ⟨r0, hr0⟩ : ∃ r0, (if mid < m then mid else m) = r0 := ⟨_, rfl⟩
    rw [hs0, hr0]
    have bnd : a ≤ s0 ∧ s0 ≤ r0 ∧ r0 ≤ m ∧ r0 ≤ mid ∧ mid + m - b ≤ s0 ∧ (s0 = a ∨ mid + m - s0 = b) ∧ (r0 = m ∨ r0 = mid) := by
      by_cases c : mid < m
      · rw [if_pos c] at hs0 hr0; omega
      · rw [if_neg c] at hs0 hr0; omega
    obtain ⟨b1, b2, b3, b4, b5, b6, b7⟩ := bnd
    obtain ⟨st, e, h1, h2, h3, h4⟩ := bs_spec (fun h => !klt key (g z (P ++ (L ++ (R ++ S))) (mid + m - 1 - h)) (g z (P ++ (L ++ (R ++ S))) h)) (r0 - s0) s0 r0 b2 (Nat.le_refl _)
    rw [e]
    obtain ⟨u, hu⟩ : ∃ u, st = a + u := ⟨st - a, by omega⟩
    obtain ⟨v, hv⟩ : ∃ v, mid + m - st = m + v := ⟨mid - st, by omega⟩
    rw [hv]
    have huL : u ≤ L.length := by omega
    have hvR : v ≤ R.length := by omega
    have hL2 : L = L.take u ++ L.drop u := (List.take_append_drop u L).symm
    have hR2 : R = R.take v ++ R.drop v := (List.take_append_drop v R).symm

    have o1 : ∀ x ∈ L.take u, ∀ y ∈ R.drop v, key x ≤ key y := by
      intro x hx y hy
      rcases h3 with h | ⟨h, h3⟩
      · rcases b6 with b6 | b6
        · have : u = 0 := by omega
          subst this
          simp at hx
        · have : R.length ≤ v := by omega
          rw [List.drop_of_length_le this] at hy
          simp at hy
      · have hv2 : v < R.length := by omega
        have hu2 : u - 1 < L.length := by omega
        rw [gR z P L R S (mid + m - 1 - (st - 1)) v (by omega) hv2, gL z P L (R ++ S) (st - 1) (u - 1) (by omega) hu2] at h3
        have h5 := of_decide_eq_false (show decide (key R[v] < key L[u - 1]) = false by simpa [klt] using h3)
        have h6 := take_all hL u (key L[u - 1]) (Or.inr ⟨hu2, Int.le_refl _⟩) x hx
        have h7 := drop_all hR v (key R[v]) (Or.inr ⟨hv2, Int.le_refl _⟩) y hy
        omega
    have o2 : ∀ x ∈ L.drop u, ∀ y ∈ R.take v, key y < key x := by
      intro x hx y hy
      rcases h4 with h | ⟨h, h4⟩
      · rcases b7 with b7 | b7
        · have : L.length ≤ u := by omega
          rw [List.drop_of_length_le this] at hx
          simp at hx
        · have : v = 0 := by omega
          subst this
          simp at hy
      · have hv2 : v - 1 < R.length := by omega
        have hu2 : u < L.length := by omega
        rw [gR z P L R S (mid + m - 1 - st) (v - 1) (by omega) hv2, gL z P L (R ++ S) st u (by omega) hu2] at h4
        have h5 := of_decide_eq_true (show decide (key R[v - 1] < key L[u]) = true by simpa [klt] using h4)
        have h6 := drop_all hL u (key L[u]) (Or.inr ⟨hu2, Int.le_refl _⟩) x hx
        have h7 := take_all hR v (key R[v - 1]) (Or.inr ⟨hv2, Int.le_refl _⟩) y hy
        omega
    have l1 : (L.take u).length = u := by rw [List.length_take]; omega
    have l2 : (L.drop u).length = L.length - u := List.length_drop ..
    have l3 : (R.take v).length = v := by rw [List.length_take]; omega
    have l4 : (R.drop v).length = R.length - v := List.length_drop ..
    have hL1 := hL.sublist (List.take_sublist u L)
    have hLd := hL.sublist (List.drop_sublist u L)
    have hR1 := hR.sublist (List.take_sublist v R)
    have hRd := hR.sublist (List.drop_sublist v R)
    have hsame : Sh key (L ++ R) ((L.take u ++ R.take v) ++ (L.drop u ++ R.drop v)) := by
      have : Sh key (L.take u ++ ((L.drop u ++ R.take v) ++ R.drop v)) (L.take u ++ ((R.take v ++ L.drop u) ++ R.drop v)) := (Sh.refl _).append ((Sh.swap fun x hx y hy => by have := o2 x hx y hy; omega).append (Sh.refl _))
      have e1 : L.take u ++ ((L.drop u ++ R.take v) ++ R.drop v) = L ++ R := by
        rw [← List.append_assoc, ← List.append_assoc, ← hL2, List.append_assoc, ← hR2]
      rw [e1] at this
      simpa [List.append_assoc] using this
    have hxs : P ++ (L ++ (R ++ S)) = P ++ (L.take u ++ (L.drop u ++ (R.take v ++ (R.drop v ++ S)))) := by
      rw [← List.append_assoc (R.take v), ← hR2, ← List.append_assoc (L.take u), ← hL2]
    generalize L.take u = L1 at *
    generalize L.drop u = L2 at *
    generalize R.take v = R1 at *
    generalize R.drop v = R2 at *
    have hx1 : (if st < m ∧ m < m + v then rotF z m (m + v - st) (m - st) (m + v - m) (P ++ (L ++ (R ++ S))) else P ++ (L ++ (R ++ S))) = P ++ (L1 ++ (R1 ++ (L2 ++ (R2 ++ S)))) := by
      rw [hxs]
      by_cases c : st < m ∧ m < m + v
      · rw [if_pos c]
        have := rotF_dec z S m (m + v - st) (P ++ L1) L2 R1 (m - st) (m + v - m) (by omega) (by omega) (by simp; omega) (by omega) (by omega) (by omega) (R2 ++ S)
        simpa [List.append_assoc] using this
      · rw [if_neg c]
        by_cases c3 : L2 = []
        · subst c3; simp
        · have : R1 = [] := List.length_eq_zero_iff.1 (by have := List.length_pos_iff.2 c3; omega)
          subst this; simp
    rw [hx1]
    have hx2 : ∃ T1, (if a < st ∧ st < mid then symF z (klt key) f a st mid (P ++ (L1 ++ (R1 ++ (L2 ++ (R2 ++ S))))) else P ++ (L1 ++ (R1 ++ (L2 ++ (R2 ++ S))))) = P ++ (T1 ++ (L2 ++ (R2 ++ S))) ∧ T1.Pairwise (Kle key) ∧ Sh key (L1 ++ R1) T1 := by
      by_cases c : a < st ∧ st < mid
      · rw [if_pos c]
        exact symF_spec z f P L1 R1 (L2 ++ (R2 ++ S)) a st mid ha (by omega) (by omega) (by omega) (by omega) (by omega) hL1 hR1
      · rw [if_neg c]
        by_cases c3 : L1 = []
        · subst c3; exact ⟨R1, by simp, hR1, Sh.refl _⟩
        · have : R1 = [] := List.length_eq_zero_iff.1 (by have := List.length_pos_iff.2 c3; omega)
          subst this
          exact ⟨L1, by simp, hL1, by rw [List.append_nil]; exact Sh.refl _⟩
    obtain ⟨T1, e2, t1, t2⟩ := hx2
    rw [e2]
    have lt1 := t2.length
    rw [List.length_append] at lt1
    have hx3 : ∃ T2, (if mid < m + v ∧ m + v < b then symF z (klt key) f mid (m + v) b (P ++ (T1 ++ (L2 ++ (R2 ++ S)))) else P ++ (T1 ++ (L2 ++ (R2 ++ S)))) = P ++ (T1 ++ (T2 ++ S)) ∧ T2.Pairwise (Kle key) ∧ Sh key (L2 ++ R2) T2 := by
      by_cases c : mid < m + v ∧ m + v < b
      · rw [if_pos c]
        have := symF_spec z f (P ++ T1) L2 R2 S mid (m + v) b (by simp; omega) (by omega) (by omega) (by omega) (by omega) (by omega) hLd hRd
        simpa [List.append_assoc] using this
      · rw [if_neg c]
        by_cases c3 : L2 = []
        · subst c3; exact ⟨R2, by simp, hRd, Sh.refl _⟩
        · have : R2 = [] := List.length_eq_zero_iff.1 (by have := List.length_pos_iff.2 c3; omega)
          subst this
          exact ⟨L2, by simp, hLd, by rw [List.append_nil]; exact Sh.refl _⟩
    obtain ⟨T2, e3, t3, t4⟩ := hx3
    rw [e3]
    refine ⟨T1 ++ T2, by simp, sorted_append t1 t3 fun x hx y hy => ?_, hsame.trans (t2.append t4)⟩
    rcases List.mem_append.1 (t2.mem.1 hx) with hx | hx
    · rcases List.mem_append.1 (t4.mem.1 hy) with hy | hy
      · rw [hL2] at hL
        exact (List.pairwise_append.1 hL).2.2 x hx y hy
      · exact o1 x hx y hy
    · rcases List.mem_append.1 (t4.mem.1 hy) with hy | hy
      · exact Int.le_of_lt (o2 y hy x hx)
      · rw [hR2] at hR
        exact (List.pairwise_append.1 hR).2.2 x hx y hy
inductive Chunks (key : α → Int) (bz : Nat) : List α → Prop
  | last (X : List α) (h : X.length ≤ bz) (hs : X.Pairwise (Kle key)) : Chunks key bz X
  | cons (X Y : List α) (h : X.length = bz) (hs : X.Pairwise (Kle key)) (hY : Chunks key bz Y) : Chunks key bz (X ++ Y)
theorem blkF_spec (z : α) (bz n : Nat) (hz : 0 < bz) : ∀ (d : Nat) (P X : List α) (a : Nat), a = P.length → n = a + X.length → X.length ≤ d * bz → ∃ T, blkF z (klt key) bz n d a (P ++ X) = P ++ T ∧ Chunks key bz T ∧ Sh key X T
  | 0, P, X, a, ha, hn, hd => by
    have : X = [] := List.length_eq_zero_iff.1 (by omega)
    subst this
    obtain ⟨T, t1, t2, t3⟩ := insF_spec (key := key) z P [] [] a n ha hn
    simp only [List.append_nil] at t1
    exact ⟨T, by rw [blkF, List.append_nil, t1], Chunks.last T (by rw [← t3.length]; exact Nat.zero_le _) t2, t3⟩
  | d + 1, P, X, a, ha, hn, hd => by
    rw [blkF]
    rw [Nat.succ_mul] at hd
    by_cases c : a + bz ≤ n
    · rw [if_pos c]
      have hX : X = X.take bz ++ X.drop bz := (List.take_append_drop bz X).symm
      have l1 : (X.take bz).length = bz := by rw [List.length_take]; omega
      have l2 : (X.drop bz).length = X.length - bz := List.length_drop ..
      obtain ⟨T, t1, t2, t3⟩ := insF_spec (key := key) z P (X.take bz) (X.drop bz) a (a + bz) ha (by omega)
      rw [← hX] at t1
      rw [t1]
      have hl := t3.length
      obtain ⟨T2, u1, u2, u3⟩ := blkF_spec z bz n hz d (P ++ T) (X.drop bz) (a + bz) (by simp; omega) (by omega) (by omega)
      rw [List.append_assoc] at u1
      refine ⟨T ++ T2, by rw [u1, List.append_assoc], Chunks.cons T T2 (by omega) t2 u2, ?_⟩
      have := t3.append u3
      rwa [← hX] at this
    · rw [if_neg c]
      obtain ⟨T, t1, t2, t3⟩ := insF_spec (key := key) z P X [] a n ha hn
      simp only [List.append_nil] at t1
      exact ⟨T, t1, Chunks.last T (by rw [← t3.length]; omega) t2, t3⟩
theorem chunks_short {bz : Nat} {X : List α} (h : Chunks key bz X) (hl : X.length ≤ bz) : X.Pairwise (Kle key) := by
  cases h with
  | last _ _ hs => exact hs
  | cons X Y h hs hY =>
    have : Y = [] := List.length_eq_zero_iff.1 (by rw [List.length_append] at hl; omega)
    subst this
    rwa [List.append_nil]
theorem chunks_long {bz : Nat} {X : List α} (h : Chunks key bz X) (hl : bz ≤ X.length) : (X.take bz).Pairwise (Kle key) ∧ Chunks key bz (X.drop bz) := by
  cases h with
  | last _ h hs =>
    refine ⟨hs.sublist (List.take_sublist _ _), ?_⟩
    rw [List.drop_of_length_le h]
    exact Chunks.last [] (Nat.zero_le _) List.Pairwise.nil
  | cons X Y h hs hY =>
    subst h
    rw [List.take_left, List.drop_left]
    exact ⟨hs, hY⟩
theorem mrgF_spec (z : α) (bz n : Nat) (hz : 0 < bz) : ∀ (d : Nat) (P X : List α) (a : Nat), a = P.length → n = a + X.length → X.length ≤ d → Chunks key bz X → ∃ T, mrgF z (klt key) bz n d a (P ++ X) = P ++ T ∧ Chunks key (2 * bz) T ∧ Sh key X T
  | 0, P, X, a, ha, hn, hd, hc => by
    have : X = [] := List.length_eq_zero_iff.1 (by omega)
    subst this
    exact ⟨[], rfl, Chunks.last [] (Nat.zero_le _) List.Pairwise.nil, Sh.refl _⟩
  | d + 1, P, X, a, ha, hn, hd, hc => by
    rw [mrgF]
    have hX : X = X.take bz ++ X.drop bz := (List.take_append_drop bz X).symm
    have l2 : (X.drop bz).length = X.length - bz := List.length_drop ..
    by_cases c : a + 2 * bz ≤ n
    · rw [if_pos c]
      obtain ⟨s1, c1⟩ := chunks_long hc (by omega)
      obtain ⟨s2, c2⟩ := chunks_long c1 (by omega)
      have l1 : (X.take bz).length = bz := by rw [List.length_take]; omega
      have hY : X.drop bz = (X.drop bz).take bz ++ (X.drop bz).drop bz := (List.take_append_drop bz _).symm
      have l3 : ((X.drop bz).take bz).length = bz := by rw [List.length_take]; omega
      have l4 : ((X.drop bz).drop bz).length = (X.drop bz).length - bz := List.length_drop ..
      rw [hY] at hX
      generalize X.take bz = X1 at *
      generalize (X.drop bz).take bz = X2 at *
      generalize (X.drop bz).drop bz = X3 at *
      subst hX
      obtain ⟨T, t1, t2, t3⟩ := symF_spec z (2 * bz) P X1 X2 X3 a (a + bz) (a + 2 * bz) ha (by omega) (by omega) (by omega) (by omega) (by omega) s1 s2
      rw [t1]
      have hl := t3.length
      rw [List.length_append] at hl
      simp only [List.length_append] at hn hd
      obtain ⟨T2, u1, u2, u3⟩ := mrgF_spec z bz n hz d (P ++ T) X3 (a + 2 * bz) (by simp; omega) (by omega) (by omega) c2
      rw [List.append_assoc] at u1
      refine ⟨T ++ T2, by rw [u1, List.append_assoc], Chunks.cons T T2 (by omega) t2 u2, ?_⟩
      have := t3.append u3
      rwa [List.append_assoc] at this
    · rw [if_neg c]
      by_cases c2 : a + bz < n
      · rw [if_pos c2]
        obtain ⟨s1, c1⟩ := chunks_long hc (by omega)
        have s2 := chunks_short c1 (by omega)
        have l1 : (X.take bz).length = bz := by rw [List.length_take]; omega
        obtain ⟨T, t1, t2, t3⟩ := symF_spec z (n - a) P (X.take bz) (X.drop bz) [] a (a + bz) n ha (by omega) (by omega) (by omega) (by omega) (by omega) s1 s2
        simp only [List.append_nil] at t1
        rw [← hX] at t1 t3
        exact ⟨T, t1, Chunks.last T (by rw [← t3.length]; omega) t2, t3⟩
      · rw [if_neg c2]
        exact ⟨X, rfl, Chunks.last X (by omega) (chunks_short hc (by omega)), Sh.refl _⟩
theorem rndF_spec (z : α) (n : Nat) : ∀ (d bz : Nat) (X : List α), 0 < bz → n = X.length → n ≤ bz + d → Chunks key bz X → ∃ T, rndF z (klt key) n d bz X = T ∧ T.Pairwise (Kle key) ∧ Sh key X T
  | 0, bz, X, hz, hn, hd, hc => ⟨X, rfl, chunks_short hc (by omega), Sh.refl _⟩
  | d + 1, bz, X, hz, hn, hd, hc => by
    rw [rndF]
    by_cases c : bz < n
    · rw [if_pos c]
      obtain ⟨T, t1, t2, t3⟩ := mrgF_spec z bz n hz n [] X 0 rfl (by omega) (by omega) hc
      simp only [List.nil_append] at t1
      rw [t1]
      obtain ⟨T2, u1, u2, u3⟩ := rndF_spec z n d (bz * 2) T (by omega) (by rw [← t3.length]; exact hn) (by omega) (by rw [Nat.mul_comm]; exact t2)
      exact ⟨T2, u1, u2, t3.trans u3⟩
    · rw [if_neg c]
      exact ⟨X, rfl, chunks_short hc (by omega), Sh.refl _⟩
theorem stabF_spec (z : α) (X : List α) : (stabF z (klt key) X).Pairwise (Kle key) ∧ Sh key X (stabF z (klt key) X) := by
  unfold stabF
  obtain ⟨T, t1, t2, t3⟩ := blkF_spec (key := key) z 20 X.length (by decide) X.length [] X 0 rfl (by simp) (by omega)
  simp only [List.nil_append] at t1
  rw [t1]
  obtain ⟨T2, u1, u2, u3⟩ := rndF_spec z X.length X.length 20 T (by decide) t3.length (by omega) t2
  rw [u1]
  exact ⟨u2, t3.trans u3⟩
theorem stabF_eq (z : α) (X Y : List α) (hY : Y.Pairwise (Kle key)) (h : Sh key X Y) : stabF z (klt key) X = Y :=
  sh_unique _ _ (stabF_spec z X).1 hY ((stabF_spec z X).2.symm.trans h)
end
end Go.Proofs.Ytocndpddghefhaa.X.Srt
end
section
namespace Go.Proofs.Ytocndpddghefhaa.X
open Go.RowKit Go.Proofs.YtocndpddghefhaaW.PrintWords Go.Proofs.YtocndpddghefhaaW.PrintLast Go.Proofs.YtocndpddghefhaaW.PrintMore
attribute [local go_sem] max2_int min2_int max_two min_two max_three min_three max_four min_four
set_option linter.unusedVariables false
set_option linter.unusedSimpArgs false
structure SS (g c N : Nat) (w0 : World) (I : World → Prop) (Q : S49 → Prop) (w : World) (xs : List S49) : Prop where
  own : Kd.R k49 49 w w0.heap.size (fun _ => True) (.slice (some ⟨g, 0, none⟩) N c) xs
  len : xs.length = N
  below : Below w0.heap.size w0 w
  inv : I w
  all : ∀ x ∈ xs, Q x
theorem SS.max {g c N : Nat} {w0 w : World} {I : World → Prop} {Q : S49 → Prop} {xs : List S49} (h : SS g c N w0 I Q w xs) : N ≤ 9223372036854775807 := by
  have := Kd.C_max (Kd.R_reads' h.own).2.2
  rwa [h.len] at this
theorem SS.cell {g c N : Nat} {w0 w : World} {I : World → Prop} {Q : S49 → Prop} {xs : List S49} (h : SS g c N w0 I Q w xs) (i : Nat) (hi : i < N) : w.cell? ⟨g, (i) * 3, none⟩ = some (.int .i64 (Srt.g z49 xs i).f0) ∧ w.cell? ⟨g, (i) * 3 + 1, none⟩ = some (.int .i64 (Srt.g z49 xs i).f1) ∧ w.cell? ⟨g, (i) * 3 + 2, none⟩ = some (.int .i64 (Srt.g z49 xs i).f2) := by
  obtain ⟨ad, cs, e, hl, hK, hc⟩ := Kd.C_get (Kd.R_reads' h.own).2.2 z49 (i : Int) (by omega) (by rw [h.len]; omega)
  obtain rfl : (⟨g, 0, none⟩ : Addr) = ad := Option.some.inj e
  have hadd : ∀ k, (⟨g, 0, none⟩ : Addr).add k = ⟨g, k, none⟩ := fun k => by unfold Addr.add; split <;> simp_all
  simp only [hadd, Int.toNat_natCast] at hc
  rw [Int.toNat_natCast] at hK
  obtain rfl := k49_open hK
  have h0 := hc 0 _ rfl
  have h1 := hc 1 _ rfl
  have h2 := hc 2 _ rfl
  rw [show (k49).sz = 3 from rfl] at h0 h1 h2
  exact ⟨by simpa [Srt.g] using h0, by simpa [Srt.g] using h1, by simpa [Srt.g] using h2⟩
theorem SS.frozen {g c N : Nat} {w0 w : World} {I : World → Prop} {Q : S49 → Prop} {xs : List S49} (h : SS g c N w0 I Q w xs) (i k : Nat) (hi : i < N) : w.frozen? ⟨g, k, none⟩ = false := by
  obtain ⟨g', cap, e, _, _, cs, hb⟩ := Kd.R_form h.own (by rw [h.len]; omega)
  obtain rfl : g = g' := by injection e with e _ _; injection e with e; injection e
  exact blk_frozen hb k
theorem SS.there {g c N : Nat} {w0 w : World} {I : World → Prop} {Q : S49 → Prop} {xs : List S49} (h : SS g c N w0 I Q w xs) (i : Nat) (hi : i < N) : w.there g (i * 3) 3 := by
  obtain ⟨h0, h1, h2⟩ := h.cell i hi
  intro j hj
  have : j = 0 ∨ j = 1 ∨ j = 2 := by omega
  rcases this with rfl | rfl | rfl
  · exact ⟨by rw [Nat.add_zero, h0]; rfl, h.frozen i _ hi⟩
  · exact ⟨by rw [h1]; rfl, h.frozen i _ hi⟩
  · exact ⟨by rw [h2]; rfl, h.frozen i _ hi⟩
theorem w64m {j N : Nat} (h : j < N) (hN : N ≤ 9223372036854775807) : Go.RowKit.wrap64 (j : Int) = (j : Int) := by unfold Go.RowKit.wrap64; omega
theorem all3 (a b c : Int) : (#[Value.int .i64 a, Value.int .i64 b, Value.int .i64 c].all fun x => x.oneCell') = true := by
  have h : ∀ z : Int, (Value.int .i64 z).oneCell' = true := fun _ => rfl
  simp [h]
theorem store_run {a : Act} {o : Oper} {t : TypeId} {p x : Operand} {b off : Nat} {cells : Array Value} {w w1 : World} (ho : o.op = .store t p x) (hp : a.eval p = .pointer (some ⟨b, off, none⟩)) (hx : a.eval x = .agg cells) (hs : (storeVar t ⟨b, off, none⟩ (.agg cells)).run Try.prog w = .ok () w1) : (execOp a.eval o).run Try.prog w = .ok .skip w1 := by
  unfold execOp
  simp only [ho, hp, hx, Instr.storeAt, Instr.sureAddr, Sem.run_bind, Sem.run_pure, Result.andThen_ok, hs]
theorem info_size : (Try.prog.info? 49).map (·.size) = some 3 := by
  have := info49
  cases h : Try.prog.info? 49 with
  | none => rw [h] at this; simp at this
  | some i => rw [h] at this; simp at this ⊢; exact this.2.1
structure Stays (g : Nat) (I : World → Prop) : Prop where
  below : ∀ {w w' : World}, I w → Below w.heap.size w w' → I w'
  grown : ∀ {w w' : World}, I w → w.grownBy w' (some g) → I w'
theorem SS.step {g c N : Nat} {w0 w w' : World} {I : World → Prop} {Q : S49 → Prop} {xs : List S49} (h : SS g c N w0 I Q w xs) (hI : Stays g I) (hb : Below w.heap.size w w') : SS g c N w0 I Q w' xs :=
  ⟨Kd.R_below h.own hb, h.len, below_step h.below hb, hI.below h.inv hb, h.all⟩
theorem SS.set1 {g c N : Nat} {w0 w : World} {I : World → Prop} {Q : S49 → Prop} {xs : List S49} (h : SS g c N w0 I Q w xs) (hI : Stays g I) (i : Nat) (hi : i < N) (v : S49) (hv : Q v) : SS g c N w0 I Q ((w).setCells g ((i) * 3) [.int .i64 (v).f0, .int .i64 (v).f1, .int .i64 (v).f2]) (xs.set i v) := by
  obtain ⟨ad, cs, e, hl, hK, hc⟩ := Kd.C_get (Kd.R_reads' h.own).2.2 z49 (i : Int) (by omega) (by rw [h.len]; omega)
  obtain rfl : (⟨g, 0, none⟩ : Addr) = ad := Option.some.inj e
  have hadd : ∀ k, (⟨g, 0, none⟩ : Addr).add k = ⟨g, k, none⟩ := fun k => by unfold Addr.add; split <;> simp_all
  simp only [hadd] at hc
  obtain ⟨h1, h2⟩ := Kd.R_seg (okp := fun _ => False) (j := 0) (seg := [.int .i64 (v).f0, .int .i64 (v).f1, .int .i64 (v).f2]) (x' := v) h.own (i : Int) (by omega) (by omega) hl hc (show 0 + 3 ≤ 3 from Nat.le_refl _) (by
    rw [List.take_zero, List.nil_append, List.drop_of_length_le (by rw [hl]; exact (show 3 ≤ 0 + 3 from Nat.le_refl _)), List.append_nil]
    exact k49_mkM _ _ _ _) (fun _ h => h.elim)
  rw [Int.toNat_natCast] at h1 h2
  have hE : w.setCells g (i * Kd.sz k49 + 0) [.int .i64 (v).f0, .int .i64 (v).f1, .int .i64 (v).f2] = (w).setCells g ((i) * 3) [.int .i64 (v).f0, .int .i64 (v).f1, .int .i64 (v).f2] := by rw [show (k49).sz = 3 from rfl]; rfl
  rw [hE] at h1 h2
  have hg : w0.heap.size ≤ g := Kd.R_base h.own g (by simp [Value.ownBlock])
  refine ⟨h1, by rw [List.length_set, h.len], h.below.trans ⟨h2.os, h2.tape, h2.output, h2.size, fun k hk => by rw [← hE]; exact setCells_far _ _ k (by omega)⟩, hI.grown h.inv h2, fun x hx => ?_⟩
  rcases List.mem_or_eq_of_mem_set hx with e | e
  · exact h.all x e
  · rw [e]; exact hv
theorem SS.qg {g c N : Nat} {w0 w : World} {I : World → Prop} {Q : S49 → Prop} {xs : List S49} (h : SS g c N w0 I Q w xs) (i : Nat) (hi : i < N) : Q (Srt.g z49 xs i) := by
  have hi2 : i < xs.length := by rw [h.len]; exact hi
  unfold Srt.g
  rw [List.getD_eq_getElem?_getD, List.getElem?_eq_getElem hi2]
  exact h.all _ (List.getElem_mem hi2)
theorem SS.swap {g c N : Nat} {w0 w : World} {I : World → Prop} {Q : S49 → Prop} {xs : List S49} (h : SS g c N w0 I Q w xs) (hI : Stays g I) (i j : Nat) (hi : i < N) (hj : j < N) : SS g c N w0 I Q (((w).setCells g ((i) * 3) [.int .i64 ((Srt.g z49 xs j)).f0, .int .i64 ((Srt.g z49 xs j)).f1, .int .i64 ((Srt.g z49 xs j)).f2]).setCells g ((j) * 3) [.int .i64 ((Srt.g z49 xs i)).f0, .int .i64 ((Srt.g z49 xs i)).f1, .int .i64 ((Srt.g z49 xs i)).f2]) (Srt.sw z49 xs i j) :=
  (h.set1 hI i hi _ (h.qg j hj)).set1 hI j hj _ (h.qg i hi)
set_option maxHeartbeats 1600000 in
set_option maxRecDepth 100000 in
theorem swapR_calls (g c N : Nat) (w0 : World) (I : World → Prop) (Q : S49 → Prop) (a b n : Nat) (xs0 : List S49) (fv : Value) (w : World) (hI : Stays g I) (h : SS g c N w0 I Q w xs0) (hab : a + n ≤ b) (hbn : b + n ≤ N) :
    Calls Try.prog 110 #[.slice (some ⟨g, 0, none⟩) N c, .int .i64 (a : Int), .int .i64 (b : Int), .int .i64 (n : Int), fv] w fun e w' => (∃ r, e = .returned r) ∧ SS g c N w0 I Q w' (Srt.swapF z49 a b n 0 xs0) := by
  have HS := Aside0.mk h
  have hN := h.max
  clear h
  go_enter Try.func110, Try.ntmps110
  go_wp2_with fail
  go_loopg [10] n (fun kq v10 wr => ∃ (i : Nat) (xs : List S49), v10 = .int .i64 (i : Int) ∧ Aside0 (kq + i = n) ∧ Aside0 (Srt.swapF z49 a b kq i xs = Srt.swapF z49 a b n 0 xs0) ∧ Aside0 (SS g c N w0 I Q wr xs))
  case atStart => exact ⟨0, xs0, rfl, ⟨by omega⟩, ⟨rfl⟩, HS⟩
  case round =>
    obtain ⟨i, xs, rfl, HK, HF, HW⟩ := hrel
    by_cases hlt : i < n
    · obtain ⟨k', rfl⟩ : ∃ k', gk = k' + 1 := ⟨gk - 1, by have := HK.out; omega⟩
      have hg : Srt.swapF z49 a b k' (i + 1) (Srt.sw z49 xs (a + i) (b + i)) = Srt.swapF z49 a b n 0 xs0 := HF.out
      have HG := Aside0.mk hg
      have hi1 : a + i < N := by omega
      have hi2 : b + i < N := by omega
      clear hg
      obtain ⟨P1_, hP1⟩ : ∃ P1_, a + i = P1_ := ⟨_, rfl⟩
      have hQ1 : ((a : Int) + (i : Int)) = (P1_ : Int) := by omega
      have HP1 := Aside0.mk hP1
      rw [hP1] at hi1
      clear hP1
      obtain ⟨P2_, hP2⟩ : ∃ P2_, b + i = P2_ := ⟨_, rfl⟩
      have hQ2 : ((b : Int) + (i : Int)) = (P2_ : Int) := by omega
      have HP2 := Aside0.mk hP2
      rw [hP2] at hi2
      clear hP2
      have ht1 := eq_true (show 0 ≤ (P1_ : Int) by omega)
      have hr1 := eq_true (show (P1_ : Int) < (N : Int) by omega)
      have ht2 := eq_true (show 0 ≤ (P2_ : Int) by omega)
      have hr2 := eq_true (show (P2_ : Int) < (N : Int) by omega)
      have hu1 := w64m hi1 (by omega)
      have hu2 := w64m hi2 (by omega)
      have hx := HW.out.cell (P1_) hi1
      have hy := HW.out.cell (P2_) hi2
      have HD := HW.out.step hI (below_drew1 (Below.refl _ _))
      have HA := HD.set1 hI (P1_) hi1 _ (HW.out.qg (P2_) hi2)
      have HX := Aside0.mk (HA.set1 hI (P2_) hi2 _ (HW.out.qg (P1_) hi1))
      have hs1 := Aside0.mk (run_storeVar_mid (P := Try.prog) _ g ((P1_) * 3) 49 #[.int .i64 ((Srt.g z49 xs (P2_))).f0, .int .i64 ((Srt.g z49 xs (P2_))).f1, .int .i64 ((Srt.g z49 xs (P2_))).f2] (HD.there (P1_) hi1) (by rw [info_size]; rfl) (all3 _ _ _))
      have hs2 := Aside0.mk (run_storeVar_mid (P := Try.prog) _ g ((P2_) * 3) 49 #[.int .i64 ((Srt.g z49 xs (P1_))).f0, .int .i64 ((Srt.g z49 xs (P1_))).f1, .int .i64 ((Srt.g z49 xs (P1_))).f2] (HA.there (P2_) hi2) (by rw [info_size]; rfl) (all3 _ _ _))
      clear HD HA
      go_wp2_with fail
      refine start_ (n := 24) (S := fun w' => w'.cell? ⟨g, (P1_) * 3, none⟩ = some (.int .i64 (Srt.g z49 xs (P1_)).f0) ∧ w'.cell? ⟨g, (P1_) * 3 + 1, none⟩ = some (.int .i64 (Srt.g z49 xs (P1_)).f1) ∧ w'.cell? ⟨g, (P1_) * 3 + 2, none⟩ = some (.int .i64 (Srt.g z49 xs (P1_)).f2) ∧ w'.cell? ⟨g, (P2_) * 3, none⟩ = some (.int .i64 (Srt.g z49 xs (P2_)).f0) ∧ w'.cell? ⟨g, (P2_) * 3 + 1, none⟩ = some (.int .i64 (Srt.g z49 xs (P2_)).f1) ∧ w'.cell? ⟨g, (P2_) * 3 + 2, none⟩ = some (.int .i64 (Srt.g z49 xs (P2_)).f2)) (ds := [21, 23]) #[false, false, false, false, false, false, false, false, false, false, false, false, false, false, false, false, false, false, false, false, false, false, false, false] (by kernel_rfl) rfl rfl ⟨hx.1, hx.2.1, hx.2.2, hy.1, hy.2.1, hy.2.2⟩ (fun hHeld => ?_)
      refine pure_ (i := 0) (N := some 16) (v := ?_) (a' := ?_) #[true, false, false, false, false, false, false, false, false, false, false, false, false, false, false, false, false, false, false, false, false, false, false, false] rfl rfl (by kernel_rfl) (fun _ _ _ h => h) (Or.inl ⟨by rfl, ?_⟩) ?_ ?_
      rotate_left
      · intro w'
        go_simp
        with_reducible rfl
      rotate_left
      · simp only [Act.put, List.setIfInBounds_toArray, List.set_cons_zero, List.set_cons_succ, i64_w, i32_w]
        rfl
      refine pure_ (i := 1) (N := some 17) (v := ?_) (a' := ?_) #[true, true, false, false, false, false, false, false, false, false, false, false, false, false, false, false, false, false, false, false, false, false, false, false] rfl rfl (by kernel_rfl) (fun _ _ _ h => h) (Or.inl ⟨by rfl, ?_⟩) ?_ ?_
      rotate_left
      · intro w'
        go_simp
        with_reducible rfl
      rotate_left
      · simp only [Act.put, List.setIfInBounds_toArray, List.set_cons_zero, List.set_cons_succ, i64_w, i32_w]
        rfl
      refine pure_ (i := 2) (N := some 18) (v := ?_) (a' := ?_) #[true, true, true, false, false, false, false, false, false, false, false, false, false, false, false, false, false, false, false, false, false, false, false, false] rfl rfl (by kernel_rfl) (fun _ _ _ h => h) (Or.inl ⟨by rfl, ?_⟩) ?_ ?_
      rotate_left
      · intro w'
        go_simp
        with_reducible rfl
      rotate_left
      · simp only [Act.put, List.setIfInBounds_toArray, List.set_cons_zero, List.set_cons_succ, i64_w, i32_w]
        rfl
      refine pure_ (i := 3) (N := some 19) (v := ?_) (a' := ?_) #[true, true, true, true, false, false, false, false, false, false, false, false, false, false, false, false, false, false, false, false, false, false, false, false] rfl rfl (by kernel_rfl) (fun _ _ _ h => h) (Or.inl ⟨by rfl, ?_⟩) ?_ ?_
      rotate_left
      · intro w'
        go_simp
        with_reducible rfl
      rotate_left
      · simp only [Act.put, List.setIfInBounds_toArray, List.set_cons_zero, List.set_cons_succ, i64_w, i32_w]
        rfl
      refine pure_ (i := 4) (N := some 20) (v := ?_) (a' := ?_) #[true, true, true, true, true, false, false, false, false, false, false, false, false, false, false, false, false, false, false, false, false, false, false, false] rfl rfl (by kernel_rfl) (fun _ _ _ h => h) (Or.inl ⟨by rfl, ?_⟩) ?_ ?_
      rotate_left
      · intro w'
        go_simp
        with_reducible rfl
      rotate_left
      · simp only [Act.put, List.setIfInBounds_toArray, List.set_cons_zero, List.set_cons_succ, i64_w, i32_w]
        rfl
      refine pure_ (i := 5) (N := some 21) (v := ?_) (a' := ?_) #[true, true, true, true, true, true, false, false, false, false, false, false, false, false, false, false, false, false, false, false, false, false, false, false] rfl rfl (by kernel_rfl) (fun _ _ _ h => h) (Or.inl ⟨by rfl, ?_⟩) ?_ ?_
      rotate_left
      · intro w'
        go_simp
        with_reducible rfl
      rotate_left
      · simp only [Act.put, List.setIfInBounds_toArray, List.set_cons_zero, List.set_cons_succ, i64_w, i32_w]
        rfl
      refine pure_ (i := 6) (N := some 22) (v := ?_) (a' := ?_) #[true, true, true, true, true, true, true, false, false, false, false, false, false, false, false, false, false, false, false, false, false, false, false, false] rfl rfl (by kernel_rfl) (fun _ _ _ h => h) (Or.inl ⟨by rfl, ?_⟩) ?_ ?_
      rotate_left
      · intro w'
        go_simp
        with_reducible rfl
      rotate_left
      · simp only [Act.put, List.setIfInBounds_toArray, List.set_cons_zero, List.set_cons_succ, i64_w, i32_w]
        rfl
      refine pure_ (i := 7) (N := some 23) (v := ?_) (a' := ?_) #[true, true, true, true, true, true, true, true, false, false, false, false, false, false, false, false, false, false, false, false, false, false, false, false] rfl rfl (by kernel_rfl) (fun _ _ _ h => h) (Or.inl ⟨by rfl, ?_⟩) ?_ ?_
      rotate_left
      · intro w'
        go_simp
        with_reducible rfl
      rotate_left
      · simp only [Act.put, List.setIfInBounds_toArray, List.set_cons_zero, List.set_cons_succ, i64_w, i32_w]
        rfl
      refine pure_ (i := 8) (N := some 24) (v := ?_) (a' := ?_) #[true, true, true, true, true, true, true, true, true, false, false, false, false, false, false, false, false, false, false, false, false, false, false, false] rfl rfl (by kernel_rfl) (fun _ _ _ h => h) (Or.inl ⟨by rfl, ?_⟩) ?_ ?_
      rotate_left
      · intro w'
        go_simp
        with_reducible rfl
      rotate_left
      · simp only [Act.put, List.setIfInBounds_toArray, List.set_cons_zero, List.set_cons_succ, i64_w, i32_w]
        rfl
      refine pure_ (i := 9) (N := some 25) (v := ?_) (a' := ?_) #[true, true, true, true, true, true, true, true, true, true, false, false, false, false, false, false, false, false, false, false, false, false, false, false] rfl rfl (by kernel_rfl) (fun _ _ _ h => h) (Or.inl ⟨by rfl, ?_⟩) ?_ ?_
      rotate_left
      · intro w'
        go_simp
        with_reducible rfl
      rotate_left
      · simp only [Act.put, List.setIfInBounds_toArray, List.set_cons_zero, List.set_cons_succ, i64_w, i32_w]
        rfl
      refine pure_ (i := 10) (N := some 26) (v := ?_) (a' := ?_) #[true, true, true, true, true, true, true, true, true, true, true, false, false, false, false, false, false, false, false, false, false, false, false, false] rfl rfl (by kernel_rfl) (fun _ _ _ h => h) (Or.inl ⟨by rfl, ?_⟩) ?_ ?_
      rotate_left
      · intro w'
        go_simp
        with_reducible rfl
      rotate_left
      · simp only [Act.put, List.setIfInBounds_toArray, List.set_cons_zero, List.set_cons_succ, i64_w, i32_w]
        rfl
      refine pure_ (i := 11) (N := some 27) (v := ?_) (a' := ?_) #[true, true, true, true, true, true, true, true, true, true, true, true, false, false, false, false, false, false, false, false, false, false, false, false] rfl rfl (by kernel_rfl) (fun _ _ _ h => h) (Or.inl ⟨by rfl, ?_⟩) ?_ ?_
      rotate_left
      · intro w'
        go_simp
        with_reducible rfl
      rotate_left
      · simp only [Act.put, List.setIfInBounds_toArray, List.set_cons_zero, List.set_cons_succ, i64_w, i32_w]
        rfl
      refine pure_ (i := 12) (N := some 28) (v := ?_) (a' := ?_) #[true, true, true, true, true, true, true, true, true, true, true, true, true, false, false, false, false, false, false, false, false, false, false, false] rfl rfl (by kernel_rfl) (fun _ _ _ h => h) (Or.inl ⟨by rfl, ?_⟩) ?_ ?_
      rotate_left
      · intro w'
        go_simp
        with_reducible rfl
      rotate_left
      · simp only [Act.put, List.setIfInBounds_toArray, List.set_cons_zero, List.set_cons_succ, i64_w, i32_w]
        rfl
      refine take_ (i := 13) (N := some 29) (v := ?_) (a' := ?_) #[true, true, true, true, true, true, true, true, true, true, true, true, true, true, false, false, false, false, false, false, false, false, false, false] rfl rfl (by kernel_rfl) (fun _ _ _ h => h) (Or.inl ⟨by rfl, ?_⟩) hHeld ?_ ?_
      rotate_left
      · rintro w' ⟨s0, s1, s2, s3, s4, s5⟩
        go_simp
        with_reducible rfl
      rotate_left
      · simp only [Act.put, List.setIfInBounds_toArray, List.set_cons_zero, List.set_cons_succ, i64_w, i32_w]
        rfl
      refine pure_ (i := 14) (N := some 30) (v := ?_) (a' := ?_) #[true, true, true, true, true, true, true, true, true, true, true, true, true, true, true, false, false, false, false, false, false, false, false, false] rfl rfl (by kernel_rfl) (fun _ _ _ h => h) (Or.inl ⟨by rfl, ?_⟩) ?_ ?_
      rotate_left
      · intro w'
        go_simp
        with_reducible rfl
      rotate_left
      · simp only [Act.put, List.setIfInBounds_toArray, List.set_cons_zero, List.set_cons_succ, i64_w, i32_w]
        rfl
      refine pure_ (i := 15) (N := some 31) (v := ?_) (a' := ?_) #[true, true, true, true, true, true, true, true, true, true, true, true, true, true, true, true, false, false, false, false, false, false, false, false] rfl rfl (by kernel_rfl) (fun _ _ _ h => h) (Or.inl ⟨by rfl, ?_⟩) ?_ ?_
      rotate_left
      · intro w'
        go_simp
        with_reducible rfl
      rotate_left
      · simp only [Act.put, List.setIfInBounds_toArray, List.set_cons_zero, List.set_cons_succ, i64_w, i32_w]
        rfl
      refine pure_ (i := 16) (N := some 32) (v := ?_) (a' := ?_) #[true, true, true, true, true, true, true, true, true, true, true, true, true, true, true, true, true, false, false, false, false, false, false, false] rfl rfl (by kernel_rfl) (fun _ _ _ h => h) (Or.inl ⟨by rfl, ?_⟩) ?_ ?_
      rotate_left
      · intro w'
        go_simp
        with_reducible rfl
      rotate_left
      · simp only [Act.put, List.setIfInBounds_toArray, List.set_cons_zero, List.set_cons_succ, i64_w, i32_w]
        rfl
      refine pure_ (i := 17) (N := some 33) (v := ?_) (a' := ?_) #[true, true, true, true, true, true, true, true, true, true, true, true, true, true, true, true, true, true, false, false, false, false, false, false] rfl rfl (by kernel_rfl) (fun _ _ _ h => h) (Or.inl ⟨by rfl, ?_⟩) ?_ ?_
      rotate_left
      · intro w'
        go_simp
        with_reducible rfl
      rotate_left
      · simp only [Act.put, List.setIfInBounds_toArray, List.set_cons_zero, List.set_cons_succ, i64_w, i32_w]
        rfl
      refine pure_ (i := 18) (N := some 34) (v := ?_) (a' := ?_) #[true, true, true, true, true, true, true, true, true, true, true, true, true, true, true, true, true, true, true, false, false, false, false, false] rfl rfl (by kernel_rfl) (fun _ _ _ h => h) (Or.inl ⟨by rfl, ?_⟩) ?_ ?_
      rotate_left
      · intro w'
        go_simp
        with_reducible rfl
      rotate_left
      · simp only [Act.put, List.setIfInBounds_toArray, List.set_cons_zero, List.set_cons_succ, i64_w, i32_w]
        rfl
      refine take_ (i := 19) (N := some 35) (v := ?_) (a' := ?_) #[true, true, true, true, true, true, true, true, true, true, true, true, true, true, true, true, true, true, true, true, false, false, false, false] rfl rfl (by kernel_rfl) (fun _ _ _ h => h) (Or.inl ⟨by rfl, ?_⟩) hHeld ?_ ?_
      rotate_left
      · rintro w' ⟨s0, s1, s2, s3, s4, s5⟩
        go_simp
        with_reducible rfl
      rotate_left
      · simp only [Act.put, List.setIfInBounds_toArray, List.set_cons_zero, List.set_cons_succ, i64_w, i32_w]
        rfl
      refine pure_ (i := 20) (N := some 36) (v := ?_) (a' := ?_) #[true, true, true, true, true, true, true, true, true, true, true, true, true, true, true, true, true, true, true, true, true, false, false, false] rfl rfl (by kernel_rfl) (fun _ _ _ h => h) (Or.inl ⟨by rfl, ?_⟩) ?_ ?_
      rotate_left
      · intro w'
        go_simp
        with_reducible rfl
      rotate_left
      · simp only [Act.put, List.setIfInBounds_toArray, List.set_cons_zero, List.set_cons_succ, i64_w, i32_w]
        rfl
      refine last_ (i := 21) (N := none) #[true, true, true, true, true, true, true, true, true, true, true, true, true, true, true, true, true, true, true, true, true, true, false, false] rfl rfl (by kernel_rfl) (by decide) (fun K hK => ?_)
      refine skip_ (w1 := _) (by rfl) rfl (store_run rfl rfl rfl hs1.out) ?_
      refine hK.out _ _ ?_
      clear hK K
      refine pure_ (i := 22) (N := some 37) (v := ?_) (a' := ?_) #[true, true, true, true, true, true, true, true, true, true, true, true, true, true, true, true, true, true, true, true, true, true, true, false] rfl rfl (by kernel_rfl) (fun _ _ _ h => h) (Or.inl ⟨by rfl, ?_⟩) ?_ ?_
      rotate_left
      · intro w'
        go_simp
        with_reducible rfl
      rotate_left
      · simp only [Act.put, List.setIfInBounds_toArray, List.set_cons_zero, List.set_cons_succ, i64_w, i32_w]
        rfl
      refine last_ (i := 23) (N := none) #[true, true, true, true, true, true, true, true, true, true, true, true, true, true, true, true, true, true, true, true, true, true, true, true] rfl rfl (by kernel_rfl) (by decide) (fun K hK => ?_)
      refine skip_ (w1 := _) (by rfl) rfl (store_run rfl rfl rfl hs2.out) ?_
      refine hK.out _ _ ?_
      clear hK K
      refine done_ (by kernel_rfl) ?_
      obtain ⟨X, hX⟩ : ∃ X, ((wr.drew).setCells g ((P1_) * 3) [.int .i64 ((Srt.g z49 xs (P2_))).f0, .int .i64 ((Srt.g z49 xs (P2_))).f1, .int .i64 ((Srt.g z49 xs (P2_))).f2]).setCells g ((P2_) * 3) [.int .i64 ((Srt.g z49 xs (P1_))).f0, .int .i64 ((Srt.g z49 xs (P1_))).f1, .int .i64 ((Srt.g z49 xs (P1_))).f2] = X := ⟨_, rfl⟩
      rw [hX] at HX ⊢
      clear hHeld hX hx hy hs1 hs2 hQ1 hu1 ht1 hr1 hQ2 hu2 ht2 hr2
      have HX := Aside0.mk (by have h := HX.out; rw [← HP1.out] at h; exact h)
      have HX := Aside0.mk (by have h := HX.out; rw [← HP2.out] at h; exact h)
      go_wp2
      go_roundg k'
      case measure => omega
      case rel => exact ⟨i + 1, _, by go_num, ⟨by have := HK.out; omega⟩, HG, HX⟩
    · obtain rfl : gk = 0 := by have := HK.out; omega
      have hg : xs = Srt.swapF z49 a b n 0 xs0 := HF.out
      have HG := Aside0.mk hg
      clear hg
      go_wp2_with fail
      refine ⟨rfl, .tuple #[], ?_, ⟨_, rfl⟩, ?_⟩
      · simp [results, Try.results110, go_sem]
      · rw [← HG.out]; exact HW.out
set_option maxHeartbeats 1600000 in
set_option maxRecDepth 100000 in
theorem rot_calls (g c N : Nat) (w0 : World) (I : World → Prop) (Q : S49 → Prop) (a m b : Nat) (xs0 : List S49) (fv : Value) (w : World) (hI : Stays g I) (h : SS g c N w0 I Q w xs0) (ham : a < m) (hmb : m < b) (hbN : b ≤ N) :
    Calls Try.prog 108 #[.slice (some ⟨g, 0, none⟩) N c, .int .i64 (a : Int), .int .i64 (m : Int), .int .i64 (b : Int), fv] w fun e w' => (∃ r, e = .returned r) ∧ SS g c N w0 I Q w' (Srt.rotF z49 m (b - a) (m - a) (b - m) xs0) := by
  have HS := Aside0.mk h
  have hN := h.max
  obtain ⟨i0, hi0⟩ : ∃ i0, m - a = i0 := ⟨_, rfl⟩
  obtain ⟨j0, hj0⟩ : ∃ j0, b - m = j0 := ⟨_, rfl⟩
  have hi0' : (m : Int) - (a : Int) = (i0 : Int) := by omega
  have hj0' : (b : Int) - (m : Int) = (j0 : Int) := by omega
  rw [hi0, hj0]
  clear h
  go_enter Try.func108, Try.ntmps108
  go_wp2_with fail
  go_loopg [10, 11] (b - a) (fun kq v10 v11 wr => ∃ (i j : Nat) (xs : List S49), v10 = .int .i64 (i : Int) ∧ v11 = .int .i64 (j : Int) ∧ Aside0 (0 < i ∧ 0 < j ∧ i ≤ m ∧ m + j ≤ N ∧ i + j ≤ kq + 1) ∧ Aside0 (Srt.rotF z49 m kq i j xs = Srt.rotF z49 m (b - a) i0 j0 xs0) ∧ Aside0 (SS g c N w0 I Q wr xs))
  case atStart => exact ⟨i0, j0, xs0, rfl, rfl, ⟨by omega, by omega, by omega, by omega, by omega⟩, ⟨rfl⟩, HS⟩
  case round =>
    obtain ⟨i, j, xs, rfl, rfl, HK, HF, HW⟩ := hrel
    obtain ⟨k1, k2, k3, k4, k5⟩ := HK.out
    obtain ⟨k', rfl⟩ : ∃ k', gk = k' + 1 := ⟨gk - 1, by omega⟩
    obtain ⟨p, hp⟩ : ∃ p, m - i = p := ⟨_, rfl⟩
    have hp' : (m : Int) - (i : Int) = (p : Int) := by omega
    have hg := HF.out
    rw [Srt.rotF] at hg
    by_cases hij : i = j
    · subst hij
      rw [if_pos rfl, hp] at hg
      have HG := Aside0.mk hg
      clear hg
      go_wp2_with (go_at_call 110; refine (swapR_calls g c N w0 I Q p m i xs fv _ hI HW.out (by omega) (by omega)).mono ?_; rw [HG.out]; rintro e w1 ⟨⟨r, rfl⟩, hs1⟩; have HS1 := Aside0.mk hs1; clear hs1)
      refine ⟨rfl, .tuple #[], ?_, ⟨_, rfl⟩, HS1.out⟩
      simp [results, Try.results108, go_sem]
    · have hne : ¬ ((i : Int) = (j : Int)) := by omega
      rw [if_neg hij] at hg
      by_cases c2 : j < i
      · obtain ⟨q, hq⟩ : ∃ q, i - j = q := ⟨_, rfl⟩
        have hq' : (i : Int) - (j : Int) = (q : Int) := by omega
        rw [if_pos c2, hp, hq] at hg
        have HG := Aside0.mk hg
        clear hg
        go_wp2_with (go_at_call 110; refine (swapR_calls g c N w0 I Q p m j xs fv _ hI HW.out (by omega) (by omega)).mono ?_; rintro e w1 ⟨⟨r, rfl⟩, hs1⟩; have HS1 := Aside0.mk hs1; clear hs1)
        go_roundg k'
        case measure => omega
        case rel => exact ⟨q, j, _, by go_num, rfl, ⟨by omega, by omega, by omega, by omega, by omega⟩, HG, HS1⟩
      · obtain ⟨q, hq⟩ : ∃ q, j - i = q := ⟨_, rfl⟩
        obtain ⟨u, hu⟩ : ∃ u, m + j - i = u := ⟨_, rfl⟩
        have hq' : (j : Int) - (i : Int) = (q : Int) := by omega
        have hu' : (m : Int) + (j : Int) - (i : Int) = (u : Int) := by omega
        rw [if_neg c2, hp, hq, hu] at hg
        have HG := Aside0.mk hg
        clear hg
        go_wp2_with (go_at_call 110; refine (swapR_calls g c N w0 I Q p u i xs fv _ hI HW.out (by omega) (by omega)).mono ?_; rintro e w1 ⟨⟨r, rfl⟩, hs1⟩; have HS1 := Aside0.mk hs1; clear hs1)
        go_roundg k'
        case measure => omega
        case rel => exact ⟨i, q, _, rfl, by go_num, ⟨by omega, by omega, by omega, by omega, by omega⟩, HG, HS1⟩
theorem goesC_ {P : Program} {ops : Array Oper} {Q : Exit → Act → World → Prop} {oi : Oper} {N : Option Tmp} {a : Act} {w : World} {K : Act → World → Prop} {f : FuncId} {fn : Func} {o : Operand} {ar : Array Operand} {ts : Array TypeId} {caps : Array Value} (hf : P.funcs[f]? = some fn) (hname : (fn.name == "runtime.NumGoroutine") = false) (hb : fn.body.isSome = true) (args : Array Value)
    (hw : Region.wanted oi (yielded ops a.tmps) = true) (hN : oi.dst = N) (hop : oi.op = .call { callee := .value o, args := ar, argTypes := ts }) (ho : a.eval o = .func (.func f) #[] caps) (hargs : ar.map a.eval = args)
    (h : Calls P f (args ++ caps) w fun e w' => ∃ v, e = .returned v ∧ K (a.put N v) w') : if Region.wanted oi (yielded ops a.tmps) = true then Oper.wp P oi a w K Q else K (a.put N undef) w := by
  refine call_ f (args ++ caps) hw hN ?_ h
  have he := enters_ hf hname hb (args ++ caps) w
  unfold execOp
  simp [hop, resolve, Deferred.ofValue, invoke, ho, hargs, he]
theorem w64n {j N : Nat} (h : j < N) (hN : N ≤ 9223372036854775807) : Go.RowKit.wrap64 (j : Int) = (j : Int) := by unfold Go.RowKit.wrap64; omega
theorem w64p {k j : Nat} (h : k = j + 1) (hN : k ≤ 9223372036854775807) : Go.RowKit.wrap64 ((k : Int) - 1) = (j : Int) := by unfold Go.RowKit.wrap64; omega
theorem w64q {k j : Nat} (h : k = j + 1) (hN : k ≤ 9223372036854775807) : IntKind.i64.wrap ((k : Int) - 1) = (j : Int) := by rw [IntKind.wrap_i64]; omega
def Cmp (caps : Array Value) (I : World → Prop) (Q : S49 → Prop) (lt : S49 → S49 → Bool) : Prop := ∀ (x y : S49) (w : World), Q x → Q y → I w → Calls Try.prog 57 (#[.agg #[.int .i64 (x).f0, .int .i64 (x).f1, .int .i64 (x).f2], .agg #[.int .i64 (y).f0, .int .i64 (y).f1, .int .i64 (y).f2]] ++ caps) w fun e w' => ∃ v, e = .returned (.int .i64 v) ∧ decide (v < 0) = lt x y ∧ Below w.heap.size w w'
set_option maxHeartbeats 1600000 in
set_option maxRecDepth 100000 in
theorem ins_calls (g c N : Nat) (w0 : World) (I : World → Prop) (Q : S49 → Prop) (lt : S49 → S49 → Bool) (caps : Array Value) (a b : Nat) (xs0 : List S49) (w : World) (hI : Stays g I) (hC : Cmp caps I Q lt) (h : SS g c N w0 I Q w xs0) (hab : a ≤ b) (hbN : b ≤ N) (hN2 : N ≤ 4611686018427387903) :
    Calls Try.prog 102 #[.slice (some ⟨g, 0, none⟩) N c, .int .i64 (a : Int), .int .i64 (b : Int), .func (.func 57) #[] caps] w fun e w' => (∃ r, e = .returned r) ∧ SS g c N w0 I Q w' (Srt.insF z49 lt a b xs0) := by
  have HS := Aside0.mk h
  have HC := Aside0.mk hC
  have hN := h.max
  clear h hC
  go_enter Try.func102, Try.ntmps102
  go_wp2_with fail
  go_loopg [8] (b - (a + 1)) (fun kq v8 wr => ∃ (i : Nat) (xs : List S49), v8 = .int .i64 (i : Int) ∧ Aside0 (a + 1 ≤ i ∧ kq + i = a + 1 + (b - (a + 1))) ∧ Aside0 (Srt.insOut z49 lt a kq i xs = Srt.insF z49 lt a b xs0) ∧ Aside0 (SS g c N w0 I Q wr xs))
  case atStart => exact ⟨a + 1, xs0, by go_num, ⟨by omega, by omega⟩, ⟨rfl⟩, HS⟩
  case round =>
    obtain ⟨i, xs, rfl, HK, HF, HW⟩ := hrel
    obtain ⟨k1, k2⟩ := HK.out
    by_cases hib : i < b
    · obtain ⟨k', rfl⟩ : ∃ k', gk = k' + 1 := ⟨gk - 1, by omega⟩
      have hg : Srt.insOut z49 lt a k' (i + 1) (Srt.insIn z49 lt a i xs) = Srt.insF z49 lt a b xs0 := HF.out
      have HF := Aside0.mk hg
      clear hg
      go_wp2_with fail
      go_loopg [9] i (fun kq v9 wr => ∃ (ys : List S49), v9 = .int .i64 (kq : Int) ∧ Aside0 (kq ≤ i) ∧ Aside0 (Srt.insIn z49 lt a kq ys = Srt.insIn z49 lt a i xs) ∧ Aside0 (SS g c N w0 I Q wr ys))
      case atStart => exact ⟨xs, rfl, ⟨Nat.le_refl _⟩, ⟨rfl⟩, HW⟩
      case round =>
        obtain ⟨ys, rfl, HJ, HFi, HWi⟩ := hrel
        have hji := HJ.out
        by_cases haj : a < gk
        · obtain ⟨j, hj⟩ : ∃ j, gk = j + 1 := ⟨gk - 1, by omega⟩
          have hi1 : gk < N := by omega
          have hi2 : j < N := by omega
          have hw3 : Go.RowKit.wrap64 (j : Int) = (j : Int) := w64n hi2 (by omega)
          have hjm : ((gk : Int) - 1) = (j : Int) := by omega
          have hw : Go.RowKit.wrap64 ((gk : Int) - 1) = (j : Int) := w64p hj (by omega)
          have hw2 : IntKind.i64.wrap ((gk : Int) - 1) = (j : Int) := w64q hj (by omega)
          have hgt2 := decide_eq_true (show (a : Int) < (gk : Int) by omega)
          have hq1 := HWi.out.qg gk hi1
          have hq2 := HWi.out.qg j hi2
          have hx := HWi.out.cell gk hi1
          have hy := HWi.out.cell j hi2
          have hb0 : (0 ≤ (gk : Int)) = True := eq_true (by omega)
          have hb1 : ((gk : Int) < (N : Int)) = True := eq_true (by omega)
          have hb2 : (0 ≤ (j : Int)) = True := eq_true (by omega)
          have hb3 : ((j : Int) < (N : Int)) = True := eq_true (by omega)
          have hgi := HFi.out
          have e2 : Srt.insIn z49 lt a gk ys = if lt (Srt.g z49 ys gk) (Srt.g z49 ys j) = true then Srt.insIn z49 lt a j (Srt.sw z49 ys gk j) else ys := by rw [hj, Srt.insIn, if_pos (by omega)]
          rw [e2] at hgi
          have HJ1 := Aside0.mk hj
          clear hj
          have HQ1 := Aside0.mk hq1
          have HQ2 := Aside0.mk hq2
          cases hlt : lt (Srt.g z49 ys gk) (Srt.g z49 ys j) with
          | true =>
            rw [hlt, if_pos rfl] at hgi
            have HG := Aside0.mk hgi
            have HLT := Aside0.mk hlt
            clear hgi hlt hq1 hq2 e2
            go_wp2_with fail
            refine start_ (n := 17) (S := fun w' => w'.cell? ⟨g, (gk) * 3, none⟩ = some (.int .i64 (Srt.g z49 ys (gk)).f0) ∧ w'.cell? ⟨g, (gk) * 3 + 1, none⟩ = some (.int .i64 (Srt.g z49 ys (gk)).f1) ∧ w'.cell? ⟨g, (gk) * 3 + 2, none⟩ = some (.int .i64 (Srt.g z49 ys (gk)).f2) ∧ w'.cell? ⟨g, (j) * 3, none⟩ = some (.int .i64 (Srt.g z49 ys (j)).f0) ∧ w'.cell? ⟨g, (j) * 3 + 1, none⟩ = some (.int .i64 (Srt.g z49 ys (j)).f1) ∧ w'.cell? ⟨g, (j) * 3 + 2, none⟩ = some (.int .i64 (Srt.g z49 ys (j)).f2)) (ds := [14]) #[false, false, false, false, false, false, false, false, false, false, false, false, false, false, false, false, false] (by kernel_rfl) rfl rfl ⟨hx.1, hx.2.1, hx.2.2, hy.1, hy.2.1, hy.2.2⟩ (fun hHeld => ?_)
            obtain ⟨E, hE⟩ : ∃ E, wr.drew = E := ⟨_, rfl⟩
            have HSE := Aside0.mk (show SS g c N w0 I Q E ys by rw [← hE]; exact HWi.out.step hI (below_drew1 (Below.refl _ _)))
            rw [hE] at hHeld ⊢
            clear hE
            refine pure_ (i := 0) (N := some 18) (v := ?_) (a' := ?_) #[true, false, false, false, false, false, false, false, false, false, false, false, false, false, false, false, false] rfl rfl (by kernel_rfl) (fun _ _ _ h => h) (Or.inl ⟨by rfl, ?_⟩) ?_ ?_
            rotate_left
            · intro w'
              go_simp
              with_reducible rfl
            rotate_left
            · simp only [Act.put, List.setIfInBounds_toArray, List.set_cons_zero, List.set_cons_succ, i64_w, i32_w]
              rfl
            refine pure_ (i := 1) (N := some 19) (v := ?_) (a' := ?_) #[true, true, false, false, false, false, false, false, false, false, false, false, false, false, false, false, false] rfl rfl (by kernel_rfl) (fun _ _ _ h => h) (Or.inl ⟨by rfl, ?_⟩) ?_ ?_
            rotate_left
            · intro w'
              go_simp
              with_reducible rfl
            rotate_left
            · simp only [Act.put, List.setIfInBounds_toArray, List.set_cons_zero, List.set_cons_succ, i64_w, i32_w]
              rfl
            refine pure_ (i := 2) (N := some 20) (v := ?_) (a' := ?_) #[true, true, true, false, false, false, false, false, false, false, false, false, false, false, false, false, false] rfl rfl (by kernel_rfl) (fun _ _ _ h => h) (Or.inl ⟨by rfl, ?_⟩) ?_ ?_
            rotate_left
            · intro w'
              go_simp
              with_reducible rfl
            rotate_left
            · simp only [Act.put, List.setIfInBounds_toArray, List.set_cons_zero, List.set_cons_succ, i64_w, i32_w]
              rfl
            refine pure_ (i := 3) (N := some 21) (v := ?_) (a' := ?_) #[true, true, true, true, false, false, false, false, false, false, false, false, false, false, false, false, false] rfl rfl (by kernel_rfl) (fun _ _ _ h => h) (Or.inl ⟨by rfl, ?_⟩) ?_ ?_
            rotate_left
            · intro w'
              go_simp
              with_reducible rfl
            rotate_left
            · simp only [Act.put, List.setIfInBounds_toArray, List.set_cons_zero, List.set_cons_succ, i64_w, i32_w]
              rfl
            refine pure_ (i := 4) (N := some 22) (v := ?_) (a' := ?_) #[true, true, true, true, true, false, false, false, false, false, false, false, false, false, false, false, false] rfl rfl (by kernel_rfl) (fun _ _ _ h => h) (Or.inl ⟨by rfl, ?_⟩) ?_ ?_
            rotate_left
            · intro w'
              go_simp
              with_reducible rfl
            rotate_left
            · simp only [Act.put, List.setIfInBounds_toArray, List.set_cons_zero, List.set_cons_succ, i64_w, i32_w]
              rfl
            refine pure_ (i := 5) (N := some 23) (v := ?_) (a' := ?_) #[true, true, true, true, true, true, false, false, false, false, false, false, false, false, false, false, false] rfl rfl (by kernel_rfl) (fun _ _ _ h => h) (Or.inl ⟨by rfl, ?_⟩) ?_ ?_
            rotate_left
            · intro w'
              go_simp
              with_reducible rfl
            rotate_left
            · simp only [Act.put, List.setIfInBounds_toArray, List.set_cons_zero, List.set_cons_succ, i64_w, i32_w]
              rfl
            refine pure_ (i := 6) (N := some 24) (v := ?_) (a' := ?_) #[true, true, true, true, true, true, true, false, false, false, false, false, false, false, false, false, false] rfl rfl (by kernel_rfl) (fun _ _ _ h => h) (Or.inl ⟨by rfl, ?_⟩) ?_ ?_
            rotate_left
            · intro w'
              go_simp
              with_reducible rfl
            rotate_left
            · simp only [Act.put, List.setIfInBounds_toArray, List.set_cons_zero, List.set_cons_succ, i64_w, i32_w]
              rfl
            refine pure_ (i := 7) (N := some 25) (v := ?_) (a' := ?_) #[true, true, true, true, true, true, true, true, false, false, false, false, false, false, false, false, false] rfl rfl (by kernel_rfl) (fun _ _ _ h => h) (Or.inl ⟨by rfl, ?_⟩) ?_ ?_
            rotate_left
            · intro w'
              go_simp
              with_reducible rfl
            rotate_left
            · simp only [Act.put, List.setIfInBounds_toArray, List.set_cons_zero, List.set_cons_succ, i64_w, i32_w]
              rfl
            refine take_ (i := 8) (N := some 26) (v := ?_) (a' := ?_) #[true, true, true, true, true, true, true, true, true, false, false, false, false, false, false, false, false] rfl rfl (by kernel_rfl) (fun _ _ _ h => h) (Or.inl ⟨by rfl, ?_⟩) hHeld ?_ ?_
            rotate_left
            · rintro w' ⟨s0, s1, s2, s3, s4, s5⟩
              go_simp
              with_reducible rfl
            rotate_left
            · simp only [Act.put, List.setIfInBounds_toArray, List.set_cons_zero, List.set_cons_succ, i64_w, i32_w]
              rfl
            refine pure_ (i := 9) (N := some 27) (v := ?_) (a' := ?_) #[true, true, true, true, true, true, true, true, true, true, false, false, false, false, false, false, false] rfl rfl (by kernel_rfl) (fun _ _ _ h => h) (Or.inl ⟨by rfl, ?_⟩) ?_ ?_
            rotate_left
            · intro w'
              go_simp
              with_reducible rfl
            rotate_left
            · simp only [Act.put, List.setIfInBounds_toArray, List.set_cons_zero, List.set_cons_succ, i64_w, i32_w]
              rfl
            refine pure_ (i := 10) (N := some 28) (v := ?_) (a' := ?_) #[true, true, true, true, true, true, true, true, true, true, true, false, false, false, false, false, false] rfl rfl (by kernel_rfl) (fun _ _ _ h => h) (Or.inl ⟨by rfl, ?_⟩) ?_ ?_
            rotate_left
            · intro w'
              go_simp
              with_reducible rfl
            rotate_left
            · simp only [Act.put, List.setIfInBounds_toArray, List.set_cons_zero, List.set_cons_succ, i64_w, i32_w]
              rfl
            refine pure_ (i := 11) (N := some 29) (v := ?_) (a' := ?_) #[true, true, true, true, true, true, true, true, true, true, true, true, false, false, false, false, false] rfl rfl (by kernel_rfl) (fun _ _ _ h => h) (Or.inl ⟨by rfl, ?_⟩) ?_ ?_
            rotate_left
            · intro w'
              go_simp
              with_reducible rfl
            rotate_left
            · simp only [Act.put, List.setIfInBounds_toArray, List.set_cons_zero, List.set_cons_succ, i64_w, i32_w]
              rfl
            refine pure_ (i := 12) (N := some 30) (v := ?_) (a' := ?_) #[true, true, true, true, true, true, true, true, true, true, true, true, true, false, false, false, false] rfl rfl (by kernel_rfl) (fun _ _ _ h => h) (Or.inl ⟨by rfl, ?_⟩) ?_ ?_
            rotate_left
            · intro w'
              go_simp
              with_reducible rfl
            rotate_left
            · simp only [Act.put, List.setIfInBounds_toArray, List.set_cons_zero, List.set_cons_succ, i64_w, i32_w]
              rfl
            refine take_ (i := 13) (N := some 31) (v := ?_) (a' := ?_) #[true, true, true, true, true, true, true, true, true, true, true, true, true, true, false, false, false] rfl rfl (by kernel_rfl) (fun _ _ _ h => h) (Or.inl ⟨by rfl, ?_⟩) hHeld ?_ ?_
            rotate_left
            · rintro w' ⟨s0, s1, s2, s3, s4, s5⟩
              go_simp
              with_reducible rfl
            rotate_left
            · simp only [Act.put, List.setIfInBounds_toArray, List.set_cons_zero, List.set_cons_succ, i64_w, i32_w]
              rfl
            refine last_ (i := 14) (N := some 32) #[true, true, true, true, true, true, true, true, true, true, true, true, true, true, true, false, false] rfl rfl (by kernel_rfl) (by decide) (fun K hK => ?_)
            refine goesC_ (caps := caps) Try.func57 (by kernel_rfl) rfl #[.agg #[.int .i64 ((Srt.g z49 ys gk)).f0, .int .i64 ((Srt.g z49 ys gk)).f1, .int .i64 ((Srt.g z49 ys gk)).f2], .agg #[.int .i64 ((Srt.g z49 ys j)).f0, .int .i64 ((Srt.g z49 ys j)).f1, .int .i64 ((Srt.g z49 ys j)).f2]] (by rfl) rfl rfl rfl (by (try simp only [List.map_toArray, List.map_cons, List.map_nil]); first | done | rfl) ?_
            refine (HC.out _ _ _ HQ1.out HQ2.out HSE.out.inv).mono ?_
            rintro e w3 ⟨v, rfl, hv, hb3⟩
            rw [HLT.out] at hv
            refine ⟨_, rfl, ?_⟩
            have HS3 := Aside0.mk (HSE.out.step hI hb3)
            refine hK.out _ _ ?_
            clear hK K hb3
            refine norm_ (a' := ?_) ?_ ?_
            rotate_left
            · show Act.put _ (some 32) _ = _
              simp only [Act.put, List.setIfInBounds_toArray, List.set_cons_zero, List.set_cons_succ, i64_w, i32_w]
              rfl
            refine pure_ (i := 15) (N := some 33) (v := ?_) (a' := ?_) #[true, true, true, true, true, true, true, true, true, true, true, true, true, true, true, true, false] rfl rfl (by kernel_rfl) (fun _ _ _ h => h) (Or.inl ⟨by rfl, ?_⟩) ?_ ?_
            rotate_left
            · intro w'
              go_simp
              with_reducible rfl
            rotate_left
            · simp only [Act.put, List.setIfInBounds_toArray, List.set_cons_zero, List.set_cons_succ, i64_w, i32_w]
              rfl
            refine pure_ (i := 16) (N := some 34) (v := ?_) (a' := ?_) #[true, true, true, true, true, true, true, true, true, true, true, true, true, true, true, true, true] rfl rfl (by kernel_rfl) (fun _ _ _ h => h) (Or.inl ⟨by rfl, ?_⟩) ?_ ?_
            rotate_left
            · intro w'
              go_simp
              with_reducible rfl
            rotate_left
            · simp only [Act.put, List.setIfInBounds_toArray, List.set_cons_zero, List.set_cons_succ, i64_w, i32_w]
              rfl
            refine done_ (by kernel_rfl) ?_
            clear hHeld hx hy
            have ht1 := eq_true (show 0 ≤ (gk : Int) by omega)
            have hr1 := eq_true (show (gk : Int) < (N : Int) by omega)
            have ht2 := eq_true (show 0 ≤ (j : Int) by omega)
            have hr2 := eq_true (show (j : Int) < (N : Int) by omega)
            have hu1 := w64m hi1 (by omega)
            have hu2 := w64m hi2 (by omega)
            have hx := HS3.out.cell (gk) hi1
            have hy := HS3.out.cell (j) hi2
            have HD := HS3.out.step hI (below_drew1 (Below.refl _ _))
            have HA := HD.set1 hI (gk) hi1 _ (HS3.out.qg (j) hi2)
            have HX := Aside0.mk (HA.set1 hI (j) hi2 _ (HS3.out.qg (gk) hi1))
            have hs1 := Aside0.mk (run_storeVar_mid (P := Try.prog) _ g ((gk) * 3) 49 #[.int .i64 ((Srt.g z49 ys (j))).f0, .int .i64 ((Srt.g z49 ys (j))).f1, .int .i64 ((Srt.g z49 ys (j))).f2] (HD.there (gk) hi1) (by rw [info_size]; rfl) (all3 _ _ _))
            have hs2 := Aside0.mk (run_storeVar_mid (P := Try.prog) _ g ((j) * 3) 49 #[.int .i64 ((Srt.g z49 ys (gk))).f0, .int .i64 ((Srt.g z49 ys (gk))).f1, .int .i64 ((Srt.g z49 ys (gk))).f2] (HA.there (j) hi2) (by rw [info_size]; rfl) (all3 _ _ _))
            clear HD HA
            go_wp2_with fail
            refine start_ (n := 18) (S := fun w' => w'.cell? ⟨g, (gk) * 3, none⟩ = some (.int .i64 (Srt.g z49 ys (gk)).f0) ∧ w'.cell? ⟨g, (gk) * 3 + 1, none⟩ = some (.int .i64 (Srt.g z49 ys (gk)).f1) ∧ w'.cell? ⟨g, (gk) * 3 + 2, none⟩ = some (.int .i64 (Srt.g z49 ys (gk)).f2) ∧ w'.cell? ⟨g, (j) * 3, none⟩ = some (.int .i64 (Srt.g z49 ys (j)).f0) ∧ w'.cell? ⟨g, (j) * 3 + 1, none⟩ = some (.int .i64 (Srt.g z49 ys (j)).f1) ∧ w'.cell? ⟨g, (j) * 3 + 2, none⟩ = some (.int .i64 (Srt.g z49 ys (j)).f2)) (ds := [15, 17]) #[false, false, false, false, false, false, false, false, false, false, false, false, false, false, false, false, false, false] (by kernel_rfl) rfl rfl ⟨hx.1, hx.2.1, hx.2.2, hy.1, hy.2.1, hy.2.2⟩ (fun hHeld => ?_)
            refine pure_ (i := 0) (N := some 37) (v := ?_) (a' := ?_) #[true, false, false, false, false, false, false, false, false, false, false, false, false, false, false, false, false, false] rfl rfl (by kernel_rfl) (fun _ _ _ h => h) (Or.inl ⟨by rfl, ?_⟩) ?_ ?_
            rotate_left
            · intro w'
              go_simp
              with_reducible rfl
            rotate_left
            · simp only [Act.put, List.setIfInBounds_toArray, List.set_cons_zero, List.set_cons_succ, i64_w, i32_w]
              rfl
            refine pure_ (i := 1) (N := some 38) (v := ?_) (a' := ?_) #[true, true, false, false, false, false, false, false, false, false, false, false, false, false, false, false, false, false] rfl rfl (by kernel_rfl) (fun _ _ _ h => h) (Or.inl ⟨by rfl, ?_⟩) ?_ ?_
            rotate_left
            · intro w'
              go_simp
              with_reducible rfl
            rotate_left
            · simp only [Act.put, List.setIfInBounds_toArray, List.set_cons_zero, List.set_cons_succ, i64_w, i32_w]
              rfl
            refine pure_ (i := 2) (N := some 39) (v := ?_) (a' := ?_) #[true, true, true, false, false, false, false, false, false, false, false, false, false, false, false, false, false, false] rfl rfl (by kernel_rfl) (fun _ _ _ h => h) (Or.inl ⟨by rfl, ?_⟩) ?_ ?_
            rotate_left
            · intro w'
              go_simp
              with_reducible rfl
            rotate_left
            · simp only [Act.put, List.setIfInBounds_toArray, List.set_cons_zero, List.set_cons_succ, i64_w, i32_w]
              rfl
            refine pure_ (i := 3) (N := some 40) (v := ?_) (a' := ?_) #[true, true, true, true, false, false, false, false, false, false, false, false, false, false, false, false, false, false] rfl rfl (by kernel_rfl) (fun _ _ _ h => h) (Or.inl ⟨by rfl, ?_⟩) ?_ ?_
            rotate_left
            · intro w'
              go_simp
              with_reducible rfl
            rotate_left
            · simp only [Act.put, List.setIfInBounds_toArray, List.set_cons_zero, List.set_cons_succ, i64_w, i32_w]
              rfl
            refine pure_ (i := 4) (N := some 41) (v := ?_) (a' := ?_) #[true, true, true, true, true, false, false, false, false, false, false, false, false, false, false, false, false, false] rfl rfl (by kernel_rfl) (fun _ _ _ h => h) (Or.inl ⟨by rfl, ?_⟩) ?_ ?_
            rotate_left
            · intro w'
              go_simp
              with_reducible rfl
            rotate_left
            · simp only [Act.put, List.setIfInBounds_toArray, List.set_cons_zero, List.set_cons_succ, i64_w, i32_w]
              rfl
            refine pure_ (i := 5) (N := some 42) (v := ?_) (a' := ?_) #[true, true, true, true, true, true, false, false, false, false, false, false, false, false, false, false, false, false] rfl rfl (by kernel_rfl) (fun _ _ _ h => h) (Or.inl ⟨by rfl, ?_⟩) ?_ ?_
            rotate_left
            · intro w'
              go_simp
              with_reducible rfl
            rotate_left
            · simp only [Act.put, List.setIfInBounds_toArray, List.set_cons_zero, List.set_cons_succ, i64_w, i32_w]
              rfl
            refine pure_ (i := 6) (N := some 43) (v := ?_) (a' := ?_) #[true, true, true, true, true, true, true, false, false, false, false, false, false, false, false, false, false, false] rfl rfl (by kernel_rfl) (fun _ _ _ h => h) (Or.inl ⟨by rfl, ?_⟩) ?_ ?_
            rotate_left
            · intro w'
              go_simp
              with_reducible rfl
            rotate_left
            · simp only [Act.put, List.setIfInBounds_toArray, List.set_cons_zero, List.set_cons_succ, i64_w, i32_w]
              rfl
            refine pure_ (i := 7) (N := some 44) (v := ?_) (a' := ?_) #[true, true, true, true, true, true, true, true, false, false, false, false, false, false, false, false, false, false] rfl rfl (by kernel_rfl) (fun _ _ _ h => h) (Or.inl ⟨by rfl, ?_⟩) ?_ ?_
            rotate_left
            · intro w'
              go_simp
              with_reducible rfl
            rotate_left
            · simp only [Act.put, List.setIfInBounds_toArray, List.set_cons_zero, List.set_cons_succ, i64_w, i32_w]
              rfl
            refine pure_ (i := 8) (N := some 45) (v := ?_) (a' := ?_) #[true, true, true, true, true, true, true, true, true, false, false, false, false, false, false, false, false, false] rfl rfl (by kernel_rfl) (fun _ _ _ h => h) (Or.inl ⟨by rfl, ?_⟩) ?_ ?_
            rotate_left
            · intro w'
              go_simp
              with_reducible rfl
            rotate_left
            · simp only [Act.put, List.setIfInBounds_toArray, List.set_cons_zero, List.set_cons_succ, i64_w, i32_w]
              rfl
            refine take_ (i := 9) (N := some 46) (v := ?_) (a' := ?_) #[true, true, true, true, true, true, true, true, true, true, false, false, false, false, false, false, false, false] rfl rfl (by kernel_rfl) (fun _ _ _ h => h) (Or.inl ⟨by rfl, ?_⟩) hHeld ?_ ?_
            rotate_left
            · rintro w' ⟨s0, s1, s2, s3, s4, s5⟩
              go_simp
              with_reducible rfl
            rotate_left
            · simp only [Act.put, List.setIfInBounds_toArray, List.set_cons_zero, List.set_cons_succ, i64_w, i32_w]
              rfl
            refine pure_ (i := 10) (N := some 47) (v := ?_) (a' := ?_) #[true, true, true, true, true, true, true, true, true, true, true, false, false, false, false, false, false, false] rfl rfl (by kernel_rfl) (fun _ _ _ h => h) (Or.inl ⟨by rfl, ?_⟩) ?_ ?_
            rotate_left
            · intro w'
              go_simp
              with_reducible rfl
            rotate_left
            · simp only [Act.put, List.setIfInBounds_toArray, List.set_cons_zero, List.set_cons_succ, i64_w, i32_w]
              rfl
            refine pure_ (i := 11) (N := some 48) (v := ?_) (a' := ?_) #[true, true, true, true, true, true, true, true, true, true, true, true, false, false, false, false, false, false] rfl rfl (by kernel_rfl) (fun _ _ _ h => h) (Or.inl ⟨by rfl, ?_⟩) ?_ ?_
            rotate_left
            · intro w'
              go_simp
              with_reducible rfl
            rotate_left
            · simp only [Act.put, List.setIfInBounds_toArray, List.set_cons_zero, List.set_cons_succ, i64_w, i32_w]
              rfl
            refine pure_ (i := 12) (N := some 49) (v := ?_) (a' := ?_) #[true, true, true, true, true, true, true, true, true, true, true, true, true, false, false, false, false, false] rfl rfl (by kernel_rfl) (fun _ _ _ h => h) (Or.inl ⟨by rfl, ?_⟩) ?_ ?_
            rotate_left
            · intro w'
              go_simp
              with_reducible rfl
            rotate_left
            · simp only [Act.put, List.setIfInBounds_toArray, List.set_cons_zero, List.set_cons_succ, i64_w, i32_w]
              rfl
            refine take_ (i := 13) (N := some 50) (v := ?_) (a' := ?_) #[true, true, true, true, true, true, true, true, true, true, true, true, true, true, false, false, false, false] rfl rfl (by kernel_rfl) (fun _ _ _ h => h) (Or.inl ⟨by rfl, ?_⟩) hHeld ?_ ?_
            rotate_left
            · rintro w' ⟨s0, s1, s2, s3, s4, s5⟩
              go_simp
              with_reducible rfl
            rotate_left
            · simp only [Act.put, List.setIfInBounds_toArray, List.set_cons_zero, List.set_cons_succ, i64_w, i32_w]
              rfl
            refine pure_ (i := 14) (N := some 51) (v := ?_) (a' := ?_) #[true, true, true, true, true, true, true, true, true, true, true, true, true, true, true, false, false, false] rfl rfl (by kernel_rfl) (fun _ _ _ h => h) (Or.inl ⟨by rfl, ?_⟩) ?_ ?_
            rotate_left
            · intro w'
              go_simp
              with_reducible rfl
            rotate_left
            · simp only [Act.put, List.setIfInBounds_toArray, List.set_cons_zero, List.set_cons_succ, i64_w, i32_w]
              rfl
            refine last_ (i := 15) (N := none) #[true, true, true, true, true, true, true, true, true, true, true, true, true, true, true, true, false, false] rfl rfl (by kernel_rfl) (by decide) (fun K hK => ?_)
            refine skip_ (w1 := _) (by rfl) rfl (store_run rfl rfl rfl hs1.out) ?_
            refine hK.out _ _ ?_
            clear hK K
            refine pure_ (i := 16) (N := some 52) (v := ?_) (a' := ?_) #[true, true, true, true, true, true, true, true, true, true, true, true, true, true, true, true, true, false] rfl rfl (by kernel_rfl) (fun _ _ _ h => h) (Or.inl ⟨by rfl, ?_⟩) ?_ ?_
            rotate_left
            · intro w'
              go_simp
              with_reducible rfl
            rotate_left
            · simp only [Act.put, List.setIfInBounds_toArray, List.set_cons_zero, List.set_cons_succ, i64_w, i32_w]
              rfl
            refine last_ (i := 17) (N := none) #[true, true, true, true, true, true, true, true, true, true, true, true, true, true, true, true, true, true] rfl rfl (by kernel_rfl) (by decide) (fun K hK => ?_)
            refine skip_ (w1 := _) (by rfl) rfl (store_run rfl rfl rfl hs2.out) ?_
            refine hK.out _ _ ?_
            clear hK K
            refine done_ (by kernel_rfl) ?_
            obtain ⟨X, hX⟩ : ∃ X, ((w3.drew).setCells g ((gk) * 3) [.int .i64 ((Srt.g z49 ys (j))).f0, .int .i64 ((Srt.g z49 ys (j))).f1, .int .i64 ((Srt.g z49 ys (j))).f2]).setCells g ((j) * 3) [.int .i64 ((Srt.g z49 ys (gk))).f0, .int .i64 ((Srt.g z49 ys (gk))).f1, .int .i64 ((Srt.g z49 ys (gk))).f2] = X := ⟨_, rfl⟩
            rw [hX] at HX ⊢
            clear hHeld hX hx hy hs1 hs2 hu1 ht1 hr1 hu2 ht2 hr2
            go_wp2
            go_roundg j
            case measure => have := HJ1.out; omega
            case rel => exact ⟨_, by go_num, ⟨by have := HJ1.out; omega⟩, HG, HX⟩
          | false =>
            rw [hlt, if_neg (by decide)] at hgi
            have HG := Aside0.mk hgi
            have HLT := Aside0.mk hlt
            clear hgi hlt hq1 hq2 e2
            go_wp2_with fail
            refine start_ (n := 17) (S := fun w' => w'.cell? ⟨g, (gk) * 3, none⟩ = some (.int .i64 (Srt.g z49 ys (gk)).f0) ∧ w'.cell? ⟨g, (gk) * 3 + 1, none⟩ = some (.int .i64 (Srt.g z49 ys (gk)).f1) ∧ w'.cell? ⟨g, (gk) * 3 + 2, none⟩ = some (.int .i64 (Srt.g z49 ys (gk)).f2) ∧ w'.cell? ⟨g, (j) * 3, none⟩ = some (.int .i64 (Srt.g z49 ys (j)).f0) ∧ w'.cell? ⟨g, (j) * 3 + 1, none⟩ = some (.int .i64 (Srt.g z49 ys (j)).f1) ∧ w'.cell? ⟨g, (j) * 3 + 2, none⟩ = some (.int .i64 (Srt.g z49 ys (j)).f2)) (ds := [14]) #[false, false, false, false, false, false, false, false, false, false, false, false, false, false, false, false, false] (by kernel_rfl) rfl rfl ⟨hx.1, hx.2.1, hx.2.2, hy.1, hy.2.1, hy.2.2⟩ (fun hHeld => ?_)
            obtain ⟨E, hE⟩ : ∃ E, wr.drew = E := ⟨_, rfl⟩
            have HSE := Aside0.mk (show SS g c N w0 I Q E ys by rw [← hE]; exact HWi.out.step hI (below_drew1 (Below.refl _ _)))
            rw [hE] at hHeld ⊢
            clear hE
            refine pure_ (i := 0) (N := some 18) (v := ?_) (a' := ?_) #[true, false, false, false, false, false, false, false, false, false, false, false, false, false, false, false, false] rfl rfl (by kernel_rfl) (fun _ _ _ h => h) (Or.inl ⟨by rfl, ?_⟩) ?_ ?_
            rotate_left
            · intro w'
              go_simp
              with_reducible rfl
            rotate_left
            · simp only [Act.put, List.setIfInBounds_toArray, List.set_cons_zero, List.set_cons_succ, i64_w, i32_w]
              rfl
            refine pure_ (i := 1) (N := some 19) (v := ?_) (a' := ?_) #[true, true, false, false, false, false, false, false, false, false, false, false, false, false, false, false, false] rfl rfl (by kernel_rfl) (fun _ _ _ h => h) (Or.inl ⟨by rfl, ?_⟩) ?_ ?_
            rotate_left
            · intro w'
              go_simp
              with_reducible rfl
            rotate_left
            · simp only [Act.put, List.setIfInBounds_toArray, List.set_cons_zero, List.set_cons_succ, i64_w, i32_w]
              rfl
            refine pure_ (i := 2) (N := some 20) (v := ?_) (a' := ?_) #[true, true, true, false, false, false, false, false, false, false, false, false, false, false, false, false, false] rfl rfl (by kernel_rfl) (fun _ _ _ h => h) (Or.inl ⟨by rfl, ?_⟩) ?_ ?_
            rotate_left
            · intro w'
              go_simp
              with_reducible rfl
            rotate_left
            · simp only [Act.put, List.setIfInBounds_toArray, List.set_cons_zero, List.set_cons_succ, i64_w, i32_w]
              rfl
            refine pure_ (i := 3) (N := some 21) (v := ?_) (a' := ?_) #[true, true, true, true, false, false, false, false, false, false, false, false, false, false, false, false, false] rfl rfl (by kernel_rfl) (fun _ _ _ h => h) (Or.inl ⟨by rfl, ?_⟩) ?_ ?_
            rotate_left
            · intro w'
              go_simp
              with_reducible rfl
            rotate_left
            · simp only [Act.put, List.setIfInBounds_toArray, List.set_cons_zero, List.set_cons_succ, i64_w, i32_w]
              rfl
            refine pure_ (i := 4) (N := some 22) (v := ?_) (a' := ?_) #[true, true, true, true, true, false, false, false, false, false, false, false, false, false, false, false, false] rfl rfl (by kernel_rfl) (fun _ _ _ h => h) (Or.inl ⟨by rfl, ?_⟩) ?_ ?_
            rotate_left
            · intro w'
              go_simp
              with_reducible rfl
            rotate_left
            · simp only [Act.put, List.setIfInBounds_toArray, List.set_cons_zero, List.set_cons_succ, i64_w, i32_w]
              rfl
            refine pure_ (i := 5) (N := some 23) (v := ?_) (a' := ?_) #[true, true, true, true, true, true, false, false, false, false, false, false, false, false, false, false, false] rfl rfl (by kernel_rfl) (fun _ _ _ h => h) (Or.inl ⟨by rfl, ?_⟩) ?_ ?_
            rotate_left
            · intro w'
              go_simp
              with_reducible rfl
            rotate_left
            · simp only [Act.put, List.setIfInBounds_toArray, List.set_cons_zero, List.set_cons_succ, i64_w, i32_w]
              rfl
            refine pure_ (i := 6) (N := some 24) (v := ?_) (a' := ?_) #[true, true, true, true, true, true, true, false, false, false, false, false, false, false, false, false, false] rfl rfl (by kernel_rfl) (fun _ _ _ h => h) (Or.inl ⟨by rfl, ?_⟩) ?_ ?_
            rotate_left
            · intro w'
              go_simp
              with_reducible rfl
            rotate_left
            · simp only [Act.put, List.setIfInBounds_toArray, List.set_cons_zero, List.set_cons_succ, i64_w, i32_w]
              rfl
            refine pure_ (i := 7) (N := some 25) (v := ?_) (a' := ?_) #[true, true, true, true, true, true, true, true, false, false, false, false, false, false, false, false, false] rfl rfl (by kernel_rfl) (fun _ _ _ h => h) (Or.inl ⟨by rfl, ?_⟩) ?_ ?_
            rotate_left
            · intro w'
              go_simp
              with_reducible rfl
            rotate_left
            · simp only [Act.put, List.setIfInBounds_toArray, List.set_cons_zero, List.set_cons_succ, i64_w, i32_w]
              rfl
            refine take_ (i := 8) (N := some 26) (v := ?_) (a' := ?_) #[true, true, true, true, true, true, true, true, true, false, false, false, false, false, false, false, false] rfl rfl (by kernel_rfl) (fun _ _ _ h => h) (Or.inl ⟨by rfl, ?_⟩) hHeld ?_ ?_
            rotate_left
            · rintro w' ⟨s0, s1, s2, s3, s4, s5⟩
              go_simp
              with_reducible rfl
            rotate_left
            · simp only [Act.put, List.setIfInBounds_toArray, List.set_cons_zero, List.set_cons_succ, i64_w, i32_w]
              rfl
            refine pure_ (i := 9) (N := some 27) (v := ?_) (a' := ?_) #[true, true, true, true, true, true, true, true, true, true, false, false, false, false, false, false, false] rfl rfl (by kernel_rfl) (fun _ _ _ h => h) (Or.inl ⟨by rfl, ?_⟩) ?_ ?_
            rotate_left
            · intro w'
              go_simp
              with_reducible rfl
            rotate_left
            · simp only [Act.put, List.setIfInBounds_toArray, List.set_cons_zero, List.set_cons_succ, i64_w, i32_w]
              rfl
            refine pure_ (i := 10) (N := some 28) (v := ?_) (a' := ?_) #[true, true, true, true, true, true, true, true, true, true, true, false, false, false, false, false, false] rfl rfl (by kernel_rfl) (fun _ _ _ h => h) (Or.inl ⟨by rfl, ?_⟩) ?_ ?_
            rotate_left
            · intro w'
              go_simp
              with_reducible rfl
            rotate_left
            · simp only [Act.put, List.setIfInBounds_toArray, List.set_cons_zero, List.set_cons_succ, i64_w, i32_w]
              rfl
            refine pure_ (i := 11) (N := some 29) (v := ?_) (a' := ?_) #[true, true, true, true, true, true, true, true, true, true, true, true, false, false, false, false, false] rfl rfl (by kernel_rfl) (fun _ _ _ h => h) (Or.inl ⟨by rfl, ?_⟩) ?_ ?_
            rotate_left
            · intro w'
              go_simp
              with_reducible rfl
            rotate_left
            · simp only [Act.put, List.setIfInBounds_toArray, List.set_cons_zero, List.set_cons_succ, i64_w, i32_w]
              rfl
            refine pure_ (i := 12) (N := some 30) (v := ?_) (a' := ?_) #[true, true, true, true, true, true, true, true, true, true, true, true, true, false, false, false, false] rfl rfl (by kernel_rfl) (fun _ _ _ h => h) (Or.inl ⟨by rfl, ?_⟩) ?_ ?_
            rotate_left
            · intro w'
              go_simp
              with_reducible rfl
            rotate_left
            · simp only [Act.put, List.setIfInBounds_toArray, List.set_cons_zero, List.set_cons_succ, i64_w, i32_w]
              rfl
            refine take_ (i := 13) (N := some 31) (v := ?_) (a' := ?_) #[true, true, true, true, true, true, true, true, true, true, true, true, true, true, false, false, false] rfl rfl (by kernel_rfl) (fun _ _ _ h => h) (Or.inl ⟨by rfl, ?_⟩) hHeld ?_ ?_
            rotate_left
            · rintro w' ⟨s0, s1, s2, s3, s4, s5⟩
              go_simp
              with_reducible rfl
            rotate_left
            · simp only [Act.put, List.setIfInBounds_toArray, List.set_cons_zero, List.set_cons_succ, i64_w, i32_w]
              rfl
            refine last_ (i := 14) (N := some 32) #[true, true, true, true, true, true, true, true, true, true, true, true, true, true, true, false, false] rfl rfl (by kernel_rfl) (by decide) (fun K hK => ?_)
            refine goesC_ (caps := caps) Try.func57 (by kernel_rfl) rfl #[.agg #[.int .i64 ((Srt.g z49 ys gk)).f0, .int .i64 ((Srt.g z49 ys gk)).f1, .int .i64 ((Srt.g z49 ys gk)).f2], .agg #[.int .i64 ((Srt.g z49 ys j)).f0, .int .i64 ((Srt.g z49 ys j)).f1, .int .i64 ((Srt.g z49 ys j)).f2]] (by rfl) rfl rfl rfl (by (try simp only [List.map_toArray, List.map_cons, List.map_nil]); first | done | rfl) ?_
            refine (HC.out _ _ _ HQ1.out HQ2.out HSE.out.inv).mono ?_
            rintro e w3 ⟨v, rfl, hv, hb3⟩
            rw [HLT.out] at hv
            refine ⟨_, rfl, ?_⟩
            have HS3 := Aside0.mk (HSE.out.step hI hb3)
            refine hK.out _ _ ?_
            clear hK K hb3
            refine norm_ (a' := ?_) ?_ ?_
            rotate_left
            · show Act.put _ (some 32) _ = _
              simp only [Act.put, List.setIfInBounds_toArray, List.set_cons_zero, List.set_cons_succ, i64_w, i32_w]
              rfl
            refine pure_ (i := 15) (N := some 33) (v := ?_) (a' := ?_) #[true, true, true, true, true, true, true, true, true, true, true, true, true, true, true, true, false] rfl rfl (by kernel_rfl) (fun _ _ _ h => h) (Or.inl ⟨by rfl, ?_⟩) ?_ ?_
            rotate_left
            · intro w'
              go_simp
              with_reducible rfl
            rotate_left
            · simp only [Act.put, List.setIfInBounds_toArray, List.set_cons_zero, List.set_cons_succ, i64_w, i32_w]
              rfl
            refine pure_ (i := 16) (N := some 34) (v := ?_) (a' := ?_) #[true, true, true, true, true, true, true, true, true, true, true, true, true, true, true, true, true] rfl rfl (by kernel_rfl) (fun _ _ _ h => h) (Or.inl ⟨by rfl, ?_⟩) ?_ ?_
            rotate_left
            · intro w'
              go_simp
              with_reducible rfl
            rotate_left
            · simp only [Act.put, List.setIfInBounds_toArray, List.set_cons_zero, List.set_cons_succ, i64_w, i32_w]
              rfl
            refine done_ (by kernel_rfl) ?_
            clear hHeld hx hy
            go_wp2
            go_roundg k'
            case measure => omega
            case rel => exact ⟨i + 1, ys, by go_num, ⟨by omega, by omega⟩, ⟨by rw [HG.out]; exact HF.out⟩, HS3⟩
        · have hgi := HFi.out
          have hys : ys = Srt.insIn z49 lt a i xs := by
            rw [← hgi]
            cases gk with
            | zero => rfl
            | succ j => rw [Srt.insIn, if_neg haj]
          have HG := Aside0.mk hys
          have hgt2 := decide_eq_false (show ¬ (a : Int) < (gk : Int) by omega)
          clear hgi hys
          go_wp2_with fail
          refine start_ (n := 17) (S := fun _ => True) (ds := []) #[false, false, false, false, false, false, false, false, false, false, false, false, false, false, false, false, false] (by kernel_rfl) rfl rfl trivial (fun hHeld => ?_)
          refine pure_ (i := 0) (N := some 18) (v := ?_) (a' := ?_) #[true, false, false, false, false, false, false, false, false, false, false, false, false, false, false, false, false] rfl rfl (by kernel_rfl) (fun _ _ _ h => h) (Or.inl ⟨by rfl, ?_⟩) ?_ ?_
          rotate_left
          · intro w'
            go_simp
            with_reducible rfl
          rotate_left
          · simp only [Act.put, List.setIfInBounds_toArray, List.set_cons_zero, List.set_cons_succ, i64_w, i32_w]
            rfl
          refine pure_ (i := 1) (N := some 19) (v := ?_) (a' := ?_) #[true, true, false, false, false, false, false, false, false, false, false, false, false, false, false, false, false] rfl rfl (by kernel_rfl) (fun _ _ _ h => h) (Or.inl ⟨by rfl, ?_⟩) ?_ ?_
          rotate_left
          · intro w'
            go_simp
            with_reducible rfl
          rotate_left
          · simp only [Act.put, List.setIfInBounds_toArray, List.set_cons_zero, List.set_cons_succ, i64_w, i32_w]
            rfl
          refine pure_ (i := 2) (N := some 20) (v := ?_) (a' := ?_) #[true, true, true, false, false, false, false, false, false, false, false, false, false, false, false, false, false] rfl rfl (by kernel_rfl) (fun _ _ _ h => h) (Or.inl ⟨by rfl, ?_⟩) ?_ ?_
          rotate_left
          · intro w'
            go_simp
            with_reducible rfl
          rotate_left
          · simp only [Act.put, List.setIfInBounds_toArray, List.set_cons_zero, List.set_cons_succ, i64_w, i32_w]
            rfl
          refine pure_ (i := 3) (N := some 21) (v := ?_) (a' := ?_) #[true, true, true, true, false, false, false, false, false, false, false, false, false, false, false, false, false] rfl rfl (by kernel_rfl) (fun _ _ _ h => h) (Or.inl ⟨by rfl, ?_⟩) ?_ ?_
          rotate_left
          · intro w'
            go_simp
            with_reducible rfl
          rotate_left
          · simp only [Act.put, List.setIfInBounds_toArray, List.set_cons_zero, List.set_cons_succ, i64_w, i32_w]
            rfl
          refine pure_ (i := 4) (N := some 22) (v := undef) (a' := ?_) #[true, true, true, true, true, false, false, false, false, false, false, false, false, false, false, false, false] rfl rfl (by kernel_rfl) (fun _ _ _ h => h) (Or.inr ⟨by rfl, rfl⟩) ?_ ?_
          rotate_left
          · simp only [Act.put, List.setIfInBounds_toArray, List.set_cons_zero, List.set_cons_succ, i64_w, i32_w]
            rfl
          refine pure_ (i := 5) (N := some 23) (v := undef) (a' := ?_) #[true, true, true, true, true, true, false, false, false, false, false, false, false, false, false, false, false] rfl rfl (by kernel_rfl) (fun _ _ _ h => h) (Or.inr ⟨by rfl, rfl⟩) ?_ ?_
          rotate_left
          · simp only [Act.put, List.setIfInBounds_toArray, List.set_cons_zero, List.set_cons_succ, i64_w, i32_w]
            rfl
          refine pure_ (i := 6) (N := some 24) (v := undef) (a' := ?_) #[true, true, true, true, true, true, true, false, false, false, false, false, false, false, false, false, false] rfl rfl (by kernel_rfl) (fun _ _ _ h => h) (Or.inr ⟨by rfl, rfl⟩) ?_ ?_
          rotate_left
          · simp only [Act.put, List.setIfInBounds_toArray, List.set_cons_zero, List.set_cons_succ, i64_w, i32_w]
            rfl
          refine pure_ (i := 7) (N := some 25) (v := undef) (a' := ?_) #[true, true, true, true, true, true, true, true, false, false, false, false, false, false, false, false, false] rfl rfl (by kernel_rfl) (fun _ _ _ h => h) (Or.inr ⟨by rfl, rfl⟩) ?_ ?_
          rotate_left
          · simp only [Act.put, List.setIfInBounds_toArray, List.set_cons_zero, List.set_cons_succ, i64_w, i32_w]
            rfl
          refine pure_ (i := 8) (N := some 26) (v := undef) (a' := ?_) #[true, true, true, true, true, true, true, true, true, false, false, false, false, false, false, false, false] rfl rfl (by kernel_rfl) (fun _ _ _ h => h) (Or.inr ⟨by rfl, rfl⟩) ?_ ?_
          rotate_left
          · simp only [Act.put, List.setIfInBounds_toArray, List.set_cons_zero, List.set_cons_succ, i64_w, i32_w]
            rfl
          refine pure_ (i := 9) (N := some 27) (v := undef) (a' := ?_) #[true, true, true, true, true, true, true, true, true, true, false, false, false, false, false, false, false] rfl rfl (by kernel_rfl) (fun _ _ _ h => h) (Or.inr ⟨by rfl, rfl⟩) ?_ ?_
          rotate_left
          · simp only [Act.put, List.setIfInBounds_toArray, List.set_cons_zero, List.set_cons_succ, i64_w, i32_w]
            rfl
          refine pure_ (i := 10) (N := some 28) (v := undef) (a' := ?_) #[true, true, true, true, true, true, true, true, true, true, true, false, false, false, false, false, false] rfl rfl (by kernel_rfl) (fun _ _ _ h => h) (Or.inr ⟨by rfl, rfl⟩) ?_ ?_
          rotate_left
          · simp only [Act.put, List.setIfInBounds_toArray, List.set_cons_zero, List.set_cons_succ, i64_w, i32_w]
            rfl
          refine pure_ (i := 11) (N := some 29) (v := undef) (a' := ?_) #[true, true, true, true, true, true, true, true, true, true, true, true, false, false, false, false, false] rfl rfl (by kernel_rfl) (fun _ _ _ h => h) (Or.inr ⟨by rfl, rfl⟩) ?_ ?_
          rotate_left
          · simp only [Act.put, List.setIfInBounds_toArray, List.set_cons_zero, List.set_cons_succ, i64_w, i32_w]
            rfl
          refine pure_ (i := 12) (N := some 30) (v := undef) (a' := ?_) #[true, true, true, true, true, true, true, true, true, true, true, true, true, false, false, false, false] rfl rfl (by kernel_rfl) (fun _ _ _ h => h) (Or.inr ⟨by rfl, rfl⟩) ?_ ?_
          rotate_left
          · simp only [Act.put, List.setIfInBounds_toArray, List.set_cons_zero, List.set_cons_succ, i64_w, i32_w]
            rfl
          refine pure_ (i := 13) (N := some 31) (v := undef) (a' := ?_) #[true, true, true, true, true, true, true, true, true, true, true, true, true, true, false, false, false] rfl rfl (by kernel_rfl) (fun _ _ _ h => h) (Or.inr ⟨by rfl, rfl⟩) ?_ ?_
          rotate_left
          · simp only [Act.put, List.setIfInBounds_toArray, List.set_cons_zero, List.set_cons_succ, i64_w, i32_w]
            rfl
          refine pure_ (i := 14) (N := some 32) (v := undef) (a' := ?_) #[true, true, true, true, true, true, true, true, true, true, true, true, true, true, true, false, false] rfl rfl (by kernel_rfl) (fun _ _ _ h => h) (Or.inr ⟨by rfl, rfl⟩) ?_ ?_
          rotate_left
          · simp only [Act.put, List.setIfInBounds_toArray, List.set_cons_zero, List.set_cons_succ, i64_w, i32_w]
            rfl
          refine pure_ (i := 15) (N := some 33) (v := undef) (a' := ?_) #[true, true, true, true, true, true, true, true, true, true, true, true, true, true, true, true, false] rfl rfl (by kernel_rfl) (fun _ _ _ h => h) (Or.inr ⟨by rfl, rfl⟩) ?_ ?_
          rotate_left
          · simp only [Act.put, List.setIfInBounds_toArray, List.set_cons_zero, List.set_cons_succ, i64_w, i32_w]
            rfl
          refine pure_ (i := 16) (N := some 34) (v := ?_) (a' := ?_) #[true, true, true, true, true, true, true, true, true, true, true, true, true, true, true, true, true] rfl rfl (by kernel_rfl) (fun _ _ _ h => h) (Or.inl ⟨by rfl, ?_⟩) ?_ ?_
          rotate_left
          · intro w'
            go_simp
            with_reducible rfl
          rotate_left
          · simp only [Act.put, List.setIfInBounds_toArray, List.set_cons_zero, List.set_cons_succ, i64_w, i32_w]
            rfl
          refine done_ (by kernel_rfl) ?_
          clear hHeld
          go_wp2
          go_roundg k'
          case measure => omega
          case rel => exact ⟨i + 1, ys, by go_num, ⟨by omega, by omega⟩, ⟨by rw [HG.out]; exact HF.out⟩, by first | exact HWi | exact ⟨HWi.out.step hI (below_drew1 (Below.refl _ _))⟩⟩
    · obtain rfl : gk = 0 := by omega
      have hg : xs = Srt.insF z49 lt a b xs0 := HF.out
      have HG := Aside0.mk hg
      clear hg
      go_wp2_with fail
      refine ⟨rfl, .tuple #[], ?_, ⟨_, rfl⟩, ?_⟩
      · simp [results, Try.results102, go_sem]
      · rw [← HG.out]; exact HW.out
theorem bs_step (p : Nat → Bool) (k lo hi mid : Nat) (h : lo < hi) (hm : (lo + hi) / 2 = mid) : Srt.bs p (k + 1) lo hi = if p mid = true then Srt.bs p k (mid + 1) hi else Srt.bs p k lo mid := by
  rw [Srt.bs, if_pos h, hm]
theorem bs_end (p : Nat → Bool) (k lo hi : Nat) (h : ¬ lo < hi) : Srt.bs p k lo hi = lo := by
  cases k with
  | zero => rfl
  | succ k => rw [Srt.bs, if_neg h]
end Go.Proofs.Ytocndpddghefhaa.X
end
section
namespace Go.Proofs.Ytocndpddghefhaa.X
open Go.RowKit Go.Proofs.YtocndpddghefhaaW.PrintWords Go.Proofs.YtocndpddghefhaaW.PrintLast Go.Proofs.YtocndpddghefhaaW.PrintMore
attribute [local go_sem] max2_int min2_int max_two min_two max_three min_three max_four min_four
set_option linter.unusedVariables false
set_option linter.unusedSimpArgs false
set_option maxHeartbeats 8000000 in
set_option maxRecDepth 100000 in
theorem sym_one (g c N : Nat) (w0 : World) (I : World → Prop) (Q : S49 → Prop) (lt : S49 → S49 → Bool) (caps : Array Value) (hI : Stays g I) (hC : Cmp caps I Q lt) (hN2 : N ≤ 4611686018427387903) (f : Nat) (a m b : Nat) (xs0 : List S49) (w : World) (h : SS g c N w0 I Q w xs0) (ham : a < m) (hmb : m < b) (hbN : b ≤ N) (hf : b - a ≤ f + 1) (c1 : m - a = 1) :
    Calls Try.prog 103 #[.slice (some ⟨g, 0, none⟩) N c, .int .i64 (a : Int), .int .i64 (m : Int), .int .i64 (b : Int), .func (.func 57) #[] caps] w fun e w' => (∃ r, e = .returned r) ∧ SS g c N w0 I Q w' (Srt.symF z49 lt (f + 1) a m b xs0) := by
  have HS := Aside0.mk h
  have HC := Aside0.mk hC
  clear h hC
  obtain ⟨st, hst⟩ : ∃ st, Srt.bs (fun h => lt (Srt.g z49 xs0 h) (Srt.g z49 xs0 a)) (b - m) m b = st := ⟨_, rfl⟩
  have hF : Srt.symF z49 lt (f + 1) a m b xs0 = Srt.up z49 (st - 1 - a) a xs0 := by
    rw [Srt.symF, if_pos c1]
    dsimp only
    rw [hst]
  obtain ⟨s1, hs1⟩ : ∃ s1, st - 1 = s1 := ⟨_, rfl⟩
  rw [hF, hs1]
  have HST := Aside0.mk hst
  have HS1 := Aside0.mk hs1
  clear hs1
  have hc1 : (m : Int) - (a : Int) = 1 := by omega
  clear hst hF
  go_enter Try.func103, Try.ntmps103
  go_wp2_with fail
  go_loopg [10, 11] (b - m) (fun kq v10 v11 wr => ∃ lo hi : Nat, v10 = .int .i64 (lo : Int) ∧ v11 = .int .i64 (hi : Int) ∧ Aside0 (m ≤ lo ∧ lo ≤ hi ∧ hi ≤ b ∧ hi - lo ≤ kq) ∧ Aside0 (Srt.bs (fun h => lt (Srt.g z49 xs0 h) (Srt.g z49 xs0 a)) kq lo hi = st) ∧ Aside0 (SS g c N w0 I Q wr xs0))
  case atStart => exact ⟨m, b, rfl, rfl, ⟨by omega, by omega, by omega, by omega⟩, HST, HS⟩
  case round =>
    obtain ⟨lo, hi, rfl, rfl, HK, HF, HW⟩ := hrel
    obtain ⟨k1, k2, k3, k4⟩ := HK.out
    by_cases hlt : lo < hi
    · obtain ⟨k', rfl⟩ : ∃ k', gk = k' + 1 := ⟨gk - 1, by omega⟩
      obtain ⟨mid, hm⟩ : ∃ mid, (lo + hi) / 2 = mid := ⟨_, rfl⟩
      have hg := HF.out
      rw [bs_step _ _ _ _ _ hlt hm] at hg
      have hi1 : mid < N := by omega
      have hi2 : a < N := by omega
      have hq1 := HW.out.qg mid hi1
      have HQ1 := Aside0.mk hq1
      clear hq1
      have hx := HW.out.cell mid hi1
      have hb0 := eq_true (show 0 ≤ (mid : Int) by omega)
      have hb1 := eq_true (show (mid : Int) < (N : Int) by omega)
      have hq2 := HW.out.qg a hi2
      have HQ2 := Aside0.mk hq2
      clear hq2
      have hy := HW.out.cell a hi2
      have hb2 := eq_true (show 0 ≤ (a : Int) by omega)
      have hb3 := eq_true (show (a : Int) < (N : Int) by omega)
      have hmd : ((lo : Int) + (hi : Int)) / 2 = (mid : Int) := by omega
      have b5 : lo ≤ mid := by omega
      have b6 : mid < hi := by omega
      cases hlt2 : lt (Srt.g z49 xs0 mid) (Srt.g z49 xs0 a) with
      | true =>
        rw [hlt2, if_pos rfl] at hg
        have HG := Aside0.mk hg
        have HLT := Aside0.mk hlt2
        have HM := Aside0.mk hm
        clear hg hlt2 hm
        go_wp2_with fail
        refine start_ (n := 11) (S := fun w' => w'.cell? ⟨g, (mid) * 3, none⟩ = some (.int .i64 (Srt.g z49 xs0 (mid)).f0) ∧ w'.cell? ⟨g, (mid) * 3 + 1, none⟩ = some (.int .i64 (Srt.g z49 xs0 (mid)).f1) ∧ w'.cell? ⟨g, (mid) * 3 + 2, none⟩ = some (.int .i64 (Srt.g z49 xs0 (mid)).f2) ∧ w'.cell? ⟨g, (a) * 3, none⟩ = some (.int .i64 (Srt.g z49 xs0 (a)).f0) ∧ w'.cell? ⟨g, (a) * 3 + 1, none⟩ = some (.int .i64 (Srt.g z49 xs0 (a)).f1) ∧ w'.cell? ⟨g, (a) * 3 + 2, none⟩ = some (.int .i64 (Srt.g z49 xs0 (a)).f2)) (ds := [9]) #[false, false, false, false, false, false, false, false, false, false, false] (by kernel_rfl) rfl rfl ⟨hx.1, hx.2.1, hx.2.2, hy.1, hy.2.1, hy.2.2⟩ (fun hHeld => ?_)
        obtain ⟨E, hE⟩ : ∃ E, wr.drew = E := ⟨_, rfl⟩
        have HSE := Aside0.mk (show SS g c N w0 I Q E xs0 by rw [← hE]; exact HW.out.step hI (below_drew1 (Below.refl _ _)))
        rw [hE] at hHeld ⊢
        clear hE
        refine pure_ (i := 0) (N := some 40) (v := ?_) (a' := ?_) #[true, false, false, false, false, false, false, false, false, false, false] rfl rfl (by kernel_rfl) (fun _ _ _ h => h) (Or.inl ⟨by rfl, ?_⟩) ?_ ?_
        rotate_left
        · intro w'
          go_simp
          with_reducible rfl
        rotate_left
        · simp only [Act.put, List.setIfInBounds_toArray, List.set_cons_zero, List.set_cons_succ, i64_w, i32_w]
          rfl
        refine pure_ (i := 1) (N := some 41) (v := ?_) (a' := ?_) #[true, true, false, false, false, false, false, false, false, false, false] rfl rfl (by kernel_rfl) (fun _ _ _ h => h) (Or.inl ⟨by rfl, ?_⟩) ?_ ?_
        rotate_left
        · intro w'
          go_simp
          with_reducible rfl
        rotate_left
        · simp only [Act.put, List.setIfInBounds_toArray, List.set_cons_zero, List.set_cons_succ, i64_w, i32_w]
          rfl
        refine pure_ (i := 2) (N := some 42) (v := ?_) (a' := ?_) #[true, true, true, false, false, false, false, false, false, false, false] rfl rfl (by kernel_rfl) (fun _ _ _ h => h) (Or.inl ⟨by rfl, ?_⟩) ?_ ?_
        rotate_left
        · intro w'
          go_simp
          with_reducible rfl
        rotate_left
        · simp only [Act.put, List.setIfInBounds_toArray, List.set_cons_zero, List.set_cons_succ, i64_w, i32_w]
          rfl
        refine pure_ (i := 3) (N := some 43) (v := ?_) (a' := ?_) #[true, true, true, true, false, false, false, false, false, false, false] rfl rfl (by kernel_rfl) (fun _ _ _ h => h) (Or.inl ⟨by rfl, ?_⟩) ?_ ?_
        rotate_left
        · intro w'
          go_simp
          with_reducible rfl
        rotate_left
        · simp only [Act.put, List.setIfInBounds_toArray, List.set_cons_zero, List.set_cons_succ, i64_w, i32_w]
          rfl
        refine take_ (i := 4) (N := some 44) (v := ?_) (a' := ?_) #[true, true, true, true, true, false, false, false, false, false, false] rfl rfl (by kernel_rfl) (fun _ _ _ h => h) (Or.inl ⟨by rfl, ?_⟩) hHeld ?_ ?_
        rotate_left
        · rintro w' ⟨s0, s1, s2, s3, s4, s5⟩
          go_simp
          with_reducible rfl
        rotate_left
        · simp only [Act.put, List.setIfInBounds_toArray, List.set_cons_zero, List.set_cons_succ, i64_w, i32_w]
          rfl
        refine pure_ (i := 5) (N := some 45) (v := ?_) (a' := ?_) #[true, true, true, true, true, true, false, false, false, false, false] rfl rfl (by kernel_rfl) (fun _ _ _ h => h) (Or.inl ⟨by rfl, ?_⟩) ?_ ?_
        rotate_left
        · intro w'
          go_simp
          with_reducible rfl
        rotate_left
        · simp only [Act.put, List.setIfInBounds_toArray, List.set_cons_zero, List.set_cons_succ, i64_w, i32_w]
          rfl
        refine pure_ (i := 6) (N := some 46) (v := ?_) (a' := ?_) #[true, true, true, true, true, true, true, false, false, false, false] rfl rfl (by kernel_rfl) (fun _ _ _ h => h) (Or.inl ⟨by rfl, ?_⟩) ?_ ?_
        rotate_left
        · intro w'
          go_simp
          with_reducible rfl
        rotate_left
        · simp only [Act.put, List.setIfInBounds_toArray, List.set_cons_zero, List.set_cons_succ, i64_w, i32_w]
          rfl
        refine pure_ (i := 7) (N := some 47) (v := ?_) (a' := ?_) #[true, true, true, true, true, true, true, true, false, false, false] rfl rfl (by kernel_rfl) (fun _ _ _ h => h) (Or.inl ⟨by rfl, ?_⟩) ?_ ?_
        rotate_left
        · intro w'
          go_simp
          with_reducible rfl
        rotate_left
        · simp only [Act.put, List.setIfInBounds_toArray, List.set_cons_zero, List.set_cons_succ, i64_w, i32_w]
          rfl
        refine take_ (i := 8) (N := some 48) (v := ?_) (a' := ?_) #[true, true, true, true, true, true, true, true, true, false, false] rfl rfl (by kernel_rfl) (fun _ _ _ h => h) (Or.inl ⟨by rfl, ?_⟩) hHeld ?_ ?_
        rotate_left
        · rintro w' ⟨s0, s1, s2, s3, s4, s5⟩
          go_simp
          with_reducible rfl
        rotate_left
        · simp only [Act.put, List.setIfInBounds_toArray, List.set_cons_zero, List.set_cons_succ, i64_w, i32_w]
          rfl
        refine last_ (i := 9) (N := some 49) #[true, true, true, true, true, true, true, true, true, true, false] rfl rfl (by kernel_rfl) (by decide) (fun K hK => ?_)
        refine goesC_ (caps := caps) Try.func57 (by kernel_rfl) rfl #[.agg #[.int .i64 ((Srt.g z49 xs0 mid)).f0, .int .i64 ((Srt.g z49 xs0 mid)).f1, .int .i64 ((Srt.g z49 xs0 mid)).f2], .agg #[.int .i64 ((Srt.g z49 xs0 a)).f0, .int .i64 ((Srt.g z49 xs0 a)).f1, .int .i64 ((Srt.g z49 xs0 a)).f2]] (by rfl) rfl rfl rfl (by (try simp only [List.map_toArray, List.map_cons, List.map_nil]); first | done | rfl) ?_
        refine (HC.out _ _ _ HQ1.out HQ2.out HSE.out.inv).mono ?_
        rintro e w3 ⟨v, rfl, hv, hb3⟩
        rw [HLT.out] at hv
        refine ⟨_, rfl, ?_⟩
        have HS3 := Aside0.mk (HSE.out.step hI hb3)
        refine hK.out _ _ ?_
        clear hK K hb3
        refine norm_ (a' := ?_) ?_ ?_
        rotate_left
        · show Act.put _ (some 49) _ = _
          simp only [Act.put, List.setIfInBounds_toArray, List.set_cons_zero, List.set_cons_succ, i64_w, i32_w]
          rfl
        refine pure_ (i := 10) (N := some 50) (v := ?_) (a' := ?_) #[true, true, true, true, true, true, true, true, true, true, true] rfl rfl (by kernel_rfl) (fun _ _ _ h => h) (Or.inl ⟨by rfl, ?_⟩) ?_ ?_
        rotate_left
        · intro w'
          go_simp
          with_reducible rfl
        rotate_left
        · simp only [Act.put, List.setIfInBounds_toArray, List.set_cons_zero, List.set_cons_succ, i64_w, i32_w]
          rfl
        refine done_ (by kernel_rfl) ?_
        clear hHeld hx hy
        go_wp2
        go_roundg k'
        case measure => omega
        case rel => exact ⟨mid + 1, hi, by go_num, rfl, ⟨by omega, by omega, by omega, by omega⟩, HG, HS3⟩
      | false =>
        rw [hlt2, if_neg (by decide)] at hg
        have HG := Aside0.mk hg
        have HLT := Aside0.mk hlt2
        have HM := Aside0.mk hm
        clear hg hlt2 hm
        go_wp2_with fail
        refine start_ (n := 11) (S := fun w' => w'.cell? ⟨g, (mid) * 3, none⟩ = some (.int .i64 (Srt.g z49 xs0 (mid)).f0) ∧ w'.cell? ⟨g, (mid) * 3 + 1, none⟩ = some (.int .i64 (Srt.g z49 xs0 (mid)).f1) ∧ w'.cell? ⟨g, (mid) * 3 + 2, none⟩ = some (.int .i64 (Srt.g z49 xs0 (mid)).f2) ∧ w'.cell? ⟨g, (a) * 3, none⟩ = some (.int .i64 (Srt.g z49 xs0 (a)).f0) ∧ w'.cell? ⟨g, (a) * 3 + 1, none⟩ = some (.int .i64 (Srt.g z49 xs0 (a)).f1) ∧ w'.cell? ⟨g, (a) * 3 + 2, none⟩ = some (.int .i64 (Srt.g z49 xs0 (a)).f2)) (ds := [9]) #[false, false, false, false, false, false, false, false, false, false, false] (by kernel_rfl) rfl rfl ⟨hx.1, hx.2.1, hx.2.2, hy.1, hy.2.1, hy.2.2⟩ (fun hHeld => ?_)
        obtain ⟨E, hE⟩ : ∃ E, wr.drew = E := ⟨_, rfl⟩
        have HSE := Aside0.mk (show SS g c N w0 I Q E xs0 by rw [← hE]; exact HW.out.step hI (below_drew1 (Below.refl _ _)))
        rw [hE] at hHeld ⊢
        clear hE
        refine pure_ (i := 0) (N := some 40) (v := ?_) (a' := ?_) #[true, false, false, false, false, false, false, false, false, false, false] rfl rfl (by kernel_rfl) (fun _ _ _ h => h) (Or.inl ⟨by rfl, ?_⟩) ?_ ?_
        rotate_left
        · intro w'
          go_simp
          with_reducible rfl
        rotate_left
        · simp only [Act.put, List.setIfInBounds_toArray, List.set_cons_zero, List.set_cons_succ, i64_w, i32_w]
          rfl
        refine pure_ (i := 1) (N := some 41) (v := ?_) (a' := ?_) #[true, true, false, false, false, false, false, false, false, false, false] rfl rfl (by kernel_rfl) (fun _ _ _ h => h) (Or.inl ⟨by rfl, ?_⟩) ?_ ?_
        rotate_left
        · intro w'
          go_simp
          with_reducible rfl
        rotate_left
        · simp only [Act.put, List.setIfInBounds_toArray, List.set_cons_zero, List.set_cons_succ, i64_w, i32_w]
          rfl
        refine pure_ (i := 2) (N := some 42) (v := ?_) (a' := ?_) #[true, true, true, false, false, false, false, false, false, false, false] rfl rfl (by kernel_rfl) (fun _ _ _ h => h) (Or.inl ⟨by rfl, ?_⟩) ?_ ?_
        rotate_left
        · intro w'
          go_simp
          with_reducible rfl
        rotate_left
        · simp only [Act.put, List.setIfInBounds_toArray, List.set_cons_zero, List.set_cons_succ, i64_w, i32_w]
          rfl
        refine pure_ (i := 3) (N := some 43) (v := ?_) (a' := ?_) #[true, true, true, true, false, false, false, false, false, false, false] rfl rfl (by kernel_rfl) (fun _ _ _ h => h) (Or.inl ⟨by rfl, ?_⟩) ?_ ?_
        rotate_left
        · intro w'
          go_simp
          with_reducible rfl
        rotate_left
        · simp only [Act.put, List.setIfInBounds_toArray, List.set_cons_zero, List.set_cons_succ, i64_w, i32_w]
          rfl
        refine take_ (i := 4) (N := some 44) (v := ?_) (a' := ?_) #[true, true, true, true, true, false, false, false, false, false, false] rfl rfl (by kernel_rfl) (fun _ _ _ h => h) (Or.inl ⟨by rfl, ?_⟩) hHeld ?_ ?_
        rotate_left
        · rintro w' ⟨s0, s1, s2, s3, s4, s5⟩
          go_simp
          with_reducible rfl
        rotate_left
        · simp only [Act.put, List.setIfInBounds_toArray, List.set_cons_zero, List.set_cons_succ, i64_w, i32_w]
          rfl
        refine pure_ (i := 5) (N := some 45) (v := ?_) (a' := ?_) #[true, true, true, true, true, true, false, false, false, false, false] rfl rfl (by kernel_rfl) (fun _ _ _ h => h) (Or.inl ⟨by rfl, ?_⟩) ?_ ?_
        rotate_left
        · intro w'
          go_simp
          with_reducible rfl
        rotate_left
        · simp only [Act.put, List.setIfInBounds_toArray, List.set_cons_zero, List.set_cons_succ, i64_w, i32_w]
          rfl
        refine pure_ (i := 6) (N := some 46) (v := ?_) (a' := ?_) #[true, true, true, true, true, true, true, false, false, false, false] rfl rfl (by kernel_rfl) (fun _ _ _ h => h) (Or.inl ⟨by rfl, ?_⟩) ?_ ?_
        rotate_left
        · intro w'
          go_simp
          with_reducible rfl
        rotate_left
        · simp only [Act.put, List.setIfInBounds_toArray, List.set_cons_zero, List.set_cons_succ, i64_w, i32_w]
          rfl
        refine pure_ (i := 7) (N := some 47) (v := ?_) (a' := ?_) #[true, true, true, true, true, true, true, true, false, false, false] rfl rfl (by kernel_rfl) (fun _ _ _ h => h) (Or.inl ⟨by rfl, ?_⟩) ?_ ?_
        rotate_left
        · intro w'
          go_simp
          with_reducible rfl
        rotate_left
        · simp only [Act.put, List.setIfInBounds_toArray, List.set_cons_zero, List.set_cons_succ, i64_w, i32_w]
          rfl
        refine take_ (i := 8) (N := some 48) (v := ?_) (a' := ?_) #[true, true, true, true, true, true, true, true, true, false, false] rfl rfl (by kernel_rfl) (fun _ _ _ h => h) (Or.inl ⟨by rfl, ?_⟩) hHeld ?_ ?_
        rotate_left
        · rintro w' ⟨s0, s1, s2, s3, s4, s5⟩
          go_simp
          with_reducible rfl
        rotate_left
        · simp only [Act.put, List.setIfInBounds_toArray, List.set_cons_zero, List.set_cons_succ, i64_w, i32_w]
          rfl
        refine last_ (i := 9) (N := some 49) #[true, true, true, true, true, true, true, true, true, true, false] rfl rfl (by kernel_rfl) (by decide) (fun K hK => ?_)
        refine goesC_ (caps := caps) Try.func57 (by kernel_rfl) rfl #[.agg #[.int .i64 ((Srt.g z49 xs0 mid)).f0, .int .i64 ((Srt.g z49 xs0 mid)).f1, .int .i64 ((Srt.g z49 xs0 mid)).f2], .agg #[.int .i64 ((Srt.g z49 xs0 a)).f0, .int .i64 ((Srt.g z49 xs0 a)).f1, .int .i64 ((Srt.g z49 xs0 a)).f2]] (by rfl) rfl rfl rfl (by (try simp only [List.map_toArray, List.map_cons, List.map_nil]); first | done | rfl) ?_
        refine (HC.out _ _ _ HQ1.out HQ2.out HSE.out.inv).mono ?_
        rintro e w3 ⟨v, rfl, hv, hb3⟩
        rw [HLT.out] at hv
        refine ⟨_, rfl, ?_⟩
        have HS3 := Aside0.mk (HSE.out.step hI hb3)
        refine hK.out _ _ ?_
        clear hK K hb3
        refine norm_ (a' := ?_) ?_ ?_
        rotate_left
        · show Act.put _ (some 49) _ = _
          simp only [Act.put, List.setIfInBounds_toArray, List.set_cons_zero, List.set_cons_succ, i64_w, i32_w]
          rfl
        refine pure_ (i := 10) (N := some 50) (v := ?_) (a' := ?_) #[true, true, true, true, true, true, true, true, true, true, true] rfl rfl (by kernel_rfl) (fun _ _ _ h => h) (Or.inl ⟨by rfl, ?_⟩) ?_ ?_
        rotate_left
        · intro w'
          go_simp
          with_reducible rfl
        rotate_left
        · simp only [Act.put, List.setIfInBounds_toArray, List.set_cons_zero, List.set_cons_succ, i64_w, i32_w]
          rfl
        refine done_ (by kernel_rfl) ?_
        clear hHeld hx hy
        go_wp2
        go_roundg k'
        case measure => omega
        case rel => exact ⟨lo, mid, rfl, by go_num, ⟨by omega, by omega, by omega, by omega⟩, HG, HS3⟩
    · have hg := HF.out
      rw [bs_end _ _ _ _ hlt] at hg
      subst hg
      have hs1' : (lo : Int) - 1 = (s1 : Int) := by have := HS1.out; omega
      go_wp2_with fail
      go_loopg [13] (s1 - a) (fun kq v13 wr => ∃ (k : Nat) (ys : List S49), v13 = .int .i64 (k : Int) ∧ Aside0 (a ≤ k ∧ kq + k = a + (s1 - a)) ∧ Aside0 (Srt.up z49 kq k ys = Srt.up z49 (s1 - a) a xs0) ∧ Aside0 (SS g c N w0 I Q wr ys))
      case atStart => exact ⟨a, xs0, rfl, ⟨by omega, by omega⟩, ⟨rfl⟩, HW⟩
      case round =>
        obtain ⟨k, ys, rfl, HJ, HFi, HWi⟩ := hrel
        obtain ⟨j1, j2⟩ := HJ.out
        have j3 := HS1.out
        by_cases hks : k < s1
        · obtain ⟨k', rfl⟩ : ∃ k', gk = k' + 1 := ⟨gk - 1, by omega⟩
          have hg : Srt.up z49 k' (k + 1) (Srt.sw z49 ys k (k + 1)) = Srt.up z49 (s1 - a) a xs0 := HFi.out
          have HG := Aside0.mk hg
          have hi1 : k < N := by omega
          have hi2 : k + 1 < N := by omega
          clear hg j3
          obtain ⟨P2_, hP2⟩ : ∃ P2_, k + 1 = P2_ := ⟨_, rfl⟩
          have hQ2 : ((k : Int) + (1 : Int)) = (P2_ : Int) := by omega
          have HP2 := Aside0.mk hP2
          rw [hP2] at hi2
          clear hP2
          have ht1 := eq_true (show 0 ≤ (k : Int) by omega)
          have hr1 := eq_true (show (k : Int) < (N : Int) by omega)
          have ht2 := eq_true (show 0 ≤ (P2_ : Int) by omega)
          have hr2 := eq_true (show (P2_ : Int) < (N : Int) by omega)
          have hu1 := w64m hi1 (by omega)
          have hu2 := w64m hi2 (by omega)
          have hx := HWi.out.cell (k) hi1
          have hy := HWi.out.cell (P2_) hi2
          have HD := HWi.out.step hI (below_drew1 (Below.refl _ _))
          have HA := HD.set1 hI (k) hi1 _ (HWi.out.qg (P2_) hi2)
          have HX := Aside0.mk (HA.set1 hI (P2_) hi2 _ (HWi.out.qg (k) hi1))
          have hs1 := Aside0.mk (run_storeVar_mid (P := Try.prog) _ g ((k) * 3) 49 #[.int .i64 ((Srt.g z49 ys (P2_))).f0, .int .i64 ((Srt.g z49 ys (P2_))).f1, .int .i64 ((Srt.g z49 ys (P2_))).f2] (HD.there (k) hi1) (by rw [info_size]; rfl) (all3 _ _ _))
          have hs2 := Aside0.mk (run_storeVar_mid (P := Try.prog) _ g ((P2_) * 3) 49 #[.int .i64 ((Srt.g z49 ys (k))).f0, .int .i64 ((Srt.g z49 ys (k))).f1, .int .i64 ((Srt.g z49 ys (k))).f2] (HA.there (P2_) hi2) (by rw [info_size]; rfl) (all3 _ _ _))
          clear HD HA
          go_wp2_with fail
          refine start_ (n := 18) (S := fun w' => w'.cell? ⟨g, (k) * 3, none⟩ = some (.int .i64 (Srt.g z49 ys (k)).f0) ∧ w'.cell? ⟨g, (k) * 3 + 1, none⟩ = some (.int .i64 (Srt.g z49 ys (k)).f1) ∧ w'.cell? ⟨g, (k) * 3 + 2, none⟩ = some (.int .i64 (Srt.g z49 ys (k)).f2) ∧ w'.cell? ⟨g, (P2_) * 3, none⟩ = some (.int .i64 (Srt.g z49 ys (P2_)).f0) ∧ w'.cell? ⟨g, (P2_) * 3 + 1, none⟩ = some (.int .i64 (Srt.g z49 ys (P2_)).f1) ∧ w'.cell? ⟨g, (P2_) * 3 + 2, none⟩ = some (.int .i64 (Srt.g z49 ys (P2_)).f2)) (ds := [15, 17]) #[false, false, false, false, false, false, false, false, false, false, false, false, false, false, false, false, false, false] (by kernel_rfl) rfl rfl ⟨hx.1, hx.2.1, hx.2.2, hy.1, hy.2.1, hy.2.2⟩ (fun hHeld => ?_)
          refine pure_ (i := 0) (N := some 61) (v := ?_) (a' := ?_) #[true, false, false, false, false, false, false, false, false, false, false, false, false, false, false, false, false, false] rfl rfl (by kernel_rfl) (fun _ _ _ h => h) (Or.inl ⟨by rfl, ?_⟩) ?_ ?_
          rotate_left
          · intro w'
            go_simp
            with_reducible rfl
          rotate_left
          · simp only [Act.put, List.setIfInBounds_toArray, List.set_cons_zero, List.set_cons_succ, i64_w, i32_w]
            rfl
          refine pure_ (i := 1) (N := some 62) (v := ?_) (a' := ?_) #[true, true, false, false, false, false, false, false, false, false, false, false, false, false, false, false, false, false] rfl rfl (by kernel_rfl) (fun _ _ _ h => h) (Or.inl ⟨by rfl, ?_⟩) ?_ ?_
          rotate_left
          · intro w'
            go_simp
            with_reducible rfl
          rotate_left
          · simp only [Act.put, List.setIfInBounds_toArray, List.set_cons_zero, List.set_cons_succ, i64_w, i32_w]
            rfl
          refine pure_ (i := 2) (N := some 63) (v := ?_) (a' := ?_) #[true, true, true, false, false, false, false, false, false, false, false, false, false, false, false, false, false, false] rfl rfl (by kernel_rfl) (fun _ _ _ h => h) (Or.inl ⟨by rfl, ?_⟩) ?_ ?_
          rotate_left
          · intro w'
            go_simp
            with_reducible rfl
          rotate_left
          · simp only [Act.put, List.setIfInBounds_toArray, List.set_cons_zero, List.set_cons_succ, i64_w, i32_w]
            rfl
          refine pure_ (i := 3) (N := some 64) (v := ?_) (a' := ?_) #[true, true, true, true, false, false, false, false, false, false, false, false, false, false, false, false, false, false] rfl rfl (by kernel_rfl) (fun _ _ _ h => h) (Or.inl ⟨by rfl, ?_⟩) ?_ ?_
          rotate_left
          · intro w'
            go_simp
            with_reducible rfl
          rotate_left
          · simp only [Act.put, List.setIfInBounds_toArray, List.set_cons_zero, List.set_cons_succ, i64_w, i32_w]
            rfl
          refine pure_ (i := 4) (N := some 65) (v := ?_) (a' := ?_) #[true, true, true, true, true, false, false, false, false, false, false, false, false, false, false, false, false, false] rfl rfl (by kernel_rfl) (fun _ _ _ h => h) (Or.inl ⟨by rfl, ?_⟩) ?_ ?_
          rotate_left
          · intro w'
            go_simp
            with_reducible rfl
          rotate_left
          · simp only [Act.put, List.setIfInBounds_toArray, List.set_cons_zero, List.set_cons_succ, i64_w, i32_w]
            rfl
          refine pure_ (i := 5) (N := some 66) (v := ?_) (a' := ?_) #[true, true, true, true, true, true, false, false, false, false, false, false, false, false, false, false, false, false] rfl rfl (by kernel_rfl) (fun _ _ _ h => h) (Or.inl ⟨by rfl, ?_⟩) ?_ ?_
          rotate_left
          · intro w'
            go_simp
            with_reducible rfl
          rotate_left
          · simp only [Act.put, List.setIfInBounds_toArray, List.set_cons_zero, List.set_cons_succ, i64_w, i32_w]
            rfl
          refine pure_ (i := 6) (N := some 67) (v := ?_) (a' := ?_) #[true, true, true, true, true, true, true, false, false, false, false, false, false, false, false, false, false, false] rfl rfl (by kernel_rfl) (fun _ _ _ h => h) (Or.inl ⟨by rfl, ?_⟩) ?_ ?_
          rotate_left
          · intro w'
            go_simp
            with_reducible rfl
          rotate_left
          · simp only [Act.put, List.setIfInBounds_toArray, List.set_cons_zero, List.set_cons_succ, i64_w, i32_w]
            rfl
          refine pure_ (i := 7) (N := some 68) (v := ?_) (a' := ?_) #[true, true, true, true, true, true, true, true, false, false, false, false, false, false, false, false, false, false] rfl rfl (by kernel_rfl) (fun _ _ _ h => h) (Or.inl ⟨by rfl, ?_⟩) ?_ ?_
          rotate_left
          · intro w'
            go_simp
            with_reducible rfl
          rotate_left
          · simp only [Act.put, List.setIfInBounds_toArray, List.set_cons_zero, List.set_cons_succ, i64_w, i32_w]
            rfl
          refine pure_ (i := 8) (N := some 69) (v := ?_) (a' := ?_) #[true, true, true, true, true, true, true, true, true, false, false, false, false, false, false, false, false, false] rfl rfl (by kernel_rfl) (fun _ _ _ h => h) (Or.inl ⟨by rfl, ?_⟩) ?_ ?_
          rotate_left
          · intro w'
            go_simp
            with_reducible rfl
          rotate_left
          · simp only [Act.put, List.setIfInBounds_toArray, List.set_cons_zero, List.set_cons_succ, i64_w, i32_w]
            rfl
          refine take_ (i := 9) (N := some 70) (v := ?_) (a' := ?_) #[true, true, true, true, true, true, true, true, true, true, false, false, false, false, false, false, false, false] rfl rfl (by kernel_rfl) (fun _ _ _ h => h) (Or.inl ⟨by rfl, ?_⟩) hHeld ?_ ?_
          rotate_left
          · rintro w' ⟨s0, s1, s2, s3, s4, s5⟩
            go_simp
            with_reducible rfl
          rotate_left
          · simp only [Act.put, List.setIfInBounds_toArray, List.set_cons_zero, List.set_cons_succ, i64_w, i32_w]
            rfl
          refine pure_ (i := 10) (N := some 71) (v := ?_) (a' := ?_) #[true, true, true, true, true, true, true, true, true, true, true, false, false, false, false, false, false, false] rfl rfl (by kernel_rfl) (fun _ _ _ h => h) (Or.inl ⟨by rfl, ?_⟩) ?_ ?_
          rotate_left
          · intro w'
            go_simp
            with_reducible rfl
          rotate_left
          · simp only [Act.put, List.setIfInBounds_toArray, List.set_cons_zero, List.set_cons_succ, i64_w, i32_w]
            rfl
          refine pure_ (i := 11) (N := some 72) (v := ?_) (a' := ?_) #[true, true, true, true, true, true, true, true, true, true, true, true, false, false, false, false, false, false] rfl rfl (by kernel_rfl) (fun _ _ _ h => h) (Or.inl ⟨by rfl, ?_⟩) ?_ ?_
          rotate_left
          · intro w'
            go_simp
            with_reducible rfl
          rotate_left
          · simp only [Act.put, List.setIfInBounds_toArray, List.set_cons_zero, List.set_cons_succ, i64_w, i32_w]
            rfl
          refine pure_ (i := 12) (N := some 73) (v := ?_) (a' := ?_) #[true, true, true, true, true, true, true, true, true, true, true, true, true, false, false, false, false, false] rfl rfl (by kernel_rfl) (fun _ _ _ h => h) (Or.inl ⟨by rfl, ?_⟩) ?_ ?_
          rotate_left
          · intro w'
            go_simp
            with_reducible rfl
          rotate_left
          · simp only [Act.put, List.setIfInBounds_toArray, List.set_cons_zero, List.set_cons_succ, i64_w, i32_w]
            rfl
          refine take_ (i := 13) (N := some 74) (v := ?_) (a' := ?_) #[true, true, true, true, true, true, true, true, true, true, true, true, true, true, false, false, false, false] rfl rfl (by kernel_rfl) (fun _ _ _ h => h) (Or.inl ⟨by rfl, ?_⟩) hHeld ?_ ?_
          rotate_left
          · rintro w' ⟨s0, s1, s2, s3, s4, s5⟩
            go_simp
            with_reducible rfl
          rotate_left
          · simp only [Act.put, List.setIfInBounds_toArray, List.set_cons_zero, List.set_cons_succ, i64_w, i32_w]
            rfl
          refine pure_ (i := 14) (N := some 75) (v := ?_) (a' := ?_) #[true, true, true, true, true, true, true, true, true, true, true, true, true, true, true, false, false, false] rfl rfl (by kernel_rfl) (fun _ _ _ h => h) (Or.inl ⟨by rfl, ?_⟩) ?_ ?_
          rotate_left
          · intro w'
            go_simp
            with_reducible rfl
          rotate_left
          · simp only [Act.put, List.setIfInBounds_toArray, List.set_cons_zero, List.set_cons_succ, i64_w, i32_w]
            rfl
          refine last_ (i := 15) (N := none) #[true, true, true, true, true, true, true, true, true, true, true, true, true, true, true, true, false, false] rfl rfl (by kernel_rfl) (by decide) (fun K hK => ?_)
          refine skip_ (w1 := _) (by rfl) rfl (store_run rfl rfl rfl hs1.out) ?_
          refine hK.out _ _ ?_
          clear hK K
          refine pure_ (i := 16) (N := some 76) (v := ?_) (a' := ?_) #[true, true, true, true, true, true, true, true, true, true, true, true, true, true, true, true, true, false] rfl rfl (by kernel_rfl) (fun _ _ _ h => h) (Or.inl ⟨by rfl, ?_⟩) ?_ ?_
          rotate_left
          · intro w'
            go_simp
            with_reducible rfl
          rotate_left
          · simp only [Act.put, List.setIfInBounds_toArray, List.set_cons_zero, List.set_cons_succ, i64_w, i32_w]
            rfl
          refine last_ (i := 17) (N := none) #[true, true, true, true, true, true, true, true, true, true, true, true, true, true, true, true, true, true] rfl rfl (by kernel_rfl) (by decide) (fun K hK => ?_)
          refine skip_ (w1 := _) (by rfl) rfl (store_run rfl rfl rfl hs2.out) ?_
          refine hK.out _ _ ?_
          clear hK K
          refine done_ (by kernel_rfl) ?_
          obtain ⟨X, hX⟩ : ∃ X, ((wr.drew).setCells g ((k) * 3) [.int .i64 ((Srt.g z49 ys (P2_))).f0, .int .i64 ((Srt.g z49 ys (P2_))).f1, .int .i64 ((Srt.g z49 ys (P2_))).f2]).setCells g ((P2_) * 3) [.int .i64 ((Srt.g z49 ys (k))).f0, .int .i64 ((Srt.g z49 ys (k))).f1, .int .i64 ((Srt.g z49 ys (k))).f2] = X := ⟨_, rfl⟩
          rw [hX] at HX ⊢
          clear hHeld hX hx hy hs1 hs2 hu1 ht1 hr1 hQ2 hu2 ht2 hr2
          have HX := Aside0.mk (by have h := HX.out; rw [← HP2.out] at h; exact h)
          go_wp2
          go_roundg k'
          case measure => omega
          case rel => exact ⟨k + 1, _, by go_num, ⟨by omega, by omega⟩, HG, HX⟩
        · obtain rfl : gk = 0 := by omega
          have hg : ys = Srt.up z49 (s1 - a) a xs0 := HFi.out
          have HG := Aside0.mk hg
          clear hg j3
          go_wp2_with fail
          refine bodyPost_ret (v := .tuple #[]) (by simp [results, Try.results103, go_sem]) rfl ⟨⟨_, rfl⟩, ?_⟩
          rw [← HG.out]; exact HWi.out
end Go.Proofs.Ytocndpddghefhaa.X
end
section
namespace Go.Proofs.Ytocndpddghefhaa.X
open Go.RowKit Go.Proofs.YtocndpddghefhaaW.PrintWords Go.Proofs.YtocndpddghefhaaW.PrintLast Go.Proofs.YtocndpddghefhaaW.PrintMore
attribute [local go_sem] max2_int min2_int max_two min_two max_three min_three max_four min_four
set_option linter.unusedVariables false
set_option linter.unusedSimpArgs false
set_option maxHeartbeats 8000000 in
set_option maxRecDepth 100000 in
theorem sym_last (g c N : Nat) (w0 : World) (I : World → Prop) (Q : S49 → Prop) (lt : S49 → S49 → Bool) (caps : Array Value) (hI : Stays g I) (hC : Cmp caps I Q lt) (hN2 : N ≤ 4611686018427387903) (f : Nat) (a m b : Nat) (xs0 : List S49) (w : World) (h : SS g c N w0 I Q w xs0) (ham : a < m) (hmb : m < b) (hbN : b ≤ N) (hf : b - a ≤ f + 1) (c1 : ¬ m - a = 1) (c2 : b - m = 1) :
    Calls Try.prog 103 #[.slice (some ⟨g, 0, none⟩) N c, .int .i64 (a : Int), .int .i64 (m : Int), .int .i64 (b : Int), .func (.func 57) #[] caps] w fun e w' => (∃ r, e = .returned r) ∧ SS g c N w0 I Q w' (Srt.symF z49 lt (f + 1) a m b xs0) := by
  have HS := Aside0.mk h
  have HC := Aside0.mk hC
  clear h hC
  obtain ⟨dm, hdm⟩ : ∃ dm, m - a = dm := ⟨_, rfl⟩
  have hdm' : (m : Int) - (a : Int) = (dm : Int) := by omega
  have hdn : ¬ ((dm : Int) = 1) := by omega
  have hdnb : ((dm : Int) == 1) = false := beq_eq_false_iff_ne.2 hdn
  have HDM := Aside0.mk hdm
  clear hdm
  obtain ⟨st, hst⟩ : ∃ st, Srt.bs (fun h => !lt (Srt.g z49 xs0 m) (Srt.g z49 xs0 h)) (m - a) a m = st := ⟨_, rfl⟩
  have hF : Srt.symF z49 lt (f + 1) a m b xs0 = Srt.dn z49 st m xs0 := by
    rw [Srt.symF, if_neg c1, if_pos c2]
    dsimp only
    rw [hst]
  rw [hF]
  have HST := Aside0.mk hst
  have hc2 : (b : Int) - (m : Int) = 1 := by omega
  clear hst hF
  go_enter Try.func103, Try.ntmps103
  go_wp2_with fail
  go_loopg [14, 15] (m - a) (fun kq v14 v15 wr => ∃ lo hi : Nat, v14 = .int .i64 (lo : Int) ∧ v15 = .int .i64 (hi : Int) ∧ Aside0 (a ≤ lo ∧ lo ≤ hi ∧ hi ≤ m ∧ hi - lo ≤ kq) ∧ Aside0 (Srt.bs (fun h => !lt (Srt.g z49 xs0 m) (Srt.g z49 xs0 h)) kq lo hi = st) ∧ Aside0 (SS g c N w0 I Q wr xs0))
  case atStart => exact ⟨a, m, rfl, rfl, ⟨by omega, by omega, by omega, by omega⟩, HST, HS⟩
  case round =>
    obtain ⟨lo, hi, rfl, rfl, HK, HF, HW⟩ := hrel
    obtain ⟨k1, k2, k3, k4⟩ := HK.out
    by_cases hlt : lo < hi
    · obtain ⟨k', rfl⟩ : ∃ k', gk = k' + 1 := ⟨gk - 1, by omega⟩
      obtain ⟨mid, hm⟩ : ∃ mid, (lo + hi) / 2 = mid := ⟨_, rfl⟩
      have hg := HF.out
      rw [bs_step _ _ _ _ _ hlt hm] at hg
      have hi1 : m < N := by omega
      have hi2 : mid < N := by omega
      have hq1 := HW.out.qg m hi1
      have HQ1 := Aside0.mk hq1
      clear hq1
      have hx := HW.out.cell m hi1
      have hb0 := eq_true (show 0 ≤ (m : Int) by omega)
      have hb1 := eq_true (show (m : Int) < (N : Int) by omega)
      have hq2 := HW.out.qg mid hi2
      have HQ2 := Aside0.mk hq2
      clear hq2
      have hy := HW.out.cell mid hi2
      have hb2 := eq_true (show 0 ≤ (mid : Int) by omega)
      have hb3 := eq_true (show (mid : Int) < (N : Int) by omega)
      have hmd : ((lo : Int) + (hi : Int)) / 2 = (mid : Int) := by omega
      have b5 : lo ≤ mid := by omega
      have b6 : mid < hi := by omega
      cases hlt2 : lt (Srt.g z49 xs0 m) (Srt.g z49 xs0 mid) with
      | true =>
        rw [hlt2, Bool.not_true, if_neg (by decide)] at hg
        have HG := Aside0.mk hg
        have HLT := Aside0.mk hlt2
        have HM := Aside0.mk hm
        clear hg hlt2 hm
        go_wp2_with fail
        refine start_ (n := 12) (S := fun w' => w'.cell? ⟨g, (m) * 3, none⟩ = some (.int .i64 (Srt.g z49 xs0 (m)).f0) ∧ w'.cell? ⟨g, (m) * 3 + 1, none⟩ = some (.int .i64 (Srt.g z49 xs0 (m)).f1) ∧ w'.cell? ⟨g, (m) * 3 + 2, none⟩ = some (.int .i64 (Srt.g z49 xs0 (m)).f2) ∧ w'.cell? ⟨g, (mid) * 3, none⟩ = some (.int .i64 (Srt.g z49 xs0 (mid)).f0) ∧ w'.cell? ⟨g, (mid) * 3 + 1, none⟩ = some (.int .i64 (Srt.g z49 xs0 (mid)).f1) ∧ w'.cell? ⟨g, (mid) * 3 + 2, none⟩ = some (.int .i64 (Srt.g z49 xs0 (mid)).f2)) (ds := [9]) #[false, false, false, false, false, false, false, false, false, false, false, false] (by kernel_rfl) rfl rfl ⟨hx.1, hx.2.1, hx.2.2, hy.1, hy.2.1, hy.2.2⟩ (fun hHeld => ?_)
        obtain ⟨E, hE⟩ : ∃ E, wr.drew = E := ⟨_, rfl⟩
        have HSE := Aside0.mk (show SS g c N w0 I Q E xs0 by rw [← hE]; exact HW.out.step hI (below_drew1 (Below.refl _ _)))
        rw [hE] at hHeld ⊢
        clear hE
        refine pure_ (i := 0) (N := some 92) (v := ?_) (a' := ?_) #[true, false, false, false, false, false, false, false, false, false, false, false] rfl rfl (by kernel_rfl) (fun _ _ _ h => h) (Or.inl ⟨by rfl, ?_⟩) ?_ ?_
        rotate_left
        · intro w'
          go_simp
          with_reducible rfl
        rotate_left
        · simp only [Act.put, List.setIfInBounds_toArray, List.set_cons_zero, List.set_cons_succ, i64_w, i32_w]
          rfl
        refine pure_ (i := 1) (N := some 93) (v := ?_) (a' := ?_) #[true, true, false, false, false, false, false, false, false, false, false, false] rfl rfl (by kernel_rfl) (fun _ _ _ h => h) (Or.inl ⟨by rfl, ?_⟩) ?_ ?_
        rotate_left
        · intro w'
          go_simp
          with_reducible rfl
        rotate_left
        · simp only [Act.put, List.setIfInBounds_toArray, List.set_cons_zero, List.set_cons_succ, i64_w, i32_w]
          rfl
        refine pure_ (i := 2) (N := some 94) (v := ?_) (a' := ?_) #[true, true, true, false, false, false, false, false, false, false, false, false] rfl rfl (by kernel_rfl) (fun _ _ _ h => h) (Or.inl ⟨by rfl, ?_⟩) ?_ ?_
        rotate_left
        · intro w'
          go_simp
          with_reducible rfl
        rotate_left
        · simp only [Act.put, List.setIfInBounds_toArray, List.set_cons_zero, List.set_cons_succ, i64_w, i32_w]
          rfl
        refine pure_ (i := 3) (N := some 95) (v := ?_) (a' := ?_) #[true, true, true, true, false, false, false, false, false, false, false, false] rfl rfl (by kernel_rfl) (fun _ _ _ h => h) (Or.inl ⟨by rfl, ?_⟩) ?_ ?_
        rotate_left
        · intro w'
          go_simp
          with_reducible rfl
        rotate_left
        · simp only [Act.put, List.setIfInBounds_toArray, List.set_cons_zero, List.set_cons_succ, i64_w, i32_w]
          rfl
        refine take_ (i := 4) (N := some 96) (v := ?_) (a' := ?_) #[true, true, true, true, true, false, false, false, false, false, false, false] rfl rfl (by kernel_rfl) (fun _ _ _ h => h) (Or.inl ⟨by rfl, ?_⟩) hHeld ?_ ?_
        rotate_left
        · rintro w' ⟨s0, s1, s2, s3, s4, s5⟩
          go_simp
          with_reducible rfl
        rotate_left
        · simp only [Act.put, List.setIfInBounds_toArray, List.set_cons_zero, List.set_cons_succ, i64_w, i32_w]
          rfl
        refine pure_ (i := 5) (N := some 97) (v := ?_) (a' := ?_) #[true, true, true, true, true, true, false, false, false, false, false, false] rfl rfl (by kernel_rfl) (fun _ _ _ h => h) (Or.inl ⟨by rfl, ?_⟩) ?_ ?_
        rotate_left
        · intro w'
          go_simp
          with_reducible rfl
        rotate_left
        · simp only [Act.put, List.setIfInBounds_toArray, List.set_cons_zero, List.set_cons_succ, i64_w, i32_w]
          rfl
        refine pure_ (i := 6) (N := some 98) (v := ?_) (a' := ?_) #[true, true, true, true, true, true, true, false, false, false, false, false] rfl rfl (by kernel_rfl) (fun _ _ _ h => h) (Or.inl ⟨by rfl, ?_⟩) ?_ ?_
        rotate_left
        · intro w'
          go_simp
          with_reducible rfl
        rotate_left
        · simp only [Act.put, List.setIfInBounds_toArray, List.set_cons_zero, List.set_cons_succ, i64_w, i32_w]
          rfl
        refine pure_ (i := 7) (N := some 99) (v := ?_) (a' := ?_) #[true, true, true, true, true, true, true, true, false, false, false, false] rfl rfl (by kernel_rfl) (fun _ _ _ h => h) (Or.inl ⟨by rfl, ?_⟩) ?_ ?_
        rotate_left
        · intro w'
          go_simp
          with_reducible rfl
        rotate_left
        · simp only [Act.put, List.setIfInBounds_toArray, List.set_cons_zero, List.set_cons_succ, i64_w, i32_w]
          rfl
        refine take_ (i := 8) (N := some 100) (v := ?_) (a' := ?_) #[true, true, true, true, true, true, true, true, true, false, false, false] rfl rfl (by kernel_rfl) (fun _ _ _ h => h) (Or.inl ⟨by rfl, ?_⟩) hHeld ?_ ?_
        rotate_left
        · rintro w' ⟨s0, s1, s2, s3, s4, s5⟩
          go_simp
          with_reducible rfl
        rotate_left
        · simp only [Act.put, List.setIfInBounds_toArray, List.set_cons_zero, List.set_cons_succ, i64_w, i32_w]
          rfl
        refine last_ (i := 9) (N := some 101) #[true, true, true, true, true, true, true, true, true, true, false, false] rfl rfl (by kernel_rfl) (by decide) (fun K hK => ?_)
        refine goesC_ (caps := caps) Try.func57 (by kernel_rfl) rfl #[.agg #[.int .i64 ((Srt.g z49 xs0 m)).f0, .int .i64 ((Srt.g z49 xs0 m)).f1, .int .i64 ((Srt.g z49 xs0 m)).f2], .agg #[.int .i64 ((Srt.g z49 xs0 mid)).f0, .int .i64 ((Srt.g z49 xs0 mid)).f1, .int .i64 ((Srt.g z49 xs0 mid)).f2]] (by rfl) rfl rfl rfl (by (try simp only [List.map_toArray, List.map_cons, List.map_nil]); first | done | rfl) ?_
        refine (HC.out _ _ _ HQ1.out HQ2.out HSE.out.inv).mono ?_
        rintro e w3 ⟨v, rfl, hv, hb3⟩
        rw [HLT.out] at hv
        refine ⟨_, rfl, ?_⟩
        have HS3 := Aside0.mk (HSE.out.step hI hb3)
        refine hK.out _ _ ?_
        clear hK K hb3
        refine norm_ (a' := ?_) ?_ ?_
        rotate_left
        · show Act.put _ (some 101) _ = _
          simp only [Act.put, List.setIfInBounds_toArray, List.set_cons_zero, List.set_cons_succ, i64_w, i32_w]
          rfl
        refine pure_ (i := 10) (N := some 102) (v := ?_) (a' := ?_) #[true, true, true, true, true, true, true, true, true, true, true, false] rfl rfl (by kernel_rfl) (fun _ _ _ h => h) (Or.inl ⟨by rfl, ?_⟩) ?_ ?_
        rotate_left
        · intro w'
          go_simp
          with_reducible rfl
        rotate_left
        · simp only [Act.put, List.setIfInBounds_toArray, List.set_cons_zero, List.set_cons_succ, i64_w, i32_w]
          rfl
        refine pure_ (i := 11) (N := some 103) (v := ?_) (a' := ?_) #[true, true, true, true, true, true, true, true, true, true, true, true] rfl rfl (by kernel_rfl) (fun _ _ _ h => h) (Or.inl ⟨by rfl, ?_⟩) ?_ ?_
        rotate_left
        · intro w'
          go_simp
          with_reducible rfl
        rotate_left
        · simp only [Act.put, List.setIfInBounds_toArray, List.set_cons_zero, List.set_cons_succ, i64_w, i32_w]
          rfl
        refine done_ (by kernel_rfl) ?_
        clear hHeld hx hy
        go_wp2
        go_roundg k'
        case measure => omega
        case rel => exact ⟨lo, mid, rfl, by go_num, ⟨by omega, by omega, by omega, by omega⟩, HG, HS3⟩
      | false =>
        rw [hlt2, Bool.not_false, if_pos rfl] at hg
        have HG := Aside0.mk hg
        have HLT := Aside0.mk hlt2
        have HM := Aside0.mk hm
        clear hg hlt2 hm
        go_wp2_with fail
        refine start_ (n := 12) (S := fun w' => w'.cell? ⟨g, (m) * 3, none⟩ = some (.int .i64 (Srt.g z49 xs0 (m)).f0) ∧ w'.cell? ⟨g, (m) * 3 + 1, none⟩ = some (.int .i64 (Srt.g z49 xs0 (m)).f1) ∧ w'.cell? ⟨g, (m) * 3 + 2, none⟩ = some (.int .i64 (Srt.g z49 xs0 (m)).f2) ∧ w'.cell? ⟨g, (mid) * 3, none⟩ = some (.int .i64 (Srt.g z49 xs0 (mid)).f0) ∧ w'.cell? ⟨g, (mid) * 3 + 1, none⟩ = some (.int .i64 (Srt.g z49 xs0 (mid)).f1) ∧ w'.cell? ⟨g, (mid) * 3 + 2, none⟩ = some (.int .i64 (Srt.g z49 xs0 (mid)).f2)) (ds := [9]) #[false, false, false, false, false, false, false, false, false, false, false, false] (by kernel_rfl) rfl rfl ⟨hx.1, hx.2.1, hx.2.2, hy.1, hy.2.1, hy.2.2⟩ (fun hHeld => ?_)
        obtain ⟨E, hE⟩ : ∃ E, wr.drew = E := ⟨_, rfl⟩
        have HSE := Aside0.mk (show SS g c N w0 I Q E xs0 by rw [← hE]; exact HW.out.step hI (below_drew1 (Below.refl _ _)))
        rw [hE] at hHeld ⊢
        clear hE
        refine pure_ (i := 0) (N := some 92) (v := ?_) (a' := ?_) #[true, false, false, false, false, false, false, false, false, false, false, false] rfl rfl (by kernel_rfl) (fun _ _ _ h => h) (Or.inl ⟨by rfl, ?_⟩) ?_ ?_
        rotate_left
        · intro w'
          go_simp
          with_reducible rfl
        rotate_left
        · simp only [Act.put, List.setIfInBounds_toArray, List.set_cons_zero, List.set_cons_succ, i64_w, i32_w]
          rfl
        refine pure_ (i := 1) (N := some 93) (v := ?_) (a' := ?_) #[true, true, false, false, false, false, false, false, false, false, false, false] rfl rfl (by kernel_rfl) (fun _ _ _ h => h) (Or.inl ⟨by rfl, ?_⟩) ?_ ?_
        rotate_left
        · intro w'
          go_simp
          with_reducible rfl
        rotate_left
        · simp only [Act.put, List.setIfInBounds_toArray, List.set_cons_zero, List.set_cons_succ, i64_w, i32_w]
          rfl
        refine pure_ (i := 2) (N := some 94) (v := ?_) (a' := ?_) #[true, true, true, false, false, false, false, false, false, false, false, false] rfl rfl (by kernel_rfl) (fun _ _ _ h => h) (Or.inl ⟨by rfl, ?_⟩) ?_ ?_
        rotate_left
        · intro w'
          go_simp
          with_reducible rfl
        rotate_left
        · simp only [Act.put, List.setIfInBounds_toArray, List.set_cons_zero, List.set_cons_succ, i64_w, i32_w]
          rfl
        refine pure_ (i := 3) (N := some 95) (v := ?_) (a' := ?_) #[true, true, true, true, false, false, false, false, false, false, false, false] rfl rfl (by kernel_rfl) (fun _ _ _ h => h) (Or.inl ⟨by rfl, ?_⟩) ?_ ?_
        rotate_left
        · intro w'
          go_simp
          with_reducible rfl
        rotate_left
        · simp only [Act.put, List.setIfInBounds_toArray, List.set_cons_zero, List.set_cons_succ, i64_w, i32_w]
          rfl
        refine take_ (i := 4) (N := some 96) (v := ?_) (a' := ?_) #[true, true, true, true, true, false, false, false, false, false, false, false] rfl rfl (by kernel_rfl) (fun _ _ _ h => h) (Or.inl ⟨by rfl, ?_⟩) hHeld ?_ ?_
        rotate_left
        · rintro w' ⟨s0, s1, s2, s3, s4, s5⟩
          go_simp
          with_reducible rfl
        rotate_left
        · simp only [Act.put, List.setIfInBounds_toArray, List.set_cons_zero, List.set_cons_succ, i64_w, i32_w]
          rfl
        refine pure_ (i := 5) (N := some 97) (v := ?_) (a' := ?_) #[true, true, true, true, true, true, false, false, false, false, false, false] rfl rfl (by kernel_rfl) (fun _ _ _ h => h) (Or.inl ⟨by rfl, ?_⟩) ?_ ?_
        rotate_left
        · intro w'
          go_simp
          with_reducible rfl
        rotate_left
        · simp only [Act.put, List.setIfInBounds_toArray, List.set_cons_zero, List.set_cons_succ, i64_w, i32_w]
          rfl
        refine pure_ (i := 6) (N := some 98) (v := ?_) (a' := ?_) #[true, true, true, true, true, true, true, false, false, false, false, false] rfl rfl (by kernel_rfl) (fun _ _ _ h => h) (Or.inl ⟨by rfl, ?_⟩) ?_ ?_
        rotate_left
        · intro w'
          go_simp
          with_reducible rfl
        rotate_left
        · simp only [Act.put, List.setIfInBounds_toArray, List.set_cons_zero, List.set_cons_succ, i64_w, i32_w]
          rfl
        refine pure_ (i := 7) (N := some 99) (v := ?_) (a' := ?_) #[true, true, true, true, true, true, true, true, false, false, false, false] rfl rfl (by kernel_rfl) (fun _ _ _ h => h) (Or.inl ⟨by rfl, ?_⟩) ?_ ?_
        rotate_left
        · intro w'
          go_simp
          with_reducible rfl
        rotate_left
        · simp only [Act.put, List.setIfInBounds_toArray, List.set_cons_zero, List.set_cons_succ, i64_w, i32_w]
          rfl
        refine take_ (i := 8) (N := some 100) (v := ?_) (a' := ?_) #[true, true, true, true, true, true, true, true, true, false, false, false] rfl rfl (by kernel_rfl) (fun _ _ _ h => h) (Or.inl ⟨by rfl, ?_⟩) hHeld ?_ ?_
        rotate_left
        · rintro w' ⟨s0, s1, s2, s3, s4, s5⟩
          go_simp
          with_reducible rfl
        rotate_left
        · simp only [Act.put, List.setIfInBounds_toArray, List.set_cons_zero, List.set_cons_succ, i64_w, i32_w]
          rfl
        refine last_ (i := 9) (N := some 101) #[true, true, true, true, true, true, true, true, true, true, false, false] rfl rfl (by kernel_rfl) (by decide) (fun K hK => ?_)
        refine goesC_ (caps := caps) Try.func57 (by kernel_rfl) rfl #[.agg #[.int .i64 ((Srt.g z49 xs0 m)).f0, .int .i64 ((Srt.g z49 xs0 m)).f1, .int .i64 ((Srt.g z49 xs0 m)).f2], .agg #[.int .i64 ((Srt.g z49 xs0 mid)).f0, .int .i64 ((Srt.g z49 xs0 mid)).f1, .int .i64 ((Srt.g z49 xs0 mid)).f2]] (by rfl) rfl rfl rfl (by (try simp only [List.map_toArray, List.map_cons, List.map_nil]); first | done | rfl) ?_
        refine (HC.out _ _ _ HQ1.out HQ2.out HSE.out.inv).mono ?_
        rintro e w3 ⟨v, rfl, hv, hb3⟩
        rw [HLT.out] at hv
        refine ⟨_, rfl, ?_⟩
        have HS3 := Aside0.mk (HSE.out.step hI hb3)
        refine hK.out _ _ ?_
        clear hK K hb3
        refine norm_ (a' := ?_) ?_ ?_
        rotate_left
        · show Act.put _ (some 101) _ = _
          simp only [Act.put, List.setIfInBounds_toArray, List.set_cons_zero, List.set_cons_succ, i64_w, i32_w]
          rfl
        refine pure_ (i := 10) (N := some 102) (v := ?_) (a' := ?_) #[true, true, true, true, true, true, true, true, true, true, true, false] rfl rfl (by kernel_rfl) (fun _ _ _ h => h) (Or.inl ⟨by rfl, ?_⟩) ?_ ?_
        rotate_left
        · intro w'
          go_simp
          with_reducible rfl
        rotate_left
        · simp only [Act.put, List.setIfInBounds_toArray, List.set_cons_zero, List.set_cons_succ, i64_w, i32_w]
          rfl
        refine pure_ (i := 11) (N := some 103) (v := ?_) (a' := ?_) #[true, true, true, true, true, true, true, true, true, true, true, true] rfl rfl (by kernel_rfl) (fun _ _ _ h => h) (Or.inl ⟨by rfl, ?_⟩) ?_ ?_
        rotate_left
        · intro w'
          go_simp
          with_reducible rfl
        rotate_left
        · simp only [Act.put, List.setIfInBounds_toArray, List.set_cons_zero, List.set_cons_succ, i64_w, i32_w]
          rfl
        refine done_ (by kernel_rfl) ?_
        clear hHeld hx hy
        go_wp2
        go_roundg k'
        case measure => omega
        case rel => exact ⟨mid + 1, hi, by go_num, rfl, ⟨by omega, by omega, by omega, by omega⟩, HG, HS3⟩
    · have hg := HF.out
      rw [bs_end _ _ _ _ hlt] at hg
      subst hg
      go_wp2_with fail
      go_loopg [17] m (fun kq v17 wr => ∃ (ys : List S49), v17 = .int .i64 (kq : Int) ∧ Aside0 (kq ≤ m ∧ lo ≤ kq) ∧ Aside0 (Srt.dn z49 lo kq ys = Srt.dn z49 lo m xs0) ∧ Aside0 (SS g c N w0 I Q wr ys))
      case atStart => exact ⟨xs0, rfl, ⟨by omega, by omega⟩, ⟨rfl⟩, HW⟩
      case round =>
        obtain ⟨ys, rfl, HJ, HFi, HWi⟩ := hrel
        obtain ⟨j1, j2⟩ := HJ.out
        by_cases hks : lo < gk
        · obtain ⟨j, hj⟩ : ∃ j, gk = j + 1 := ⟨gk - 1, by omega⟩
          have hi1 : gk < N := by omega
          have hi2 : j < N := by omega
          have hjm : ((gk : Int) - 1) = (j : Int) := by omega
          have hg := HFi.out
          have e2 : Srt.dn z49 lo gk ys = Srt.dn z49 lo j (Srt.sw z49 ys gk j) := by rw [hj, Srt.dn, if_pos (by omega)]
          rw [e2] at hg
          have HG := Aside0.mk hg
          have HJ1 := Aside0.mk hj
          have hb0 : (0 ≤ (j : Int)) = True := eq_true (by omega)
          have hb1 : ((j : Int) < (N : Int)) = True := eq_true (by omega)
          clear hg e2 hj
          have ht1 := eq_true (show 0 ≤ (gk : Int) by omega)
          have hr1 := eq_true (show (gk : Int) < (N : Int) by omega)
          have ht2 := eq_true (show 0 ≤ (j : Int) by omega)
          have hr2 := eq_true (show (j : Int) < (N : Int) by omega)
          have hu1 := w64m hi1 (by omega)
          have hu2 := w64m hi2 (by omega)
          have hx := HWi.out.cell (gk) hi1
          have hy := HWi.out.cell (j) hi2
          have HD := HWi.out.step hI (below_drew1 (Below.refl _ _))
          have HA := HD.set1 hI (gk) hi1 _ (HWi.out.qg (j) hi2)
          have HX := Aside0.mk (HA.set1 hI (j) hi2 _ (HWi.out.qg (gk) hi1))
          have hs1 := Aside0.mk (run_storeVar_mid (P := Try.prog) _ g ((gk) * 3) 49 #[.int .i64 ((Srt.g z49 ys (j))).f0, .int .i64 ((Srt.g z49 ys (j))).f1, .int .i64 ((Srt.g z49 ys (j))).f2] (HD.there (gk) hi1) (by rw [info_size]; rfl) (all3 _ _ _))
          have hs2 := Aside0.mk (run_storeVar_mid (P := Try.prog) _ g ((j) * 3) 49 #[.int .i64 ((Srt.g z49 ys (gk))).f0, .int .i64 ((Srt.g z49 ys (gk))).f1, .int .i64 ((Srt.g z49 ys (gk))).f2] (HA.there (j) hi2) (by rw [info_size]; rfl) (all3 _ _ _))
          clear HD HA
          go_wp2_with fail
          refine start_ (n := 18) (S := fun w' => w'.cell? ⟨g, (gk) * 3, none⟩ = some (.int .i64 (Srt.g z49 ys (gk)).f0) ∧ w'.cell? ⟨g, (gk) * 3 + 1, none⟩ = some (.int .i64 (Srt.g z49 ys (gk)).f1) ∧ w'.cell? ⟨g, (gk) * 3 + 2, none⟩ = some (.int .i64 (Srt.g z49 ys (gk)).f2) ∧ w'.cell? ⟨g, (j) * 3, none⟩ = some (.int .i64 (Srt.g z49 ys (j)).f0) ∧ w'.cell? ⟨g, (j) * 3 + 1, none⟩ = some (.int .i64 (Srt.g z49 ys (j)).f1) ∧ w'.cell? ⟨g, (j) * 3 + 2, none⟩ = some (.int .i64 (Srt.g z49 ys (j)).f2)) (ds := [15, 17]) #[false, false, false, false, false, false, false, false, false, false, false, false, false, false, false, false, false, false] (by kernel_rfl) rfl rfl ⟨hx.1, hx.2.1, hx.2.2, hy.1, hy.2.1, hy.2.2⟩ (fun hHeld => ?_)
          refine pure_ (i := 0) (N := some 113) (v := ?_) (a' := ?_) #[true, false, false, false, false, false, false, false, false, false, false, false, false, false, false, false, false, false] rfl rfl (by kernel_rfl) (fun _ _ _ h => h) (Or.inl ⟨by rfl, ?_⟩) ?_ ?_
          rotate_left
          · intro w'
            go_simp
            with_reducible rfl
          rotate_left
          · simp only [Act.put, List.setIfInBounds_toArray, List.set_cons_zero, List.set_cons_succ, i64_w, i32_w]
            rfl
          refine pure_ (i := 1) (N := some 114) (v := ?_) (a' := ?_) #[true, true, false, false, false, false, false, false, false, false, false, false, false, false, false, false, false, false] rfl rfl (by kernel_rfl) (fun _ _ _ h => h) (Or.inl ⟨by rfl, ?_⟩) ?_ ?_
          rotate_left
          · intro w'
            go_simp
            with_reducible rfl
          rotate_left
          · simp only [Act.put, List.setIfInBounds_toArray, List.set_cons_zero, List.set_cons_succ, i64_w, i32_w]
            rfl
          refine pure_ (i := 2) (N := some 115) (v := ?_) (a' := ?_) #[true, true, true, false, false, false, false, false, false, false, false, false, false, false, false, false, false, false] rfl rfl (by kernel_rfl) (fun _ _ _ h => h) (Or.inl ⟨by rfl, ?_⟩) ?_ ?_
          rotate_left
          · intro w'
            go_simp
            with_reducible rfl
          rotate_left
          · simp only [Act.put, List.setIfInBounds_toArray, List.set_cons_zero, List.set_cons_succ, i64_w, i32_w]
            rfl
          refine pure_ (i := 3) (N := some 116) (v := ?_) (a' := ?_) #[true, true, true, true, false, false, false, false, false, false, false, false, false, false, false, false, false, false] rfl rfl (by kernel_rfl) (fun _ _ _ h => h) (Or.inl ⟨by rfl, ?_⟩) ?_ ?_
          rotate_left
          · intro w'
            go_simp
            with_reducible rfl
          rotate_left
          · simp only [Act.put, List.setIfInBounds_toArray, List.set_cons_zero, List.set_cons_succ, i64_w, i32_w]
            rfl
          refine pure_ (i := 4) (N := some 117) (v := ?_) (a' := ?_) #[true, true, true, true, true, false, false, false, false, false, false, false, false, false, false, false, false, false] rfl rfl (by kernel_rfl) (fun _ _ _ h => h) (Or.inl ⟨by rfl, ?_⟩) ?_ ?_
          rotate_left
          · intro w'
            go_simp
            with_reducible rfl
          rotate_left
          · simp only [Act.put, List.setIfInBounds_toArray, List.set_cons_zero, List.set_cons_succ, i64_w, i32_w]
            rfl
          refine pure_ (i := 5) (N := some 118) (v := ?_) (a' := ?_) #[true, true, true, true, true, true, false, false, false, false, false, false, false, false, false, false, false, false] rfl rfl (by kernel_rfl) (fun _ _ _ h => h) (Or.inl ⟨by rfl, ?_⟩) ?_ ?_
          rotate_left
          · intro w'
            go_simp
            with_reducible rfl
          rotate_left
          · simp only [Act.put, List.setIfInBounds_toArray, List.set_cons_zero, List.set_cons_succ, i64_w, i32_w]
            rfl
          refine pure_ (i := 6) (N := some 119) (v := ?_) (a' := ?_) #[true, true, true, true, true, true, true, false, false, false, false, false, false, false, false, false, false, false] rfl rfl (by kernel_rfl) (fun _ _ _ h => h) (Or.inl ⟨by rfl, ?_⟩) ?_ ?_
          rotate_left
          · intro w'
            go_simp
            with_reducible rfl
          rotate_left
          · simp only [Act.put, List.setIfInBounds_toArray, List.set_cons_zero, List.set_cons_succ, i64_w, i32_w]
            rfl
          refine pure_ (i := 7) (N := some 120) (v := ?_) (a' := ?_) #[true, true, true, true, true, true, true, true, false, false, false, false, false, false, false, false, false, false] rfl rfl (by kernel_rfl) (fun _ _ _ h => h) (Or.inl ⟨by rfl, ?_⟩) ?_ ?_
          rotate_left
          · intro w'
            go_simp
            with_reducible rfl
          rotate_left
          · simp only [Act.put, List.setIfInBounds_toArray, List.set_cons_zero, List.set_cons_succ, i64_w, i32_w]
            rfl
          refine pure_ (i := 8) (N := some 121) (v := ?_) (a' := ?_) #[true, true, true, true, true, true, true, true, true, false, false, false, false, false, false, false, false, false] rfl rfl (by kernel_rfl) (fun _ _ _ h => h) (Or.inl ⟨by rfl, ?_⟩) ?_ ?_
          rotate_left
          · intro w'
            go_simp
            with_reducible rfl
          rotate_left
          · simp only [Act.put, List.setIfInBounds_toArray, List.set_cons_zero, List.set_cons_succ, i64_w, i32_w]
            rfl
          refine take_ (i := 9) (N := some 122) (v := ?_) (a' := ?_) #[true, true, true, true, true, true, true, true, true, true, false, false, false, false, false, false, false, false] rfl rfl (by kernel_rfl) (fun _ _ _ h => h) (Or.inl ⟨by rfl, ?_⟩) hHeld ?_ ?_
          rotate_left
          · rintro w' ⟨s0, s1, s2, s3, s4, s5⟩
            go_simp
            with_reducible rfl
          rotate_left
          · simp only [Act.put, List.setIfInBounds_toArray, List.set_cons_zero, List.set_cons_succ, i64_w, i32_w]
            rfl
          refine pure_ (i := 10) (N := some 123) (v := ?_) (a' := ?_) #[true, true, true, true, true, true, true, true, true, true, true, false, false, false, false, false, false, false] rfl rfl (by kernel_rfl) (fun _ _ _ h => h) (Or.inl ⟨by rfl, ?_⟩) ?_ ?_
          rotate_left
          · intro w'
            go_simp
            with_reducible rfl
          rotate_left
          · simp only [Act.put, List.setIfInBounds_toArray, List.set_cons_zero, List.set_cons_succ, i64_w, i32_w]
            rfl
          refine pure_ (i := 11) (N := some 124) (v := ?_) (a' := ?_) #[true, true, true, true, true, true, true, true, true, true, true, true, false, false, false, false, false, false] rfl rfl (by kernel_rfl) (fun _ _ _ h => h) (Or.inl ⟨by rfl, ?_⟩) ?_ ?_
          rotate_left
          · intro w'
            go_simp
            with_reducible rfl
          rotate_left
          · simp only [Act.put, List.setIfInBounds_toArray, List.set_cons_zero, List.set_cons_succ, i64_w, i32_w]
            rfl
          refine pure_ (i := 12) (N := some 125) (v := ?_) (a' := ?_) #[true, true, true, true, true, true, true, true, true, true, true, true, true, false, false, false, false, false] rfl rfl (by kernel_rfl) (fun _ _ _ h => h) (Or.inl ⟨by rfl, ?_⟩) ?_ ?_
          rotate_left
          · intro w'
            go_simp
            with_reducible rfl
          rotate_left
          · simp only [Act.put, List.setIfInBounds_toArray, List.set_cons_zero, List.set_cons_succ, i64_w, i32_w]
            rfl
          refine take_ (i := 13) (N := some 126) (v := ?_) (a' := ?_) #[true, true, true, true, true, true, true, true, true, true, true, true, true, true, false, false, false, false] rfl rfl (by kernel_rfl) (fun _ _ _ h => h) (Or.inl ⟨by rfl, ?_⟩) hHeld ?_ ?_
          rotate_left
          · rintro w' ⟨s0, s1, s2, s3, s4, s5⟩
            go_simp
            with_reducible rfl
          rotate_left
          · simp only [Act.put, List.setIfInBounds_toArray, List.set_cons_zero, List.set_cons_succ, i64_w, i32_w]
            rfl
          refine pure_ (i := 14) (N := some 127) (v := ?_) (a' := ?_) #[true, true, true, true, true, true, true, true, true, true, true, true, true, true, true, false, false, false] rfl rfl (by kernel_rfl) (fun _ _ _ h => h) (Or.inl ⟨by rfl, ?_⟩) ?_ ?_
          rotate_left
          · intro w'
            go_simp
            with_reducible rfl
          rotate_left
          · simp only [Act.put, List.setIfInBounds_toArray, List.set_cons_zero, List.set_cons_succ, i64_w, i32_w]
            rfl
          refine last_ (i := 15) (N := none) #[true, true, true, true, true, true, true, true, true, true, true, true, true, true, true, true, false, false] rfl rfl (by kernel_rfl) (by decide) (fun K hK => ?_)
          refine skip_ (w1 := _) (by rfl) rfl (store_run rfl rfl rfl hs1.out) ?_
          refine hK.out _ _ ?_
          clear hK K
          refine pure_ (i := 16) (N := some 128) (v := ?_) (a' := ?_) #[true, true, true, true, true, true, true, true, true, true, true, true, true, true, true, true, true, false] rfl rfl (by kernel_rfl) (fun _ _ _ h => h) (Or.inl ⟨by rfl, ?_⟩) ?_ ?_
          rotate_left
          · intro w'
            go_simp
            with_reducible rfl
          rotate_left
          · simp only [Act.put, List.setIfInBounds_toArray, List.set_cons_zero, List.set_cons_succ, i64_w, i32_w]
            rfl
          refine last_ (i := 17) (N := none) #[true, true, true, true, true, true, true, true, true, true, true, true, true, true, true, true, true, true] rfl rfl (by kernel_rfl) (by decide) (fun K hK => ?_)
          refine skip_ (w1 := _) (by rfl) rfl (store_run rfl rfl rfl hs2.out) ?_
          refine hK.out _ _ ?_
          clear hK K
          refine done_ (by kernel_rfl) ?_
          obtain ⟨X, hX⟩ : ∃ X, ((wr.drew).setCells g ((gk) * 3) [.int .i64 ((Srt.g z49 ys (j))).f0, .int .i64 ((Srt.g z49 ys (j))).f1, .int .i64 ((Srt.g z49 ys (j))).f2]).setCells g ((j) * 3) [.int .i64 ((Srt.g z49 ys (gk))).f0, .int .i64 ((Srt.g z49 ys (gk))).f1, .int .i64 ((Srt.g z49 ys (gk))).f2] = X := ⟨_, rfl⟩
          rw [hX] at HX ⊢
          clear hHeld hX hx hy hs1 hs2 hu1 ht1 hr1 hu2 ht2 hr2
          go_wp2
          go_roundg j
          case measure => have := HJ1.out; omega
          case rel => exact ⟨_, by go_num, ⟨by have := HJ1.out; omega, by have := HJ1.out; omega⟩, HG, HX⟩
        · have hg := HFi.out
          have hys : ys = Srt.dn z49 lo m xs0 := by
            rw [← hg]
            cases gk with
            | zero => rfl
            | succ k => rw [Srt.dn, if_neg hks]
          have HG := Aside0.mk hys
          clear hg hys
          go_wp2_with fail
          refine bodyPost_ret (v := .tuple #[]) (by simp [results, Try.results103, go_sem]) rfl ⟨⟨_, rfl⟩, ?_⟩
          rw [← HG.out]; exact HWi.out
end Go.Proofs.Ytocndpddghefhaa.X
end
section
namespace Go.Proofs.Ytocndpddghefhaa.X
open Go.RowKit Go.Proofs.YtocndpddghefhaaW.PrintWords Go.Proofs.YtocndpddghefhaaW.PrintLast Go.Proofs.YtocndpddghefhaaW.PrintMore
attribute [local go_sem] max2_int min2_int max_two min_two max_three min_three max_four min_four
set_option linter.unusedVariables false
set_option linter.unusedSimpArgs false
def SymIH (g c N : Nat) (w0 : World) (I : World → Prop) (Q : S49 → Prop) (lt : S49 → S49 → Bool) (caps : Array Value) (f : Nat) : Prop := ∀ (a m b : Nat) (xs0 : List S49) (w : World), SS g c N w0 I Q w xs0 → a < m → m < b → b ≤ N → b - a ≤ f →
    Calls Try.prog 103 #[.slice (some ⟨g, 0, none⟩) N c, .int .i64 (a : Int), .int .i64 (m : Int), .int .i64 (b : Int), .func (.func 57) #[] caps] w fun e w' => (∃ r, e = .returned r) ∧ SS g c N w0 I Q w' (Srt.symF z49 lt f a m b xs0)
end Go.Proofs.Ytocndpddghefhaa.X
end
section
namespace Go.Proofs.Ytocndpddghefhaa.X
open Go.RowKit Go.Proofs.YtocndpddghefhaaW.PrintWords Go.Proofs.YtocndpddghefhaaW.PrintLast Go.Proofs.YtocndpddghefhaaW.PrintMore
attribute [local go_sem] max2_int min2_int max_two min_two max_three min_three max_four min_four
set_option linter.unusedVariables false
set_option linter.unusedSimpArgs false
set_option maxHeartbeats 8000000 in
set_option maxRecDepth 100000 in
theorem sym_hi (g c N : Nat) (w0 : World) (I : World → Prop) (Q : S49 → Prop) (lt : S49 → S49 → Bool) (caps : Array Value) (hI : Stays g I) (hC : Cmp caps I Q lt) (hN2 : N ≤ 4611686018427387903) (f : Nat) (ih : SymIH g c N w0 I Q lt caps f) (a m b : Nat) (xs0 : List S49) (w : World) (h : SS g c N w0 I Q w xs0) (ham : a < m) (hmb : m < b) (hbN : b ≤ N) (hf : b - a ≤ f + 1) (c1 : ¬ m - a = 1) (c2 : ¬ b - m = 1) (cm : (a + b) / 2 < m) :
    Calls Try.prog 103 #[.slice (some ⟨g, 0, none⟩) N c, .int .i64 (a : Int), .int .i64 (m : Int), .int .i64 (b : Int), .func (.func 57) #[] caps] w fun e w' => (∃ r, e = .returned r) ∧ SS g c N w0 I Q w' (Srt.symF z49 lt (f + 1) a m b xs0) := by
  have HS := Aside0.mk h
  have HC := Aside0.mk hC
  have IH := Aside0.mk ih
  clear h hC ih
  obtain ⟨dm, hdm⟩ : ∃ dm, m - a = dm := ⟨_, rfl⟩
  have hdm' : (m : Int) - (a : Int) = (dm : Int) := by omega
  have hdn : ¬ ((dm : Int) = 1) := by omega
  have hdnb : ((dm : Int) == 1) = false := beq_eq_false_iff_ne.2 hdn
  have HDM := Aside0.mk hdm
  clear hdm
  obtain ⟨db, hdb⟩ : ∃ db, b - m = db := ⟨_, rfl⟩
  have hdb' : (b : Int) - (m : Int) = (db : Int) := by omega
  have hdbn : ¬ ((db : Int) = 1) := by omega
  have hdbb : ((db : Int) == 1) = false := beq_eq_false_iff_ne.2 hdbn
  obtain ⟨md, hmd⟩ : ∃ md, (a + b) / 2 = md := ⟨_, rfl⟩
  have hmd' : ((a : Int) + (b : Int)) / 2 = (md : Int) := by omega
  obtain ⟨n, hn⟩ : ∃ n, md + m = n := ⟨_, rfl⟩
  have hn' : (md : Int) + (m : Int) = (n : Int) := by omega
  obtain ⟨p, hp⟩ : ∃ p, n - 1 = p := ⟨_, rfl⟩
  have hp' : (n : Int) - 1 = (p : Int) := by omega
  have hF := Srt.symF.eq_2 z49 lt a m b xs0 f
  rw [if_neg c1, if_neg c2] at hF
  dsimp only at hF
  rw [hmd, hn, hp] at hF
  rw [hmd] at cm
  obtain ⟨s0, hs0⟩ : ∃ s0, n - b = s0 := ⟨_, rfl⟩
  have hs0' : (n : Int) - (b : Int) = (s0 : Int) := by omega
  rw [if_pos cm, if_pos cm, hs0] at hF
  obtain ⟨st, hst⟩ : ∃ st, Srt.bs (fun h => !lt (Srt.g z49 xs0 (p - h)) (Srt.g z49 xs0 h)) (md - s0) s0 md = st := ⟨_, rfl⟩
  rw [hst] at hF
  have HST := Aside0.mk hst
  have HSF := Aside0.mk hF
  have HB := Aside0.mk (show a ≤ s0 ∧ s0 ≤ md ∧ md ≤ m ∧ md ≤ md ∧ n ≤ b + s0 ∧ n = md + m ∧ p + 1 = n ∧ md < b ∧ a < md ∧ md ≤ a + f ∧ b ≤ md + f from ⟨by omega, by omega, by omega, by omega, by omega, by omega, by omega, by omega, by omega, by omega, by omega⟩)
  clear hst hF
  go_enter Try.func103, Try.ntmps103
  go_wp2_with fail
  go_loopg [20, 21] (md - s0) (fun kq v20 v21 wr => ∃ lo hi : Nat, v20 = .int .i64 (lo : Int) ∧ v21 = .int .i64 (hi : Int) ∧ Aside0 (s0 ≤ lo ∧ lo ≤ hi ∧ hi ≤ md ∧ hi - lo ≤ kq) ∧ Aside0 (Srt.bs (fun h => !lt (Srt.g z49 xs0 (p - h)) (Srt.g z49 xs0 h)) kq lo hi = st) ∧ Aside0 (SS g c N w0 I Q wr xs0))
  case atStart => exact ⟨s0, md, rfl, rfl, ⟨by omega, by omega, by omega, by omega⟩, HST, HS⟩
  case round => as_aux_lemma =>
    obtain ⟨lo, hi, rfl, rfl, HK, HF, HW⟩ := hrel
    obtain ⟨k1, k2, k3, k4⟩ := HK.out
    obtain ⟨z1, z2, z3, z4, z5, z6, z7, z8, z9, z10, z11⟩ := HB.out
    by_cases hlt : lo < hi
    · obtain ⟨k', rfl⟩ : ∃ k', gk = k' + 1 := ⟨gk - 1, by omega⟩
      obtain ⟨mid, hm⟩ : ∃ mid, (lo + hi) / 2 = mid := ⟨_, rfl⟩
      obtain ⟨q, hq⟩ : ∃ q, p - mid = q := ⟨_, rfl⟩
      have hq' : (p : Int) - (mid : Int) = (q : Int) := by omega
      have hg := HF.out
      rw [bs_step _ _ _ _ _ hlt hm, hq] at hg
      have hi1 : q < N := by omega
      have hi2 : mid < N := by omega
      have hq1 := HW.out.qg q hi1
      have HQ1 := Aside0.mk hq1
      clear hq1
      have hx := HW.out.cell q hi1
      have hb0 := eq_true (show 0 ≤ (q : Int) by omega)
      have hb1 := eq_true (show (q : Int) < (N : Int) by omega)
      have hq2 := HW.out.qg mid hi2
      have HQ2 := Aside0.mk hq2
      clear hq2
      have hy := HW.out.cell mid hi2
      have hb2 := eq_true (show 0 ≤ (mid : Int) by omega)
      have hb3 := eq_true (show (mid : Int) < (N : Int) by omega)
      have hw3 : Go.RowKit.wrap64 (q : Int) = (q : Int) := w64n hi1 (by omega)
      have hmd2 : ((lo : Int) + (hi : Int)) / 2 = (mid : Int) := by omega
      have b5 : lo ≤ mid := by omega
      have b6 : mid < hi := by omega
      cases hlt2 : lt (Srt.g z49 xs0 q) (Srt.g z49 xs0 mid) with
      | true =>
        rw [hlt2, Bool.not_true, if_neg (by decide)] at hg
        have HG := Aside0.mk hg
        have HLT := Aside0.mk hlt2
        have HM := Aside0.mk hm
        clear hg hlt2 hm hq z1 z2 z3 z4 z5 z6 z7 z8 z9 z10 z11
        go_wp2_with fail
        refine start_ (n := 14) (S := fun w' => w'.cell? ⟨g, (q) * 3, none⟩ = some (.int .i64 (Srt.g z49 xs0 (q)).f0) ∧ w'.cell? ⟨g, (q) * 3 + 1, none⟩ = some (.int .i64 (Srt.g z49 xs0 (q)).f1) ∧ w'.cell? ⟨g, (q) * 3 + 2, none⟩ = some (.int .i64 (Srt.g z49 xs0 (q)).f2) ∧ w'.cell? ⟨g, (mid) * 3, none⟩ = some (.int .i64 (Srt.g z49 xs0 (mid)).f0) ∧ w'.cell? ⟨g, (mid) * 3 + 1, none⟩ = some (.int .i64 (Srt.g z49 xs0 (mid)).f1) ∧ w'.cell? ⟨g, (mid) * 3 + 2, none⟩ = some (.int .i64 (Srt.g z49 xs0 (mid)).f2)) (ds := [11]) #[false, false, false, false, false, false, false, false, false, false, false, false, false, false] (by kernel_rfl) rfl rfl ⟨hx.1, hx.2.1, hx.2.2, hy.1, hy.2.1, hy.2.2⟩ (fun hHeld => ?_)
        obtain ⟨E, hE⟩ : ∃ E, wr.drew = E := ⟨_, rfl⟩
        have HSE := Aside0.mk (show SS g c N w0 I Q E xs0 by rw [← hE]; exact HW.out.step hI (below_drew1 (Below.refl _ _)))
        rw [hE] at hHeld ⊢
        clear hE
        refine pure_ (i := 0) (N := some 158) (v := ?_) (a' := ?_) #[true, false, false, false, false, false, false, false, false, false, false, false, false, false] rfl rfl (by kernel_rfl) (fun _ _ _ h => h) (Or.inl ⟨by rfl, ?_⟩) ?_ ?_
        rotate_left
        · intro w'
          go_simp
          with_reducible rfl
        rotate_left
        · simp only [Act.put, List.setIfInBounds_toArray, List.set_cons_zero, List.set_cons_succ, i64_w, i32_w]
          rfl
        refine pure_ (i := 1) (N := some 159) (v := ?_) (a' := ?_) #[true, true, false, false, false, false, false, false, false, false, false, false, false, false] rfl rfl (by kernel_rfl) (fun _ _ _ h => h) (Or.inl ⟨by rfl, ?_⟩) ?_ ?_
        rotate_left
        · intro w'
          go_simp
          with_reducible rfl
        rotate_left
        · simp only [Act.put, List.setIfInBounds_toArray, List.set_cons_zero, List.set_cons_succ, i64_w, i32_w]
          rfl
        refine pure_ (i := 2) (N := some 160) (v := ?_) (a' := ?_) #[true, true, true, false, false, false, false, false, false, false, false, false, false, false] rfl rfl (by kernel_rfl) (fun _ _ _ h => h) (Or.inl ⟨by rfl, ?_⟩) ?_ ?_
        rotate_left
        · intro w'
          go_simp
          with_reducible rfl
        rotate_left
        · simp only [Act.put, List.setIfInBounds_toArray, List.set_cons_zero, List.set_cons_succ, i64_w, i32_w]
          rfl
        refine pure_ (i := 3) (N := some 161) (v := ?_) (a' := ?_) #[true, true, true, true, false, false, false, false, false, false, false, false, false, false] rfl rfl (by kernel_rfl) (fun _ _ _ h => h) (Or.inl ⟨by rfl, ?_⟩) ?_ ?_
        rotate_left
        · intro w'
          go_simp
          with_reducible rfl
        rotate_left
        · simp only [Act.put, List.setIfInBounds_toArray, List.set_cons_zero, List.set_cons_succ, i64_w, i32_w]
          rfl
        refine pure_ (i := 4) (N := some 162) (v := ?_) (a' := ?_) #[true, true, true, true, true, false, false, false, false, false, false, false, false, false] rfl rfl (by kernel_rfl) (fun _ _ _ h => h) (Or.inl ⟨by rfl, ?_⟩) ?_ ?_
        rotate_left
        · intro w'
          go_simp
          with_reducible rfl
        rotate_left
        · simp only [Act.put, List.setIfInBounds_toArray, List.set_cons_zero, List.set_cons_succ, i64_w, i32_w]
          rfl
        refine pure_ (i := 5) (N := some 163) (v := ?_) (a' := ?_) #[true, true, true, true, true, true, false, false, false, false, false, false, false, false] rfl rfl (by kernel_rfl) (fun _ _ _ h => h) (Or.inl ⟨by rfl, ?_⟩) ?_ ?_
        rotate_left
        · intro w'
          go_simp
          with_reducible rfl
        rotate_left
        · simp only [Act.put, List.setIfInBounds_toArray, List.set_cons_zero, List.set_cons_succ, i64_w, i32_w]
          rfl
        refine take_ (i := 6) (N := some 164) (v := ?_) (a' := ?_) #[true, true, true, true, true, true, true, false, false, false, false, false, false, false] rfl rfl (by kernel_rfl) (fun _ _ _ h => h) (Or.inl ⟨by rfl, ?_⟩) hHeld ?_ ?_
        rotate_left
        · rintro w' ⟨s0, s1, s2, s3, s4, s5⟩
          go_simp
          with_reducible rfl
        rotate_left
        · simp only [Act.put, List.setIfInBounds_toArray, List.set_cons_zero, List.set_cons_succ, i64_w, i32_w]
          rfl
        refine pure_ (i := 7) (N := some 165) (v := ?_) (a' := ?_) #[true, true, true, true, true, true, true, true, false, false, false, false, false, false] rfl rfl (by kernel_rfl) (fun _ _ _ h => h) (Or.inl ⟨by rfl, ?_⟩) ?_ ?_
        rotate_left
        · intro w'
          go_simp
          with_reducible rfl
        rotate_left
        · simp only [Act.put, List.setIfInBounds_toArray, List.set_cons_zero, List.set_cons_succ, i64_w, i32_w]
          rfl
        refine pure_ (i := 8) (N := some 166) (v := ?_) (a' := ?_) #[true, true, true, true, true, true, true, true, true, false, false, false, false, false] rfl rfl (by kernel_rfl) (fun _ _ _ h => h) (Or.inl ⟨by rfl, ?_⟩) ?_ ?_
        rotate_left
        · intro w'
          go_simp
          with_reducible rfl
        rotate_left
        · simp only [Act.put, List.setIfInBounds_toArray, List.set_cons_zero, List.set_cons_succ, i64_w, i32_w]
          rfl
        refine pure_ (i := 9) (N := some 167) (v := ?_) (a' := ?_) #[true, true, true, true, true, true, true, true, true, true, false, false, false, false] rfl rfl (by kernel_rfl) (fun _ _ _ h => h) (Or.inl ⟨by rfl, ?_⟩) ?_ ?_
        rotate_left
        · intro w'
          go_simp
          with_reducible rfl
        rotate_left
        · simp only [Act.put, List.setIfInBounds_toArray, List.set_cons_zero, List.set_cons_succ, i64_w, i32_w]
          rfl
        refine take_ (i := 10) (N := some 168) (v := ?_) (a' := ?_) #[true, true, true, true, true, true, true, true, true, true, true, false, false, false] rfl rfl (by kernel_rfl) (fun _ _ _ h => h) (Or.inl ⟨by rfl, ?_⟩) hHeld ?_ ?_
        rotate_left
        · rintro w' ⟨s0, s1, s2, s3, s4, s5⟩
          go_simp
          with_reducible rfl
        rotate_left
        · simp only [Act.put, List.setIfInBounds_toArray, List.set_cons_zero, List.set_cons_succ, i64_w, i32_w]
          rfl
        refine last_ (i := 11) (N := some 169) #[true, true, true, true, true, true, true, true, true, true, true, true, false, false] rfl rfl (by kernel_rfl) (by decide) (fun K hK => ?_)
        refine goesC_ (caps := caps) Try.func57 (by kernel_rfl) rfl #[.agg #[.int .i64 ((Srt.g z49 xs0 q)).f0, .int .i64 ((Srt.g z49 xs0 q)).f1, .int .i64 ((Srt.g z49 xs0 q)).f2], .agg #[.int .i64 ((Srt.g z49 xs0 mid)).f0, .int .i64 ((Srt.g z49 xs0 mid)).f1, .int .i64 ((Srt.g z49 xs0 mid)).f2]] (by rfl) rfl rfl rfl (by (try simp only [List.map_toArray, List.map_cons, List.map_nil]); first | done | rfl) ?_
        refine (HC.out _ _ _ HQ1.out HQ2.out HSE.out.inv).mono ?_
        rintro e w3 ⟨v, rfl, hv, hb3⟩
        rw [HLT.out] at hv
        refine ⟨_, rfl, ?_⟩
        have HS3 := Aside0.mk (HSE.out.step hI hb3)
        refine hK.out _ _ ?_
        clear hK K hb3
        refine norm_ (a' := ?_) ?_ ?_
        rotate_left
        · show Act.put _ (some 169) _ = _
          simp only [Act.put, List.setIfInBounds_toArray, List.set_cons_zero, List.set_cons_succ, i64_w, i32_w]
          rfl
        refine pure_ (i := 12) (N := some 170) (v := ?_) (a' := ?_) #[true, true, true, true, true, true, true, true, true, true, true, true, true, false] rfl rfl (by kernel_rfl) (fun _ _ _ h => h) (Or.inl ⟨by rfl, ?_⟩) ?_ ?_
        rotate_left
        · intro w'
          go_simp
          with_reducible rfl
        rotate_left
        · simp only [Act.put, List.setIfInBounds_toArray, List.set_cons_zero, List.set_cons_succ, i64_w, i32_w]
          rfl
        refine pure_ (i := 13) (N := some 171) (v := ?_) (a' := ?_) #[true, true, true, true, true, true, true, true, true, true, true, true, true, true] rfl rfl (by kernel_rfl) (fun _ _ _ h => h) (Or.inl ⟨by rfl, ?_⟩) ?_ ?_
        rotate_left
        · intro w'
          go_simp
          with_reducible rfl
        rotate_left
        · simp only [Act.put, List.setIfInBounds_toArray, List.set_cons_zero, List.set_cons_succ, i64_w, i32_w]
          rfl
        refine done_ (by kernel_rfl) ?_
        clear hHeld hx hy
        clear hw3
        go_wp2
        go_roundg k'
        case measure => omega
        case rel => exact ⟨lo, mid, rfl, by go_num, ⟨by omega, by omega, by omega, by omega⟩, HG, HS3⟩
      | false =>
        rw [hlt2, Bool.not_false, if_pos rfl] at hg
        have HG := Aside0.mk hg
        have HLT := Aside0.mk hlt2
        have HM := Aside0.mk hm
        clear hg hlt2 hm hq z1 z2 z3 z4 z5 z6 z7 z8 z9 z10 z11
        go_wp2_with fail
        refine start_ (n := 14) (S := fun w' => w'.cell? ⟨g, (q) * 3, none⟩ = some (.int .i64 (Srt.g z49 xs0 (q)).f0) ∧ w'.cell? ⟨g, (q) * 3 + 1, none⟩ = some (.int .i64 (Srt.g z49 xs0 (q)).f1) ∧ w'.cell? ⟨g, (q) * 3 + 2, none⟩ = some (.int .i64 (Srt.g z49 xs0 (q)).f2) ∧ w'.cell? ⟨g, (mid) * 3, none⟩ = some (.int .i64 (Srt.g z49 xs0 (mid)).f0) ∧ w'.cell? ⟨g, (mid) * 3 + 1, none⟩ = some (.int .i64 (Srt.g z49 xs0 (mid)).f1) ∧ w'.cell? ⟨g, (mid) * 3 + 2, none⟩ = some (.int .i64 (Srt.g z49 xs0 (mid)).f2)) (ds := [11]) #[false, false, false, false, false, false, false, false, false, false, false, false, false, false] (by kernel_rfl) rfl rfl ⟨hx.1, hx.2.1, hx.2.2, hy.1, hy.2.1, hy.2.2⟩ (fun hHeld => ?_)
        obtain ⟨E, hE⟩ : ∃ E, wr.drew = E := ⟨_, rfl⟩
        have HSE := Aside0.mk (show SS g c N w0 I Q E xs0 by rw [← hE]; exact HW.out.step hI (below_drew1 (Below.refl _ _)))
        rw [hE] at hHeld ⊢
        clear hE
        refine pure_ (i := 0) (N := some 158) (v := ?_) (a' := ?_) #[true, false, false, false, false, false, false, false, false, false, false, false, false, false] rfl rfl (by kernel_rfl) (fun _ _ _ h => h) (Or.inl ⟨by rfl, ?_⟩) ?_ ?_
        rotate_left
        · intro w'
          go_simp
          with_reducible rfl
        rotate_left
        · simp only [Act.put, List.setIfInBounds_toArray, List.set_cons_zero, List.set_cons_succ, i64_w, i32_w]
          rfl
        refine pure_ (i := 1) (N := some 159) (v := ?_) (a' := ?_) #[true, true, false, false, false, false, false, false, false, false, false, false, false, false] rfl rfl (by kernel_rfl) (fun _ _ _ h => h) (Or.inl ⟨by rfl, ?_⟩) ?_ ?_
        rotate_left
        · intro w'
          go_simp
          with_reducible rfl
        rotate_left
        · simp only [Act.put, List.setIfInBounds_toArray, List.set_cons_zero, List.set_cons_succ, i64_w, i32_w]
          rfl
        refine pure_ (i := 2) (N := some 160) (v := ?_) (a' := ?_) #[true, true, true, false, false, false, false, false, false, false, false, false, false, false] rfl rfl (by kernel_rfl) (fun _ _ _ h => h) (Or.inl ⟨by rfl, ?_⟩) ?_ ?_
        rotate_left
        · intro w'
          go_simp
          with_reducible rfl
        rotate_left
        · simp only [Act.put, List.setIfInBounds_toArray, List.set_cons_zero, List.set_cons_succ, i64_w, i32_w]
          rfl
        refine pure_ (i := 3) (N := some 161) (v := ?_) (a' := ?_) #[true, true, true, true, false, false, false, false, false, false, false, false, false, false] rfl rfl (by kernel_rfl) (fun _ _ _ h => h) (Or.inl ⟨by rfl, ?_⟩) ?_ ?_
        rotate_left
        · intro w'
          go_simp
          with_reducible rfl
        rotate_left
        · simp only [Act.put, List.setIfInBounds_toArray, List.set_cons_zero, List.set_cons_succ, i64_w, i32_w]
          rfl
        refine pure_ (i := 4) (N := some 162) (v := ?_) (a' := ?_) #[true, true, true, true, true, false, false, false, false, false, false, false, false, false] rfl rfl (by kernel_rfl) (fun _ _ _ h => h) (Or.inl ⟨by rfl, ?_⟩) ?_ ?_
        rotate_left
        · intro w'
          go_simp
          with_reducible rfl
        rotate_left
        · simp only [Act.put, List.setIfInBounds_toArray, List.set_cons_zero, List.set_cons_succ, i64_w, i32_w]
          rfl
        refine pure_ (i := 5) (N := some 163) (v := ?_) (a' := ?_) #[true, true, true, true, true, true, false, false, false, false, false, false, false, false] rfl rfl (by kernel_rfl) (fun _ _ _ h => h) (Or.inl ⟨by rfl, ?_⟩) ?_ ?_
        rotate_left
        · intro w'
          go_simp
          with_reducible rfl
        rotate_left
        · simp only [Act.put, List.setIfInBounds_toArray, List.set_cons_zero, List.set_cons_succ, i64_w, i32_w]
          rfl
        refine take_ (i := 6) (N := some 164) (v := ?_) (a' := ?_) #[true, true, true, true, true, true, true, false, false, false, false, false, false, false] rfl rfl (by kernel_rfl) (fun _ _ _ h => h) (Or.inl ⟨by rfl, ?_⟩) hHeld ?_ ?_
        rotate_left
        · rintro w' ⟨s0, s1, s2, s3, s4, s5⟩
          go_simp
          with_reducible rfl
        rotate_left
        · simp only [Act.put, List.setIfInBounds_toArray, List.set_cons_zero, List.set_cons_succ, i64_w, i32_w]
          rfl
        refine pure_ (i := 7) (N := some 165) (v := ?_) (a' := ?_) #[true, true, true, true, true, true, true, true, false, false, false, false, false, false] rfl rfl (by kernel_rfl) (fun _ _ _ h => h) (Or.inl ⟨by rfl, ?_⟩) ?_ ?_
        rotate_left
        · intro w'
          go_simp
          with_reducible rfl
        rotate_left
        · simp only [Act.put, List.setIfInBounds_toArray, List.set_cons_zero, List.set_cons_succ, i64_w, i32_w]
          rfl
        refine pure_ (i := 8) (N := some 166) (v := ?_) (a' := ?_) #[true, true, true, true, true, true, true, true, true, false, false, false, false, false] rfl rfl (by kernel_rfl) (fun _ _ _ h => h) (Or.inl ⟨by rfl, ?_⟩) ?_ ?_
        rotate_left
        · intro w'
          go_simp
          with_reducible rfl
        rotate_left
        · simp only [Act.put, List.setIfInBounds_toArray, List.set_cons_zero, List.set_cons_succ, i64_w, i32_w]
          rfl
        refine pure_ (i := 9) (N := some 167) (v := ?_) (a' := ?_) #[true, true, true, true, true, true, true, true, true, true, false, false, false, false] rfl rfl (by kernel_rfl) (fun _ _ _ h => h) (Or.inl ⟨by rfl, ?_⟩) ?_ ?_
        rotate_left
        · intro w'
          go_simp
          with_reducible rfl
        rotate_left
        · simp only [Act.put, List.setIfInBounds_toArray, List.set_cons_zero, List.set_cons_succ, i64_w, i32_w]
          rfl
        refine take_ (i := 10) (N := some 168) (v := ?_) (a' := ?_) #[true, true, true, true, true, true, true, true, true, true, true, false, false, false] rfl rfl (by kernel_rfl) (fun _ _ _ h => h) (Or.inl ⟨by rfl, ?_⟩) hHeld ?_ ?_
        rotate_left
        · rintro w' ⟨s0, s1, s2, s3, s4, s5⟩
          go_simp
          with_reducible rfl
        rotate_left
        · simp only [Act.put, List.setIfInBounds_toArray, List.set_cons_zero, List.set_cons_succ, i64_w, i32_w]
          rfl
        refine last_ (i := 11) (N := some 169) #[true, true, true, true, true, true, true, true, true, true, true, true, false, false] rfl rfl (by kernel_rfl) (by decide) (fun K hK => ?_)
        refine goesC_ (caps := caps) Try.func57 (by kernel_rfl) rfl #[.agg #[.int .i64 ((Srt.g z49 xs0 q)).f0, .int .i64 ((Srt.g z49 xs0 q)).f1, .int .i64 ((Srt.g z49 xs0 q)).f2], .agg #[.int .i64 ((Srt.g z49 xs0 mid)).f0, .int .i64 ((Srt.g z49 xs0 mid)).f1, .int .i64 ((Srt.g z49 xs0 mid)).f2]] (by rfl) rfl rfl rfl (by (try simp only [List.map_toArray, List.map_cons, List.map_nil]); first | done | rfl) ?_
        refine (HC.out _ _ _ HQ1.out HQ2.out HSE.out.inv).mono ?_
        rintro e w3 ⟨v, rfl, hv, hb3⟩
        rw [HLT.out] at hv
        refine ⟨_, rfl, ?_⟩
        have HS3 := Aside0.mk (HSE.out.step hI hb3)
        refine hK.out _ _ ?_
        clear hK K hb3
        refine norm_ (a' := ?_) ?_ ?_
        rotate_left
        · show Act.put _ (some 169) _ = _
          simp only [Act.put, List.setIfInBounds_toArray, List.set_cons_zero, List.set_cons_succ, i64_w, i32_w]
          rfl
        refine pure_ (i := 12) (N := some 170) (v := ?_) (a' := ?_) #[true, true, true, true, true, true, true, true, true, true, true, true, true, false] rfl rfl (by kernel_rfl) (fun _ _ _ h => h) (Or.inl ⟨by rfl, ?_⟩) ?_ ?_
        rotate_left
        · intro w'
          go_simp
          with_reducible rfl
        rotate_left
        · simp only [Act.put, List.setIfInBounds_toArray, List.set_cons_zero, List.set_cons_succ, i64_w, i32_w]
          rfl
        refine pure_ (i := 13) (N := some 171) (v := ?_) (a' := ?_) #[true, true, true, true, true, true, true, true, true, true, true, true, true, true] rfl rfl (by kernel_rfl) (fun _ _ _ h => h) (Or.inl ⟨by rfl, ?_⟩) ?_ ?_
        rotate_left
        · intro w'
          go_simp
          with_reducible rfl
        rotate_left
        · simp only [Act.put, List.setIfInBounds_toArray, List.set_cons_zero, List.set_cons_succ, i64_w, i32_w]
          rfl
        refine done_ (by kernel_rfl) ?_
        clear hHeld hx hy
        clear hw3
        go_wp2
        go_roundg k'
        case measure => omega
        case rel => exact ⟨mid + 1, hi, by go_num, rfl, ⟨by omega, by omega, by omega, by omega⟩, HG, HS3⟩
    · have hg := HF.out
      rw [bs_end _ _ _ _ hlt] at hg
      subst hg
      obtain ⟨en, hen⟩ : ∃ en, n - lo = en := ⟨_, rfl⟩
      have hen' : (n : Int) - (lo : Int) = (en : Int) := by omega
      obtain ⟨x1, hx1⟩ : ∃ x1, (if lo < m ∧ m < en then Srt.rotF z49 m (en - lo) (m - lo) (en - m) xs0 else xs0) = x1 := ⟨_, rfl⟩
      obtain ⟨x2, hx2⟩ : ∃ x2, (if a < lo ∧ lo < md then Srt.symF z49 lt f a lo md x1 else x1) = x2 := ⟨_, rfl⟩
      have hsf : Srt.symF z49 lt (f + 1) a m b xs0 = _ := HSF.out
      rw [hen, hx1, hx2] at hsf
      have HX1 := Aside0.mk hx1
      have HX2 := Aside0.mk hx2
      have HX3 := Aside0.mk hsf
      have HE := Aside0.mk (show en ≤ N ∧ md ≤ N ∧ md - a ≤ f ∧ b - md ≤ f ∧ m ≤ en from ⟨by omega, by omega, by omega, by omega, by omega⟩)
      clear hx1 hx2 hsf hen z1 z2 z3 z4 z5 z6 z7
      go_upto_region 39 with fail
      go_cut [185] from 25 (fun v wz => v = .bool (decide (lo < m ∧ m < en)) ∧ wz = wr)
      case first => as_aux_lemma =>
        by_cases e1 : lo < m
        · have e1' := decide_eq_true (Int.ofNat_lt.2 e1)
          by_cases e2 : m < en
          · have e2' := decide_eq_true (Int.ofNat_lt.2 e2)
            have e3 : decide (lo < m ∧ m < en) = true := decide_eq_true ⟨e1, e2⟩
            go_wp2_with fail
            go_meet
            case rel => exact ⟨by rw [e3], rfl⟩
          · have e2' := decide_eq_false (fun h => e2 (Int.ofNat_lt.1 h))
            have e3 : decide (lo < m ∧ m < en) = false := decide_eq_false (fun h => e2 h.2)
            go_wp2_with fail
            go_meet
            case rel => exact ⟨by rw [e3], rfl⟩
        · have e1' := decide_eq_false (fun h => e1 (Int.ofNat_lt.1 h))
          have e3 : decide (lo < m ∧ m < en) = false := decide_eq_false (fun h => e1 h.1)
          go_wp2_with fail
          go_meet
          case rel => exact ⟨by rw [e3], rfl⟩
      case rest => as_aux_lemma =>
        obtain ⟨rfl, rfl⟩ := hcut
        go_upto_if 185 with fail
        go_cut [] from 25 (fun wz => Aside0 (SS g c N w0 I Q wz x1))
        case first => as_aux_lemma =>
          have hx1 := HX1.out
          by_cases hc : lo < m ∧ m < en
          · simp only [decide_eq_true hc]
            rw [if_pos hc] at hx1
            obtain ⟨d1, d2⟩ := hc
            have HY := Aside0.mk hx1
            clear hx1
            go_wp2_with (go_at_call 108; refine (rot_calls g c N w0 I Q lo m en xs0 _ _ hI HW.out d1 d2 HE.out.1).mono ?_; rw [HY.out]; rintro e w1 ⟨⟨r, rfl⟩, hs1⟩; have HS1 := Aside0.mk hs1; clear hs1)
            go_meet
            case rel => exact HS1
          · simp only [decide_eq_false hc]
            rw [if_neg hc] at hx1
            have HY := Aside0.mk hx1
            clear hx1
            go_wp2_with fail
            go_meet
            case rel => exact ⟨by rw [← HY.out]; exact HW.out⟩
        case rest => as_aux_lemma =>
          have HV1 := hcut
          go_upto_region 41 with fail
          go_cut [199] from 25 (fun v wz => v = .bool (decide (a < lo ∧ lo < md)) ∧ wz = wc)
          case first => as_aux_lemma =>
            by_cases e1 : a < lo
            · have e1' := decide_eq_true (Int.ofNat_lt.2 e1)
              by_cases e2 : lo < md
              · have e2' := decide_eq_true (Int.ofNat_lt.2 e2)
                have e3 : decide (a < lo ∧ lo < md) = true := decide_eq_true ⟨e1, e2⟩
                go_wp2_with fail
                go_meet
                case rel => exact ⟨by rw [e3], rfl⟩
              · have e2' := decide_eq_false (fun h => e2 (Int.ofNat_lt.1 h))
                have e3 : decide (a < lo ∧ lo < md) = false := decide_eq_false (fun h => e2 h.2)
                go_wp2_with fail
                go_meet
                case rel => exact ⟨by rw [e3], rfl⟩
            · have e1' := decide_eq_false (fun h => e1 (Int.ofNat_lt.1 h))
              have e3 : decide (a < lo ∧ lo < md) = false := decide_eq_false (fun h => e1 h.1)
              go_wp2_with fail
              go_meet
              case rel => exact ⟨by rw [e3], rfl⟩
          case rest => as_aux_lemma =>
            obtain ⟨rfl, rfl⟩ := hcut
            go_upto_if 199 with fail
            go_cut [] from 25 (fun wz => Aside0 (SS g c N w0 I Q wz x2))
            case first => as_aux_lemma =>
              have hx1 := HX2.out
              by_cases hc : a < lo ∧ lo < md
              · simp only [decide_eq_true hc]
                rw [if_pos hc] at hx1
                obtain ⟨d1, d2⟩ := hc
                have HY := Aside0.mk hx1
                clear hx1
                go_wp2_with (go_at_call 103; refine (IH.out a lo md x1 _ HV1.out d1 d2 HE.out.2.1 HE.out.2.2.1).mono ?_; rw [HY.out]; rintro e w1 ⟨⟨r, rfl⟩, hs1⟩; have HS1 := Aside0.mk hs1; clear hs1)
                go_meet
                case rel => exact HS1
              · simp only [decide_eq_false hc]
                rw [if_neg hc] at hx1
                have HY := Aside0.mk hx1
                clear hx1
                go_wp2_with fail
                go_meet
                case rel => exact ⟨by rw [← HY.out]; exact HV1.out⟩
            case rest => as_aux_lemma =>
              have HV2 := hcut
              go_upto_region 43 with fail
              go_cut [213] from 25 (fun v wz => v = .bool (decide (md < en ∧ en < b)) ∧ wz = wc)
              case first => as_aux_lemma =>
                by_cases e1 : md < en
                · have e1' := decide_eq_true (Int.ofNat_lt.2 e1)
                  by_cases e2 : en < b
                  · have e2' := decide_eq_true (Int.ofNat_lt.2 e2)
                    have e3 : decide (md < en ∧ en < b) = true := decide_eq_true ⟨e1, e2⟩
                    go_wp2_with fail
                    go_meet
                    case rel => exact ⟨by rw [e3], rfl⟩
                  · have e2' := decide_eq_false (fun h => e2 (Int.ofNat_lt.1 h))
                    have e3 : decide (md < en ∧ en < b) = false := decide_eq_false (fun h => e2 h.2)
                    go_wp2_with fail
                    go_meet
                    case rel => exact ⟨by rw [e3], rfl⟩
                · have e1' := decide_eq_false (fun h => e1 (Int.ofNat_lt.1 h))
                  have e3 : decide (md < en ∧ en < b) = false := decide_eq_false (fun h => e1 h.1)
                  go_wp2_with fail
                  go_meet
                  case rel => exact ⟨by rw [e3], rfl⟩
              case rest => as_aux_lemma =>
                obtain ⟨rfl, rfl⟩ := hcut
                go_upto_if 213 with fail
                have hx1 := HX3.out
                by_cases hc : md < en ∧ en < b
                · simp only [decide_eq_true hc]
                  rw [if_pos hc] at hx1
                  obtain ⟨d1, d2⟩ := hc
                  have HY := Aside0.mk hx1
                  clear hx1
                  go_wp2_with (go_at_call 103; refine (IH.out md en b x2 _ HV2.out d1 d2 hbN HE.out.2.2.2.1).mono ?_; rintro e w1 ⟨⟨r, rfl⟩, hs1⟩; have HS1 := Aside0.mk hs1; clear hs1)
                  refine ⟨rfl, .tuple #[], ?_, ⟨_, rfl⟩, ?_⟩
                  · simp [results, Try.results103, go_sem]
                  · rw [HY.out]; exact HS1.out
                · simp only [decide_eq_false hc]
                  rw [if_neg hc] at hx1
                  have HY := Aside0.mk hx1
                  clear hx1
                  go_wp2_with fail
                  refine ⟨rfl, .tuple #[], ?_, ⟨_, rfl⟩, ?_⟩
                  · simp [results, Try.results103, go_sem]
                  · rw [HY.out]; exact HV2.out
end Go.Proofs.Ytocndpddghefhaa.X
end
