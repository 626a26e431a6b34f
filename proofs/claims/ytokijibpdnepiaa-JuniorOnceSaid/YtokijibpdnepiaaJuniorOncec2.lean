/- For JuniorOnce: contracts, and facts on lists and numbers, that it uses (part 2). -/
import Derived.BigRegion
import Derived.ChangeAlike
import Derived.Deep.CutRange
import Derived.RegionTactic
import Derived.Test.YtokijibpdnepiaaJuniorOncec1
section
namespace Go.Proofs.Ytokijibpdnepiaa.X
open Go.RowKit Go.Proofs.YtokijibpdnepiaaW.PrintWords Go.Proofs.YtokijibpdnepiaaW.PrintLast Go.Proofs.YtokijibpdnepiaaW.PrintMore
attribute [local go_sem] max2_int min2_int max_two min_two max_three min_three max_four min_four
set_option linter.unusedVariables false
set_option linter.unusedSimpArgs false
structure SS (g c N : Nat) (w0 : World) (I : World → Prop) (Q : Int → Prop) (w : World) (xs : List Int) : Prop where
  own : Kd.R (Kd.int .i64) 3 w w0.heap.size (fun _ => True) (.slice (some ⟨g, 0, none⟩) N c) xs
  len : xs.length = N
  below : Below w0.heap.size w0 w
  inv : I w
  all : ∀ x ∈ xs, Q x
theorem SS.max {g c N : Nat} {w0 w : World} {I : World → Prop} {Q : Int → Prop} {xs : List Int} (h : SS g c N w0 I Q w xs) : N ≤ 9223372036854775807 := by
  have := Kd.C_max (Kd.R_reads' h.own).2.2
  rwa [h.len] at this
theorem SS.cell {g c N : Nat} {w0 w : World} {I : World → Prop} {Q : Int → Prop} {xs : List Int} (h : SS g c N w0 I Q w xs) (i : Nat) (hi : i < N) : w.cell? ⟨g, i, none⟩ = some (.int .i64 (Srt.g 0 xs i)) := by
  obtain ⟨ad, cs, e, hl, hK, hc⟩ := Kd.C_get (Kd.R_reads' h.own).2.2 (0 : Int) (i : Int) (by omega) (by rw [h.len]; omega)
  obtain rfl : (⟨g, 0, none⟩ : Addr) = ad := Option.some.inj e
  have hadd : ∀ k, (⟨g, 0, none⟩ : Addr).add k = ⟨g, k, none⟩ := fun k => by unfold Addr.add; split <;> simp_all
  simp only [hadd, Int.toNat_natCast] at hc
  rw [Int.toNat_natCast] at hK
  obtain rfl : cs = [.int .i64 (xs.getD i 0)] := hK
  have := hc 0 _ rfl
  rw [show (Kd.int .i64).sz = 1 from rfl, Nat.mul_one, Nat.add_zero] at this
  simpa [Srt.g] using this
theorem SS.frozen {g c N : Nat} {w0 w : World} {I : World → Prop} {Q : Int → Prop} {xs : List Int} (h : SS g c N w0 I Q w xs) (i k : Nat) (hi : i < N) : w.frozen? ⟨g, k, none⟩ = false := by
  obtain ⟨g', cap, e, _, _, cs, hb⟩ := Kd.R_form h.own (by rw [h.len]; omega)
  obtain rfl : g = g' := by injection e with e _ _; injection e with e; injection e
  exact blk_frozen hb k
structure Stays (g : Nat) (I : World → Prop) : Prop where
  below : ∀ {w w' : World}, I w → Below w.heap.size w w' → I w'
  grown : ∀ {w w' : World}, I w → w.grownBy w' (some g) → I w'
theorem SS.step {g c N : Nat} {w0 w w' : World} {I : World → Prop} {Q : Int → Prop} {xs : List Int} (h : SS g c N w0 I Q w xs) (hI : Stays g I) (hb : Below w.heap.size w w') : SS g c N w0 I Q w' xs :=
  ⟨Kd.R_below h.own hb, h.len, below_step h.below hb, hI.below h.inv hb, h.all⟩
theorem SS.set1 {g c N : Nat} {w0 w : World} {I : World → Prop} {Q : Int → Prop} {xs : List Int} (h : SS g c N w0 I Q w xs) (hI : Stays g I) (i : Nat) (hi : i < N) (v : Int) (hv : Q v) : SS g c N w0 I Q ((w).setCell ⟨g, i, none⟩ (.int .i64 v)) (xs.set i v) := by
  obtain ⟨ad, cs, e, hl, hK, hc⟩ := Kd.C_get (Kd.R_reads' h.own).2.2 (0 : Int) (i : Int) (by omega) (by rw [h.len]; omega)
  obtain rfl : (⟨g, 0, none⟩ : Addr) = ad := Option.some.inj e
  have hadd : ∀ k, (⟨g, 0, none⟩ : Addr).add k = ⟨g, k, none⟩ := fun k => by unfold Addr.add; split <;> simp_all
  simp only [hadd] at hc
  obtain ⟨h1, h2⟩ := Kd.R_seg (okp := fun _ => False) (j := 0) (seg := [.int .i64 v]) (x' := v) h.own (i : Int) (by omega) (by omega) hl hc (show 0 + 1 ≤ 1 from Nat.le_refl _) (by
    rw [List.take_zero, List.nil_append, List.drop_of_length_le (by rw [hl]; exact (show 1 ≤ 0 + 1 from Nat.le_refl _)), List.append_nil]
    exact rfl) (fun _ h => h.elim)
  rw [Int.toNat_natCast] at h1 h2
  have hE : w.setCells g (i * Kd.sz (Kd.int .i64) + 0) [.int .i64 v] = (w).setCell ⟨g, i, none⟩ (.int .i64 v) := by rw [show (Kd.int .i64).sz = 1 from rfl, Nat.mul_one]; rfl
  rw [hE] at h1 h2
  have hg : w0.heap.size ≤ g := Kd.R_base h.own g (by simp [Value.ownBlock])
  refine ⟨h1, by rw [List.length_set, h.len], h.below.trans ⟨h2.os, h2.tape, h2.output, h2.size, fun k hk => by rw [← hE]; exact setCells_far _ _ k (by omega)⟩, hI.grown h.inv h2, fun x hx => ?_⟩
  rcases List.mem_or_eq_of_mem_set hx with e | e
  · exact h.all x e
  · rw [e]; exact hv
theorem SS.qg {g c N : Nat} {w0 w : World} {I : World → Prop} {Q : Int → Prop} {xs : List Int} (h : SS g c N w0 I Q w xs) (i : Nat) (hi : i < N) : Q (Srt.g (0 : Int) xs i) := by
  have hi2 : i < xs.length := by rw [h.len]; exact hi
  unfold Srt.g
  rw [List.getD_eq_getElem?_getD, List.getElem?_eq_getElem hi2]
  exact h.all _ (List.getElem_mem hi2)
theorem SS.swap {g c N : Nat} {w0 w : World} {I : World → Prop} {Q : Int → Prop} {xs : List Int} (h : SS g c N w0 I Q w xs) (hI : Stays g I) (i j : Nat) (hi : i < N) (hj : j < N) : SS g c N w0 I Q (((w).setCell ⟨g, i, none⟩ (.int .i64 (Srt.g (0 : Int) xs j))).setCell ⟨g, j, none⟩ (.int .i64 (Srt.g (0 : Int) xs i))) (Srt.sw (0 : Int) xs i j) :=
  (h.set1 hI i hi _ (h.qg j hj)).set1 hI j hj _ (h.qg i hi)
set_option maxHeartbeats 1600000 in
set_option maxRecDepth 100000 in
theorem swapR_calls (g c N : Nat) (w0 : World) (I : World → Prop) (Q : Int → Prop) (a b n : Nat) (xs0 : List Int) (fv : Value) (w : World) (hI : Stays g I) (h : SS g c N w0 I Q w xs0) (hab : a + n ≤ b) (hbn : b + n ≤ N) :
    Calls Try.prog 153 #[.slice (some ⟨g, 0, none⟩) N c, .int .i64 (a : Int), .int .i64 (b : Int), .int .i64 (n : Int), fv] w fun e w' => (∃ r, e = .returned r) ∧ SS g c N w0 I Q w' (Srt.swapF (0 : Int) a b n 0 xs0) := by
  have HS := Aside0.mk h
  have hN := h.max
  clear h
  go_enter Try.func153, Try.ntmps153
  go_wp2_with fail
  go_loopg [10] n (fun kq v10 wr => ∃ (i : Nat) (xs : List Int), v10 = .int .i64 (i : Int) ∧ Aside0 (kq + i = n) ∧ Aside0 (Srt.swapF (0 : Int) a b kq i xs = Srt.swapF (0 : Int) a b n 0 xs0) ∧ Aside0 (SS g c N w0 I Q wr xs))
  case atStart => exact ⟨0, xs0, rfl, ⟨by omega⟩, ⟨rfl⟩, HS⟩
  case round =>
    obtain ⟨i, xs, rfl, HK, HF, HW⟩ := hrel
    by_cases hlt : i < n
    · obtain ⟨k', rfl⟩ : ∃ k', gk = k' + 1 := ⟨gk - 1, by have := HK.out; omega⟩
      have hg : Srt.swapF (0 : Int) a b k' (i + 1) (Srt.sw (0 : Int) xs (a + i) (b + i)) = Srt.swapF (0 : Int) a b n 0 xs0 := HF.out
      have HG := Aside0.mk hg
      have hi1 : a + i < N := by omega
      have hi2 : b + i < N := by omega
      clear hg
      have hx := HW.out.cell (a + i) hi1
      have hy := HW.out.cell (b + i) hi2
      have HD := HW.out.step hI (below_drew1 (Below.refl _ _))
      have H1 := (HW.out.set1 hI (a + i) hi1 _ (HW.out.qg (b + i) hi2)).step hI (below_drew1 (Below.refl _ _))
      have hd1 := HD.cell (a + i) hi1
      have hd2 := HD.cell (b + i) hi2
      have hf1 := fun q_ => HD.frozen (a + i) q_ hi1
      have hz := H1.cell (b + i) hi2
      have hf2 := fun q_ => H1.frozen (a + i) q_ hi1
      have HX := Aside0.mk ((HW.out.swap hI (a + i) (b + i) hi1 hi2).step hI (below_drew1 (Below.refl _ _)))
      clear HD H1
      go_wp2_with fail
      go_region
      obtain ⟨X, hX⟩ : ∃ X, (((wr).setCell ⟨g, a + i, none⟩ (.int .i64 (Srt.g (0 : Int) xs (b + i)))).setCell ⟨g, b + i, none⟩ (.int .i64 (Srt.g (0 : Int) xs (a + i)))).drew = X := ⟨_, rfl⟩
      rw [hX] at HX ⊢
      clear hX hx hy hd1 hd2 hf1 hz hf2
      go_wp2
      go_roundg k'
      case measure => omega
      case rel => exact ⟨i + 1, _, by go_num, ⟨by have := HK.out; omega⟩, HG, HX⟩
    · obtain rfl : gk = 0 := by have := HK.out; omega
      have hg : xs = Srt.swapF (0 : Int) a b n 0 xs0 := HF.out
      have HG := Aside0.mk hg
      clear hg
      go_wp2_with fail
      refine ⟨rfl, .tuple #[], ?_, ⟨_, rfl⟩, ?_⟩
      · simp [results, Try.results153, go_sem]
      · rw [← HG.out]; exact HW.out
set_option maxHeartbeats 1600000 in
set_option maxRecDepth 100000 in
theorem rot_calls (g c N : Nat) (w0 : World) (I : World → Prop) (Q : Int → Prop) (a m b : Nat) (xs0 : List Int) (fv : Value) (w : World) (hI : Stays g I) (h : SS g c N w0 I Q w xs0) (ham : a < m) (hmb : m < b) (hbN : b ≤ N) :
    Calls Try.prog 138 #[.slice (some ⟨g, 0, none⟩) N c, .int .i64 (a : Int), .int .i64 (m : Int), .int .i64 (b : Int), fv] w fun e w' => (∃ r, e = .returned r) ∧ SS g c N w0 I Q w' (Srt.rotF (0 : Int) m (b - a) (m - a) (b - m) xs0) := by
  have HS := Aside0.mk h
  have hN := h.max
  obtain ⟨i0, hi0⟩ : ∃ i0, m - a = i0 := ⟨_, rfl⟩
  obtain ⟨j0, hj0⟩ : ∃ j0, b - m = j0 := ⟨_, rfl⟩
  have hi0' : (m : Int) - (a : Int) = (i0 : Int) := by omega
  have hj0' : (b : Int) - (m : Int) = (j0 : Int) := by omega
  rw [hi0, hj0]
  clear h
  go_enter Try.func138, Try.ntmps138
  go_wp2_with fail
  go_loopg [10, 11] (b - a) (fun kq v10 v11 wr => ∃ (i j : Nat) (xs : List Int), v10 = .int .i64 (i : Int) ∧ v11 = .int .i64 (j : Int) ∧ Aside0 (0 < i ∧ 0 < j ∧ i ≤ m ∧ m + j ≤ N ∧ i + j ≤ kq + 1) ∧ Aside0 (Srt.rotF (0 : Int) m kq i j xs = Srt.rotF (0 : Int) m (b - a) i0 j0 xs0) ∧ Aside0 (SS g c N w0 I Q wr xs))
  case atStart => exact ⟨i0, j0, xs0, rfl, rfl, ⟨by omega, by omega, by omega, by omega, by omega⟩, ⟨rfl⟩, HS⟩
  case round =>
    obtain ⟨i, j, xs, rfl, rfl, HK, HF, HW⟩ := hrel
    obtain ⟨k1, k2, k3, k4, k5⟩ := HK.out
    obtain ⟨k', rfl⟩ : ∃ k', gk = k' + 1 := ⟨gk - 1, by omega⟩
    obtain ⟨p, hp⟩ : ∃ p, m - i = p := ⟨_, rfl⟩
    have hp' : (m : Int) - (i : Int) = (p : Int) := by omega
    have hg := HF.out
    rw [Srt.rotF] at hg
    by_cases hij : i = j
    · subst hij
      rw [if_pos rfl, hp] at hg
      have HG := Aside0.mk hg
      clear hg
      go_wp2_with (go_at_call 153; refine (swapR_calls g c N w0 I Q p m i xs fv _ hI HW.out (by omega) (by omega)).mono ?_; rw [HG.out]; rintro e w1 ⟨⟨r, rfl⟩, hs1⟩; have HS1 := Aside0.mk hs1; clear hs1)
      refine ⟨rfl, .tuple #[], ?_, ⟨_, rfl⟩, HS1.out⟩
      simp [results, Try.results138, go_sem]
    · have hne : ¬ ((i : Int) = (j : Int)) := by omega
      rw [if_neg hij] at hg
      by_cases c2 : j < i
      · obtain ⟨q, hq⟩ : ∃ q, i - j = q := ⟨_, rfl⟩
        have hq' : (i : Int) - (j : Int) = (q : Int) := by omega
        rw [if_pos c2, hp, hq] at hg
        have HG := Aside0.mk hg
        clear hg
        go_wp2_with (go_at_call 153; refine (swapR_calls g c N w0 I Q p m j xs fv _ hI HW.out (by omega) (by omega)).mono ?_; rintro e w1 ⟨⟨r, rfl⟩, hs1⟩; have HS1 := Aside0.mk hs1; clear hs1)
        go_roundg k'
        case measure => omega
        case rel => exact ⟨q, j, _, by go_num, rfl, ⟨by omega, by omega, by omega, by omega, by omega⟩, HG, HS1⟩
      · obtain ⟨q, hq⟩ : ∃ q, j - i = q := ⟨_, rfl⟩
        obtain ⟨u, hu⟩ : ∃ u, m + j - i = u := ⟨_, rfl⟩
        have hq' : (j : Int) - (i : Int) = (q : Int) := by omega
        have hu' : (m : Int) + (j : Int) - (i : Int) = (u : Int) := by omega
        rw [if_neg c2, hp, hq, hu] at hg
        have HG := Aside0.mk hg
        clear hg
        go_wp2_with (go_at_call 153; refine (swapR_calls g c N w0 I Q p u i xs fv _ hI HW.out (by omega) (by omega)).mono ?_; rintro e w1 ⟨⟨r, rfl⟩, hs1⟩; have HS1 := Aside0.mk hs1; clear hs1)
        go_roundg k'
        case measure => omega
        case rel => exact ⟨i, q, _, rfl, by go_num, ⟨by omega, by omega, by omega, by omega, by omega⟩, HG, HS1⟩
theorem goesC_ {P : Program} {ops : Array Oper} {Q : Exit → Act → World → Prop} {oi : Oper} {N : Option Tmp} {a : Act} {w : World} {K : Act → World → Prop} {f : FuncId} {fn : Func} {o : Operand} {ar : Array Operand} {ts : Array TypeId} {caps : Array Value} (hf : P.funcs[f]? = some fn) (hname : (fn.name == "runtime.NumGoroutine") = false) (hb : fn.body.isSome = true) (args : Array Value)
    (hw : Region.wanted oi (yielded ops a.tmps) = true) (hN : oi.dst = N) (hop : oi.op = .call { callee := .value o, args := ar, argTypes := ts }) (ho : a.eval o = .func (.func f) #[] caps) (hargs : ar.map a.eval = args)
    (h : Calls P f (args ++ caps) w fun e w' => ∃ v, e = .returned v ∧ K (a.put N v) w') : if Region.wanted oi (yielded ops a.tmps) = true then Oper.wp P oi a w K Q else K (a.put N undef) w := by
  refine call_ f (args ++ caps) hw hN ?_ h
  have he := enters_ hf hname hb (args ++ caps) w
  unfold execOp
  simp [hop, resolve, Deferred.ofValue, invoke, ho, hargs, he]
theorem w64n {j N : Nat} (h : j < N) (hN : N ≤ 9223372036854775807) : Go.RowKit.wrap64 (j : Int) = (j : Int) := by unfold Go.RowKit.wrap64; omega
theorem w64p {k j : Nat} (h : k = j + 1) (hN : k ≤ 9223372036854775807) : Go.RowKit.wrap64 ((k : Int) - 1) = (j : Int) := by unfold Go.RowKit.wrap64; omega
theorem w64q {k j : Nat} (h : k = j + 1) (hN : k ≤ 9223372036854775807) : IntKind.i64.wrap ((k : Int) - 1) = (j : Int) := by rw [IntKind.wrap_i64]; omega
def Cmp (caps : Array Value) (I : World → Prop) (Q : Int → Prop) (lt : Int → Int → Bool) : Prop := ∀ (x y : Int) (w : World), Q x → Q y → I w → Calls Try.prog 72 (#[.int .i64 x, .int .i64 y] ++ caps) w fun e w' => ∃ v, e = .returned (.int .i64 v) ∧ decide (v < 0) = lt x y ∧ Below w.heap.size w w'
set_option maxHeartbeats 1600000 in
set_option maxRecDepth 100000 in
theorem ins_calls (g c N : Nat) (w0 : World) (I : World → Prop) (Q : Int → Prop) (lt : Int → Int → Bool) (caps : Array Value) (a b : Nat) (xs0 : List Int) (w : World) (hI : Stays g I) (hC : Cmp caps I Q lt) (h : SS g c N w0 I Q w xs0) (hab : a ≤ b) (hbN : b ≤ N) (hN2 : N ≤ 4611686018427387903) :
    Calls Try.prog 121 #[.slice (some ⟨g, 0, none⟩) N c, .int .i64 (a : Int), .int .i64 (b : Int), .func (.func 72) #[] caps] w fun e w' => (∃ r, e = .returned r) ∧ SS g c N w0 I Q w' (Srt.insF (0 : Int) lt a b xs0) := by
  have HS := Aside0.mk h
  have HC := Aside0.mk hC
  have hN := h.max
  clear h hC
  go_enter Try.func121, Try.ntmps121
  go_wp2_with fail
  go_loopg [8] (b - (a + 1)) (fun kq v8 wr => ∃ (i : Nat) (xs : List Int), v8 = .int .i64 (i : Int) ∧ Aside0 (a + 1 ≤ i ∧ kq + i = a + 1 + (b - (a + 1))) ∧ Aside0 (Srt.insOut (0 : Int) lt a kq i xs = Srt.insF (0 : Int) lt a b xs0) ∧ Aside0 (SS g c N w0 I Q wr xs))
  case atStart => exact ⟨a + 1, xs0, by go_num, ⟨by omega, by omega⟩, ⟨rfl⟩, HS⟩
  case round =>
    obtain ⟨i, xs, rfl, HK, HF, HW⟩ := hrel
    obtain ⟨k1, k2⟩ := HK.out
    by_cases hib : i < b
    · obtain ⟨k', rfl⟩ : ∃ k', gk = k' + 1 := ⟨gk - 1, by omega⟩
      have hg : Srt.insOut (0 : Int) lt a k' (i + 1) (Srt.insIn (0 : Int) lt a i xs) = Srt.insF (0 : Int) lt a b xs0 := HF.out
      have HF := Aside0.mk hg
      clear hg
      go_wp2_with fail
      go_loopg [9] i (fun kq v9 wr => ∃ (ys : List Int), v9 = .int .i64 (kq : Int) ∧ Aside0 (kq ≤ i) ∧ Aside0 (Srt.insIn (0 : Int) lt a kq ys = Srt.insIn (0 : Int) lt a i xs) ∧ Aside0 (SS g c N w0 I Q wr ys))
      case atStart => exact ⟨xs, rfl, ⟨Nat.le_refl _⟩, ⟨rfl⟩, HW⟩
      case round =>
        obtain ⟨ys, rfl, HJ, HFi, HWi⟩ := hrel
        have hji := HJ.out
        by_cases haj : a < gk
        · obtain ⟨j, hj⟩ : ∃ j, gk = j + 1 := ⟨gk - 1, by omega⟩
          have hi1 : gk < N := by omega
          have hi2 : j < N := by omega
          have hw3 : Go.RowKit.wrap64 (j : Int) = (j : Int) := w64n hi2 (by omega)
          have hjm : ((gk : Int) - 1) = (j : Int) := by omega
          have hw : Go.RowKit.wrap64 ((gk : Int) - 1) = (j : Int) := w64p hj (by omega)
          have hw2 : IntKind.i64.wrap ((gk : Int) - 1) = (j : Int) := w64q hj (by omega)
          have hgt2 := decide_eq_true (show (a : Int) < (gk : Int) by omega)
          have hq1 := HWi.out.qg gk hi1
          have hq2 := HWi.out.qg j hi2
          have hx := HWi.out.cell gk hi1
          have hy := HWi.out.cell j hi2
          have hb0 : (0 ≤ (gk : Int)) = True := eq_true (by omega)
          have hb1 : ((gk : Int) < (N : Int)) = True := eq_true (by omega)
          have hb2 : (0 ≤ (j : Int)) = True := eq_true (by omega)
          have hb3 : ((j : Int) < (N : Int)) = True := eq_true (by omega)
          have hgi := HFi.out
          have e2 : Srt.insIn (0 : Int) lt a gk ys = if lt (Srt.g (0 : Int) ys gk) (Srt.g (0 : Int) ys j) = true then Srt.insIn (0 : Int) lt a j (Srt.sw (0 : Int) ys gk j) else ys := by rw [hj, Srt.insIn, if_pos (by omega)]
          rw [e2] at hgi
          have HJ1 := Aside0.mk hj
          clear hj
          have HQ1 := Aside0.mk hq1
          have HQ2 := Aside0.mk hq2
          cases hlt : lt (Srt.g (0 : Int) ys gk) (Srt.g (0 : Int) ys j) with
          | true =>
            rw [hlt, if_pos rfl] at hgi
            have HG := Aside0.mk hgi
            have HLT := Aside0.mk hlt
            clear hgi hlt hq1 hq2 e2
            go_wp2_with fail
            refine start_ (n := 17) (S := fun w' => w'.cell? ⟨g, gk, none⟩ = some (.int .i64 (Srt.g 0 ys (gk))) ∧ w'.cell? ⟨g, j, none⟩ = some (.int .i64 (Srt.g 0 ys (j)))) (ds := [14]) #[false, false, false, false, false, false, false, false, false, false, false, false, false, false, false, false, false] (by kernel_rfl) rfl rfl ⟨hx, hy⟩ (fun hHeld => ?_)
            obtain ⟨E, hE⟩ : ∃ E, wr.drew = E := ⟨_, rfl⟩
            have HSE := Aside0.mk (show SS g c N w0 I Q E ys by rw [← hE]; exact HWi.out.step hI (below_drew1 (Below.refl _ _)))
            rw [hE] at hHeld ⊢
            clear hE
            refine pure_ (i := 0) (N := some 18) (v := ?_) (a' := ?_) #[true, false, false, false, false, false, false, false, false, false, false, false, false, false, false, false, false] rfl rfl (by kernel_rfl) (fun _ _ _ h => h) (Or.inl ⟨by rfl, ?_⟩) ?_ ?_
            rotate_left
            · intro w'
              go_simp
              with_reducible rfl
            rotate_left
            · simp only [Act.put, List.setIfInBounds_toArray, List.set_cons_zero, List.set_cons_succ, i64_w, i32_w]
              rfl
            refine pure_ (i := 1) (N := some 19) (v := ?_) (a' := ?_) #[true, true, false, false, false, false, false, false, false, false, false, false, false, false, false, false, false] rfl rfl (by kernel_rfl) (fun _ _ _ h => h) (Or.inl ⟨by rfl, ?_⟩) ?_ ?_
            rotate_left
            · intro w'
              go_simp
              with_reducible rfl
            rotate_left
            · simp only [Act.put, List.setIfInBounds_toArray, List.set_cons_zero, List.set_cons_succ, i64_w, i32_w]
              rfl
            refine pure_ (i := 2) (N := some 20) (v := ?_) (a' := ?_) #[true, true, true, false, false, false, false, false, false, false, false, false, false, false, false, false, false] rfl rfl (by kernel_rfl) (fun _ _ _ h => h) (Or.inl ⟨by rfl, ?_⟩) ?_ ?_
            rotate_left
            · intro w'
              go_simp
              with_reducible rfl
            rotate_left
            · simp only [Act.put, List.setIfInBounds_toArray, List.set_cons_zero, List.set_cons_succ, i64_w, i32_w]
              rfl
            refine pure_ (i := 3) (N := some 21) (v := ?_) (a' := ?_) #[true, true, true, true, false, false, false, false, false, false, false, false, false, false, false, false, false] rfl rfl (by kernel_rfl) (fun _ _ _ h => h) (Or.inl ⟨by rfl, ?_⟩) ?_ ?_
            rotate_left
            · intro w'
              go_simp
              with_reducible rfl
            rotate_left
            · simp only [Act.put, List.setIfInBounds_toArray, List.set_cons_zero, List.set_cons_succ, i64_w, i32_w]
              rfl
            refine pure_ (i := 4) (N := some 22) (v := ?_) (a' := ?_) #[true, true, true, true, true, false, false, false, false, false, false, false, false, false, false, false, false] rfl rfl (by kernel_rfl) (fun _ _ _ h => h) (Or.inl ⟨by rfl, ?_⟩) ?_ ?_
            rotate_left
            · intro w'
              go_simp
              with_reducible rfl
            rotate_left
            · simp only [Act.put, List.setIfInBounds_toArray, List.set_cons_zero, List.set_cons_succ, i64_w, i32_w]
              rfl
            refine pure_ (i := 5) (N := some 23) (v := ?_) (a' := ?_) #[true, true, true, true, true, true, false, false, false, false, false, false, false, false, false, false, false] rfl rfl (by kernel_rfl) (fun _ _ _ h => h) (Or.inl ⟨by rfl, ?_⟩) ?_ ?_
            rotate_left
            · intro w'
              go_simp
              with_reducible rfl
            rotate_left
            · simp only [Act.put, List.setIfInBounds_toArray, List.set_cons_zero, List.set_cons_succ, i64_w, i32_w]
              rfl
            refine pure_ (i := 6) (N := some 24) (v := ?_) (a' := ?_) #[true, true, true, true, true, true, true, false, false, false, false, false, false, false, false, false, false] rfl rfl (by kernel_rfl) (fun _ _ _ h => h) (Or.inl ⟨by rfl, ?_⟩) ?_ ?_
            rotate_left
            · intro w'
              go_simp
              with_reducible rfl
            rotate_left
            · simp only [Act.put, List.setIfInBounds_toArray, List.set_cons_zero, List.set_cons_succ, i64_w, i32_w]
              rfl
            refine pure_ (i := 7) (N := some 25) (v := ?_) (a' := ?_) #[true, true, true, true, true, true, true, true, false, false, false, false, false, false, false, false, false] rfl rfl (by kernel_rfl) (fun _ _ _ h => h) (Or.inl ⟨by rfl, ?_⟩) ?_ ?_
            rotate_left
            · intro w'
              go_simp
              with_reducible rfl
            rotate_left
            · simp only [Act.put, List.setIfInBounds_toArray, List.set_cons_zero, List.set_cons_succ, i64_w, i32_w]
              rfl
            refine take_ (i := 8) (N := some 26) (v := ?_) (a' := ?_) #[true, true, true, true, true, true, true, true, true, false, false, false, false, false, false, false, false] rfl rfl (by kernel_rfl) (fun _ _ _ h => h) (Or.inl ⟨by rfl, ?_⟩) hHeld ?_ ?_
            rotate_left
            · rintro w' ⟨s0, s1⟩
              go_simp
              with_reducible rfl
            rotate_left
            · simp only [Act.put, List.setIfInBounds_toArray, List.set_cons_zero, List.set_cons_succ, i64_w, i32_w]
              rfl
            refine pure_ (i := 9) (N := some 27) (v := ?_) (a' := ?_) #[true, true, true, true, true, true, true, true, true, true, false, false, false, false, false, false, false] rfl rfl (by kernel_rfl) (fun _ _ _ h => h) (Or.inl ⟨by rfl, ?_⟩) ?_ ?_
            rotate_left
            · intro w'
              go_simp
              with_reducible rfl
            rotate_left
            · simp only [Act.put, List.setIfInBounds_toArray, List.set_cons_zero, List.set_cons_succ, i64_w, i32_w]
              rfl
            refine pure_ (i := 10) (N := some 28) (v := ?_) (a' := ?_) #[true, true, true, true, true, true, true, true, true, true, true, false, false, false, false, false, false] rfl rfl (by kernel_rfl) (fun _ _ _ h => h) (Or.inl ⟨by rfl, ?_⟩) ?_ ?_
            rotate_left
            · intro w'
              go_simp
              with_reducible rfl
            rotate_left
            · simp only [Act.put, List.setIfInBounds_toArray, List.set_cons_zero, List.set_cons_succ, i64_w, i32_w]
              rfl
            refine pure_ (i := 11) (N := some 29) (v := ?_) (a' := ?_) #[true, true, true, true, true, true, true, true, true, true, true, true, false, false, false, false, false] rfl rfl (by kernel_rfl) (fun _ _ _ h => h) (Or.inl ⟨by rfl, ?_⟩) ?_ ?_
            rotate_left
            · intro w'
              go_simp
              with_reducible rfl
            rotate_left
            · simp only [Act.put, List.setIfInBounds_toArray, List.set_cons_zero, List.set_cons_succ, i64_w, i32_w]
              rfl
            refine pure_ (i := 12) (N := some 30) (v := ?_) (a' := ?_) #[true, true, true, true, true, true, true, true, true, true, true, true, true, false, false, false, false] rfl rfl (by kernel_rfl) (fun _ _ _ h => h) (Or.inl ⟨by rfl, ?_⟩) ?_ ?_
            rotate_left
            · intro w'
              go_simp
              with_reducible rfl
            rotate_left
            · simp only [Act.put, List.setIfInBounds_toArray, List.set_cons_zero, List.set_cons_succ, i64_w, i32_w]
              rfl
            refine take_ (i := 13) (N := some 31) (v := ?_) (a' := ?_) #[true, true, true, true, true, true, true, true, true, true, true, true, true, true, false, false, false] rfl rfl (by kernel_rfl) (fun _ _ _ h => h) (Or.inl ⟨by rfl, ?_⟩) hHeld ?_ ?_
            rotate_left
            · rintro w' ⟨s0, s1⟩
              go_simp
              with_reducible rfl
            rotate_left
            · simp only [Act.put, List.setIfInBounds_toArray, List.set_cons_zero, List.set_cons_succ, i64_w, i32_w]
              rfl
            refine last_ (i := 14) (N := some 32) #[true, true, true, true, true, true, true, true, true, true, true, true, true, true, true, false, false] rfl rfl (by kernel_rfl) (by decide) (fun K hK => ?_)
            refine goesC_ (caps := caps) Try.func72 (by kernel_rfl) rfl #[.int .i64 (Srt.g (0 : Int) ys gk), .int .i64 (Srt.g (0 : Int) ys j)] (by rfl) rfl rfl rfl (by (try simp only [List.map_toArray, List.map_cons, List.map_nil]); first | done | rfl) ?_
            refine (HC.out _ _ _ HQ1.out HQ2.out HSE.out.inv).mono ?_
            rintro e w3 ⟨v, rfl, hv, hb3⟩
            rw [HLT.out] at hv
            refine ⟨_, rfl, ?_⟩
            have HS3 := Aside0.mk (HSE.out.step hI hb3)
            refine hK.out _ _ ?_
            clear hK K hb3
            refine norm_ (a' := ?_) ?_ ?_
            rotate_left
            · show Act.put _ (some 32) _ = _
              simp only [Act.put, List.setIfInBounds_toArray, List.set_cons_zero, List.set_cons_succ, i64_w, i32_w]
              rfl
            refine pure_ (i := 15) (N := some 33) (v := ?_) (a' := ?_) #[true, true, true, true, true, true, true, true, true, true, true, true, true, true, true, true, false] rfl rfl (by kernel_rfl) (fun _ _ _ h => h) (Or.inl ⟨by rfl, ?_⟩) ?_ ?_
            rotate_left
            · intro w'
              go_simp
              with_reducible rfl
            rotate_left
            · simp only [Act.put, List.setIfInBounds_toArray, List.set_cons_zero, List.set_cons_succ, i64_w, i32_w]
              rfl
            refine pure_ (i := 16) (N := some 34) (v := ?_) (a' := ?_) #[true, true, true, true, true, true, true, true, true, true, true, true, true, true, true, true, true] rfl rfl (by kernel_rfl) (fun _ _ _ h => h) (Or.inl ⟨by rfl, ?_⟩) ?_ ?_
            rotate_left
            · intro w'
              go_simp
              with_reducible rfl
            rotate_left
            · simp only [Act.put, List.setIfInBounds_toArray, List.set_cons_zero, List.set_cons_succ, i64_w, i32_w]
              rfl
            refine done_ (by kernel_rfl) ?_
            clear hHeld hx hy
            have hx := HS3.out.cell (gk) hi1
            have hy := HS3.out.cell (j) hi2
            have HD := HS3.out.step hI (below_drew1 (Below.refl _ _))
            have H1 := (HS3.out.set1 hI (gk) hi1 _ (HS3.out.qg (j) hi2)).step hI (below_drew1 (Below.refl _ _))
            have hd1 := HD.cell (gk) hi1
            have hd2 := HD.cell (j) hi2
            have hf1 := fun q_ => HD.frozen (gk) q_ hi1
            have hz := H1.cell (j) hi2
            have hf2 := fun q_ => H1.frozen (gk) q_ hi1
            have HX := Aside0.mk ((HS3.out.swap hI (gk) (j) hi1 hi2).step hI (below_drew1 (Below.refl _ _)))
            clear HD H1
            go_wp2_with fail
            go_region
            obtain ⟨X, hX⟩ : ∃ X, (((w3).setCell ⟨g, gk, none⟩ (.int .i64 (Srt.g (0 : Int) ys (j)))).setCell ⟨g, j, none⟩ (.int .i64 (Srt.g (0 : Int) ys (gk)))).drew = X := ⟨_, rfl⟩
            rw [hX] at HX ⊢
            clear hX hx hy hd1 hd2 hf1 hz hf2
            go_wp2
            go_roundg j
            case measure => have := HJ1.out; omega
            case rel => exact ⟨_, by go_num, ⟨by have := HJ1.out; omega⟩, HG, HX⟩
          | false =>
            rw [hlt, if_neg (by decide)] at hgi
            have HG := Aside0.mk hgi
            have HLT := Aside0.mk hlt
            clear hgi hlt hq1 hq2 e2
            go_wp2_with fail
            refine start_ (n := 17) (S := fun w' => w'.cell? ⟨g, gk, none⟩ = some (.int .i64 (Srt.g 0 ys (gk))) ∧ w'.cell? ⟨g, j, none⟩ = some (.int .i64 (Srt.g 0 ys (j)))) (ds := [14]) #[false, false, false, false, false, false, false, false, false, false, false, false, false, false, false, false, false] (by kernel_rfl) rfl rfl ⟨hx, hy⟩ (fun hHeld => ?_)
            obtain ⟨E, hE⟩ : ∃ E, wr.drew = E := ⟨_, rfl⟩
            have HSE := Aside0.mk (show SS g c N w0 I Q E ys by rw [← hE]; exact HWi.out.step hI (below_drew1 (Below.refl _ _)))
            rw [hE] at hHeld ⊢
            clear hE
            refine pure_ (i := 0) (N := some 18) (v := ?_) (a' := ?_) #[true, false, false, false, false, false, false, false, false, false, false, false, false, false, false, false, false] rfl rfl (by kernel_rfl) (fun _ _ _ h => h) (Or.inl ⟨by rfl, ?_⟩) ?_ ?_
            rotate_left
            · intro w'
              go_simp
              with_reducible rfl
            rotate_left
            · simp only [Act.put, List.setIfInBounds_toArray, List.set_cons_zero, List.set_cons_succ, i64_w, i32_w]
              rfl
            refine pure_ (i := 1) (N := some 19) (v := ?_) (a' := ?_) #[true, true, false, false, false, false, false, false, false, false, false, false, false, false, false, false, false] rfl rfl (by kernel_rfl) (fun _ _ _ h => h) (Or.inl ⟨by rfl, ?_⟩) ?_ ?_
            rotate_left
            · intro w'
              go_simp
              with_reducible rfl
            rotate_left
            · simp only [Act.put, List.setIfInBounds_toArray, List.set_cons_zero, List.set_cons_succ, i64_w, i32_w]
              rfl
            refine pure_ (i := 2) (N := some 20) (v := ?_) (a' := ?_) #[true, true, true, false, false, false, false, false, false, false, false, false, false, false, false, false, false] rfl rfl (by kernel_rfl) (fun _ _ _ h => h) (Or.inl ⟨by rfl, ?_⟩) ?_ ?_
            rotate_left
            · intro w'
              go_simp
              with_reducible rfl
            rotate_left
            · simp only [Act.put, List.setIfInBounds_toArray, List.set_cons_zero, List.set_cons_succ, i64_w, i32_w]
              rfl
            refine pure_ (i := 3) (N := some 21) (v := ?_) (a' := ?_) #[true, true, true, true, false, false, false, false, false, false, false, false, false, false, false, false, false] rfl rfl (by kernel_rfl) (fun _ _ _ h => h) (Or.inl ⟨by rfl, ?_⟩) ?_ ?_
            rotate_left
            · intro w'
              go_simp
              with_reducible rfl
            rotate_left
            · simp only [Act.put, List.setIfInBounds_toArray, List.set_cons_zero, List.set_cons_succ, i64_w, i32_w]
              rfl
            refine pure_ (i := 4) (N := some 22) (v := ?_) (a' := ?_) #[true, true, true, true, true, false, false, false, false, false, false, false, false, false, false, false, false] rfl rfl (by kernel_rfl) (fun _ _ _ h => h) (Or.inl ⟨by rfl, ?_⟩) ?_ ?_
            rotate_left
            · intro w'
              go_simp
              with_reducible rfl
            rotate_left
            · simp only [Act.put, List.setIfInBounds_toArray, List.set_cons_zero, List.set_cons_succ, i64_w, i32_w]
              rfl
            refine pure_ (i := 5) (N := some 23) (v := ?_) (a' := ?_) #[true, true, true, true, true, true, false, false, false, false, false, false, false, false, false, false, false] rfl rfl (by kernel_rfl) (fun _ _ _ h => h) (Or.inl ⟨by rfl, ?_⟩) ?_ ?_
            rotate_left
            · intro w'
              go_simp
              with_reducible rfl
            rotate_left
            · simp only [Act.put, List.setIfInBounds_toArray, List.set_cons_zero, List.set_cons_succ, i64_w, i32_w]
              rfl
            refine pure_ (i := 6) (N := some 24) (v := ?_) (a' := ?_) #[true, true, true, true, true, true, true, false, false, false, false, false, false, false, false, false, false] rfl rfl (by kernel_rfl) (fun _ _ _ h => h) (Or.inl ⟨by rfl, ?_⟩) ?_ ?_
            rotate_left
            · intro w'
              go_simp
              with_reducible rfl
            rotate_left
            · simp only [Act.put, List.setIfInBounds_toArray, List.set_cons_zero, List.set_cons_succ, i64_w, i32_w]
              rfl
            refine pure_ (i := 7) (N := some 25) (v := ?_) (a' := ?_) #[true, true, true, true, true, true, true, true, false, false, false, false, false, false, false, false, false] rfl rfl (by kernel_rfl) (fun _ _ _ h => h) (Or.inl ⟨by rfl, ?_⟩) ?_ ?_
            rotate_left
            · intro w'
              go_simp
              with_reducible rfl
            rotate_left
            · simp only [Act.put, List.setIfInBounds_toArray, List.set_cons_zero, List.set_cons_succ, i64_w, i32_w]
              rfl
            refine take_ (i := 8) (N := some 26) (v := ?_) (a' := ?_) #[true, true, true, true, true, true, true, true, true, false, false, false, false, false, false, false, false] rfl rfl (by kernel_rfl) (fun _ _ _ h => h) (Or.inl ⟨by rfl, ?_⟩) hHeld ?_ ?_
            rotate_left
            · rintro w' ⟨s0, s1⟩
              go_simp
              with_reducible rfl
            rotate_left
            · simp only [Act.put, List.setIfInBounds_toArray, List.set_cons_zero, List.set_cons_succ, i64_w, i32_w]
              rfl
            refine pure_ (i := 9) (N := some 27) (v := ?_) (a' := ?_) #[true, true, true, true, true, true, true, true, true, true, false, false, false, false, false, false, false] rfl rfl (by kernel_rfl) (fun _ _ _ h => h) (Or.inl ⟨by rfl, ?_⟩) ?_ ?_
            rotate_left
            · intro w'
              go_simp
              with_reducible rfl
            rotate_left
            · simp only [Act.put, List.setIfInBounds_toArray, List.set_cons_zero, List.set_cons_succ, i64_w, i32_w]
              rfl
            refine pure_ (i := 10) (N := some 28) (v := ?_) (a' := ?_) #[true, true, true, true, true, true, true, true, true, true, true, false, false, false, false, false, false] rfl rfl (by kernel_rfl) (fun _ _ _ h => h) (Or.inl ⟨by rfl, ?_⟩) ?_ ?_
            rotate_left
            · intro w'
              go_simp
              with_reducible rfl
            rotate_left
            · simp only [Act.put, List.setIfInBounds_toArray, List.set_cons_zero, List.set_cons_succ, i64_w, i32_w]
              rfl
            refine pure_ (i := 11) (N := some 29) (v := ?_) (a' := ?_) #[true, true, true, true, true, true, true, true, true, true, true, true, false, false, false, false, false] rfl rfl (by kernel_rfl) (fun _ _ _ h => h) (Or.inl ⟨by rfl, ?_⟩) ?_ ?_
            rotate_left
            · intro w'
              go_simp
              with_reducible rfl
            rotate_left
            · simp only [Act.put, List.setIfInBounds_toArray, List.set_cons_zero, List.set_cons_succ, i64_w, i32_w]
              rfl
            refine pure_ (i := 12) (N := some 30) (v := ?_) (a' := ?_) #[true, true, true, true, true, true, true, true, true, true, true, true, true, false, false, false, false] rfl rfl (by kernel_rfl) (fun _ _ _ h => h) (Or.inl ⟨by rfl, ?_⟩) ?_ ?_
            rotate_left
            · intro w'
              go_simp
              with_reducible rfl
            rotate_left
            · simp only [Act.put, List.setIfInBounds_toArray, List.set_cons_zero, List.set_cons_succ, i64_w, i32_w]
              rfl
            refine take_ (i := 13) (N := some 31) (v := ?_) (a' := ?_) #[true, true, true, true, true, true, true, true, true, true, true, true, true, true, false, false, false] rfl rfl (by kernel_rfl) (fun _ _ _ h => h) (Or.inl ⟨by rfl, ?_⟩) hHeld ?_ ?_
            rotate_left
            · rintro w' ⟨s0, s1⟩
              go_simp
              with_reducible rfl
            rotate_left
            · simp only [Act.put, List.setIfInBounds_toArray, List.set_cons_zero, List.set_cons_succ, i64_w, i32_w]
              rfl
            refine last_ (i := 14) (N := some 32) #[true, true, true, true, true, true, true, true, true, true, true, true, true, true, true, false, false] rfl rfl (by kernel_rfl) (by decide) (fun K hK => ?_)
            refine goesC_ (caps := caps) Try.func72 (by kernel_rfl) rfl #[.int .i64 (Srt.g (0 : Int) ys gk), .int .i64 (Srt.g (0 : Int) ys j)] (by rfl) rfl rfl rfl (by (try simp only [List.map_toArray, List.map_cons, List.map_nil]); first | done | rfl) ?_
            refine (HC.out _ _ _ HQ1.out HQ2.out HSE.out.inv).mono ?_
            rintro e w3 ⟨v, rfl, hv, hb3⟩
            rw [HLT.out] at hv
            refine ⟨_, rfl, ?_⟩
            have HS3 := Aside0.mk (HSE.out.step hI hb3)
            refine hK.out _ _ ?_
            clear hK K hb3
            refine norm_ (a' := ?_) ?_ ?_
            rotate_left
            · show Act.put _ (some 32) _ = _
              simp only [Act.put, List.setIfInBounds_toArray, List.set_cons_zero, List.set_cons_succ, i64_w, i32_w]
              rfl
            refine pure_ (i := 15) (N := some 33) (v := ?_) (a' := ?_) #[true, true, true, true, true, true, true, true, true, true, true, true, true, true, true, true, false] rfl rfl (by kernel_rfl) (fun _ _ _ h => h) (Or.inl ⟨by rfl, ?_⟩) ?_ ?_
            rotate_left
            · intro w'
              go_simp
              with_reducible rfl
            rotate_left
            · simp only [Act.put, List.setIfInBounds_toArray, List.set_cons_zero, List.set_cons_succ, i64_w, i32_w]
              rfl
            refine pure_ (i := 16) (N := some 34) (v := ?_) (a' := ?_) #[true, true, true, true, true, true, true, true, true, true, true, true, true, true, true, true, true] rfl rfl (by kernel_rfl) (fun _ _ _ h => h) (Or.inl ⟨by rfl, ?_⟩) ?_ ?_
            rotate_left
            · intro w'
              go_simp
              with_reducible rfl
            rotate_left
            · simp only [Act.put, List.setIfInBounds_toArray, List.set_cons_zero, List.set_cons_succ, i64_w, i32_w]
              rfl
            refine done_ (by kernel_rfl) ?_
            clear hHeld hx hy
            go_wp2
            go_roundg k'
            case measure => omega
            case rel => exact ⟨i + 1, ys, by go_num, ⟨by omega, by omega⟩, ⟨by rw [HG.out]; exact HF.out⟩, HS3⟩
        · have hgi := HFi.out
          have hys : ys = Srt.insIn (0 : Int) lt a i xs := by
            rw [← hgi]
            cases gk with
            | zero => rfl
            | succ j => rw [Srt.insIn, if_neg haj]
          have HG := Aside0.mk hys
          have hgt2 := decide_eq_false (show ¬ (a : Int) < (gk : Int) by omega)
          clear hgi hys
          go_wp2_with fail
          refine start_ (n := 17) (S := fun _ => True) (ds := []) #[false, false, false, false, false, false, false, false, false, false, false, false, false, false, false, false, false] (by kernel_rfl) rfl rfl trivial (fun hHeld => ?_)
          refine pure_ (i := 0) (N := some 18) (v := ?_) (a' := ?_) #[true, false, false, false, false, false, false, false, false, false, false, false, false, false, false, false, false] rfl rfl (by kernel_rfl) (fun _ _ _ h => h) (Or.inl ⟨by rfl, ?_⟩) ?_ ?_
          rotate_left
          · intro w'
            go_simp
            with_reducible rfl
          rotate_left
          · simp only [Act.put, List.setIfInBounds_toArray, List.set_cons_zero, List.set_cons_succ, i64_w, i32_w]
            rfl
          refine pure_ (i := 1) (N := some 19) (v := ?_) (a' := ?_) #[true, true, false, false, false, false, false, false, false, false, false, false, false, false, false, false, false] rfl rfl (by kernel_rfl) (fun _ _ _ h => h) (Or.inl ⟨by rfl, ?_⟩) ?_ ?_
          rotate_left
          · intro w'
            go_simp
            with_reducible rfl
          rotate_left
          · simp only [Act.put, List.setIfInBounds_toArray, List.set_cons_zero, List.set_cons_succ, i64_w, i32_w]
            rfl
          refine pure_ (i := 2) (N := some 20) (v := ?_) (a' := ?_) #[true, true, true, false, false, false, false, false, false, false, false, false, false, false, false, false, false] rfl rfl (by kernel_rfl) (fun _ _ _ h => h) (Or.inl ⟨by rfl, ?_⟩) ?_ ?_
          rotate_left
          · intro w'
            go_simp
            with_reducible rfl
          rotate_left
          · simp only [Act.put, List.setIfInBounds_toArray, List.set_cons_zero, List.set_cons_succ, i64_w, i32_w]
            rfl
          refine pure_ (i := 3) (N := some 21) (v := ?_) (a' := ?_) #[true, true, true, true, false, false, false, false, false, false, false, false, false, false, false, false, false] rfl rfl (by kernel_rfl) (fun _ _ _ h => h) (Or.inl ⟨by rfl, ?_⟩) ?_ ?_
          rotate_left
          · intro w'
            go_simp
            with_reducible rfl
          rotate_left
          · simp only [Act.put, List.setIfInBounds_toArray, List.set_cons_zero, List.set_cons_succ, i64_w, i32_w]
            rfl
          refine pure_ (i := 4) (N := some 22) (v := undef) (a' := ?_) #[true, true, true, true, true, false, false, false, false, false, false, false, false, false, false, false, false] rfl rfl (by kernel_rfl) (fun _ _ _ h => h) (Or.inr ⟨by rfl, rfl⟩) ?_ ?_
          rotate_left
          · simp only [Act.put, List.setIfInBounds_toArray, List.set_cons_zero, List.set_cons_succ, i64_w, i32_w]
            rfl
          refine pure_ (i := 5) (N := some 23) (v := undef) (a' := ?_) #[true, true, true, true, true, true, false, false, false, false, false, false, false, false, false, false, false] rfl rfl (by kernel_rfl) (fun _ _ _ h => h) (Or.inr ⟨by rfl, rfl⟩) ?_ ?_
          rotate_left
          · simp only [Act.put, List.setIfInBounds_toArray, List.set_cons_zero, List.set_cons_succ, i64_w, i32_w]
            rfl
          refine pure_ (i := 6) (N := some 24) (v := undef) (a' := ?_) #[true, true, true, true, true, true, true, false, false, false, false, false, false, false, false, false, false] rfl rfl (by kernel_rfl) (fun _ _ _ h => h) (Or.inr ⟨by rfl, rfl⟩) ?_ ?_
          rotate_left
          · simp only [Act.put, List.setIfInBounds_toArray, List.set_cons_zero, List.set_cons_succ, i64_w, i32_w]
            rfl
          refine pure_ (i := 7) (N := some 25) (v := undef) (a' := ?_) #[true, true, true, true, true, true, true, true, false, false, false, false, false, false, false, false, false] rfl rfl (by kernel_rfl) (fun _ _ _ h => h) (Or.inr ⟨by rfl, rfl⟩) ?_ ?_
          rotate_left
          · simp only [Act.put, List.setIfInBounds_toArray, List.set_cons_zero, List.set_cons_succ, i64_w, i32_w]
            rfl
          refine pure_ (i := 8) (N := some 26) (v := undef) (a' := ?_) #[true, true, true, true, true, true, true, true, true, false, false, false, false, false, false, false, false] rfl rfl (by kernel_rfl) (fun _ _ _ h => h) (Or.inr ⟨by rfl, rfl⟩) ?_ ?_
          rotate_left
          · simp only [Act.put, List.setIfInBounds_toArray, List.set_cons_zero, List.set_cons_succ, i64_w, i32_w]
            rfl
          refine pure_ (i := 9) (N := some 27) (v := undef) (a' := ?_) #[true, true, true, true, true, true, true, true, true, true, false, false, false, false, false, false, false] rfl rfl (by kernel_rfl) (fun _ _ _ h => h) (Or.inr ⟨by rfl, rfl⟩) ?_ ?_
          rotate_left
          · simp only [Act.put, List.setIfInBounds_toArray, List.set_cons_zero, List.set_cons_succ, i64_w, i32_w]
            rfl
          refine pure_ (i := 10) (N := some 28) (v := undef) (a' := ?_) #[true, true, true, true, true, true, true, true, true, true, true, false, false, false, false, false, false] rfl rfl (by kernel_rfl) (fun _ _ _ h => h) (Or.inr ⟨by rfl, rfl⟩) ?_ ?_
          rotate_left
          · simp only [Act.put, List.setIfInBounds_toArray, List.set_cons_zero, List.set_cons_succ, i64_w, i32_w]
            rfl
          refine pure_ (i := 11) (N := some 29) (v := undef) (a' := ?_) #[true, true, true, true, true, true, true, true, true, true, true, true, false, false, false, false, false] rfl rfl (by kernel_rfl) (fun _ _ _ h => h) (Or.inr ⟨by rfl, rfl⟩) ?_ ?_
          rotate_left
          · simp only [Act.put, List.setIfInBounds_toArray, List.set_cons_zero, List.set_cons_succ, i64_w, i32_w]
            rfl
          refine pure_ (i := 12) (N := some 30) (v := undef) (a' := ?_) #[true, true, true, true, true, true, true, true, true, true, true, true, true, false, false, false, false] rfl rfl (by kernel_rfl) (fun _ _ _ h => h) (Or.inr ⟨by rfl, rfl⟩) ?_ ?_
          rotate_left
          · simp only [Act.put, List.setIfInBounds_toArray, List.set_cons_zero, List.set_cons_succ, i64_w, i32_w]
            rfl
          refine pure_ (i := 13) (N := some 31) (v := undef) (a' := ?_) #[true, true, true, true, true, true, true, true, true, true, true, true, true, true, false, false, false] rfl rfl (by kernel_rfl) (fun _ _ _ h => h) (Or.inr ⟨by rfl, rfl⟩) ?_ ?_
          rotate_left
          · simp only [Act.put, List.setIfInBounds_toArray, List.set_cons_zero, List.set_cons_succ, i64_w, i32_w]
            rfl
          refine pure_ (i := 14) (N := some 32) (v := undef) (a' := ?_) #[true, true, true, true, true, true, true, true, true, true, true, true, true, true, true, false, false] rfl rfl (by kernel_rfl) (fun _ _ _ h => h) (Or.inr ⟨by rfl, rfl⟩) ?_ ?_
          rotate_left
          · simp only [Act.put, List.setIfInBounds_toArray, List.set_cons_zero, List.set_cons_succ, i64_w, i32_w]
            rfl
          refine pure_ (i := 15) (N := some 33) (v := undef) (a' := ?_) #[true, true, true, true, true, true, true, true, true, true, true, true, true, true, true, true, false] rfl rfl (by kernel_rfl) (fun _ _ _ h => h) (Or.inr ⟨by rfl, rfl⟩) ?_ ?_
          rotate_left
          · simp only [Act.put, List.setIfInBounds_toArray, List.set_cons_zero, List.set_cons_succ, i64_w, i32_w]
            rfl
          refine pure_ (i := 16) (N := some 34) (v := ?_) (a' := ?_) #[true, true, true, true, true, true, true, true, true, true, true, true, true, true, true, true, true] rfl rfl (by kernel_rfl) (fun _ _ _ h => h) (Or.inl ⟨by rfl, ?_⟩) ?_ ?_
          rotate_left
          · intro w'
            go_simp
            with_reducible rfl
          rotate_left
          · simp only [Act.put, List.setIfInBounds_toArray, List.set_cons_zero, List.set_cons_succ, i64_w, i32_w]
            rfl
          refine done_ (by kernel_rfl) ?_
          clear hHeld
          go_wp2
          go_roundg k'
          case measure => omega
          case rel => exact ⟨i + 1, ys, by go_num, ⟨by omega, by omega⟩, ⟨by rw [HG.out]; exact HF.out⟩, by first | exact HWi | exact ⟨HWi.out.step hI (below_drew1 (Below.refl _ _))⟩⟩
    · obtain rfl : gk = 0 := by omega
      have hg : xs = Srt.insF (0 : Int) lt a b xs0 := HF.out
      have HG := Aside0.mk hg
      clear hg
      go_wp2_with fail
      refine ⟨rfl, .tuple #[], ?_, ⟨_, rfl⟩, ?_⟩
      · simp [results, Try.results121, go_sem]
      · rw [← HG.out]; exact HW.out
theorem bs_step (p : Nat → Bool) (k lo hi mid : Nat) (h : lo < hi) (hm : (lo + hi) / 2 = mid) : Srt.bs p (k + 1) lo hi = if p mid = true then Srt.bs p k (mid + 1) hi else Srt.bs p k lo mid := by
  rw [Srt.bs, if_pos h, hm]
theorem bs_end (p : Nat → Bool) (k lo hi : Nat) (h : ¬ lo < hi) : Srt.bs p k lo hi = lo := by
  cases k with
  | zero => rfl
  | succ k => rw [Srt.bs, if_neg h]
end Go.Proofs.Ytokijibpdnepiaa.X
end
section
namespace Go.Proofs.Ytokijibpdnepiaa.X
open Go.RowKit Go.Proofs.YtokijibpdnepiaaW.PrintWords Go.Proofs.YtokijibpdnepiaaW.PrintLast Go.Proofs.YtokijibpdnepiaaW.PrintMore
attribute [local go_sem] max2_int min2_int max_two min_two max_three min_three max_four min_four
set_option linter.unusedVariables false
set_option linter.unusedSimpArgs false
set_option maxHeartbeats 8000000 in
set_option maxRecDepth 100000 in
theorem sym_one (g c N : Nat) (w0 : World) (I : World → Prop) (Q : Int → Prop) (lt : Int → Int → Bool) (caps : Array Value) (hI : Stays g I) (hC : Cmp caps I Q lt) (hN2 : N ≤ 4611686018427387903) (f : Nat) (a m b : Nat) (xs0 : List Int) (w : World) (h : SS g c N w0 I Q w xs0) (ham : a < m) (hmb : m < b) (hbN : b ≤ N) (hf : b - a ≤ f + 1) (c1 : m - a = 1) :
    Calls Try.prog 122 #[.slice (some ⟨g, 0, none⟩) N c, .int .i64 (a : Int), .int .i64 (m : Int), .int .i64 (b : Int), .func (.func 72) #[] caps] w fun e w' => (∃ r, e = .returned r) ∧ SS g c N w0 I Q w' (Srt.symF (0 : Int) lt (f + 1) a m b xs0) := by
  have HS := Aside0.mk h
  have HC := Aside0.mk hC
  clear h hC
  have hm1 : m = a + 1 := by omega
  obtain ⟨st, hst⟩ : ∃ st, Srt.bs (fun h => lt (Srt.g (0 : Int) xs0 h) (Srt.g (0 : Int) xs0 a)) (b - m) m b = st := ⟨_, rfl⟩
  have hF : Srt.symF (0 : Int) lt (f + 1) a m b xs0 = Srt.up (0 : Int) (st - 1 - a) a xs0 := by
    rw [Srt.symF, if_pos c1]
    dsimp only
    rw [hst]
  obtain ⟨s1, hs1⟩ : ∃ s1, st - 1 = s1 := ⟨_, rfl⟩
  rw [hF, hs1]
  have HST := Aside0.mk hst
  have HS1 := Aside0.mk hs1
  clear hs1
  have hc1 : (m : Int) - (a : Int) = 1 := by omega
  clear hst hF
  go_enter Try.func122, Try.ntmps122
  go_wp2_with fail
  go_loopg [10, 11] (b - m) (fun kq v10 v11 wr => ∃ lo hi : Nat, v10 = .int .i64 (lo : Int) ∧ v11 = .int .i64 (hi : Int) ∧ Aside0 (m ≤ lo ∧ lo ≤ hi ∧ hi ≤ b ∧ hi - lo ≤ kq) ∧ Aside0 (Srt.bs (fun h => lt (Srt.g (0 : Int) xs0 h) (Srt.g (0 : Int) xs0 a)) kq lo hi = st) ∧ Aside0 (SS g c N w0 I Q wr xs0))
  case atStart => exact ⟨m, b, rfl, rfl, ⟨by omega, by omega, by omega, by omega⟩, HST, HS⟩
  case round =>
    obtain ⟨lo, hi, rfl, rfl, HK, HF, HW⟩ := hrel
    obtain ⟨k1, k2, k3, k4⟩ := HK.out
    by_cases hlt : lo < hi
    · obtain ⟨k', rfl⟩ : ∃ k', gk = k' + 1 := ⟨gk - 1, by omega⟩
      obtain ⟨mid, hm⟩ : ∃ mid, (lo + hi) / 2 = mid := ⟨_, rfl⟩
      have hg := HF.out
      rw [bs_step _ _ _ _ _ hlt hm] at hg
      have hi1 : mid < N := by omega
      have hi2 : a < N := by omega
      have hq1 := HW.out.qg mid hi1
      have HQ1 := Aside0.mk hq1
      clear hq1
      have hx := HW.out.cell mid hi1
      have hb0 := eq_true (show 0 ≤ (mid : Int) by omega)
      have hb1 := eq_true (show (mid : Int) < (N : Int) by omega)
      have hq2 := HW.out.qg a hi2
      have HQ2 := Aside0.mk hq2
      clear hq2
      have hy := HW.out.cell a hi2
      have hb2 := eq_true (show 0 ≤ (a : Int) by omega)
      have hb3 := eq_true (show (a : Int) < (N : Int) by omega)
      have hmd : ((lo : Int) + (hi : Int)) / 2 = (mid : Int) := by omega
      have b5 : lo ≤ mid := by omega
      have b6 : mid < hi := by omega
      cases hlt2 : lt (Srt.g (0 : Int) xs0 mid) (Srt.g (0 : Int) xs0 a) with
      | true =>
        rw [hlt2, if_pos rfl] at hg
        have HG := Aside0.mk hg
        have HLT := Aside0.mk hlt2
        have HM := Aside0.mk hm
        clear hg hlt2 hm
        go_wp2_with fail
        refine start_ (n := 11) (S := fun w' => w'.cell? ⟨g, mid, none⟩ = some (.int .i64 (Srt.g 0 xs0 (mid))) ∧ w'.cell? ⟨g, a, none⟩ = some (.int .i64 (Srt.g 0 xs0 (a)))) (ds := [9]) #[false, false, false, false, false, false, false, false, false, false, false] (by kernel_rfl) rfl rfl ⟨hx, hy⟩ (fun hHeld => ?_)
        obtain ⟨E, hE⟩ : ∃ E, wr.drew = E := ⟨_, rfl⟩
        have HSE := Aside0.mk (show SS g c N w0 I Q E xs0 by rw [← hE]; exact HW.out.step hI (below_drew1 (Below.refl _ _)))
        rw [hE] at hHeld ⊢
        clear hE
        refine pure_ (i := 0) (N := some 40) (v := ?_) (a' := ?_) #[true, false, false, false, false, false, false, false, false, false, false] rfl rfl (by kernel_rfl) (fun _ _ _ h => h) (Or.inl ⟨by rfl, ?_⟩) ?_ ?_
        rotate_left
        · intro w'
          go_simp
          with_reducible rfl
        rotate_left
        · simp only [Act.put, List.setIfInBounds_toArray, List.set_cons_zero, List.set_cons_succ, i64_w, i32_w]
          rfl
        refine pure_ (i := 1) (N := some 41) (v := ?_) (a' := ?_) #[true, true, false, false, false, false, false, false, false, false, false] rfl rfl (by kernel_rfl) (fun _ _ _ h => h) (Or.inl ⟨by rfl, ?_⟩) ?_ ?_
        rotate_left
        · intro w'
          go_simp
          with_reducible rfl
        rotate_left
        · simp only [Act.put, List.setIfInBounds_toArray, List.set_cons_zero, List.set_cons_succ, i64_w, i32_w]
          rfl
        refine pure_ (i := 2) (N := some 42) (v := ?_) (a' := ?_) #[true, true, true, false, false, false, false, false, false, false, false] rfl rfl (by kernel_rfl) (fun _ _ _ h => h) (Or.inl ⟨by rfl, ?_⟩) ?_ ?_
        rotate_left
        · intro w'
          go_simp
          with_reducible rfl
        rotate_left
        · simp only [Act.put, List.setIfInBounds_toArray, List.set_cons_zero, List.set_cons_succ, i64_w, i32_w]
          rfl
        refine pure_ (i := 3) (N := some 43) (v := ?_) (a' := ?_) #[true, true, true, true, false, false, false, false, false, false, false] rfl rfl (by kernel_rfl) (fun _ _ _ h => h) (Or.inl ⟨by rfl, ?_⟩) ?_ ?_
        rotate_left
        · intro w'
          go_simp
          with_reducible rfl
        rotate_left
        · simp only [Act.put, List.setIfInBounds_toArray, List.set_cons_zero, List.set_cons_succ, i64_w, i32_w]
          rfl
        refine take_ (i := 4) (N := some 44) (v := ?_) (a' := ?_) #[true, true, true, true, true, false, false, false, false, false, false] rfl rfl (by kernel_rfl) (fun _ _ _ h => h) (Or.inl ⟨by rfl, ?_⟩) hHeld ?_ ?_
        rotate_left
        · rintro w' ⟨s0, s1⟩
          go_simp
          with_reducible rfl
        rotate_left
        · simp only [Act.put, List.setIfInBounds_toArray, List.set_cons_zero, List.set_cons_succ, i64_w, i32_w]
          rfl
        refine pure_ (i := 5) (N := some 45) (v := ?_) (a' := ?_) #[true, true, true, true, true, true, false, false, false, false, false] rfl rfl (by kernel_rfl) (fun _ _ _ h => h) (Or.inl ⟨by rfl, ?_⟩) ?_ ?_
        rotate_left
        · intro w'
          go_simp
          with_reducible rfl
        rotate_left
        · simp only [Act.put, List.setIfInBounds_toArray, List.set_cons_zero, List.set_cons_succ, i64_w, i32_w]
          rfl
        refine pure_ (i := 6) (N := some 46) (v := ?_) (a' := ?_) #[true, true, true, true, true, true, true, false, false, false, false] rfl rfl (by kernel_rfl) (fun _ _ _ h => h) (Or.inl ⟨by rfl, ?_⟩) ?_ ?_
        rotate_left
        · intro w'
          go_simp
          with_reducible rfl
        rotate_left
        · simp only [Act.put, List.setIfInBounds_toArray, List.set_cons_zero, List.set_cons_succ, i64_w, i32_w]
          rfl
        refine pure_ (i := 7) (N := some 47) (v := ?_) (a' := ?_) #[true, true, true, true, true, true, true, true, false, false, false] rfl rfl (by kernel_rfl) (fun _ _ _ h => h) (Or.inl ⟨by rfl, ?_⟩) ?_ ?_
        rotate_left
        · intro w'
          go_simp
          with_reducible rfl
        rotate_left
        · simp only [Act.put, List.setIfInBounds_toArray, List.set_cons_zero, List.set_cons_succ, i64_w, i32_w]
          rfl
        refine take_ (i := 8) (N := some 48) (v := ?_) (a' := ?_) #[true, true, true, true, true, true, true, true, true, false, false] rfl rfl (by kernel_rfl) (fun _ _ _ h => h) (Or.inl ⟨by rfl, ?_⟩) hHeld ?_ ?_
        rotate_left
        · rintro w' ⟨s0, s1⟩
          go_simp
          with_reducible rfl
        rotate_left
        · simp only [Act.put, List.setIfInBounds_toArray, List.set_cons_zero, List.set_cons_succ, i64_w, i32_w]
          rfl
        refine last_ (i := 9) (N := some 49) #[true, true, true, true, true, true, true, true, true, true, false] rfl rfl (by kernel_rfl) (by decide) (fun K hK => ?_)
        refine goesC_ (caps := caps) Try.func72 (by kernel_rfl) rfl #[.int .i64 (Srt.g (0 : Int) xs0 mid), .int .i64 (Srt.g (0 : Int) xs0 a)] (by rfl) rfl rfl rfl (by (try simp only [List.map_toArray, List.map_cons, List.map_nil]); first | done | rfl) ?_
        refine (HC.out _ _ _ HQ1.out HQ2.out HSE.out.inv).mono ?_
        rintro e w3 ⟨v, rfl, hv, hb3⟩
        rw [HLT.out] at hv
        refine ⟨_, rfl, ?_⟩
        have HS3 := Aside0.mk (HSE.out.step hI hb3)
        refine hK.out _ _ ?_
        clear hK K hb3
        refine norm_ (a' := ?_) ?_ ?_
        rotate_left
        · show Act.put _ (some 49) _ = _
          simp only [Act.put, List.setIfInBounds_toArray, List.set_cons_zero, List.set_cons_succ, i64_w, i32_w]
          rfl
        refine pure_ (i := 10) (N := some 50) (v := ?_) (a' := ?_) #[true, true, true, true, true, true, true, true, true, true, true] rfl rfl (by kernel_rfl) (fun _ _ _ h => h) (Or.inl ⟨by rfl, ?_⟩) ?_ ?_
        rotate_left
        · intro w'
          go_simp
          with_reducible rfl
        rotate_left
        · simp only [Act.put, List.setIfInBounds_toArray, List.set_cons_zero, List.set_cons_succ, i64_w, i32_w]
          rfl
        refine done_ (by kernel_rfl) ?_
        clear hHeld hx hy
        go_wp2
        go_roundg k'
        case measure => omega
        case rel => exact ⟨mid + 1, hi, by go_num, rfl, ⟨by omega, by omega, by omega, by omega⟩, HG, HS3⟩
      | false =>
        rw [hlt2, if_neg (by decide)] at hg
        have HG := Aside0.mk hg
        have HLT := Aside0.mk hlt2
        have HM := Aside0.mk hm
        clear hg hlt2 hm
        go_wp2_with fail
        refine start_ (n := 11) (S := fun w' => w'.cell? ⟨g, mid, none⟩ = some (.int .i64 (Srt.g 0 xs0 (mid))) ∧ w'.cell? ⟨g, a, none⟩ = some (.int .i64 (Srt.g 0 xs0 (a)))) (ds := [9]) #[false, false, false, false, false, false, false, false, false, false, false] (by kernel_rfl) rfl rfl ⟨hx, hy⟩ (fun hHeld => ?_)
        obtain ⟨E, hE⟩ : ∃ E, wr.drew = E := ⟨_, rfl⟩
        have HSE := Aside0.mk (show SS g c N w0 I Q E xs0 by rw [← hE]; exact HW.out.step hI (below_drew1 (Below.refl _ _)))
        rw [hE] at hHeld ⊢
        clear hE
        refine pure_ (i := 0) (N := some 40) (v := ?_) (a' := ?_) #[true, false, false, false, false, false, false, false, false, false, false] rfl rfl (by kernel_rfl) (fun _ _ _ h => h) (Or.inl ⟨by rfl, ?_⟩) ?_ ?_
        rotate_left
        · intro w'
          go_simp
          with_reducible rfl
        rotate_left
        · simp only [Act.put, List.setIfInBounds_toArray, List.set_cons_zero, List.set_cons_succ, i64_w, i32_w]
          rfl
        refine pure_ (i := 1) (N := some 41) (v := ?_) (a' := ?_) #[true, true, false, false, false, false, false, false, false, false, false] rfl rfl (by kernel_rfl) (fun _ _ _ h => h) (Or.inl ⟨by rfl, ?_⟩) ?_ ?_
        rotate_left
        · intro w'
          go_simp
          with_reducible rfl
        rotate_left
        · simp only [Act.put, List.setIfInBounds_toArray, List.set_cons_zero, List.set_cons_succ, i64_w, i32_w]
          rfl
        refine pure_ (i := 2) (N := some 42) (v := ?_) (a' := ?_) #[true, true, true, false, false, false, false, false, false, false, false] rfl rfl (by kernel_rfl) (fun _ _ _ h => h) (Or.inl ⟨by rfl, ?_⟩) ?_ ?_
        rotate_left
        · intro w'
          go_simp
          with_reducible rfl
        rotate_left
        · simp only [Act.put, List.setIfInBounds_toArray, List.set_cons_zero, List.set_cons_succ, i64_w, i32_w]
          rfl
        refine pure_ (i := 3) (N := some 43) (v := ?_) (a' := ?_) #[true, true, true, true, false, false, false, false, false, false, false] rfl rfl (by kernel_rfl) (fun _ _ _ h => h) (Or.inl ⟨by rfl, ?_⟩) ?_ ?_
        rotate_left
        · intro w'
          go_simp
          with_reducible rfl
        rotate_left
        · simp only [Act.put, List.setIfInBounds_toArray, List.set_cons_zero, List.set_cons_succ, i64_w, i32_w]
          rfl
        refine take_ (i := 4) (N := some 44) (v := ?_) (a' := ?_) #[true, true, true, true, true, false, false, false, false, false, false] rfl rfl (by kernel_rfl) (fun _ _ _ h => h) (Or.inl ⟨by rfl, ?_⟩) hHeld ?_ ?_
        rotate_left
        · rintro w' ⟨s0, s1⟩
          go_simp
          with_reducible rfl
        rotate_left
        · simp only [Act.put, List.setIfInBounds_toArray, List.set_cons_zero, List.set_cons_succ, i64_w, i32_w]
          rfl
        refine pure_ (i := 5) (N := some 45) (v := ?_) (a' := ?_) #[true, true, true, true, true, true, false, false, false, false, false] rfl rfl (by kernel_rfl) (fun _ _ _ h => h) (Or.inl ⟨by rfl, ?_⟩) ?_ ?_
        rotate_left
        · intro w'
          go_simp
          with_reducible rfl
        rotate_left
        · simp only [Act.put, List.setIfInBounds_toArray, List.set_cons_zero, List.set_cons_succ, i64_w, i32_w]
          rfl
        refine pure_ (i := 6) (N := some 46) (v := ?_) (a' := ?_) #[true, true, true, true, true, true, true, false, false, false, false] rfl rfl (by kernel_rfl) (fun _ _ _ h => h) (Or.inl ⟨by rfl, ?_⟩) ?_ ?_
        rotate_left
        · intro w'
          go_simp
          with_reducible rfl
        rotate_left
        · simp only [Act.put, List.setIfInBounds_toArray, List.set_cons_zero, List.set_cons_succ, i64_w, i32_w]
          rfl
        refine pure_ (i := 7) (N := some 47) (v := ?_) (a' := ?_) #[true, true, true, true, true, true, true, true, false, false, false] rfl rfl (by kernel_rfl) (fun _ _ _ h => h) (Or.inl ⟨by rfl, ?_⟩) ?_ ?_
        rotate_left
        · intro w'
          go_simp
          with_reducible rfl
        rotate_left
        · simp only [Act.put, List.setIfInBounds_toArray, List.set_cons_zero, List.set_cons_succ, i64_w, i32_w]
          rfl
        refine take_ (i := 8) (N := some 48) (v := ?_) (a' := ?_) #[true, true, true, true, true, true, true, true, true, false, false] rfl rfl (by kernel_rfl) (fun _ _ _ h => h) (Or.inl ⟨by rfl, ?_⟩) hHeld ?_ ?_
        rotate_left
        · rintro w' ⟨s0, s1⟩
          go_simp
          with_reducible rfl
        rotate_left
        · simp only [Act.put, List.setIfInBounds_toArray, List.set_cons_zero, List.set_cons_succ, i64_w, i32_w]
          rfl
        refine last_ (i := 9) (N := some 49) #[true, true, true, true, true, true, true, true, true, true, false] rfl rfl (by kernel_rfl) (by decide) (fun K hK => ?_)
        refine goesC_ (caps := caps) Try.func72 (by kernel_rfl) rfl #[.int .i64 (Srt.g (0 : Int) xs0 mid), .int .i64 (Srt.g (0 : Int) xs0 a)] (by rfl) rfl rfl rfl (by (try simp only [List.map_toArray, List.map_cons, List.map_nil]); first | done | rfl) ?_
        refine (HC.out _ _ _ HQ1.out HQ2.out HSE.out.inv).mono ?_
        rintro e w3 ⟨v, rfl, hv, hb3⟩
        rw [HLT.out] at hv
        refine ⟨_, rfl, ?_⟩
        have HS3 := Aside0.mk (HSE.out.step hI hb3)
        refine hK.out _ _ ?_
        clear hK K hb3
        refine norm_ (a' := ?_) ?_ ?_
        rotate_left
        · show Act.put _ (some 49) _ = _
          simp only [Act.put, List.setIfInBounds_toArray, List.set_cons_zero, List.set_cons_succ, i64_w, i32_w]
          rfl
        refine pure_ (i := 10) (N := some 50) (v := ?_) (a' := ?_) #[true, true, true, true, true, true, true, true, true, true, true] rfl rfl (by kernel_rfl) (fun _ _ _ h => h) (Or.inl ⟨by rfl, ?_⟩) ?_ ?_
        rotate_left
        · intro w'
          go_simp
          with_reducible rfl
        rotate_left
        · simp only [Act.put, List.setIfInBounds_toArray, List.set_cons_zero, List.set_cons_succ, i64_w, i32_w]
          rfl
        refine done_ (by kernel_rfl) ?_
        clear hHeld hx hy
        go_wp2
        go_roundg k'
        case measure => omega
        case rel => exact ⟨lo, mid, rfl, by go_num, ⟨by omega, by omega, by omega, by omega⟩, HG, HS3⟩
    · have hg := HF.out
      rw [bs_end _ _ _ _ hlt] at hg
      subst hg
      have hs1' : (lo : Int) - 1 = (s1 : Int) := by have := HS1.out; omega
      go_wp2_with fail
      go_loopg [13] (s1 - a) (fun kq v13 wr => ∃ (k : Nat) (ys : List Int), v13 = .int .i64 (k : Int) ∧ Aside0 (a ≤ k ∧ kq + k = a + (s1 - a)) ∧ Aside0 (Srt.up (0 : Int) kq k ys = Srt.up (0 : Int) (s1 - a) a xs0) ∧ Aside0 (SS g c N w0 I Q wr ys))
      case atStart => exact ⟨a, xs0, rfl, ⟨by omega, by omega⟩, ⟨rfl⟩, HW⟩
      case round =>
        obtain ⟨k, ys, rfl, HJ, HFi, HWi⟩ := hrel
        obtain ⟨j1, j2⟩ := HJ.out
        have j3 := HS1.out
        by_cases hks : k < s1
        · obtain ⟨k', rfl⟩ : ∃ k', gk = k' + 1 := ⟨gk - 1, by omega⟩
          have hg : Srt.up (0 : Int) k' (k + 1) (Srt.sw (0 : Int) ys k (k + 1)) = Srt.up (0 : Int) (s1 - a) a xs0 := HFi.out
          have HG := Aside0.mk hg
          have hi1 : k < N := by omega
          have hi2 : k + 1 < N := by omega
          clear hg j3
          have hx := HWi.out.cell (k) hi1
          have hy := HWi.out.cell (k + 1) hi2
          have HD := HWi.out.step hI (below_drew1 (Below.refl _ _))
          have H1 := (HWi.out.set1 hI (k) hi1 _ (HWi.out.qg (k + 1) hi2)).step hI (below_drew1 (Below.refl _ _))
          have hd1 := HD.cell (k) hi1
          have hd2 := HD.cell (k + 1) hi2
          have hf1 := fun q_ => HD.frozen (k) q_ hi1
          have hz := H1.cell (k + 1) hi2
          have hf2 := fun q_ => H1.frozen (k) q_ hi1
          have HX := Aside0.mk ((HWi.out.swap hI (k) (k + 1) hi1 hi2).step hI (below_drew1 (Below.refl _ _)))
          clear HD H1
          go_wp2_with fail
          go_region
          obtain ⟨X, hX⟩ : ∃ X, (((wr).setCell ⟨g, k, none⟩ (.int .i64 (Srt.g (0 : Int) ys (k + 1)))).setCell ⟨g, k + 1, none⟩ (.int .i64 (Srt.g (0 : Int) ys (k)))).drew = X := ⟨_, rfl⟩
          rw [hX] at HX ⊢
          clear hX hx hy hd1 hd2 hf1 hz hf2
          go_wp2
          go_roundg k'
          case measure => omega
          case rel => exact ⟨k + 1, _, by go_num, ⟨by omega, by omega⟩, HG, HX⟩
        · obtain rfl : gk = 0 := by omega
          have hg : ys = Srt.up (0 : Int) (s1 - a) a xs0 := HFi.out
          have HG := Aside0.mk hg
          clear hg j3
          go_wp2_with fail
          refine bodyPost_ret (v := .tuple #[]) (by simp [results, Try.results122, go_sem]) rfl ⟨⟨_, rfl⟩, ?_⟩
          rw [← HG.out]; exact HWi.out
end Go.Proofs.Ytokijibpdnepiaa.X
end
section
namespace Go.Proofs.Ytokijibpdnepiaa.X
open Go.RowKit Go.Proofs.YtokijibpdnepiaaW.PrintWords Go.Proofs.YtokijibpdnepiaaW.PrintLast Go.Proofs.YtokijibpdnepiaaW.PrintMore
attribute [local go_sem] max2_int min2_int max_two min_two max_three min_three max_four min_four
set_option linter.unusedVariables false
set_option linter.unusedSimpArgs false
set_option maxHeartbeats 8000000 in
set_option maxRecDepth 100000 in
theorem sym_last (g c N : Nat) (w0 : World) (I : World → Prop) (Q : Int → Prop) (lt : Int → Int → Bool) (caps : Array Value) (hI : Stays g I) (hC : Cmp caps I Q lt) (hN2 : N ≤ 4611686018427387903) (f : Nat) (a m b : Nat) (xs0 : List Int) (w : World) (h : SS g c N w0 I Q w xs0) (ham : a < m) (hmb : m < b) (hbN : b ≤ N) (hf : b - a ≤ f + 1) (c1 : ¬ m - a = 1) (c2 : b - m = 1) :
    Calls Try.prog 122 #[.slice (some ⟨g, 0, none⟩) N c, .int .i64 (a : Int), .int .i64 (m : Int), .int .i64 (b : Int), .func (.func 72) #[] caps] w fun e w' => (∃ r, e = .returned r) ∧ SS g c N w0 I Q w' (Srt.symF (0 : Int) lt (f + 1) a m b xs0) := by
  have HS := Aside0.mk h
  have HC := Aside0.mk hC
  clear h hC
  obtain ⟨dm, hdm⟩ : ∃ dm, m - a = dm := ⟨_, rfl⟩
  have hdm' : (m : Int) - (a : Int) = (dm : Int) := by omega
  have hdn : ¬ ((dm : Int) = 1) := by omega
  have HDM := Aside0.mk hdm
  clear hdm
  obtain ⟨st, hst⟩ : ∃ st, Srt.bs (fun h => !lt (Srt.g (0 : Int) xs0 m) (Srt.g (0 : Int) xs0 h)) (m - a) a m = st := ⟨_, rfl⟩
  have hF : Srt.symF (0 : Int) lt (f + 1) a m b xs0 = Srt.dn (0 : Int) st m xs0 := by
    rw [Srt.symF, if_neg c1, if_pos c2]
    dsimp only
    rw [hst]
  rw [hF]
  have HST := Aside0.mk hst
  have hc2 : (b : Int) - (m : Int) = 1 := by omega
  clear hst hF
  go_enter Try.func122, Try.ntmps122
  go_wp2_with fail
  go_loopg [14, 15] (m - a) (fun kq v14 v15 wr => ∃ lo hi : Nat, v14 = .int .i64 (lo : Int) ∧ v15 = .int .i64 (hi : Int) ∧ Aside0 (a ≤ lo ∧ lo ≤ hi ∧ hi ≤ m ∧ hi - lo ≤ kq) ∧ Aside0 (Srt.bs (fun h => !lt (Srt.g (0 : Int) xs0 m) (Srt.g (0 : Int) xs0 h)) kq lo hi = st) ∧ Aside0 (SS g c N w0 I Q wr xs0))
  case atStart => exact ⟨a, m, rfl, rfl, ⟨by omega, by omega, by omega, by omega⟩, HST, HS⟩
  case round =>
    obtain ⟨lo, hi, rfl, rfl, HK, HF, HW⟩ := hrel
    obtain ⟨k1, k2, k3, k4⟩ := HK.out
    by_cases hlt : lo < hi
    · obtain ⟨k', rfl⟩ : ∃ k', gk = k' + 1 := ⟨gk - 1, by omega⟩
      obtain ⟨mid, hm⟩ : ∃ mid, (lo + hi) / 2 = mid := ⟨_, rfl⟩
      have hg := HF.out
      rw [bs_step _ _ _ _ _ hlt hm] at hg
      have hi1 : m < N := by omega
      have hi2 : mid < N := by omega
      have hq1 := HW.out.qg m hi1
      have HQ1 := Aside0.mk hq1
      clear hq1
      have hx := HW.out.cell m hi1
      have hb0 := eq_true (show 0 ≤ (m : Int) by omega)
      have hb1 := eq_true (show (m : Int) < (N : Int) by omega)
      have hq2 := HW.out.qg mid hi2
      have HQ2 := Aside0.mk hq2
      clear hq2
      have hy := HW.out.cell mid hi2
      have hb2 := eq_true (show 0 ≤ (mid : Int) by omega)
      have hb3 := eq_true (show (mid : Int) < (N : Int) by omega)
      have hmd : ((lo : Int) + (hi : Int)) / 2 = (mid : Int) := by omega
      have b5 : lo ≤ mid := by omega
      have b6 : mid < hi := by omega
      cases hlt2 : lt (Srt.g (0 : Int) xs0 m) (Srt.g (0 : Int) xs0 mid) with
      | true =>
        rw [hlt2, Bool.not_true, if_neg (by decide)] at hg
        have HG := Aside0.mk hg
        have HLT := Aside0.mk hlt2
        have HM := Aside0.mk hm
        clear hg hlt2 hm
        go_wp2_with fail
        refine start_ (n := 12) (S := fun w' => w'.cell? ⟨g, m, none⟩ = some (.int .i64 (Srt.g 0 xs0 (m))) ∧ w'.cell? ⟨g, mid, none⟩ = some (.int .i64 (Srt.g 0 xs0 (mid)))) (ds := [9]) #[false, false, false, false, false, false, false, false, false, false, false, false] (by kernel_rfl) rfl rfl ⟨hx, hy⟩ (fun hHeld => ?_)
        obtain ⟨E, hE⟩ : ∃ E, wr.drew = E := ⟨_, rfl⟩
        have HSE := Aside0.mk (show SS g c N w0 I Q E xs0 by rw [← hE]; exact HW.out.step hI (below_drew1 (Below.refl _ _)))
        rw [hE] at hHeld ⊢
        clear hE
        refine pure_ (i := 0) (N := some 92) (v := ?_) (a' := ?_) #[true, false, false, false, false, false, false, false, false, false, false, false] rfl rfl (by kernel_rfl) (fun _ _ _ h => h) (Or.inl ⟨by rfl, ?_⟩) ?_ ?_
        rotate_left
        · intro w'
          go_simp
          with_reducible rfl
        rotate_left
        · simp only [Act.put, List.setIfInBounds_toArray, List.set_cons_zero, List.set_cons_succ, i64_w, i32_w]
          rfl
        refine pure_ (i := 1) (N := some 93) (v := ?_) (a' := ?_) #[true, true, false, false, false, false, false, false, false, false, false, false] rfl rfl (by kernel_rfl) (fun _ _ _ h => h) (Or.inl ⟨by rfl, ?_⟩) ?_ ?_
        rotate_left
        · intro w'
          go_simp
          with_reducible rfl
        rotate_left
        · simp only [Act.put, List.setIfInBounds_toArray, List.set_cons_zero, List.set_cons_succ, i64_w, i32_w]
          rfl
        refine pure_ (i := 2) (N := some 94) (v := ?_) (a' := ?_) #[true, true, true, false, false, false, false, false, false, false, false, false] rfl rfl (by kernel_rfl) (fun _ _ _ h => h) (Or.inl ⟨by rfl, ?_⟩) ?_ ?_
        rotate_left
        · intro w'
          go_simp
          with_reducible rfl
        rotate_left
        · simp only [Act.put, List.setIfInBounds_toArray, List.set_cons_zero, List.set_cons_succ, i64_w, i32_w]
          rfl
        refine pure_ (i := 3) (N := some 95) (v := ?_) (a' := ?_) #[true, true, true, true, false, false, false, false, false, false, false, false] rfl rfl (by kernel_rfl) (fun _ _ _ h => h) (Or.inl ⟨by rfl, ?_⟩) ?_ ?_
        rotate_left
        · intro w'
          go_simp
          with_reducible rfl
        rotate_left
        · simp only [Act.put, List.setIfInBounds_toArray, List.set_cons_zero, List.set_cons_succ, i64_w, i32_w]
          rfl
        refine take_ (i := 4) (N := some 96) (v := ?_) (a' := ?_) #[true, true, true, true, true, false, false, false, false, false, false, false] rfl rfl (by kernel_rfl) (fun _ _ _ h => h) (Or.inl ⟨by rfl, ?_⟩) hHeld ?_ ?_
        rotate_left
        · rintro w' ⟨s0, s1⟩
          go_simp
          with_reducible rfl
        rotate_left
        · simp only [Act.put, List.setIfInBounds_toArray, List.set_cons_zero, List.set_cons_succ, i64_w, i32_w]
          rfl
        refine pure_ (i := 5) (N := some 97) (v := ?_) (a' := ?_) #[true, true, true, true, true, true, false, false, false, false, false, false] rfl rfl (by kernel_rfl) (fun _ _ _ h => h) (Or.inl ⟨by rfl, ?_⟩) ?_ ?_
        rotate_left
        · intro w'
          go_simp
          with_reducible rfl
        rotate_left
        · simp only [Act.put, List.setIfInBounds_toArray, List.set_cons_zero, List.set_cons_succ, i64_w, i32_w]
          rfl
        refine pure_ (i := 6) (N := some 98) (v := ?_) (a' := ?_) #[true, true, true, true, true, true, true, false, false, false, false, false] rfl rfl (by kernel_rfl) (fun _ _ _ h => h) (Or.inl ⟨by rfl, ?_⟩) ?_ ?_
        rotate_left
        · intro w'
          go_simp
          with_reducible rfl
        rotate_left
        · simp only [Act.put, List.setIfInBounds_toArray, List.set_cons_zero, List.set_cons_succ, i64_w, i32_w]
          rfl
        refine pure_ (i := 7) (N := some 99) (v := ?_) (a' := ?_) #[true, true, true, true, true, true, true, true, false, false, false, false] rfl rfl (by kernel_rfl) (fun _ _ _ h => h) (Or.inl ⟨by rfl, ?_⟩) ?_ ?_
        rotate_left
        · intro w'
          go_simp
          with_reducible rfl
        rotate_left
        · simp only [Act.put, List.setIfInBounds_toArray, List.set_cons_zero, List.set_cons_succ, i64_w, i32_w]
          rfl
        refine take_ (i := 8) (N := some 100) (v := ?_) (a' := ?_) #[true, true, true, true, true, true, true, true, true, false, false, false] rfl rfl (by kernel_rfl) (fun _ _ _ h => h) (Or.inl ⟨by rfl, ?_⟩) hHeld ?_ ?_
        rotate_left
        · rintro w' ⟨s0, s1⟩
          go_simp
          with_reducible rfl
        rotate_left
        · simp only [Act.put, List.setIfInBounds_toArray, List.set_cons_zero, List.set_cons_succ, i64_w, i32_w]
          rfl
        refine last_ (i := 9) (N := some 101) #[true, true, true, true, true, true, true, true, true, true, false, false] rfl rfl (by kernel_rfl) (by decide) (fun K hK => ?_)
        refine goesC_ (caps := caps) Try.func72 (by kernel_rfl) rfl #[.int .i64 (Srt.g (0 : Int) xs0 m), .int .i64 (Srt.g (0 : Int) xs0 mid)] (by rfl) rfl rfl rfl (by (try simp only [List.map_toArray, List.map_cons, List.map_nil]); first | done | rfl) ?_
        refine (HC.out _ _ _ HQ1.out HQ2.out HSE.out.inv).mono ?_
        rintro e w3 ⟨v, rfl, hv, hb3⟩
        rw [HLT.out] at hv
        refine ⟨_, rfl, ?_⟩
        have HS3 := Aside0.mk (HSE.out.step hI hb3)
        refine hK.out _ _ ?_
        clear hK K hb3
        refine norm_ (a' := ?_) ?_ ?_
        rotate_left
        · show Act.put _ (some 101) _ = _
          simp only [Act.put, List.setIfInBounds_toArray, List.set_cons_zero, List.set_cons_succ, i64_w, i32_w]
          rfl
        refine pure_ (i := 10) (N := some 102) (v := ?_) (a' := ?_) #[true, true, true, true, true, true, true, true, true, true, true, false] rfl rfl (by kernel_rfl) (fun _ _ _ h => h) (Or.inl ⟨by rfl, ?_⟩) ?_ ?_
        rotate_left
        · intro w'
          go_simp
          with_reducible rfl
        rotate_left
        · simp only [Act.put, List.setIfInBounds_toArray, List.set_cons_zero, List.set_cons_succ, i64_w, i32_w]
          rfl
        refine pure_ (i := 11) (N := some 103) (v := ?_) (a' := ?_) #[true, true, true, true, true, true, true, true, true, true, true, true] rfl rfl (by kernel_rfl) (fun _ _ _ h => h) (Or.inl ⟨by rfl, ?_⟩) ?_ ?_
        rotate_left
        · intro w'
          go_simp
          with_reducible rfl
        rotate_left
        · simp only [Act.put, List.setIfInBounds_toArray, List.set_cons_zero, List.set_cons_succ, i64_w, i32_w]
          rfl
        refine done_ (by kernel_rfl) ?_
        clear hHeld hx hy
        go_wp2
        go_roundg k'
        case measure => omega
        case rel => exact ⟨lo, mid, rfl, by go_num, ⟨by omega, by omega, by omega, by omega⟩, HG, HS3⟩
      | false =>
        rw [hlt2, Bool.not_false, if_pos rfl] at hg
        have HG := Aside0.mk hg
        have HLT := Aside0.mk hlt2
        have HM := Aside0.mk hm
        clear hg hlt2 hm
        go_wp2_with fail
        refine start_ (n := 12) (S := fun w' => w'.cell? ⟨g, m, none⟩ = some (.int .i64 (Srt.g 0 xs0 (m))) ∧ w'.cell? ⟨g, mid, none⟩ = some (.int .i64 (Srt.g 0 xs0 (mid)))) (ds := [9]) #[false, false, false, false, false, false, false, false, false, false, false, false] (by kernel_rfl) rfl rfl ⟨hx, hy⟩ (fun hHeld => ?_)
        obtain ⟨E, hE⟩ : ∃ E, wr.drew = E := ⟨_, rfl⟩
        have HSE := Aside0.mk (show SS g c N w0 I Q E xs0 by rw [← hE]; exact HW.out.step hI (below_drew1 (Below.refl _ _)))
        rw [hE] at hHeld ⊢
        clear hE
        refine pure_ (i := 0) (N := some 92) (v := ?_) (a' := ?_) #[true, false, false, false, false, false, false, false, false, false, false, false] rfl rfl (by kernel_rfl) (fun _ _ _ h => h) (Or.inl ⟨by rfl, ?_⟩) ?_ ?_
        rotate_left
        · intro w'
          go_simp
          with_reducible rfl
        rotate_left
        · simp only [Act.put, List.setIfInBounds_toArray, List.set_cons_zero, List.set_cons_succ, i64_w, i32_w]
          rfl
        refine pure_ (i := 1) (N := some 93) (v := ?_) (a' := ?_) #[true, true, false, false, false, false, false, false, false, false, false, false] rfl rfl (by kernel_rfl) (fun _ _ _ h => h) (Or.inl ⟨by rfl, ?_⟩) ?_ ?_
        rotate_left
        · intro w'
          go_simp
          with_reducible rfl
        rotate_left
        · simp only [Act.put, List.setIfInBounds_toArray, List.set_cons_zero, List.set_cons_succ, i64_w, i32_w]
          rfl
        refine pure_ (i := 2) (N := some 94) (v := ?_) (a' := ?_) #[true, true, true, false, false, false, false, false, false, false, false, false] rfl rfl (by kernel_rfl) (fun _ _ _ h => h) (Or.inl ⟨by rfl, ?_⟩) ?_ ?_
        rotate_left
        · intro w'
          go_simp
          with_reducible rfl
        rotate_left
        · simp only [Act.put, List.setIfInBounds_toArray, List.set_cons_zero, List.set_cons_succ, i64_w, i32_w]
          rfl
        refine pure_ (i := 3) (N := some 95) (v := ?_) (a' := ?_) #[true, true, true, true, false, false, false, false, false, false, false, false] rfl rfl (by kernel_rfl) (fun _ _ _ h => h) (Or.inl ⟨by rfl, ?_⟩) ?_ ?_
        rotate_left
        · intro w'
          go_simp
          with_reducible rfl
        rotate_left
        · simp only [Act.put, List.setIfInBounds_toArray, List.set_cons_zero, List.set_cons_succ, i64_w, i32_w]
          rfl
        refine take_ (i := 4) (N := some 96) (v := ?_) (a' := ?_) #[true, true, true, true, true, false, false, false, false, false, false, false] rfl rfl (by kernel_rfl) (fun _ _ _ h => h) (Or.inl ⟨by rfl, ?_⟩) hHeld ?_ ?_
        rotate_left
        · rintro w' ⟨s0, s1⟩
          go_simp
          with_reducible rfl
        rotate_left
        · simp only [Act.put, List.setIfInBounds_toArray, List.set_cons_zero, List.set_cons_succ, i64_w, i32_w]
          rfl
        refine pure_ (i := 5) (N := some 97) (v := ?_) (a' := ?_) #[true, true, true, true, true, true, false, false, false, false, false, false] rfl rfl (by kernel_rfl) (fun _ _ _ h => h) (Or.inl ⟨by rfl, ?_⟩) ?_ ?_
        rotate_left
        · intro w'
          go_simp
          with_reducible rfl
        rotate_left
        · simp only [Act.put, List.setIfInBounds_toArray, List.set_cons_zero, List.set_cons_succ, i64_w, i32_w]
          rfl
        refine pure_ (i := 6) (N := some 98) (v := ?_) (a' := ?_) #[true, true, true, true, true, true, true, false, false, false, false, false] rfl rfl (by kernel_rfl) (fun _ _ _ h => h) (Or.inl ⟨by rfl, ?_⟩) ?_ ?_
        rotate_left
        · intro w'
          go_simp
          with_reducible rfl
        rotate_left
        · simp only [Act.put, List.setIfInBounds_toArray, List.set_cons_zero, List.set_cons_succ, i64_w, i32_w]
          rfl
        refine pure_ (i := 7) (N := some 99) (v := ?_) (a' := ?_) #[true, true, true, true, true, true, true, true, false, false, false, false] rfl rfl (by kernel_rfl) (fun _ _ _ h => h) (Or.inl ⟨by rfl, ?_⟩) ?_ ?_
        rotate_left
        · intro w'
          go_simp
          with_reducible rfl
        rotate_left
        · simp only [Act.put, List.setIfInBounds_toArray, List.set_cons_zero, List.set_cons_succ, i64_w, i32_w]
          rfl
        refine take_ (i := 8) (N := some 100) (v := ?_) (a' := ?_) #[true, true, true, true, true, true, true, true, true, false, false, false] rfl rfl (by kernel_rfl) (fun _ _ _ h => h) (Or.inl ⟨by rfl, ?_⟩) hHeld ?_ ?_
        rotate_left
        · rintro w' ⟨s0, s1⟩
          go_simp
          with_reducible rfl
        rotate_left
        · simp only [Act.put, List.setIfInBounds_toArray, List.set_cons_zero, List.set_cons_succ, i64_w, i32_w]
          rfl
        refine last_ (i := 9) (N := some 101) #[true, true, true, true, true, true, true, true, true, true, false, false] rfl rfl (by kernel_rfl) (by decide) (fun K hK => ?_)
        refine goesC_ (caps := caps) Try.func72 (by kernel_rfl) rfl #[.int .i64 (Srt.g (0 : Int) xs0 m), .int .i64 (Srt.g (0 : Int) xs0 mid)] (by rfl) rfl rfl rfl (by (try simp only [List.map_toArray, List.map_cons, List.map_nil]); first | done | rfl) ?_
        refine (HC.out _ _ _ HQ1.out HQ2.out HSE.out.inv).mono ?_
        rintro e w3 ⟨v, rfl, hv, hb3⟩
        rw [HLT.out] at hv
        refine ⟨_, rfl, ?_⟩
        have HS3 := Aside0.mk (HSE.out.step hI hb3)
        refine hK.out _ _ ?_
        clear hK K hb3
        refine norm_ (a' := ?_) ?_ ?_
        rotate_left
        · show Act.put _ (some 101) _ = _
          simp only [Act.put, List.setIfInBounds_toArray, List.set_cons_zero, List.set_cons_succ, i64_w, i32_w]
          rfl
        refine pure_ (i := 10) (N := some 102) (v := ?_) (a' := ?_) #[true, true, true, true, true, true, true, true, true, true, true, false] rfl rfl (by kernel_rfl) (fun _ _ _ h => h) (Or.inl ⟨by rfl, ?_⟩) ?_ ?_
        rotate_left
        · intro w'
          go_simp
          with_reducible rfl
        rotate_left
        · simp only [Act.put, List.setIfInBounds_toArray, List.set_cons_zero, List.set_cons_succ, i64_w, i32_w]
          rfl
        refine pure_ (i := 11) (N := some 103) (v := ?_) (a' := ?_) #[true, true, true, true, true, true, true, true, true, true, true, true] rfl rfl (by kernel_rfl) (fun _ _ _ h => h) (Or.inl ⟨by rfl, ?_⟩) ?_ ?_
        rotate_left
        · intro w'
          go_simp
          with_reducible rfl
        rotate_left
        · simp only [Act.put, List.setIfInBounds_toArray, List.set_cons_zero, List.set_cons_succ, i64_w, i32_w]
          rfl
        refine done_ (by kernel_rfl) ?_
        clear hHeld hx hy
        go_wp2
        go_roundg k'
        case measure => omega
        case rel => exact ⟨mid + 1, hi, by go_num, rfl, ⟨by omega, by omega, by omega, by omega⟩, HG, HS3⟩
    · have hg := HF.out
      rw [bs_end _ _ _ _ hlt] at hg
      subst hg
      go_wp2_with fail
      go_loopg [17] m (fun kq v17 wr => ∃ (ys : List Int), v17 = .int .i64 (kq : Int) ∧ Aside0 (kq ≤ m ∧ lo ≤ kq) ∧ Aside0 (Srt.dn (0 : Int) lo kq ys = Srt.dn (0 : Int) lo m xs0) ∧ Aside0 (SS g c N w0 I Q wr ys))
      case atStart => exact ⟨xs0, rfl, ⟨by omega, by omega⟩, ⟨rfl⟩, HW⟩
      case round =>
        obtain ⟨ys, rfl, HJ, HFi, HWi⟩ := hrel
        obtain ⟨j1, j2⟩ := HJ.out
        by_cases hks : lo < gk
        · obtain ⟨j, hj⟩ : ∃ j, gk = j + 1 := ⟨gk - 1, by omega⟩
          have hi1 : gk < N := by omega
          have hi2 : j < N := by omega
          have hjm : ((gk : Int) - 1) = (j : Int) := by omega
          have hg := HFi.out
          have e2 : Srt.dn (0 : Int) lo gk ys = Srt.dn (0 : Int) lo j (Srt.sw (0 : Int) ys gk j) := by rw [hj, Srt.dn, if_pos (by omega)]
          rw [e2] at hg
          have HG := Aside0.mk hg
          have HJ1 := Aside0.mk hj
          have hb0 : (0 ≤ (j : Int)) = True := eq_true (by omega)
          have hb1 : ((j : Int) < (N : Int)) = True := eq_true (by omega)
          clear hg e2 hj
          have hx := HWi.out.cell (gk) hi1
          have hy := HWi.out.cell (j) hi2
          have HD := HWi.out.step hI (below_drew1 (Below.refl _ _))
          have H1 := (HWi.out.set1 hI (gk) hi1 _ (HWi.out.qg (j) hi2)).step hI (below_drew1 (Below.refl _ _))
          have hd1 := HD.cell (gk) hi1
          have hd2 := HD.cell (j) hi2
          have hf1 := fun q_ => HD.frozen (gk) q_ hi1
          have hz := H1.cell (j) hi2
          have hf2 := fun q_ => H1.frozen (gk) q_ hi1
          have HX := Aside0.mk ((HWi.out.swap hI (gk) (j) hi1 hi2).step hI (below_drew1 (Below.refl _ _)))
          clear HD H1
          go_wp2_with fail
          go_region
          obtain ⟨X, hX⟩ : ∃ X, (((wr).setCell ⟨g, gk, none⟩ (.int .i64 (Srt.g (0 : Int) ys (j)))).setCell ⟨g, j, none⟩ (.int .i64 (Srt.g (0 : Int) ys (gk)))).drew = X := ⟨_, rfl⟩
          rw [hX] at HX ⊢
          clear hX hx hy hd1 hd2 hf1 hz hf2
          go_wp2
          go_roundg j
          case measure => have := HJ1.out; omega
          case rel => exact ⟨_, by go_num, ⟨by have := HJ1.out; omega, by have := HJ1.out; omega⟩, HG, HX⟩
        · have hg := HFi.out
          have hys : ys = Srt.dn (0 : Int) lo m xs0 := by
            rw [← hg]
            cases gk with
            | zero => rfl
            | succ k => rw [Srt.dn, if_neg hks]
          have HG := Aside0.mk hys
          clear hg hys
          go_wp2_with fail
          refine bodyPost_ret (v := .tuple #[]) (by simp [results, Try.results122, go_sem]) rfl ⟨⟨_, rfl⟩, ?_⟩
          rw [← HG.out]; exact HWi.out
end Go.Proofs.Ytokijibpdnepiaa.X
end
section
namespace Go.Proofs.Ytokijibpdnepiaa.X
open Go.RowKit Go.Proofs.YtokijibpdnepiaaW.PrintWords Go.Proofs.YtokijibpdnepiaaW.PrintLast Go.Proofs.YtokijibpdnepiaaW.PrintMore
attribute [local go_sem] max2_int min2_int max_two min_two max_three min_three max_four min_four
set_option linter.unusedVariables false
set_option linter.unusedSimpArgs false
def SymIH (g c N : Nat) (w0 : World) (I : World → Prop) (Q : Int → Prop) (lt : Int → Int → Bool) (caps : Array Value) (f : Nat) : Prop := ∀ (a m b : Nat) (xs0 : List Int) (w : World), SS g c N w0 I Q w xs0 → a < m → m < b → b ≤ N → b - a ≤ f →
    Calls Try.prog 122 #[.slice (some ⟨g, 0, none⟩) N c, .int .i64 (a : Int), .int .i64 (m : Int), .int .i64 (b : Int), .func (.func 72) #[] caps] w fun e w' => (∃ r, e = .returned r) ∧ SS g c N w0 I Q w' (Srt.symF (0 : Int) lt f a m b xs0)
end Go.Proofs.Ytokijibpdnepiaa.X
end
section
namespace Go.Proofs.Ytokijibpdnepiaa.X
open Go.RowKit Go.Proofs.YtokijibpdnepiaaW.PrintWords Go.Proofs.YtokijibpdnepiaaW.PrintLast Go.Proofs.YtokijibpdnepiaaW.PrintMore
attribute [local go_sem] max2_int min2_int max_two min_two max_three min_three max_four min_four
set_option linter.unusedVariables false
set_option linter.unusedSimpArgs false
set_option maxHeartbeats 8000000 in
set_option maxRecDepth 100000 in
theorem sym_hi (g c N : Nat) (w0 : World) (I : World → Prop) (Q : Int → Prop) (lt : Int → Int → Bool) (caps : Array Value) (hI : Stays g I) (hC : Cmp caps I Q lt) (hN2 : N ≤ 4611686018427387903) (f : Nat) (ih : SymIH g c N w0 I Q lt caps f) (a m b : Nat) (xs0 : List Int) (w : World) (h : SS g c N w0 I Q w xs0) (ham : a < m) (hmb : m < b) (hbN : b ≤ N) (hf : b - a ≤ f + 1) (c1 : ¬ m - a = 1) (c2 : ¬ b - m = 1) (cm : (a + b) / 2 < m) :
    Calls Try.prog 122 #[.slice (some ⟨g, 0, none⟩) N c, .int .i64 (a : Int), .int .i64 (m : Int), .int .i64 (b : Int), .func (.func 72) #[] caps] w fun e w' => (∃ r, e = .returned r) ∧ SS g c N w0 I Q w' (Srt.symF (0 : Int) lt (f + 1) a m b xs0) := by
  have HS := Aside0.mk h
  have HC := Aside0.mk hC
  have IH := Aside0.mk ih
  clear h hC ih
  obtain ⟨dm, hdm⟩ : ∃ dm, m - a = dm := ⟨_, rfl⟩
  have hdm' : (m : Int) - (a : Int) = (dm : Int) := by omega
  have hdn : ¬ ((dm : Int) = 1) := by omega
  have HDM := Aside0.mk hdm
  clear hdm
  obtain ⟨db, hdb⟩ : ∃ db, b - m = db := ⟨_, rfl⟩
  have hdb' : (b : Int) - (m : Int) = (db : Int) := by omega
  have hdbn : ¬ ((db : Int) = 1) := by omega
  obtain ⟨md, hmd⟩ : ∃ md, (a + b) / 2 = md := ⟨_, rfl⟩
  have hmd' : ((a : Int) + (b : Int)) / 2 = (md : Int) := by omega
  obtain ⟨n, hn⟩ : ∃ n, md + m = n := ⟨_, rfl⟩
  have hn' : (md : Int) + (m : Int) = (n : Int) := by omega
  obtain ⟨p, hp⟩ : ∃ p, n - 1 = p := ⟨_, rfl⟩
  have hp' : (n : Int) - 1 = (p : Int) := by omega
  have hF := Srt.symF.eq_2 (0 : Int) lt a m b xs0 f
  rw [if_neg c1, if_neg c2] at hF
  dsimp only at hF
  rw [hmd, hn, hp] at hF
  rw [hmd] at cm
  obtain ⟨s0, hs0⟩ : ∃ s0, n - b = s0 := ⟨_, rfl⟩
  have hs0' : (n : Int) - (b : Int) = (s0 : Int) := by omega
  rw [if_pos cm, if_pos cm, hs0] at hF
  obtain ⟨st, hst⟩ : ∃ st, Srt.bs (fun h => !lt (Srt.g (0 : Int) xs0 (p - h)) (Srt.g (0 : Int) xs0 h)) (md - s0) s0 md = st := ⟨_, rfl⟩
  rw [hst] at hF
  have HST := Aside0.mk hst
  have HSF := Aside0.mk hF
  have HB := Aside0.mk (show a ≤ s0 ∧ s0 ≤ md ∧ md ≤ m ∧ md ≤ md ∧ n ≤ b + s0 ∧ n = md + m ∧ p + 1 = n ∧ md < b ∧ a < md ∧ md ≤ a + f ∧ b ≤ md + f from ⟨by omega, by omega, by omega, by omega, by omega, by omega, by omega, by omega, by omega, by omega, by omega⟩)
  clear hst hF
  go_enter Try.func122, Try.ntmps122
  go_wp2_with fail
  go_loopg [20, 21] (md - s0) (fun kq v20 v21 wr => ∃ lo hi : Nat, v20 = .int .i64 (lo : Int) ∧ v21 = .int .i64 (hi : Int) ∧ Aside0 (s0 ≤ lo ∧ lo ≤ hi ∧ hi ≤ md ∧ hi - lo ≤ kq) ∧ Aside0 (Srt.bs (fun h => !lt (Srt.g (0 : Int) xs0 (p - h)) (Srt.g (0 : Int) xs0 h)) kq lo hi = st) ∧ Aside0 (SS g c N w0 I Q wr xs0))
  case atStart => exact ⟨s0, md, rfl, rfl, ⟨by omega, by omega, by omega, by omega⟩, HST, HS⟩
  case round => as_aux_lemma =>
    obtain ⟨lo, hi, rfl, rfl, HK, HF, HW⟩ := hrel
    obtain ⟨k1, k2, k3, k4⟩ := HK.out
    obtain ⟨z1, z2, z3, z4, z5, z6, z7, z8, z9, z10, z11⟩ := HB.out
    by_cases hlt : lo < hi
    · obtain ⟨k', rfl⟩ : ∃ k', gk = k' + 1 := ⟨gk - 1, by omega⟩
      obtain ⟨mid, hm⟩ : ∃ mid, (lo + hi) / 2 = mid := ⟨_, rfl⟩
      obtain ⟨q, hq⟩ : ∃ q, p - mid = q := ⟨_, rfl⟩
      have hq' : (p : Int) - (mid : Int) = (q : Int) := by omega
      have hg := HF.out
      rw [bs_step _ _ _ _ _ hlt hm, hq] at hg
      have hi1 : q < N := by omega
      have hi2 : mid < N := by omega
      have hq1 := HW.out.qg q hi1
      have HQ1 := Aside0.mk hq1
      clear hq1
      have hx := HW.out.cell q hi1
      have hb0 := eq_true (show 0 ≤ (q : Int) by omega)
      have hb1 := eq_true (show (q : Int) < (N : Int) by omega)
      have hq2 := HW.out.qg mid hi2
      have HQ2 := Aside0.mk hq2
      clear hq2
      have hy := HW.out.cell mid hi2
      have hb2 := eq_true (show 0 ≤ (mid : Int) by omega)
      have hb3 := eq_true (show (mid : Int) < (N : Int) by omega)
      have hw3 : Go.RowKit.wrap64 (q : Int) = (q : Int) := w64n hi1 (by omega)
      have hmd2 : ((lo : Int) + (hi : Int)) / 2 = (mid : Int) := by omega
      have b5 : lo ≤ mid := by omega
      have b6 : mid < hi := by omega
      cases hlt2 : lt (Srt.g (0 : Int) xs0 q) (Srt.g (0 : Int) xs0 mid) with
      | true =>
        rw [hlt2, Bool.not_true, if_neg (by decide)] at hg
        have HG := Aside0.mk hg
        have HLT := Aside0.mk hlt2
        have HM := Aside0.mk hm
        clear hg hlt2 hm hq z1 z2 z3 z4 z5 z6 z7 z8 z9 z10 z11
        go_wp2_with fail
        refine start_ (n := 14) (S := fun w' => w'.cell? ⟨g, q, none⟩ = some (.int .i64 (Srt.g 0 xs0 (q))) ∧ w'.cell? ⟨g, mid, none⟩ = some (.int .i64 (Srt.g 0 xs0 (mid)))) (ds := [11]) #[false, false, false, false, false, false, false, false, false, false, false, false, false, false] (by kernel_rfl) rfl rfl ⟨hx, hy⟩ (fun hHeld => ?_)
        obtain ⟨E, hE⟩ : ∃ E, wr.drew = E := ⟨_, rfl⟩
        have HSE := Aside0.mk (show SS g c N w0 I Q E xs0 by rw [← hE]; exact HW.out.step hI (below_drew1 (Below.refl _ _)))
        rw [hE] at hHeld ⊢
        clear hE
        refine pure_ (i := 0) (N := some 158) (v := ?_) (a' := ?_) #[true, false, false, false, false, false, false, false, false, false, false, false, false, false] rfl rfl (by kernel_rfl) (fun _ _ _ h => h) (Or.inl ⟨by rfl, ?_⟩) ?_ ?_
        rotate_left
        · intro w'
          go_simp
          with_reducible rfl
        rotate_left
        · simp only [Act.put, List.setIfInBounds_toArray, List.set_cons_zero, List.set_cons_succ, i64_w, i32_w]
          rfl
        refine pure_ (i := 1) (N := some 159) (v := ?_) (a' := ?_) #[true, true, false, false, false, false, false, false, false, false, false, false, false, false] rfl rfl (by kernel_rfl) (fun _ _ _ h => h) (Or.inl ⟨by rfl, ?_⟩) ?_ ?_
        rotate_left
        · intro w'
          go_simp
          with_reducible rfl
        rotate_left
        · simp only [Act.put, List.setIfInBounds_toArray, List.set_cons_zero, List.set_cons_succ, i64_w, i32_w]
          rfl
        refine pure_ (i := 2) (N := some 160) (v := ?_) (a' := ?_) #[true, true, true, false, false, false, false, false, false, false, false, false, false, false] rfl rfl (by kernel_rfl) (fun _ _ _ h => h) (Or.inl ⟨by rfl, ?_⟩) ?_ ?_
        rotate_left
        · intro w'
          go_simp
          with_reducible rfl
        rotate_left
        · simp only [Act.put, List.setIfInBounds_toArray, List.set_cons_zero, List.set_cons_succ, i64_w, i32_w]
          rfl
        refine pure_ (i := 3) (N := some 161) (v := ?_) (a' := ?_) #[true, true, true, true, false, false, false, false, false, false, false, false, false, false] rfl rfl (by kernel_rfl) (fun _ _ _ h => h) (Or.inl ⟨by rfl, ?_⟩) ?_ ?_
        rotate_left
        · intro w'
          go_simp
          with_reducible rfl
        rotate_left
        · simp only [Act.put, List.setIfInBounds_toArray, List.set_cons_zero, List.set_cons_succ, i64_w, i32_w]
          rfl
        refine pure_ (i := 4) (N := some 162) (v := ?_) (a' := ?_) #[true, true, true, true, true, false, false, false, false, false, false, false, false, false] rfl rfl (by kernel_rfl) (fun _ _ _ h => h) (Or.inl ⟨by rfl, ?_⟩) ?_ ?_
        rotate_left
        · intro w'
          go_simp
          with_reducible rfl
        rotate_left
        · simp only [Act.put, List.setIfInBounds_toArray, List.set_cons_zero, List.set_cons_succ, i64_w, i32_w]
          rfl
        refine pure_ (i := 5) (N := some 163) (v := ?_) (a' := ?_) #[true, true, true, true, true, true, false, false, false, false, false, false, false, false] rfl rfl (by kernel_rfl) (fun _ _ _ h => h) (Or.inl ⟨by rfl, ?_⟩) ?_ ?_
        rotate_left
        · intro w'
          go_simp
          with_reducible rfl
        rotate_left
        · simp only [Act.put, List.setIfInBounds_toArray, List.set_cons_zero, List.set_cons_succ, i64_w, i32_w]
          rfl
        refine take_ (i := 6) (N := some 164) (v := ?_) (a' := ?_) #[true, true, true, true, true, true, true, false, false, false, false, false, false, false] rfl rfl (by kernel_rfl) (fun _ _ _ h => h) (Or.inl ⟨by rfl, ?_⟩) hHeld ?_ ?_
        rotate_left
        · rintro w' ⟨s0, s1⟩
          go_simp
          with_reducible rfl
        rotate_left
        · simp only [Act.put, List.setIfInBounds_toArray, List.set_cons_zero, List.set_cons_succ, i64_w, i32_w]
          rfl
        refine pure_ (i := 7) (N := some 165) (v := ?_) (a' := ?_) #[true, true, true, true, true, true, true, true, false, false, false, false, false, false] rfl rfl (by kernel_rfl) (fun _ _ _ h => h) (Or.inl ⟨by rfl, ?_⟩) ?_ ?_
        rotate_left
        · intro w'
          go_simp
          with_reducible rfl
        rotate_left
        · simp only [Act.put, List.setIfInBounds_toArray, List.set_cons_zero, List.set_cons_succ, i64_w, i32_w]
          rfl
        refine pure_ (i := 8) (N := some 166) (v := ?_) (a' := ?_) #[true, true, true, true, true, true, true, true, true, false, false, false, false, false] rfl rfl (by kernel_rfl) (fun _ _ _ h => h) (Or.inl ⟨by rfl, ?_⟩) ?_ ?_
        rotate_left
        · intro w'
          go_simp
          with_reducible rfl
        rotate_left
        · simp only [Act.put, List.setIfInBounds_toArray, List.set_cons_zero, List.set_cons_succ, i64_w, i32_w]
          rfl
        refine pure_ (i := 9) (N := some 167) (v := ?_) (a' := ?_) #[true, true, true, true, true, true, true, true, true, true, false, false, false, false] rfl rfl (by kernel_rfl) (fun _ _ _ h => h) (Or.inl ⟨by rfl, ?_⟩) ?_ ?_
        rotate_left
        · intro w'
          go_simp
          with_reducible rfl
        rotate_left
        · simp only [Act.put, List.setIfInBounds_toArray, List.set_cons_zero, List.set_cons_succ, i64_w, i32_w]
          rfl
        refine take_ (i := 10) (N := some 168) (v := ?_) (a' := ?_) #[true, true, true, true, true, true, true, true, true, true, true, false, false, false] rfl rfl (by kernel_rfl) (fun _ _ _ h => h) (Or.inl ⟨by rfl, ?_⟩) hHeld ?_ ?_
        rotate_left
        · rintro w' ⟨s0, s1⟩
          go_simp
          with_reducible rfl
        rotate_left
        · simp only [Act.put, List.setIfInBounds_toArray, List.set_cons_zero, List.set_cons_succ, i64_w, i32_w]
          rfl
        refine last_ (i := 11) (N := some 169) #[true, true, true, true, true, true, true, true, true, true, true, true, false, false] rfl rfl (by kernel_rfl) (by decide) (fun K hK => ?_)
        refine goesC_ (caps := caps) Try.func72 (by kernel_rfl) rfl #[.int .i64 (Srt.g (0 : Int) xs0 q), .int .i64 (Srt.g (0 : Int) xs0 mid)] (by rfl) rfl rfl rfl (by (try simp only [List.map_toArray, List.map_cons, List.map_nil]); first | done | rfl) ?_
        refine (HC.out _ _ _ HQ1.out HQ2.out HSE.out.inv).mono ?_
        rintro e w3 ⟨v, rfl, hv, hb3⟩
        rw [HLT.out] at hv
        refine ⟨_, rfl, ?_⟩
        have HS3 := Aside0.mk (HSE.out.step hI hb3)
        refine hK.out _ _ ?_
        clear hK K hb3
        refine norm_ (a' := ?_) ?_ ?_
        rotate_left
        · show Act.put _ (some 169) _ = _
          simp only [Act.put, List.setIfInBounds_toArray, List.set_cons_zero, List.set_cons_succ, i64_w, i32_w]
          rfl
        refine pure_ (i := 12) (N := some 170) (v := ?_) (a' := ?_) #[true, true, true, true, true, true, true, true, true, true, true, true, true, false] rfl rfl (by kernel_rfl) (fun _ _ _ h => h) (Or.inl ⟨by rfl, ?_⟩) ?_ ?_
        rotate_left
        · intro w'
          go_simp
          with_reducible rfl
        rotate_left
        · simp only [Act.put, List.setIfInBounds_toArray, List.set_cons_zero, List.set_cons_succ, i64_w, i32_w]
          rfl
        refine pure_ (i := 13) (N := some 171) (v := ?_) (a' := ?_) #[true, true, true, true, true, true, true, true, true, true, true, true, true, true] rfl rfl (by kernel_rfl) (fun _ _ _ h => h) (Or.inl ⟨by rfl, ?_⟩) ?_ ?_
        rotate_left
        · intro w'
          go_simp
          with_reducible rfl
        rotate_left
        · simp only [Act.put, List.setIfInBounds_toArray, List.set_cons_zero, List.set_cons_succ, i64_w, i32_w]
          rfl
        refine done_ (by kernel_rfl) ?_
        clear hHeld hx hy
        clear hw3
        go_wp2
        go_roundg k'
        case measure => omega
        case rel => exact ⟨lo, mid, rfl, by go_num, ⟨by omega, by omega, by omega, by omega⟩, HG, HS3⟩
      | false =>
        rw [hlt2, Bool.not_false, if_pos rfl] at hg
        have HG := Aside0.mk hg
        have HLT := Aside0.mk hlt2
        have HM := Aside0.mk hm
        clear hg hlt2 hm hq z1 z2 z3 z4 z5 z6 z7 z8 z9 z10 z11
        go_wp2_with fail
        refine start_ (n := 14) (S := fun w' => w'.cell? ⟨g, q, none⟩ = some (.int .i64 (Srt.g 0 xs0 (q))) ∧ w'.cell? ⟨g, mid, none⟩ = some (.int .i64 (Srt.g 0 xs0 (mid)))) (ds := [11]) #[false, false, false, false, false, false, false, false, false, false, false, false, false, false] (by kernel_rfl) rfl rfl ⟨hx, hy⟩ (fun hHeld => ?_)
        obtain ⟨E, hE⟩ : ∃ E, wr.drew = E := ⟨_, rfl⟩
        have HSE := Aside0.mk (show SS g c N w0 I Q E xs0 by rw [← hE]; exact HW.out.step hI (below_drew1 (Below.refl _ _)))
        rw [hE] at hHeld ⊢
        clear hE
        refine pure_ (i := 0) (N := some 158) (v := ?_) (a' := ?_) #[true, false, false, false, false, false, false, false, false, false, false, false, false, false] rfl rfl (by kernel_rfl) (fun _ _ _ h => h) (Or.inl ⟨by rfl, ?_⟩) ?_ ?_
        rotate_left
        · intro w'
          go_simp
          with_reducible rfl
        rotate_left
        · simp only [Act.put, List.setIfInBounds_toArray, List.set_cons_zero, List.set_cons_succ, i64_w, i32_w]
          rfl
        refine pure_ (i := 1) (N := some 159) (v := ?_) (a' := ?_) #[true, true, false, false, false, false, false, false, false, false, false, false, false, false] rfl rfl (by kernel_rfl) (fun _ _ _ h => h) (Or.inl ⟨by rfl, ?_⟩) ?_ ?_
        rotate_left
        · intro w'
          go_simp
          with_reducible rfl
        rotate_left
        · simp only [Act.put, List.setIfInBounds_toArray, List.set_cons_zero, List.set_cons_succ, i64_w, i32_w]
          rfl
        refine pure_ (i := 2) (N := some 160) (v := ?_) (a' := ?_) #[true, true, true, false, false, false, false, false, false, false, false, false, false, false] rfl rfl (by kernel_rfl) (fun _ _ _ h => h) (Or.inl ⟨by rfl, ?_⟩) ?_ ?_
        rotate_left
        · intro w'
          go_simp
          with_reducible rfl
        rotate_left
        · simp only [Act.put, List.setIfInBounds_toArray, List.set_cons_zero, List.set_cons_succ, i64_w, i32_w]
          rfl
        refine pure_ (i := 3) (N := some 161) (v := ?_) (a' := ?_) #[true, true, true, true, false, false, false, false, false, false, false, false, false, false] rfl rfl (by kernel_rfl) (fun _ _ _ h => h) (Or.inl ⟨by rfl, ?_⟩) ?_ ?_
        rotate_left
        · intro w'
          go_simp
          with_reducible rfl
        rotate_left
        · simp only [Act.put, List.setIfInBounds_toArray, List.set_cons_zero, List.set_cons_succ, i64_w, i32_w]
          rfl
        refine pure_ (i := 4) (N := some 162) (v := ?_) (a' := ?_) #[true, true, true, true, true, false, false, false, false, false, false, false, false, false] rfl rfl (by kernel_rfl) (fun _ _ _ h => h) (Or.inl ⟨by rfl, ?_⟩) ?_ ?_
        rotate_left
        · intro w'
          go_simp
          with_reducible rfl
        rotate_left
        · simp only [Act.put, List.setIfInBounds_toArray, List.set_cons_zero, List.set_cons_succ, i64_w, i32_w]
          rfl
        refine pure_ (i := 5) (N := some 163) (v := ?_) (a' := ?_) #[true, true, true, true, true, true, false, false, false, false, false, false, false, false] rfl rfl (by kernel_rfl) (fun _ _ _ h => h) (Or.inl ⟨by rfl, ?_⟩) ?_ ?_
        rotate_left
        · intro w'
          go_simp
          with_reducible rfl
        rotate_left
        · simp only [Act.put, List.setIfInBounds_toArray, List.set_cons_zero, List.set_cons_succ, i64_w, i32_w]
          rfl
        refine take_ (i := 6) (N := some 164) (v := ?_) (a' := ?_) #[true, true, true, true, true, true, true, false, false, false, false, false, false, false] rfl rfl (by kernel_rfl) (fun _ _ _ h => h) (Or.inl ⟨by rfl, ?_⟩) hHeld ?_ ?_
        rotate_left
        · rintro w' ⟨s0, s1⟩
          go_simp
          with_reducible rfl
        rotate_left
        · simp only [Act.put, List.setIfInBounds_toArray, List.set_cons_zero, List.set_cons_succ, i64_w, i32_w]
          rfl
        refine pure_ (i := 7) (N := some 165) (v := ?_) (a' := ?_) #[true, true, true, true, true, true, true, true, false, false, false, false, false, false] rfl rfl (by kernel_rfl) (fun _ _ _ h => h) (Or.inl ⟨by rfl, ?_⟩) ?_ ?_
        rotate_left
        · intro w'
          go_simp
          with_reducible rfl
        rotate_left
        · simp only [Act.put, List.setIfInBounds_toArray, List.set_cons_zero, List.set_cons_succ, i64_w, i32_w]
          rfl
        refine pure_ (i := 8) (N := some 166) (v := ?_) (a' := ?_) #[true, true, true, true, true, true, true, true, true, false, false, false, false, false] rfl rfl (by kernel_rfl) (fun _ _ _ h => h) (Or.inl ⟨by rfl, ?_⟩) ?_ ?_
        rotate_left
        · intro w'
          go_simp
          with_reducible rfl
        rotate_left
        · simp only [Act.put, List.setIfInBounds_toArray, List.set_cons_zero, List.set_cons_succ, i64_w, i32_w]
          rfl
        refine pure_ (i := 9) (N := some 167) (v := ?_) (a' := ?_) #[true, true, true, true, true, true, true, true, true, true, false, false, false, false] rfl rfl (by kernel_rfl) (fun _ _ _ h => h) (Or.inl ⟨by rfl, ?_⟩) ?_ ?_
        rotate_left
        · intro w'
          go_simp
          with_reducible rfl
        rotate_left
        · simp only [Act.put, List.setIfInBounds_toArray, List.set_cons_zero, List.set_cons_succ, i64_w, i32_w]
          rfl
        refine take_ (i := 10) (N := some 168) (v := ?_) (a' := ?_) #[true, true, true, true, true, true, true, true, true, true, true, false, false, false] rfl rfl (by kernel_rfl) (fun _ _ _ h => h) (Or.inl ⟨by rfl, ?_⟩) hHeld ?_ ?_
        rotate_left
        · rintro w' ⟨s0, s1⟩
          go_simp
          with_reducible rfl
        rotate_left
        · simp only [Act.put, List.setIfInBounds_toArray, List.set_cons_zero, List.set_cons_succ, i64_w, i32_w]
          rfl
        refine last_ (i := 11) (N := some 169) #[true, true, true, true, true, true, true, true, true, true, true, true, false, false] rfl rfl (by kernel_rfl) (by decide) (fun K hK => ?_)
        refine goesC_ (caps := caps) Try.func72 (by kernel_rfl) rfl #[.int .i64 (Srt.g (0 : Int) xs0 q), .int .i64 (Srt.g (0 : Int) xs0 mid)] (by rfl) rfl rfl rfl (by (try simp only [List.map_toArray, List.map_cons, List.map_nil]); first | done | rfl) ?_
        refine (HC.out _ _ _ HQ1.out HQ2.out HSE.out.inv).mono ?_
        rintro e w3 ⟨v, rfl, hv, hb3⟩
        rw [HLT.out] at hv
        refine ⟨_, rfl, ?_⟩
        have HS3 := Aside0.mk (HSE.out.step hI hb3)
        refine hK.out _ _ ?_
        clear hK K hb3
        refine norm_ (a' := ?_) ?_ ?_
        rotate_left
        · show Act.put _ (some 169) _ = _
          simp only [Act.put, List.setIfInBounds_toArray, List.set_cons_zero, List.set_cons_succ, i64_w, i32_w]
          rfl
        refine pure_ (i := 12) (N := some 170) (v := ?_) (a' := ?_) #[true, true, true, true, true, true, true, true, true, true, true, true, true, false] rfl rfl (by kernel_rfl) (fun _ _ _ h => h) (Or.inl ⟨by rfl, ?_⟩) ?_ ?_
        rotate_left
        · intro w'
          go_simp
          with_reducible rfl
        rotate_left
        · simp only [Act.put, List.setIfInBounds_toArray, List.set_cons_zero, List.set_cons_succ, i64_w, i32_w]
          rfl
        refine pure_ (i := 13) (N := some 171) (v := ?_) (a' := ?_) #[true, true, true, true, true, true, true, true, true, true, true, true, true, true] rfl rfl (by kernel_rfl) (fun _ _ _ h => h) (Or.inl ⟨by rfl, ?_⟩) ?_ ?_
        rotate_left
        · intro w'
          go_simp
          with_reducible rfl
        rotate_left
        · simp only [Act.put, List.setIfInBounds_toArray, List.set_cons_zero, List.set_cons_succ, i64_w, i32_w]
          rfl
        refine done_ (by kernel_rfl) ?_
        clear hHeld hx hy
        clear hw3
        go_wp2
        go_roundg k'
        case measure => omega
        case rel => exact ⟨mid + 1, hi, by go_num, rfl, ⟨by omega, by omega, by omega, by omega⟩, HG, HS3⟩
    · have hg := HF.out
      rw [bs_end _ _ _ _ hlt] at hg
      subst hg
      obtain ⟨en, hen⟩ : ∃ en, n - lo = en := ⟨_, rfl⟩
      have hen' : (n : Int) - (lo : Int) = (en : Int) := by omega
      obtain ⟨x1, hx1⟩ : ∃ x1, (if lo < m ∧ m < en then Srt.rotF (0 : Int) m (en - lo) (m - lo) (en - m) xs0 else xs0) = x1 := ⟨_, rfl⟩
      obtain ⟨x2, hx2⟩ : ∃ x2, (if a < lo ∧ lo < md then Srt.symF (0 : Int) lt f a lo md x1 else x1) = x2 := ⟨_, rfl⟩
      have hsf : Srt.symF (0 : Int) lt (f + 1) a m b xs0 = _ := HSF.out
      rw [hen, hx1, hx2] at hsf
      have HX1 := Aside0.mk hx1
      have HX2 := Aside0.mk hx2
      have HX3 := Aside0.mk hsf
      have HE := Aside0.mk (show en ≤ N ∧ md ≤ N ∧ md - a ≤ f ∧ b - md ≤ f ∧ m ≤ en from ⟨by omega, by omega, by omega, by omega, by omega⟩)
      clear hx1 hx2 hsf hen z1 z2 z3 z4 z5 z6 z7
      go_upto_region 39 with fail
      go_cut [185] from 25 (fun v wz => v = .bool (decide (lo < m ∧ m < en)) ∧ wz = wr)
      case first => as_aux_lemma =>
        by_cases e1 : lo < m
        · have e1' := decide_eq_true (Int.ofNat_lt.2 e1)
          by_cases e2 : m < en
          · have e2' := decide_eq_true (Int.ofNat_lt.2 e2)
            have e3 : decide (lo < m ∧ m < en) = true := decide_eq_true ⟨e1, e2⟩
            go_wp2_with fail
            go_meet
            case rel => exact ⟨by rw [e3], rfl⟩
          · have e2' := decide_eq_false (fun h => e2 (Int.ofNat_lt.1 h))
            have e3 : decide (lo < m ∧ m < en) = false := decide_eq_false (fun h => e2 h.2)
            go_wp2_with fail
            go_meet
            case rel => exact ⟨by rw [e3], rfl⟩
        · have e1' := decide_eq_false (fun h => e1 (Int.ofNat_lt.1 h))
          have e3 : decide (lo < m ∧ m < en) = false := decide_eq_false (fun h => e1 h.1)
          go_wp2_with fail
          go_meet
          case rel => exact ⟨by rw [e3], rfl⟩
      case rest => as_aux_lemma =>
        obtain ⟨rfl, rfl⟩ := hcut
        go_upto_if 185 with fail
        go_cut [] from 25 (fun wz => Aside0 (SS g c N w0 I Q wz x1))
        case first => as_aux_lemma =>
          have hx1 := HX1.out
          by_cases hc : lo < m ∧ m < en
          · simp only [decide_eq_true hc]
            rw [if_pos hc] at hx1
            obtain ⟨d1, d2⟩ := hc
            have HY := Aside0.mk hx1
            clear hx1
            go_wp2_with (go_at_call 138; refine (rot_calls g c N w0 I Q lo m en xs0 _ _ hI HW.out d1 d2 HE.out.1).mono ?_; rw [HY.out]; rintro e w1 ⟨⟨r, rfl⟩, hs1⟩; have HS1 := Aside0.mk hs1; clear hs1)
            go_meet
            case rel => exact HS1
          · simp only [decide_eq_false hc]
            rw [if_neg hc] at hx1
            have HY := Aside0.mk hx1
            clear hx1
            go_wp2_with fail
            go_meet
            case rel => exact ⟨by rw [← HY.out]; exact HW.out⟩
        case rest => as_aux_lemma =>
          have HV1 := hcut
          go_upto_region 41 with fail
          go_cut [199] from 25 (fun v wz => v = .bool (decide (a < lo ∧ lo < md)) ∧ wz = wc)
          case first => as_aux_lemma =>
            by_cases e1 : a < lo
            · have e1' := decide_eq_true (Int.ofNat_lt.2 e1)
              by_cases e2 : lo < md
              · have e2' := decide_eq_true (Int.ofNat_lt.2 e2)
                have e3 : decide (a < lo ∧ lo < md) = true := decide_eq_true ⟨e1, e2⟩
                go_wp2_with fail
                go_meet
                case rel => exact ⟨by rw [e3], rfl⟩
              · have e2' := decide_eq_false (fun h => e2 (Int.ofNat_lt.1 h))
                have e3 : decide (a < lo ∧ lo < md) = false := decide_eq_false (fun h => e2 h.2)
                go_wp2_with fail
                go_meet
                case rel => exact ⟨by rw [e3], rfl⟩
            · have e1' := decide_eq_false (fun h => e1 (Int.ofNat_lt.1 h))
              have e3 : decide (a < lo ∧ lo < md) = false := decide_eq_false (fun h => e1 h.1)
              go_wp2_with fail
              go_meet
              case rel => exact ⟨by rw [e3], rfl⟩
          case rest => as_aux_lemma =>
            obtain ⟨rfl, rfl⟩ := hcut
            go_upto_if 199 with fail
            go_cut [] from 25 (fun wz => Aside0 (SS g c N w0 I Q wz x2))
            case first => as_aux_lemma =>
              have hx1 := HX2.out
              by_cases hc : a < lo ∧ lo < md
              · simp only [decide_eq_true hc]
                rw [if_pos hc] at hx1
                obtain ⟨d1, d2⟩ := hc
                have HY := Aside0.mk hx1
                clear hx1
                go_wp2_with (go_at_call 122; refine (IH.out a lo md x1 _ HV1.out d1 d2 HE.out.2.1 HE.out.2.2.1).mono ?_; rw [HY.out]; rintro e w1 ⟨⟨r, rfl⟩, hs1⟩; have HS1 := Aside0.mk hs1; clear hs1)
                go_meet
                case rel => exact HS1
              · simp only [decide_eq_false hc]
                rw [if_neg hc] at hx1
                have HY := Aside0.mk hx1
                clear hx1
                go_wp2_with fail
                go_meet
                case rel => exact ⟨by rw [← HY.out]; exact HV1.out⟩
            case rest => as_aux_lemma =>
              have HV2 := hcut
              go_upto_region 43 with fail
              go_cut [213] from 25 (fun v wz => v = .bool (decide (md < en ∧ en < b)) ∧ wz = wc)
              case first => as_aux_lemma =>
                by_cases e1 : md < en
                · have e1' := decide_eq_true (Int.ofNat_lt.2 e1)
                  by_cases e2 : en < b
                  · have e2' := decide_eq_true (Int.ofNat_lt.2 e2)
                    have e3 : decide (md < en ∧ en < b) = true := decide_eq_true ⟨e1, e2⟩
                    go_wp2_with fail
                    go_meet
                    case rel => exact ⟨by rw [e3], rfl⟩
                  · have e2' := decide_eq_false (fun h => e2 (Int.ofNat_lt.1 h))
                    have e3 : decide (md < en ∧ en < b) = false := decide_eq_false (fun h => e2 h.2)
                    go_wp2_with fail
                    go_meet
                    case rel => exact ⟨by rw [e3], rfl⟩
                · have e1' := decide_eq_false (fun h => e1 (Int.ofNat_lt.1 h))
                  have e3 : decide (md < en ∧ en < b) = false := decide_eq_false (fun h => e1 h.1)
                  go_wp2_with fail
                  go_meet
                  case rel => exact ⟨by rw [e3], rfl⟩
              case rest => as_aux_lemma =>
                obtain ⟨rfl, rfl⟩ := hcut
                go_upto_if 213 with fail
                have hx1 := HX3.out
                by_cases hc : md < en ∧ en < b
                · simp only [decide_eq_true hc]
                  rw [if_pos hc] at hx1
                  obtain ⟨d1, d2⟩ := hc
                  have HY := Aside0.mk hx1
                  clear hx1
                  go_wp2_with (go_at_call 122; refine (IH.out md en b x2 _ HV2.out d1 d2 hbN HE.out.2.2.2.1).mono ?_; rintro e w1 ⟨⟨r, rfl⟩, hs1⟩; have HS1 := Aside0.mk hs1; clear hs1)
                  refine ⟨rfl, .tuple #[], ?_, ⟨_, rfl⟩, ?_⟩
                  · simp [results, Try.results122, go_sem]
                  · rw [HY.out]; exact HS1.out
                · simp only [decide_eq_false hc]
                  rw [if_neg hc] at hx1
                  have HY := Aside0.mk hx1
                  clear hx1
                  go_wp2_with fail
                  refine ⟨rfl, .tuple #[], ?_, ⟨_, rfl⟩, ?_⟩
                  · simp [results, Try.results122, go_sem]
                  · rw [HY.out]; exact HV2.out
end Go.Proofs.Ytokijibpdnepiaa.X
end
section
namespace Go.Proofs.Ytokijibpdnepiaa.X
open Go.RowKit Go.Proofs.YtokijibpdnepiaaW.PrintWords Go.Proofs.YtokijibpdnepiaaW.PrintLast Go.Proofs.YtokijibpdnepiaaW.PrintMore
attribute [local go_sem] max2_int min2_int max_two min_two max_three min_three max_four min_four
set_option linter.unusedVariables false
set_option linter.unusedSimpArgs false
set_option maxHeartbeats 8000000 in
set_option maxRecDepth 100000 in
theorem sym_lo (g c N : Nat) (w0 : World) (I : World → Prop) (Q : Int → Prop) (lt : Int → Int → Bool) (caps : Array Value) (hI : Stays g I) (hC : Cmp caps I Q lt) (hN2 : N ≤ 4611686018427387903) (f : Nat) (ih : SymIH g c N w0 I Q lt caps f) (a m b : Nat) (xs0 : List Int) (w : World) (h : SS g c N w0 I Q w xs0) (ham : a < m) (hmb : m < b) (hbN : b ≤ N) (hf : b - a ≤ f + 1) (c1 : ¬ m - a = 1) (c2 : ¬ b - m = 1) (cm : ¬ (a + b) / 2 < m) :
    Calls Try.prog 122 #[.slice (some ⟨g, 0, none⟩) N c, .int .i64 (a : Int), .int .i64 (m : Int), .int .i64 (b : Int), .func (.func 72) #[] caps] w fun e w' => (∃ r, e = .returned r) ∧ SS g c N w0 I Q w' (Srt.symF (0 : Int) lt (f + 1) a m b xs0) := by
  have HS := Aside0.mk h
  have HC := Aside0.mk hC
  have IH := Aside0.mk ih
  clear h hC ih
  obtain ⟨dm, hdm⟩ : ∃ dm, m - a = dm := ⟨_, rfl⟩
  have hdm' : (m : Int) - (a : Int) = (dm : Int) := by omega
  have hdn : ¬ ((dm : Int) = 1) := by omega
  have HDM := Aside0.mk hdm
  clear hdm
  obtain ⟨db, hdb⟩ : ∃ db, b - m = db := ⟨_, rfl⟩
  have hdb' : (b : Int) - (m : Int) = (db : Int) := by omega
  have hdbn : ¬ ((db : Int) = 1) := by omega
  obtain ⟨md, hmd⟩ : ∃ md, (a + b) / 2 = md := ⟨_, rfl⟩
  have hmd' : ((a : Int) + (b : Int)) / 2 = (md : Int) := by omega
  obtain ⟨n, hn⟩ : ∃ n, md + m = n := ⟨_, rfl⟩
  have hn' : (md : Int) + (m : Int) = (n : Int) := by omega
  obtain ⟨p, hp⟩ : ∃ p, n - 1 = p := ⟨_, rfl⟩
  have hp' : (n : Int) - 1 = (p : Int) := by omega
  have hF := Srt.symF.eq_2 (0 : Int) lt a m b xs0 f
  rw [if_neg c1, if_neg c2] at hF
  dsimp only at hF
  rw [hmd, hn, hp] at hF
  rw [hmd] at cm
  rw [if_neg cm, if_neg cm] at hF
  obtain ⟨st, hst⟩ : ∃ st, Srt.bs (fun h => !lt (Srt.g (0 : Int) xs0 (p - h)) (Srt.g (0 : Int) xs0 h)) (m - a) a m = st := ⟨_, rfl⟩
  rw [hst] at hF
  have HST := Aside0.mk hst
  have HSF := Aside0.mk hF
  have HB := Aside0.mk (show a ≤ a ∧ a ≤ m ∧ m ≤ m ∧ m ≤ md ∧ n ≤ b + a ∧ n = md + m ∧ p + 1 = n ∧ md < b ∧ a < md ∧ md ≤ a + f ∧ b ≤ md + f from ⟨by omega, by omega, by omega, by omega, by omega, by omega, by omega, by omega, by omega, by omega, by omega⟩)
  clear hst hF
  go_enter Try.func122, Try.ntmps122
  go_wp2_with fail
  go_loopg [20, 21] (m - a) (fun kq v20 v21 wr => ∃ lo hi : Nat, v20 = .int .i64 (lo : Int) ∧ v21 = .int .i64 (hi : Int) ∧ Aside0 (a ≤ lo ∧ lo ≤ hi ∧ hi ≤ m ∧ hi - lo ≤ kq) ∧ Aside0 (Srt.bs (fun h => !lt (Srt.g (0 : Int) xs0 (p - h)) (Srt.g (0 : Int) xs0 h)) kq lo hi = st) ∧ Aside0 (SS g c N w0 I Q wr xs0))
  case atStart => exact ⟨a, m, rfl, rfl, ⟨by omega, by omega, by omega, by omega⟩, HST, HS⟩
  case round => as_aux_lemma =>
    obtain ⟨lo, hi, rfl, rfl, HK, HF, HW⟩ := hrel
    obtain ⟨k1, k2, k3, k4⟩ := HK.out
    obtain ⟨z1, z2, z3, z4, z5, z6, z7, z8, z9, z10, z11⟩ := HB.out
    by_cases hlt : lo < hi
    · obtain ⟨k', rfl⟩ : ∃ k', gk = k' + 1 := ⟨gk - 1, by omega⟩
      obtain ⟨mid, hm⟩ : ∃ mid, (lo + hi) / 2 = mid := ⟨_, rfl⟩
      obtain ⟨q, hq⟩ : ∃ q, p - mid = q := ⟨_, rfl⟩
      have hq' : (p : Int) - (mid : Int) = (q : Int) := by omega
      have hg := HF.out
      rw [bs_step _ _ _ _ _ hlt hm, hq] at hg
      have hi1 : q < N := by omega
      have hi2 : mid < N := by omega
      have hq1 := HW.out.qg q hi1
      have HQ1 := Aside0.mk hq1
      clear hq1
      have hx := HW.out.cell q hi1
      have hb0 := eq_true (show 0 ≤ (q : Int) by omega)
      have hb1 := eq_true (show (q : Int) < (N : Int) by omega)
      have hq2 := HW.out.qg mid hi2
      have HQ2 := Aside0.mk hq2
      clear hq2
      have hy := HW.out.cell mid hi2
      have hb2 := eq_true (show 0 ≤ (mid : Int) by omega)
      have hb3 := eq_true (show (mid : Int) < (N : Int) by omega)
      have hw3 : Go.RowKit.wrap64 (q : Int) = (q : Int) := w64n hi1 (by omega)
      have hmd2 : ((lo : Int) + (hi : Int)) / 2 = (mid : Int) := by omega
      have b5 : lo ≤ mid := by omega
      have b6 : mid < hi := by omega
      cases hlt2 : lt (Srt.g (0 : Int) xs0 q) (Srt.g (0 : Int) xs0 mid) with
      | true =>
        rw [hlt2, Bool.not_true, if_neg (by decide)] at hg
        have HG := Aside0.mk hg
        have HLT := Aside0.mk hlt2
        have HM := Aside0.mk hm
        clear hg hlt2 hm hq z1 z2 z3 z4 z5 z6 z7 z8 z9 z10 z11
        go_wp2_with fail
        refine start_ (n := 14) (S := fun w' => w'.cell? ⟨g, q, none⟩ = some (.int .i64 (Srt.g 0 xs0 (q))) ∧ w'.cell? ⟨g, mid, none⟩ = some (.int .i64 (Srt.g 0 xs0 (mid)))) (ds := [11]) #[false, false, false, false, false, false, false, false, false, false, false, false, false, false] (by kernel_rfl) rfl rfl ⟨hx, hy⟩ (fun hHeld => ?_)
        obtain ⟨E, hE⟩ : ∃ E, wr.drew = E := ⟨_, rfl⟩
        have HSE := Aside0.mk (show SS g c N w0 I Q E xs0 by rw [← hE]; exact HW.out.step hI (below_drew1 (Below.refl _ _)))
        rw [hE] at hHeld ⊢
        clear hE
        refine pure_ (i := 0) (N := some 158) (v := ?_) (a' := ?_) #[true, false, false, false, false, false, false, false, false, false, false, false, false, false] rfl rfl (by kernel_rfl) (fun _ _ _ h => h) (Or.inl ⟨by rfl, ?_⟩) ?_ ?_
        rotate_left
        · intro w'
          go_simp
          with_reducible rfl
        rotate_left
        · simp only [Act.put, List.setIfInBounds_toArray, List.set_cons_zero, List.set_cons_succ, i64_w, i32_w]
          rfl
        refine pure_ (i := 1) (N := some 159) (v := ?_) (a' := ?_) #[true, true, false, false, false, false, false, false, false, false, false, false, false, false] rfl rfl (by kernel_rfl) (fun _ _ _ h => h) (Or.inl ⟨by rfl, ?_⟩) ?_ ?_
        rotate_left
        · intro w'
          go_simp
          with_reducible rfl
        rotate_left
        · simp only [Act.put, List.setIfInBounds_toArray, List.set_cons_zero, List.set_cons_succ, i64_w, i32_w]
          rfl
        refine pure_ (i := 2) (N := some 160) (v := ?_) (a' := ?_) #[true, true, true, false, false, false, false, false, false, false, false, false, false, false] rfl rfl (by kernel_rfl) (fun _ _ _ h => h) (Or.inl ⟨by rfl, ?_⟩) ?_ ?_
        rotate_left
        · intro w'
          go_simp
          with_reducible rfl
        rotate_left
        · simp only [Act.put, List.setIfInBounds_toArray, List.set_cons_zero, List.set_cons_succ, i64_w, i32_w]
          rfl
        refine pure_ (i := 3) (N := some 161) (v := ?_) (a' := ?_) #[true, true, true, true, false, false, false, false, false, false, false, false, false, false] rfl rfl (by kernel_rfl) (fun _ _ _ h => h) (Or.inl ⟨by rfl, ?_⟩) ?_ ?_
        rotate_left
        · intro w'
          go_simp
          with_reducible rfl
        rotate_left
        · simp only [Act.put, List.setIfInBounds_toArray, List.set_cons_zero, List.set_cons_succ, i64_w, i32_w]
          rfl
        refine pure_ (i := 4) (N := some 162) (v := ?_) (a' := ?_) #[true, true, true, true, true, false, false, false, false, false, false, false, false, false] rfl rfl (by kernel_rfl) (fun _ _ _ h => h) (Or.inl ⟨by rfl, ?_⟩) ?_ ?_
        rotate_left
        · intro w'
          go_simp
          with_reducible rfl
        rotate_left
        · simp only [Act.put, List.setIfInBounds_toArray, List.set_cons_zero, List.set_cons_succ, i64_w, i32_w]
          rfl
        refine pure_ (i := 5) (N := some 163) (v := ?_) (a' := ?_) #[true, true, true, true, true, true, false, false, false, false, false, false, false, false] rfl rfl (by kernel_rfl) (fun _ _ _ h => h) (Or.inl ⟨by rfl, ?_⟩) ?_ ?_
        rotate_left
        · intro w'
          go_simp
          with_reducible rfl
        rotate_left
        · simp only [Act.put, List.setIfInBounds_toArray, List.set_cons_zero, List.set_cons_succ, i64_w, i32_w]
          rfl
        refine take_ (i := 6) (N := some 164) (v := ?_) (a' := ?_) #[true, true, true, true, true, true, true, false, false, false, false, false, false, false] rfl rfl (by kernel_rfl) (fun _ _ _ h => h) (Or.inl ⟨by rfl, ?_⟩) hHeld ?_ ?_
        rotate_left
        · rintro w' ⟨s0, s1⟩
          go_simp
          with_reducible rfl
        rotate_left
        · simp only [Act.put, List.setIfInBounds_toArray, List.set_cons_zero, List.set_cons_succ, i64_w, i32_w]
          rfl
        refine pure_ (i := 7) (N := some 165) (v := ?_) (a' := ?_) #[true, true, true, true, true, true, true, true, false, false, false, false, false, false] rfl rfl (by kernel_rfl) (fun _ _ _ h => h) (Or.inl ⟨by rfl, ?_⟩) ?_ ?_
        rotate_left
        · intro w'
          go_simp
          with_reducible rfl
        rotate_left
        · simp only [Act.put, List.setIfInBounds_toArray, List.set_cons_zero, List.set_cons_succ, i64_w, i32_w]
          rfl
        refine pure_ (i := 8) (N := some 166) (v := ?_) (a' := ?_) #[true, true, true, true, true, true, true, true, true, false, false, false, false, false] rfl rfl (by kernel_rfl) (fun _ _ _ h => h) (Or.inl ⟨by rfl, ?_⟩) ?_ ?_
        rotate_left
        · intro w'
          go_simp
          with_reducible rfl
        rotate_left
        · simp only [Act.put, List.setIfInBounds_toArray, List.set_cons_zero, List.set_cons_succ, i64_w, i32_w]
          rfl
        refine pure_ (i := 9) (N := some 167) (v := ?_) (a' := ?_) #[true, true, true, true, true, true, true, true, true, true, false, false, false, false] rfl rfl (by kernel_rfl) (fun _ _ _ h => h) (Or.inl ⟨by rfl, ?_⟩) ?_ ?_
        rotate_left
        · intro w'
          go_simp
          with_reducible rfl
        rotate_left
        · simp only [Act.put, List.setIfInBounds_toArray, List.set_cons_zero, List.set_cons_succ, i64_w, i32_w]
          rfl
        refine take_ (i := 10) (N := some 168) (v := ?_) (a' := ?_) #[true, true, true, true, true, true, true, true, true, true, true, false, false, false] rfl rfl (by kernel_rfl) (fun _ _ _ h => h) (Or.inl ⟨by rfl, ?_⟩) hHeld ?_ ?_
        rotate_left
        · rintro w' ⟨s0, s1⟩
          go_simp
          with_reducible rfl
        rotate_left
        · simp only [Act.put, List.setIfInBounds_toArray, List.set_cons_zero, List.set_cons_succ, i64_w, i32_w]
          rfl
        refine last_ (i := 11) (N := some 169) #[true, true, true, true, true, true, true, true, true, true, true, true, false, false] rfl rfl (by kernel_rfl) (by decide) (fun K hK => ?_)
        refine goesC_ (caps := caps) Try.func72 (by kernel_rfl) rfl #[.int .i64 (Srt.g (0 : Int) xs0 q), .int .i64 (Srt.g (0 : Int) xs0 mid)] (by rfl) rfl rfl rfl (by (try simp only [List.map_toArray, List.map_cons, List.map_nil]); first | done | rfl) ?_
        refine (HC.out _ _ _ HQ1.out HQ2.out HSE.out.inv).mono ?_
        rintro e w3 ⟨v, rfl, hv, hb3⟩
        rw [HLT.out] at hv
        refine ⟨_, rfl, ?_⟩
        have HS3 := Aside0.mk (HSE.out.step hI hb3)
        refine hK.out _ _ ?_
        clear hK K hb3
        refine norm_ (a' := ?_) ?_ ?_
        rotate_left
        · show Act.put _ (some 169) _ = _
          simp only [Act.put, List.setIfInBounds_toArray, List.set_cons_zero, List.set_cons_succ, i64_w, i32_w]
          rfl
        refine pure_ (i := 12) (N := some 170) (v := ?_) (a' := ?_) #[true, true, true, true, true, true, true, true, true, true, true, true, true, false] rfl rfl (by kernel_rfl) (fun _ _ _ h => h) (Or.inl ⟨by rfl, ?_⟩) ?_ ?_
        rotate_left
        · intro w'
          go_simp
          with_reducible rfl
        rotate_left
        · simp only [Act.put, List.setIfInBounds_toArray, List.set_cons_zero, List.set_cons_succ, i64_w, i32_w]
          rfl
        refine pure_ (i := 13) (N := some 171) (v := ?_) (a' := ?_) #[true, true, true, true, true, true, true, true, true, true, true, true, true, true] rfl rfl (by kernel_rfl) (fun _ _ _ h => h) (Or.inl ⟨by rfl, ?_⟩) ?_ ?_
        rotate_left
        · intro w'
          go_simp
          with_reducible rfl
        rotate_left
        · simp only [Act.put, List.setIfInBounds_toArray, List.set_cons_zero, List.set_cons_succ, i64_w, i32_w]
          rfl
        refine done_ (by kernel_rfl) ?_
        clear hHeld hx hy
        clear hw3
        go_wp2
        go_roundg k'
        case measure => omega
        case rel => exact ⟨lo, mid, rfl, by go_num, ⟨by omega, by omega, by omega, by omega⟩, HG, HS3⟩
      | false =>
        rw [hlt2, Bool.not_false, if_pos rfl] at hg
        have HG := Aside0.mk hg
        have HLT := Aside0.mk hlt2
        have HM := Aside0.mk hm
        clear hg hlt2 hm hq z1 z2 z3 z4 z5 z6 z7 z8 z9 z10 z11
        go_wp2_with fail
        refine start_ (n := 14) (S := fun w' => w'.cell? ⟨g, q, none⟩ = some (.int .i64 (Srt.g 0 xs0 (q))) ∧ w'.cell? ⟨g, mid, none⟩ = some (.int .i64 (Srt.g 0 xs0 (mid)))) (ds := [11]) #[false, false, false, false, false, false, false, false, false, false, false, false, false, false] (by kernel_rfl) rfl rfl ⟨hx, hy⟩ (fun hHeld => ?_)
        obtain ⟨E, hE⟩ : ∃ E, wr.drew = E := ⟨_, rfl⟩
        have HSE := Aside0.mk (show SS g c N w0 I Q E xs0 by rw [← hE]; exact HW.out.step hI (below_drew1 (Below.refl _ _)))
        rw [hE] at hHeld ⊢
        clear hE
        refine pure_ (i := 0) (N := some 158) (v := ?_) (a' := ?_) #[true, false, false, false, false, false, false, false, false, false, false, false, false, false] rfl rfl (by kernel_rfl) (fun _ _ _ h => h) (Or.inl ⟨by rfl, ?_⟩) ?_ ?_
        rotate_left
        · intro w'
          go_simp
          with_reducible rfl
        rotate_left
        · simp only [Act.put, List.setIfInBounds_toArray, List.set_cons_zero, List.set_cons_succ, i64_w, i32_w]
          rfl
        refine pure_ (i := 1) (N := some 159) (v := ?_) (a' := ?_) #[true, true, false, false, false, false, false, false, false, false, false, false, false, false] rfl rfl (by kernel_rfl) (fun _ _ _ h => h) (Or.inl ⟨by rfl, ?_⟩) ?_ ?_
        rotate_left
        · intro w'
          go_simp
          with_reducible rfl
        rotate_left
        · simp only [Act.put, List.setIfInBounds_toArray, List.set_cons_zero, List.set_cons_succ, i64_w, i32_w]
          rfl
        refine pure_ (i := 2) (N := some 160) (v := ?_) (a' := ?_) #[true, true, true, false, false, false, false, false, false, false, false, false, false, false] rfl rfl (by kernel_rfl) (fun _ _ _ h => h) (Or.inl ⟨by rfl, ?_⟩) ?_ ?_
        rotate_left
        · intro w'
          go_simp
          with_reducible rfl
        rotate_left
        · simp only [Act.put, List.setIfInBounds_toArray, List.set_cons_zero, List.set_cons_succ, i64_w, i32_w]
          rfl
        refine pure_ (i := 3) (N := some 161) (v := ?_) (a' := ?_) #[true, true, true, true, false, false, false, false, false, false, false, false, false, false] rfl rfl (by kernel_rfl) (fun _ _ _ h => h) (Or.inl ⟨by rfl, ?_⟩) ?_ ?_
        rotate_left
        · intro w'
          go_simp
          with_reducible rfl
        rotate_left
        · simp only [Act.put, List.setIfInBounds_toArray, List.set_cons_zero, List.set_cons_succ, i64_w, i32_w]
          rfl
        refine pure_ (i := 4) (N := some 162) (v := ?_) (a' := ?_) #[true, true, true, true, true, false, false, false, false, false, false, false, false, false] rfl rfl (by kernel_rfl) (fun _ _ _ h => h) (Or.inl ⟨by rfl, ?_⟩) ?_ ?_
        rotate_left
        · intro w'
          go_simp
          with_reducible rfl
        rotate_left
        · simp only [Act.put, List.setIfInBounds_toArray, List.set_cons_zero, List.set_cons_succ, i64_w, i32_w]
          rfl
        refine pure_ (i := 5) (N := some 163) (v := ?_) (a' := ?_) #[true, true, true, true, true, true, false, false, false, false, false, false, false, false] rfl rfl (by kernel_rfl) (fun _ _ _ h => h) (Or.inl ⟨by rfl, ?_⟩) ?_ ?_
        rotate_left
        · intro w'
          go_simp
          with_reducible rfl
        rotate_left
        · simp only [Act.put, List.setIfInBounds_toArray, List.set_cons_zero, List.set_cons_succ, i64_w, i32_w]
          rfl
        refine take_ (i := 6) (N := some 164) (v := ?_) (a' := ?_) #[true, true, true, true, true, true, true, false, false, false, false, false, false, false] rfl rfl (by kernel_rfl) (fun _ _ _ h => h) (Or.inl ⟨by rfl, ?_⟩) hHeld ?_ ?_
        rotate_left
        · rintro w' ⟨s0, s1⟩
          go_simp
          with_reducible rfl
        rotate_left
        · simp only [Act.put, List.setIfInBounds_toArray, List.set_cons_zero, List.set_cons_succ, i64_w, i32_w]
          rfl
        refine pure_ (i := 7) (N := some 165) (v := ?_) (a' := ?_) #[true, true, true, true, true, true, true, true, false, false, false, false, false, false] rfl rfl (by kernel_rfl) (fun _ _ _ h => h) (Or.inl ⟨by rfl, ?_⟩) ?_ ?_
        rotate_left
        · intro w'
          go_simp
          with_reducible rfl
        rotate_left
        · simp only [Act.put, List.setIfInBounds_toArray, List.set_cons_zero, List.set_cons_succ, i64_w, i32_w]
          rfl
        refine pure_ (i := 8) (N := some 166) (v := ?_) (a' := ?_) #[true, true, true, true, true, true, true, true, true, false, false, false, false, false] rfl rfl (by kernel_rfl) (fun _ _ _ h => h) (Or.inl ⟨by rfl, ?_⟩) ?_ ?_
        rotate_left
        · intro w'
          go_simp
          with_reducible rfl
        rotate_left
        · simp only [Act.put, List.setIfInBounds_toArray, List.set_cons_zero, List.set_cons_succ, i64_w, i32_w]
          rfl
        refine pure_ (i := 9) (N := some 167) (v := ?_) (a' := ?_) #[true, true, true, true, true, true, true, true, true, true, false, false, false, false] rfl rfl (by kernel_rfl) (fun _ _ _ h => h) (Or.inl ⟨by rfl, ?_⟩) ?_ ?_
        rotate_left
        · intro w'
          go_simp
          with_reducible rfl
        rotate_left
        · simp only [Act.put, List.setIfInBounds_toArray, List.set_cons_zero, List.set_cons_succ, i64_w, i32_w]
          rfl
        refine take_ (i := 10) (N := some 168) (v := ?_) (a' := ?_) #[true, true, true, true, true, true, true, true, true, true, true, false, false, false] rfl rfl (by kernel_rfl) (fun _ _ _ h => h) (Or.inl ⟨by rfl, ?_⟩) hHeld ?_ ?_
        rotate_left
        · rintro w' ⟨s0, s1⟩
          go_simp
          with_reducible rfl
        rotate_left
        · simp only [Act.put, List.setIfInBounds_toArray, List.set_cons_zero, List.set_cons_succ, i64_w, i32_w]
          rfl
        refine last_ (i := 11) (N := some 169) #[true, true, true, true, true, true, true, true, true, true, true, true, false, false] rfl rfl (by kernel_rfl) (by decide) (fun K hK => ?_)
        refine goesC_ (caps := caps) Try.func72 (by kernel_rfl) rfl #[.int .i64 (Srt.g (0 : Int) xs0 q), .int .i64 (Srt.g (0 : Int) xs0 mid)] (by rfl) rfl rfl rfl (by (try simp only [List.map_toArray, List.map_cons, List.map_nil]); first | done | rfl) ?_
        refine (HC.out _ _ _ HQ1.out HQ2.out HSE.out.inv).mono ?_
        rintro e w3 ⟨v, rfl, hv, hb3⟩
        rw [HLT.out] at hv
        refine ⟨_, rfl, ?_⟩
        have HS3 := Aside0.mk (HSE.out.step hI hb3)
        refine hK.out _ _ ?_
        clear hK K hb3
        refine norm_ (a' := ?_) ?_ ?_
        rotate_left
        · show Act.put _ (some 169) _ = _
          simp only [Act.put, List.setIfInBounds_toArray, List.set_cons_zero, List.set_cons_succ, i64_w, i32_w]
          rfl
        refine pure_ (i := 12) (N := some 170) (v := ?_) (a' := ?_) #[true, true, true, true, true, true, true, true, true, true, true, true, true, false] rfl rfl (by kernel_rfl) (fun _ _ _ h => h) (Or.inl ⟨by rfl, ?_⟩) ?_ ?_
        rotate_left
        · intro w'
          go_simp
          with_reducible rfl
        rotate_left
        · simp only [Act.put, List.setIfInBounds_toArray, List.set_cons_zero, List.set_cons_succ, i64_w, i32_w]
          rfl
        refine pure_ (i := 13) (N := some 171) (v := ?_) (a' := ?_) #[true, true, true, true, true, true, true, true, true, true, true, true, true, true] rfl rfl (by kernel_rfl) (fun _ _ _ h => h) (Or.inl ⟨by rfl, ?_⟩) ?_ ?_
        rotate_left
        · intro w'
          go_simp
          with_reducible rfl
        rotate_left
        · simp only [Act.put, List.setIfInBounds_toArray, List.set_cons_zero, List.set_cons_succ, i64_w, i32_w]
          rfl
        refine done_ (by kernel_rfl) ?_
        clear hHeld hx hy
        clear hw3
        go_wp2
        go_roundg k'
        case measure => omega
        case rel => exact ⟨mid + 1, hi, by go_num, rfl, ⟨by omega, by omega, by omega, by omega⟩, HG, HS3⟩
    · have hg := HF.out
      rw [bs_end _ _ _ _ hlt] at hg
      subst hg
      obtain ⟨en, hen⟩ : ∃ en, n - lo = en := ⟨_, rfl⟩
      have hen' : (n : Int) - (lo : Int) = (en : Int) := by omega
      obtain ⟨x1, hx1⟩ : ∃ x1, (if lo < m ∧ m < en then Srt.rotF (0 : Int) m (en - lo) (m - lo) (en - m) xs0 else xs0) = x1 := ⟨_, rfl⟩
      obtain ⟨x2, hx2⟩ : ∃ x2, (if a < lo ∧ lo < md then Srt.symF (0 : Int) lt f a lo md x1 else x1) = x2 := ⟨_, rfl⟩
      have hsf : Srt.symF (0 : Int) lt (f + 1) a m b xs0 = _ := HSF.out
      rw [hen, hx1, hx2] at hsf
      have HX1 := Aside0.mk hx1
      have HX2 := Aside0.mk hx2
      have HX3 := Aside0.mk hsf
      have HE := Aside0.mk (show en ≤ N ∧ md ≤ N ∧ md - a ≤ f ∧ b - md ≤ f ∧ m ≤ en from ⟨by omega, by omega, by omega, by omega, by omega⟩)
      clear hx1 hx2 hsf hen z1 z2 z3 z4 z5 z6 z7
      go_upto_region 39 with fail
      go_cut [185] from 25 (fun v wz => v = .bool (decide (lo < m ∧ m < en)) ∧ wz = wr)
      case first => as_aux_lemma =>
        by_cases e1 : lo < m
        · have e1' := decide_eq_true (Int.ofNat_lt.2 e1)
          by_cases e2 : m < en
          · have e2' := decide_eq_true (Int.ofNat_lt.2 e2)
            have e3 : decide (lo < m ∧ m < en) = true := decide_eq_true ⟨e1, e2⟩
            go_wp2_with fail
            go_meet
            case rel => exact ⟨by rw [e3], rfl⟩
          · have e2' := decide_eq_false (fun h => e2 (Int.ofNat_lt.1 h))
            have e3 : decide (lo < m ∧ m < en) = false := decide_eq_false (fun h => e2 h.2)
            go_wp2_with fail
            go_meet
            case rel => exact ⟨by rw [e3], rfl⟩
        · have e1' := decide_eq_false (fun h => e1 (Int.ofNat_lt.1 h))
          have e3 : decide (lo < m ∧ m < en) = false := decide_eq_false (fun h => e1 h.1)
          go_wp2_with fail
          go_meet
          case rel => exact ⟨by rw [e3], rfl⟩
      case rest => as_aux_lemma =>
        obtain ⟨rfl, rfl⟩ := hcut
        go_upto_if 185 with fail
        go_cut [] from 25 (fun wz => Aside0 (SS g c N w0 I Q wz x1))
        case first => as_aux_lemma =>
          have hx1 := HX1.out
          by_cases hc : lo < m ∧ m < en
          · simp only [decide_eq_true hc]
            rw [if_pos hc] at hx1
            obtain ⟨d1, d2⟩ := hc
            have HY := Aside0.mk hx1
            clear hx1
            go_wp2_with (go_at_call 138; refine (rot_calls g c N w0 I Q lo m en xs0 _ _ hI HW.out d1 d2 HE.out.1).mono ?_; rw [HY.out]; rintro e w1 ⟨⟨r, rfl⟩, hs1⟩; have HS1 := Aside0.mk hs1; clear hs1)
            go_meet
            case rel => exact HS1
          · simp only [decide_eq_false hc]
            rw [if_neg hc] at hx1
            have HY := Aside0.mk hx1
            clear hx1
            go_wp2_with fail
            go_meet
            case rel => exact ⟨by rw [← HY.out]; exact HW.out⟩
        case rest => as_aux_lemma =>
          have HV1 := hcut
          go_upto_region 41 with fail
          go_cut [199] from 25 (fun v wz => v = .bool (decide (a < lo ∧ lo < md)) ∧ wz = wc)
          case first => as_aux_lemma =>
            by_cases e1 : a < lo
            · have e1' := decide_eq_true (Int.ofNat_lt.2 e1)
              by_cases e2 : lo < md
              · have e2' := decide_eq_true (Int.ofNat_lt.2 e2)
                have e3 : decide (a < lo ∧ lo < md) = true := decide_eq_true ⟨e1, e2⟩
                go_wp2_with fail
                go_meet
                case rel => exact ⟨by rw [e3], rfl⟩
              · have e2' := decide_eq_false (fun h => e2 (Int.ofNat_lt.1 h))
                have e3 : decide (a < lo ∧ lo < md) = false := decide_eq_false (fun h => e2 h.2)
                go_wp2_with fail
                go_meet
                case rel => exact ⟨by rw [e3], rfl⟩
            · have e1' := decide_eq_false (fun h => e1 (Int.ofNat_lt.1 h))
              have e3 : decide (a < lo ∧ lo < md) = false := decide_eq_false (fun h => e1 h.1)
              go_wp2_with fail
              go_meet
              case rel => exact ⟨by rw [e3], rfl⟩
          case rest => as_aux_lemma =>
            obtain ⟨rfl, rfl⟩ := hcut
            go_upto_if 199 with fail
            go_cut [] from 25 (fun wz => Aside0 (SS g c N w0 I Q wz x2))
            case first => as_aux_lemma =>
              have hx1 := HX2.out
              by_cases hc : a < lo ∧ lo < md
              · simp only [decide_eq_true hc]
                rw [if_pos hc] at hx1
                obtain ⟨d1, d2⟩ := hc
                have HY := Aside0.mk hx1
                clear hx1
                go_wp2_with (go_at_call 122; refine (IH.out a lo md x1 _ HV1.out d1 d2 HE.out.2.1 HE.out.2.2.1).mono ?_; rw [HY.out]; rintro e w1 ⟨⟨r, rfl⟩, hs1⟩; have HS1 := Aside0.mk hs1; clear hs1)
                go_meet
                case rel => exact HS1
              · simp only [decide_eq_false hc]
                rw [if_neg hc] at hx1
                have HY := Aside0.mk hx1
                clear hx1
                go_wp2_with fail
                go_meet
                case rel => exact ⟨by rw [← HY.out]; exact HV1.out⟩
            case rest => as_aux_lemma =>
              have HV2 := hcut
              go_upto_region 43 with fail
              go_cut [213] from 25 (fun v wz => v = .bool (decide (md < en ∧ en < b)) ∧ wz = wc)
              case first => as_aux_lemma =>
                by_cases e1 : md < en
                · have e1' := decide_eq_true (Int.ofNat_lt.2 e1)
                  by_cases e2 : en < b
                  · have e2' := decide_eq_true (Int.ofNat_lt.2 e2)
                    have e3 : decide (md < en ∧ en < b) = true := decide_eq_true ⟨e1, e2⟩
                    go_wp2_with fail
                    go_meet
                    case rel => exact ⟨by rw [e3], rfl⟩
                  · have e2' := decide_eq_false (fun h => e2 (Int.ofNat_lt.1 h))
                    have e3 : decide (md < en ∧ en < b) = false := decide_eq_false (fun h => e2 h.2)
                    go_wp2_with fail
                    go_meet
                    case rel => exact ⟨by rw [e3], rfl⟩
                · have e1' := decide_eq_false (fun h => e1 (Int.ofNat_lt.1 h))
                  have e3 : decide (md < en ∧ en < b) = false := decide_eq_false (fun h => e1 h.1)
                  go_wp2_with fail
                  go_meet
                  case rel => exact ⟨by rw [e3], rfl⟩
              case rest => as_aux_lemma =>
                obtain ⟨rfl, rfl⟩ := hcut
                go_upto_if 213 with fail
                have hx1 := HX3.out
                by_cases hc : md < en ∧ en < b
                · simp only [decide_eq_true hc]
                  rw [if_pos hc] at hx1
                  obtain ⟨d1, d2⟩ := hc
                  have HY := Aside0.mk hx1
                  clear hx1
                  go_wp2_with (go_at_call 122; refine (IH.out md en b x2 _ HV2.out d1 d2 hbN HE.out.2.2.2.1).mono ?_; rintro e w1 ⟨⟨r, rfl⟩, hs1⟩; have HS1 := Aside0.mk hs1; clear hs1)
                  refine ⟨rfl, .tuple #[], ?_, ⟨_, rfl⟩, ?_⟩
                  · simp [results, Try.results122, go_sem]
                  · rw [HY.out]; exact HS1.out
                · simp only [decide_eq_false hc]
                  rw [if_neg hc] at hx1
                  have HY := Aside0.mk hx1
                  clear hx1
                  go_wp2_with fail
                  refine ⟨rfl, .tuple #[], ?_, ⟨_, rfl⟩, ?_⟩
                  · simp [results, Try.results122, go_sem]
                  · rw [HY.out]; exact HV2.out
end Go.Proofs.Ytokijibpdnepiaa.X
end
section
namespace Go.Proofs.Ytokijibpdnepiaa.X
open Go.RowKit Go.Proofs.YtokijibpdnepiaaW.PrintWords Go.Proofs.YtokijibpdnepiaaW.PrintLast Go.Proofs.YtokijibpdnepiaaW.PrintMore
attribute [local go_sem] max2_int min2_int max_two min_two max_three min_three max_four min_four
set_option linter.unusedVariables false
set_option linter.unusedSimpArgs false
theorem sym_calls (g c N : Nat) (w0 : World) (I : World → Prop) (Q : Int → Prop) (lt : Int → Int → Bool) (caps : Array Value) (hI : Stays g I) (hC : Cmp caps I Q lt) (hN2 : N ≤ 4611686018427387903) : ∀ f : Nat, SymIH g c N w0 I Q lt caps f := by
  intro f
  induction f with
  | zero => intro a m b xs0 w h h1 h2 h3 h4; omega
  | succ f ih =>
    intro a m b xs0 w h ham hmb hbN hf
    by_cases c1 : m - a = 1
    · exact sym_one g c N w0 I Q lt caps hI hC hN2 f a m b xs0 w h ham hmb hbN hf c1
    · by_cases c2 : b - m = 1
      · exact sym_last g c N w0 I Q lt caps hI hC hN2 f a m b xs0 w h ham hmb hbN hf c1 c2
      · by_cases cm : (a + b) / 2 < m
        · exact sym_hi g c N w0 I Q lt caps hI hC hN2 f ih a m b xs0 w h ham hmb hbN hf c1 c2 cm
        · exact sym_lo g c N w0 I Q lt caps hI hC hN2 f ih a m b xs0 w h ham hmb hbN hf c1 c2 cm
end Go.Proofs.Ytokijibpdnepiaa.X
end
section
namespace Go.Proofs.Ytokijibpdnepiaa.X
open Go.RowKit Go.Proofs.YtokijibpdnepiaaW.PrintWords Go.Proofs.YtokijibpdnepiaaW.PrintLast Go.Proofs.YtokijibpdnepiaaW.PrintMore
attribute [local go_sem] max2_int min2_int max_two min_two max_three min_three max_four min_four
set_option linter.unusedVariables false
set_option linter.unusedSimpArgs false
theorem blk_step {z : Int} {lt : Int → Int → Bool} {bz n d a : Nat} {xs : List Int} (h : a + bz ≤ n) : Srt.blkF z lt bz n (d + 1) a xs = Srt.blkF z lt bz n d (a + bz) (Srt.insF z lt a (a + bz) xs) := by rw [Srt.blkF, if_pos h]
theorem blk_end {z : Int} {lt : Int → Int → Bool} {bz n a : Nat} {xs : List Int} (d : Nat) (h : ¬ a + bz ≤ n) : Srt.blkF z lt bz n d a xs = Srt.insF z lt a n xs := by
  cases d with
  | zero => rfl
  | succ d => rw [Srt.blkF, if_neg h]
theorem mrg_step {z : Int} {lt : Int → Int → Bool} {bz n d a : Nat} {xs : List Int} (h : a + 2 * bz ≤ n) : Srt.mrgF z lt bz n (d + 1) a xs = Srt.mrgF z lt bz n d (a + 2 * bz) (Srt.symF z lt (2 * bz) a (a + bz) (a + 2 * bz) xs) := by rw [Srt.mrgF, if_pos h]
theorem mrg_end {z : Int} {lt : Int → Int → Bool} {bz n a : Nat} {xs : List Int} (d : Nat) (h : ¬ a + 2 * bz ≤ n) (hd : n ≤ a + d) : Srt.mrgF z lt bz n d a xs = if a + bz < n then Srt.symF z lt (n - a) a (a + bz) n xs else xs := by
  cases d with
  | zero => rw [if_neg (by omega)]; rfl
  | succ d => rw [Srt.mrgF, if_neg h]
theorem rnd_step {z : Int} {lt : Int → Int → Bool} {bz n d : Nat} {xs : List Int} (h : bz < n) : Srt.rndF z lt n (d + 1) bz xs = Srt.rndF z lt n d (bz * 2) (Srt.mrgF z lt bz n n 0 xs) := by rw [Srt.rndF, if_pos h]
theorem rnd_end {z : Int} {lt : Int → Int → Bool} {bz n : Nat} {xs : List Int} (d : Nat) (h : ¬ bz < n) : Srt.rndF z lt n d bz xs = xs := by
  cases d with
  | zero => rfl
  | succ d => rw [Srt.rndF, if_neg h]
set_option maxHeartbeats 4000000 in
set_option maxRecDepth 100000 in
theorem stab_calls (g c N : Nat) (w0 : World) (I : World → Prop) (Q : Int → Prop) (lt : Int → Int → Bool) (caps : Array Value) (hI : Stays g I) (hC : Cmp caps I Q lt) (hN2 : N ≤ 4611686018427387903) (xs0 : List Int) (w : World) (h : SS g c N w0 I Q w xs0) :
    Calls Try.prog 103 #[.slice (some ⟨g, 0, none⟩) N c, .int .i64 (N : Int), .func (.func 72) #[] caps] w fun e w' => (∃ r, e = .returned r) ∧ SS g c N w0 I Q w' (Srt.stabF (0 : Int) lt xs0) := by
  obtain ⟨X, hX⟩ : ∃ X, Srt.stabF (0 : Int) lt xs0 = X := ⟨_, rfl⟩
  rw [hX]
  unfold Srt.stabF at hX
  rw [h.len] at hX
  obtain ⟨Y, hY⟩ : ∃ Y, Srt.blkF (0 : Int) lt 20 N N 0 xs0 = Y := ⟨_, rfl⟩
  rw [hY] at hX
  have HRX := Aside0.mk hX
  have HBY := Aside0.mk hY
  have HS := Aside0.mk h
  have HC := Aside0.mk hC
  clear h hC hX hY
  go_enter Try.func103, Try.ntmps103
  go_wp2_with fail
  go_loopg [7, 8] N (fun kq v7 v8 wr => ∃ (A B : Nat) (xs : List Int), v7 = .int .i64 (A : Int) ∧ v8 = .int .i64 (B : Int) ∧ Aside0 (A ≤ N ∧ B = A + 20 ∧ N ≤ A + kq) ∧ Aside0 (Srt.blkF (0 : Int) lt 20 N kq A xs = Y) ∧ Aside0 (SS g c N w0 I Q wr xs))
  case atStart => exact ⟨0, 20, xs0, rfl, rfl, ⟨by omega, by omega, by omega⟩, HBY, HS⟩
  case round => as_aux_lemma =>
    obtain ⟨A, B, xs, rfl, rfl, HK, HF, HW⟩ := hrel
    obtain ⟨k1, k2, k3⟩ := HK.out
    have HAB := Aside0.mk k2
    by_cases hB : B ≤ N
    · obtain ⟨k', rfl⟩ : ∃ k', gk = k' + 1 := ⟨gk - 1, by omega⟩
      have hg := HF.out
      rw [blk_step (show A + 20 ≤ N by omega), ← k2] at hg
      have HG := Aside0.mk hg
      have hAB : A ≤ B := by omega
      clear hg k2
      go_wp2_with (go_at_call 121; refine (ins_calls g c N w0 I Q lt caps A B xs _ hI HC.out HW.out hAB hB hN2).mono ?_; rintro e w1 ⟨⟨r, rfl⟩, hs1⟩; have HS1 := Aside0.mk hs1; clear hs1)
      go_roundg k'
      case measure => omega
      case rel => exact ⟨B, B + 20, _, rfl, by go_num, ⟨hB, rfl, by have := HAB.out; omega⟩, HG, HS1⟩
    · have hg := HF.out
      rw [blk_end gk (show ¬ A + 20 ≤ N by omega)] at hg
      have HG := Aside0.mk hg
      clear hg k2
      go_wp2_with (go_at_call 121; refine (ins_calls g c N w0 I Q lt caps A N xs _ hI HC.out HW.out k1 (Nat.le_refl _) hN2).mono ?_; rw [HG.out]; rintro e w1 ⟨⟨r, rfl⟩, hs1⟩; have HS1 := Aside0.mk hs1; clear hs1)
      go_loopg [6] N (fun kq v6 wr => ∃ (bz : Nat) (xs : List Int), v6 = .int .i64 (bz : Int) ∧ Aside0 (20 ≤ bz ∧ N ≤ bz + kq) ∧ Aside0 (Srt.rndF (0 : Int) lt N kq bz xs = X) ∧ Aside0 (SS g c N w0 I Q wr xs))
      case atStart => exact ⟨20, Y, rfl, ⟨by omega, by omega⟩, HRX, HS1⟩
      case round => as_aux_lemma =>
        obtain ⟨bz, ys, rfl, HK2, HF2, HW2⟩ := hrel
        obtain ⟨j1, j2⟩ := HK2.out
        by_cases hbz : bz < N
        · obtain ⟨k', rfl⟩ : ∃ k', gk = k' + 1 := ⟨gk - 1, by omega⟩
          obtain ⟨Z, hZ⟩ : ∃ Z, Srt.mrgF (0 : Int) lt bz N N 0 ys = Z := ⟨_, rfl⟩
          have hg := HF2.out
          rw [rnd_step hbz, hZ] at hg
          have HG2 := Aside0.mk hg
          have HZ := Aside0.mk hZ
          obtain ⟨tb, htb⟩ : ∃ tb, 2 * bz = tb := ⟨_, rfl⟩
          have htb' : (2 : Int) * (bz : Int) = (tb : Int) := by omega
          have htb2 : (bz : Int) * 2 = (tb : Int) := by omega
          have HTB := Aside0.mk (show bz * 2 = tb ∧ 2 * bz = tb ∧ tb ≤ 2 * N from ⟨by omega, htb, by omega⟩)
          clear hg hZ htb
          go_wp2_with fail
          go_loopg [7, 8] N (fun kq v7 v8 wr => ∃ (A B : Nat) (xs : List Int), v7 = .int .i64 (A : Int) ∧ v8 = .int .i64 (B : Int) ∧ Aside0 (A ≤ N ∧ B = A + tb ∧ N ≤ A + kq) ∧ Aside0 (Srt.mrgF (0 : Int) lt bz N kq A xs = Z) ∧ Aside0 (SS g c N w0 I Q wr xs))
          case atStart => exact ⟨0, tb, ys, rfl, by go_num, ⟨by omega, by omega, by omega⟩, HZ, HW2⟩
          case round => as_aux_lemma =>
            obtain ⟨A, B, xs, rfl, rfl, HK, HF, HW⟩ := hrel
            obtain ⟨k1, k2, k3⟩ := HK.out
            have HAB := Aside0.mk k2
            obtain ⟨t1, t2, t3⟩ := HTB.out
            obtain ⟨m1, hm1⟩ : ∃ m1, A + bz = m1 := ⟨_, rfl⟩
            have hm1' : (A : Int) + (bz : Int) = (m1 : Int) := by omega
            by_cases hB : B ≤ N
            · obtain ⟨k2', rfl⟩ : ∃ k2', gk = k2' + 1 := ⟨gk - 1, by omega⟩
              have hg := HF.out
              rw [mrg_step (show A + 2 * bz ≤ N by omega), t2, ← k2, hm1] at hg
              have HG := Aside0.mk hg
              have hAm : A < m1 := by omega
              have hmB : m1 < B := by omega
              have hBA : B - A ≤ tb := by omega
              have hBt : B + tb ≤ 2 * N := by omega
              clear hg k2 t1 t2 hm1
              go_wp2_with (go_at_call 122; refine (sym_calls g c N w0 I Q lt caps hI HC.out hN2 tb A m1 B xs _ HW.out hAm hmB hB hBA).mono ?_; rintro e w1 ⟨⟨r, rfl⟩, hs1⟩; have HS1 := Aside0.mk hs1; clear hs1)
              go_roundg k2'
              case measure => omega
              case rel => exact ⟨B, B + tb, _, rfl, by go_num, ⟨hB, rfl, by have := HAB.out; omega⟩, HG, HS1⟩
            · have hg := HF.out
              rw [mrg_end gk (show ¬ A + 2 * bz ≤ N by omega) k3, hm1] at hg
              have HTB2 := Aside0.mk t1
              by_cases hm2 : m1 < N
              · rw [if_pos hm2] at hg
                have HG := Aside0.mk hg
                have hAm : A < m1 := by omega
                have hm3 := decide_eq_true (Int.ofNat_lt.2 hm2)
                clear hg k2 t1 t2 hm1
                go_wp2_with (go_at_call 122; refine (sym_calls g c N w0 I Q lt caps hI HC.out hN2 (N - A) A m1 N xs _ HW.out hAm hm2 (Nat.le_refl _) (Nat.le_refl _)).mono ?_; rw [HG.out]; rintro e w1 ⟨⟨r, rfl⟩, hs1⟩; have HS1 := Aside0.mk hs1; clear hs1)
                go_roundg k'
                case measure => omega
                case rel => exact ⟨tb, Z, by go_num, ⟨by have := HTB2.out; omega, by have := HTB2.out; omega⟩, ⟨by rw [← HTB2.out]; exact HG2.out⟩, HS1⟩
              · rw [if_neg hm2] at hg
                have HG := Aside0.mk hg
                have hm3 := decide_eq_false (fun h => hm2 (Int.ofNat_lt.1 h))
                clear hg k2 t1 t2 hm1
                go_wp2_with fail
                go_roundg k'
                case measure => omega
                case rel => exact ⟨tb, Z, by go_num, ⟨by have := HTB2.out; omega, by have := HTB2.out; omega⟩, ⟨by rw [← HTB2.out]; exact HG2.out⟩, ⟨by rw [← HG.out]; exact HW.out⟩⟩
        · have hg := HF2.out
          rw [rnd_end gk hbz] at hg
          have HG2 := Aside0.mk hg
          clear hg
          go_wp2_with fail
          refine ⟨rfl, .tuple #[], ?_, ⟨_, rfl⟩, ?_⟩
          · simp [results, Try.results103, go_sem]
          · rw [← HG2.out]; exact HW2.out
theorem sort_calls (g c N : Nat) (w0 : World) (I : World → Prop) (Q : Int → Prop) (lt : Int → Int → Bool) (caps : Array Value) (hI : Stays g I) (hC : Cmp caps I Q lt) (hN2 : N ≤ 4611686018427387903) (xs0 : List Int) (w : World) (h : SS g c N w0 I Q w xs0) :
    Calls Try.prog 71 #[.slice (some ⟨g, 0, none⟩) N c, .func (.func 72) #[] caps] w fun e w' => (∃ r, e = .returned r) ∧ SS g c N w0 I Q w' (Srt.stabF (0 : Int) lt xs0) := by
  have HS := Aside0.mk h
  have HC := Aside0.mk hC
  clear h hC
  go_enter Try.func71, Try.ntmps71
  go_wp2_with (go_at_call 103; refine (stab_calls g c N w0 I Q lt caps hI HC.out hN2 xs0 _ HS.out).mono ?_; rintro e w1 ⟨⟨r, rfl⟩, hs1⟩; have HS1 := Aside0.mk hs1; clear hs1)
  refine ⟨rfl, .tuple #[], ?_, ⟨_, rfl⟩, HS1.out⟩
  simp [results, Try.results71, go_sem]
theorem ins_nil (fv : Value) (w : World) : Calls Try.prog 121 #[.slice none 0 0, .int .i64 0, .int .i64 0, fv] w fun e w' => (∃ r, e = .returned r) ∧ w' = w := by
  go_enter Try.func121, Try.ntmps121
  go_wp2_with fail
  go_loopg [8] 0 (fun kq v8 wr => v8 = .int .i64 1 ∧ Aside0 (wr = w))
  case atStart => exact ⟨by go_num, ⟨rfl⟩⟩
  case round =>
    obtain ⟨rfl, HE⟩ := hrel
    go_wp2_with fail
    refine ⟨rfl, .tuple #[], ?_, ⟨_, rfl⟩, HE.out⟩
    simp [results, Try.results121, go_sem]
theorem stab_nil (fv : Value) (w : World) : Calls Try.prog 103 #[.slice none 0 0, .int .i64 0, fv] w fun e w' => (∃ r, e = .returned r) ∧ w' = w := by
  go_enter Try.func103, Try.ntmps103
  go_wp2_with fail
  go_loopg [7, 8] 0 (fun kq v7 v8 wr => v7 = .int .i64 0 ∧ v8 = .int .i64 20 ∧ Aside0 (wr = w))
  case atStart => exact ⟨rfl, rfl, ⟨rfl⟩⟩
  case round =>
    obtain ⟨rfl, rfl, HE⟩ := hrel
    go_wp2_with (go_at_call 121; refine (ins_nil fv _).mono ?_; rintro e w1 ⟨⟨r, rfl⟩, hs1⟩; have HS1 := Aside0.mk (hs1.trans HE.out); clear hs1)
    go_loopg [6] 0 (fun kq v6 wr => v6 = .int .i64 20 ∧ Aside0 (wr = w))
    case atStart => exact ⟨rfl, HS1⟩
    case round =>
      obtain ⟨rfl, HE2⟩ := hrel
      go_wp2_with fail
      refine ⟨rfl, .tuple #[], ?_, ⟨_, rfl⟩, HE2.out⟩
      simp [results, Try.results103, go_sem]
theorem sort_nil (fv : Value) (w : World) : Calls Try.prog 71 #[.slice none 0 0, fv] w fun e w' => (∃ r, e = .returned r) ∧ w' = w := by
  go_enter Try.func71, Try.ntmps71
  go_wp2_with (go_at_call 103; refine (stab_nil fv _).mono ?_; rintro e w1 ⟨⟨r, rfl⟩, hs1⟩; have HS1 := Aside0.mk hs1; clear hs1)
  refine ⟨rfl, .tuple #[], ?_, ⟨_, rfl⟩, HS1.out⟩
  simp [results, Try.results71, go_sem]
end Go.Proofs.Ytokijibpdnepiaa.X
end
section
namespace Go.Proofs.Ytokijibpdnepiaa.X
open Go.RowKit Go.Proofs.YtokijibpdnepiaaW.PrintWords Go.Proofs.YtokijibpdnepiaaW.PrintLast Go.Proofs.YtokijibpdnepiaaW.PrintMore
attribute [local go_sem] max2_int min2_int max_two min_two max_three min_three max_four min_four
set_option linter.unusedVariables false
set_option linter.unusedSimpArgs false
def ordBad : List Int → Bool
  | [] => false
  | x :: l => if x < 1 then true else if 3 < x then true else ordBad l
def ordUp : Nat → List Int
  | 0 => []
  | n + 1 => ordUp n ++ [(n : Int)]
def ordKey (l : List Int) (x : Int) : Int := rd l x
def junior_Order.f (k : Nat) (names : List ByteArray) (classes : List Int) : Option (List Int × Int) :=
  if classes.length ≠ names.length then some ([], 8) else if classes.length < 17592186044416 then (if ordBad classes = true then some ([], 2) else some (Srt.stabF (0 : Int) (Srt.klt (ordKey classes)) (ordUp classes.length), 0)) else none
theorem junior_Order.mono : ∀ a b k, LeO (junior_Order.f k a b) (junior_Order.f (k + 1) a b) := fun _ _ _ => LeO.refl _
theorem ordUp_length : ∀ n, (ordUp n).length = n
  | 0 => rfl
  | n + 1 => by rw [ordUp, List.length_append, ordUp_length n]; rfl
theorem ordUp_mem : ∀ n, ∀ x ∈ ordUp n, 0 ≤ x ∧ x < (n : Int)
  | 0, x, h => by simp [ordUp] at h
  | n + 1, x, h => by
    rw [ordUp] at h
    rcases List.mem_append.1 h with h | h
    · have := ordUp_mem n x h; omega
    · have : x = (n : Int) := by simpa using h
      omega
theorem ordBad_all : ∀ l : List Int, ordBad l = false → ∀ x ∈ l, 1 ≤ x ∧ x ≤ 3
  | [], _, x, hx => by simp at hx
  | a :: l, h, x, hx => by
    rw [ordBad] at h
    by_cases c1 : a < 1
    · rw [if_pos c1] at h; simp at h
    rw [if_neg c1] at h
    by_cases c2 : 3 < a
    · rw [if_pos c2] at h; simp at h
    rw [if_neg c2] at h
    rcases List.mem_cons.1 hx with e | e
    · rw [e]; omega
    · exact ordBad_all l h x e
theorem ord_lt (a b : Int) (ha : 1 ≤ a ∧ a ≤ 3) (hb : 1 ≤ b ∧ b ≤ 3) : decide (wrap64 (a - b) < 0) = decide (a < b) := by
  have : wrap64 (a - b) = a - b := by unfold wrap64; omega
  rw [this]
  by_cases h : a < b
  · rw [decide_eq_true h, decide_eq_true (by omega)]
  · rw [decide_eq_false h, decide_eq_false (by omega)]
set_option maxHeartbeats 1600000 in
set_option maxRecDepth 100000 in
theorem ord_cmp (w1 : World) (bx : Nat) (A1 : Option Addr) (c1 : Nat) (l1 : List Int) (hbx : w1.cell? ⟨bx, 0, none⟩ = some (.slice A1 l1.length c1)) (hC : Kd.C (Kd.int .i64) w1 A1 l1.length l1) (hl : ∀ x ∈ l1, 1 ≤ x ∧ x ≤ 3) :
    Cmp #[.pointer (some ⟨bx, 0, none⟩)] (fun w => Below w1.heap.size w1 w) (fun x : Int => 0 ≤ x ∧ x < (l1.length : Int)) (Srt.klt (ordKey l1)) := by
  intro x y w hx hy hI
  obtain ⟨x0, x1⟩ := hx
  obtain ⟨y0, y1⟩ := hy
  obtain ⟨ad5, e5, hx5⟩ := Kd.at_int hC x x0 x1
  obtain ⟨ad6, e6, hx6⟩ := Kd.at_int hC y y0 y1
  obtain rfl : ad5 = ad6 := by rw [e5] at e6; exact Option.some.inj e6
  have rm : ∀ z : Int, 0 ≤ z → z < (l1.length : Int) → 1 ≤ rd l1 z ∧ rd l1 z ≤ 3 := by
    intro z z0 z1
    have hz : z.toNat < l1.length := by omega
    have : rd l1 z = l1[z.toNat] := by simp [rd, List.getD_eq_getElem?_getD, hz]
    rw [this]
    exact hl _ (List.getElem_mem hz)
  have hlt := ord_lt _ _ (rm x x0 x1) (rm y y0 y1)
  have HLT := Aside0.mk hlt
  cases e5
  have hb1 := (hI.cell (World.block_lt_of_cell? w1 _ hbx)).trans hbx
  have hb5 := (hI.cell (World.block_lt_of_cell? w1 _ hx5)).trans hx5
  have hb6 := (hI.cell (World.block_lt_of_cell? w1 _ hx6)).trans hx6
  have p0 := eq_true x0
  have p1 := eq_true x1
  have p2 := eq_true y0
  have p3 := eq_true y1
  clear hx5 hx6 hbx rm hlt hC hl hI e6 x0 x1 y0 y1
  go_enter Try.func72, Try.ntmps72
  go_wp2_with fail
  go_region
  go_wp2_with fail
  exact bodyPost_ret (v := .int .i64 (wrap64 (rd l1 x - rd l1 y))) (by simp [results, Try.results72, go_sem]) rfl ⟨_, rfl, HLT.out, below_drew1 (Below.refl _ _)⟩
theorem ord_stays (w1 : World) (g : Nat) (hg : w1.heap.size ≤ g) : Stays g (fun w => Below w1.heap.size w1 w) :=
  ⟨fun h hb => below_step h hb, fun h hg2 => Below.grown h hg2 h.size (fun j hj => by cases hj; exact hg)⟩
set_option maxHeartbeats 1600000 in
set_option maxRecDepth 100000 in
theorem junior_Order.calls (k : Nat) (A0 : Option Addr) (c0 : Nat) (l0 : List ByteArray) (A1 : Option Addr) (c1 : Nat) (l1 : List Int) (r1 : List Int) (r2 : Int) (w : World) (hr0 : Kd.C Kd.string w A0 l0.length l0) (hc0 : l0.length ≤ c0) (hr1 : Kd.C (Kd.int .i64) w A1 l1.length l1) (hc1 : l1.length ≤ c1) (h : junior_Order.f k l0 l1 = some (r1, r2)) :
    Calls Try.prog 35 #[.slice A0 l0.length c0, .slice A1 l1.length c1] w fun e w' => ∃ v0_ : Value, e = .returned (.tuple #[v0_, .int .i64 r2]) ∧ Kd.R (Kd.int .i64) 3 w' w.heap.size (fun _ => True) v0_ r1 ∧ Below w.heap.size w w' := by
  have HR1 := Aside0.mk hr1
  have hlen0 := (show l0.length ≤ 9223372036854775807 from Kd.C_max hr0)
  have hlen1 := (show l1.length ≤ 9223372036854775807 from Kd.C_max hr1)
  unfold junior_Order.f at h
  clear hr0 hr1
  by_cases hl : l1.length ≠ l0.length
  · rw [if_pos hl] at h
    obtain ⟨rfl, rfl⟩ : [] = r1 ∧ 8 = r2 := by simpa using h
    have hne : ((l1.length : Int) != (l0.length : Int)) = true := bne_iff_ne.2 (by omega)
    clear h
    go_enter Try.func35, Try.ntmps35
    go_wp2_with fail
    refine bodyPost_ret (v := .tuple #[.slice none 0 0, .int .i64 8]) (by simp [results, Try.results35, go_sem]) rfl ⟨_, rfl, Kd.R_nil _ _ _ _ _, below_alloc (Below.refl _ _) _⟩
  rw [if_neg hl] at h
  replace hl : l1.length = l0.length := Decidable.not_not.1 hl
  by_cases hn : l1.length < 17592186044416
  case neg => rw [if_neg hn] at h; cases h
  rw [if_pos hn] at h
  have hne : ((l1.length : Int) != (l0.length : Int)) = false := by simp [hl]
  have HH := Aside0.mk h
  clear hl
  obtain ⟨w1, hw1⟩ : ∃ w1, w.alloc (.cells #[.slice A1 l1.length c1] 54 (0, 0)) = w1 := ⟨_, rfl⟩
  have HB1 := Aside0.mk (show Below w.heap.size w w1 by rw [← hw1]; exact below_alloc (Below.refl _ _) _)
  have HC1 := Aside0.mk (show Kd.C (Kd.int .i64) w1 A1 l1.length l1 by rw [← hw1]; exact Kd.C_alloc HR1.out _)
  have HBX := Aside0.mk (show w1.cell? ⟨w.heap.size, 0, none⟩ = some (.slice A1 l1.length c1) by rw [← hw1]; exact blk_one (blk_new _ _))
  have HW1 := Aside0.mk hw1
  clear h HR1 hw1
  go_enter Try.func35, Try.ntmps35
  go_wp2_with fail
  rw [HW1.out]
  clear HW1
  go_loopg [4, 15] l1.length (fun kq v4 v15 wr => ∃ (i : Nat) (acc : List Int), v15 = .int .i64 (i : Int) ∧ Aside0 (kq + i = l1.length) ∧ Aside0 (ordBad (l1.drop i) = ordBad l1) ∧ Aside0 (acc = ordUp i) ∧ Aside0 (i = 0 → v4 = .slice none 0 0) ∧ Aside0 (Kd.R (Kd.int .i64) 3 wr w1.heap.size (fun _ => True) v4 acc) ∧ Aside0 (Below w1.heap.size w1 wr))
  case atStart => exact ⟨0, [], rfl, ⟨by omega⟩, ⟨rfl⟩, ⟨rfl⟩, ⟨fun _ => rfl⟩, ⟨Kd.R_nil _ _ _ _ _⟩, ⟨Below.refl _ _⟩⟩
  case round =>
    obtain ⟨i, acc, rfl, HK, HBD, HACC, HZ, HO, HB⟩ := hrel
    by_cases hi : i < l1.length
    · have hbd := HBD.out
      rw [(List.getElem_cons_drop hi).symm, ordBad] at hbd
      obtain ⟨ad6, e6, hx6⟩ := Kd.at_int HC1.out (i : Int) (by omega) (by omega)
      cases e6
      have r6 : rd l1 (i : Int) = l1[i] := by simp [rd, hi]
      rw [r6, Int.toNat_natCast] at hx6
      replace hx6 := (HB.out.cell (World.block_lt_of_cell? w1 _ hx6)).trans hx6
      generalize l1[i] = x at hx6 hbd
      have hib : (i : Int) < (l1.length : Int) := by omega
      clear r6
      by_cases d1 : x < 1
      · rw [if_pos d1] at hbd
        have hh := HH.out
        rw [if_pos hbd.symm] at hh
        obtain ⟨rfl, rfl⟩ : [] = r1 ∧ 2 = r2 := by simpa using hh
        replace d1 := decide_eq_true d1
        clear hh hbd
        go_wp2_with fail
        refine bodyPost_ret (v := .tuple #[.slice none 0 0, .int .i64 2]) (by simp [results, Try.results35, go_sem]) rfl ⟨_, rfl, Kd.R_nil _ _ _ _ _, HB1.out.trans (HB.out.mono HB1.out.size)⟩
      rw [if_neg d1] at hbd
      by_cases d2 : 3 < x
      · rw [if_pos d2] at hbd
        have hh := HH.out
        rw [if_pos hbd.symm] at hh
        obtain ⟨rfl, rfl⟩ : [] = r1 ∧ 2 = r2 := by simpa using hh
        replace d1 := decide_eq_false d1
        replace d2 := decide_eq_true d2
        clear hh hbd
        go_wp2_with fail
        refine bodyPost_ret (v := .tuple #[.slice none 0 0, .int .i64 2]) (by simp [results, Try.results35, go_sem]) rfl ⟨_, rfl, Kd.R_nil _ _ _ _ _, HB1.out.trans (HB.out.mono HB1.out.size)⟩
      rw [if_neg d2] at hbd
      replace d1 := decide_eq_false d1
      replace d2 := decide_eq_false d2
      have HBD2 := Aside0.mk hbd
      have hal : acc.length < 17592186044416 := by rw [HACC.out, ordUp_length]; omega
      have HAL := Aside0.mk hal
      clear hal hbd
      go_wp2_with (first | ((with_reducible refine gate_builtin (b := .append) (xs := #[.tmp 26, .tmp 28]) rfl ?_); at_builtin; refine Kd.R_append (Kd.int .i64) (w0 := w1) w1.heap.size rfl (.tmp 26) (.tmp 28) 54 3 (.int .i64 0) 8 rfl Try.underlying54 info3 rfl (by decide) (by omega) u4 acc (i : Int) [.int .i64 (i : Int)] (fun _ => True) (fun _ => False) rfl rfl ?aP (fun _ hk => hk.elim) ?aF ?aO ?aB ?aS ?aL ?_; (case aP => exact rfl); (case aB => exact (by repeat (first | (with_reducible first | exact HB.out | apply below_alloc | apply pw_below_drewN | apply below_drew1) | exact HB.out))); (case aF => exact (fun _ _ => trivial)); (case aO => exact (by (with_reducible repeat (first | apply Kd.R_alloc | apply Kd.R_drewN | apply Kd.R_drew)); exact HO.out)); (case aS => exact (below_size (by repeat (first | (with_reducible first | exact HB.out | apply below_alloc | apply pw_below_drewN | apply below_drew1) | exact HB.out)))); (case aL => have := HAL.out; omega); intro v105 w13 ho hb hg hat; have HB2 := Aside0.mk hb; have HO2 := Aside0.mk ho; clear ho hb hg hat))
      go_roundg (gk - 1)
      case measure => have := HK.out; omega
      case rel => exact ⟨i + 1, _, by go_num, ⟨by have := HK.out; omega⟩, HBD2, ⟨by rw [HACC.out, ordUp]⟩, ⟨fun h => by omega⟩, HO2, HB2⟩
    · have hi2 : i = l1.length := by have := HK.out; omega
      have hbd := HBD.out
      rw [List.drop_of_length_le (by omega), ordBad] at hbd
      have hh := HH.out
      rw [if_neg (by rw [← hbd]; decide)] at hh
      obtain ⟨hr, rfl⟩ : Srt.stabF (0 : Int) (Srt.klt (ordKey l1)) (ordUp l1.length) = r1 ∧ 0 = r2 := by simpa using hh
      have hacc := HACC.out
      rw [hi2] at hacc
      subst hi2
      subst hacc
      have HALL := Aside0.mk (ordBad_all l1 hbd.symm)
      have HR := Aside0.mk hr
      clear hh hr hbd
      by_cases hz : l1.length = 0
      · have hv := HZ.out hz
        subst hv
        have hr2 := HR.out
        have e0 : Srt.stabF (0 : Int) (Srt.klt (ordKey l1)) (ordUp l1.length) = [] := by rw [hz]; rfl
        rw [e0] at hr2
        subst hr2
        clear e0
        go_wp2_with (go_at_call 71; refine (sort_nil _ _).mono ?_; rintro e w2 ⟨⟨r, rfl⟩, rfl⟩)
        refine bodyPost_ret (v := .tuple #[.slice none 0 0, .int .i64 0]) (by simp [results, Try.results35, go_sem]) rfl ⟨_, rfl, Kd.R_nil _ _ _ _ _, HB1.out.trans (HB.out.mono HB1.out.size)⟩
      · obtain ⟨g, cap, rfl, hg1, hg2, hcs⟩ := Kd.R_form HO.out (by rw [ordUp_length]; omega)
        have hss : SS g cap l1.length w1 (fun w => Below w1.heap.size w1 w) (fun x : Int => 0 ≤ x ∧ x < (l1.length : Int)) wr (ordUp l1.length) := ⟨by have := HO.out; rwa [ordUp_length] at this, ordUp_length _, HB.out, HB.out, ordUp_mem _⟩
        have HSS := Aside0.mk hss
        have HST := Aside0.mk (ord_stays w1 g hg1)
        have HCM := Aside0.mk (ord_cmp w1 w.heap.size A1 c1 l1 HBX.out HC1.out HALL.out)
        rw [ordUp_length]
        clear hss hcs
        go_wp2_with (go_at_call 71; refine (sort_calls g cap l1.length w1 _ _ _ _ HST.out HCM.out (by omega) _ _ HSS.out).mono ?_; rw [HR.out]; rintro e w2 ⟨⟨r, rfl⟩, hs2⟩; have HS2 := Aside0.mk hs2; clear hs2)
        refine bodyPost_ret (v := .tuple #[.slice (some ⟨g, 0, none⟩) l1.length cap, .int .i64 0]) (by simp [results, Try.results35, go_sem]) rfl ⟨_, rfl, ?_, HB1.out.trans (HS2.out.below.mono HB1.out.size)⟩
        exact Kd.R_lower HS2.out.own HB1.out.size
end Go.Proofs.Ytokijibpdnepiaa.X
end
section
namespace Go.Proofs.Ytokijibpdnepiaa.X
open Go.RowKit Go.Proofs.YtokijibpdnepiaaW.PrintWords Go.Proofs.YtokijibpdnepiaaW.PrintLast Go.Proofs.YtokijibpdnepiaaW.PrintMore
attribute [local go_sem] max2_int min2_int max_two min_two max_three min_three max_four min_four
set_option linter.unusedVariables false
set_option linter.unusedSimpArgs false
def contangolaw46_goes.f (k : Nat)  : Option (Bool) := (some (([(⟨#[97, 108, 102, 97]⟩ : ByteArray), (⟨#[98, 114, 97, 118, 111]⟩ : ByteArray), (⟨#[99, 97, 114, 108]⟩ : ByteArray), (⟨#[100, 111, 114, 97]⟩ : ByteArray)] : List ByteArray) : List ByteArray)).bind fun y101 => ((some (([(⟨(⟨#[97, 108, 102, 97]⟩ : ByteArray), 5, 10, 0⟩ : S33), (⟨(⟨#[98, 114, 97, 118, 111]⟩ : ByteArray), 5, 12, 0⟩ : S33), (⟨(⟨#[99, 97, 114, 108]⟩ : ByteArray), 3, 1, 0⟩ : S33), (⟨(⟨#[100, 111, 114, 97]⟩ : ByteArray), 5, 90, 0⟩ : S33)] : List (S33)) : List (S33))).bind fun y104 => ((junior_Classes.f k y101 (([5, 5, 5, 5] : List Int)) y104 (([(⟨(⟨#[97, 108, 102, 97]⟩ : ByteArray), 5, 10⟩ : S52)] : List (S52))) 2).bind fun bt113 => ((junior_Order.f k y101 bt113.1).bind fun bt117 => ((junior_Best.f y104 (⟨#[99, 97, 114, 108]⟩ : ByteArray)).bind fun bt121 => (if bt113.2 = 0 then (if bt117.2 = 0 then ((contangoref46_Ints.f k bt113.1 (([3, 3, 1, 2] : List Int))).bind fun t126 => (if t126 = true then ((contangoref46_Ints.f k bt117.1 (([2, 3, 0, 1] : List Int))).bind fun t130 => (if t130 = true then (if bt121.1 = 1 then (some bt121.2) else (none)) else (none))) else (none))) else (none)) else (none))))))
theorem contangolaw46_goes.mono : ∀ k, LeO (contangolaw46_goes.f k ) (contangolaw46_goes.f (k + 1) ) := by
  intro  k
  unfold contangolaw46_goes.f
  repeat' first
      | (with_reducible exact contangoref46_Ints.mono _ _ _)
      | (with_reducible exact junior_Classes.mono _ _ _ _ _ _)
      | (with_reducible exact junior_Order.mono _ _ _)
      | (with_reducible exact LeO.refl _)
      | (with_reducible exact LeO.none _)
      | (with_reducible refine LeO.ite ?_ ?_)
      | (with_reducible refine LeO.bind ?_ (fun _ => ?_))
      | exact contangoref46_Ints.mono _ _ _
      | exact junior_Classes.mono _ _ _ _ _ _
      | exact junior_Order.mono _ _ _
      | exact LeO.none _
      | refine LeO.ite ?_ ?_
      | refine LeO.bind ?_ (fun _ => ?_)
set_option maxHeartbeats 8000000 in
set_option maxRecDepth 100000 in
theorem contangolaw46_goes.calls (k : Nat)  (r : Bool) (w : World) (h : contangolaw46_goes.f k  = some r) :
    Calls Try.prog 29 #[] w fun e w' => e = .returned (.bool r) ∧ Below w.heap.size w w' := by
  have hu33 := Try.underlying33
  have hu52 := Try.underlying52
  have HB := Aside0.mk (Below.refl w.heap.size w)
  have H : ((some (([(⟨#[97, 108, 102, 97]⟩ : ByteArray), (⟨#[98, 114, 97, 118, 111]⟩ : ByteArray), (⟨#[99, 97, 114, 108]⟩ : ByteArray), (⟨#[100, 111, 114, 97]⟩ : ByteArray)] : List ByteArray) : List ByteArray)).bind fun y101 => ((some (([(⟨(⟨#[97, 108, 102, 97]⟩ : ByteArray), 5, 10, 0⟩ : S33), (⟨(⟨#[98, 114, 97, 118, 111]⟩ : ByteArray), 5, 12, 0⟩ : S33), (⟨(⟨#[99, 97, 114, 108]⟩ : ByteArray), 3, 1, 0⟩ : S33), (⟨(⟨#[100, 111, 114, 97]⟩ : ByteArray), 5, 90, 0⟩ : S33)] : List (S33)) : List (S33))).bind fun y104 => ((junior_Classes.f k y101 (([5, 5, 5, 5] : List Int)) y104 (([(⟨(⟨#[97, 108, 102, 97]⟩ : ByteArray), 5, 10⟩ : S52)] : List (S52))) 2).bind fun bt113 => ((junior_Order.f k y101 bt113.1).bind fun bt117 => ((junior_Best.f y104 (⟨#[99, 97, 114, 108]⟩ : ByteArray)).bind fun bt121 => (if bt113.2 = 0 then (if bt117.2 = 0 then ((contangoref46_Ints.f k bt113.1 (([3, 3, 1, 2] : List Int))).bind fun t126 => (if t126 = true then ((contangoref46_Ints.f k bt117.1 (([2, 3, 0, 1] : List Int))).bind fun t130 => (if t130 = true then (if bt121.1 = 1 then (some bt121.2) else (none)) else (none))) else (none))) else (none)) else (none))))))) = some r := h
  clear h
  obtain ⟨y101, hy101⟩ : ∃ y_ : List ByteArray, y_ = (([(⟨#[97, 108, 102, 97]⟩ : ByteArray), (⟨#[98, 114, 97, 118, 111]⟩ : ByteArray), (⟨#[99, 97, 114, 108]⟩ : ByteArray), (⟨#[100, 111, 114, 97]⟩ : ByteArray)] : List ByteArray)) := ⟨_, rfl⟩
  replace H : ((some (([(⟨(⟨#[97, 108, 102, 97]⟩ : ByteArray), 5, 10, 0⟩ : S33), (⟨(⟨#[98, 114, 97, 118, 111]⟩ : ByteArray), 5, 12, 0⟩ : S33), (⟨(⟨#[99, 97, 114, 108]⟩ : ByteArray), 3, 1, 0⟩ : S33), (⟨(⟨#[100, 111, 114, 97]⟩ : ByteArray), 5, 90, 0⟩ : S33)] : List (S33)) : List (S33))).bind fun y104 => ((junior_Classes.f k y101 (([5, 5, 5, 5] : List Int)) y104 (([(⟨(⟨#[97, 108, 102, 97]⟩ : ByteArray), 5, 10⟩ : S52)] : List (S52))) 2).bind fun bt113 => ((junior_Order.f k y101 bt113.1).bind fun bt117 => ((junior_Best.f y104 (⟨#[99, 97, 114, 108]⟩ : ByteArray)).bind fun bt121 => (if bt113.2 = 0 then (if bt117.2 = 0 then ((contangoref46_Ints.f k bt113.1 (([3, 3, 1, 2] : List Int))).bind fun t126 => (if t126 = true then ((contangoref46_Ints.f k bt117.1 (([2, 3, 0, 1] : List Int))).bind fun t130 => (if t130 = true then (if bt121.1 = 1 then (some bt121.2) else (none)) else (none))) else (none))) else (none)) else (none)))))) = some r := by first | (rw [hy101]; with_reducible exact H) | (have H2_ := (Option.bind_some _ _).symm.trans H; rw [hy101]; with_reducible exact H2_) | (have H2_ := (Option.bind_some _ _).symm.trans H; with_reducible exact H2_) | with_reducible exact H | (rw [hy101]; exact H) | exact H
  have Ny101 := Aside0.mk hy101
  clear hy101
  obtain ⟨y104, hy104⟩ : ∃ y_ : List (S33), y_ = (([(⟨(⟨#[97, 108, 102, 97]⟩ : ByteArray), 5, 10, 0⟩ : S33), (⟨(⟨#[98, 114, 97, 118, 111]⟩ : ByteArray), 5, 12, 0⟩ : S33), (⟨(⟨#[99, 97, 114, 108]⟩ : ByteArray), 3, 1, 0⟩ : S33), (⟨(⟨#[100, 111, 114, 97]⟩ : ByteArray), 5, 90, 0⟩ : S33)] : List (S33))) := ⟨_, rfl⟩
  replace H : ((junior_Classes.f k y101 (([5, 5, 5, 5] : List Int)) y104 (([(⟨(⟨#[97, 108, 102, 97]⟩ : ByteArray), 5, 10⟩ : S52)] : List (S52))) 2).bind fun bt113 => ((junior_Order.f k y101 bt113.1).bind fun bt117 => ((junior_Best.f y104 (⟨#[99, 97, 114, 108]⟩ : ByteArray)).bind fun bt121 => (if bt113.2 = 0 then (if bt117.2 = 0 then ((contangoref46_Ints.f k bt113.1 (([3, 3, 1, 2] : List Int))).bind fun t126 => (if t126 = true then ((contangoref46_Ints.f k bt117.1 (([2, 3, 0, 1] : List Int))).bind fun t130 => (if t130 = true then (if bt121.1 = 1 then (some bt121.2) else (none)) else (none))) else (none))) else (none)) else (none))))) = some r := by first | (rw [hy104]; with_reducible exact H) | (have H2_ := (Option.bind_some _ _).symm.trans H; rw [hy104]; with_reducible exact H2_) | (have H2_ := (Option.bind_some _ _).symm.trans H; with_reducible exact H2_) | with_reducible exact H | (rw [hy104]; exact H) | exact H
  have Ny104 := Aside0.mk hy104
  clear hy104
  obtain ⟨y107, hy107⟩ : ∃ y_ : List Int, y_ = (([5, 5, 5, 5] : List Int)) := ⟨_, rfl⟩
  replace H : ((junior_Classes.f k y101 y107 y104 (([(⟨(⟨#[97, 108, 102, 97]⟩ : ByteArray), 5, 10⟩ : S52)] : List (S52))) 2).bind fun bt113 => ((junior_Order.f k y101 bt113.1).bind fun bt117 => ((junior_Best.f y104 (⟨#[99, 97, 114, 108]⟩ : ByteArray)).bind fun bt121 => (if bt113.2 = 0 then (if bt117.2 = 0 then ((contangoref46_Ints.f k bt113.1 (([3, 3, 1, 2] : List Int))).bind fun t126 => (if t126 = true then ((contangoref46_Ints.f k bt117.1 (([2, 3, 0, 1] : List Int))).bind fun t130 => (if t130 = true then (if bt121.1 = 1 then (some bt121.2) else (none)) else (none))) else (none))) else (none)) else (none))))) = some r := by first | (rw [hy107]; with_reducible exact H) | (have H2_ := (Option.bind_some _ _).symm.trans H; rw [hy107]; with_reducible exact H2_) | (have H2_ := (Option.bind_some _ _).symm.trans H; with_reducible exact H2_) | with_reducible exact H | (rw [hy107]; exact H) | exact H
  have Ny107 := Aside0.mk hy107
  clear hy107
  obtain ⟨y110, hy110⟩ : ∃ y_ : List (S52), y_ = (([(⟨(⟨#[97, 108, 102, 97]⟩ : ByteArray), 5, 10⟩ : S52)] : List (S52))) := ⟨_, rfl⟩
  replace H : ((junior_Classes.f k y101 y107 y104 y110 2).bind fun bt113 => ((junior_Order.f k y101 bt113.1).bind fun bt117 => ((junior_Best.f y104 (⟨#[99, 97, 114, 108]⟩ : ByteArray)).bind fun bt121 => (if bt113.2 = 0 then (if bt117.2 = 0 then ((contangoref46_Ints.f k bt113.1 (([3, 3, 1, 2] : List Int))).bind fun t126 => (if t126 = true then ((contangoref46_Ints.f k bt117.1 (([2, 3, 0, 1] : List Int))).bind fun t130 => (if t130 = true then (if bt121.1 = 1 then (some bt121.2) else (none)) else (none))) else (none))) else (none)) else (none))))) = some r := by first | (rw [hy110]; with_reducible exact H) | (have H2_ := (Option.bind_some _ _).symm.trans H; rw [hy110]; with_reducible exact H2_) | (have H2_ := (Option.bind_some _ _).symm.trans H; with_reducible exact H2_) | with_reducible exact H | (rw [hy110]; exact H) | exact H
  have Ny110 := Aside0.mk hy110
  clear hy110
  replace H := Option.bind_eq_some_iff.mp H
  obtain ⟨⟨t113, t114⟩, A10, H⟩ := H
  replace H : ((junior_Order.f k y101 t113).bind fun bt117 => ((junior_Best.f y104 (⟨#[99, 97, 114, 108]⟩ : ByteArray)).bind fun bt121 => (if t114 = 0 then (if bt117.2 = 0 then ((contangoref46_Ints.f k t113 (([3, 3, 1, 2] : List Int))).bind fun t126 => (if t126 = true then ((contangoref46_Ints.f k bt117.1 (([2, 3, 0, 1] : List Int))).bind fun t130 => (if t130 = true then (if bt121.1 = 1 then (some bt121.2) else (none)) else (none))) else (none))) else (none)) else (none)))) = some r := H
  have A1 := Aside0.mk A10
  clear A10
  replace H := Option.bind_eq_some_iff.mp H
  obtain ⟨⟨t117, t118⟩, A20, H⟩ := H
  replace H : ((junior_Best.f y104 (⟨#[99, 97, 114, 108]⟩ : ByteArray)).bind fun bt121 => (if t114 = 0 then (if t118 = 0 then ((contangoref46_Ints.f k t113 (([3, 3, 1, 2] : List Int))).bind fun t126 => (if t126 = true then ((contangoref46_Ints.f k t117 (([2, 3, 0, 1] : List Int))).bind fun t130 => (if t130 = true then (if bt121.1 = 1 then (some bt121.2) else (none)) else (none))) else (none))) else (none)) else (none))) = some r := H
  have A2 := Aside0.mk A20
  clear A20
  replace H := Option.bind_eq_some_iff.mp H
  obtain ⟨⟨t121, t122⟩, A30, H⟩ := H
  replace H : (if t114 = 0 then (if t118 = 0 then ((contangoref46_Ints.f k t113 (([3, 3, 1, 2] : List Int))).bind fun t126 => (if t126 = true then ((contangoref46_Ints.f k t117 (([2, 3, 0, 1] : List Int))).bind fun t130 => (if t130 = true then (if t121 = 1 then (some t122) else (none)) else (none))) else (none))) else (none)) else (none)) = some r := H
  have A3 := Aside0.mk A30
  clear A30
  by_cases c4 : t114 = 0
  · rw [if_pos c4] at H
    have c4b0 : (t114 == 0) = true := beq_iff_eq.mpr c4
    have c4b1 : (t114 != 0) = false := bne_eq_false_iff_eq.mpr c4
    clear c4
    by_cases c5 : t118 = 0
    · rw [if_pos c5] at H
      have c5b0 : (t118 == 0) = true := beq_iff_eq.mpr c5
      have c5b1 : (t118 != 0) = false := bne_eq_false_iff_eq.mpr c5
      clear c5
      obtain ⟨y123, hy123⟩ : ∃ y_ : List Int, y_ = (([3, 3, 1, 2] : List Int)) := ⟨_, rfl⟩
      replace H : ((contangoref46_Ints.f k t113 y123).bind fun t126 => (if t126 = true then ((contangoref46_Ints.f k t117 (([2, 3, 0, 1] : List Int))).bind fun t130 => (if t130 = true then (if t121 = 1 then (some t122) else (none)) else (none))) else (none))) = some r := by first | (rw [hy123]; with_reducible exact H) | (have H2_ := (Option.bind_some _ _).symm.trans H; rw [hy123]; with_reducible exact H2_) | (have H2_ := (Option.bind_some _ _).symm.trans H; with_reducible exact H2_) | with_reducible exact H | (rw [hy123]; exact H) | exact H
      have Ny123 := Aside0.mk hy123
      clear hy123
      replace H := Option.bind_eq_some_iff.mp H
      obtain ⟨t126, A60, H⟩ := H
      replace H : (if t126 = true then ((contangoref46_Ints.f k t117 (([2, 3, 0, 1] : List Int))).bind fun t130 => (if t130 = true then (if t121 = 1 then (some t122) else (none)) else (none))) else (none)) = some r := H
      have A6 := Aside0.mk A60
      clear A60
      by_cases c7 : t126 = true
      · subst c7
        have H1 : ((contangoref46_Ints.f k t117 (([2, 3, 0, 1] : List Int))).bind fun t130 => (if t130 = true then (if t121 = 1 then (some t122) else (none)) else (none))) = some r := by rw [if_pos rfl] at H; exact H
        clear H
        have H := H1
        clear H1
        obtain ⟨y127, hy127⟩ : ∃ y_ : List Int, y_ = (([2, 3, 0, 1] : List Int)) := ⟨_, rfl⟩
        replace H : ((contangoref46_Ints.f k t117 y127).bind fun t130 => (if t130 = true then (if t121 = 1 then (some t122) else (none)) else (none))) = some r := by first | (rw [hy127]; with_reducible exact H) | (have H2_ := (Option.bind_some _ _).symm.trans H; rw [hy127]; with_reducible exact H2_) | (have H2_ := (Option.bind_some _ _).symm.trans H; with_reducible exact H2_) | with_reducible exact H | (rw [hy127]; exact H) | exact H
        have Ny127 := Aside0.mk hy127
        clear hy127
        replace H := Option.bind_eq_some_iff.mp H
        obtain ⟨t130, A80, H⟩ := H
        replace H : (if t130 = true then (if t121 = 1 then (some t122) else (none)) else (none)) = some r := H
        have A8 := Aside0.mk A80
        clear A80
        by_cases c9 : t130 = true
        · subst c9
          have H1 : (if t121 = 1 then (some t122) else (none)) = some r := by rw [if_pos rfl] at H; exact H
          clear H
          have H := H1
          clear H1
          by_cases c10 : t121 = 1
          · rw [if_pos c10] at H
            have c10b0 : (t121 == 1) = true := beq_iff_eq.mpr c10
            have c10b1 : (t121 != 1) = false := bne_eq_false_iff_eq.mpr c10
            clear c10
            obtain rfl := Option.some.inj H
            go_enter Try.func29, Try.ntmps29
            go_wp2_with (first | ((with_reducible refine gate_dst (N := 9) rfl ?_); (try (refine gate_guard (by rfl) ?_; dsimp only)); refine Kd.R_lit Kd.string _ 9 ?hg (N := 9) ?hd (xs := ([(⟨#[97, 108, 102, 97]⟩ : ByteArray), (⟨#[98, 114, 97, 118, 111]⟩ : ByteArray), (⟨#[99, 97, 114, 108]⟩ : ByteArray), (⟨#[100, 111, 114, 97]⟩ : ByteArray)] : List ByteArray)) (inner := [.string (⟨#[97, 108, 102, 97]⟩ : ByteArray), .string (⟨#[98, 114, 97, 118, 111]⟩ : ByteArray), .string (⟨#[99, 97, 114, 108]⟩ : ByteArray), .string (⟨#[100, 111, 114, 97]⟩ : ByteArray)]) (ok := fun _ => True) (okp := fun _ => True) ?hr ?hp (fun _ hk => hk) trivial (Below.refl _ _) (Nat.le_refl _) (by simp) ?_; (case hd => rfl); (case hg => rfl); (case hr => first | (go_simp; done) | (go_simp; rfl)); (case hp => exact (Reps.one (show Kd.M Kd.string _ _ _ (⟨#[97, 108, 102, 97]⟩ : ByteArray) [.string (⟨#[97, 108, 102, 97]⟩ : ByteArray)] from rfl) (Reps.one (show Kd.M Kd.string _ _ _ (⟨#[98, 114, 97, 118, 111]⟩ : ByteArray) [.string (⟨#[98, 114, 97, 118, 111]⟩ : ByteArray)] from rfl) (Reps.one (show Kd.M Kd.string _ _ _ (⟨#[99, 97, 114, 108]⟩ : ByteArray) [.string (⟨#[99, 97, 114, 108]⟩ : ByteArray)] from rfl) (Reps.one (show Kd.M Kd.string _ _ _ (⟨#[100, 111, 114, 97]⟩ : ByteArray) [.string (⟨#[100, 111, 114, 97]⟩ : ByteArray)] from rfl) (Reps.none _ _)))))); intro v102 w11 ho12 hb hg_ hnew_; clear hg_ hnew_; (first | rw [← Ny101.out] at ho12 | (simp only [Int.reduceToNat] at ho12; rw [← Ny101.out] at ho12)); have n0_ := Aside0.mk (Kd.R_lower ho12 (below_size (by repeat (first | (with_reducible first | exact HB.out | apply below_alloc | apply pw_below_drewN | apply below_drew1) | exact HB.out)))); have n1_ := Aside0.mk (below_step (by repeat (first | (with_reducible first | exact HB.out | apply below_alloc | apply pw_below_drewN | apply below_drew1) | exact HB.out)) hb); clear HB; have HO103 := n0_; have HB := n1_; clear n0_ n1_; clear hb ho12) | ((with_reducible refine gate_dst (N := 14) rfl ?_); (try (refine gate_guard (by rfl) ?_; dsimp only)); refine Kd.R_lit k33 _ 33 ?hg (N := 14) ?hd (xs := ([(⟨(⟨#[97, 108, 102, 97]⟩ : ByteArray), 5, 10, 0⟩ : S33), (⟨(⟨#[98, 114, 97, 118, 111]⟩ : ByteArray), 5, 12, 0⟩ : S33), (⟨(⟨#[99, 97, 114, 108]⟩ : ByteArray), 3, 1, 0⟩ : S33), (⟨(⟨#[100, 111, 114, 97]⟩ : ByteArray), 5, 90, 0⟩ : S33)] : List (S33))) (inner := [.string (⟨#[97, 108, 102, 97]⟩ : ByteArray), .int .i64 5, .int .i64 10, .int .i64 0, .string (⟨#[98, 114, 97, 118, 111]⟩ : ByteArray), .int .i64 5, .int .i64 12, .int .i64 0, .string (⟨#[99, 97, 114, 108]⟩ : ByteArray), .int .i64 3, .int .i64 1, .int .i64 0, .string (⟨#[100, 111, 114, 97]⟩ : ByteArray), .int .i64 5, .int .i64 90, .int .i64 0]) (ok := fun _ => True) (okp := fun _ => True) ?hr ?hp (fun _ hk => hk) trivial (Below.refl _ _) (Nat.le_refl _) (by simp) ?_; (case hd => rfl); (case hg => rfl); (case hr => first | (go_simp; done) | (go_simp; rfl)); (case hp => exact (Reps.c4 (show Kd.M k33 _ _ _ (⟨(⟨#[97, 108, 102, 97]⟩ : ByteArray), 5, 10, 0⟩ : S33) [.string (⟨#[97, 108, 102, 97]⟩ : ByteArray), .int .i64 5, .int .i64 10, .int .i64 0] from (k33_mkM _ _ _ (⟨(⟨#[97, 108, 102, 97]⟩ : ByteArray), 5, 10, 0⟩ : S33) )) (Reps.c4 (show Kd.M k33 _ _ _ (⟨(⟨#[98, 114, 97, 118, 111]⟩ : ByteArray), 5, 12, 0⟩ : S33) [.string (⟨#[98, 114, 97, 118, 111]⟩ : ByteArray), .int .i64 5, .int .i64 12, .int .i64 0] from (k33_mkM _ _ _ (⟨(⟨#[98, 114, 97, 118, 111]⟩ : ByteArray), 5, 12, 0⟩ : S33) )) (Reps.c4 (show Kd.M k33 _ _ _ (⟨(⟨#[99, 97, 114, 108]⟩ : ByteArray), 3, 1, 0⟩ : S33) [.string (⟨#[99, 97, 114, 108]⟩ : ByteArray), .int .i64 3, .int .i64 1, .int .i64 0] from (k33_mkM _ _ _ (⟨(⟨#[99, 97, 114, 108]⟩ : ByteArray), 3, 1, 0⟩ : S33) )) (Reps.c4 (show Kd.M k33 _ _ _ (⟨(⟨#[100, 111, 114, 97]⟩ : ByteArray), 5, 90, 0⟩ : S33) [.string (⟨#[100, 111, 114, 97]⟩ : ByteArray), .int .i64 5, .int .i64 90, .int .i64 0] from (k33_mkM _ _ _ (⟨(⟨#[100, 111, 114, 97]⟩ : ByteArray), 5, 90, 0⟩ : S33) )) (Reps.none _ _)))))); intro v105 w13 ho14 hb hg_ hnew_; clear hg_ hnew_; (first | rw [← Ny104.out] at ho14 | (simp only [Int.reduceToNat] at ho14; rw [← Ny104.out] at ho14)); have n0_ := Aside0.mk (Kd.R_below (by (with_reducible repeat (first | apply Kd.R_alloc | apply Kd.R_drewN | apply Kd.R_drew)); exact HO103.out) hb); have n1_ := Aside0.mk (Kd.R_lower ho14 (below_size (by repeat (first | (with_reducible first | exact HB.out | apply below_alloc | apply pw_below_drewN | apply below_drew1) | exact HB.out)))); have n2_ := Aside0.mk (below_step (by repeat (first | (with_reducible first | exact HB.out | apply below_alloc | apply pw_below_drewN | apply below_drew1) | exact HB.out)) hb); clear HO103; clear HB; have HO103 := n0_; have HO106 := n1_; have HB := n2_; clear n0_ n1_ n2_; clear hb ho14) | ((with_reducible refine gate_dst (N := 17) rfl ?_); (try (refine gate_guard (by rfl) ?_; dsimp only)); refine Kd.R_lit (Kd.int .i64) _ 3 ?hg (N := 17) ?hd (xs := ([5, 5, 5, 5] : List Int)) (inner := [.int .i64 5, .int .i64 5, .int .i64 5, .int .i64 5]) (ok := fun _ => True) (okp := fun _ => True) ?hr ?hp (fun _ hk => hk) trivial (Below.refl _ _) (Nat.le_refl _) (by simp) ?_; (case hd => rfl); (case hg => rfl); (case hr => first | (go_simp; done) | (go_simp; rfl)); (case hp => exact (Reps.one (show Kd.M (Kd.int .i64) _ _ _ 5 [.int .i64 5] from rfl) (Reps.one (show Kd.M (Kd.int .i64) _ _ _ 5 [.int .i64 5] from rfl) (Reps.one (show Kd.M (Kd.int .i64) _ _ _ 5 [.int .i64 5] from rfl) (Reps.one (show Kd.M (Kd.int .i64) _ _ _ 5 [.int .i64 5] from rfl) (Reps.none _ _)))))); intro v108 w15 ho16 hb hg_ hnew_; clear hg_ hnew_; (first | rw [← Ny107.out] at ho16 | (simp only [Int.reduceToNat] at ho16; rw [← Ny107.out] at ho16)); have n0_ := Aside0.mk (Kd.R_below (by (with_reducible repeat (first | apply Kd.R_alloc | apply Kd.R_drewN | apply Kd.R_drew)); exact HO103.out) hb); have n1_ := Aside0.mk (Kd.R_below (by (with_reducible repeat (first | apply Kd.R_alloc | apply Kd.R_drewN | apply Kd.R_drew)); exact HO106.out) hb); have n2_ := Aside0.mk (Kd.R_lower ho16 (below_size (by repeat (first | (with_reducible first | exact HB.out | apply below_alloc | apply pw_below_drewN | apply below_drew1) | exact HB.out)))); have n3_ := Aside0.mk (below_step (by repeat (first | (with_reducible first | exact HB.out | apply below_alloc | apply pw_below_drewN | apply below_drew1) | exact HB.out)) hb); clear HO103; clear HO106; clear HB; have HO103 := n0_; have HO106 := n1_; have HO109 := n2_; have HB := n3_; clear n0_ n1_ n2_ n3_; clear hb ho16) | ((with_reducible refine gate_dst (N := 20) rfl ?_); (try (refine gate_guard (by rfl) ?_; dsimp only)); refine Kd.R_lit k52 _ 52 ?hg (N := 20) ?hd (xs := ([(⟨(⟨#[97, 108, 102, 97]⟩ : ByteArray), 5, 10⟩ : S52)] : List (S52))) (inner := [.string (⟨#[97, 108, 102, 97]⟩ : ByteArray), .int .i64 5, .int .i64 10]) (ok := fun _ => True) (okp := fun _ => True) ?hr ?hp (fun _ hk => hk) trivial (Below.refl _ _) (Nat.le_refl _) (by simp) ?_; (case hd => rfl); (case hg => rfl); (case hr => first | (go_simp; done) | (go_simp; rfl)); (case hp => exact (Reps.c3 (show Kd.M k52 _ _ _ (⟨(⟨#[97, 108, 102, 97]⟩ : ByteArray), 5, 10⟩ : S52) [.string (⟨#[97, 108, 102, 97]⟩ : ByteArray), .int .i64 5, .int .i64 10] from (k52_mkM _ _ _ (⟨(⟨#[97, 108, 102, 97]⟩ : ByteArray), 5, 10⟩ : S52) )) (Reps.none _ _))); intro v111 w17 ho18 hb hg_ hnew_; clear hg_ hnew_; (first | rw [← Ny110.out] at ho18 | (simp only [Int.reduceToNat] at ho18; rw [← Ny110.out] at ho18)); have n0_ := Aside0.mk (Kd.R_below (by (with_reducible repeat (first | apply Kd.R_alloc | apply Kd.R_drewN | apply Kd.R_drew)); exact HO103.out) hb); have n1_ := Aside0.mk (Kd.R_below (by (with_reducible repeat (first | apply Kd.R_alloc | apply Kd.R_drewN | apply Kd.R_drew)); exact HO106.out) hb); have n2_ := Aside0.mk (Kd.R_below (by (with_reducible repeat (first | apply Kd.R_alloc | apply Kd.R_drewN | apply Kd.R_drew)); exact HO109.out) hb); have n3_ := Aside0.mk (Kd.R_lower ho18 (below_size (by repeat (first | (with_reducible first | exact HB.out | apply below_alloc | apply pw_below_drewN | apply below_drew1) | exact HB.out)))); have n4_ := Aside0.mk (below_step (by repeat (first | (with_reducible first | exact HB.out | apply below_alloc | apply pw_below_drewN | apply below_drew1) | exact HB.out)) hb); clear HO103; clear HO106; clear HO109; clear HB; have HO103 := n0_; have HO106 := n1_; have HO109 := n2_; have HO112 := n3_; have HB := n4_; clear n0_ n1_ n2_ n3_ n4_; clear hb ho18; obtain ⟨Ao19, co19, eo19⟩ := Kd.R_slice HO103.out; subst eo19; obtain ⟨Ao20, co20, eo20⟩ := Kd.R_slice HO109.out; subst eo20; obtain ⟨Ao21, co21, eo21⟩ := Kd.R_slice HO106.out; subst eo21; obtain ⟨Ao22, co22, eo22⟩ := Kd.R_slice HO112.out; subst eo22) | ((with_reducible refine gate_callee (f := 30) rfl ?_); refine goesL_ (some 21) rfl rfl Try.func30 (by kernel_rfl) rfl #[.slice Ao19 y101.length co19, .slice Ao20 y107.length co20, .slice Ao21 y104.length co21, .slice Ao22 y110.length co22, .int .i64 2] rfl (by (try simp only [List.map_toArray, List.map_cons, List.map_nil]); first | done | rfl | (simp only [List.length_drop, List.length_take]; rfl)) ?_; (with_reducible refine (junior_Classes.calls k _ _ y101 _ _ y107 _ _ y104 _ _ y110 2 t113 t114 _ ?side1 ?side2 ?side3 ?side4 ?side5 ?side6 ?side7 ?side8 A1.out).mono ?_); (case side1 => repeat (first | exact (Kd.R_reads' HO103.out).2.2 | (with_reducible refine Kd.C_alloc ?_ _) | (with_reducible refine Kd.C_drewN ?_ _) | (with_reducible refine Kd.C_drew ?_))); (case side2 => exact (Kd.R_reads' HO103.out).2.1); (case side3 => repeat (first | exact (Kd.R_reads' HO109.out).2.2 | (with_reducible refine Kd.C_alloc ?_ _) | (with_reducible refine Kd.C_drewN ?_ _) | (with_reducible refine Kd.C_drew ?_))); (case side4 => exact (Kd.R_reads' HO109.out).2.1); (case side5 => repeat (first | exact (Kd.R_reads' HO106.out).2.2 | (with_reducible refine Kd.C_alloc ?_ _) | (with_reducible refine Kd.C_drewN ?_ _) | (with_reducible refine Kd.C_drew ?_))); (case side6 => exact (Kd.R_reads' HO106.out).2.1); (case side7 => repeat (first | exact (Kd.R_reads' HO112.out).2.2 | (with_reducible refine Kd.C_alloc ?_ _) | (with_reducible refine Kd.C_drewN ?_ _) | (with_reducible refine Kd.C_drew ?_))); (case side8 => exact (Kd.R_reads' HO112.out).2.1); rintro e w23 ⟨v115, rfl, ho0, hb⟩; refine ⟨_, rfl, ?_⟩; have n0_ := Aside0.mk (Kd.R_below (by (with_reducible repeat (first | apply Kd.R_alloc | apply Kd.R_drewN | apply Kd.R_drew)); exact HO103.out) hb); have n1_ := Aside0.mk (Kd.R_below (by (with_reducible repeat (first | apply Kd.R_alloc | apply Kd.R_drewN | apply Kd.R_drew)); exact HO106.out) hb); have n2_ := Aside0.mk (Kd.R_elder' (by (with_reducible repeat (first | apply Kd.R_alloc | apply Kd.R_drewN | apply Kd.R_drew)); exact HO109.out) (Kd.R_base ho0) hb); have n3_ := Aside0.mk (Kd.R_below (by (with_reducible repeat (first | apply Kd.R_alloc | apply Kd.R_drewN | apply Kd.R_drew)); exact HO112.out) hb); have n4_ := Aside0.mk (Kd.R_lower (Kd.R_new' ho0 (Kd.R_lt (by (with_reducible repeat (first | apply Kd.R_alloc | apply Kd.R_drewN | apply Kd.R_drew)); exact HO109.out))) (below_size (by repeat (first | (with_reducible first | exact HB.out | apply below_alloc | apply pw_below_drewN | apply below_drew1) | exact HB.out)))); have n5_ := Aside0.mk (below_step (by repeat (first | (with_reducible first | exact HB.out | apply below_alloc | apply pw_below_drewN | apply below_drew1) | exact HB.out)) hb); clear HO103; clear HO106; clear HO109; clear HO112; clear HB; have HO103 := n0_; have HO106 := n1_; have HO109 := n2_; have HO112 := n3_; have HO116 := n4_; have HB := n5_; clear n0_ n1_ n2_ n3_ n4_ n5_; (try clear hb); (try clear hb2); (try clear hk); (try clear hi); (try clear ho0); obtain ⟨Ao24, co24, eo24⟩ := Kd.R_slice HO116.out; subst eo24) | ((with_reducible refine gate_callee (f := 35) rfl ?_); refine goesL_ (some 27) rfl rfl Try.func35 (by kernel_rfl) rfl #[.slice Ao19 y101.length co19, .slice Ao24 t113.length co24] rfl (by (try simp only [List.map_toArray, List.map_cons, List.map_nil]); first | done | rfl | (simp only [List.length_drop, List.length_take]; rfl)) ?_; (with_reducible refine (junior_Order.calls k _ _ y101 _ _ t113 t117 t118 _ ?side1 ?side2 ?side3 ?side4 A2.out).mono ?_); (case side1 => repeat (first | exact (Kd.R_reads' HO103.out).2.2 | (with_reducible refine Kd.C_alloc ?_ _) | (with_reducible refine Kd.C_drewN ?_ _) | (with_reducible refine Kd.C_drew ?_))); (case side2 => exact (Kd.R_reads' HO103.out).2.1); (case side3 => repeat (first | exact (Kd.R_reads' HO116.out).2.2 | (with_reducible refine Kd.C_alloc ?_ _) | (with_reducible refine Kd.C_drewN ?_ _) | (with_reducible refine Kd.C_drew ?_))); (case side4 => exact (Kd.R_reads' HO116.out).2.1); rintro e w25 ⟨v119, rfl, ho0, hb⟩; refine ⟨_, rfl, ?_⟩; have n0_ := Aside0.mk (Kd.R_below (by (with_reducible repeat (first | apply Kd.R_alloc | apply Kd.R_drewN | apply Kd.R_drew)); exact HO103.out) hb); have n1_ := Aside0.mk (Kd.R_below (by (with_reducible repeat (first | apply Kd.R_alloc | apply Kd.R_drewN | apply Kd.R_drew)); exact HO106.out) hb); have n2_ := Aside0.mk (Kd.R_elder' (by (with_reducible repeat (first | apply Kd.R_alloc | apply Kd.R_drewN | apply Kd.R_drew)); exact HO109.out) (Kd.R_base ho0) hb); have n3_ := Aside0.mk (Kd.R_below (by (with_reducible repeat (first | apply Kd.R_alloc | apply Kd.R_drewN | apply Kd.R_drew)); exact HO112.out) hb); have n4_ := Aside0.mk (Kd.R_elder' (by (with_reducible repeat (first | apply Kd.R_alloc | apply Kd.R_drewN | apply Kd.R_drew)); exact HO116.out) (Kd.R_base ho0) hb); have n5_ := Aside0.mk (Kd.R_lower (Kd.R_new' (Kd.R_new' ho0 (Kd.R_lt (by (with_reducible repeat (first | apply Kd.R_alloc | apply Kd.R_drewN | apply Kd.R_drew)); exact HO109.out))) (Kd.R_lt (by (with_reducible repeat (first | apply Kd.R_alloc | apply Kd.R_drewN | apply Kd.R_drew)); exact HO116.out))) (below_size (by repeat (first | (with_reducible first | exact HB.out | apply below_alloc | apply pw_below_drewN | apply below_drew1) | exact HB.out)))); have n6_ := Aside0.mk (below_step (by repeat (first | (with_reducible first | exact HB.out | apply below_alloc | apply pw_below_drewN | apply below_drew1) | exact HB.out)) hb); clear HO103; clear HO106; clear HO109; clear HO112; clear HO116; clear HB; have HO103 := n0_; have HO106 := n1_; have HO109 := n2_; have HO112 := n3_; have HO116 := n4_; have HO120 := n5_; have HB := n6_; clear n0_ n1_ n2_ n3_ n4_ n5_ n6_; (try clear hb); (try clear hb2); (try clear hk); (try clear hi); (try clear ho0)) | ((with_reducible refine gate_callee (f := 32) rfl ?_); refine goesL_ (some 32) rfl rfl Try.func32 (by kernel_rfl) rfl #[.slice Ao21 y104.length co21, .string (⟨#[99, 97, 114, 108]⟩ : ByteArray)] rfl (by (try simp only [List.map_toArray, List.map_cons, List.map_nil]); first | done | rfl | (simp only [List.length_drop, List.length_take]; rfl)) ?_; (with_reducible refine (junior_Best.calls _ _ y104 (⟨#[99, 97, 114, 108]⟩ : ByteArray) t121 t122 _ ?side1 ?side2 A3.out).mono ?_); (case side1 => repeat (first | exact (Kd.R_reads' HO106.out).2.2 | (with_reducible refine Kd.C_alloc ?_ _) | (with_reducible refine Kd.C_drewN ?_ _) | (with_reducible refine Kd.C_drew ?_))); (case side2 => exact (Kd.R_reads' HO106.out).2.1); rintro e w26 ⟨rfl, hb⟩; refine ⟨_, rfl, ?_⟩; have n0_ := Aside0.mk (Kd.R_below (by (with_reducible repeat (first | apply Kd.R_alloc | apply Kd.R_drewN | apply Kd.R_drew)); exact HO103.out) hb); have n1_ := Aside0.mk (Kd.R_below (by (with_reducible repeat (first | apply Kd.R_alloc | apply Kd.R_drewN | apply Kd.R_drew)); exact HO106.out) hb); have n2_ := Aside0.mk (Kd.R_below (by (with_reducible repeat (first | apply Kd.R_alloc | apply Kd.R_drewN | apply Kd.R_drew)); exact HO109.out) hb); have n3_ := Aside0.mk (Kd.R_below (by (with_reducible repeat (first | apply Kd.R_alloc | apply Kd.R_drewN | apply Kd.R_drew)); exact HO112.out) hb); have n4_ := Aside0.mk (Kd.R_below (by (with_reducible repeat (first | apply Kd.R_alloc | apply Kd.R_drewN | apply Kd.R_drew)); exact HO116.out) hb); have n5_ := Aside0.mk (Kd.R_below (by (with_reducible repeat (first | apply Kd.R_alloc | apply Kd.R_drewN | apply Kd.R_drew)); exact HO120.out) hb); have n6_ := Aside0.mk (below_step (by repeat (first | (with_reducible first | exact HB.out | apply below_alloc | apply pw_below_drewN | apply below_drew1) | exact HB.out)) hb); clear HO103; clear HO106; clear HO109; clear HO112; clear HO116; clear HO120; clear HB; have HO103 := n0_; have HO106 := n1_; have HO109 := n2_; have HO112 := n3_; have HO116 := n4_; have HO120 := n5_; have HB := n6_; clear n0_ n1_ n2_ n3_ n4_ n5_ n6_; (try clear hb); (try clear hb2); (try clear hk); (try clear hi)) | ((with_reducible refine gate_dst (N := 43) rfl ?_); (try (refine gate_guard (by rfl) ?_; dsimp only)); refine Kd.R_lit (Kd.int .i64) _ 3 ?hg (N := 43) ?hd (xs := ([3, 3, 1, 2] : List Int)) (inner := [.int .i64 3, .int .i64 3, .int .i64 1, .int .i64 2]) (ok := fun _ => True) (okp := fun _ => True) ?hr ?hp (fun _ hk => hk) trivial (Below.refl _ _) (Nat.le_refl _) (by simp) ?_; (case hd => rfl); (case hg => rfl); (case hr => first | (go_simp; done) | (go_simp; rfl)); (case hp => exact (Reps.one (show Kd.M (Kd.int .i64) _ _ _ 3 [.int .i64 3] from rfl) (Reps.one (show Kd.M (Kd.int .i64) _ _ _ 3 [.int .i64 3] from rfl) (Reps.one (show Kd.M (Kd.int .i64) _ _ _ 1 [.int .i64 1] from rfl) (Reps.one (show Kd.M (Kd.int .i64) _ _ _ 2 [.int .i64 2] from rfl) (Reps.none _ _)))))); intro v124 w27 ho28 hb hg_ hnew_; clear hg_ hnew_; (first | rw [← Ny123.out] at ho28 | (simp only [Int.reduceToNat] at ho28; rw [← Ny123.out] at ho28)); have n0_ := Aside0.mk (Kd.R_below (by (with_reducible repeat (first | apply Kd.R_alloc | apply Kd.R_drewN | apply Kd.R_drew)); exact HO103.out) hb); have n1_ := Aside0.mk (Kd.R_below (by (with_reducible repeat (first | apply Kd.R_alloc | apply Kd.R_drewN | apply Kd.R_drew)); exact HO106.out) hb); have n2_ := Aside0.mk (Kd.R_elder' (by (with_reducible repeat (first | apply Kd.R_alloc | apply Kd.R_drewN | apply Kd.R_drew)); exact HO109.out) (Kd.R_base ho28) hb); have n3_ := Aside0.mk (Kd.R_below (by (with_reducible repeat (first | apply Kd.R_alloc | apply Kd.R_drewN | apply Kd.R_drew)); exact HO112.out) hb); have n4_ := Aside0.mk (Kd.R_elder' (by (with_reducible repeat (first | apply Kd.R_alloc | apply Kd.R_drewN | apply Kd.R_drew)); exact HO116.out) (Kd.R_base ho28) hb); have n5_ := Aside0.mk (Kd.R_elder' (by (with_reducible repeat (first | apply Kd.R_alloc | apply Kd.R_drewN | apply Kd.R_drew)); exact HO120.out) (Kd.R_base ho28) hb); have n6_ := Aside0.mk (Kd.R_lower (Kd.R_new' (Kd.R_new' (Kd.R_new' ho28 (Kd.R_lt (by (with_reducible repeat (first | apply Kd.R_alloc | apply Kd.R_drewN | apply Kd.R_drew)); exact HO109.out))) (Kd.R_lt (by (with_reducible repeat (first | apply Kd.R_alloc | apply Kd.R_drewN | apply Kd.R_drew)); exact HO116.out))) (Kd.R_lt (by (with_reducible repeat (first | apply Kd.R_alloc | apply Kd.R_drewN | apply Kd.R_drew)); exact HO120.out))) (below_size (by repeat (first | (with_reducible first | exact HB.out | apply below_alloc | apply pw_below_drewN | apply below_drew1) | exact HB.out)))); have n7_ := Aside0.mk (below_step (by repeat (first | (with_reducible first | exact HB.out | apply below_alloc | apply pw_below_drewN | apply below_drew1) | exact HB.out)) hb); clear HO103; clear HO106; clear HO109; clear HO112; clear HO116; clear HO120; clear HB; have HO103 := n0_; have HO106 := n1_; have HO109 := n2_; have HO112 := n3_; have HO116 := n4_; have HO120 := n5_; have HO125 := n6_; have HB := n7_; clear n0_ n1_ n2_ n3_ n4_ n5_ n6_ n7_; clear hb ho28; obtain ⟨Ao29, co29, eo29⟩ := Kd.R_slice HO125.out; subst eo29) | (go_at_call 34; (with_reducible refine (contangoref46_Ints.calls k _ _ t113 _ _ y123 true _ ?side1 ?side2 ?side3 ?side4 A6.out).mono ?_); (case side1 => repeat (first | exact (Kd.R_reads' HO116.out).2.2 | (with_reducible refine Kd.C_alloc ?_ _) | (with_reducible refine Kd.C_drewN ?_ _) | (with_reducible refine Kd.C_drew ?_))); (case side2 => exact (Kd.R_reads' HO116.out).2.1); (case side3 => repeat (first | exact (Kd.R_reads' HO125.out).2.2 | (with_reducible refine Kd.C_alloc ?_ _) | (with_reducible refine Kd.C_drewN ?_ _) | (with_reducible refine Kd.C_drew ?_))); (case side4 => exact (Kd.R_reads' HO125.out).2.1); rintro e w' ⟨rfl, ⟨nd, rfl⟩⟩) | ((with_reducible refine gate_dst (N := 48) rfl ?_); (try (refine gate_guard (by rfl) ?_; dsimp only)); refine Kd.R_lit (Kd.int .i64) _ 3 ?hg (N := 48) ?hd (xs := ([2, 3, 0, 1] : List Int)) (inner := [.int .i64 2, .int .i64 3, .int .i64 0, .int .i64 1]) (ok := fun _ => True) (okp := fun _ => True) ?hr ?hp (fun _ hk => hk) trivial (Below.refl _ _) (Nat.le_refl _) (by simp) ?_; (case hd => rfl); (case hg => rfl); (case hr => first | (go_simp; done) | (go_simp; rfl)); (case hp => exact (Reps.one (show Kd.M (Kd.int .i64) _ _ _ 2 [.int .i64 2] from rfl) (Reps.one (show Kd.M (Kd.int .i64) _ _ _ 3 [.int .i64 3] from rfl) (Reps.one (show Kd.M (Kd.int .i64) _ _ _ 0 [.int .i64 0] from rfl) (Reps.one (show Kd.M (Kd.int .i64) _ _ _ 1 [.int .i64 1] from rfl) (Reps.none _ _)))))); intro v128 w30 ho31 hb hg_ hnew_; clear hg_ hnew_; (first | rw [← Ny127.out] at ho31 | (simp only [Int.reduceToNat] at ho31; rw [← Ny127.out] at ho31)); have n0_ := Aside0.mk (Kd.R_below (by (with_reducible repeat (first | apply Kd.R_alloc | apply Kd.R_drewN | apply Kd.R_drew)); exact HO103.out) hb); have n1_ := Aside0.mk (Kd.R_below (by (with_reducible repeat (first | apply Kd.R_alloc | apply Kd.R_drewN | apply Kd.R_drew)); exact HO106.out) hb); have n2_ := Aside0.mk (Kd.R_elder' (by (with_reducible repeat (first | apply Kd.R_alloc | apply Kd.R_drewN | apply Kd.R_drew)); exact HO109.out) (Kd.R_base ho31) hb); have n3_ := Aside0.mk (Kd.R_below (by (with_reducible repeat (first | apply Kd.R_alloc | apply Kd.R_drewN | apply Kd.R_drew)); exact HO112.out) hb); have n4_ := Aside0.mk (Kd.R_elder' (by (with_reducible repeat (first | apply Kd.R_alloc | apply Kd.R_drewN | apply Kd.R_drew)); exact HO116.out) (Kd.R_base ho31) hb); have n5_ := Aside0.mk (Kd.R_elder' (by (with_reducible repeat (first | apply Kd.R_alloc | apply Kd.R_drewN | apply Kd.R_drew)); exact HO120.out) (Kd.R_base ho31) hb); have n6_ := Aside0.mk (Kd.R_elder' (by (with_reducible repeat (first | apply Kd.R_alloc | apply Kd.R_drewN | apply Kd.R_drew)); exact HO125.out) (Kd.R_base ho31) hb); have n7_ := Aside0.mk (Kd.R_lower (Kd.R_new' (Kd.R_new' (Kd.R_new' (Kd.R_new' ho31 (Kd.R_lt (by (with_reducible repeat (first | apply Kd.R_alloc | apply Kd.R_drewN | apply Kd.R_drew)); exact HO109.out))) (Kd.R_lt (by (with_reducible repeat (first | apply Kd.R_alloc | apply Kd.R_drewN | apply Kd.R_drew)); exact HO116.out))) (Kd.R_lt (by (with_reducible repeat (first | apply Kd.R_alloc | apply Kd.R_drewN | apply Kd.R_drew)); exact HO120.out))) (Kd.R_lt (by (with_reducible repeat (first | apply Kd.R_alloc | apply Kd.R_drewN | apply Kd.R_drew)); exact HO125.out))) (below_size (by repeat (first | (with_reducible first | exact HB.out | apply below_alloc | apply pw_below_drewN | apply below_drew1) | exact HB.out)))); have n8_ := Aside0.mk (below_step (by repeat (first | (with_reducible first | exact HB.out | apply below_alloc | apply pw_below_drewN | apply below_drew1) | exact HB.out)) hb); clear HO103; clear HO106; clear HO109; clear HO112; clear HO116; clear HO120; clear HO125; clear HB; have HO103 := n0_; have HO106 := n1_; have HO109 := n2_; have HO112 := n3_; have HO116 := n4_; have HO120 := n5_; have HO125 := n6_; have HO129 := n7_; have HB := n8_; clear n0_ n1_ n2_ n3_ n4_ n5_ n6_ n7_ n8_; clear hb ho31; obtain ⟨Ao32, co32, eo32⟩ := Kd.R_slice HO120.out; subst eo32; obtain ⟨Ao33, co33, eo33⟩ := Kd.R_slice HO129.out; subst eo33) | (go_at_call 34; (with_reducible refine (contangoref46_Ints.calls k _ _ t117 _ _ y127 true _ ?side1 ?side2 ?side3 ?side4 A8.out).mono ?_); (case side1 => repeat (first | exact (Kd.R_reads' HO120.out).2.2 | (with_reducible refine Kd.C_alloc ?_ _) | (with_reducible refine Kd.C_drewN ?_ _) | (with_reducible refine Kd.C_drew ?_))); (case side2 => exact (Kd.R_reads' HO120.out).2.1); (case side3 => repeat (first | exact (Kd.R_reads' HO129.out).2.2 | (with_reducible refine Kd.C_alloc ?_ _) | (with_reducible refine Kd.C_drewN ?_ _) | (with_reducible refine Kd.C_drew ?_))); (case side4 => exact (Kd.R_reads' HO129.out).2.1); rintro e w' ⟨rfl, ⟨nd, rfl⟩⟩))
            go_ret
            exact ⟨by first | rfl | (simp [errW_none, errW_some] <;> rfl) | (simp [*, errW_none, errW_some] <;> rfl), by repeat (first | (with_reducible first | exact HB.out | apply below_alloc | apply pw_below_drewN | apply below_drew1) | exact HB.out)⟩
          · rw [if_neg c10] at H
            exact absurd H (by simp)
        · replace c9 := Bool.eq_false_iff.mpr c9
          subst c9
          have H1 : (none) = some r := by rw [if_neg (show ¬ (false = true) by decide)] at H; exact H
          clear H
          have H := H1
          clear H1
          exact absurd H (by simp)
      · replace c7 := Bool.eq_false_iff.mpr c7
        subst c7
        have H1 : (none) = some r := by rw [if_neg (show ¬ (false = true) by decide)] at H; exact H
        clear H
        have H := H1
        clear H1
        exact absurd H (by simp)
    · rw [if_neg c5] at H
      exact absurd H (by simp)
  · rw [if_neg c4] at H
    exact absurd H (by simp)
end Go.Proofs.Ytokijibpdnepiaa.X
end
