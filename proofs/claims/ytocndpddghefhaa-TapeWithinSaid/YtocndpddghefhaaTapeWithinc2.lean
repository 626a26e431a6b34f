/- For TapeWithin: contracts, and facts on lists and numbers, that it uses (part 2). -/
import Derived.ChangeArms
import Derived.Deep.Slices
import Derived.Laws.Bits64b
import Derived.Laws.BitsLemmas
import Derived.Laws.Strings
import Derived.Lib.Mul64
import Derived.SizedLaws
import Derived.Test.YtocndpddghefhaaTapeWithinc1
import Derived.WideShapes
section
namespace Go.Proofs.Ytocndpddghefhaa.Opn
open Go.ChangeShapes Go.WideShapes Go.Proofs.YtocndpddghefhaaW.PrintWords
set_option linter.unusedVariables false
set_option linter.unusedSimpArgs false
structure Opens (P : Program) (t : TypeId) {α : Type} (d : Kd α) (Ok : α → Prop) : Prop where
  sz : d.sz = P.cellsOf t
  opens : ∀ {H : Type} {enc : TypeId × Value → H} {w : World} {base : Nat} {spare : Nat → Bool} {held : Bool} {fuel : Nat} {cs : List Value} {x : DataW H × List MemPlace},
    DataW.trod enc P w base spare held fuel t cs = some x → (∀ n ∈ x.1.weights P t, n ≤ reachBytes) → ∃ v, d.K w v cs ∧ Ok v
theorem opens_int {P : Program} {t : TypeId} {k : IntKind} (ht : P.underlying t = some (.int k)) (hc : P.cellsOf t = 1) : Opens P t (Kd.int k) (fun n => (Lit.int k n).wf = true) := by
  refine ⟨hc.symm, fun h _ => ?_⟩
  obtain ⟨n, rfl, _, hw⟩ := DataW.trod_int ht h
  exact ⟨n, rfl, hw⟩
theorem weights_all {H : Type} {P : Program} {e : TypeId} : ∀ {ds : List (DataW H)} {j : Nat} {d : DataW H}, ds[j]? = some d → ∀ n ∈ d.weights P e, n ∈ DataW.weightsAll P e ds
  | d0 :: ds, 0, d, hd, n, hn => by
    simp only [List.getElem?_cons_zero, Option.some.injEq] at hd
    subst hd
    simp only [DataW.weightsAll, List.mem_append]
    exact Or.inl hn
  | d0 :: ds, j + 1, d, hd, n, hn => by
    simp only [List.getElem?_cons_succ] at hd
    simp only [DataW.weightsAll, List.mem_append]
    exact Or.inr (weights_all hd n hn)
  | [], _, _, hd, _, _ => by simp at hd
theorem list_of {α : Type} {n : Nat} {p : Nat → α → Prop} (h : ∀ i, i < n → ∃ x, p i x) : ∃ l : List α, l.length = n ∧ ∀ i x, l[i]? = some x → p i x := by
  induction n with
  | zero => exact ⟨[], rfl, fun i x hx => by simp at hx⟩
  | succ n ih =>
    obtain ⟨l, hl, hp⟩ := ih (fun i hi => h i (by omega))
    obtain ⟨x, hx⟩ := h n (by omega)
    refine ⟨l ++ [x], by simp [hl], fun i y hy => ?_⟩
    by_cases hi : i < l.length
    · rw [List.getElem?_append_left hi] at hy
      exact hp i y hy
    · rw [List.getElem?_append_right (by omega)] at hy
      have : i - l.length = 0 := by
        cases hk : i - l.length with
        | zero => rfl
        | succ m => rw [hk] at hy; simp at hy
      rw [this] at hy
      simp at hy
      subst hy
      have : i = n := by omega
      subst this
      exact hx
theorem opens_slice {P : Program} {t e : TypeId} {α : Type} {d : Kd α} {Ok : α → Prop} (h : Opens P e d Ok) (ht : P.underlying t = some (.slice e)) (hc : P.cellsOf t = 1) {B : Nat} (hB : P.bytesOf e = B) :
    Opens P t (Kd.slice e d) (fun l => l.length ≤ maxLen ∧ l.length * B ≤ 140737488351232 ∧ ∀ x ∈ l, Ok x) := by
  subst hB
  refine ⟨hc.symm, fun {H enc w base spare held fuel cs x} hx hw => ?_⟩
  rcases DataW.trod_slice ht hx with ⟨rfl, rfl⟩ | ⟨a, len, cap, elems, rest, n, _, rfl, rfl, hb, hl, hm, hlen, hel, hsp, hns⟩
  · exact ⟨[], ⟨none, 0, rfl, Nat.le_refl _, Kd.C_nil _ _⟩, by simp⟩
  simp only [DataW.weights, ht] at hw
  have hw1 : (elems.length + rest.length) * P.bytesOf e ≤ reachBytes := by
    have := hw ((elems.length + rest.length) * P.bytesOf e) (by simp)
    exact this
  have hone : ∀ i, i < len → ∃ v : α, ∃ c, w.cells? base (a.add (i * P.cellsOf e)) (P.cellsOf e) = some c ∧ d.K w v c ∧ Ok v := by
    intro i hi
    have h1 := hel i hi
    rw [List.getElem?_eq_getElem (by omega)] at h1
    obtain ⟨c, hc1, hc2⟩ := Option.bind_eq_some_iff.1 h1
    obtain ⟨v, hv, hok⟩ := h.opens hc2 (fun n hn => hw n (by
      simp only [List.mem_cons, List.mem_append]
      right; left
      refine weights_all (j := i) ?_ n hn
      rw [List.getElem?_map, List.getElem?_eq_getElem (by omega)]
      rfl))
    exact ⟨v, c, hc1, hv, hok⟩
  obtain ⟨l, hl1, hl2⟩ := list_of hone
  subst hl1
  refine ⟨l, ⟨some a, cap, rfl, hl, rfl, ?_, fun _ => ⟨a, rfl, fun j p hj => ?_⟩⟩, ?_, ?_, ?_⟩
  · unfold maxLen at hm; omega
  · obtain ⟨c, hc1, hc2, _⟩ := hl2 j p hj
    obtain ⟨_, hlen2, hcell⟩ := World.cells?_some hc1
    refine ⟨c, by rw [h.sz]; exact hlen2, hc2, fun i u hu => ?_⟩
    have hi : i < P.cellsOf e := by
      have := (List.getElem?_eq_some_iff.1 hu).1
      omega
    have := hcell i hi
    rw [hu, ← Deep.add_add, h.sz] at *
    exact this
  · exact Nat.le_trans hl hm
  · have h2 : l.length * P.bytesOf e ≤ (elems.length + rest.length) * P.bytesOf e := Nat.mul_le_mul_right _ (by omega)
    exact Nat.le_trans h2 hw1
  · intro x hx
    obtain ⟨j, hj⟩ := List.getElem?_of_mem hx
    obtain ⟨c, _, _, ho⟩ := hl2 j x hj
    exact ho
structure OpensF (P : Program) (fs : List Field) (off : Nat) {α : Type} (d : Kd α) (Ok : α → Prop) : Prop where
  opens : ∀ {H : Type} {enc : TypeId × Value → H} {w : World} {base : Nat} {spare : Nat → Bool} {held : Bool} {n : Nat} {cs : List Value} {xs : List (DataW H × List MemPlace)},
    xs.length = fs.length → (∀ (i : Nat) (f : Field), fs[i]? = some f → DataW.trod enc P w base spare held n f.type ((cs.drop f.offset).take (P.cellsOf f.type)) = xs[i]?) →
    (∀ m ∈ DataW.weightsEach P (fs.map (·.type)) (xs.map (·.1)), m ≤ reachBytes) → ∃ v, d.K w v ((cs.drop off).take d.sz) ∧ Ok v
theorem opensF_one {P : Program} {f : Field} {off : Nat} {α : Type} {d : Kd α} {Ok : α → Prop} (h : Opens P f.type d Ok) (ho : f.offset = off) : OpensF P [f] off d Ok := by
  refine ⟨fun {H enc w base spare held n cs xs} hl hx hw => ?_⟩
  match xs, hl with
  | [x], _ =>
    have h1 := hx 0 f rfl
    obtain ⟨v, hv, hok⟩ := h.opens h1 (fun n hn => hw n (by simpa [DataW.weightsEach] using hn))
    refine ⟨v, ?_, hok⟩
    rw [h.sz, ← ho]
    exact hv
theorem opensF_cons {P : Program} {f : Field} {fs : List Field} {off : Nat} {α β : Type} {d : Kd α} {d' : Kd β} {Ok : α → Prop} {Ok' : β → Prop} (h : Opens P f.type d Ok) (ho : f.offset = off) (h' : OpensF P fs (off + d.sz) d' Ok') :
    OpensF P (f :: fs) off (Kd.pair d d') (fun p => Ok p.1 ∧ Ok' p.2) := by
  refine ⟨fun {H enc w base spare held n cs xs} hl hx hw => ?_⟩
  match xs, hl with
  | x :: xs, hl =>
    have h1 := hx 0 f rfl
    obtain ⟨v, hv, hok⟩ := h.opens h1 (fun n hn => hw n (by
      simp only [List.map_cons, DataW.weightsEach, List.mem_append]; exact Or.inl hn))
    obtain ⟨v', hv', hok'⟩ := h'.opens (cs := cs) (xs := xs) (by simpa using hl) (fun i g hg => by
      have := hx (i + 1) g (by simpa using hg)
      simpa using this) (fun m hm => hw m (by simp only [List.map_cons, DataW.weightsEach, List.mem_append]; exact Or.inr hm))
    refine ⟨(v, v'), ⟨(cs.drop off).take d.sz, (cs.drop (off + d.sz)).take d'.sz, ?_, ?_, hv'⟩, hok, hok'⟩
    · show (cs.drop off).take (d.sz + d'.sz) = _
      rw [List.take_add, List.drop_drop]
    · rw [h.sz, ← ho]; exact hv
theorem opens_struct {P : Program} {t : TypeId} {fs : Array Field} {α β : Type} {d : Kd α} {Ok : α → Prop} (h : OpensF P fs.toList 0 d Ok) (ht : P.underlying t = some (.struct fs)) (hc : d.sz = P.cellsOf t) (f : β → α) (mk : α → β) (hf : ∀ a, f (mk a) = a) :
    Opens P t (Kd.iso d f) (fun b => Ok (f b)) := by
  refine ⟨hc, fun {H enc w base spare held fuel cs x} hx hw => ?_⟩
  obtain ⟨xs, n, _, rfl, hlen, hsz, hall⟩ := DataW.trod_struct ht hx
  simp only [DataW.weights, ht] at hw
  obtain ⟨v, hv, hok⟩ := h.opens (cs := cs) (xs := xs) (by simpa using hsz) (fun i f hf => hall i f (by simpa using hf)) hw
  refine ⟨mk v, ?_, by rw [hf]; exact hok⟩
  show d.K w (f (mk v)) cs
  rw [hf]
  rw [List.drop_zero, hc, ← hlen, List.take_length] at hv
  exact hv
theorem opens_imp {P : Program} {t : TypeId} {α : Type} {d : Kd α} {Ok Ok' : α → Prop} (h : Opens P t d Ok) (hi : ∀ v, Ok v → Ok' v) : Opens P t d Ok' :=
  ⟨h.sz, fun hx hw => let ⟨v, hv, ho⟩ := h.opens hx hw; ⟨v, hv, hi v ho⟩⟩
end Go.Proofs.Ytocndpddghefhaa.Opn
end
section
namespace Go.Proofs.Ytocndpddghefhaa.X
open Go.RowKit Go.Proofs.YtocndpddghefhaaW.PrintWords Go.Proofs.YtocndpddghefhaaW.PrintLast Go.Proofs.YtocndpddghefhaaW.PrintMore
attribute [local go_sem] max2_int min2_int max_two min_two max_three min_three max_four min_four
set_option linter.unusedVariables false
set_option linter.unusedSimpArgs false
def ok49 (v : S49) : Prop := (Lit.int .i64 v.f0).wf = true ∧ ((Lit.int .i64 v.f1).wf = true ∧ ((Lit.int .i64 v.f2).wf = true))
theorem opens49 : Opn.Opens Try.prog 49 k49 ok49 := by
  have hu := Try.underlying49
  refine Opn.opens_imp (Opn.opens_struct (Ok := fun (p : Int × (Int × (Int))) => (Lit.int .i64 p.1).wf = true ∧ ((Lit.int .i64 p.2.1).wf = true ∧ ((Lit.int .i64 p.2.2).wf = true))) ?hF hu (by kernel_rfl) (fun x : S49 => (x.f0, x.f1, x.f2)) (fun a => ⟨a.1, a.2.1, a.2.2⟩) (fun _ => rfl)) ?hI
  case hF =>
    refine Opn.opensF_cons (Ok := fun (p : Int) => (Lit.int .i64 p).wf = true) (Ok' := fun (p : Int × (Int)) => (Lit.int .i64 p.1).wf = true ∧ ((Lit.int .i64 p.2).wf = true)) (h := ?_) (ho := ?_) (h' := ?_)
    · exact Opn.opens_int Try.underlying3 (by kernel_rfl)
    · rfl
    · skip
      refine Opn.opensF_cons (Ok := fun (p : Int) => (Lit.int .i64 p).wf = true) (Ok' := fun (p : Int) => (Lit.int .i64 p).wf = true) (h := ?_) (ho := ?_) (h' := ?_)
      · exact Opn.opens_int Try.underlying3 (by kernel_rfl)
      · rfl
      · skip
        refine Opn.opensF_one (Ok := fun (p : Int) => (Lit.int .i64 p).wf = true) (h := ?_) (ho := ?_)
        · exact Opn.opens_int Try.underlying3 (by kernel_rfl)
        · rfl
  case hI => exact fun v h => h
end Go.Proofs.Ytocndpddghefhaa.X
end
section
namespace Go.Proofs.Ytocndpddghefhaa.P
open Go.RowKit Go.Proofs.YtocndpddghefhaaW.PrintWords Go.Proofs.YtocndpddghefhaaW.PrintMore Go.Proofs.Ytocndpddghefhaa.X
theorem Ev_succ {α : Type} {g : Nat → Option α} {r : α} (h : Ev (fun k => g (k + 1)) r) : Ev g r := Ev.step (fun _ => rfl) h
theorem Ev_id {α : Type} {g : Nat → Option α} {r : α} (h : Ev g r) : Ev (fun n => (g n).bind fun x => some x) r := Ev.bind h (Ev.now _)
theorem w_id {x : Int} (h1 : -9223372036854775808 ≤ x) (h2 : x ≤ 9223372036854775807) : wrap64 x = x := by unfold wrap64; omega
end Go.Proofs.Ytocndpddghefhaa.P
end
section
namespace Go.Proofs.Ytocndpddghefhaa.P
set_option linter.unusedVariables false
set_option linter.unusedSimpArgs false
open Go.RowKit Go.Proofs.YtocndpddghefhaaW.PrintWords Go.Proofs.YtocndpddghefhaaW.PrintMore Go.Proofs.Ytocndpddghefhaa.X
theorem uwrap (n : Int) : IntKind.u64.wrap n = n % 18446744073709551616 := by simp [IntKind.wrap, IntKind.bits, IntKind.signed]
theorem u_id {x : Int} (h1 : 0 ≤ x) (h2 : x < 18446744073709551616) : IntKind.u64.wrap x = x := by rw [uwrap]; omega
def fitsM (n : Int) : Bool := decide (-1152921504606846976 ≤ n) && decide (n ≤ 1152921504606846976)
theorem fitsM_iff (n : Int) : fitsM n = true ↔ -1152921504606846976 ≤ n ∧ n ≤ 1152921504606846976 := by simp [fitsM]
theorem fitsM_f (n : Int) : cents_Fits.f n = some (fitsM n) := by
  unfold cents_Fits.f fitsM
  by_cases h : n ≥ -1152921504606846976
  · rw [if_pos h, decide_eq_true (show -1152921504606846976 ≤ n from h), Bool.true_and]
  · rw [if_neg h, decide_eq_false (show ¬ -1152921504606846976 ≤ n from h), Bool.false_and]
def szI (n : Int) : Int := if n < 0 then -n else n
theorem szI_rng {n : Int} (h : fitsM n = true) : 0 ≤ szI n ∧ szI n ≤ 1152921504606846976 := by
  rw [fitsM_iff] at h; unfold szI; split <;> omega
theorem szI_pos {n : Int} (h : n ≠ 0) : 1 ≤ szI n := by unfold szI; split <;> omega
theorem size_f {n : Int} (h : fitsM n = true) : cents_size.f n = some (szI n) := by
  rw [fitsM_iff] at h
  unfold cents_size.f szI
  by_cases c : n < 0
  · rw [if_pos c, if_pos c, w_id (by omega) (by omega), u_id (by omega) (by omega)]
  · rw [if_neg c, if_neg c, u_id (by omega) (by omega)]
theorem maskN (a : Nat) (ha : a < 18446744073709551616) : Go.bits .and .u64 (a : Int) 4294967295 = ((a % 4294967296 : Nat) : Int) := by
  have h := bits_and_u64_nat a 4294967295 ha (by omega)
  have e : a &&& 4294967295 = a % 4294967296 := Nat.and_two_pow_sub_one_eq_mod a 32
  rw [e] at h
  exact h
theorem divN (a : Nat) : (a : Int) / 4294967296 = ((a / 4294967296 : Nat) : Int) := by omega
theorem mulN (a b : Nat) : (a : Int) * (b : Int) = ((a * b : Nat) : Int) := (Int.natCast_mul a b).symm
theorem addN (a b : Nat) : (a : Int) + (b : Int) = ((a + b : Nat) : Int) := (Int.natCast_add a b).symm
theorem wrapN (a : Nat) (ha : a < 18446744073709551616) : IntKind.u64.wrap (a : Int) = (a : Int) := by rw [uwrap]; omega
theorem wrapM (a : Nat) : IntKind.u64.wrap (a : Int) = ((a % 18446744073709551616 : Nat) : Int) := by rw [uwrap]; omega
theorem mul64_f (x y : Nat) (hx : x < 18446744073709551616) (hy : y < 18446744073709551616) : bits_Mul64.f (x : Int) (y : Int) = some (((x * y / 18446744073709551616 : Nat) : Int), ((x * y % 18446744073709551616 : Nat) : Int)) := by
  obtain ⟨bd, bt, bw, hhi⟩ := Lib.mul64_hi x y hx hy
  have ba := Lib.half_mul_le (a := x / 4294967296) (b := y / 4294967296) (by omega) (by omega)
  have bb := Lib.half_mul_le (a := x / 4294967296) (b := y % 4294967296) (by omega) (by omega)
  have bc := Lib.half_mul_le (a := x % 4294967296) (b := y / 4294967296) (by omega) (by omega)
  have ba' : x / 4294967296 * (y / 4294967296) < 18446744073709551616 := by omega
  have bb' : x / 4294967296 * (y % 4294967296) < 18446744073709551616 := by omega
  have bc' : x % 4294967296 * (y / 4294967296) < 18446744073709551616 := by omega
  have bh1 : x / 4294967296 * (y / 4294967296) + (x / 4294967296 * (y % 4294967296) + x % 4294967296 * (y % 4294967296) / 4294967296) / 4294967296 < 18446744073709551616 := by omega
  have bh : x / 4294967296 * (y / 4294967296) + (x / 4294967296 * (y % 4294967296) + x % 4294967296 * (y % 4294967296) / 4294967296) / 4294967296 + ((x / 4294967296 * (y % 4294967296) + x % 4294967296 * (y % 4294967296) / 4294967296) % 4294967296 + x % 4294967296 * (y / 4294967296)) / 4294967296 < 18446744073709551616 := by omega
  unfold bits_Mul64.f
  simp only [maskN x hx, maskN y hy, divN, mulN, addN, wrapN _ bd, wrapN _ bb', wrapN _ bt, maskN _ bt, wrapN _ bc', wrapN _ bw, wrapN _ ba', wrapN _ bh1, wrapN _ bh, wrapM (x * y)]
  rw [hhi]
def awayP (m : Int) (bl : Bool) (q r y : Int) : Bool := if m = 5 then decide (y - r < r) || (r == y - r && q % 2 == 1) else awayAll m bl
def mdQ (a b c : Int) : Int := szI a * szI b / szI c
def mdR (a b c : Int) : Int := szI a * szI b % szI c
def mdN (a b c m : Int) : Int := if 0 < mdR a b c ∧ awayP m (belowB a b c) (mdQ a b c) (mdR a b c) (szI c) = true then mdQ a b c + 1 else mdQ a b c
def mdV (a b c m : Int) : Int × Int := if 1152921504606846976 < mdN a b c m then (0, 3) else (if belowB a b c = true then -mdN a b c m else mdN a b c m, 0)
def mulDiv (a b c m : Int) : Int × Int := if fitsM a = true ∧ fitsM b = true ∧ fitsM c = true ∧ 1 ≤ m ∧ m ≤ 5 then (if c = 0 then (0, 4) else mdV a b c m) else (0, 2)
theorem mdR_rng {a b c : Int} (ha : fitsM a = true) (hb : fitsM b = true) (hc : fitsM c = true) (h0 : c ≠ 0) : 0 ≤ mdQ a b c ∧ 0 ≤ mdR a b c ∧ mdR a b c < szI c ∧ mdQ a b c ≤ szI a * szI b := by
  have ra := szI_rng ha
  have rb := szI_rng hb
  have pc := szI_pos h0
  have hp := Int.mul_nonneg ra.1 rb.1
  unfold mdQ mdR
  refine ⟨Int.ediv_nonneg hp (by omega), Int.emod_nonneg _ (by omega), Int.emod_lt_of_pos _ (by omega), ?_⟩
  exact Int.ediv_le_self _ hp
theorem div64_0 (k : Nat) {lo y : Int} (h1 : 0 ≤ lo) (h2 : lo < 18446744073709551616) (hy : 1 ≤ y) : bits_Div64.f k 0 lo y = some (lo / y, lo % y) := by
  unfold bits_Div64.f
  have e1 := Int.tdiv_eq_ediv_of_nonneg (b := y) h1
  have e2 := Int.tmod_eq_emod_of_nonneg (b := y) h1
  have b1 := Int.ediv_nonneg h1 (show 0 ≤ y by omega)
  have b2 := Int.ediv_le_self y h1
  rw [if_neg (by omega), if_neg (by omega), if_pos rfl, e1, e2, u_id (by omega) (by omega)]
theorem signed_f {q : Int} (bl : Bool) (h : 0 ≤ q) (h2 : q ≤ 2305843009213693953) : cents_signed.f q bl = some (if 1152921504606846976 < q then (0, 3) else (if bl = true then -q else q, 0)) := by
  unfold cents_signed.f
  by_cases c : q > 1152921504606846976
  · rw [if_pos c, if_pos (show 1152921504606846976 < q from c)]
  · rw [if_neg c, if_neg (show ¬ 1152921504606846976 < q from c)]
    have e : wrap64 q = q := w_id (by omega) (by omega)
    have e2 : wrap64 (-q) = -q := w_id (by omega) (by omega)
    rw [e, e2]
    cases bl <;> rfl
theorem awayB_P {m : Int} {bl : Bool} {q r y : Int} (hq : 0 ≤ q) (hr : 0 ≤ r) (hry : r < y) (hy : y ≤ 1152921504606846976) : awayB m bl q r y = awayP m bl q r y := by
  unfold awayB awayP
  have e : IntKind.u64.wrap (y - r) = y - r := u_id (by omega) (by omega)
  have e2 := Int.tmod_eq_emod_of_nonneg (b := 2) hq
  rw [e, e2]
theorem mulDiv_f (k : Nat) (a b c m : Int) (h : szI a * szI b < 18446744073709551616) : cents_MulDiv.f k a b c m = some (mulDiv a b c m) := by
  unfold cents_MulDiv.f mulDiv
  simp only [fitsM_f, Option.bind_some]
  by_cases c1 : fitsM a = true ∧ fitsM b = true ∧ fitsM c = true ∧ 1 ≤ m ∧ m ≤ 5
  · rw [if_pos c1, if_pos c1]
    obtain ⟨ha, hb, hc, hm1, hm2⟩ := c1
    by_cases c2 : c = 0
    · rw [if_pos c2, if_pos c2]
    · rw [if_neg c2, if_neg c2, size_f ha, size_f hb, size_f hc]
      simp only [Option.bind_some]
      have ra := szI_rng ha
      have rb := szI_rng hb
      have rc := szI_rng hc
      have pc := szI_pos c2
      have hR := mdR_rng ha hb hc c2
      have hp := Int.mul_nonneg ra.1 rb.1
      have e0 : bits_Mul64.f (szI a) (szI b) = some (0, szI a * szI b) := by
        obtain ⟨x, hx⟩ : ∃ x : Nat, szI a = (x : Int) := ⟨(szI a).toNat, by omega⟩
        obtain ⟨y, hy⟩ : ∃ y : Nat, szI b = (y : Int) := ⟨(szI b).toNat, by omega⟩
        rw [hx, hy] at h
        rw [hx, hy, mul64_f x y (by omega) (by omega)]
        rw [mulN] at h ⊢
        have hxy : x * y < 18446744073709551616 := by omega
        rw [Nat.div_eq_of_lt hxy, Nat.mod_eq_of_lt hxy]
        rfl
      rw [e0]
      simp only [Option.bind_some]
      rw [if_neg (by omega), div64_0 k hp h pc]
      simp only [Option.bind_some]
      show (if 1152921504606846976 < mdQ a b c then some (0, 3) else cents_signed.f (if 0 < mdR a b c ∧ awayB m (belowB a b c) (mdQ a b c) (mdR a b c) (szI c) = true then IntKind.u64.wrap (mdQ a b c + 1) else mdQ a b c) (belowB a b c)) = some (mdV a b c m)
      rw [awayB_P hR.1 hR.2.1 hR.2.2.1 rc.2]
      unfold mdV
      by_cases c3 : 1152921504606846976 < mdQ a b c
      · have : 1152921504606846976 < mdN a b c m := by unfold mdN; split <;> omega
        rw [if_pos c3, if_pos this]
      · rw [if_neg c3]
        have e1 : IntKind.u64.wrap (mdQ a b c + 1) = mdQ a b c + 1 := u_id (by omega) (by omega)
        rw [e1]
        show cents_signed.f (mdN a b c m) (belowB a b c) = _
        have : 0 ≤ mdN a b c m ∧ mdN a b c m ≤ 1152921504606846977 := by unfold mdN; split <;> omega
        rw [signed_f _ this.1 (by omega)]
  · rw [if_neg c1, if_neg c1]
end Go.Proofs.Ytocndpddghefhaa.P
end
section
namespace Go.Proofs.Ytocndpddghefhaa.P
set_option linter.unusedVariables false
set_option linter.unusedSimpArgs false
open Go.RowKit Go.Proofs.YtocndpddghefhaaW.PrintWords Go.Proofs.YtocndpddghefhaaW.PrintMore Go.Proofs.Ytocndpddghefhaa.X
abbrev Tick := S49
def tkGo : Int → List Tick → Int
  | _, [] => 0
  | at_, t :: r => if tickErr at_ t = 0 then tkGo t.f0 r else tickErr at_ t
def tkCheck (l : List Tick) : Int := if 1024 < l.length then 8 else tkGo 0 l
theorem goAll_check : ∀ (l : List Tick) (a : Int), (goAll tickStep l (a, 0)).2 = tkGo a l
  | [], a => rfl
  | t :: r, a => by
    rw [goAll_step, tkGo]
    have e1 : (tickStep t (a, 0)).2 = (tickErr a t == 0) := rfl
    have e2 : (tickStep t (a, 0)).1 = (t.f0, tickErr a t) := rfl
    rw [e1, e2]
    by_cases c : tickErr a t = 0
    · rw [if_pos c, if_pos (beq_iff_eq.2 c), c]
      exact goAll_check r t.f0
    · rw [if_neg c, if_neg (by simpa using c)]
theorem tkCheck_f (l : List Tick) : tape_Check.f l = some (tkCheck l) := by
  unfold tape_Check.f tkCheck
  by_cases c : 1024 < l.length
  · rw [if_pos c, if_pos (show (1024 : Int) < (l.length : Int) by omega)]
  · rw [if_neg c, if_neg (show ¬ (1024 : Int) < (l.length : Int) by omega), goAll_check]
def TkOk (t : Tick) : Prop := 0 ≤ t.f0 ∧ t.f0 ≤ 86399 ∧ 1 ≤ t.f1 ∧ t.f1 ≤ 1048576 ∧ -16777216 ≤ t.f2 ∧ t.f2 ≤ 16777216
theorem tickErr_zero {a : Int} {t : Tick} (h : tickErr a t = 0) : a ≤ t.f0 ∧ t.f0 ≤ 86399 ∧ 1 ≤ t.f1 ∧ t.f1 ≤ 1048576 ∧ -16777216 ≤ t.f2 ∧ t.f2 ≤ 16777216 := by
  unfold tickErr at h
  by_cases c1 : t.f0 < a ∨ 86399 < t.f0
  · rw [if_pos c1] at h; omega
  · rw [if_neg c1] at h
    by_cases c2 : t.f1 < 1 ∨ 1048576 < t.f1
    · rw [if_pos c2] at h; omega
    · rw [if_neg c2] at h
      by_cases c3 : t.f2 < -16777216 ∨ 16777216 < t.f2
      · rw [if_pos c3] at h; omega
      · omega
theorem tickErr_ok {a : Int} {t : Tick} (h : a ≤ t.f0) (h2 : TkOk t) : tickErr a t = 0 := by
  unfold TkOk at h2
  unfold tickErr
  rw [if_neg (by omega), if_neg (by omega), if_neg (by omega)]
theorem tkGo_zero : ∀ (l : List Tick) (a : Int), 0 ≤ a → (tkGo a l = 0 ↔ (∀ t ∈ l, TkOk t) ∧ (∀ t ∈ l, a ≤ t.f0) ∧ l.Pairwise (fun x y => x.f0 ≤ y.f0))
  | [], a, _ => by simp [tkGo]
  | t :: r, a, ha => by
    rw [tkGo]
    constructor
    · intro h
      by_cases c : tickErr a t = 0
      · rw [if_pos c] at h
        have hz := tickErr_zero c
        obtain ⟨h1, h2, h3⟩ := (tkGo_zero r t.f0 (by omega)).1 h
        refine ⟨fun x hx => ?_, fun x hx => ?_, List.pairwise_cons.2 ⟨h2, h3⟩⟩
        · rcases List.mem_cons.1 hx with e | e
          · rw [e]; unfold TkOk; omega
          · exact h1 x e
        · rcases List.mem_cons.1 hx with e | e
          · rw [e]; exact hz.1
          · have := h2 x e; omega
      · rw [if_neg c] at h; exact absurd h c
    · rintro ⟨h1, h2, h3⟩
      obtain ⟨h4, h5⟩ := List.pairwise_cons.1 h3
      have ht := h1 t (by simp)
      rw [if_pos (tickErr_ok (h2 t (by simp)) ht)]
      exact (tkGo_zero r t.f0 ht.1).2 ⟨fun x hx => h1 x (by simp [hx]), h4, h5⟩
theorem tkCheck_zero (l : List Tick) : tkCheck l = 0 ↔ l.length ≤ 1024 ∧ (∀ t ∈ l, TkOk t) ∧ l.Pairwise (fun x y => x.f0 ≤ y.f0) := by
  unfold tkCheck
  by_cases c : 1024 < l.length
  · rw [if_pos c]; exact ⟨fun h => by omega, fun h => by omega⟩
  · rw [if_neg c, tkGo_zero l 0 (Int.le_refl _)]
    exact ⟨fun h => ⟨by omega, h.1, h.2.2⟩, fun h => ⟨h.2.1, fun t ht => (h.2.1 t ht).1, h.2.2⟩⟩
def qtyS : List Tick → Int
  | [] => 0
  | t :: r => t.f1 + qtyS r
def pqS : List Tick → Int
  | [] => 0
  | t :: r => t.f2 * t.f1 + pqS r
theorem mul_tk {t : Tick} (h : TkOk t) : -17592186044416 ≤ t.f2 * t.f1 ∧ t.f2 * t.f1 ≤ 17592186044416 := by
  obtain ⟨_, _, h3, h4, h5, h6⟩ := h
  have e1 := Int.mul_le_mul_of_nonneg_right h6 (show 0 ≤ t.f1 by omega)
  have e2 := Int.mul_le_mul_of_nonneg_right h5 (show 0 ≤ t.f1 by omega)
  omega
theorem qtyS_rng : ∀ (l : List Tick), (∀ t ∈ l, TkOk t) → (l.length : Int) ≤ qtyS l ∧ qtyS l ≤ 1048576 * (l.length : Int)
  | [], _ => by simp [qtyS]
  | t :: r, h => by
    have h1 := h t (by simp)
    unfold TkOk at h1
    have h2 := qtyS_rng r fun x hx => h x (by simp [hx])
    simp only [qtyS, List.length_cons]; omega
theorem pqS_rng : ∀ (l : List Tick), (∀ t ∈ l, TkOk t) → -(17592186044416 * (l.length : Int)) ≤ pqS l ∧ pqS l ≤ 17592186044416 * (l.length : Int)
  | [], _ => by simp [pqS]
  | t :: r, h => by
    have h1 := mul_tk (h t (by simp))
    have h2 := pqS_rng r fun x hx => h x (by simp [hx])
    simp only [pqS, List.length_cons]; omega
theorem vol_go : ∀ (l : List Tick) (s : Int), (∀ t ∈ l, TkOk t) → 0 ≤ s → s + 1048576 * (l.length : Int) ≤ 4611686018427387904 → goAll volStep l s = s + qtyS l
  | [], s, _, _, _ => by simp [goAll, qtyS]
  | t :: r, s, h, h0, h1 => by
    have ht := h t (by simp)
    unfold TkOk at ht
    rw [goAll_step]
    have e1 : (volStep t s).2 = true := rfl
    have e2 : (volStep t s).1 = wrap64 (s + t.f1) := rfl
    simp only [List.length_cons] at h1
    rw [e1, e2, if_pos rfl, w_id (by omega) (by omega), vol_go r _ (fun x hx => h x (by simp [hx])) (by omega) (by omega)]
    simp only [qtyS]; omega
theorem pq_go : ∀ (l : List Tick) (s : Int), (∀ t ∈ l, TkOk t) → -4611686018427387904 ≤ s - 17592186044416 * (l.length : Int) → s + 17592186044416 * (l.length : Int) ≤ 4611686018427387904 → goAll vwapStep l s = s + pqS l
  | [], s, _, _, _ => by simp [goAll, pqS]
  | t :: r, s, h, h0, h1 => by
    have ht := mul_tk (h t (by simp))
    rw [goAll_step]
    have e1 : (vwapStep t s).2 = true := rfl
    have e2 : (vwapStep t s).1 = wrap64 (s + wrap64 (t.f2 * t.f1)) := rfl
    simp only [List.length_cons] at h0 h1
    have e3 : wrap64 (t.f2 * t.f1) = t.f2 * t.f1 := w_id (by omega) (by omega)
    rw [e1, e2, if_pos rfl, e3, w_id (by omega) (by omega), pq_go r _ (fun x hx => h x (by simp [hx])) (by omega) (by omega)]
    simp only [pqS]; omega
def tkVolume (l : List Tick) : Int × Int := if tkCheck l = 0 then (qtyS l, 0) else (0, tkCheck l)
theorem tkVolume_f (l : List Tick) : tape_Volume.f l = some (tkVolume l) := by
  unfold tape_Volume.f tkVolume
  rw [tkCheck_f]
  simp only [Option.bind_some]
  by_cases c : tkCheck l = 0
  · obtain ⟨h1, h2, h3⟩ := (tkCheck_zero l).1 c
    rw [if_pos c, if_pos c, vol_go l 0 h2 (Int.le_refl _) (by omega), Int.zero_add]
  · rw [if_neg c, if_neg c]
def tkVwap (l : List Tick) (step mode : Int) : Int × Int := if tkCheck l = 0 then (if step < 1 ∨ 16777216 < step then (0, 16) else if mode < 1 ∨ 5 < mode then (0, 2) else if l = [] then (0, 11) else (wrap64 ((mulDiv (pqS l) 1 (qtyS l * step) mode).1 * step), 0)) else (0, tkCheck l)
theorem vwap_facts {l : List Tick} {step mode : Int} (hc : tkCheck l = 0) (hs : ¬ (step < 1 ∨ 16777216 < step)) (hm : ¬ (mode < 1 ∨ 5 < mode)) (hl : l ≠ []) :
    1 ≤ qtyS l ∧ qtyS l ≤ 1073741824 ∧ 1 ≤ qtyS l * step ∧ qtyS l * step ≤ 18014398509481984 ∧ -18014398509481984 ≤ pqS l ∧ pqS l ≤ 18014398509481984 ∧ szI (pqS l) * szI 1 = szI (pqS l) ∧ mulDiv (pqS l) 1 (qtyS l * step) mode = mdV (pqS l) 1 (qtyS l * step) mode ∧ mdN (pqS l) 1 (qtyS l * step) mode ≤ 18014398509481985 ∧ 0 ≤ mdN (pqS l) 1 (qtyS l * step) mode ∧ (mdV (pqS l) 1 (qtyS l * step) mode).2 = 0 := by
  obtain ⟨h1, h2, h3⟩ := (tkCheck_zero l).1 hc
  have hp : 0 < l.length := List.length_pos_iff.2 hl
  have hq := qtyS_rng l h2
  have hpq := pqS_rng l h2
  have e1 := Int.mul_le_mul_of_nonneg_left (show step ≤ 16777216 by omega) (show 0 ≤ qtyS l by omega)
  have e2 := Int.mul_le_mul_of_nonneg_left (show 1 ≤ step by omega) (show 0 ≤ qtyS l by omega)
  have e3 : szI (1 : Int) = 1 := rfl
  have e4 : szI (pqS l) * szI 1 = szI (pqS l) := by rw [e3, Int.mul_one]
  have f1 : fitsM (pqS l) = true := (fitsM_iff _).2 (by omega)
  have f2 : fitsM 1 = true := rfl
  have f3 : fitsM (qtyS l * step) = true := (fitsM_iff _).2 (by omega)
  have hR := mdR_rng f1 f2 f3 (show qtyS l * step ≠ 0 by omega)
  have hz : szI (pqS l) ≤ 18014398509481984 := by unfold szI; split <;> omega
  have hN : mdN (pqS l) 1 (qtyS l * step) mode ≤ 18014398509481985 ∧ 0 ≤ mdN (pqS l) 1 (qtyS l * step) mode := by unfold mdN; split <;> omega
  refine ⟨by omega, by omega, by omega, by omega, by omega, by omega, e4, ?_, hN.1, hN.2, ?_⟩
  · unfold mulDiv
    rw [if_pos ⟨f1, f2, f3, by omega, by omega⟩, if_neg (by omega)]
  · unfold mdV
    rw [if_neg (by omega)]
theorem tkVwap_f (k : Nat) (l : List Tick) (step mode : Int) : tape_Vwap.f k l step mode = some (tkVwap l step mode) := by
  unfold tape_Vwap.f tkVwap
  rw [tkVolume_f]
  simp only [Option.bind_some]
  unfold tkVolume
  by_cases hc : tkCheck l = 0
  case neg => rw [if_neg hc, if_neg hc, if_pos hc]
  rw [if_pos hc, if_pos hc, if_neg (by simp)]
  by_cases hs : step < 1 ∨ 16777216 < step
  · rw [if_pos hs]
    by_cases c : step < 1
    · rw [if_pos c]
    · rw [if_neg c, if_pos (hs.resolve_left c)]
  rw [if_neg hs, if_neg (fun h => hs (Or.inl h)), if_neg (fun h => hs (Or.inr h))]
  by_cases hm : mode < 1 ∨ 5 < mode
  · rw [if_pos hm]
    by_cases c : mode < 1
    · rw [if_pos c]
    · rw [if_neg c, if_pos (hm.resolve_left c)]
  rw [if_neg hm, if_neg (fun h => hm (Or.inl h)), if_neg (fun h => hm (Or.inr h))]
  by_cases hl : l = []
  · subst hl; rfl
  obtain ⟨a1, a2, a3, a4, a5, a6, a7, a8, a9, a10, a11⟩ := vwap_facts hc hs hm hl
  obtain ⟨h1, h2, h3⟩ := (tkCheck_zero l).1 hc
  have ew : wrap64 (qtyS l * step) = qtyS l * step := w_id (by omega) (by omega)
  have hz : szI (pqS l) ≤ 18014398509481984 := by unfold szI; split <;> omega
  rw [if_neg hl, if_neg (show ¬ qtyS l = 0 by omega), pq_go l 0 h2 (by omega) (by omega), Int.zero_add, ew, mulDiv_f _ _ _ _ _ (by omega)]
  simp only [Option.bind_some]
  rw [a8, if_neg (by rw [a11]; simp)]
end Go.Proofs.Ytocndpddghefhaa.P
end
section
namespace Go.Proofs.Ytocndpddghefhaa.P
open Go.RowKit Go.Proofs.YtocndpddghefhaaW.PrintWords Go.Proofs.YtocndpddghefhaaW.PrintMore Go.Proofs.Ytocndpddghefhaa.X
set_option maxRecDepth 100000 in
theorem goes17 : Ev (fun k => contangolaw17_goes.f k) true := Ev.of (k := 70) (contangolaw17_goes.mono) (by decide +kernel)
end Go.Proofs.Ytocndpddghefhaa.P
end
section
namespace Go.Proofs.Ytocndpddghefhaa.Pure
set_option linter.unusedVariables false
set_option linter.unusedSimpArgs false
open Go.RowKit Go.Proofs.YtocndpddghefhaaW.PrintWords Go.Proofs.YtocndpddghefhaaW.PrintMore Go.Proofs.Ytocndpddghefhaa.X Go.Proofs.Ytocndpddghefhaa.P
theorem range_go : ∀ (l : List Tick) (a b : Int), (goAll rangeStep l (a, b)).1 ≤ a ∧ b ≤ (goAll rangeStep l (a, b)).2 ∧ ∀ t ∈ l, (goAll rangeStep l (a, b)).1 ≤ t.f2 ∧ t.f2 ≤ (goAll rangeStep l (a, b)).2
  | [], a, b => by simp [goAll]
  | t :: r, a, b => by
    rw [goAll_step]
    have e1 : (rangeStep t (a, b)).2 = true := rfl
    have e2 : (rangeStep t (a, b)).1 = (mn a t.f2, mx b t.f2) := rfl
    rw [e1, e2, if_pos rfl]
    obtain ⟨h1, h2, h3⟩ := range_go r (mn a t.f2) (mx b t.f2)
    have m1 : mn a t.f2 ≤ a ∧ mn a t.f2 ≤ t.f2 := by unfold mn; split <;> omega
    have m2 : b ≤ mx b t.f2 ∧ t.f2 ≤ mx b t.f2 := by unfold mx; split <;> omega
    refine ⟨by omega, by omega, fun x hx => ?_⟩
    rcases List.mem_cons.1 hx with e | e
    · rw [e]; omega
    · exact h3 x e
theorem sum_low (x : Int) : ∀ (l : List Tick), (∀ t ∈ l, TkOk t ∧ x ≤ t.f2) → x * qtyS l ≤ pqS l
  | [], _ => by simp [qtyS, pqS]
  | t :: r, h => by
    obtain ⟨h1, h2⟩ := h t (by simp)
    unfold TkOk at h1
    have ih := sum_low x r fun y hy => h y (by simp [hy])
    have e := Int.mul_le_mul_of_nonneg_right h2 (show 0 ≤ t.f1 by omega)
    simp only [qtyS, pqS, Int.mul_add]; omega
theorem sum_high (x : Int) : ∀ (l : List Tick), (∀ t ∈ l, TkOk t ∧ t.f2 ≤ x) → pqS l ≤ x * qtyS l
  | [], _ => by simp [qtyS, pqS]
  | t :: r, h => by
    obtain ⟨h1, h2⟩ := h t (by simp)
    unfold TkOk at h1
    have ih := sum_high x r fun y hy => h y (by simp [hy])
    have e := Int.mul_le_mul_of_nonneg_right h2 (show 0 ≤ t.f1 by omega)
    simp only [qtyS, pqS, Int.mul_add]; omega
theorem lt_of_mul {x y Q : Int} (hQ : 1 ≤ Q) (h : x * Q < y * Q) : x < y := by
  by_cases c : x < y
  · exact c
  · have := Int.mul_le_mul_of_nonneg_right (show y ≤ x by omega) (show 0 ≤ Q by omega)
    omega
theorem floors {S Q x y : Int} (hQ : 1 ≤ Q) (h1 : x * Q ≤ S) (h2 : S ≤ y * Q) (hb : 1152921504606846976 ≥ mdN S 1 Q 3) (hb2 : 1152921504606846976 ≥ mdN S 1 Q 4) : x ≤ (mdV S 1 Q 3).1 ∧ (mdV S 1 Q 3).1 ≤ (mdV S 1 Q 4).1 ∧ (mdV S 1 Q 4).1 ≤ y ∧ (mdV S 1 Q 4).1 - (mdV S 1 Q 3).1 ≤ 1 := by
  have eQ : szI Q = Q := by unfold szI; rw [if_neg (by omega)]
  have e1 : szI (1 : Int) = 1 := rfl
  have hd := Int.mul_ediv_add_emod (szI S) Q
  have hr1 := Int.emod_nonneg (szI S) (show Q ≠ 0 by omega)
  have hr2 := Int.emod_lt_of_pos (szI S) (show 0 < Q by omega)
  have eq : mdQ S 1 Q = szI S / Q := by unfold mdQ; rw [eQ, e1, Int.mul_one]
  have er : mdR S 1 Q = szI S % Q := by unfold mdR; rw [eQ, e1, Int.mul_one]
  have a3 : ∀ bl q r w, awayP 3 bl q r w = bl := fun bl q r w => by unfold awayP awayAll; rw [if_neg (by decide)]; cases bl <;> rfl
  have a4 : ∀ bl q r w, awayP 4 bl q r w = !bl := fun bl q r w => by unfold awayP awayAll; rw [if_neg (by decide)]; cases bl <;> rfl
  have e3 : (mdV S 1 Q 3).1 = if belowB S 1 Q = true then -mdN S 1 Q 3 else mdN S 1 Q 3 := by unfold mdV; rw [if_neg (by omega)]
  have e4 : (mdV S 1 Q 4).1 = if belowB S 1 Q = true then -mdN S 1 Q 4 else mdN S 1 Q 4 := by unfold mdV; rw [if_neg (by omega)]
  rw [e3, e4]
  clear e3 e4 hb hb2
  unfold mdN
  rw [eq, er, a3, a4]
  generalize szI S / Q = q at *
  generalize szI S % Q = r at *
  rw [Int.mul_comm] at hd
  by_cases c : S < 0
  · have eb : belowB S 1 Q = true := by unfold belowB; rw [decide_eq_true c, decide_eq_false (show ¬ (1 : Int) < 0 by decide), decide_eq_false (show ¬ Q < 0 by omega)]; rfl
    have eS : szI S = -S := by unfold szI; rw [if_pos c]
    rw [eS] at hd
    rw [eb]
    simp only [if_true, and_true, Bool.not_true, Bool.false_eq_true, and_false, if_false]
    have n1 : (-q) * Q = -(q * Q) := Int.neg_mul _ _
    have n2 : (-(q + 1)) * Q = -(q * Q) - Q := by rw [Int.neg_mul, Int.add_mul, Int.one_mul]; omega
    have n3 : (-q + 1) * Q = -(q * Q) + Q := by rw [Int.add_mul, Int.neg_mul, Int.one_mul]
    have hy : -q ≤ y := by
      have : (-q) - 1 < y := lt_of_mul hQ (by rw [Int.sub_mul, n1, Int.one_mul]; omega)
      omega
    by_cases c0 : 0 < r
    · simp only [if_pos c0]
      have hx : x ≤ -(q + 1) := by
        have : x < -q := lt_of_mul hQ (by rw [n1]; omega)
        omega
      omega
    · simp only [if_neg c0]
      have hx : x ≤ -q := by
        have : x < -q + 1 := lt_of_mul hQ (by rw [n3]; omega)
        omega
      omega
  · have eb : belowB S 1 Q = false := by unfold belowB; rw [decide_eq_false c, decide_eq_false (show ¬ (1 : Int) < 0 by decide), decide_eq_false (show ¬ Q < 0 by omega)]; rfl
    have eS : szI S = S := by unfold szI; rw [if_neg c]
    rw [eS] at hd
    rw [eb]
    simp only [Bool.false_eq_true, and_false, if_false, Bool.not_false, and_true]
    have hx : x ≤ q := by
      have : x < q + 1 := lt_of_mul hQ (by rw [Int.add_mul, Int.one_mul]; omega)
      omega
    by_cases c0 : 0 < r
    · simp only [if_pos c0]
      have : q < y := lt_of_mul hQ (by omega)
      omega
    · simp only [if_neg c0]
      have : q < y + 1 := lt_of_mul hQ (by rw [Int.add_mul, Int.one_mul]; omega)
      omega
theorem TapeWithin : ∀ (l0 : List (S49)), (l0.length ≤ maxLen ∧ l0.length * 24 ≤ 140737488351232 ∧ ∀ x ∈ l0, ok49 x) → ∃ k, X.contangolaw17_TapeWithin.f k l0 = some true := by
  intro l _
  apply Ev.rounds
  unfold contangolaw17_TapeWithin.f
  obtain ⟨⟨lo, hi, ok⟩, hr⟩ : ∃ r, tape_Range.f l = some r := by
    unfold tape_Range.f
    split <;> exact ⟨_, rfl⟩
  simp only [hr, tkVwap_f, Option.bind_some]
  by_cases hc : tkCheck l = 0
  case neg =>
    have e1 : ∀ m, tkVwap l 1 m = (0, tkCheck l) := fun m => by unfold tkVwap; rw [if_neg hc]
    simp only [e1, if_neg hc]
    refine Ev_succ ?_
    simp only [contangolaw17_TapeWithin.j0, if_true]
    exact Ev_id goes17
  by_cases hl : l = []
  · have e1 : tkVwap l 1 3 = (0, 11) := by unfold tkVwap; rw [if_pos hc, if_neg (by decide), if_neg (by decide), if_pos hl]
    have e2 : tkVwap l 1 4 = (0, 11) := by unfold tkVwap; rw [if_pos hc, if_neg (by decide), if_neg (by decide), if_pos hl]
    simp only [e1, e2, if_neg (show ¬ (11 : Int) = 0 by decide)]
    refine Ev_succ ?_
    simp only [contangolaw17_TapeWithin.j0, if_true]
    exact Ev_id goes17
  have hp : 0 < l.length := List.length_pos_iff.2 hl
  have f3 := vwap_facts (step := 1) (mode := 3) hc (by decide) (by decide) hl
  have f4 := vwap_facts (step := 1) (mode := 4) hc (by decide) (by decide) hl
  rw [Int.mul_one] at f3 f4
  obtain ⟨a1, a2, a3, a4, a5, a6, a7, a8, a9, a10, a11⟩ := f3
  obtain ⟨b1, b2, b3, b4, b5, b6, b7, b8, b9, b10, b11⟩ := f4
  obtain ⟨h1, h2, h3⟩ := (tkCheck_zero l).1 hc
  have hrr : tape_Range.f l = some ((goAll rangeStep l ((rd_T49 l 0).f2, (rd_T49 l 0).f2)).1, (goAll rangeStep l ((rd_T49 l 0).f2, (rd_T49 l 0).f2)).2, true) := by
    unfold tape_Range.f; rw [if_neg (by omega)]
  rw [hrr] at hr
  obtain ⟨rfl, rfl, rfl⟩ : _ = lo ∧ _ = hi ∧ true = ok := by simpa using hr
  obtain ⟨g1, g2, g3⟩ := range_go l (rd_T49 l 0).f2 (rd_T49 l 0).f2
  generalize goAll rangeStep l ((rd_T49 l 0).f2, (rd_T49 l 0).f2) = lh at g1 g2 g3
  have hlo := sum_low lh.1 l fun t ht => ⟨h2 t ht, (g3 t ht).1⟩
  have hhi := sum_high lh.2 l fun t ht => ⟨h2 t ht, (g3 t ht).2⟩
  obtain ⟨z1, z2, z3, z4⟩ := floors a1 hlo hhi (by omega) (by omega)
  have v3 : (mdV (pqS l) 1 (qtyS l) 3).1 = mdN (pqS l) 1 (qtyS l) 3 ∨ (mdV (pqS l) 1 (qtyS l) 3).1 = -mdN (pqS l) 1 (qtyS l) 3 := by
    unfold mdV; rw [if_neg (by omega)]; split
    · exact Or.inr rfl
    · exact Or.inl rfl
  have v4 : (mdV (pqS l) 1 (qtyS l) 4).1 = mdN (pqS l) 1 (qtyS l) 4 ∨ (mdV (pqS l) 1 (qtyS l) 4).1 = -mdN (pqS l) 1 (qtyS l) 4 := by
    unfold mdV; rw [if_neg (by omega)]; split
    · exact Or.inr rfl
    · exact Or.inl rfl
  have e1 : tkVwap l 1 3 = ((mdV (pqS l) 1 (qtyS l) 3).1, 0) := by unfold tkVwap; rw [if_pos hc, if_neg (by decide), if_neg (by decide), if_neg hl, Int.mul_one, Int.mul_one, a8, w_id (by omega) (by omega)]
  have e2 : tkVwap l 1 4 = ((mdV (pqS l) 1 (qtyS l) 4).1, 0) := by unfold tkVwap; rw [if_pos hc, if_neg (by decide), if_neg (by decide), if_neg hl, Int.mul_one, Int.mul_one, b8, w_id (by omega) (by omega)]
  simp only [e1, e2, if_true, bne_self_eq_false]
  have ew : wrap64 ((mdV (pqS l) 1 (qtyS l) 4).1 - (mdV (pqS l) 1 (qtyS l) 3).1) = (mdV (pqS l) 1 (qtyS l) 4).1 - (mdV (pqS l) 1 (qtyS l) 3).1 := w_id (by omega) (by omega)
  refine Ev_succ ?_
  simp only [contangolaw17_TapeWithin.j0, Bool.false_eq_true, if_false, if_true, ew, if_pos z1, if_pos z2, if_pos z3, if_pos z4]
  exact Ev_id goes17
end Go.Proofs.Ytocndpddghefhaa.Pure
end
