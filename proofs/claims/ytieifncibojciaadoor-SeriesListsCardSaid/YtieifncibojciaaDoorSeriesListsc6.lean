/- For SeriesLists: contracts, and facts on lists and numbers, that it uses (part 6). -/
import Derived.ChangeArms
import Derived.Deep.Slices
import Derived.Laws.BitsLemmas
import Derived.Laws.Strings
import Derived.Lib.Bytealg
import Derived.OpenShut
import Derived.SizedLaws
import Derived.Test.YtieifncibojciaaDoorSeriesListsc5
import Derived.WideShapes
section
namespace Go.Proofs.YtieifncibojciaaDoor.Opn
open Go.ChangeShapes Go.WideShapes Go.Proofs.YtieifncibojciaaDoorW.PrintWords
set_option linter.unusedVariables false
set_option linter.unusedSimpArgs false
structure Opens (P : Program) (t : TypeId) {α : Type} (d : Kd α) (Ok : α → Prop) : Prop where
  sz : d.sz = P.cellsOf t
  opens : ∀ {H : Type} {enc : TypeId × Value → H} {w : World} {base : Nat} {spare : Nat → Bool} {held : Bool} {fuel : Nat} {cs : List Value} {x : DataW H × List MemPlace},
    DataW.trod enc P w base spare held fuel t cs = some x → (∀ n ∈ x.1.weights P t, n ≤ reachBytes) → ∃ v, d.K w v cs ∧ Ok v
theorem opens_int {P : Program} {t : TypeId} {k : IntKind} (ht : P.underlying t = some (.int k)) (hc : P.cellsOf t = 1) : Opens P t (Kd.int k) (fun n => (Lit.int k n).wf = true) := by
  refine ⟨hc.symm, fun h _ => ?_⟩
  obtain ⟨n, rfl, _, hw⟩ := DataW.trod_int ht h
  exact ⟨n, rfl, hw⟩
theorem opens_string {P : Program} {t : TypeId} (ht : P.underlying t = some .string) (hc : P.cellsOf t = 1) : Opens P t Kd.string (fun s => s.size ≤ 140737488351232) := by
  refine ⟨hc.symm, fun h hw => ?_⟩
  obtain ⟨s, rfl, rfl, hs⟩ := DataW.trod_string ht h
  refine ⟨s, rfl, ?_⟩
  have := hw s.data.toList.length (by simp [DataW.weights])
  rw [Array.length_toList] at this
  exact this
theorem weights_all {H : Type} {P : Program} {e : TypeId} : ∀ {ds : List (DataW H)} {j : Nat} {d : DataW H}, ds[j]? = some d → ∀ n ∈ d.weights P e, n ∈ DataW.weightsAll P e ds
  | d0 :: ds, 0, d, hd, n, hn => by
    simp only [List.getElem?_cons_zero, Option.some.injEq] at hd
    subst hd
    simp only [DataW.weightsAll, List.mem_append]
    exact Or.inl hn
  | d0 :: ds, j + 1, d, hd, n, hn => by
    simp only [List.getElem?_cons_succ] at hd
    simp only [DataW.weightsAll, List.mem_append]
    exact Or.inr (weights_all hd n hn)
  | [], _, _, hd, _, _ => by simp at hd
theorem list_of {α : Type} {n : Nat} {p : Nat → α → Prop} (h : ∀ i, i < n → ∃ x, p i x) : ∃ l : List α, l.length = n ∧ ∀ i x, l[i]? = some x → p i x := by
  induction n with
  | zero => exact ⟨[], rfl, fun i x hx => by simp at hx⟩
  | succ n ih =>
    obtain ⟨l, hl, hp⟩ := ih (fun i hi => h i (by omega))
    obtain ⟨x, hx⟩ := h n (by omega)
    refine ⟨l ++ [x], by simp [hl], fun i y hy => ?_⟩
    by_cases hi : i < l.length
    · rw [List.getElem?_append_left hi] at hy
      exact hp i y hy
    · rw [List.getElem?_append_right (by omega)] at hy
      have : i - l.length = 0 := by
        cases hk : i - l.length with
        | zero => rfl
        | succ m => rw [hk] at hy; simp at hy
      rw [this] at hy
      simp at hy
      subst hy
      have : i = n := by omega
      subst this
      exact hx
theorem opens_slice {P : Program} {t e : TypeId} {α : Type} {d : Kd α} {Ok : α → Prop} (h : Opens P e d Ok) (ht : P.underlying t = some (.slice e)) (hc : P.cellsOf t = 1) {B : Nat} (hB : P.bytesOf e = B) :
    Opens P t (Kd.slice e d) (fun l => l.length ≤ maxLen ∧ l.length * B ≤ 140737488351232 ∧ ∀ x ∈ l, Ok x) := by
  subst hB
  refine ⟨hc.symm, fun {H enc w base spare held fuel cs x} hx hw => ?_⟩
  rcases DataW.trod_slice ht hx with ⟨rfl, rfl⟩ | ⟨a, len, cap, elems, rest, n, _, rfl, rfl, hb, hl, hm, hlen, hel, hsp, hns⟩
  · exact ⟨[], ⟨none, 0, rfl, Nat.le_refl _, Kd.C_nil _ _⟩, by simp⟩
  simp only [DataW.weights, ht] at hw
  have hw1 : (elems.length + rest.length) * P.bytesOf e ≤ reachBytes := by
    have := hw ((elems.length + rest.length) * P.bytesOf e) (by simp)
    exact this
  have hone : ∀ i, i < len → ∃ v : α, ∃ c, w.cells? base (a.add (i * P.cellsOf e)) (P.cellsOf e) = some c ∧ d.K w v c ∧ Ok v := by
    intro i hi
    have h1 := hel i hi
    rw [List.getElem?_eq_getElem (by omega)] at h1
    obtain ⟨c, hc1, hc2⟩ := Option.bind_eq_some_iff.1 h1
    obtain ⟨v, hv, hok⟩ := h.opens hc2 (fun n hn => hw n (by
      simp only [List.mem_cons, List.mem_append]
      right; left
      refine weights_all (j := i) ?_ n hn
      rw [List.getElem?_map, List.getElem?_eq_getElem (by omega)]
      rfl))
    exact ⟨v, c, hc1, hv, hok⟩
  obtain ⟨l, hl1, hl2⟩ := list_of hone
  subst hl1
  refine ⟨l, ⟨some a, cap, rfl, hl, rfl, ?_, fun _ => ⟨a, rfl, fun j p hj => ?_⟩⟩, ?_, ?_, ?_⟩
  · unfold maxLen at hm; omega
  · obtain ⟨c, hc1, hc2, _⟩ := hl2 j p hj
    obtain ⟨_, hlen2, hcell⟩ := World.cells?_some hc1
    refine ⟨c, by rw [h.sz]; exact hlen2, hc2, fun i u hu => ?_⟩
    have hi : i < P.cellsOf e := by
      have := (List.getElem?_eq_some_iff.1 hu).1
      omega
    have := hcell i hi
    rw [hu, ← Deep.add_add, h.sz] at *
    exact this
  · exact Nat.le_trans hl hm
  · have h2 : l.length * P.bytesOf e ≤ (elems.length + rest.length) * P.bytesOf e := Nat.mul_le_mul_right _ (by omega)
    exact Nat.le_trans h2 hw1
  · intro x hx
    obtain ⟨j, hj⟩ := List.getElem?_of_mem hx
    obtain ⟨c, _, _, ho⟩ := hl2 j x hj
    exact ho
structure OpensF (P : Program) (fs : List Field) (off : Nat) {α : Type} (d : Kd α) (Ok : α → Prop) : Prop where
  opens : ∀ {H : Type} {enc : TypeId × Value → H} {w : World} {base : Nat} {spare : Nat → Bool} {held : Bool} {n : Nat} {cs : List Value} {xs : List (DataW H × List MemPlace)},
    xs.length = fs.length → (∀ (i : Nat) (f : Field), fs[i]? = some f → DataW.trod enc P w base spare held n f.type ((cs.drop f.offset).take (P.cellsOf f.type)) = xs[i]?) →
    (∀ m ∈ DataW.weightsEach P (fs.map (·.type)) (xs.map (·.1)), m ≤ reachBytes) → ∃ v, d.K w v ((cs.drop off).take d.sz) ∧ Ok v
theorem opensF_one {P : Program} {f : Field} {off : Nat} {α : Type} {d : Kd α} {Ok : α → Prop} (h : Opens P f.type d Ok) (ho : f.offset = off) : OpensF P [f] off d Ok := by
  refine ⟨fun {H enc w base spare held n cs xs} hl hx hw => ?_⟩
  match xs, hl with
  | [x], _ =>
    have h1 := hx 0 f rfl
    obtain ⟨v, hv, hok⟩ := h.opens h1 (fun n hn => hw n (by simpa [DataW.weightsEach] using hn))
    refine ⟨v, ?_, hok⟩
    rw [h.sz, ← ho]
    exact hv
theorem opensF_cons {P : Program} {f : Field} {fs : List Field} {off : Nat} {α β : Type} {d : Kd α} {d' : Kd β} {Ok : α → Prop} {Ok' : β → Prop} (h : Opens P f.type d Ok) (ho : f.offset = off) (h' : OpensF P fs (off + d.sz) d' Ok') :
    OpensF P (f :: fs) off (Kd.pair d d') (fun p => Ok p.1 ∧ Ok' p.2) := by
  refine ⟨fun {H enc w base spare held n cs xs} hl hx hw => ?_⟩
  match xs, hl with
  | x :: xs, hl =>
    have h1 := hx 0 f rfl
    obtain ⟨v, hv, hok⟩ := h.opens h1 (fun n hn => hw n (by
      simp only [List.map_cons, DataW.weightsEach, List.mem_append]; exact Or.inl hn))
    obtain ⟨v', hv', hok'⟩ := h'.opens (cs := cs) (xs := xs) (by simpa using hl) (fun i g hg => by
      have := hx (i + 1) g (by simpa using hg)
      simpa using this) (fun m hm => hw m (by simp only [List.map_cons, DataW.weightsEach, List.mem_append]; exact Or.inr hm))
    refine ⟨(v, v'), ⟨(cs.drop off).take d.sz, (cs.drop (off + d.sz)).take d'.sz, ?_, ?_, hv'⟩, hok, hok'⟩
    · show (cs.drop off).take (d.sz + d'.sz) = _
      rw [List.take_add, List.drop_drop]
    · rw [h.sz, ← ho]; exact hv
theorem opens_struct {P : Program} {t : TypeId} {fs : Array Field} {α β : Type} {d : Kd α} {Ok : α → Prop} (h : OpensF P fs.toList 0 d Ok) (ht : P.underlying t = some (.struct fs)) (hc : d.sz = P.cellsOf t) (f : β → α) (mk : α → β) (hf : ∀ a, f (mk a) = a) :
    Opens P t (Kd.iso d f) (fun b => Ok (f b)) := by
  refine ⟨hc, fun {H enc w base spare held fuel cs x} hx hw => ?_⟩
  obtain ⟨xs, n, _, rfl, hlen, hsz, hall⟩ := DataW.trod_struct ht hx
  simp only [DataW.weights, ht] at hw
  obtain ⟨v, hv, hok⟩ := h.opens (cs := cs) (xs := xs) (by simpa using hsz) (fun i f hf => hall i f (by simpa using hf)) hw
  refine ⟨mk v, ?_, by rw [hf]; exact hok⟩
  show d.K w (f (mk v)) cs
  rw [hf]
  rw [List.drop_zero, hc, ← hlen, List.take_length] at hv
  exact hv
theorem opens_imp {P : Program} {t : TypeId} {α : Type} {d : Kd α} {Ok Ok' : α → Prop} (h : Opens P t d Ok) (hi : ∀ v, Ok v → Ok' v) : Opens P t d Ok' :=
  ⟨h.sz, fun hx hw => let ⟨v, hv, ho⟩ := h.opens hx hw; ⟨v, hv, hi v ho⟩⟩
end Go.Proofs.YtieifncibojciaaDoor.Opn
end
section
namespace Go.Proofs.YtieifncibojciaaDoor.X
open Go.RowKit Go.Proofs.YtieifncibojciaaDoorW.PrintWords Go.Proofs.YtieifncibojciaaDoorW.PrintLast Go.Proofs.YtieifncibojciaaDoorW.PrintMore
attribute [local go_sem] max2_int min2_int max_two min_two max_three min_three max_four min_four
set_option linter.unusedVariables false
set_option linter.unusedSimpArgs false
def ok23 (v : S23) : Prop := v.f0.size ≤ 140737488351232 ∧ ((Lit.int .i64 v.f1).wf = true ∧ ((Lit.int .i64 v.f2).wf = true ∧ ((Lit.int .i64 v.f3).wf = true)))
theorem opens23 : Opn.Opens Tryd.prog 23 k23 ok23 := by
  have hu := Tryd.underlying23
  refine Opn.opens_imp (Opn.opens_struct (Ok := fun (p : ByteArray × (Int × (Int × (Int)))) => p.1.size ≤ 140737488351232 ∧ ((Lit.int .i64 p.2.1).wf = true ∧ ((Lit.int .i64 p.2.2.1).wf = true ∧ ((Lit.int .i64 p.2.2.2).wf = true)))) ?hF hu (by kernel_rfl) (fun x : S23 => (x.f0, x.f1, x.f2, x.f3)) (fun a => ⟨a.1, a.2.1, a.2.2.1, a.2.2.2⟩) (fun _ => rfl)) ?hI
  case hF =>
    refine Opn.opensF_cons (Ok := fun (p : ByteArray) => p.size ≤ 140737488351232) (Ok' := fun (p : Int × (Int × (Int))) => (Lit.int .i64 p.1).wf = true ∧ ((Lit.int .i64 p.2.1).wf = true ∧ ((Lit.int .i64 p.2.2).wf = true))) (h := ?_) (ho := ?_) (h' := ?_)
    · exact Opn.opens_string Tryd.underlying9 (by kernel_rfl)
    · rfl
    · skip
      refine Opn.opensF_cons (Ok := fun (p : Int) => (Lit.int .i64 p).wf = true) (Ok' := fun (p : Int × (Int)) => (Lit.int .i64 p.1).wf = true ∧ ((Lit.int .i64 p.2).wf = true)) (h := ?_) (ho := ?_) (h' := ?_)
      · exact Opn.opens_int Tryd.underlying3 (by kernel_rfl)
      · rfl
      · skip
        refine Opn.opensF_cons (Ok := fun (p : Int) => (Lit.int .i64 p).wf = true) (Ok' := fun (p : Int) => (Lit.int .i64 p).wf = true) (h := ?_) (ho := ?_) (h' := ?_)
        · exact Opn.opens_int Tryd.underlying3 (by kernel_rfl)
        · rfl
        · skip
          refine Opn.opensF_one (Ok := fun (p : Int) => (Lit.int .i64 p).wf = true) (h := ?_) (ho := ?_)
          · exact Opn.opens_int Tryd.underlying3 (by kernel_rfl)
          · rfl
  case hI => exact fun v h => h
end Go.Proofs.YtieifncibojciaaDoor.X
end
section
namespace Go.Proofs.YtieifncibojciaaDoor.P
open Go.RowKit Go.Proofs.YtieifncibojciaaDoorW.PrintWords Go.Proofs.YtieifncibojciaaDoorW.PrintMore Go.Proofs.YtieifncibojciaaDoor.X
theorem Ev_succ {α : Type} {g : Nat → Option α} {r : α} (h : Ev (fun k => g (k + 1)) r) : Ev g r := Ev.step (fun _ => rfl) h
theorem Ev_bind {α β : Type} {g : Nat → Option α} {f : Nat → α → Option β} {a : α} {r : β} (h : Ev g a) (k : Ev (fun n => f n a) r) : Ev (fun n => (g n).bind (f n)) r := Ev.bind h k
theorem Ev_id {α : Type} {g : Nat → Option α} {r : α} (h : Ev g r) : Ev (fun n => (g n).bind fun x => some x) r := Ev.bind h (Ev.now _)
theorem w_id {x : Int} (h1 : -9223372036854775808 ≤ x) (h2 : x ≤ 9223372036854775807) : wrap64 x = x := by unfold wrap64; omega
theorem w_succ {i n : Nat} (h : i < n) (hn : n ≤ 9223372036854775807) : wrap64 ((i : Int) + 1) = ((i + 1 : Nat) : Int) := by rw [w_id (by omega) (by omega)]; omega
theorem w_pred {i : Nat} (h : 0 < i) (hn : i ≤ 9223372036854775807) : wrap64 ((i : Int) - 1) = ((i - 1 : Nat) : Int) := by rw [w_id (by omega) (by omega)]; omega
theorem drop_cons {α : Type} (l : List α) (i : Nat) (h : i < l.length) : l.drop i = l[i] :: l.drop (i + 1) := (List.getElem_cons_drop h).symm
theorem ba_ext {a b : ByteArray} (h : a.toList = b.toList) : a = b := by
  have e : ∀ c : ByteArray, c.toList = c.data.toList := fun c => ByteArray.toList_eq c
  rw [e, e] at h
  cases a; cases b
  congr 1
  exact Array.toList_inj.1 h
end Go.Proofs.YtieifncibojciaaDoor.P
end
section
namespace Go.Proofs.YtieifncibojciaaDoor.P
set_option linter.unusedVariables false
set_option linter.unusedSimpArgs false
open Go.RowKit Go.Proofs.YtieifncibojciaaDoorW.PrintWords Go.Proofs.YtieifncibojciaaDoorW.PrintMore Go.Proofs.YtieifncibojciaaDoor.X
theorem bl_self : ∀ a : List UInt8, Op.bytesLess a a = false
  | [] => rfl
  | x :: a => by simp [Op.bytesLess, bl_self a]
theorem bl_not : ∀ a b : List UInt8, (!(Op.bytesLess a b || a == b)) = Op.bytesLess b a
  | [], [] => rfl
  | [], y :: b => by simp [Op.bytesLess]
  | x :: a, [] => by simp [Op.bytesLess]
  | x :: a, y :: b => by
    have ih := bl_not a b
    simp only [Op.bytesLess]
    by_cases h : x = y
    · subst h
      have : ¬ x < x := by simp
      simp only [this, decide_false, Bool.false_or, beq_self_eq_true, Bool.true_and, ← ih]
      congr 1
      simp
    · have h1 : (x == y) = false := by simpa using h
      have h2 : (y == x) = false := by simpa using fun e => h e.symm
      have h3 : (x :: a == y :: b) = false := by simp [h]
      rw [h1, h2, h3]
      simp only [Bool.false_and, Bool.or_false]
      have : decide (y < x) = !decide (x < y) := by
        rw [Bool.eq_iff_iff]
        simp only [decide_eq_true_eq, Bool.not_eq_true', decide_eq_false_iff_not, UInt8.lt_iff_toNat_lt]
        have : x.toNat ≠ y.toNat := fun e => h (UInt8.toNat_inj.1 e)
        omega
      rw [this]
theorem bl_eq {a b : List UInt8} (h : Op.bytesLess a b = false) (k : Op.bytesLess b a = false) : a = b := by
  have := bl_not a b
  rw [h, k] at this
  simpa using this
theorem bl_trans : ∀ a b c : List UInt8, Op.bytesLess a b = true → Op.bytesLess b c = true → Op.bytesLess a c = true
  | a, b, [], _, h => by cases b <;> simp [Op.bytesLess] at h
  | a, [], z :: c, h, _ => by cases a <;> simp [Op.bytesLess] at h
  | [], y :: b, z :: c, _, _ => by simp [Op.bytesLess]
  | x :: a, y :: b, z :: c, h, k => by
    simp only [Op.bytesLess, Bool.or_eq_true, Bool.and_eq_true, decide_eq_true_eq, beq_iff_eq] at h k ⊢
    rcases h with h | ⟨h, h'⟩ <;> rcases k with k | ⟨k, k'⟩
    · exact Or.inl (UInt8.lt_trans h k)
    · subst k; exact Or.inl h
    · subst h; exact Or.inl k
    · subst h k; exact Or.inr ⟨rfl, bl_trans a b c h' k'⟩
end Go.Proofs.YtieifncibojciaaDoor.P
end
section
namespace Go.Proofs.YtieifncibojciaaDoor.P
set_option linter.unusedVariables false
set_option linter.unusedSimpArgs false
open Go.RowKit Go.Proofs.YtieifncibojciaaDoorW.PrintWords Go.Proofs.YtieifncibojciaaDoorW.PrintMore Go.Proofs.YtieifncibojciaaDoor.X
abbrev Ser := S23
def cmpI (a b : Int) : Int := if a < b then -1 else if a > b then 1 else 0
def cmpB (a b : ByteArray) : Int := if (Op.bytesLess a.toList b.toList) = true then -1 else if (Op.bytesLess b.toList a.toList) = true then 1 else 0
def cmpS (a b : Ser) : Int :=
  if a.f0.toList = b.f0.toList then (if a.f2 = b.f2 then (if a.f1 = b.f1 then cmpI a.f3 b.f3 else cmpI a.f1 b.f1) else cmpI a.f2 b.f2) else cmpB a.f0 b.f0
theorem cmpI_f (a b : Int) : cmp_Compare_int.f a b = some (cmpI a b) := by
  unfold cmp_Compare_int.f cmp_isNaN_int.f cmpI
  simp only [bne_self_eq_false, Option.bind_some, Bool.false_eq_true, if_false]
  split
  · rfl
  · split <;> rfl
theorem cmpB_f (a b : ByteArray) : cmp_Compare_string.f a b = some (cmpB a b) := by
  unfold cmp_Compare_string.f cmp_isNaN_string.f cmpB
  simp only [bne_self_eq_false, Option.bind_some, Bool.false_eq_true, if_false]
  split
  · rfl
  · split <;> rfl
theorem cmpS_f (a b : Ser) : series_Compare.f a.f0 a.f1 a.f2 a.f3 b.f0 b.f1 b.f2 b.f3 = some (cmpS a b) := by
  unfold series_Compare.f cmpS
  simp only [cmpI_f, cmpB_f, Option.bind_some]
  by_cases h0 : a.f0.toList = b.f0.toList
  · by_cases h2 : a.f2 = b.f2
    · by_cases h1 : a.f1 = b.f1
      · by_cases h3 : a.f3 = b.f3
        · simp [h0, h1, h2, h3, cmpI]
        · simp [h0, h1, h2, h3]
      · simp [h0, h1, h2]
    · simp [h0, h2]
  · simp [h0]
def eqS (a b : Ser) : Bool := a.f0.toList == b.f0.toList && (a.f1 == b.f1 && (a.f2 == b.f2 && a.f3 == b.f3))
theorem eqS_iff (a b : Ser) : eqS a b = true ↔ a = b := by
  constructor
  · intro h
    simp only [eqS, Bool.and_eq_true, beq_iff_eq] at h
    obtain ⟨h0, h1, h2, h3⟩ := h
    cases a; cases b
    simp only at h0 h1 h2 h3
    have := ba_ext h0
    subst this h1 h2 h3
    rfl
  · rintro rfl
    simp [eqS]
theorem eqS_refl (a : Ser) : eqS a a = true := (eqS_iff a a).2 rfl
theorem eqS_ne {a b : Ser} (h : a ≠ b) : eqS a b = false := by
  cases c : eqS a b with
  | false => rfl
  | true => exact absurd ((eqS_iff a b).1 c) h
theorem neS (a b : Ser) : (!(a.f0.toList == b.f0.toList) || (!(a.f1 == b.f1) || (!(a.f2 == b.f2) || !(a.f3 == b.f3)))) = !eqS a b := by
  unfold eqS
  cases (a.f0.toList == b.f0.toList) <;> cases (a.f1 == b.f1) <;> cases (a.f2 == b.f2) <;> cases (a.f3 == b.f3) <;> rfl
theorem orderR_f (a b : Int) : contangoref10_order.f a b = some (cmpI a b) := by
  unfold contangoref10_order.f cmpI
  split
  · rfl
  · split <;> rfl
theorem cmpR_f (a b : Ser) : contangoref10_Compare.f a.f0 a.f1 a.f2 a.f3 b.f0 b.f1 b.f2 b.f3 = some (cmpS a b) := by
  unfold contangoref10_Compare.f cmpS cmpB
  simp only [orderR_f, Option.bind_some]
  by_cases h0 : a.f0.toList = b.f0.toList
  · rw [if_pos h0, h0]
    simp only [bl_self, Bool.false_eq_true, if_false]
    split
    · split <;> rfl
    · rfl
  · rw [if_neg h0]
    cases h1 : Op.bytesLess a.f0.toList b.f0.toList with
    | true => simp
    | false =>
      cases h2 : Op.bytesLess b.f0.toList a.f0.toList with
      | true => simp
      | false => exact absurd (bl_eq h1 h2) h0
theorem cmpS_lt (a b : Ser) : cmpS a b < 0 ↔ Op.bytesLess a.f0.toList b.f0.toList = true ∨ (a.f0.toList = b.f0.toList ∧ (a.f2 < b.f2 ∨ (a.f2 = b.f2 ∧ (a.f1 < b.f1 ∨ (a.f1 = b.f1 ∧ a.f3 < b.f3))))) := by
  by_cases h0 : a.f0.toList = b.f0.toList
  · have hb : Op.bytesLess a.f0.toList b.f0.toList = false := by rw [h0]; exact bl_self _
    have e : cmpS a b < 0 ↔ (a.f2 < b.f2 ∨ (a.f2 = b.f2 ∧ (a.f1 < b.f1 ∨ (a.f1 = b.f1 ∧ a.f3 < b.f3)))) := by
      unfold cmpS cmpI
      rw [if_pos h0]
      repeat' split
      all_goals omega
    rw [e, hb]
    exact ⟨fun h => Or.inr ⟨h0, h⟩, fun h => h.elim (fun x => by cases x) (fun x => x.2)⟩
  · have e : cmpS a b < 0 ↔ Op.bytesLess a.f0.toList b.f0.toList = true := by
      unfold cmpS cmpB
      rw [if_neg h0]
      by_cases h1 : Op.bytesLess a.f0.toList b.f0.toList = true
      · rw [if_pos h1]; exact ⟨fun _ => h1, fun _ => by omega⟩
      · rw [if_neg h1]
        refine ⟨fun h => ?_, fun h => absurd h h1⟩
        split at h <;> omega
    rw [e]
    exact ⟨Or.inl, fun h => h.elim id (fun x => absurd x.1 h0)⟩
theorem cmpS_zero {a b : Ser} (h : cmpS a b = 0) : a = b := by
  unfold cmpS at h
  by_cases h0 : a.f0.toList = b.f0.toList
  · rw [if_pos h0] at h
    unfold cmpI at h
    have : a.f2 = b.f2 ∧ a.f1 = b.f1 ∧ a.f3 = b.f3 := by
      by_cases h2 : a.f2 = b.f2
      · rw [if_pos h2] at h
        by_cases h1 : a.f1 = b.f1
        · rw [if_pos h1] at h
          refine ⟨h2, h1, ?_⟩
          split at h
          · omega
          · split at h <;> omega
        · rw [if_neg h1] at h
          split at h
          · omega
          · split at h <;> omega
      · rw [if_neg h2] at h
        split at h
        · omega
        · split at h <;> omega
    cases a; cases b
    simp only at h0 this
    have hb := ba_ext h0
    obtain ⟨e2, e1, e3⟩ := this
    subst hb e1 e2 e3
    rfl
  · rw [if_neg h0] at h
    unfold cmpB at h
    by_cases h1 : Op.bytesLess a.f0.toList b.f0.toList = true
    · rw [if_pos h1] at h; omega
    · rw [if_neg h1] at h
      by_cases h2 : Op.bytesLess b.f0.toList a.f0.toList = true
      · rw [if_pos h2] at h; omega
      · exact absurd (bl_eq (by simpa using h1) (by simpa using h2)) h0
theorem cmpS_self (a : Ser) : cmpS a a = 0 := by
  unfold cmpS cmpI
  rw [if_pos rfl, if_pos rfl, if_pos rfl, if_neg (by omega), if_neg (by omega)]
theorem cmpS_trans {a b c : Ser} (h1 : cmpS a b < 0) (h2 : cmpS b c < 0) : cmpS a c < 0 := by
  rw [cmpS_lt] at h1 h2 ⊢
  rcases h1 with h1 | ⟨e1, h1⟩
  · rcases h2 with h2 | ⟨e2, h2⟩
    · exact Or.inl (bl_trans _ _ _ h1 h2)
    · exact Or.inl (by rw [← e2]; exact h1)
  · rcases h2 with h2 | ⟨e2, h2⟩
    · exact Or.inl (by rw [e1]; exact h2)
    · exact Or.inr ⟨e1.trans e2, by omega⟩
theorem cmpS_asymm {a b : Ser} (h : cmpS a b < 0) : ¬ cmpS b a < 0 := fun h2 => by
  have := cmpS_trans h h2
  rw [cmpS_self] at this
  omega
theorem cmpS_total {a b : Ser} (h : ¬ cmpS a b < 0) (h2 : a ≠ b) : cmpS b a < 0 := by
  rw [cmpS_lt] at h ⊢
  by_cases h0 : a.f0.toList = b.f0.toList
  · refine Or.inr ⟨h0.symm, ?_⟩
    have hn : ¬ (a.f2 < b.f2 ∨ (a.f2 = b.f2 ∧ (a.f1 < b.f1 ∨ (a.f1 = b.f1 ∧ a.f3 < b.f3)))) := fun x => h (Or.inr ⟨h0, x⟩)
    have hne : ¬ (a.f2 = b.f2 ∧ a.f1 = b.f1 ∧ a.f3 = b.f3) := by
      rintro ⟨e2, e1, e3⟩
      apply h2
      cases a; cases b
      simp only at h0 e1 e2 e3
      have hb := ba_ext h0
      subst hb e1 e2 e3
      rfl
    omega
  · refine Or.inl ?_
    cases hb : Op.bytesLess b.f0.toList a.f0.toList with
    | true => rfl
    | false =>
      have ha : Op.bytesLess a.f0.toList b.f0.toList = false := by
        cases x : Op.bytesLess a.f0.toList b.f0.toList with
        | false => rfl
        | true => exact absurd (Or.inl x) h
      exact absurd (bl_eq ha hb) h0
end Go.Proofs.YtieifncibojciaaDoor.P
end
section
namespace Go.Proofs.YtieifncibojciaaDoor.P
set_option linter.unusedVariables false
set_option linter.unusedSimpArgs false
open Go.RowKit Go.Proofs.YtieifncibojciaaDoorW.PrintWords Go.Proofs.YtieifncibojciaaDoorW.PrintMore Go.Proofs.YtieifncibojciaaDoor.X
def ltS (a b : Ser) : Prop := cmpS a b < 0
def leS (a b : Ser) : Prop := ¬ cmpS b a < 0
theorem ltS_trans {a b c : Ser} (h1 : ltS a b) (h2 : ltS b c) : ltS a c := cmpS_trans h1 h2
theorem leS_of {a b : Ser} (h : ltS a b) : leS a b := cmpS_asymm h
theorem leS_refl (a : Ser) : leS a a := fun h => by rw [cmpS_self] at h; omega
theorem leS_cases {a b : Ser} (h : leS a b) : a = b ∨ ltS a b := by
  by_cases e : a = b
  · exact Or.inl e
  · exact Or.inr (cmpS_total h (fun x => e x.symm))
theorem leS_lt {a b c : Ser} (h1 : leS a b) (h2 : ltS b c) : ltS a c := by
  rcases leS_cases h1 with rfl | h
  · exact h2
  · exact ltS_trans h h2
theorem leS_trans {a b c : Ser} (h1 : leS a b) (h2 : leS b c) : leS a c := by
  rcases leS_cases h2 with rfl | h
  · exact h1
  · exact leS_of (leS_lt h1 h)
theorem ltS_irr (a : Ser) : ¬ ltS a a := fun h => by unfold ltS at h; rw [cmpS_self] at h; omega
theorem strict_unique : ∀ {a b : List Ser}, a.Pairwise ltS → b.Pairwise ltS → (∀ x, x ∈ a ↔ x ∈ b) → a = b
  | [], [], _, _, _ => rfl
  | [], y :: b, _, _, h => absurd ((h y).2 (by simp)) (by simp)
  | x :: a, [], _, _, h => absurd ((h x).1 (by simp)) (by simp)
  | x :: a, y :: b, ha, hb, h => by
    rw [List.pairwise_cons] at ha hb
    have e : x = y := by
      rcases List.mem_cons.1 ((h x).1 (by simp)) with e | e
      · exact e
      · rcases List.mem_cons.1 ((h y).2 (by simp)) with e2 | e2
        · exact e2.symm
        · exact absurd (ltS_trans (hb.1 x e) (ha.1 y e2)) (ltS_irr y)
    subst e
    congr 1
    refine strict_unique ha.2 hb.2 fun z => ⟨fun hz => ?_, fun hz => ?_⟩
    · rcases List.mem_cons.1 ((h z).1 (by simp [hz])) with e | e
      · subst e; exact absurd (ha.1 z hz) (ltS_irr z)
      · exact e
    · rcases List.mem_cons.1 ((h z).2 (by simp [hz])) with e | e
      · subst e; exact absurd (hb.1 z hz) (ltS_irr z)
      · exact e
def insS (s : Ser) : List Ser → List Ser
  | [] => [s]
  | y :: r => if cmpS s y < 0 then s :: y :: r else if cmpS s y = 0 then y :: r else y :: insS s r
theorem insS_mem (s : Ser) : ∀ (l : List Ser) (x : Ser), x ∈ insS s l ↔ x = s ∨ x ∈ l
  | [], x => by simp [insS]
  | y :: r, x => by
    unfold insS
    by_cases h : cmpS s y < 0
    · rw [if_pos h]; simp
    · rw [if_neg h]
      by_cases h0 : cmpS s y = 0
      · rw [if_pos h0]
        have := cmpS_zero h0
        subst this
        simp
      · rw [if_neg h0, List.mem_cons, insS_mem s r x, List.mem_cons]
        constructor
        · rintro (h | h | h)
          · exact Or.inr (Or.inl h)
          · exact Or.inl h
          · exact Or.inr (Or.inr h)
        · rintro (h | h | h)
          · exact Or.inr (Or.inl h)
          · exact Or.inl h
          · exact Or.inr (Or.inr h)
theorem insS_strict (s : Ser) : ∀ (l : List Ser), l.Pairwise ltS → (insS s l).Pairwise ltS
  | [], _ => by simp [insS]
  | y :: r, h => by
    rw [List.pairwise_cons] at h
    unfold insS
    by_cases h1 : cmpS s y < 0
    · rw [if_pos h1, List.pairwise_cons]
      refine ⟨fun z hz => ?_, List.pairwise_cons.2 h⟩
      rcases List.mem_cons.1 hz with rfl | hz
      · exact h1
      · exact ltS_trans h1 (h.1 z hz)
    · rw [if_neg h1]
      by_cases h0 : cmpS s y = 0
      · rw [if_pos h0]; exact List.pairwise_cons.2 h
      · rw [if_neg h0, List.pairwise_cons]
        refine ⟨fun z hz => ?_, insS_strict s r h.2⟩
        rcases (insS_mem s r z).1 hz with rfl | hz
        · exact cmpS_total h1 fun e => h0 (by rw [e, cmpS_self])
        · exact h.1 z hz
theorem insS_len (s : Ser) : ∀ l : List Ser, (insS s l).length ≤ l.length + 1
  | [] => by simp [insS]
  | y :: r => by
    have := insS_len s r
    unfold insS
    split
    · simp
    · split
      · simp
      · simp; omega
def sortV (l : List Ser) : List Ser := l.foldl (fun o s => insS s o) []
theorem fold_spec : ∀ (l o : List Ser), o.Pairwise ltS → (l.foldl (fun o s => insS s o) o).Pairwise ltS ∧ (∀ x, x ∈ l.foldl (fun o s => insS s o) o ↔ x ∈ o ∨ x ∈ l) ∧ (l.foldl (fun o s => insS s o) o).length ≤ o.length + l.length
  | [], o, h => ⟨h, fun x => by simp, by simp⟩
  | y :: l, o, h => by
    obtain ⟨h1, h2, h3⟩ := fold_spec l (insS y o) (insS_strict y o h)
    rw [List.foldl_cons]
    refine ⟨h1, fun x => ?_, ?_⟩
    · rw [h2, insS_mem, List.mem_cons]
      constructor
      · rintro ((h | h) | h)
        · exact Or.inr (Or.inl h)
        · exact Or.inl h
        · exact Or.inr (Or.inr h)
      · rintro (h | h | h)
        · exact Or.inl (Or.inr h)
        · exact Or.inl (Or.inl h)
        · exact Or.inr h
    · have := insS_len y o
      simp only [List.length_cons]
      omega
theorem sortV_strict (l : List Ser) : (sortV l).Pairwise ltS := (fold_spec l [] (by simp)).1
theorem sortV_mem (l : List Ser) (x : Ser) : x ∈ sortV l ↔ x ∈ l := by have := (fold_spec l [] (by simp)).2.1 x; simpa [sortV] using this
theorem sortV_len (l : List Ser) : (sortV l).length ≤ l.length := by have := (fold_spec l [] (by simp)).2.2; simpa [sortV] using this
theorem sortV_of {l r : List Ser} (h1 : r.Pairwise ltS) (h2 : ∀ x, x ∈ r ↔ x ∈ l) : r = sortV l := strict_unique h1 (sortV_strict l) fun x => (h2 x).trans (sortV_mem l x).symm
theorem rdS (l : List Ser) (i : Nat) (h : i < l.length) : rd_T23 l (i : Int) = l[i] := by simp [rd_T23, h]
theorem put_true (s : Ser) (l : List Ser) (hl : l.length ≤ 100000) : ∀ (d i : Nat) (o : List Ser), i + d = l.length → o.length + d ≤ 200000 → Ev (fun k => contangoref10_put.l0 k l o true (i : Int) s.f0 s.f1 s.f2 s.f3) (o ++ l.drop i)
  | 0, i, o, hd, ho => by
    refine Ev_succ ?_
    simp only [contangoref10_put.l0, if_neg (show ¬ (i : Int) < (l.length : Int) by omega), if_true]
    rw [List.drop_of_length_le (by omega), List.append_nil]
    exact Ev.now _
  | d + 1, i, o, hd, ho => by
    have hi : i < l.length := by omega
    refine Ev_succ ?_
    have ih := put_true s l hl d (i + 1) (o ++ [l[i]]) (by omega) (by simp; omega)
    rw [List.append_assoc, List.singleton_append, ← drop_cons l i hi] at ih
    have hc := cmpR_f s l[i]
    simp only [contangoref10_put.l0, if_pos (show (i : Int) < (l.length : Int) by omega), if_pos (show 0 ≤ (i : Int) by omega), rdS l i hi, hc, Option.bind_some, if_true, if_pos (show o.length < 3518437208883 by omega), w_succ hi (by omega)]
    by_cases c : cmpS s l[i] < 0
    · simp only [if_pos c]; exact ih
    · simp only [if_neg c]; exact ih
theorem put_false (s : Ser) (l : List Ser) (hl : l.length ≤ 100000) : ∀ (d i : Nat) (o : List Ser), i + d = l.length → o.length + d ≤ 100000 → Ev (fun k => contangoref10_put.l0 k l o false (i : Int) s.f0 s.f1 s.f2 s.f3) (o ++ insS s (l.drop i))
  | 0, i, o, hd, ho => by
    refine Ev_succ ?_
    simp only [contangoref10_put.l0, if_neg (show ¬ (i : Int) < (l.length : Int) by omega), Bool.false_eq_true, if_false, if_pos (show o.length < 3518437208883 by omega)]
    rw [List.drop_of_length_le (by omega)]
    exact Ev.now _
  | d + 1, i, o, hd, ho => by
    have hi : i < l.length := by omega
    refine Ev_succ ?_
    have hc := cmpR_f s l[i]
    rw [drop_cons l i hi]
    unfold insS
    simp only [contangoref10_put.l0, if_pos (show (i : Int) < (l.length : Int) by omega), if_pos (show 0 ≤ (i : Int) by omega), rdS l i hi, hc, Option.bind_some, Bool.false_eq_true, if_false, if_pos (show o.length < 3518437208883 by omega), w_succ hi (by omega)]
    by_cases c : cmpS s l[i] < 0
    · have c2 : cmpS s l[i] ≤ 0 := by omega
      have hy : (o ++ [s]).length < 3518437208883 := by simp; omega
      simp only [if_pos c, decide_eq_true c2, if_pos (show (o ++ [(⟨s.f0, s.f1, s.f2, s.f3⟩ : Ser)]).length < 3518437208883 from hy)]
      have ih := put_true s l hl d (i + 1) (o ++ [s] ++ [l[i]]) (by omega) (by simp; omega)
      rw [show o ++ [s] ++ [l[i]] ++ l.drop (i + 1) = o ++ s :: l[i] :: l.drop (i + 1) by simp] at ih
      exact ih
    · simp only [if_neg c]
      by_cases c0 : cmpS s l[i] = 0
      · have c2 : cmpS s l[i] ≤ 0 := by omega
        simp only [if_pos c0, decide_eq_true c2]
        have ih := put_true s l hl d (i + 1) (o ++ [l[i]]) (by omega) (by simp; omega)
        rw [List.append_assoc, List.singleton_append] at ih
        exact ih
      · have c2 : ¬ cmpS s l[i] ≤ 0 := by omega
        simp only [if_neg c0, decide_eq_false c2]
        have ih := put_false s l hl d (i + 1) (o ++ [l[i]]) (by omega) (by simp; omega)
        rw [List.append_assoc, List.singleton_append] at ih
        exact ih
theorem put_f (s : Ser) (l : List Ser) (hl : l.length ≤ 100000) : Ev (fun k => contangoref10_put.f k l s.f0 s.f1 s.f2 s.f3) (insS s l) := by
  unfold contangoref10_put.f
  have := put_false s l hl l.length 0 [] (by omega) (by simpa using hl)
  rw [List.drop_zero, List.nil_append] at this
  exact this
theorem rsort_loop (l : List Ser) (hl : l.length ≤ 40000) : ∀ (d i : Nat) (o : List Ser), i + d = l.length → o.length ≤ i → Ev (fun k => contangoref10_Sort.l0 k l o (i : Int)) ((l.drop i).foldl (fun o s => insS s o) o)
  | 0, i, o, hd, ho => by
    refine Ev_succ ?_
    simp only [contangoref10_Sort.l0, if_neg (show ¬ (i : Int) < (l.length : Int) by omega)]
    rw [List.drop_of_length_le (by omega)]
    exact Ev.now _
  | d + 1, i, o, hd, ho => by
    have hi : i < l.length := by omega
    refine Ev_succ ?_
    rw [drop_cons l i hi, List.foldl_cons]
    simp only [contangoref10_Sort.l0, if_pos (show (i : Int) < (l.length : Int) by omega), if_pos (show 0 ≤ (i : Int) by omega), rdS l i hi, w_succ hi (by omega)]
    refine Ev_bind (put_f l[i] o (by omega)) ?_
    exact rsort_loop l hl d (i + 1) (insS l[i] o) (by omega) (by have := insS_len l[i] o; omega)
theorem rsort_f (l : List Ser) (hl : l.length ≤ 40000) : Ev (fun k => contangoref10_Sort.f k l) (sortV l) := by
  unfold contangoref10_Sort.f
  exact rsort_loop l hl l.length 0 [] (by omega) (by simp)
theorem merge_loop : ∀ (n : Nat) (a b o : List Ser), a.length + b.length = n → o.length + n ≤ 200000 → a.Pairwise leS → b.Pairwise leS → o.Pairwise leS → (∀ x ∈ o, (∀ y ∈ a, leS x y) ∧ (∀ y ∈ b, leS x y)) → ∃ r, Ev (fun k => api_Series_68.l0 k a b o) r ∧ r.Pairwise leS ∧ (∀ x, x ∈ r ↔ x ∈ o ∨ x ∈ a ∨ x ∈ b) ∧ r.length = o.length + n := by
  have last : ∀ (a b o : List Ser), o.length + (a.length + b.length) ≤ 200000 → a.Pairwise leS → b.Pairwise leS → o.Pairwise leS → (∀ x ∈ o, (∀ y ∈ a, leS x y) ∧ (∀ y ∈ b, leS x y)) → (a = [] ∨ b = []) → ∃ r, Ev (fun k => api_Series_68.l0 k a b o) r ∧ r.Pairwise leS ∧ (∀ x, x ∈ r ↔ x ∈ o ∨ x ∈ a ∨ x ∈ b) ∧ r.length = o.length + (a.length + b.length) := by
    intro a b o hl ha hb ho hc he
    refine ⟨o ++ a ++ b, ?_, ?_, fun x => by simp, by simp⟩
    · refine Ev_succ ?_
      have hj : Ev (fun k => api_Series_68.j1 k a b o false) (o ++ a ++ b) := by
        refine Ev_succ ?_
        simp only [api_Series_68.j1, Bool.false_eq_true, if_false, if_pos (show o.length + a.length < 3518437208883 by omega), Option.bind_some, if_pos (show (o ++ a).length + b.length < 3518437208883 by simp; omega)]
        exact Ev.now _
      rcases he with rfl | rfl
      · simp only [api_Series_68.l0, if_neg (show ¬ ((([] : List Ser).length : Nat) : Int) > 0 by simp)]
        exact hj
      · by_cases c : (a.length : Int) > 0
        · simp only [api_Series_68.l0, if_pos c, decide_eq_false (show ¬ ((([] : List Ser).length : Nat) : Int) > 0 by simp)]
          exact hj
        · simp only [api_Series_68.l0, if_neg c]
          exact hj
    · rw [List.pairwise_append, List.pairwise_append]
      refine ⟨⟨ho, ha, fun x hx y hy => (hc x hx).1 y hy⟩, hb, fun x hx y hy => ?_⟩
      rcases List.mem_append.1 hx with h | h
      · exact (hc x h).2 y hy
      · rcases he with rfl | rfl
        · cases h
        · cases hy
  intro n
  induction n with
  | zero =>
    intro a b o hn hl ha hb ho hc
    have := last a b o (by omega) ha hb ho hc (Or.inl (List.length_eq_zero_iff.1 (by omega)))
    rw [hn] at this
    exact this
  | succ n ih =>
    intro a b o hn hl ha hb ho hc
    rcases a with _ | ⟨x, a⟩
    · have := last [] b o (by simp at hn ⊢; omega) ha hb ho hc (Or.inl rfl)
      rw [hn] at this
      exact this
    rcases b with _ | ⟨y, b⟩
    · have := last (x :: a) [] o (by simp at hn ⊢; omega) ha hb ho hc (Or.inr rfl)
      rw [hn] at this
      exact this
    have ha' := List.pairwise_cons.1 ha
    have hb' := List.pairwise_cons.1 hb
    simp only [List.length_cons] at hn
    have hpa : ((x :: a).length : Int) > 0 := by simp only [List.length_cons]; omega
    have hpb : ((y :: b).length : Int) > 0 := by simp only [List.length_cons]; omega
    have hpa1 : (1 : Int) ≤ ((x :: a).length : Int) := by omega
    have hpb1 : (1 : Int) ≤ ((y :: b).length : Int) := by omega
    have hcmp : series_Compare.f y.f0 y.f1 y.f2 y.f3 x.f0 x.f1 x.f2 x.f3 = some (cmpS y x) := cmpS_f y x
    have ex : rd_T23 (x :: a) 0 = x := rfl
    have ey : rd_T23 (y :: b) 0 = y := rfl
    have go : ∀ r, Ev (fun k => if cmpS y x < 0 then api_Series_68.l0 k (x :: a) b (o ++ [y]) else api_Series_68.l0 k a (y :: b) (o ++ [x])) r → Ev (fun k => api_Series_68.l0 k (x :: a) (y :: b) o) r := by
      intro r hr
      refine Ev_succ (Ev_succ ?_)
      simp only [api_Series_68.l0, api_Series_68.j1, if_pos hpa, decide_eq_true hpb, if_true, if_pos (show 0 < ((y :: b).length : Int) from hpb), if_pos (show 0 < ((x :: a).length : Int) from hpa), ex, ey, hcmp, Option.bind_some, if_pos (show o.length < 3518437208883 by omega), if_pos hpa1, if_pos hpb1]
      exact hr
    by_cases c : cmpS y x < 0
    · obtain ⟨r, h1, h2, h3, h4⟩ := ih (x :: a) b (o ++ [y]) (by simp only [List.length_cons]; omega) (by simp; omega) ha hb'.2
        (by rw [List.pairwise_append]; exact ⟨ho, by simp, fun z hz w hw => by obtain rfl := List.mem_singleton.1 hw; exact (hc z hz).2 w (by simp)⟩)
        (fun z hz => by
          rcases List.mem_append.1 hz with h | h
          · exact ⟨(hc z h).1, fun w hw => (hc z h).2 w (by simp [hw])⟩
          · obtain rfl := List.mem_singleton.1 h
            refine ⟨fun w hw => ?_, hb'.1⟩
            rcases List.mem_cons.1 hw with rfl | hw
            · exact leS_of c
            · exact leS_trans (leS_of c) (ha'.1 w hw))
      refine ⟨r, go r (by simp only [if_pos c]; exact h1), h2, fun z => ?_, by rw [h4]; simp; omega⟩
      rw [h3]
      simp only [List.mem_append, List.mem_cons, List.not_mem_nil, or_false]
      constructor
      · rintro ((h | h) | (h | h) | h)
        · exact Or.inl h
        · exact Or.inr (Or.inr (Or.inl h))
        · exact Or.inr (Or.inl (Or.inl h))
        · exact Or.inr (Or.inl (Or.inr h))
        · exact Or.inr (Or.inr (Or.inr h))
      · rintro (h | (h | h) | h | h)
        · exact Or.inl (Or.inl h)
        · exact Or.inr (Or.inl (Or.inl h))
        · exact Or.inr (Or.inl (Or.inr h))
        · exact Or.inl (Or.inr h)
        · exact Or.inr (Or.inr h)
    · obtain ⟨r, h1, h2, h3, h4⟩ := ih a (y :: b) (o ++ [x]) (by simp only [List.length_cons]; omega) (by simp; omega) ha'.2 hb
        (by rw [List.pairwise_append]; exact ⟨ho, by simp, fun z hz w hw => by obtain rfl := List.mem_singleton.1 hw; exact (hc z hz).1 w (by simp)⟩)
        (fun z hz => by
          rcases List.mem_append.1 hz with h | h
          · exact ⟨fun w hw => (hc z h).1 w (by simp [hw]), (hc z h).2⟩
          · obtain rfl := List.mem_singleton.1 h
            refine ⟨ha'.1, fun w hw => ?_⟩
            rcases List.mem_cons.1 hw with rfl | hw
            · exact c
            · exact leS_trans c (hb'.1 w hw))
      refine ⟨r, go r (by simp only [if_neg c]; exact h1), h2, fun z => ?_, by rw [h4]; simp; omega⟩
      rw [h3]
      simp only [List.mem_append, List.mem_cons, List.not_mem_nil, or_false]
      constructor
      · rintro ((h | h) | h | h | h)
        · exact Or.inl h
        · exact Or.inr (Or.inl (Or.inl h))
        · exact Or.inr (Or.inl (Or.inr h))
        · exact Or.inr (Or.inr (Or.inl h))
        · exact Or.inr (Or.inr (Or.inr h))
      · rintro (h | (h | h) | h | h)
        · exact Or.inl (Or.inl h)
        · exact Or.inl (Or.inr h)
        · exact Or.inr (Or.inl h)
        · exact Or.inr (Or.inr (Or.inl h))
        · exact Or.inr (Or.inr (Or.inr h))
theorem sorted_f : ∀ (n : Nat) (l : List Ser), l.length ≤ n → l.length ≤ 100000 → ∃ r, Ev (fun k => api_Series_68.f k l) r ∧ r.Pairwise leS ∧ (∀ x, x ∈ r ↔ x ∈ l) ∧ r.length = l.length := by
  intro n
  induction n with
  | zero =>
    intro l hn hl
    obtain rfl : l = [] := List.length_eq_zero_iff.1 (by omega)
    refine ⟨[], Ev_succ ?_, by simp, fun x => by simp, rfl⟩
    simp only [api_Series_68.f]
    exact Ev.now _
  | succ n ih =>
    intro l hn hl
    by_cases c : (l.length : Int) < 2
    · refine ⟨l, Ev_succ ?_, ?_, fun x => Iff.rfl, rfl⟩
      · simp only [api_Series_68.f, if_pos c, List.nil_append, if_pos (show ([] : List Ser).length + l.length < 3518437208883 by simp; omega)]
        exact Ev.now _
      · rcases l with _ | ⟨x, _ | ⟨y, r⟩⟩
        · simp
        · simp
        · simp at c; omega
    · have hw : wrap64 ((l.length : Int) / 2) = ((l.length / 2 : Nat) : Int) := by rw [w_id (by omega) (by omega)]; omega
      obtain ⟨a, a1, a2, a3, a4⟩ := ih (l.take (l.length / 2)) (by rw [List.length_take]; omega) (by rw [List.length_take]; omega)
      obtain ⟨b, b1, b2, b3, b4⟩ := ih (l.drop (l.length / 2)) (by rw [List.length_drop]; omega) (by rw [List.length_drop]; omega)
      rw [List.length_take] at a4
      rw [List.length_drop] at b4
      obtain ⟨r, r1, r2, r3, r4⟩ := merge_loop l.length a b [] (by omega) (by simp; omega) a2 b2 (by simp) (by simp)
      refine ⟨r, Ev_succ ?_, r2, fun x => ?_, by simpa using r4⟩
      · simp only [api_Series_68.f, if_neg c, hw, if_pos (show (0 : Int) ≤ ((l.length / 2 : Nat) : Int) by omega), if_pos (show ((l.length / 2 : Nat) : Int) ≤ (l.length : Int) by omega), Int.toNat_natCast, if_pos (show l.length ≤ 7036874417766 by omega)]
        exact Ev_bind a1 (Ev_bind b1 r1)
      · rw [r3, a3, b3]
        simp only [List.not_mem_nil, false_or]
        rw [← List.mem_append, List.take_append_drop]
theorem dedup_loop (l : List Ser) (hl : l.length ≤ 100000) (hs : l.Pairwise leS) : ∀ (d i : Nat) (o : List Ser), i + d = l.length → o.Pairwise ltS → (∀ x, x ∈ o ↔ x ∈ l.take i) → (i = 0 → o = []) → (∀ (h : 0 < i), ∃ p, o.getLast? = some p ∧ l[i - 1]? = some p) → o.length ≤ i → ∃ r, Ev (fun k => series_Sort.l0 k o l l.length (i : Int)) r ∧ r.Pairwise ltS ∧ (∀ x, x ∈ r ↔ x ∈ l)
  | 0, i, o, hd, h1, h2, h3, h4, h5 => by
    refine ⟨o, Ev_succ ?_, h1, fun x => ?_⟩
    · simp only [series_Sort.l0, if_neg (show ¬ (i : Int) < (l.length : Int) by omega)]
      exact Ev.now _
    · rw [h2, List.take_of_length_le (by omega)]
  | d + 1, i, o, hd, h1, h2, h3, h4, h5 => by
    have hi : i < l.length := by omega
    have hw := w_succ hi (by omega)
    have hmem : ∀ x, x ∈ l.take (i + 1) ↔ x ∈ l.take i ∨ x = l[i] := fun x => by rw [← List.take_append_getElem hi, List.mem_append, List.mem_singleton]

    have app : (∀ x ∈ o, ltS x l[i]) → ∃ r, Ev (fun k => series_Sort.l0 k (o ++ [l[i]]) l l.length ((i + 1 : Nat) : Int)) r ∧ r.Pairwise ltS ∧ (∀ x, x ∈ r ↔ x ∈ l) := fun hlt =>
      dedup_loop l hl hs d (i + 1) (o ++ [l[i]]) (by omega) (by rw [List.pairwise_append]; exact ⟨h1, by simp, fun x hx y hy => by obtain rfl := List.mem_singleton.1 hy; exact hlt x hx⟩)
        (fun x => by rw [hmem, List.mem_append, h2, List.mem_singleton]) (by omega) (fun _ => ⟨l[i], by simp, by simp [hi]⟩) (by simp; omega)
    by_cases c : (o.length : Int) = 0
    · have ho : o = [] := List.length_eq_zero_iff.1 (by omega)
      obtain ⟨r, r1, r2, r3⟩ := app (by rw [ho]; simp)
      refine ⟨r, Ev_succ ?_, r2, r3⟩
      simp only [series_Sort.l0, if_pos (show (i : Int) < (l.length : Int) by omega), if_pos (show 0 ≤ (i : Int) by omega), rdS l i hi, if_pos c, if_pos (show o.length < 3518437208883 by omega), hw]
      exact r1
    · have hi0 : 0 < i := by omega
      obtain ⟨p, p1, p2⟩ := h4 hi0
      have hon : o ≠ [] := fun e => c (by rw [e]; rfl)
      have hpl : rd_T23 o (wrap64 ((o.length : Int) - 1)) = p := by
        rw [w_pred (by omega) (by omega), rdS o (o.length - 1) (by omega)]
        rw [List.getLast?_eq_getElem?] at p1
        rw [List.getElem?_eq_getElem (by omega)] at p1
        exact Option.some.inj p1
      have hpo : p ∈ o := List.mem_of_getLast? p1
      have hwp : wrap64 ((o.length : Int) - 1) = ((o.length - 1 : Nat) : Int) := w_pred (by omega) (by omega)
      have hall : ∀ x ∈ o, leS x p := by
        intro x hx
        have hne := List.dropLast_concat_getLast hon
        have hlast : o.getLast hon = p := by
          rw [List.getLast?_eq_some_getLast hon] at p1
          exact Option.some.inj p1
        rw [← hne] at hx h1
        rw [List.pairwise_append] at h1
        rcases List.mem_append.1 hx with h | h
        · rw [← hlast]; exact leS_of (h1.2.2 x h _ (by simp))
        · rw [List.mem_singleton.1 h, hlast]; exact leS_refl p
      have hpi : leS p l[i] := by
        have h6 := List.pairwise_iff_getElem.1 hs (i - 1) i (by omega) hi (by omega)
        have h7 : l[i - 1]'(by omega) = p := by
          rw [List.getElem?_eq_getElem (by omega)] at p2
          exact Option.some.inj p2
        rw [h7] at h6
        exact h6
      by_cases e : p = l[i]
      · obtain ⟨r, r1, r2, r3⟩ := dedup_loop l hl hs d (i + 1) o (by omega) h1 (fun x => by
          rw [hmem, h2]
          constructor
          · exact Or.inl
          · rintro (h | h)
            · exact h
            · rw [h, ← e]; exact (h2 p).1 hpo) (by omega) (fun _ => ⟨p, p1, by rw [e]; simp [hi]⟩) (by omega)
        refine ⟨r, Ev_succ ?_, r2, r3⟩
        have hb : (!(p.f0.toList == l[i].f0.toList) || (!(p.f1 == l[i].f1) || (!(p.f2 == l[i].f2) || !(p.f3 == l[i].f3)))) = false := by rw [neS, e, eqS_refl]; rfl
        simp only [series_Sort.l0, if_pos (show (i : Int) < (l.length : Int) by omega), if_pos (show 0 ≤ (i : Int) by omega), rdS l i hi, if_neg c, hpl, hb, Bool.false_eq_true, if_false, hwp, if_pos (show (0 : Int) ≤ ((o.length - 1 : Nat) : Int) by omega), if_pos (show ((o.length - 1 : Nat) : Int) < (o.length : Int) by omega), hw]
        rw [← hwp, hpl]
        simp only [hb, Bool.false_eq_true, if_false]
        exact r1
      · have hlt : ltS p l[i] := (leS_cases hpi).resolve_left e
        obtain ⟨r, r1, r2, r3⟩ := app fun x hx => leS_lt (hall x hx) hlt
        refine ⟨r, Ev_succ ?_, r2, r3⟩
        have hb : (!(p.f0.toList == l[i].f0.toList) || (!(p.f1 == l[i].f1) || (!(p.f2 == l[i].f2) || !(p.f3 == l[i].f3)))) = true := by rw [neS, eqS_ne e]; rfl
        simp only [series_Sort.l0, if_pos (show (i : Int) < (l.length : Int) by omega), if_pos (show 0 ≤ (i : Int) by omega), rdS l i hi, if_neg c, hpl, hb, if_true, hwp, if_pos (show (0 : Int) ≤ ((o.length - 1 : Nat) : Int) by omega), if_pos (show ((o.length - 1 : Nat) : Int) < (o.length : Int) by omega), if_pos (show o.length < 3518437208883 by omega), hw]
        rw [← hwp, hpl]
        simp only [hb, if_true]
        exact r1
theorem sort_f (l : List Ser) (hl : l.length ≤ 40000) : Ev (fun k => series_Sort.f k l) (sortV l) := by
  unfold series_Sort.f
  obtain ⟨t, t1, t2, t3, t4⟩ := sorted_f l.length l (Nat.le_refl _) (by omega)
  refine Ev_bind t1 ?_
  obtain ⟨r, r1, r2, r3⟩ := dedup_loop t (by omega) t2 t.length 0 [] (by omega) (by simp) (by simp) (fun _ => rfl) (by omega) (by simp)
  rw [← sortV_of r2 fun x => (r3 x).trans (t3 x)]
  exact r1
theorem same_loopS (l : List Ser) (hl : l.length ≤ 100000) : ∀ (d i : Nat), i + d = l.length → Ev (fun k => contangoref10_Same.l0 k l l (i : Int)) true
  | 0, i, hd => by
    refine Ev_succ ?_
    simp only [contangoref10_Same.l0, if_neg (show ¬ (i : Int) < (l.length : Int) by omega)]
    exact Ev.now _
  | d + 1, i, hd => by
    have hi : i < l.length := by omega
    refine Ev_succ ?_
    simp only [contangoref10_Same.l0, if_pos (show (i : Int) < (l.length : Int) by omega), if_pos (show 0 ≤ (i : Int) by omega), beq_self_eq_true, Bool.not_true, Bool.or_self, Bool.false_eq_true, if_false, w_succ hi (by omega)]
    exact same_loopS l hl d (i + 1) (by omega)
theorem sameS_f (l : List Ser) (hl : l.length ≤ 100000) : Ev (fun k => contangoref10_Same.f k l l) true := by
  unfold contangoref10_Same.f
  simp only [if_true]
  exact same_loopS l hl l.length 0 (by omega)
end Go.Proofs.YtieifncibojciaaDoor.P
end
section
namespace Go.Proofs.YtieifncibojciaaDoor.P
open Go.RowKit Go.Proofs.YtieifncibojciaaDoorW.PrintWords Go.Proofs.YtieifncibojciaaDoorW.PrintMore Go.Proofs.YtieifncibojciaaDoor.X
set_option maxRecDepth 100000 in
theorem goes10 : Ev (fun k => contangolaw10_goes.f k) true := Ev.of (k := 60) (contangolaw10_goes.mono) (by decide +kernel)
end Go.Proofs.YtieifncibojciaaDoor.P
end
section
namespace Go.Proofs.YtieifncibojciaaDoor.Pure
set_option linter.unusedVariables false
set_option linter.unusedSimpArgs false
open Go.RowKit Go.Proofs.YtieifncibojciaaDoorW.PrintWords Go.Proofs.YtieifncibojciaaDoorW.PrintMore Go.Proofs.YtieifncibojciaaDoor.X Go.Proofs.YtieifncibojciaaDoor.P
theorem rplace_loop (l : List Ser) (s : Ser) (hl : l.length ≤ 100000) : ∀ (d i : Nat), i + d = l.length → Ev (fun k => contangoref10_Place.l0 k l (i : Int) s.f0 s.f1 s.f2 s.f3) (posS s (l.drop i) (i : Int))
  | 0, i, hd => by
    refine Ev_succ ?_
    simp only [contangoref10_Place.l0, if_neg (show ¬ (i : Int) < (l.length : Int) by omega)]
    rw [List.drop_of_length_le (by omega)]
    exact Ev.now _
  | d + 1, i, hd => by
    have hi : i < l.length := by omega
    refine Ev_succ ?_
    rw [drop_cons l i hi, posS]
    simp only [contangoref10_Place.l0, if_pos (show (i : Int) < (l.length : Int) by omega), if_pos (show 0 ≤ (i : Int) by omega), rdS l i hi, w_succ hi (by omega)]
    have e : (l[i].f0.toList == s.f0.toList && (l[i].f1 == s.f1 && (l[i].f2 == s.f2 && l[i].f3 == s.f3))) = sameB l[i] s := rfl
    rw [e]
    by_cases c : sameB l[i] s = true
    · simp only [if_pos c]; exact Ev.now _
    · simp only [if_neg c]
      have := rplace_loop l s hl d (i + 1) (by omega)
      rw [show ((i + 1 : Nat) : Int) = (i : Int) + 1 by omega] at this
      rw [show ((i + 1 : Nat) : Int) = (i : Int) + 1 by omega]
      exact this
def ofS (p : ByteArray) (l : List Ser) : List Ser := l.filter fun s => decide (s.f0.toList = p.toList)
theorem of_loop (l : List Ser) (p : ByteArray) (hl : l.length ≤ 100000) : ∀ (d i : Nat) (o : List Ser), i + d = l.length → o.length ≤ i → Ev (fun k => series_Of.l0 k p o l l.length (i : Int)) (o ++ ofS p (l.drop i))
  | 0, i, o, hd, ho => by
    refine Ev_succ ?_
    simp only [series_Of.l0, if_neg (show ¬ (i : Int) < (l.length : Int) by omega)]
    rw [List.drop_of_length_le (by omega), show ofS p [] = [] from rfl, List.append_nil]
    exact Ev.now _
  | d + 1, i, o, hd, ho => by
    have hi : i < l.length := by omega
    refine Ev_succ ?_
    rw [drop_cons l i hi]
    simp only [series_Of.l0, if_pos (show (i : Int) < (l.length : Int) by omega), if_pos (show 0 ≤ (i : Int) by omega), rdS l i hi, w_succ hi (by omega)]
    by_cases c : l[i].f0.toList = p.toList
    · simp only [if_pos c, if_pos (show o.length < 3518437208883 by omega)]
      have ih := of_loop l p hl d (i + 1) (o ++ [l[i]]) (by omega) (by simp; omega)
      rw [show ofS p (l[i] :: l.drop (i + 1)) = l[i] :: ofS p (l.drop (i + 1)) from List.filter_cons_of_pos (decide_eq_true c)]
      rw [List.append_assoc, List.singleton_append] at ih
      exact ih
    · simp only [if_neg c]
      rw [show ofS p (l[i] :: l.drop (i + 1)) = ofS p (l.drop (i + 1)) from List.filter_cons_of_neg (by simpa using c)]
      exact of_loop l p hl d (i + 1) o (by omega) (by omega)
theorem rof_loop (l : List Ser) (p : ByteArray) (hl : l.length ≤ 100000) : ∀ (d i : Nat) (o : List Ser), i + d = l.length → o.length ≤ i → Ev (fun k => contangoref10_Of.l0 k l p o (i : Int)) (o ++ ofS p (l.drop i))
  | 0, i, o, hd, ho => by
    refine Ev_succ ?_
    simp only [contangoref10_Of.l0, if_neg (show ¬ (i : Int) < (l.length : Int) by omega)]
    rw [List.drop_of_length_le (by omega), show ofS p [] = [] from rfl, List.append_nil]
    exact Ev.now _
  | d + 1, i, o, hd, ho => by
    have hi : i < l.length := by omega
    refine Ev_succ ?_
    rw [drop_cons l i hi]
    simp only [contangoref10_Of.l0, if_pos (show (i : Int) < (l.length : Int) by omega), if_pos (show 0 ≤ (i : Int) by omega), rdS l i hi, w_succ hi (by omega)]
    by_cases c : l[i].f0.toList = p.toList
    · simp only [if_pos c, if_pos (show o.length < 3518437208883 by omega)]
      have ih := rof_loop l p hl d (i + 1) (o ++ [l[i]]) (by omega) (by simp; omega)
      rw [show ofS p (l[i] :: l.drop (i + 1)) = l[i] :: ofS p (l.drop (i + 1)) from List.filter_cons_of_pos (decide_eq_true c)]
      rw [List.append_assoc, List.singleton_append] at ih
      exact ih
    · simp only [if_neg c]
      rw [show ofS p (l[i] :: l.drop (i + 1)) = ofS p (l.drop (i + 1)) from List.filter_cons_of_neg (by simpa using c)]
      exact rof_loop l p hl d (i + 1) o (by omega) (by omega)
theorem ofS_len (p : ByteArray) (l : List Ser) : (ofS p l).length ≤ l.length := List.length_filter_le _ _
theorem lists_l1 (l : List Ser) (hl : l.length ≤ 300) : ∀ (d i : Nat) (x : List Ser), i + d = x.length → x.length ≤ 300 → Ev (fun k => contangolaw10_SeriesLists.l1 k l l x x.length (i : Int)) true
  | 0, i, x, hd, hx => by
    refine Ev_succ ?_
    simp only [contangolaw10_SeriesLists.l1, if_neg (show ¬ (i : Int) < (x.length : Int) by omega)]
    refine Ev_bind (sameS_f l (by omega)) ?_
    simp only [if_true]
    exact Ev_id goes10
  | d + 1, i, x, hd, hx => by
    have hi : i < x.length := by omega
    refine Ev_succ ?_
    simp only [contangolaw10_SeriesLists.l1, if_pos (show (i : Int) < (x.length : Int) by omega), if_pos (show 0 ≤ (i : Int) by omega), w_succ hi (by omega)]
    have := lists_l1 l hl d (i + 1) (x.set (i : Int).toNat (⟨(⟨#[121]⟩ : ByteArray), 0, 0, 0⟩ : Ser)) (by rw [List.length_set]; omega) (by rw [List.length_set]; exact hx)
    rw [List.length_set] at this
    exact this
theorem lists_l0 (l : List Ser) (hl : l.length ≤ 300) (y : List Ser) (hy : y.length ≤ 300) : ∀ (d i : Nat) (x : List Ser), i + d = x.length → x.length ≤ 300 → Ev (fun k => contangolaw10_SeriesLists.l0 k l l x y x.length (i : Int)) true
  | 0, i, x, hd, hx => by
    refine Ev_succ ?_
    simp only [contangolaw10_SeriesLists.l0, if_neg (show ¬ (i : Int) < (x.length : Int) by omega)]
    exact lists_l1 l hl y.length 0 y (by omega) hy
  | d + 1, i, x, hd, hx => by
    have hi : i < x.length := by omega
    refine Ev_succ ?_
    simp only [contangolaw10_SeriesLists.l0, if_pos (show (i : Int) < (x.length : Int) by omega), if_pos (show 0 ≤ (i : Int) by omega), w_succ hi (by omega)]
    have := lists_l0 l hl y hy d (i + 1) (x.set (i : Int).toNat (⟨(⟨#[120]⟩ : ByteArray), 0, 0, 0⟩ : Ser)) (by rw [List.length_set]; omega) (by rw [List.length_set]; exact hx)
    rw [List.length_set] at this
    exact this
theorem SeriesLists : ∀ (l0 : List (S23)) (x1 : S23) (a2 : Int), (l0.length ≤ maxLen ∧ l0.length * 40 ≤ 140737488351232 ∧ ∀ x ∈ l0, ok23 x) → ok23 x1 → (Lit.int .i64 a2).wf = true → ∃ k, X.contangolaw10_SeriesLists.f k l0 x1.f0 x1.f1 x1.f2 x1.f3 a2 = some true := by
  intro l s day h0 h1 h2
  refine Ev.rounds ?_
  unfold contangolaw10_SeriesLists.f contangolaw10_few.f
  simp only [Option.bind_some]
  by_cases c : decide ((l.length : Int) ≤ 300) = true
  case neg =>
    simp only [if_neg c]
    exact Ev_id goes10
  have hl : l.length ≤ 300 := by have := of_decide_eq_true c; omega
  have hsl := sortV_len l
  have hol := ofS_len s.f0 l
  simp only [if_pos c, List.length_nil, List.nil_append, if_pos (show 0 + l.length < 3518437208883 by omega)]
  refine Ev_bind (sort_f l (by omega)) ?_
  have ho := of_loop l s.f0 (by omega) l.length 0 [] (by omega) (by simp)
  rw [List.drop_zero, List.nil_append] at ho
  refine Ev_bind (g := fun k => series_Of.f k l s.f0) ho ?_
  have hp : series_Place.f l s.f0 s.f1 s.f2 s.f3 = some (posS s l 0) := rfl
  simp only [hp, Option.bind_some]
  have hrp := rplace_loop l s (by omega) l.length 0 (by omega)
  rw [List.drop_zero] at hrp
  refine Ev_bind (g := fun k => contangoref10_Place.f k l s.f0 s.f1 s.f2 s.f3) hrp ?_
  refine Ev_bind (rsort_f l (by omega)) ?_
  refine Ev_bind (sameS_f (sortV l) (by omega)) ?_
  simp only [if_true]
  have hro := rof_loop l s.f0 (by omega) l.length 0 [] (by omega) (by simp)
  rw [List.drop_zero, List.nil_append] at hro
  refine Ev_bind (g := fun k => contangoref10_Of.f k l s.f0) hro ?_
  refine Ev_bind (sameS_f (ofS s.f0 l) (by omega)) ?_
  have e1 : series_Live.f s.f0 s.f1 s.f2 s.f3 day = some (decide (s.f2 ≥ day)) := rfl
  have e2 : contangoref10_Live.f s.f0 s.f1 s.f2 s.f3 day = some (decide (s.f2 ≥ day)) := rfl
  have e3 : (posS s l ((0 : Nat) : Int)) = posS s l 0 := rfl
  simp only [e1, e2, e3, if_true, Option.bind_some, bne_self_eq_false, Bool.false_eq_true, if_false]
  refine Ev_succ ?_
  simp only [contangolaw10_SeriesLists.j0, Bool.false_eq_true, if_false]
  exact lists_l0 l hl (ofS s.f0 l) (by omega) (sortV l).length 0 (sortV l) (by omega) (by omega)
end Go.Proofs.YtieifncibojciaaDoor.Pure
end
