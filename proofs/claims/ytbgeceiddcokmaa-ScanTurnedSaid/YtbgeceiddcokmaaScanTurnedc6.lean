/- For ScanTurned: contracts, and facts on lists and numbers, that it uses (part 6). -/
import Derived.ChangeArms
import Derived.Deep.Slices
import Derived.Laws.BitsLemmas
import Derived.Laws.Strings
import Derived.SizedLaws
import Derived.Test.YtbgeceiddcokmaaScanTurnedc5
import Derived.WideShapes
section
namespace Go.Proofs.Ytbgeceiddcokmaa.Opn
open Go.ChangeShapes Go.WideShapes Go.Proofs.YtbgeceiddcokmaaW.PrintWords
set_option linter.unusedVariables false
set_option linter.unusedSimpArgs false
structure Opens (P : Program) (t : TypeId) {α : Type} (d : Kd α) (Ok : α → Prop) : Prop where
  sz : d.sz = P.cellsOf t
  opens : ∀ {H : Type} {enc : TypeId × Value → H} {w : World} {base : Nat} {spare : Nat → Bool} {held : Bool} {fuel : Nat} {cs : List Value} {x : DataW H × List MemPlace},
    DataW.trod enc P w base spare held fuel t cs = some x → (∀ n ∈ x.1.weights P t, n ≤ reachBytes) → ∃ v, d.K w v cs ∧ Ok v
theorem opens_int {P : Program} {t : TypeId} {k : IntKind} (ht : P.underlying t = some (.int k)) (hc : P.cellsOf t = 1) : Opens P t (Kd.int k) (fun n => (Lit.int k n).wf = true) := by
  refine ⟨hc.symm, fun h _ => ?_⟩
  obtain ⟨n, rfl, _, hw⟩ := DataW.trod_int ht h
  exact ⟨n, rfl, hw⟩
theorem opens_string {P : Program} {t : TypeId} (ht : P.underlying t = some .string) (hc : P.cellsOf t = 1) : Opens P t Kd.string (fun s => s.size ≤ 140737488351232) := by
  refine ⟨hc.symm, fun h hw => ?_⟩
  obtain ⟨s, rfl, rfl, hs⟩ := DataW.trod_string ht h
  refine ⟨s, rfl, ?_⟩
  have := hw s.data.toList.length (by simp [DataW.weights])
  rw [Array.length_toList] at this
  exact this
theorem weights_all {H : Type} {P : Program} {e : TypeId} : ∀ {ds : List (DataW H)} {j : Nat} {d : DataW H}, ds[j]? = some d → ∀ n ∈ d.weights P e, n ∈ DataW.weightsAll P e ds
  | d0 :: ds, 0, d, hd, n, hn => by
    simp only [List.getElem?_cons_zero, Option.some.injEq] at hd
    subst hd
    simp only [DataW.weightsAll, List.mem_append]
    exact Or.inl hn
  | d0 :: ds, j + 1, d, hd, n, hn => by
    simp only [List.getElem?_cons_succ] at hd
    simp only [DataW.weightsAll, List.mem_append]
    exact Or.inr (weights_all hd n hn)
  | [], _, _, hd, _, _ => by simp at hd
theorem list_of {α : Type} {n : Nat} {p : Nat → α → Prop} (h : ∀ i, i < n → ∃ x, p i x) : ∃ l : List α, l.length = n ∧ ∀ i x, l[i]? = some x → p i x := by
  induction n with
  | zero => exact ⟨[], rfl, fun i x hx => by simp at hx⟩
  | succ n ih =>
    obtain ⟨l, hl, hp⟩ := ih (fun i hi => h i (by omega))
    obtain ⟨x, hx⟩ := h n (by omega)
    refine ⟨l ++ [x], by simp [hl], fun i y hy => ?_⟩
    by_cases hi : i < l.length
    · rw [List.getElem?_append_left hi] at hy
      exact hp i y hy
    · rw [List.getElem?_append_right (by omega)] at hy
      have : i - l.length = 0 := by
        cases hk : i - l.length with
        | zero => rfl
        | succ m => rw [hk] at hy; simp at hy
      rw [this] at hy
      simp at hy
      subst hy
      have : i = n := by omega
      subst this
      exact hx
theorem opens_slice {P : Program} {t e : TypeId} {α : Type} {d : Kd α} {Ok : α → Prop} (h : Opens P e d Ok) (ht : P.underlying t = some (.slice e)) (hc : P.cellsOf t = 1) {B : Nat} (hB : P.bytesOf e = B) :
    Opens P t (Kd.slice e d) (fun l => l.length ≤ maxLen ∧ l.length * B ≤ 140737488351232 ∧ ∀ x ∈ l, Ok x) := by
  subst hB
  refine ⟨hc.symm, fun {H enc w base spare held fuel cs x} hx hw => ?_⟩
  rcases DataW.trod_slice ht hx with ⟨rfl, rfl⟩ | ⟨a, len, cap, elems, rest, n, _, rfl, rfl, hb, hl, hm, hlen, hel, hsp, hns⟩
  · exact ⟨[], ⟨none, 0, rfl, Nat.le_refl _, Kd.C_nil _ _⟩, by simp⟩
  simp only [DataW.weights, ht] at hw
  have hw1 : (elems.length + rest.length) * P.bytesOf e ≤ reachBytes := by
    have := hw ((elems.length + rest.length) * P.bytesOf e) (by simp)
    exact this
  have hone : ∀ i, i < len → ∃ v : α, ∃ c, w.cells? base (a.add (i * P.cellsOf e)) (P.cellsOf e) = some c ∧ d.K w v c ∧ Ok v := by
    intro i hi
    have h1 := hel i hi
    rw [List.getElem?_eq_getElem (by omega)] at h1
    obtain ⟨c, hc1, hc2⟩ := Option.bind_eq_some_iff.1 h1
    obtain ⟨v, hv, hok⟩ := h.opens hc2 (fun n hn => hw n (by
      simp only [List.mem_cons, List.mem_append]
      right; left
      refine weights_all (j := i) ?_ n hn
      rw [List.getElem?_map, List.getElem?_eq_getElem (by omega)]
      rfl))
    exact ⟨v, c, hc1, hv, hok⟩
  obtain ⟨l, hl1, hl2⟩ := list_of hone
  subst hl1
  refine ⟨l, ⟨some a, cap, rfl, hl, rfl, ?_, fun _ => ⟨a, rfl, fun j p hj => ?_⟩⟩, ?_, ?_, ?_⟩
  · unfold maxLen at hm; omega
  · obtain ⟨c, hc1, hc2, _⟩ := hl2 j p hj
    obtain ⟨_, hlen2, hcell⟩ := World.cells?_some hc1
    refine ⟨c, by rw [h.sz]; exact hlen2, hc2, fun i u hu => ?_⟩
    have hi : i < P.cellsOf e := by
      have := (List.getElem?_eq_some_iff.1 hu).1
      omega
    have := hcell i hi
    rw [hu, ← Deep.add_add, h.sz] at *
    exact this
  · exact Nat.le_trans hl hm
  · have h2 : l.length * P.bytesOf e ≤ (elems.length + rest.length) * P.bytesOf e := Nat.mul_le_mul_right _ (by omega)
    exact Nat.le_trans h2 hw1
  · intro x hx
    obtain ⟨j, hj⟩ := List.getElem?_of_mem hx
    obtain ⟨c, _, _, ho⟩ := hl2 j x hj
    exact ho
structure OpensF (P : Program) (fs : List Field) (off : Nat) {α : Type} (d : Kd α) (Ok : α → Prop) : Prop where
  opens : ∀ {H : Type} {enc : TypeId × Value → H} {w : World} {base : Nat} {spare : Nat → Bool} {held : Bool} {n : Nat} {cs : List Value} {xs : List (DataW H × List MemPlace)},
    xs.length = fs.length → (∀ (i : Nat) (f : Field), fs[i]? = some f → DataW.trod enc P w base spare held n f.type ((cs.drop f.offset).take (P.cellsOf f.type)) = xs[i]?) →
    (∀ m ∈ DataW.weightsEach P (fs.map (·.type)) (xs.map (·.1)), m ≤ reachBytes) → ∃ v, d.K w v ((cs.drop off).take d.sz) ∧ Ok v
theorem opensF_one {P : Program} {f : Field} {off : Nat} {α : Type} {d : Kd α} {Ok : α → Prop} (h : Opens P f.type d Ok) (ho : f.offset = off) : OpensF P [f] off d Ok := by
  refine ⟨fun {H enc w base spare held n cs xs} hl hx hw => ?_⟩
  match xs, hl with
  | [x], _ =>
    have h1 := hx 0 f rfl
    obtain ⟨v, hv, hok⟩ := h.opens h1 (fun n hn => hw n (by simpa [DataW.weightsEach] using hn))
    refine ⟨v, ?_, hok⟩
    rw [h.sz, ← ho]
    exact hv
theorem opensF_cons {P : Program} {f : Field} {fs : List Field} {off : Nat} {α β : Type} {d : Kd α} {d' : Kd β} {Ok : α → Prop} {Ok' : β → Prop} (h : Opens P f.type d Ok) (ho : f.offset = off) (h' : OpensF P fs (off + d.sz) d' Ok') :
    OpensF P (f :: fs) off (Kd.pair d d') (fun p => Ok p.1 ∧ Ok' p.2) := by
  refine ⟨fun {H enc w base spare held n cs xs} hl hx hw => ?_⟩
  match xs, hl with
  | x :: xs, hl =>
    have h1 := hx 0 f rfl
    obtain ⟨v, hv, hok⟩ := h.opens h1 (fun n hn => hw n (by
      simp only [List.map_cons, DataW.weightsEach, List.mem_append]; exact Or.inl hn))
    obtain ⟨v', hv', hok'⟩ := h'.opens (cs := cs) (xs := xs) (by simpa using hl) (fun i g hg => by
      have := hx (i + 1) g (by simpa using hg)
      simpa using this) (fun m hm => hw m (by simp only [List.map_cons, DataW.weightsEach, List.mem_append]; exact Or.inr hm))
    refine ⟨(v, v'), ⟨(cs.drop off).take d.sz, (cs.drop (off + d.sz)).take d'.sz, ?_, ?_, hv'⟩, hok, hok'⟩
    · show (cs.drop off).take (d.sz + d'.sz) = _
      rw [List.take_add, List.drop_drop]
    · rw [h.sz, ← ho]; exact hv
theorem opens_struct {P : Program} {t : TypeId} {fs : Array Field} {α β : Type} {d : Kd α} {Ok : α → Prop} (h : OpensF P fs.toList 0 d Ok) (ht : P.underlying t = some (.struct fs)) (hc : d.sz = P.cellsOf t) (f : β → α) (mk : α → β) (hf : ∀ a, f (mk a) = a) :
    Opens P t (Kd.iso d f) (fun b => Ok (f b)) := by
  refine ⟨hc, fun {H enc w base spare held fuel cs x} hx hw => ?_⟩
  obtain ⟨xs, n, _, rfl, hlen, hsz, hall⟩ := DataW.trod_struct ht hx
  simp only [DataW.weights, ht] at hw
  obtain ⟨v, hv, hok⟩ := h.opens (cs := cs) (xs := xs) (by simpa using hsz) (fun i f hf => hall i f (by simpa using hf)) hw
  refine ⟨mk v, ?_, by rw [hf]; exact hok⟩
  show d.K w (f (mk v)) cs
  rw [hf]
  rw [List.drop_zero, hc, ← hlen, List.take_length] at hv
  exact hv
theorem opens_imp {P : Program} {t : TypeId} {α : Type} {d : Kd α} {Ok Ok' : α → Prop} (h : Opens P t d Ok) (hi : ∀ v, Ok v → Ok' v) : Opens P t d Ok' :=
  ⟨h.sz, fun hx hw => let ⟨v, hv, ho⟩ := h.opens hx hw; ⟨v, hv, hi v ho⟩⟩
end Go.Proofs.Ytbgeceiddcokmaa.Opn
end
section
namespace Go.Proofs.Ytbgeceiddcokmaa.X
open Go.RowKit Go.Proofs.YtbgeceiddcokmaaW.PrintWords Go.Proofs.YtbgeceiddcokmaaW.PrintLast Go.Proofs.YtbgeceiddcokmaaW.PrintMore
attribute [local go_sem] max2_int min2_int max_two min_two max_three min_three max_four min_four
set_option linter.unusedVariables false
set_option linter.unusedSimpArgs false
def ok39 (v : S39) : Prop := v.f0.size ≤ 140737488351232 ∧ ((Lit.int .i64 v.f1).wf = true ∧ ((Lit.int .i64 v.f2).wf = true ∧ ((Lit.int .i64 v.f3).wf = true)))
theorem opens39 : Opn.Opens Try.prog 39 k39 ok39 := by
  have hu := Try.underlying39
  refine Opn.opens_imp (Opn.opens_struct (Ok := fun (p : ByteArray × (Int × (Int × (Int)))) => p.1.size ≤ 140737488351232 ∧ ((Lit.int .i64 p.2.1).wf = true ∧ ((Lit.int .i64 p.2.2.1).wf = true ∧ ((Lit.int .i64 p.2.2.2).wf = true)))) ?hF hu (by kernel_rfl) (fun x : S39 => (x.f0, x.f1, x.f2, x.f3)) (fun a => ⟨a.1, a.2.1, a.2.2.1, a.2.2.2⟩) (fun _ => rfl)) ?hI
  case hF =>
    refine Opn.opensF_cons (Ok := fun (p : ByteArray) => p.size ≤ 140737488351232) (Ok' := fun (p : Int × (Int × (Int))) => (Lit.int .i64 p.1).wf = true ∧ ((Lit.int .i64 p.2.1).wf = true ∧ ((Lit.int .i64 p.2.2).wf = true))) (h := ?_) (ho := ?_) (h' := ?_)
    · exact Opn.opens_string Try.underlying9 (by kernel_rfl)
    · rfl
    · skip
      refine Opn.opensF_cons (Ok := fun (p : Int) => (Lit.int .i64 p).wf = true) (Ok' := fun (p : Int × (Int)) => (Lit.int .i64 p.1).wf = true ∧ ((Lit.int .i64 p.2).wf = true)) (h := ?_) (ho := ?_) (h' := ?_)
      · exact Opn.opens_int Try.underlying3 (by kernel_rfl)
      · rfl
      · skip
        refine Opn.opensF_cons (Ok := fun (p : Int) => (Lit.int .i64 p).wf = true) (Ok' := fun (p : Int) => (Lit.int .i64 p).wf = true) (h := ?_) (ho := ?_) (h' := ?_)
        · exact Opn.opens_int Try.underlying3 (by kernel_rfl)
        · rfl
        · skip
          refine Opn.opensF_one (Ok := fun (p : Int) => (Lit.int .i64 p).wf = true) (h := ?_) (ho := ?_)
          · exact Opn.opens_int Try.underlying3 (by kernel_rfl)
          · rfl
  case hI => exact fun v h => h
def ok91 (v : S91) : Prop := ok39 v.f0 ∧ ((v.f1.length ≤ maxLen ∧ v.f1.length * 8 ≤ 140737488351232 ∧ ∀ x ∈ v.f1, (Lit.int .i64 x).wf = true) ∧ ((Lit.int .i64 v.f2).wf = true))
theorem opens91 : Opn.Opens Try.prog 91 k91 ok91 := by
  have hu := Try.underlying91
  refine Opn.opens_imp (Opn.opens_struct (Ok := fun (p : S39 × (List Int × (Int))) => ok39 p.1 ∧ ((p.2.1.length ≤ maxLen ∧ p.2.1.length * 8 ≤ 140737488351232 ∧ ∀ x ∈ p.2.1, (Lit.int .i64 x).wf = true) ∧ ((Lit.int .i64 p.2.2).wf = true))) ?hF hu (by kernel_rfl) (fun x : S91 => (x.f0, x.f1, x.f2)) (fun a => ⟨a.1, a.2.1, a.2.2⟩) (fun _ => rfl)) ?hI
  case hF =>
    refine Opn.opensF_cons (Ok := fun (p : S39) => ok39 p) (Ok' := fun (p : List Int × (Int)) => (p.1.length ≤ maxLen ∧ p.1.length * 8 ≤ 140737488351232 ∧ ∀ x ∈ p.1, (Lit.int .i64 x).wf = true) ∧ ((Lit.int .i64 p.2).wf = true)) (h := ?_) (ho := ?_) (h' := ?_)
    · exact opens39
    · rfl
    · skip
      refine Opn.opensF_cons (Ok := fun (p : List Int) => (p.length ≤ maxLen ∧ p.length * 8 ≤ 140737488351232 ∧ ∀ x ∈ p, (Lit.int .i64 x).wf = true)) (Ok' := fun (p : Int) => (Lit.int .i64 p).wf = true) (h := ?_) (ho := ?_) (h' := ?_)
      · exact Opn.opens_slice (Opn.opens_int Try.underlying3 (by kernel_rfl)) Try.underlying23 (by kernel_rfl) (B := 8) (by kernel_rfl)
      · rfl
      · skip
        refine Opn.opensF_one (Ok := fun (p : Int) => (Lit.int .i64 p).wf = true) (h := ?_) (ho := ?_)
        · exact Opn.opens_int Try.underlying3 (by kernel_rfl)
        · rfl
  case hI => exact fun v h => h
def ok73 (v : S73) : Prop := ok39 v.f0 ∧ ((Lit.int .i64 v.f1).wf = true ∧ ((Lit.int .i64 v.f2).wf = true))
theorem opens73 : Opn.Opens Try.prog 73 k73 ok73 := by
  have hu := Try.underlying73
  refine Opn.opens_imp (Opn.opens_struct (Ok := fun (p : S39 × (Int × (Int))) => ok39 p.1 ∧ ((Lit.int .i64 p.2.1).wf = true ∧ ((Lit.int .i64 p.2.2).wf = true))) ?hF hu (by kernel_rfl) (fun x : S73 => (x.f0, x.f1, x.f2)) (fun a => ⟨a.1, a.2.1, a.2.2⟩) (fun _ => rfl)) ?hI
  case hF =>
    refine Opn.opensF_cons (Ok := fun (p : S39) => ok39 p) (Ok' := fun (p : Int × (Int)) => (Lit.int .i64 p.1).wf = true ∧ ((Lit.int .i64 p.2).wf = true)) (h := ?_) (ho := ?_) (h' := ?_)
    · exact opens39
    · rfl
    · skip
      refine Opn.opensF_cons (Ok := fun (p : Int) => (Lit.int .i64 p).wf = true) (Ok' := fun (p : Int) => (Lit.int .i64 p).wf = true) (h := ?_) (ho := ?_) (h' := ?_)
      · exact Opn.opens_int Try.underlying3 (by kernel_rfl)
      · rfl
      · skip
        refine Opn.opensF_one (Ok := fun (p : Int) => (Lit.int .i64 p).wf = true) (h := ?_) (ho := ?_)
        · exact Opn.opens_int Try.underlying3 (by kernel_rfl)
        · rfl
  case hI => exact fun v h => h
end Go.Proofs.Ytbgeceiddcokmaa.X
end
section
namespace Go.Proofs.Ytbgeceiddcokmaa.P
open Go.RowKit Go.Proofs.YtbgeceiddcokmaaW.PrintWords Go.Proofs.YtbgeceiddcokmaaW.PrintMore Go.Proofs.Ytbgeceiddcokmaa.X
theorem Ev_succ {α : Type} {g : Nat → Option α} {r : α} (h : Ev (fun k => g (k + 1)) r) : Ev g r := Ev.step (fun _ => rfl) h
theorem Ev_bind {α β : Type} {g : Nat → Option α} {f : Nat → α → Option β} {a : α} {r : β} (h : Ev g a) (k : Ev (fun n => f n a) r) : Ev (fun n => (g n).bind (f n)) r := Ev.bind h k
theorem Ev_id {α : Type} {g : Nat → Option α} {r : α} (h : Ev g r) : Ev (fun n => (g n).bind fun x => some x) r := Ev.bind h (Ev.now _)
theorem w_id {x : Int} (h1 : -9223372036854775808 ≤ x) (h2 : x ≤ 9223372036854775807) : wrap64 x = x := by unfold wrap64; omega
theorem w_succ {i n : Nat} (h : i < n) (hn : n ≤ 9223372036854775807) : wrap64 ((i : Int) + 1) = ((i + 1 : Nat) : Int) := by rw [w_id (by omega) (by omega)]; omega
theorem w_pred {i : Nat} (h : 0 < i) (hn : i ≤ 9223372036854775807) : wrap64 ((i : Int) - 1) = ((i - 1 : Nat) : Int) := by rw [w_id (by omega) (by omega)]; omega
theorem rd_nat (xs : List Int) (i : Nat) (h : i < xs.length) : rd xs (i : Int) = xs[i] := by simp [rd, h]
theorem drop_cons {α : Type} (l : List α) (i : Nat) (h : i < l.length) : l.drop i = l[i] :: l.drop (i + 1) := (List.getElem_cons_drop h).symm
theorem i64_and32 (n : Int) : Go.bits .and .i64 n 4294967295 = n % 4294967296 := by
  have h127 : (BitVec.ofInt 64 4294967295).toNat = 2 ^ 32 - 1 := by decide
  have key : (BitVec.ofInt 64 n &&& BitVec.ofInt 64 4294967295).toNat = (n % ((2 ^ 64 : Nat) : Int)).toNat % 2 ^ 32 := by
    rw [BitVec.toNat_and, BitVec.toNat_ofInt, h127, Nat.and_two_pow_sub_one_eq_mod]
  show IntKind.i64.wrap ((BitVec.ofInt 64 n &&& BitVec.ofInt 64 4294967295).toNat : Nat) = n % 4294967296
  rw [key, IntKind.wrap_i64]
  omega
end Go.Proofs.Ytbgeceiddcokmaa.P
end
section
namespace Go.Proofs.Ytbgeceiddcokmaa.P
set_option linter.unusedVariables false
set_option linter.unusedSimpArgs false
open Go.RowKit Go.Proofs.YtbgeceiddcokmaaW.PrintWords Go.Proofs.YtbgeceiddcokmaaW.PrintMore Go.Proofs.Ytbgeceiddcokmaa.X
abbrev Ser := S39
abbrev Pos := S73
def cmpI (a b : Int) : Int := if a < b then -1 else if a > b then 1 else 0
def cmpB (a b : ByteArray) : Int := if (Op.bytesLess a.toList b.toList) = true then -1 else if (Op.bytesLess b.toList a.toList) = true then 1 else 0
def cmpS (a b : Ser) : Int :=
  if a.f0.toList = b.f0.toList then (if a.f2 = b.f2 then (if a.f1 = b.f1 then cmpI a.f3 b.f3 else cmpI a.f1 b.f1) else cmpI a.f2 b.f2) else cmpB a.f0 b.f0
theorem cmpI_f (a b : Int) : cmp_Compare_int.f a b = some (cmpI a b) := by
  unfold cmp_Compare_int.f cmp_isNaN_int.f cmpI
  simp only [bne_self_eq_false, Option.bind_some, Bool.false_eq_true, if_false]
  split
  · rfl
  · split <;> rfl
theorem cmpB_f (a b : ByteArray) : cmp_Compare_string.f a b = some (cmpB a b) := by
  unfold cmp_Compare_string.f cmp_isNaN_string.f cmpB
  simp only [bne_self_eq_false, Option.bind_some, Bool.false_eq_true, if_false]
  split
  · rfl
  · split <;> rfl
theorem cmpS_f (a b : Ser) : series_Compare.f a.f0 a.f1 a.f2 a.f3 b.f0 b.f1 b.f2 b.f3 = some (cmpS a b) := by
  unfold series_Compare.f cmpS
  simp only [cmpI_f, cmpB_f, Option.bind_some]
  by_cases h0 : a.f0.toList = b.f0.toList
  · by_cases h2 : a.f2 = b.f2
    · by_cases h1 : a.f1 = b.f1
      · by_cases h3 : a.f3 = b.f3
        · simp [h0, h1, h2, h3, cmpI]
        · simp [h0, h1, h2, h3]
      · simp [h0, h1, h2]
    · simp [h0, h2]
  · simp [h0]
def eqS (a b : Ser) : Bool := a.f0.toList == b.f0.toList && (a.f1 == b.f1 && (a.f2 == b.f2 && a.f3 == b.f3))
def lots (n : Int) : Bool := decide (0 ≤ n) && decide (n ≤ 1048576)
theorem lots_f (n : Int) : position_lots.f n = some (lots n) := by
  unfold position_lots.f lots
  by_cases h : n ≥ 0
  · rw [if_pos h, decide_eq_true (show 0 ≤ n from h), Bool.true_and]
  · rw [if_neg h, decide_eq_false (show ¬ 0 ≤ n from h), Bool.false_and]
def posBad (p : Pos) : Bool := !(lots p.f1) || !(lots p.f2) || (decide (p.f1 = 0) && decide (p.f2 = 0))
def behind (prev : Option Ser) (s : Ser) : Bool := match prev with | some q => decide (cmpS q s ≥ 0) | none => false
def posGo : Option Ser → List Pos → Int
  | _, [] => 0
  | prev, p :: r => if behind prev p.f0 = true then 19 else if posBad p = true then 18 else posGo (some p.f0) r
def posCheck (l : List Pos) : Int := if l.length > 128 then 8 else posGo none l
def prevOf (l : List Pos) (i : Nat) : Option Ser := if i = 0 then none else (l[i - 1]?).map (·.f0)
theorem rdPos (l : List Pos) (i : Nat) (h : i < l.length) : rd_T73 l (i : Int) = l[i] := by simp [rd_T73, h]
theorem posJ (l : List Pos) (i : Nat) (b : Bool) (p : Pos) (r : Int)
    (h : b = false → posBad p = false → Ev (fun k => position_Check.l0 k l l l.length (wrap64 ((i : Int) + 1))) r) :
    Ev (fun k => position_Check.j1 k l l l.length i b p.f0.f0 p.f0.f1 p.f0.f2 p.f0.f3 p.f1 p.f2) (if b = true then 19 else if posBad p = true then 18 else r) := by
  refine Ev_succ ?_
  simp only [position_Check.j1, lots_f, Option.bind_some]
  cases b with
  | true => exact Ev.now _
  | false =>
    simp only [Bool.false_eq_true, if_false]
    cases h1 : lots p.f1 with
    | false => simp only [posBad, h1, Bool.not_false, Bool.true_or, if_true, Bool.false_eq_true, if_false]; exact Ev.now _
    | true =>
      cases h2 : lots p.f2 with
      | false => simp only [posBad, h1, h2, Bool.not_false, Bool.not_true, Bool.true_or, Bool.or_true, if_true, Bool.false_eq_true, if_false]; exact Ev.now _
      | true =>
        simp only [if_true]
        by_cases z1 : p.f1 = 0
        · by_cases z2 : p.f2 = 0
          · have hb : posBad p = true := by simp [posBad, z1, z2]
            simp only [hb, if_true, if_pos z1, if_pos z2]
            exact Ev.now _
          · have hb : posBad p = false := by simp only [posBad, h1, h2]; simp [z2]
            simp only [hb, Bool.false_eq_true, if_false, if_neg z2, ite_self]
            exact h rfl hb
        · have hb : posBad p = false := by simp only [posBad, h1, h2]; simp [z1]
          simp only [hb, Bool.false_eq_true, if_false, if_neg z1]
          exact h rfl hb
theorem posLoop (l : List Pos) (hl : l.length ≤ 4611686018427387904) : ∀ (d i : Nat), i + d = l.length → Ev (fun k => position_Check.l0 k l l l.length i) (posGo (prevOf l i) (l.drop i))
  | 0, i, hd => by
    refine Ev_succ ?_
    simp only [position_Check.l0, if_neg (show ¬ ((i : Int) < (l.length : Int)) by omega)]
    rw [List.drop_of_length_le (by omega)]
    exact Ev.now _
  | d + 1, i, hd => by
    have hi : i < l.length := by omega
    have ih := posLoop l hl d (i + 1) (by omega)
    rw [← w_succ hi (by omega)] at ih
    have hprev : prevOf l (i + 1) = some l[i].f0 := by simp [prevOf, hi]
    rw [hprev] at ih
    rw [drop_cons l i hi]
    refine Ev_succ ?_
    simp only [position_Check.l0, if_pos (show (i : Int) < (l.length : Int) by omega), if_pos (show 0 ≤ (i : Int) by omega), rdPos l i hi]
    by_cases h0 : i = 0
    · subst h0
      simp only [if_neg (show ¬ (((0 : Nat) : Int) > 0) by omega)]
      exact posJ l 0 false l[0] _ (fun _ _ => ih)
    · have hp := w_pred (show 0 < i by omega) (by omega)
      simp only [if_pos (show ((i : Int) > 0) by omega), hp, if_pos (show 0 ≤ ((i - 1 : Nat) : Int) by omega), if_pos (show ((i - 1 : Nat) : Int) < (l.length : Int) by omega), rdPos l (i - 1) (by omega), cmpS_f, Option.bind_some]
      have hb : behind (prevOf l i) l[i].f0 = decide (cmpS l[i - 1].f0 l[i].f0 ≥ 0) := by
        simp [behind, prevOf, h0, show i - 1 < l.length by omega]
      simp only [posGo, hb]
      exact posJ l i _ l[i] _ (fun _ _ => ih)
theorem posCheck_f (l : List Pos) (hl : l.length ≤ 4611686018427387904) : Ev (fun k => position_Check.f k l) (posCheck l) := by
  unfold position_Check.f posCheck
  by_cases h : l.length > 128
  · simp only [if_pos (show (l.length : Int) > 128 by omega), if_pos h]
    exact Ev.now _
  · simp only [if_neg (show ¬ ((l.length : Int) > 128) by omega), if_neg h]
    exact posLoop l hl l.length 0 (by omega)
end Go.Proofs.Ytbgeceiddcokmaa.P
end
section
namespace Go.Proofs.Ytbgeceiddcokmaa.P
set_option linter.unusedVariables false
set_option linter.unusedSimpArgs false
open Go.RowKit Go.Proofs.YtbgeceiddcokmaaW.PrintWords Go.Proofs.YtbgeceiddcokmaaW.PrintMore Go.Proofs.Ytbgeceiddcokmaa.X
def fits (n : Int) : Bool := decide (-1152921504606846976 ≤ n) && decide (n ≤ 1152921504606846976)
theorem fits_iff (n : Int) : fits n = true ↔ -1152921504606846976 ≤ n ∧ n ≤ 1152921504606846976 := by simp [fits]
theorem fits_f (n : Int) : cents_Fits.f n = some (fits n) := by
  unfold cents_Fits.f fits
  by_cases h : n ≥ -1152921504606846976
  · rw [if_pos h, decide_eq_true (show -1152921504606846976 ≤ n from h), Bool.true_and]
  · rw [if_neg h, decide_eq_false (show ¬ -1152921504606846976 ≤ n from h), Bool.false_and]
def fitting (n : Int) : Int × Int := if fits n = true then (n, 0) else (0, 3)
theorem fitting_f (n : Int) : cents_fitting.f n = some (fitting n) := by
  unfold cents_fitting.f fitting
  simp only [fits_f, Option.bind_some]
  split <;> rfl
def sumE (l : List Int) : Int × Int := if l.all fits = true then fitting l.sum else (0, 2)
theorem sumLoop (l : List Int) (hl : l.length ≤ 1073741824) : ∀ (d i : Nat) (hi lo : Int), i + d = l.length → -(268435457 * (i : Int)) ≤ hi → hi ≤ 268435457 * (i : Int) → 0 ≤ lo → lo ≤ 4294967295 * (i : Int) →
    Ev (fun k => cents_Sum.l0 k l hi lo l.length i) (if (l.drop i).all fits = true then fitting (hi * 4294967296 + lo + (l.drop i).sum) else (0, 2))
  | 0, i, hi, lo, hd, h1, h2, h3, h4 => by
    refine Ev_succ ?_
    rw [List.drop_of_length_le (by omega)]
    have e1 : wrap64 (hi + lo / 4294967296) = hi + lo / 4294967296 := w_id (by omega) (by omega)
    simp only [cents_Sum.l0, if_neg (show ¬ ((i : Int) < (l.length : Int)) by omega), e1, i64_and32, List.all_nil, if_true, List.sum_nil, Int.add_zero]
    by_cases c1 : hi + lo / 4294967296 < -268435456
    · simp only [if_pos c1]
      have : fitting (hi * 4294967296 + lo) = (0, 3) := by
        unfold fitting
        rw [if_neg]
        rw [fits_iff]
        omega
      rw [this]
      exact Ev.now _
    · by_cases c2 : hi + lo / 4294967296 > 268435456
      · simp only [if_neg c1, if_pos c2]
        have : fitting (hi * 4294967296 + lo) = (0, 3) := by
          unfold fitting
          rw [if_neg]
          rw [fits_iff]
          omega
        rw [this]
        exact Ev.now _
      · have e2 : wrap64 ((hi + lo / 4294967296) * 4294967296) = (hi + lo / 4294967296) * 4294967296 := w_id (by omega) (by omega)
        have e3 : wrap64 ((hi + lo / 4294967296) * 4294967296 + lo % 4294967296) = hi * 4294967296 + lo := by rw [w_id (by omega) (by omega)]; omega
        simp only [if_neg c1, if_neg c2, e2, e3, fitting_f, Option.bind_some]
        exact Ev.now _
  | d + 1, i, hi, lo, hd, h1, h2, h3, h4 => by
    have hlt : i < l.length := by omega
    rw [drop_cons l i hlt]
    refine Ev_succ ?_
    simp only [cents_Sum.l0, if_pos (show (i : Int) < (l.length : Int) by omega), if_pos (show 0 ≤ (i : Int) by omega), rd_nat l i hlt, fits_f, Option.bind_some, i64_and32, List.all_cons, List.sum_cons]
    by_cases hf : fits l[i] = true
    case neg =>
      have hf' : fits l[i] = false := by simpa using hf
      simp only [hf', Bool.false_eq_true, if_false, Bool.false_and]; exact Ev.now _
    case pos =>
      have hb := (fits_iff _).1 hf
      have e1 : wrap64 (hi + l[i] / 4294967296) = hi + l[i] / 4294967296 := w_id (by omega) (by omega)
      have e2 : wrap64 (lo + l[i] % 4294967296) = lo + l[i] % 4294967296 := w_id (by omega) (by omega)
      have ih := sumLoop l hl d (i + 1) (hi + l[i] / 4294967296) (lo + l[i] % 4294967296) (by omega) (by omega) (by omega) (by omega) (by omega)
      rw [← w_succ hlt (by omega)] at ih
      simp only [hf, if_true, Bool.true_and, e1, e2]
      have e4 : (hi + l[i] / 4294967296) * 4294967296 + (lo + l[i] % 4294967296) + (l.drop (i + 1)).sum = hi * 4294967296 + lo + (l[i] + (l.drop (i + 1)).sum) := by omega
      rw [e4] at ih
      exact ih
theorem sum_f (l : List Int) (hl : l.length ≤ 1073741824) : Ev (fun k => cents_Sum.f k l) (sumE l) := by
  have := sumLoop l hl l.length 0 0 0 (by omega) (by omega) (by omega) (by omega) (by omega)
  simpa [cents_Sum.f, sumE] using this
end Go.Proofs.Ytbgeceiddcokmaa.P
end
section
namespace Go.Proofs.Ytbgeceiddcokmaa.P
set_option linter.unusedVariables false
set_option linter.unusedSimpArgs false
open Go.RowKit Go.Proofs.YtbgeceiddcokmaaW.PrintWords Go.Proofs.YtbgeceiddcokmaaW.PrintMore Go.Proofs.Ytbgeceiddcokmaa.X
abbrev Arr := S91
theorem rdArr (l : List Arr) (i : Nat) (h : i < l.length) : rd_T91 l (i : Int) = l[i] := by simp [rd_T91, h]
def lossBad (x : Int) : Bool := decide (x < -68719476736) || decide (x > 68719476736)
def deltaBad (x : Int) : Bool := decide (x < -1000) || decide (x > 1000)
def lenBad (n m : Nat) : Bool := decide (m < 1) || decide (m > 32) || !(decide (m = n))
def arrErr (n : Nat) (a : Arr) : Int := if lenBad n a.f1.length = true then 27 else if a.f1.any lossBad = true then 3 else if deltaBad a.f2 = true then 2 else 0
def scanGo (n : Nat) : Option Ser → List Arr → Int
  | _, [] => 0
  | prev, a :: r => if behind prev a.f0 = true then 19 else if arrErr n a ≠ 0 then arrErr n a else scanGo n (some a.f0) r
def scanN (l : List Arr) : Nat := match l with | [] => 0 | a :: _ => a.f1.length
def scanCheck (l : List Arr) : Int := if l.length > 128 then 8 else scanGo (scanN l) none l
def prevOfA (l : List Arr) (i : Nat) : Option Ser := if i = 0 then none else (l[i - 1]?).map (·.f0)
theorem scanL1 (l : List Arr) (i : Nat) (ls ls' : List Int) (b0 : ByteArray) (b1 b2 b3 dl : Int) (r : Int) (hl : ls.length ≤ 4611686018427387904)
    (h : ls.any lossBad = false → deltaBad dl = false → Ev (fun k => scan_Check.l0 k l l l.length (wrap64 ((i : Int) + 1))) r) : ∀ (d j : Nat), j + d = ls.length → (ls.take j).any lossBad = false →
    Ev (fun k => scan_Check.l1 k l l l.length i ls ls.length j b0 b1 b2 b3 ls' dl) (if (ls.drop j).any lossBad = true then 3 else if deltaBad dl = true then 2 else r)
  | 0, j, hd, ht => by
    refine Ev_succ ?_
    rw [List.drop_of_length_le (by omega)]
    simp only [scan_Check.l1, if_neg (show ¬ ((j : Int) < (ls.length : Int)) by omega), List.any_nil, Bool.false_eq_true, if_false]
    have hall : ls.any lossBad = false := by rw [List.take_of_length_le (by omega)] at ht; exact ht
    by_cases c1 : dl < -1000
    · simp only [if_pos c1, deltaBad, decide_eq_true c1, Bool.true_or, if_true]; exact Ev.now _
    · by_cases c2 : dl > 1000
      · simp only [if_neg c1, if_pos c2, deltaBad, decide_eq_true c2, Bool.or_true, if_true]; exact Ev.now _
      · have hb : deltaBad dl = false := by simp only [deltaBad, decide_eq_false c1, decide_eq_false c2]; rfl
        simp only [if_neg c1, if_neg c2, hb, Bool.false_eq_true, if_false]
        exact h hall hb
  | d + 1, j, hd, ht => by
    have hj : j < ls.length := by omega
    rw [drop_cons ls j hj]
    refine Ev_succ ?_
    simp only [scan_Check.l1, if_pos (show (j : Int) < (ls.length : Int) by omega), if_pos (show 0 ≤ (j : Int) by omega), rd_nat ls j hj, List.any_cons]
    by_cases c1 : ls[j] < -68719476736
    · simp only [if_pos c1, lossBad, decide_eq_true c1, Bool.true_or, if_true]; exact Ev.now _
    · by_cases c2 : ls[j] > 68719476736
      · simp only [if_neg c1, if_pos c2, lossBad, decide_eq_true c2, Bool.true_or, Bool.or_true, if_true]; exact Ev.now _
      · have hb : lossBad ls[j] = false := by simp only [lossBad, decide_eq_false c1, decide_eq_false c2]; rfl
        have ih := scanL1 l i ls ls' b0 b1 b2 b3 dl r hl h d (j + 1) (by omega) (by rw [List.take_succ_eq_append_getElem hj, List.any_append, ht]; simp [hb])
        rw [← w_succ hj (by omega)] at ih
        simp only [if_neg c1, if_neg c2, hb, Bool.false_or]
        exact ih
theorem scanJ (l : List Arr) (hl : 0 < l.length) (hl2 : l.length ≤ 4611686018427387904) (i : Nat) (b : Bool) (a : Arr) (ha : a.f1.length ≤ 4611686018427387904) (r : Int)
    (h : b = false → arrErr (scanN l) a = 0 → Ev (fun k => scan_Check.l0 k l l l.length (wrap64 ((i : Int) + 1))) r) :
    Ev (fun k => scan_Check.j1 k l l l.length i b a.f0.f0 a.f0.f1 a.f0.f2 a.f0.f3 a.f1 a.f2) (if b = true then 19 else if arrErr (scanN l) a ≠ 0 then arrErr (scanN l) a else r) := by
  have hn : (((rd_T91 l 0).f1).length : Int) = (scanN l : Int) := by
    cases l with
    | nil => simp at hl
    | cons x t => rfl
  have hj2 : ∀ c : Bool, c = lenBad (scanN l) a.f1.length → b = false → Ev (fun k => scan_Check.j2 k l l l.length i c a.f0.f0 a.f0.f1 a.f0.f2 a.f0.f3 a.f1 a.f2) (if arrErr (scanN l) a ≠ 0 then arrErr (scanN l) a else r) := by
    intro c hc hb
    refine Ev_succ ?_
    simp only [scan_Check.j2]
    cases hcc : lenBad (scanN l) a.f1.length with
    | true =>
      have : arrErr (scanN l) a = 27 := by simp [arrErr, hcc]
      simp only [hc, hcc, if_true, this]
      exact Ev.now _
    | false =>
      simp only [hc, hcc, Bool.false_eq_true, if_false]
      have key := scanL1 l i a.f1 a.f1 a.f0.f0 a.f0.f1 a.f0.f2 a.f0.f3 a.f2 r ha (fun h1 h2 => h hb (by simp [arrErr, hcc, h1, h2])) a.f1.length 0 (by omega) (by simp)
      rw [List.drop_zero] at key
      have e : (if a.f1.any lossBad = true then (3 : Int) else if deltaBad a.f2 = true then 2 else r) = (if arrErr (scanN l) a ≠ 0 then arrErr (scanN l) a else r) := by
        unfold arrErr
        simp only [hcc, Bool.false_eq_true, if_false]
        by_cases h1 : a.f1.any lossBad = true
        · simp [h1]
        · by_cases h2 : deltaBad a.f2 = true
          · simp [h1, h2]
          · simp [h1, h2]
      rw [e] at key
      exact key
  refine Ev_succ ?_
  simp only [scan_Check.j1]
  cases hb : b with
  | true => exact Ev.now _
  | false =>
    simp only [Bool.false_eq_true, if_false, hn]
    by_cases c1 : (a.f1.length : Int) < 1
    · simp only [if_pos c1]
      exact hj2 true (by have e1 : decide (a.f1.length < 1) = true := decide_eq_true (by omega); simp only [lenBad, e1, Bool.true_or]) hb
    · by_cases c2 : (a.f1.length : Int) > 32
      · simp only [if_neg c1, if_pos c2]
        exact hj2 true (by have e1 : decide (a.f1.length > 32) = true := decide_eq_true (by omega); simp only [lenBad, e1, Bool.true_or, Bool.or_true]) hb
      · simp only [if_neg c1, if_neg c2, if_pos (show 0 < (l.length : Int) by omega)]
        refine hj2 _ ?_ hb
        have e1 : decide (a.f1.length < 1) = false := decide_eq_false (by omega)
        have e2 : decide (a.f1.length > 32) = false := decide_eq_false (by omega)
        simp only [lenBad, e1, e2, Bool.false_or]
        by_cases e : a.f1.length = scanN l
        · simp [e]
        · have e' : ¬ ((a.f1.length : Int) = (scanN l : Int)) := by omega
          rw [decide_eq_false e, bne_iff_ne.2 e']
          rfl
theorem scanLoop (l : List Arr) (hl2 : l.length ≤ 4611686018427387904) (ha : ∀ a ∈ l, a.f1.length ≤ 4611686018427387904) : ∀ (d i : Nat), i + d = l.length → Ev (fun k => scan_Check.l0 k l l l.length i) (scanGo (scanN l) (prevOfA l i) (l.drop i))
  | 0, i, hd => by
    refine Ev_succ ?_
    simp only [scan_Check.l0, if_neg (show ¬ ((i : Int) < (l.length : Int)) by omega)]
    rw [List.drop_of_length_le (by omega)]
    exact Ev.now _
  | d + 1, i, hd => by
    have hi : i < l.length := by omega
    have ih := scanLoop l hl2 ha d (i + 1) (by omega)
    rw [← w_succ hi (by omega)] at ih
    have hprev : prevOfA l (i + 1) = some l[i].f0 := by simp [prevOfA, hi]
    rw [hprev] at ih
    rw [drop_cons l i hi]
    refine Ev_succ ?_
    simp only [scan_Check.l0, if_pos (show (i : Int) < (l.length : Int) by omega), if_pos (show 0 ≤ (i : Int) by omega), rdArr l i hi]
    by_cases h0 : i = 0
    · subst h0
      simp only [if_neg (show ¬ (((0 : Nat) : Int) > 0) by omega)]
      exact scanJ l hi hl2 0 false l[0] (ha _ (List.getElem_mem hi)) _ (fun _ _ => ih)
    · have hp := w_pred (show 0 < i by omega) (by omega)
      simp only [if_pos (show ((i : Int) > 0) by omega), hp, if_pos (show 0 ≤ ((i - 1 : Nat) : Int) by omega), if_pos (show ((i - 1 : Nat) : Int) < (l.length : Int) by omega), rdArr l (i - 1) (by omega), cmpS_f, Option.bind_some]
      have hb : behind (prevOfA l i) l[i].f0 = decide (cmpS l[i - 1].f0 l[i].f0 ≥ 0) := by
        simp [behind, prevOfA, h0, show i - 1 < l.length by omega]
      simp only [scanGo, hb]
      exact scanJ l (by omega) hl2 i _ l[i] (ha _ (List.getElem_mem hi)) _ (fun _ _ => ih)
theorem scanCheck_f (l : List Arr) (hl : l.length ≤ 4611686018427387904) (ha : ∀ a ∈ l, a.f1.length ≤ 4611686018427387904) : Ev (fun k => scan_Check.f k l) (scanCheck l) := by
  unfold scan_Check.f scanCheck
  by_cases h : l.length > 128
  · simp only [if_pos (show (l.length : Int) > 128 by omega), if_pos h]
    exact Ev.now _
  · simp only [if_neg (show ¬ ((l.length : Int) > 128) by omega), if_neg h]
    exact scanLoop l hl ha l.length 0 (by omega)
def both (l : List Pos) (arrays : List Arr) : Int := if scanCheck arrays = 0 then posCheck l else scanCheck arrays
theorem both_f (l : List Pos) (r : List Arr) (hl : l.length ≤ 4611686018427387904) (hr : r.length ≤ 4611686018427387904) (ha : ∀ a ∈ r, a.f1.length ≤ 4611686018427387904) : Ev (fun k => scan_both.f k l r) (both l r) := by
  unfold scan_both.f both
  refine Ev_bind (scanCheck_f r hr ha) ?_
  by_cases h : scanCheck r = 0
  · simp only [if_pos h]; exact Ev_id (posCheck_f l hl)
  · simp only [if_neg h]; exact Ev.now _
def findA (r : List Arr) (s : Ser) : Option Arr := r.find? (fun a => eqS a.f0 s)
def ownA (r : List Arr) : List Pos → Option (List Arr)
  | [] => some []
  | p :: t => (findA r p.f0).bind fun a => (ownA r t).map fun o => a :: o
def foundE (acc : List Arr) : Option (List Arr) → List Arr × Int
  | some o => (acc ++ o, 0)
  | none => ([], 11)
theorem foundL1 (r : List Arr) (hr : r.length ≤ 4611686018427387904) (acc : List Arr) (hacc : acc.length < 1954687338268) (l : List Pos) (i : Nat) (p : Pos) (res : List Arr × Int) (hn : findA r p.f0 = none → res = ([], 11))
    (h : ∀ a, findA r p.f0 = some a → Ev (fun k => scan_found.l0 k r (acc ++ [a]) l l.length (wrap64 ((i : Int) + 1))) res) : ∀ (d j : Nat), j + d = r.length → findA r p.f0 = findA (r.drop j) p.f0 →
    Ev (fun k => scan_found.l1 k r acc l l.length i r r.length j p.f0.f0 p.f0.f1 p.f0.f2 p.f0.f3 p.f1 p.f2) res
  | 0, j, hd, hf => by
    refine Ev_succ ?_
    simp only [scan_found.l1, if_neg (show ¬ ((j : Int) < (r.length : Int)) by omega)]
    rw [List.drop_of_length_le (by omega)] at hf
    rw [hn (by rw [hf]; rfl)]
    exact Ev.now _
  | d + 1, j, hd, hf => by
    have hj : j < r.length := by omega
    refine Ev_succ ?_
    simp only [scan_found.l1, if_pos (show (j : Int) < (r.length : Int) by omega), if_pos (show 0 ≤ (j : Int) by omega), rdArr r j hj]
    rw [drop_cons r j hj] at hf
    cases he : eqS r[j].f0 p.f0 with
    | true =>
      have he2 : (r[j].f0.f0.toList == p.f0.f0.toList && (r[j].f0.f1 == p.f0.f1 && (r[j].f0.f2 == p.f0.f2 && (r[j].f0.f3 == p.f0.f3)))) = true := he
      simp only [he2, if_true, if_pos hacc]
      have hs : findA r p.f0 = some r[j] := by rw [hf]; simp only [findA, List.find?_cons, he]
      exact h _ hs
    | false =>
      have he2 : (r[j].f0.f0.toList == p.f0.f0.toList && (r[j].f0.f1 == p.f0.f1 && (r[j].f0.f2 == p.f0.f2 && (r[j].f0.f3 == p.f0.f3)))) = false := he
      simp only [he2, Bool.false_eq_true, if_false]
      have ih := foundL1 r hr acc hacc l i p res hn h d (j + 1) (by omega) (by rw [hf]; simp only [findA, List.find?_cons, he])
      rw [← w_succ hj (by omega)] at ih
      exact ih
theorem foundLoop (r : List Arr) (hr : r.length ≤ 4611686018427387904) (l : List Pos) (hl : l.length ≤ 1000000000) : ∀ (d i : Nat) (acc : List Arr), i + d = l.length → acc.length = i → Ev (fun k => scan_found.l0 k r acc l l.length i) (foundE acc (ownA r (l.drop i)))
  | 0, i, acc, hd, hacc => by
    refine Ev_succ ?_
    simp only [scan_found.l0, if_neg (show ¬ ((i : Int) < (l.length : Int)) by omega)]
    rw [List.drop_of_length_le (by omega)]
    simp only [ownA, foundE, List.append_nil]
    exact Ev.now _
  | d + 1, i, acc, hd, hacc => by
    have hi : i < l.length := by omega
    refine Ev_succ ?_
    simp only [scan_found.l0, if_pos (show (i : Int) < (l.length : Int) by omega), if_pos (show 0 ≤ (i : Int) by omega), rdPos l i hi]
    rw [drop_cons l i hi]
    refine foundL1 r hr acc (by omega) l i l[i] _ ?_ ?_ r.length 0 (by omega) (by simp)
    · intro hn
      simp only [ownA, hn, Option.bind_none, foundE]
    · intro a ha
      have ih := foundLoop r hr l hl d (i + 1) (acc ++ [a]) (by omega) (by simp [hacc])
      rw [← w_succ hi (by omega)] at ih
      simp only [ownA, ha, Option.bind_some]
      cases ho : ownA r (l.drop (i + 1)) with
      | none => rw [ho] at ih; exact ih
      | some o => rw [ho] at ih; simpa [foundE] using ih
def found (l : List Pos) (r : List Arr) : List Arr × Int := if both l r = 0 then foundE [] (ownA r l) else ([], both l r)
theorem found_f (l : List Pos) (r : List Arr) (hl : l.length ≤ 4611686018427387904) (hr : r.length ≤ 4611686018427387904) (ha : ∀ a ∈ r, a.f1.length ≤ 4611686018427387904) : Ev (fun k => scan_found.f k l r) (found l r) := by
  unfold scan_found.f found
  refine Ev_bind (both_f l r hl hr ha) ?_
  by_cases h : both l r = 0
  · have h128 : l.length ≤ 128 := by
      unfold both at h
      by_cases h1 : scanCheck r = 0
      · rw [if_pos h1] at h
        unfold posCheck at h
        by_cases h2 : l.length > 128
        · rw [if_pos h2] at h; omega
        · omega
      · rw [if_neg h1] at h; exact absurd h h1
    simp only [if_pos h]
    exact foundLoop r hr l (by omega) l.length 0 [] (by omega) rfl
  · simp only [if_neg h]; exact Ev.now _
end Go.Proofs.Ytbgeceiddcokmaa.P
end
section
namespace Go.Proofs.Ytbgeceiddcokmaa.P
set_option linter.unusedVariables false
set_option linter.unusedSimpArgs false
open Go.RowKit Go.Proofs.YtbgeceiddcokmaaW.PrintWords Go.Proofs.YtbgeceiddcokmaaW.PrintMore Go.Proofs.Ytbgeceiddcokmaa.X
structure PGood (l : List Pos) (o : List Arr) (n : Nat) : Prop where
  len : o.length = l.length
  few : l.length ≤ 128
  lots : ∀ p ∈ l, lots p.f1 = true ∧ lots p.f2 = true
  arr : ∀ a ∈ o, a.f1.length = n ∧ (∀ x ∈ a.f1, lossBad x = false) ∧ deltaBad a.f2 = false
  scen : n ≤ 32
theorem posGo_zero : ∀ (l : List Pos) (prev : Option Ser), posGo prev l = 0 → ∀ p ∈ l, posBad p = false
  | [], _, _, p, hp => by simp at hp
  | q :: t, prev, h, p, hp => by
    unfold posGo at h
    by_cases h1 : behind prev q.f0 = true
    · rw [if_pos h1] at h; omega
    · rw [if_neg h1] at h
      by_cases h2 : posBad q = true
      · rw [if_pos h2] at h; omega
      · rw [if_neg h2] at h
        rcases List.mem_cons.1 hp with rfl | hp
        · simpa using h2
        · exact posGo_zero t _ h p hp
theorem posCheck_zero {l : List Pos} (h : posCheck l = 0) : l.length ≤ 128 ∧ ∀ p ∈ l, posBad p = false := by
  unfold posCheck at h
  by_cases h1 : l.length > 128
  · rw [if_pos h1] at h; omega
  · rw [if_neg h1] at h; exact ⟨by omega, posGo_zero l none h⟩
theorem posBad_lots {p : Pos} (h : posBad p = false) : lots p.f1 = true ∧ lots p.f2 = true := by
  simp only [posBad, Bool.or_eq_false_iff, Bool.not_eq_false'] at h
  exact ⟨h.1.1, h.1.2⟩
theorem posBad_iff (p : Pos) : posBad p = false ↔ lots p.f1 = true ∧ lots p.f2 = true ∧ ¬ (p.f1 = 0 ∧ p.f2 = 0) := by
  simp only [posBad, Bool.or_eq_false_iff, Bool.not_eq_false', Bool.and_eq_false_iff, decide_eq_false_iff_not]
  constructor
  · rintro ⟨⟨a, b⟩, c⟩
    exact ⟨a, b, fun h => c.elim (fun z => z h.1) (fun z => z h.2)⟩
  · rintro ⟨a, b, c⟩
    refine ⟨⟨a, b⟩, ?_⟩
    by_cases z : p.f1 = 0
    · exact .inr fun y => c ⟨z, y⟩
    · exact .inl z
theorem scanGo_zero (n : Nat) : ∀ (l : List Arr) (prev : Option Ser), scanGo n prev l = 0 → ∀ a ∈ l, arrErr n a = 0
  | [], _, _, p, hp => by simp at hp
  | q :: t, prev, h, p, hp => by
    unfold scanGo at h
    by_cases h1 : behind prev q.f0 = true
    · rw [if_pos h1] at h; omega
    · rw [if_neg h1] at h
      by_cases h2 : arrErr n q ≠ 0
      · rw [if_pos h2] at h; exact absurd h h2
      · rw [if_neg h2] at h
        rcases List.mem_cons.1 hp with rfl | hp
        · exact Decidable.not_not.1 h2
        · exact scanGo_zero n t _ h p hp
theorem scanCheck_zero {l : List Arr} (h : scanCheck l = 0) : l.length ≤ 128 ∧ ∀ a ∈ l, arrErr (scanN l) a = 0 := by
  unfold scanCheck at h
  by_cases h1 : l.length > 128
  · rw [if_pos h1] at h; omega
  · rw [if_neg h1] at h; exact ⟨by omega, scanGo_zero _ l none h⟩
theorem arrErr_zero {n : Nat} {a : Arr} (h : arrErr n a = 0) : a.f1.length = n ∧ n ≤ 32 ∧ 1 ≤ n ∧ (∀ x ∈ a.f1, lossBad x = false) ∧ deltaBad a.f2 = false := by
  unfold arrErr at h
  by_cases h1 : lenBad n a.f1.length = true
  · rw [if_pos h1] at h; omega
  · rw [if_neg h1] at h
    by_cases h2 : a.f1.any lossBad = true
    · rw [if_pos h2] at h; omega
    · rw [if_neg h2] at h
      by_cases h3 : deltaBad a.f2 = true
      · rw [if_pos h3] at h; omega
      · simp only [lenBad, Bool.or_eq_true, decide_eq_true_eq, Bool.not_eq_true', decide_eq_false_iff_not, not_or] at h1
        refine ⟨by omega, by omega, by omega, fun x hx => ?_, by simpa using h3⟩
        have h2' : a.f1.any lossBad = false := by simpa using h2
        have := List.any_eq_false.1 h2' x hx
        simpa using this
theorem ownA_len (r : List Arr) : ∀ (l : List Pos) (o : List Arr), ownA r l = some o → o.length = l.length ∧ ∀ a ∈ o, a ∈ r
  | [], o, h => by
    simp only [ownA, Option.some.injEq] at h
    subst h
    simp
  | p :: t, o, h => by
    simp only [ownA, Option.bind_eq_some_iff, Option.map_eq_some_iff] at h
    obtain ⟨a, ha, o', ho, rfl⟩ := h
    obtain ⟨h1, h2⟩ := ownA_len r t o' ho
    refine ⟨by simp [h1], fun b hb => ?_⟩
    rcases List.mem_cons.1 hb with rfl | hb
    · exact List.mem_of_find?_eq_some ha
    · exact h2 b hb
theorem both_zero {l : List Pos} {r : List Arr} (h : both l r = 0) : scanCheck r = 0 ∧ posCheck l = 0 := by
  unfold both at h
  by_cases h1 : scanCheck r = 0
  · rw [if_pos h1] at h; exact ⟨h1, h⟩
  · rw [if_neg h1] at h; exact absurd h h1
theorem found_zero {l : List Pos} {r : List Arr} (h : (found l r).2 = 0) : both l r = 0 ∧ ownA r l = some (found l r).1 := by
  unfold found at h ⊢
  by_cases h1 : both l r = 0
  · rw [if_pos h1] at h ⊢
    cases ho : ownA r l with
    | none => rw [ho] at h; simp [foundE] at h
    | some o => exact ⟨h1, by simp [foundE]⟩
  · rw [if_neg h1] at h; exact absurd h h1
theorem found_good {l : List Pos} {r : List Arr} (h : (found l r).2 = 0) : PGood l (found l r).1 (scanN r) := by
  obtain ⟨h1, ho⟩ := found_zero h
  obtain ⟨hs, hp⟩ := both_zero h1
  obtain ⟨hl, hb⟩ := posCheck_zero hp
  obtain ⟨hr, ha⟩ := scanCheck_zero hs
  obtain ⟨ho1, ho2⟩ := ownA_len r l _ ho
  refine ⟨ho1, hl, fun p hp => posBad_lots (hb p hp), fun a hao => ?_, ?_⟩
  · have := arrErr_zero (ha a (ho2 a hao)); exact ⟨this.1, this.2.2.2.1, this.2.2.2.2⟩
  · cases r with
    | nil => simp [scanN]
    | cons a t => exact (arrErr_zero (ha a (by simp))).2.1
theorem found_bad {l : List Pos} {r : List Arr} (h : (found l r).2 ≠ 0) : (found l r).1 = [] := by
  unfold found at h ⊢
  by_cases h1 : both l r = 0
  · rw [if_pos h1] at h ⊢
    cases ho : ownA r l with
    | none => rfl
    | some o => rw [ho] at h; simp [foundE] at h
  · rw [if_neg h1]
theorem lots_rng {n : Int} (h : lots n = true) : 0 ≤ n ∧ n ≤ 1048576 := by simpa [lots] using h
theorem lots_of {n : Int} (h : 0 ≤ n ∧ n ≤ 1048576) : lots n = true := by simpa [lots] using h
theorem lossBad_rng {x : Int} (h : lossBad x = false) : -68719476736 ≤ x ∧ x ≤ 68719476736 := by
  simp only [lossBad, Bool.or_eq_false_iff, decide_eq_false_iff_not] at h; omega
theorem deltaBad_rng {x : Int} (h : deltaBad x = false) : -1000 ≤ x ∧ x ≤ 1000 := by
  simp only [deltaBad, Bool.or_eq_false_iff, decide_eq_false_iff_not] at h; omega
def termsAt (s : Nat) : List Pos → List Arr → List Int
  | p :: t, a :: o => (p.f1 - p.f2) * a.f1.getD s 0 :: termsAt s t o
  | _, _ => []
def lossesFrom (l : List Pos) (o : List Arr) : List Int → List Nat → List Int × Int
  | acc, [] => (acc, 0)
  | acc, s :: t => if (sumE (termsAt s l o)).2 = 0 then lossesFrom l o (acc ++ [(sumE (termsAt s l o)).1]) t else ([], (sumE (termsAt s l o)).2)
theorem mul_rng {a b A B : Int} (ha : -A ≤ a ∧ a ≤ A) (hb : -B ≤ b ∧ b ≤ B) : -(A * B) ≤ a * b ∧ a * b ≤ A * B := by
  have hA : 0 ≤ A := by omega
  have hB : 0 ≤ B := by omega
  have h1 : a.natAbs ≤ A.toNat := by omega
  have h2 : b.natAbs ≤ B.toNat := by omega
  have h3 : a.natAbs * b.natAbs ≤ A.toNat * B.toNat := Nat.mul_le_mul h1 h2
  have h4 : (a * b).natAbs ≤ A.toNat * B.toNat := by rw [Int.natAbs_mul]; exact h3
  have h5 : ((A.toNat * B.toNat : Nat) : Int) = A * B := by rw [Int.natCast_mul, Int.toNat_of_nonneg hA, Int.toNat_of_nonneg hB]
  generalize A.toNat * B.toNat = m at h4 h5
  generalize a * b = x at *
  generalize A * B = y at *
  omega
theorem lossL1 (l : List Pos) (o : List Arr) (n : Nat) (hg : PGood l o n) (s : Nat) (hs : s < n) (acc : List Int) (res : List Int × Int) :
    ∀ (d i : Nat) (done : List Int), i + d = l.length → done.length = i →
    Ev (fun k => (cents_Sum.f k (done ++ termsAt s (l.drop i) (o.drop i))).bind fun b => if b.2 = 0 then (if acc.length < 17592186044416 then scan_Losses.l0 k l (acc ++ [b.1]) o (n : Int) (wrap64 ((s : Int) + 1)) else none) else some ([], b.2)) res →
    Ev (fun k => scan_Losses.l1 k l acc o s done (n : Int) s l (l.length : Int) i) res
  | 0, i, done, hd, hdone, h => by
    rw [List.drop_of_length_le (by omega)] at h
    simp only [termsAt, List.append_nil] at h
    refine Ev_succ ?_
    simp only [scan_Losses.l1, if_neg (show ¬ ((i : Int) < (l.length : Int)) by omega)]
    exact h
  | d + 1, i, done, hd, hdone, h => by
    have hi : i < l.length := by omega
    have hio : i < o.length := by rw [hg.len]; exact hi
    have hp := hg.lots l[i] (List.getElem_mem hi)
    have ha := hg.arr o[i] (List.getElem_mem hio)
    have hf := hg.few
    have b1 := lots_rng hp.1
    have b2 := lots_rng hp.2
    have hsl : s < o[i].f1.length := by rw [ha.1]; exact hs
    have b3 := lossBad_rng (ha.2.1 o[i].f1[s] (List.getElem_mem hsl))
    have e1 : wrap64 (l[i].f1 - l[i].f2) = l[i].f1 - l[i].f2 := w_id (by omega) (by omega)
    have b4 := mul_rng (A := 1048576) (B := 68719476736) (a := l[i].f1 - l[i].f2) (b := o[i].f1[s]) (by omega) (by omega)
    have e2 : wrap64 ((l[i].f1 - l[i].f2) * o[i].f1[s]) = (l[i].f1 - l[i].f2) * o[i].f1[s] := w_id (by omega) (by omega)
    refine Ev_succ ?_
    simp only [scan_Losses.l1, if_pos (show (i : Int) < (l.length : Int) by omega), if_pos (show 0 ≤ (i : Int) by omega), if_pos (show (i : Int) < (o.length : Int) by omega), rdPos l i hi, rdArr o i hio, if_pos (show 0 ≤ (s : Int) by omega), if_pos (show (s : Int) < (o[i].f1.length : Int) by omega), rd_nat _ s hsl, e1, e2, if_pos (show done.length < 17592186044416 by omega), w_succ hi (by omega)]
    refine lossL1 l o n hg s hs acc res d (i + 1) _ (by omega) (by simp [hdone]) ?_
    rw [drop_cons l i hi, drop_cons o i hio] at h
    simp only [termsAt] at h
    rw [List.append_assoc]
    have eg : o[i].f1.getD s 0 = o[i].f1[s] := by simp [List.getD, hsl]
    rw [eg] at h
    exact h
theorem termsAt_len (s : Nat) : ∀ (l : List Pos) (o : List Arr), (termsAt s l o).length ≤ l.length
  | [], _ => by simp [termsAt]
  | p :: t, [] => by simp [termsAt]
  | p :: t, a :: o => by have := termsAt_len s t o; simp only [termsAt, List.length_cons]; omega
theorem lossL0 (l : List Pos) (o : List Arr) (n : Nat) (hg : PGood l o n) : ∀ (d s : Nat) (acc : List Int), s + d = n → acc.length = s →
    Ev (fun k => scan_Losses.l0 k l acc o (n : Int) s) (lossesFrom l o acc (List.range' s d))
  | 0, s, acc, hd, hacc => by
    refine Ev_succ ?_
    simp only [scan_Losses.l0, if_neg (show ¬ ((s : Int) < (n : Int)) by omega)]
    exact Ev.now _
  | d + 1, s, acc, hd, hacc => by
    have hn := hg.scen
    have hf := hg.few
    refine Ev_succ ?_
    simp only [scan_Losses.l0, if_pos (show (s : Int) < (n : Int) by omega)]
    refine lossL1 l o n hg s (by omega) acc _ l.length 0 [] (by omega) rfl ?_
    simp only [List.nil_append, List.drop_zero]
    refine Ev_bind (sum_f _ (by have := termsAt_len s l o; omega)) ?_
    simp only [List.range'_succ, lossesFrom]
    by_cases h : (sumE (termsAt s l o)).2 = 0
    · simp only [if_pos h, if_pos (show acc.length < 17592186044416 by omega), w_succ (show s < n by omega) (by omega)]
      exact lossL0 l o n hg d (s + 1) _ (by omega) (by simp [hacc])
    · simp only [if_neg h]
      exact Ev.now _
def losses (l : List Pos) (r : List Arr) : List Int × Int :=
  if (found l r).2 = 0 then (if r.length = 0 then ([], 0) else lossesFrom l (found l r).1 [] (List.range' 0 (scanN r))) else ([], (found l r).2)
theorem losses_f (l : List Pos) (r : List Arr) (hl : l.length ≤ 4611686018427387904) (hr : r.length ≤ 4611686018427387904) (ha : ∀ a ∈ r, a.f1.length ≤ 4611686018427387904) : Ev (fun k => scan_Losses.f k l r) (losses l r) := by
  unfold scan_Losses.f losses
  refine Ev_bind (found_f l r hl hr ha) ?_
  by_cases h : (found l r).2 = 0
  · simp only [if_pos h]
    refine Ev_succ ?_
    simp only [scan_Losses.j0]
    by_cases h0 : r.length = 0
    · simp only [if_pos h0, show ((r.length : Int) == 0) = true by simp [h0], if_true, h]
      exact Ev.now _
    · have hrn : (((rd_T91 r 0).f1).length : Int) = (scanN r : Int) := by
        cases r with
        | nil => simp at h0
        | cons x t => rfl
      simp only [if_neg h0, show ((r.length : Int) == 0) = false from beq_eq_false_iff_ne.2 (by omega), Bool.false_eq_true, if_false, if_pos (show 0 < (r.length : Int) by omega), hrn]
      exact lossL0 l _ _ (found_good h) (scanN r) 0 [] (by omega) rfl
  · simp only [if_neg h]
    refine Ev_succ ?_
    simp only [scan_Losses.j0, if_true]
    exact Ev.now _
def deltaOf : List Pos → List Arr → Int
  | p :: t, a :: o => (p.f1 - p.f2) * a.f2 + deltaOf t o
  | _, _ => 0
theorem deltaL0 (l : List Pos) (o : List Arr) (n : Nat) (hg : PGood l o n) (e : Int) : ∀ (d i : Nat) (acc : Int), i + d = l.length → -(1048576000 * (i : Int)) ≤ acc → acc ≤ 1048576000 * (i : Int) →
    Ev (fun k => scan_Delta.l0 k l acc e o (o.length : Int) i) (acc + deltaOf (l.drop i) (o.drop i), e)
  | 0, i, acc, hd, h1, h2 => by
    have := hg.len
    rw [List.drop_of_length_le (by omega)]
    refine Ev_succ ?_
    simp only [scan_Delta.l0, if_neg (show ¬ ((i : Int) < (o.length : Int)) by omega), deltaOf, Int.add_zero]
    exact Ev.now _
  | d + 1, i, acc, hd, h1, h2 => by
    have hi : i < l.length := by omega
    have hlen := hg.len
    have hio : i < o.length := by omega
    have hf := hg.few
    have hp := hg.lots l[i] (List.getElem_mem hi)
    have ha := hg.arr o[i] (List.getElem_mem hio)
    have b1 := lots_rng hp.1
    have b2 := lots_rng hp.2
    have b3 := deltaBad_rng ha.2.2
    have e1 : wrap64 (l[i].f1 - l[i].f2) = l[i].f1 - l[i].f2 := w_id (by omega) (by omega)
    have b4 := mul_rng (A := 1048576) (B := 1000) (a := l[i].f1 - l[i].f2) (b := o[i].f2) (by omega) (by omega)
    have e2 : wrap64 ((l[i].f1 - l[i].f2) * o[i].f2) = (l[i].f1 - l[i].f2) * o[i].f2 := w_id (by omega) (by omega)
    have e3 : wrap64 (acc + (l[i].f1 - l[i].f2) * o[i].f2) = acc + (l[i].f1 - l[i].f2) * o[i].f2 := w_id (by omega) (by omega)
    refine Ev_succ ?_
    simp only [scan_Delta.l0, if_pos (show (i : Int) < (o.length : Int) by omega), if_pos (show 0 ≤ (i : Int) by omega), if_pos (show (i : Int) < (l.length : Int) by omega), rdPos l i hi, rdArr o i hio, e1, e2, e3, w_succ hi (by omega)]
    have ih := deltaL0 l o n hg e d (i + 1) (acc + (l[i].f1 - l[i].f2) * o[i].f2) (by omega) (by omega) (by omega)
    rw [drop_cons l i hi, drop_cons o i hio]
    simp only [deltaOf]
    rw [Int.add_assoc] at ih
    rw [← Int.add_assoc] at ih ⊢
    exact ih
def delta (l : List Pos) (r : List Arr) : Int × Int := if (found l r).2 = 0 then (deltaOf l (found l r).1, 0) else (0, (found l r).2)
theorem delta_f (l : List Pos) (r : List Arr) (hl : l.length ≤ 4611686018427387904) (hr : r.length ≤ 4611686018427387904) (ha : ∀ a ∈ r, a.f1.length ≤ 4611686018427387904) : Ev (fun k => scan_Delta.f k l r) (delta l r) := by
  unfold scan_Delta.f delta
  refine Ev_bind (found_f l r hl hr ha) ?_
  by_cases h : (found l r).2 = 0
  · simp only [if_pos h]
    have := deltaL0 l _ _ (found_good h) (found l r).2 l.length 0 0 (by omega) (by omega) (by omega)
    simp only [Int.zero_add, List.drop_zero, h] at this
    simp only [h]
    exact this
  · simp only [if_neg h, found_bad h]
    refine Ev_succ ?_
    simp only [scan_Delta.l0, List.length_nil]
    exact Ev.now _
end Go.Proofs.Ytbgeceiddcokmaa.P
end
section
namespace Go.Proofs.Ytbgeceiddcokmaa.P
set_option linter.unusedVariables false
set_option linter.unusedSimpArgs false
open Go.RowKit Go.Proofs.YtbgeceiddcokmaaW.PrintWords Go.Proofs.YtbgeceiddcokmaaW.PrintMore Go.Proofs.Ytbgeceiddcokmaa.X
theorem sameLoop (a b : List Int) (hl : a.length = b.length) (hb : a.length ≤ 4611686018427387904) : ∀ (d i : Nat), i + d = a.length → Ev (fun k => contangoref23_Same.l0 k a b i) (decide (a.drop i = b.drop i))
  | 0, i, hd => by
    refine Ev_succ ?_
    rw [List.drop_of_length_le (by omega), List.drop_of_length_le (by omega)]
    simp only [contangoref23_Same.l0, if_neg (show ¬ ((i : Int) < (a.length : Int)) by omega)]
    exact Ev.now _
  | d + 1, i, hd => by
    have hi : i < a.length := by omega
    have hj : i < b.length := by omega
    refine Ev_succ ?_
    rw [drop_cons a i hi, drop_cons b i hj]
    simp only [contangoref23_Same.l0, if_pos (show (i : Int) < (a.length : Int) by omega), if_pos (show (i : Int) < (b.length : Int) by omega), if_pos (show 0 ≤ (i : Int) by omega), rd_nat a i hi, rd_nat b i hj, w_succ hi (by omega)]
    by_cases h : a[i] = b[i]
    · simp only [if_pos h]
      have ih := sameLoop a b hl hb d (i + 1) (by omega)
      have e : decide (a[i] :: a.drop (i + 1) = b[i] :: b.drop (i + 1)) = decide (a.drop (i + 1) = b.drop (i + 1)) := by
        rw [decide_eq_decide, List.cons.injEq]
        exact ⟨fun x => x.2, fun x => ⟨h, x⟩⟩
      rw [e]
      exact ih
    · simp only [if_neg h]
      rw [decide_eq_false (by rw [List.cons.injEq]; exact fun x => h x.1)]
      exact Ev.now _
theorem same_f (a b : List Int) (hb : a.length ≤ 4611686018427387904) : Ev (fun k => contangoref23_Same.f k a b) (decide (a = b)) := by
  unfold contangoref23_Same.f
  by_cases h : a.length = b.length
  · simp only [if_pos (show (a.length : Int) = (b.length : Int) by omega)]
    have := sameLoop a b h hb a.length 0 (by omega)
    simpa using this
  · simp only [if_neg (show ¬ (a.length : Int) = (b.length : Int) by omega)]
    rw [decide_eq_false (fun e => h (by rw [e]))]
    exact Ev.now _
theorem fewLoop (l : List Pos) (r : List Arr) (hr : r.length ≤ 4611686018427387904) : ∀ (d i : Nat) (n : Int), i + d = r.length → ∃ b, Ev (fun k => contangolaw23_few.l0 k l r n r.length i) b ∧ (b = true → l.length ≤ 200 ∧ r.length ≤ 200)
  | 0, i, n, hd => by
    by_cases h1 : l.length ≤ 200
    · by_cases h2 : r.length ≤ 200
      · refine ⟨decide (n ≤ 5000), Ev_succ ?_, fun _ => ⟨h1, h2⟩⟩
        simp only [contangolaw23_few.l0, if_neg (show ¬ ((i : Int) < (r.length : Int)) by omega), if_pos (show (l.length : Int) ≤ 200 by omega), if_pos (show (r.length : Int) ≤ 200 by omega)]
        exact Ev.now _
      · refine ⟨false, Ev_succ ?_, fun h => by cases h⟩
        simp only [contangolaw23_few.l0, if_neg (show ¬ ((i : Int) < (r.length : Int)) by omega), if_pos (show (l.length : Int) ≤ 200 by omega), if_neg (show ¬ (r.length : Int) ≤ 200 by omega)]
        exact Ev.now _
    · refine ⟨false, Ev_succ ?_, fun h => by cases h⟩
      simp only [contangolaw23_few.l0, if_neg (show ¬ ((i : Int) < (r.length : Int)) by omega), if_neg (show ¬ (l.length : Int) ≤ 200 by omega)]
      exact Ev.now _
  | d + 1, i, n, hd => by
    have hi : i < r.length := by omega
    obtain ⟨b, hb, h⟩ := fewLoop l r hr d (i + 1) (wrap64 (n + mn (((rd_T91 r i).f1).length : Int) 1000)) (by omega)
    refine ⟨b, Ev_succ ?_, h⟩
    simp only [contangolaw23_few.l0, if_pos (show (i : Int) < (r.length : Int) by omega), if_pos (show 0 ≤ (i : Int) by omega), w_succ hi (by omega)]
    exact hb
theorem few_f (l : List Pos) (r : List Arr) (hr : r.length ≤ 4611686018427387904) : ∃ b, Ev (fun k => contangolaw23_few.f k l r) b ∧ (b = true → l.length ≤ 200 ∧ r.length ≤ 200) := fewLoop l r hr r.length 0 0 (by omega)
end Go.Proofs.Ytbgeceiddcokmaa.P
end
section
namespace Go.Proofs.Ytbgeceiddcokmaa.P
open Go.RowKit Go.Proofs.YtbgeceiddcokmaaW.PrintWords Go.Proofs.YtbgeceiddcokmaaW.PrintMore Go.Proofs.Ytbgeceiddcokmaa.X
theorem goes23 : Ev (fun k => contangolaw23_goes.f k) true := Ev.of (k := 40) (contangolaw23_goes.mono) (by decide +kernel)
end Go.Proofs.Ytbgeceiddcokmaa.P
end
section
namespace Go.Proofs.Ytbgeceiddcokmaa.Pure
set_option linter.unusedVariables false
set_option linter.unusedSimpArgs false
open Go.RowKit Go.Proofs.YtbgeceiddcokmaaW.PrintWords Go.Proofs.YtbgeceiddcokmaaW.PrintMore Go.Proofs.Ytbgeceiddcokmaa.X Go.Proofs.Ytbgeceiddcokmaa.P
def turn (p : Pos) : Pos := ⟨p.f0, p.f2, p.f1⟩
def plus (m : Int) (p : Pos) : Pos := ⟨p.f0, p.f1 + m, p.f2 + m⟩
theorem posGo_map (g : Pos → Pos) (hg : ∀ p, (g p).f0 = p.f0) : ∀ (l : List Pos) (prev : Option Ser), (∀ p ∈ l, posBad p = false → posBad (g p) = false) → posGo prev l = 0 → posGo prev (l.map g) = 0
  | [], _, _, _ => rfl
  | p :: t, prev, hb, h => by
    have hp := posGo_zero (p :: t) prev h p (by simp)
    simp only [List.map_cons]
    unfold posGo at h ⊢
    rw [hg]
    by_cases h1 : behind prev p.f0 = true
    · rw [if_pos h1] at h; omega
    · rw [if_neg h1] at h ⊢
      have h2 : ¬ posBad p = true := by simp [hp]
      have h3 : ¬ posBad (g p) = true := by simp [hb p (by simp) hp]
      rw [if_neg h2] at h
      rw [if_neg h3]
      exact posGo_map g hg t _ (fun q hq => hb q (by simp [hq])) h
theorem ownA_map (g : Pos → Pos) (hg : ∀ p, (g p).f0 = p.f0) (r : List Arr) : ∀ l : List Pos, ownA r (l.map g) = ownA r l
  | [] => rfl
  | p :: t => by simp only [List.map_cons, ownA, hg, ownA_map g hg r t]
theorem found_map (g : Pos → Pos) (hg : ∀ p, (g p).f0 = p.f0) (l : List Pos) (r : List Arr) (hb : ∀ p ∈ l, posBad p = false → posBad (g p) = false) (h : (found l r).2 = 0) : found (l.map g) r = found l r := by
  obtain ⟨h1, ho⟩ := found_zero h
  obtain ⟨hs, hp⟩ := both_zero h1
  have hp2 : posCheck (l.map g) = 0 := by
    have hl := posCheck_zero hp
    unfold posCheck at hp ⊢
    rw [if_neg (by omega)] at hp
    rw [List.length_map, if_neg (by omega)]
    exact posGo_map g hg l none hb hp
  have h2 : both (l.map g) r = 0 := by unfold both; rw [if_pos hs]; exact hp2
  unfold found
  rw [if_pos h1, if_pos h2, ownA_map g hg]
theorem bad_turn (p : Pos) (h : posBad p = false) : posBad (turn p) = false := by
  rw [posBad_iff] at h ⊢
  exact ⟨h.2.1, h.1, fun z => h.2.2 ⟨z.2, z.1⟩⟩
theorem bad_plus (m : Int) (h0 : 0 ≤ m) (p : Pos) (h1 : p.f1 + m ≤ 1048576) (h2 : p.f2 + m ≤ 1048576) (h : posBad p = false) : posBad (plus m p) = false := by
  rw [posBad_iff] at h ⊢
  have ra := lots_rng h.1
  have rb := lots_rng h.2.1
  refine ⟨lots_of ⟨by simp only [plus]; omega, by simp only [plus]; omega⟩, lots_of ⟨by simp only [plus]; omega, by simp only [plus]; omega⟩, ?_⟩
  rintro ⟨z1, z2⟩
  simp only [plus] at z1 z2
  exact h.2.2 ⟨by omega, by omega⟩
theorem terms_turn (s : Nat) : ∀ (l : List Pos) (o : List Arr), termsAt s (l.map turn) o = (termsAt s l o).map (fun x => -x)
  | [], _ => rfl
  | p :: t, [] => rfl
  | p :: t, a :: o => by
    simp only [List.map_cons, termsAt, terms_turn s t o, turn]
    congr 1
    rw [← Int.neg_mul]
    congr 1
    omega
theorem terms_plus (m : Int) (s : Nat) : ∀ (l : List Pos) (o : List Arr), termsAt s (l.map (plus m)) o = termsAt s l o
  | [], _ => rfl
  | p :: t, [] => rfl
  | p :: t, a :: o => by
    simp only [List.map_cons, termsAt, terms_plus m s t o, plus]
    congr 1
    rw [show p.f1 + m - (p.f2 + m) = p.f1 - p.f2 by omega]
theorem fits_neg (x : Int) : fits (-x) = fits x := by
  rw [Bool.eq_iff_iff, fits_iff, fits_iff]; omega
theorem sum_neg : ∀ l : List Int, (l.map (fun x => -x)).sum = -l.sum
  | [] => rfl
  | x :: t => by simp only [List.map_cons, List.sum_cons, sum_neg t]; omega
theorem all_neg : ∀ l : List Int, (l.map (fun x => -x)).all fits = l.all fits
  | [] => rfl
  | x :: t => by simp only [List.map_cons, List.all_cons, all_neg t, fits_neg]
theorem sumE_neg (l : List Int) : sumE (l.map (fun x => -x)) = (-(sumE l).1, (sumE l).2) := by
  unfold sumE fitting
  rw [all_neg, sum_neg, fits_neg]
  by_cases h : l.all fits = true
  · rw [if_pos h, if_pos h]
    by_cases h2 : fits l.sum = true
    · rw [if_pos h2, if_pos h2]
    · rw [if_neg h2, if_neg h2]; rfl
  · rw [if_neg h, if_neg h]; rfl
theorem losses_neg (l : List Pos) (o : List Arr) : ∀ (ss : List Nat) (acc : List Int), lossesFrom (l.map turn) o (acc.map (fun x => -x)) ss = ((lossesFrom l o acc ss).1.map (fun x => -x), (lossesFrom l o acc ss).2)
  | [], acc => rfl
  | s :: t, acc => by
    simp only [lossesFrom, terms_turn, sumE_neg]
    by_cases h : (sumE (termsAt s l o)).2 = 0
    · rw [if_pos h, if_pos h]
      have ih := losses_neg l o t (acc ++ [(sumE (termsAt s l o)).1])
      rw [List.map_append, List.map_cons, List.map_nil] at ih
      exact ih
    · rw [if_neg h, if_neg h]; rfl
theorem losses_plus (m : Int) (l : List Pos) (o : List Arr) : ∀ (ss : List Nat) (acc : List Int), lossesFrom (l.map (plus m)) o acc ss = lossesFrom l o acc ss
  | [], acc => rfl
  | s :: t, acc => by
    simp only [lossesFrom, terms_plus]
    by_cases h : (sumE (termsAt s l o)).2 = 0
    · rw [if_pos h, if_pos h, losses_plus m l o t]
    · rw [if_neg h, if_neg h]
theorem delta_turn : ∀ (l : List Pos) (o : List Arr), deltaOf (l.map turn) o = -deltaOf l o
  | [], _ => rfl
  | p :: t, [] => rfl
  | p :: t, a :: o => by
    simp only [List.map_cons, deltaOf, delta_turn t o, turn]
    have : (p.f2 - p.f1) * a.f2 = -((p.f1 - p.f2) * a.f2) := by rw [← Int.neg_mul]; congr 1; omega
    omega
theorem negLoop (n : List Int) (hl : n.length ≤ 4611686018427387904) (hb : ∀ x ∈ n, fits x = true) : ∀ (d i : Nat), i + d = n.length → Ev (fun k => contangolaw23_ScanTurned.l1 k n (n.map (fun x => -x)) n.length i) true
  | 0, i, hd => by
    refine Ev_succ ?_
    simp only [contangolaw23_ScanTurned.l1, if_neg (show ¬ ((i : Int) < (n.length : Int)) by omega)]
    exact Ev_id goes23
  | d + 1, i, hd => by
    have hi : i < n.length := by omega
    have hf := (fits_iff _).1 (hb n[i] (List.getElem_mem hi))
    refine Ev_succ ?_
    have e : rd (n.map (fun x => -x)) (i : Int) = wrap64 (-(rd n (i : Int))) := by
      rw [rd_nat _ i (by simpa using hi), rd_nat n i hi, w_id (by omega) (by omega)]
      simp
    simp only [contangolaw23_ScanTurned.l1, if_pos (show (i : Int) < (n.length : Int) by omega), if_pos (show 0 ≤ (i : Int) by omega), List.length_map, e, if_true, w_succ hi (by omega)]
    exact negLoop n hl hb d (i + 1) (by omega)
theorem lossesFrom_fits (l : List Pos) (o : List Arr) : ∀ (ss : List Nat) (acc : List Int), (∀ x ∈ acc, fits x = true) → ∀ x ∈ (lossesFrom l o acc ss).1, fits x = true
  | [], acc, h, x, hx => h x hx
  | s :: t, acc, h, x, hx => by
    unfold lossesFrom at hx
    by_cases h1 : (sumE (termsAt s l o)).2 = 0
    · rw [if_pos h1] at hx
      refine lossesFrom_fits l o t _ (fun y hy => ?_) x hx
      rcases List.mem_append.1 hy with hy | hy
      · exact h y hy
      · rw [List.mem_singleton.1 hy]
        unfold sumE fitting at h1 ⊢
        by_cases h2 : (termsAt s l o).all fits = true
        · rw [if_pos h2] at h1 ⊢
          by_cases h3 : fits (termsAt s l o).sum = true
          · rw [if_pos h3]; exact h3
          · rw [if_neg h3] at h1; simp at h1
        · rw [if_neg h2] at h1; simp at h1
    · rw [if_neg h1] at hx; simp at hx
theorem losses_fits (l : List Pos) (r : List Arr) : ∀ x ∈ (losses l r).1, fits x = true := by
  intro x hx
  unfold losses at hx
  by_cases h : (found l r).2 = 0
  · rw [if_pos h] at hx
    by_cases h0 : r.length = 0
    · rw [if_pos h0] at hx; simp at hx
    · rw [if_neg h0] at hx; exact lossesFrom_fits _ _ _ [] (by simp) x hx
  · rw [if_neg h] at hx; simp at hx
theorem losses_found {l : List Pos} {r : List Arr} (h : (losses l r).2 = 0) : (found l r).2 = 0 := by
  unfold losses at h
  by_cases h1 : (found l r).2 = 0
  · exact h1
  · rw [if_neg h1] at h; exact h
theorem deltaOf_rng (l : List Pos) (o : List Arr) : ∀ (n : Nat), PGood l o n → -(1048576000 * (l.length : Int)) ≤ deltaOf l o ∧ deltaOf l o ≤ 1048576000 * (l.length : Int) := by
  induction l generalizing o with
  | nil => intro n _; cases o <;> simp [deltaOf]
  | cons p t ih =>
    intro n hg
    cases o with
    | nil => simp only [deltaOf, List.length_cons]; omega
    | cons a o =>
      have g2 : PGood t o n := ⟨by have := hg.len; simpa using this, by have := hg.few; simp at this; omega, fun q hq => hg.lots q (by simp [hq]), fun q hq => hg.arr q (by simp [hq]), hg.scen⟩
      have := ih o n g2
      have b1 := lots_rng (hg.lots p (by simp)).1
      have b2 := lots_rng (hg.lots p (by simp)).2
      have b3 := deltaBad_rng (hg.arr a (by simp)).2.2
      have b4 := mul_rng (A := 1048576) (B := 1000) (a := p.f1 - p.f2) (b := a.f2) (by omega) (by omega)
      simp only [deltaOf, List.length_cons]
      omega
theorem ScanTurned : ∀ (l0 : List (S73)) (l1 : List (S91)) (a2 : Int), (l0.length ≤ maxLen ∧ l0.length * 56 ≤ 140737488351232 ∧ ∀ x ∈ l0, ok73 x) → (l1.length ≤ maxLen ∧ l1.length * 72 ≤ 140737488351232 ∧ ∀ x ∈ l1, ok91 x) → (Lit.int .i64 a2).wf = true → ∃ k, X.contangolaw23_ScanTurned.f k l0 l1 a2 = some true := by
  intro l r a2 hl hr ha
  apply Ev.rounds
  have bl : l.length ≤ 4611686018427387904 := by omega
  have br : r.length ≤ 4611686018427387904 := by omega
  have bra : ∀ a ∈ r, a.f1.length ≤ 4611686018427387904 := by
    intro a har
    have := (hr.2.2 a har).2.1.2.1
    omega
  obtain ⟨m, hm, hm0, hm1⟩ : ∃ m : Int, wrap64 (Int.tmod (IntKind.u64.wrap a2) 100) = m ∧ 0 ≤ m ∧ m < 100 := by
    refine ⟨_, rfl, ?_⟩
    have h0 : 0 ≤ IntKind.u64.wrap a2 := by simp [IntKind.wrap, IntKind.signed, IntKind.bits]; omega
    have h1 : Int.tmod (IntKind.u64.wrap a2) 100 = IntKind.u64.wrap a2 % 100 := Int.tmod_eq_emod_of_nonneg h0
    rw [h1, w_id (by omega) (by omega)]
    omega
  unfold contangolaw23_ScanTurned.f
  simp only [hm]
  obtain ⟨b, hb, hfew⟩ := few_f l r br
  refine Ev_bind hb ?_
  cases b with
  | false => simp only [Bool.false_eq_true, if_false]; exact Ev_id goes23
  | true =>
    obtain ⟨few1, few2⟩ := hfew rfl
    simp only [if_true]
    refine Ev_bind (losses_f l r bl br bra) ?_
    by_cases h : (losses l r).2 = 0
    case neg =>
      have e : (losses l r).1 = [] := by
        unfold losses at h ⊢
        by_cases h1 : (found l r).2 = 0
        · rw [if_pos h1] at h ⊢
          by_cases h0 : r.length = 0
          · rw [if_pos h0]
          · rw [if_neg h0] at h ⊢
            have : ∀ (ss : List Nat) (acc : List Int), (lossesFrom l (found l r).1 acc ss).2 ≠ 0 → (lossesFrom l (found l r).1 acc ss).1 = [] := by
              intro ss
              induction ss with
              | nil => intro acc h; exact absurd rfl h
              | cons s t ih =>
                intro acc h
                unfold lossesFrom at h ⊢
                by_cases h2 : (sumE (termsAt s l (found l r).1)).2 = 0
                · rw [if_pos h2] at h ⊢; exact ih _ h
                · rw [if_neg h2]
            exact this _ _ h
        · rw [if_neg h1]
      simp only [if_neg h, e, List.length_nil, Int.ofNat_zero, if_true]
      exact Ev_id goes23
    case pos =>
      have hf := losses_found h
      have hg := found_good hf
      have hfl := hg.few
      have hbad := (posCheck_zero (both_zero (found_zero hf).1).2).2
      simp only [if_pos h]

      have loop : ∀ (d i : Nat) (x9 x10 : List Pos), i + d = l.length → x9 = (l.take i).map turn → x10 = (l.take i).map (plus m) → (∀ p ∈ l.take i, p.f1 + m ≤ 1048576 ∧ p.f2 + m ≤ 1048576) →
          Ev (fun k => contangolaw23_ScanTurned.l0 k l r m (losses l r).1 x9 x10 l (l.length : Int) i) true := by
        intro d
        induction d with
        | zero =>
          intro i x9 x10 hd h9 h10 hmore
          rw [List.take_of_length_le (by omega)] at h9 h10 hmore
          subst h9 h10
          refine Ev_succ ?_
          simp only [contangolaw23_ScanTurned.l0, if_neg (show ¬ ((i : Int) < (l.length : Int)) by omega)]
          have ft := found_map turn (fun _ => rfl) l r (fun p _ hp => bad_turn p hp) hf
          have fp := found_map (plus m) (fun _ => rfl) l r (fun p hp hb => bad_plus m hm0 p (hmore p hp).1 (hmore p hp).2 hb) hf
          have lt : losses (l.map turn) r = ((losses l r).1.map (fun x => -x), (losses l r).2) := by
            unfold losses
            rw [ft, if_pos hf, if_pos hf]
            by_cases h0 : r.length = 0
            · rw [if_pos h0, if_pos h0]; rfl
            · rw [if_neg h0, if_neg h0]
              exact losses_neg l _ _ []
          have lp : losses (l.map (plus m)) r = losses l r := by
            unfold losses
            rw [fp, if_pos hf, if_pos hf]
            by_cases h0 : r.length = 0
            · rw [if_pos h0, if_pos h0]
            · rw [if_neg h0, if_neg h0, losses_plus]
          have dt : delta (l.map turn) r = (-(delta l r).1, 0) := by
            unfold delta
            rw [ft, if_pos hf, if_pos hf, delta_turn]
          have d0 : (delta l r).2 = 0 := by unfold delta; rw [if_pos hf]
          have dr : -9223372036854775808 ≤ (delta l r).1 ∧ (delta l r).1 ≤ 9223372036854775807 := by
            have := deltaOf_rng l _ _ hg
            unfold delta
            rw [if_pos hf]
            simp only
            omega
          refine Ev_bind (losses_f (l.map turn) r (by simpa using bl) br bra) ?_
          refine Ev_bind (losses_f (l.map (plus m)) r (by simpa using bl) br bra) ?_
          refine Ev_bind (delta_f l r bl br bra) ?_
          refine Ev_bind (delta_f (l.map turn) r (by simpa using bl) br bra) ?_
          have ln : (losses l r).1.length ≤ 32 := by
            have : ∀ (ss : List Nat) (acc : List Int), (lossesFrom l (found l r).1 acc ss).1.length ≤ acc.length + ss.length := by
              intro ss
              induction ss with
              | nil => intro acc; simp [lossesFrom]
              | cons s t ih =>
                intro acc
                unfold lossesFrom
                by_cases h2 : (sumE (termsAt s l (found l r).1)).2 = 0
                · rw [if_pos h2]; have := ih (acc ++ [(sumE (termsAt s l (found l r).1)).1]); simp at this ⊢; omega
                · rw [if_neg h2]; simp
            unfold losses
            rw [if_pos hf]
            by_cases h0 : r.length = 0
            · rw [if_pos h0]; simp
            · rw [if_neg h0]
              have t := this (List.range' 0 (scanN r)) []
              have := hg.scen
              simp at t
              omega
          simp only [lt, lp, dt, d0, h, if_true, Int.neg_neg, w_id dr.1 dr.2, List.length_map]
          refine Ev_bind (same_f _ _ (by omega)) ?_
          simp only [decide_true, Bool.not_true]
          refine Ev_succ ?_
          simp only [contangolaw23_ScanTurned.j1, Bool.false_eq_true, if_false]
          exact negLoop _ (by omega) (losses_fits l r) (losses l r).1.length 0 (by omega)
        | succ d ih =>
          intro i x9 x10 hd h9 h10 hmore
          have hi : i < l.length := by omega
          have hp := hg.lots l[i] (List.getElem_mem hi)
          have b1 := lots_rng hp.1
          have b2 := lots_rng hp.2
          have e1 : wrap64 (l[i].f1 + m) = l[i].f1 + m := w_id (by omega) (by omega)
          have e2 : wrap64 (l[i].f2 + m) = l[i].f2 + m := w_id (by omega) (by omega)
          have n9 : x9.length < 2513169434916 := by rw [h9]; simp; omega
          have n10 : x10.length < 2513169434916 := by rw [h10]; simp; omega
          refine Ev_succ ?_
          simp only [contangolaw23_ScanTurned.l0, if_pos (show (i : Int) < (l.length : Int) by omega), if_pos (show 0 ≤ (i : Int) by omega), rdPos l i hi, e1, e2, if_pos n9, if_pos n10, w_succ hi (by omega)]
          by_cases c1 : l[i].f1 + m > 1048576
          · simp only [if_pos c1]; exact Ev_id goes23
          · by_cases c2 : l[i].f2 + m > 1048576
            · simp only [if_neg c1, if_pos c2]; exact Ev_id goes23
            · simp only [if_neg c1, if_neg c2]
              refine ih (i + 1) _ _ (by omega) ?_ ?_ ?_
              · rw [h9, List.take_succ_eq_append_getElem hi, List.map_append]; rfl
              · rw [h10, List.take_succ_eq_append_getElem hi, List.map_append]; rfl
              · intro p hp
                rw [List.take_succ_eq_append_getElem hi] at hp
                rcases List.mem_append.1 hp with hp | hp
                · exact hmore p hp
                · rw [List.mem_singleton.1 hp]; omega
      exact loop l.length 0 [] [] (by omega) (by simp) (by simp) (by simp)
end Go.Proofs.Ytbgeceiddcokmaa.Pure
end
