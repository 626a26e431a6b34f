/- For TradeBack: contracts, and facts on lists and numbers, that it uses (part 6). -/
import Derived.ChangeArms
import Derived.Deep.Slices
import Derived.Laws.BitsLemmas
import Derived.Laws.Strings
import Derived.Lib.Bytealg
import Derived.Lib.IndexBytes
import Derived.Lib.Replace
import Derived.Lib.SplitLaws
import Derived.OpenShut
import Derived.SizedLaws
import Derived.Test.YthpmmofleddpnaaDoorTradeBackc5
import Derived.WideShapes
section
namespace Go.Proofs.YthpmmofleddpnaaDoor.Opn
open Go.ChangeShapes Go.WideShapes Go.Proofs.YthpmmofleddpnaaDoorW.PrintWords
set_option linter.unusedVariables false
set_option linter.unusedSimpArgs false
structure Opens (P : Program) (t : TypeId) {α : Type} (d : Kd α) (Ok : α → Prop) : Prop where
  sz : d.sz = P.cellsOf t
  opens : ∀ {H : Type} {enc : TypeId × Value → H} {w : World} {base : Nat} {spare : Nat → Bool} {held : Bool} {fuel : Nat} {cs : List Value} {x : DataW H × List MemPlace},
    DataW.trod enc P w base spare held fuel t cs = some x → (∀ n ∈ x.1.weights P t, n ≤ reachBytes) → ∃ v, d.K w v cs ∧ Ok v
theorem opens_int {P : Program} {t : TypeId} {k : IntKind} (ht : P.underlying t = some (.int k)) (hc : P.cellsOf t = 1) : Opens P t (Kd.int k) (fun n => (Lit.int k n).wf = true) := by
  refine ⟨hc.symm, fun h _ => ?_⟩
  obtain ⟨n, rfl, _, hw⟩ := DataW.trod_int ht h
  exact ⟨n, rfl, hw⟩
theorem opens_string {P : Program} {t : TypeId} (ht : P.underlying t = some .string) (hc : P.cellsOf t = 1) : Opens P t Kd.string (fun s => s.size ≤ 140737488351232) := by
  refine ⟨hc.symm, fun h hw => ?_⟩
  obtain ⟨s, rfl, rfl, hs⟩ := DataW.trod_string ht h
  refine ⟨s, rfl, ?_⟩
  have := hw s.data.toList.length (by simp [DataW.weights])
  rw [Array.length_toList] at this
  exact this
theorem weights_all {H : Type} {P : Program} {e : TypeId} : ∀ {ds : List (DataW H)} {j : Nat} {d : DataW H}, ds[j]? = some d → ∀ n ∈ d.weights P e, n ∈ DataW.weightsAll P e ds
  | d0 :: ds, 0, d, hd, n, hn => by
    simp only [List.getElem?_cons_zero, Option.some.injEq] at hd
    subst hd
    simp only [DataW.weightsAll, List.mem_append]
    exact Or.inl hn
  | d0 :: ds, j + 1, d, hd, n, hn => by
    simp only [List.getElem?_cons_succ] at hd
    simp only [DataW.weightsAll, List.mem_append]
    exact Or.inr (weights_all hd n hn)
  | [], _, _, hd, _, _ => by simp at hd
theorem list_of {α : Type} {n : Nat} {p : Nat → α → Prop} (h : ∀ i, i < n → ∃ x, p i x) : ∃ l : List α, l.length = n ∧ ∀ i x, l[i]? = some x → p i x := by
  induction n with
  | zero => exact ⟨[], rfl, fun i x hx => by simp at hx⟩
  | succ n ih =>
    obtain ⟨l, hl, hp⟩ := ih (fun i hi => h i (by omega))
    obtain ⟨x, hx⟩ := h n (by omega)
    refine ⟨l ++ [x], by simp [hl], fun i y hy => ?_⟩
    by_cases hi : i < l.length
    · rw [List.getElem?_append_left hi] at hy
      exact hp i y hy
    · rw [List.getElem?_append_right (by omega)] at hy
      have : i - l.length = 0 := by
        cases hk : i - l.length with
        | zero => rfl
        | succ m => rw [hk] at hy; simp at hy
      rw [this] at hy
      simp at hy
      subst hy
      have : i = n := by omega
      subst this
      exact hx
theorem opens_slice {P : Program} {t e : TypeId} {α : Type} {d : Kd α} {Ok : α → Prop} (h : Opens P e d Ok) (ht : P.underlying t = some (.slice e)) (hc : P.cellsOf t = 1) {B : Nat} (hB : P.bytesOf e = B) :
    Opens P t (Kd.slice e d) (fun l => l.length ≤ maxLen ∧ l.length * B ≤ 140737488351232 ∧ ∀ x ∈ l, Ok x) := by
  subst hB
  refine ⟨hc.symm, fun {H enc w base spare held fuel cs x} hx hw => ?_⟩
  rcases DataW.trod_slice ht hx with ⟨rfl, rfl⟩ | ⟨a, len, cap, elems, rest, n, _, rfl, rfl, hb, hl, hm, hlen, hel, hsp, hns⟩
  · exact ⟨[], ⟨none, 0, rfl, Nat.le_refl _, Kd.C_nil _ _⟩, by simp⟩
  simp only [DataW.weights, ht] at hw
  have hw1 : (elems.length + rest.length) * P.bytesOf e ≤ reachBytes := by
    have := hw ((elems.length + rest.length) * P.bytesOf e) (by simp)
    exact this
  have hone : ∀ i, i < len → ∃ v : α, ∃ c, w.cells? base (a.add (i * P.cellsOf e)) (P.cellsOf e) = some c ∧ d.K w v c ∧ Ok v := by
    intro i hi
    have h1 := hel i hi
    rw [List.getElem?_eq_getElem (by omega)] at h1
    obtain ⟨c, hc1, hc2⟩ := Option.bind_eq_some_iff.1 h1
    obtain ⟨v, hv, hok⟩ := h.opens hc2 (fun n hn => hw n (by
      simp only [List.mem_cons, List.mem_append]
      right; left
      refine weights_all (j := i) ?_ n hn
      rw [List.getElem?_map, List.getElem?_eq_getElem (by omega)]
      rfl))
    exact ⟨v, c, hc1, hv, hok⟩
  obtain ⟨l, hl1, hl2⟩ := list_of hone
  subst hl1
  refine ⟨l, ⟨some a, cap, rfl, hl, rfl, ?_, fun _ => ⟨a, rfl, fun j p hj => ?_⟩⟩, ?_, ?_, ?_⟩
  · unfold maxLen at hm; omega
  · obtain ⟨c, hc1, hc2, _⟩ := hl2 j p hj
    obtain ⟨_, hlen2, hcell⟩ := World.cells?_some hc1
    refine ⟨c, by rw [h.sz]; exact hlen2, hc2, fun i u hu => ?_⟩
    have hi : i < P.cellsOf e := by
      have := (List.getElem?_eq_some_iff.1 hu).1
      omega
    have := hcell i hi
    rw [hu, ← Deep.add_add, h.sz] at *
    exact this
  · exact Nat.le_trans hl hm
  · have h2 : l.length * P.bytesOf e ≤ (elems.length + rest.length) * P.bytesOf e := Nat.mul_le_mul_right _ (by omega)
    exact Nat.le_trans h2 hw1
  · intro x hx
    obtain ⟨j, hj⟩ := List.getElem?_of_mem hx
    obtain ⟨c, _, _, ho⟩ := hl2 j x hj
    exact ho
structure OpensF (P : Program) (fs : List Field) (off : Nat) {α : Type} (d : Kd α) (Ok : α → Prop) : Prop where
  opens : ∀ {H : Type} {enc : TypeId × Value → H} {w : World} {base : Nat} {spare : Nat → Bool} {held : Bool} {n : Nat} {cs : List Value} {xs : List (DataW H × List MemPlace)},
    xs.length = fs.length → (∀ (i : Nat) (f : Field), fs[i]? = some f → DataW.trod enc P w base spare held n f.type ((cs.drop f.offset).take (P.cellsOf f.type)) = xs[i]?) →
    (∀ m ∈ DataW.weightsEach P (fs.map (·.type)) (xs.map (·.1)), m ≤ reachBytes) → ∃ v, d.K w v ((cs.drop off).take d.sz) ∧ Ok v
theorem opensF_one {P : Program} {f : Field} {off : Nat} {α : Type} {d : Kd α} {Ok : α → Prop} (h : Opens P f.type d Ok) (ho : f.offset = off) : OpensF P [f] off d Ok := by
  refine ⟨fun {H enc w base spare held n cs xs} hl hx hw => ?_⟩
  match xs, hl with
  | [x], _ =>
    have h1 := hx 0 f rfl
    obtain ⟨v, hv, hok⟩ := h.opens h1 (fun n hn => hw n (by simpa [DataW.weightsEach] using hn))
    refine ⟨v, ?_, hok⟩
    rw [h.sz, ← ho]
    exact hv
theorem opensF_cons {P : Program} {f : Field} {fs : List Field} {off : Nat} {α β : Type} {d : Kd α} {d' : Kd β} {Ok : α → Prop} {Ok' : β → Prop} (h : Opens P f.type d Ok) (ho : f.offset = off) (h' : OpensF P fs (off + d.sz) d' Ok') :
    OpensF P (f :: fs) off (Kd.pair d d') (fun p => Ok p.1 ∧ Ok' p.2) := by
  refine ⟨fun {H enc w base spare held n cs xs} hl hx hw => ?_⟩
  match xs, hl with
  | x :: xs, hl =>
    have h1 := hx 0 f rfl
    obtain ⟨v, hv, hok⟩ := h.opens h1 (fun n hn => hw n (by
      simp only [List.map_cons, DataW.weightsEach, List.mem_append]; exact Or.inl hn))
    obtain ⟨v', hv', hok'⟩ := h'.opens (cs := cs) (xs := xs) (by simpa using hl) (fun i g hg => by
      have := hx (i + 1) g (by simpa using hg)
      simpa using this) (fun m hm => hw m (by simp only [List.map_cons, DataW.weightsEach, List.mem_append]; exact Or.inr hm))
    refine ⟨(v, v'), ⟨(cs.drop off).take d.sz, (cs.drop (off + d.sz)).take d'.sz, ?_, ?_, hv'⟩, hok, hok'⟩
    · show (cs.drop off).take (d.sz + d'.sz) = _
      rw [List.take_add, List.drop_drop]
    · rw [h.sz, ← ho]; exact hv
theorem opens_struct {P : Program} {t : TypeId} {fs : Array Field} {α β : Type} {d : Kd α} {Ok : α → Prop} (h : OpensF P fs.toList 0 d Ok) (ht : P.underlying t = some (.struct fs)) (hc : d.sz = P.cellsOf t) (f : β → α) (mk : α → β) (hf : ∀ a, f (mk a) = a) :
    Opens P t (Kd.iso d f) (fun b => Ok (f b)) := by
  refine ⟨hc, fun {H enc w base spare held fuel cs x} hx hw => ?_⟩
  obtain ⟨xs, n, _, rfl, hlen, hsz, hall⟩ := DataW.trod_struct ht hx
  simp only [DataW.weights, ht] at hw
  obtain ⟨v, hv, hok⟩ := h.opens (cs := cs) (xs := xs) (by simpa using hsz) (fun i f hf => hall i f (by simpa using hf)) hw
  refine ⟨mk v, ?_, by rw [hf]; exact hok⟩
  show d.K w (f (mk v)) cs
  rw [hf]
  rw [List.drop_zero, hc, ← hlen, List.take_length] at hv
  exact hv
theorem opens_imp {P : Program} {t : TypeId} {α : Type} {d : Kd α} {Ok Ok' : α → Prop} (h : Opens P t d Ok) (hi : ∀ v, Ok v → Ok' v) : Opens P t d Ok' :=
  ⟨h.sz, fun hx hw => let ⟨v, hv, ho⟩ := h.opens hx hw; ⟨v, hv, hi v ho⟩⟩
end Go.Proofs.YthpmmofleddpnaaDoor.Opn
end
section
namespace Go.Proofs.YthpmmofleddpnaaDoor.X
open Go.RowKit Go.Proofs.YthpmmofleddpnaaDoorW.PrintWords Go.Proofs.YthpmmofleddpnaaDoorW.PrintLast Go.Proofs.YthpmmofleddpnaaDoorW.PrintMore
attribute [local go_sem] max2_int min2_int max_two min_two max_three min_three max_four min_four
set_option linter.unusedVariables false
set_option linter.unusedSimpArgs false
def ok23 (v : S23) : Prop := v.f0.size ≤ 140737488351232 ∧ ((Lit.int .i64 v.f1).wf = true ∧ ((Lit.int .i64 v.f2).wf = true ∧ ((Lit.int .i64 v.f3).wf = true)))
theorem opens23 : Opn.Opens Tryd.prog 23 k23 ok23 := by
  have hu := Tryd.underlying23
  refine Opn.opens_imp (Opn.opens_struct (Ok := fun (p : ByteArray × (Int × (Int × (Int)))) => p.1.size ≤ 140737488351232 ∧ ((Lit.int .i64 p.2.1).wf = true ∧ ((Lit.int .i64 p.2.2.1).wf = true ∧ ((Lit.int .i64 p.2.2.2).wf = true)))) ?hF hu (by kernel_rfl) (fun x : S23 => (x.f0, x.f1, x.f2, x.f3)) (fun a => ⟨a.1, a.2.1, a.2.2.1, a.2.2.2⟩) (fun _ => rfl)) ?hI
  case hF =>
    refine Opn.opensF_cons (Ok := fun (p : ByteArray) => p.size ≤ 140737488351232) (Ok' := fun (p : Int × (Int × (Int))) => (Lit.int .i64 p.1).wf = true ∧ ((Lit.int .i64 p.2.1).wf = true ∧ ((Lit.int .i64 p.2.2).wf = true))) (h := ?_) (ho := ?_) (h' := ?_)
    · exact Opn.opens_string Tryd.underlying9 (by kernel_rfl)
    · rfl
    · skip
      refine Opn.opensF_cons (Ok := fun (p : Int) => (Lit.int .i64 p).wf = true) (Ok' := fun (p : Int × (Int)) => (Lit.int .i64 p.1).wf = true ∧ ((Lit.int .i64 p.2).wf = true)) (h := ?_) (ho := ?_) (h' := ?_)
      · exact Opn.opens_int Tryd.underlying3 (by kernel_rfl)
      · rfl
      · skip
        refine Opn.opensF_cons (Ok := fun (p : Int) => (Lit.int .i64 p).wf = true) (Ok' := fun (p : Int) => (Lit.int .i64 p).wf = true) (h := ?_) (ho := ?_) (h' := ?_)
        · exact Opn.opens_int Tryd.underlying3 (by kernel_rfl)
        · rfl
        · skip
          refine Opn.opensF_one (Ok := fun (p : Int) => (Lit.int .i64 p).wf = true) (h := ?_) (ho := ?_)
          · exact Opn.opens_int Tryd.underlying3 (by kernel_rfl)
          · rfl
  case hI => exact fun v h => h
def ok25 (v : S25) : Prop := v.f0.size ≤ 140737488351232 ∧ (v.f1.size ≤ 140737488351232)
theorem opens25 : Opn.Opens Tryd.prog 25 k25 ok25 := by
  have hu := Tryd.underlying25
  refine Opn.opens_imp (Opn.opens_struct (Ok := fun (p : ByteArray × (ByteArray)) => p.1.size ≤ 140737488351232 ∧ (p.2.size ≤ 140737488351232)) ?hF hu (by kernel_rfl) (fun x : S25 => (x.f0, x.f1)) (fun a => ⟨a.1, a.2⟩) (fun _ => rfl)) ?hI
  case hF =>
    refine Opn.opensF_cons (Ok := fun (p : ByteArray) => p.size ≤ 140737488351232) (Ok' := fun (p : ByteArray) => p.size ≤ 140737488351232) (h := ?_) (ho := ?_) (h' := ?_)
    · exact Opn.opens_string Tryd.underlying9 (by kernel_rfl)
    · rfl
    · skip
      refine Opn.opensF_one (Ok := fun (p : ByteArray) => p.size ≤ 140737488351232) (h := ?_) (ho := ?_)
      · exact Opn.opens_string Tryd.underlying9 (by kernel_rfl)
      · rfl
  case hI => exact fun v h => h
def ok27 (v : S27) : Prop := (Lit.int .i64 v.f0).wf = true ∧ ((Lit.int .i64 v.f1).wf = true ∧ ((Lit.int .i64 v.f2).wf = true ∧ (ok23 v.f3 ∧ ((Lit.int .i64 v.f4).wf = true ∧ ((Lit.int .i64 v.f5).wf = true ∧ (ok25 v.f6 ∧ (ok25 v.f7)))))))
theorem opens27 : Opn.Opens Tryd.prog 27 k27 ok27 := by
  have hu := Tryd.underlying27
  refine Opn.opens_imp (Opn.opens_struct (Ok := fun (p : Int × (Int × (Int × (S23 × (Int × (Int × (S25 × (S25)))))))) => (Lit.int .i64 p.1).wf = true ∧ ((Lit.int .i64 p.2.1).wf = true ∧ ((Lit.int .i64 p.2.2.1).wf = true ∧ (ok23 p.2.2.2.1 ∧ ((Lit.int .i64 p.2.2.2.2.1).wf = true ∧ ((Lit.int .i64 p.2.2.2.2.2.1).wf = true ∧ (ok25 p.2.2.2.2.2.2.1 ∧ (ok25 p.2.2.2.2.2.2.2)))))))) ?hF hu (by kernel_rfl) (fun x : S27 => (x.f0, x.f1, x.f2, x.f3, x.f4, x.f5, x.f6, x.f7)) (fun a => ⟨a.1, a.2.1, a.2.2.1, a.2.2.2.1, a.2.2.2.2.1, a.2.2.2.2.2.1, a.2.2.2.2.2.2.1, a.2.2.2.2.2.2.2⟩) (fun _ => rfl)) ?hI
  case hF =>
    refine Opn.opensF_cons (Ok := fun (p : Int) => (Lit.int .i64 p).wf = true) (Ok' := fun (p : Int × (Int × (S23 × (Int × (Int × (S25 × (S25))))))) => (Lit.int .i64 p.1).wf = true ∧ ((Lit.int .i64 p.2.1).wf = true ∧ (ok23 p.2.2.1 ∧ ((Lit.int .i64 p.2.2.2.1).wf = true ∧ ((Lit.int .i64 p.2.2.2.2.1).wf = true ∧ (ok25 p.2.2.2.2.2.1 ∧ (ok25 p.2.2.2.2.2.2))))))) (h := ?_) (ho := ?_) (h' := ?_)
    · exact Opn.opens_int Tryd.underlying3 (by kernel_rfl)
    · rfl
    · skip
      refine Opn.opensF_cons (Ok := fun (p : Int) => (Lit.int .i64 p).wf = true) (Ok' := fun (p : Int × (S23 × (Int × (Int × (S25 × (S25)))))) => (Lit.int .i64 p.1).wf = true ∧ (ok23 p.2.1 ∧ ((Lit.int .i64 p.2.2.1).wf = true ∧ ((Lit.int .i64 p.2.2.2.1).wf = true ∧ (ok25 p.2.2.2.2.1 ∧ (ok25 p.2.2.2.2.2)))))) (h := ?_) (ho := ?_) (h' := ?_)
      · exact Opn.opens_int Tryd.underlying3 (by kernel_rfl)
      · rfl
      · skip
        refine Opn.opensF_cons (Ok := fun (p : Int) => (Lit.int .i64 p).wf = true) (Ok' := fun (p : S23 × (Int × (Int × (S25 × (S25))))) => ok23 p.1 ∧ ((Lit.int .i64 p.2.1).wf = true ∧ ((Lit.int .i64 p.2.2.1).wf = true ∧ (ok25 p.2.2.2.1 ∧ (ok25 p.2.2.2.2))))) (h := ?_) (ho := ?_) (h' := ?_)
        · exact Opn.opens_int Tryd.underlying3 (by kernel_rfl)
        · rfl
        · skip
          refine Opn.opensF_cons (Ok := fun (p : S23) => ok23 p) (Ok' := fun (p : Int × (Int × (S25 × (S25)))) => (Lit.int .i64 p.1).wf = true ∧ ((Lit.int .i64 p.2.1).wf = true ∧ (ok25 p.2.2.1 ∧ (ok25 p.2.2.2)))) (h := ?_) (ho := ?_) (h' := ?_)
          · exact opens23
          · rfl
          · skip
            refine Opn.opensF_cons (Ok := fun (p : Int) => (Lit.int .i64 p).wf = true) (Ok' := fun (p : Int × (S25 × (S25))) => (Lit.int .i64 p.1).wf = true ∧ (ok25 p.2.1 ∧ (ok25 p.2.2))) (h := ?_) (ho := ?_) (h' := ?_)
            · exact Opn.opens_int Tryd.underlying3 (by kernel_rfl)
            · rfl
            · skip
              refine Opn.opensF_cons (Ok := fun (p : Int) => (Lit.int .i64 p).wf = true) (Ok' := fun (p : S25 × (S25)) => ok25 p.1 ∧ (ok25 p.2)) (h := ?_) (ho := ?_) (h' := ?_)
              · exact Opn.opens_int Tryd.underlying3 (by kernel_rfl)
              · rfl
              · skip
                refine Opn.opensF_cons (Ok := fun (p : S25) => ok25 p) (Ok' := fun (p : S25) => ok25 p) (h := ?_) (ho := ?_) (h' := ?_)
                · exact opens25
                · rfl
                · skip
                  refine Opn.opensF_one (Ok := fun (p : S25) => ok25 p) (h := ?_) (ho := ?_)
                  · exact opens25
                  · rfl
  case hI => exact fun v h => h
end Go.Proofs.YthpmmofleddpnaaDoor.X
end
section
namespace Go.Proofs.YthpmmofleddpnaaDoor.P
open Go.RowKit Go.Proofs.YthpmmofleddpnaaDoorW.PrintWords Go.Proofs.YthpmmofleddpnaaDoorW.PrintMore Go.Proofs.YthpmmofleddpnaaDoor.X
theorem Ev_succ {α : Type} {g : Nat → Option α} {r : α} (h : Ev (fun k => g (k + 1)) r) : Ev g r := Ev.step (fun _ => rfl) h
theorem Ev_bind {α β : Type} {g : Nat → Option α} {f : Nat → α → Option β} {a : α} {r : β} (h : Ev g a) (k : Ev (fun n => f n a) r) : Ev (fun n => (g n).bind (f n)) r := Ev.bind h k
theorem Ev_id {α : Type} {g : Nat → Option α} {r : α} (h : Ev g r) : Ev (fun n => (g n).bind fun x => some x) r := Ev.bind h (Ev.now _)
theorem w_id {x : Int} (h1 : -9223372036854775808 ≤ x) (h2 : x ≤ 9223372036854775807) : wrap64 x = x := by unfold wrap64; omega
theorem w_succ {i n : Nat} (h : i < n) (hn : n ≤ 9223372036854775807) : wrap64 ((i : Int) + 1) = ((i + 1 : Nat) : Int) := by rw [w_id (by omega) (by omega)]; omega
theorem rd_nat (xs : List Int) (i : Nat) (h : i < xs.length) : rd xs (i : Int) = xs[i] := by simp [rd, h]
theorem rdOf_nat {α : Type} (d : α) (xs : List α) (i : Nat) (h : i < xs.length) : rdOf d xs (i : Int) = xs[i] := by simp [rdOf, h]
theorem drop_cons {α : Type} (l : List α) (i : Nat) (h : i < l.length) : l.drop i = l[i] :: l.drop (i + 1) := (List.getElem_cons_drop h).symm
theorem ba_ext {a b : ByteArray} (h : a.toList = b.toList) : a = b := by
  have e : ∀ c : ByteArray, c.toList = c.data.toList := fun c => ByteArray.toList_eq c
  rw [e, e] at h
  cases a; cases b
  congr 1
  exact Array.toList_inj.1 h
end Go.Proofs.YthpmmofleddpnaaDoor.P
end
section
namespace Go.Proofs.YthpmmofleddpnaaDoor.P
set_option linter.unusedVariables false
set_option linter.unusedSimpArgs false
open Go.RowKit Go.Proofs.YthpmmofleddpnaaDoorW.PrintWords Go.Proofs.YthpmmofleddpnaaDoorW.PrintMore Go.Proofs.YthpmmofleddpnaaDoor.X
theorem monSum_all (b : Bool) : monSum b 13 = if b = true then 366 else 365 := by cases b <;> decide
theorem startV_succ {c : Int} (h1 : 2000 ≤ c) (h2 : c ≤ 2199) : startV (c + 1) = startV c + (if leapB c = true then 366 else 365) := by
  have h := year_len (c - 2000).toNat (by omega)
  have e : (2000 : Int) + (((c - 2000).toNat : Nat) : Int) = c := by omega
  rw [e, monSum_all] at h
  omega
theorem startV_rng1 {y : Int} (h1 : 2000 ≤ y) (h2 : y ≤ 2200) : 0 ≤ startV y ∧ startV y ≤ 100000 := by unfold startV leapsV; omega
theorem startV_mono {a b : Int} (h1 : 2000 ≤ a) (h2 : a ≤ b) : startV a ≤ startV b := by unfold startV leapsV; omega
end Go.Proofs.YthpmmofleddpnaaDoor.P
end
section
namespace Go.Proofs.YthpmmofleddpnaaDoor.P
set_option linter.unusedVariables false
set_option linter.unusedSimpArgs false
open Go.RowKit Go.Proofs.YthpmmofleddpnaaDoorW.PrintWords Go.Proofs.YthpmmofleddpnaaDoorW.PrintMore Go.Proofs.YthpmmofleddpnaaDoor.X
theorem by_rng (s : ByteArray) : ∀ x ∈ bytesOf s, 0 ≤ x ∧ x < 256 := by
  intro x hx
  unfold bytesOf at hx
  obtain ⟨b, hb, rfl⟩ := List.mem_map.1 hx
  have := b.toNat_lt
  omega
theorem by_len (s : ByteArray) : (bytesOf s).length = s.size := bytesOf_length s
theorem by_str (L : List Int) (h : ∀ x ∈ L, 0 ≤ x ∧ x < 256) : bytesOf (strOfNums L) = L := by
  unfold bytesOf
  rw [strOfNums_data, List.map_map]
  conv => rhs; rw [← List.map_id L]
  refine List.map_congr_left fun x hx => ?_
  have := h x hx
  simp only [Function.comp, id, UInt8.toNat_ofNat']
  omega
theorem by_data (s : ByteArray) : s.data.toList = (bytesOf s).map fun n => UInt8.ofNat n.toNat := by
  unfold bytesOf
  rw [List.map_map]
  conv => lhs; rw [← List.map_id s.data.toList]
  refine List.map_congr_left fun x hx => ?_
  simp only [Function.comp, id, Int.toNat_natCast, UInt8.ofNat_toNat]
theorem str_by (s : ByteArray) : strOfNums (bytesOf s) = s := by
  cases s with
  | mk d =>
    unfold strOfNums
    rw [← by_data]
theorem by_inj {a b : ByteArray} (h : bytesOf a = bytesOf b) : a = b := by rw [← str_by a, ← str_by b, h]
theorem by_app (a b : ByteArray) : bytesOf (a ++ b) = bytesOf a ++ bytesOf b := by
  unfold bytesOf
  rw [show (a ++ b).data = a.data ++ b.data from ByteArray.data_append, Array.toList_append, List.map_append]
theorem by_ext (s : ByteArray) (i j : Nat) : bytesOf (s.extract i j) = ((bytesOf s).take j).drop i := by
  unfold bytesOf
  rw [ByteArray.data_extract, Array.toList_extract, ← List.map_take, ← List.map_drop]
  congr 1
  rw [List.extract_eq_take_drop, List.drop_take]
theorem by_toList (s : ByteArray) (l : List UInt8) : s.toList = l ↔ bytesOf s = l.map fun b => (b.toNat : Int) := by
  rw [ByteArray.toList_eq]
  unfold bytesOf
  constructor
  · intro h
    rw [h]
  · intro h
    have e := congrArg (List.map fun n : Int => UInt8.ofNat n.toNat) h
    simpa [List.map_map, Function.comp_def] using e
theorem by_eq (a b : ByteArray) : a.toList = b.toList ↔ a = b := ⟨ba_ext, fun h => h ▸ rfl⟩
theorem by_emp (s : ByteArray) : s.toList = ([] : List UInt8) ↔ bytesOf s = [] := by rw [by_toList]; simp
theorem by_bt (s : ByteArray) (i : Nat) (h : i < (bytesOf s).length) : bt s (i : Int) = (bytesOf s)[i] := by
  rw [← rd_bytesOf, rd_nat _ _ h]
theorem by_drop (s : ByteArray) (i : Nat) (h : i < s.size) : (bytesOf s).drop i = bt s (i : Int) :: (bytesOf s).drop (i + 1) := by
  have h' : i < (bytesOf s).length := by rw [by_len]; exact h
  rw [drop_cons _ _ h', by_bt s i h']
theorem by_end (s : ByteArray) (i : Nat) (h : s.size ≤ i) : (bytesOf s).drop i = [] := List.drop_of_length_le (by rw [by_len]; exact h)
def idxL : List Int → Int → Option Nat
  | [], _ => none
  | x :: r, c => if x = c then some 0 else (idxL r c).map (· + 1)
theorem idx_byte (l : List UInt8) (c : UInt8) : Lib.indexByte l c = match idxL (l.map fun b => (b.toNat : Int)) (c.toNat : Int) with | some i => (i : Int) | none => -1 := by
  induction l with
  | nil => rfl
  | cons x r ih =>
    unfold Lib.indexByte
    simp only [List.map_cons, idxL]
    by_cases h : x = c
    · subst h
      simp
    · have h1 : (x == c) = false := by simpa using h
      have h2 : ¬ ((x.toNat : Int) = (c.toNat : Int)) := fun e => h (UInt8.toNat_inj.1 (by omega))
      rw [h1, if_neg h2]
      simp only [Bool.false_eq_true, if_false]
      rw [ih]
      cases hI : idxL (r.map fun b => (b.toNat : Int)) (c.toNat : Int) with
      | none => simp
      | some i =>
        have h3 : ((i : Int) == -1) = false := by
          rw [beq_eq_false_iff_ne]
          omega
        simp [h3]
theorem idx_some {L : List Int} {c : Int} {i : Nat} (h : idxL L c = some i) : i < L.length ∧ L[i]? = some c ∧ c ∉ L.take i ∧ L = L.take i ++ c :: L.drop (i + 1) := by
  induction L generalizing i with
  | nil => cases h
  | cons x r ih =>
    simp only [idxL] at h
    by_cases hx : x = c
    · rw [if_pos hx] at h
      obtain rfl := Option.some.inj h
      subst hx
      simp
    · rw [if_neg hx] at h
      obtain ⟨j, hj, rfl⟩ := Option.map_eq_some_iff.1 h
      obtain ⟨h1, h2, h3, h4⟩ := ih hj
      refine ⟨by simpa using h1, by simpa using h2, ?_, ?_⟩
      · simp only [List.take_succ_cons, List.mem_cons, not_or]
        exact ⟨fun e => hx e.symm, h3⟩
      · simp only [List.take_succ_cons, List.drop_succ_cons, List.cons_append]
        rw [← h4]
theorem idx_none {L : List Int} {c : Int} (h : idxL L c = none) : c ∉ L := by
  induction L with
  | nil => simp
  | cons x r ih =>
    simp only [idxL] at h
    by_cases hx : x = c
    · rw [if_pos hx] at h; cases h
    · rw [if_neg hx] at h
      have h' : idxL r c = none := by simpa using h
      simp only [List.mem_cons, not_or]
      exact ⟨fun e => hx e.symm, ih h'⟩
end Go.Proofs.YthpmmofleddpnaaDoor.P
end
section
namespace Go.Proofs.YthpmmofleddpnaaDoor.P
set_option linter.unusedVariables false
set_option linter.unusedSimpArgs false
open Go.RowKit Go.Proofs.YthpmmofleddpnaaDoorW.PrintWords Go.Proofs.YthpmmofleddpnaaDoorW.PrintMore Go.Proofs.YthpmmofleddpnaaDoor.X
theorem ib_cases (c : UInt8) : ∀ s : List UInt8, (Lib.indexByte s c = -1 ∧ c ∉ s) ∨ ∃ A R, c ∉ A ∧ s = A ++ c :: R ∧ Lib.indexByte s c = (A.length : Int)
  | [] => Or.inl ⟨rfl, by simp⟩
  | x :: r => by
    by_cases h : x = c
    · subst h
      exact Or.inr ⟨[], r, by simp, rfl, by simp [Lib.indexByte]⟩
    · have h1 : (x == c) = false := by simpa using h
      rcases ib_cases c r with ⟨h2, h3⟩ | ⟨A, R, h2, h3, h4⟩
      · refine Or.inl ⟨by simp [Lib.indexByte, h1, h2], ?_⟩
        simp only [List.mem_cons, not_or]
        exact ⟨fun e => h e.symm, h3⟩
      · refine Or.inr ⟨x :: A, R, ?_, by rw [h3]; rfl, ?_⟩
        · simp only [List.mem_cons, not_or]
          exact ⟨fun e => h e.symm, h2⟩
        · have h5 : ((A.length : Int) == -1) = false := by rw [beq_eq_false_iff_ne]; omega
          simp [Lib.indexByte, h1, h4, h5]
theorem filter_no {c : UInt8} {A : List UInt8} (h : c ∉ A) : A.filter (fun x => x != c) = A := List.filter_eq_self.2 fun a ha => by
  simp only [bne_iff_ne, ne_eq]
  intro e
  exact h (e ▸ ha)
theorem repl_out (c : UInt8) : ∀ (n : Nat) (s : List UInt8), s.length ≤ n → Lib.replaceK [c] [] (Lib.count s [c]) s = s.filter (fun x => x != c) := by
  intro n
  induction n with
  | zero =>
    intro s hs
    obtain rfl : s = [] := List.length_eq_zero_iff.1 (by omega)
    rcases ib_cases c [] with ⟨h, _⟩ | ⟨A, R, _, h, _⟩
    · rw [Lib.count_miss (by rw [Lib.index_one]; exact h)]; rfl
    · cases A <;> cases h
  | succ n ih =>
    intro s hs
    rcases ib_cases c s with ⟨h, h2⟩ | ⟨A, R, h2, h3, h4⟩
    · rw [Lib.count_miss (by rw [Lib.index_one]; exact h), filter_no h2]; rfl
    · have hi : Lib.index s [c] = (A.length : Int) := by rw [Lib.index_one]; exact h4
      have hd : s.drop (A.length + [c].length) = R := by
        rw [h3, show A ++ c :: R = (A ++ [c]) ++ R by simp]
        exact List.drop_left' (by simp)
      have ht : s.take A.length = A := by rw [h3]; exact List.take_left' rfl
      rw [Lib.count_hit (by simp) hi, Nat.add_comm 1, Lib.replaceK_hit [c] [] _ s A.length hi, hd, ht, ih R (by rw [h3] at hs; simp at hs; omega)]
      rw [h3, List.filter_append, filter_no h2]
      simp
theorem replaceAll_out (s : List UInt8) (c : UInt8) : Lib.replaceAll s [c] [] = s.filter (fun x => x != c) := by
  have e : ([c] == ([] : List UInt8)) = false := rfl
  have m : Lib.replaceNum s [c] (-1) = Lib.count s [c] := by unfold Lib.replaceNum; rw [if_pos (Or.inl (by decide))]
  unfold Lib.replaceAll Lib.replace
  rw [e, m]
  exact repl_out c s.length s (Nat.le_refl _)
theorem day_out {a b c d e f g h : Int} (ha : 48 ≤ a ∧ a ≤ 57) (hb : 48 ≤ b ∧ b ≤ 57) (hc : 48 ≤ c ∧ c ≤ 57) (hd : 48 ≤ d ∧ d ≤ 57) (he : 48 ≤ e ∧ e ≤ 57) (hf : 48 ≤ f ∧ f ≤ 57) (hg : 48 ≤ g ∧ g ≤ 57) (hh : 48 ≤ h ∧ h ≤ 57) :
    (⟨(Lib.replaceAll (strOfNums [a, b, c, d, 45, e, f, 45, g, h]).data.toList [45] []).toArray⟩ : ByteArray) = strOfNums [a, b, c, d, e, f, g, h] := by
  have key : ∀ x : Int, 48 ≤ x ∧ x ≤ 57 → (UInt8.ofNat x.toNat != 45) = true := by
    intro x hx
    simp only [bne_iff_ne, ne_eq]
    intro e
    have := congrArg UInt8.toNat e
    rw [UInt8.toNat_ofNat'] at this
    have e2 : (45 : UInt8).toNat = 45 := rfl
    omega
  rw [replaceAll_out, strOfNums_data]
  simp only [List.map_cons, List.map_nil, List.filter_cons, key a ha, key b hb, key c hc, key d hd, key e he, key f hf, key g hg, key h hh, if_true, show (UInt8.ofNat (45 : Int).toNat != 45) = false from rfl, Bool.false_eq_true, if_false, List.filter_nil]
  rfl
end Go.Proofs.YthpmmofleddpnaaDoor.P
end
section
namespace Go.Proofs.YthpmmofleddpnaaDoor.P
set_option linter.unusedVariables false
set_option linter.unusedSimpArgs false
open Go.RowKit Go.Proofs.YthpmmofleddpnaaDoorW.PrintWords Go.Proofs.YthpmmofleddpnaaDoorW.PrintMore Go.Proofs.YthpmmofleddpnaaDoor.X
def splitI (c : Int) : List Int → List (List Int)
  | [] => [[]]
  | x :: r => if x = c then [] :: splitI c r else (match splitI c r with | p :: q => (x :: p) :: q | [] => [[x]])
theorem splitI_ne (c : Int) (L : List Int) : splitI c L ≠ [] := by
  cases L with
  | nil => simp [splitI]
  | cons x r =>
    unfold splitI
    split
    · simp
    · split <;> simp
theorem splitI_none {c : Int} : ∀ {L : List Int}, c ∉ L → splitI c L = [L]
  | [], _ => rfl
  | x :: r, h => by
    simp only [List.mem_cons, not_or] at h
    unfold splitI
    rw [if_neg (fun e => h.1 e.symm), splitI_none h.2]
theorem splitI_app {c : Int} : ∀ {A : List Int} (R : List Int), c ∉ A → splitI c (A ++ c :: R) = A :: splitI c R
  | [], R, _ => by rw [List.nil_append, splitI, if_pos rfl]
  | x :: r, R, h => by
    simp only [List.mem_cons, not_or] at h
    rw [List.cons_append, splitI, if_neg (fun e => h.1 e.symm), splitI_app R h.2]
theorem splitB_step (c : UInt8) (s : ByteArray) (ih : ∀ t : ByteArray, t.size < s.size → (Lib.splitB ⟨#[c]⟩ 0 (Lib.countB t ⟨#[c]⟩) t).map bytesOf = splitI (c.toNat : Int) (bytesOf t)) : (Lib.splitB ⟨#[c]⟩ 0 (Lib.countB s ⟨#[c]⟩) s).map bytesOf = splitI (c.toNat : Int) (bytesOf s) := by
  have hix : Lib.indexB s ⟨#[c]⟩ = match idxL (bytesOf s) (c.toNat : Int) with | some i => (i : Int) | none => -1 := by
    have := idx_byte s.data.toList c
    rw [← Lib.index_one] at this
    exact this
  cases hI : idxL (bytesOf s) (c.toNat : Int) with
  | none =>
    rw [hI] at hix
    rw [Lib.countB_miss s _ hix, splitI_none (idx_none hI)]
    rfl
  | some i =>
    rw [hI] at hix
    obtain ⟨h1, h2, h3, h4⟩ := idx_some hI
    have hc := Lib.countB_hit s ⟨#[c]⟩ i (Nat.le_refl _) hix
    have e1 : (⟨#[c]⟩ : ByteArray).size = 1 := rfl
    rw [e1] at hc
    have hsz : (s.extract (i + 1) s.size).size < s.size := by
      rw [by_len] at h1
      rw [ByteArray.size_extract]
      omega
    have ih := ih (s.extract (i + 1) s.size) hsz
    rw [show Lib.countB s ⟨#[c]⟩ = Lib.countB (s.extract (i + 1) s.size) ⟨#[c]⟩ + 1 by omega, Lib.splitB_hit _ _ _ _ i hix, List.map_cons, e1, ih]
    have e2 : bytesOf (s.extract 0 (i + 0)) = (bytesOf s).take i := by rw [by_ext, List.drop_zero, Nat.add_zero]
    have e3 : bytesOf (s.extract (i + 1) s.size) = (bytesOf s).drop (i + 1) := by rw [by_ext, ← by_len, List.take_length]
    rw [e2, e3]
    conv => rhs; rw [h4]
    rw [splitI_app _ h3]
theorem splitB_map (c : UInt8) (n : Nat) : ∀ s : ByteArray, s.size ≤ n → (Lib.splitB ⟨#[c]⟩ 0 (Lib.countB s ⟨#[c]⟩) s).map bytesOf = splitI (c.toNat : Int) (bytesOf s) := by
  induction n with
  | zero => exact fun s hs => splitB_step c s fun t ht => absurd ht (by omega)
  | succ n ih => exact fun s hs => splitB_step c s fun t ht => ih t (by omega)
theorem split_f (s : ByteArray) (c : UInt8) (hs : s.size < 4294967281) : ∃ l, strings_Split.f s (⟨#[c]⟩ : ByteArray) = some l ∧ l.map bytesOf = splitI (c.toNat : Int) (bytesOf s) := by
  refine ⟨_, ?_, splitB_map c s.size s (Nat.le_refl _)⟩
  unfold strings_Split.f
  rw [if_pos ⟨rfl, hs⟩]
def okB (b : Int) : Bool := decide (32 < b) && decide (b ≤ 126)
def goodP (p : List Int) : Bool := !p.isEmpty && p.all okB
theorem sp_len (c : Int) : ∀ L : List Int, (splitI c L).length ≤ L.length + 1
  | [] => by simp [splitI]
  | x :: r => by
    have ih := sp_len c r
    unfold splitI
    split
    · simp only [List.length_cons]; omega
    · split
      · rename_i p q h
        rw [h] at ih
        simp only [List.length_cons] at ih ⊢
        omega
      · simp
theorem field_loop (acc : List ByteArray) (x : ByteArray) (ps : List ByteArray) (n j : Int) (hx : x.size ≤ 4611686018427387904) (ha : acc.length < 8796093022208) : ∀ (d i : Nat), i + d = x.size → (((bytesOf x).drop i).all okB = false → Ev (fun k => words_Fields.l1 k acc 0 x ps n j x.size i) (([], 5) : List ByteArray × Int)) ∧ (((bytesOf x).drop i).all okB = true → ∀ r, Ev (fun k => words_Fields.l0 k (acc ++ [x]) 0 ps n (wrap64 (j + 1))) r → Ev (fun k => words_Fields.l1 k acc 0 x ps n j x.size i) r)
  | 0, i, hd => by
    rw [by_end x i (by omega)]
    refine ⟨fun h => absurd h (by decide), fun _ r hr => ?_⟩
    refine Ev_succ ?_
    simp only [words_Fields.l1, if_neg (show ¬ ((i : Int) < (x.size : Int)) by omega), if_pos ha]
    exact hr
  | d + 1, i, hd => by
    have hi : i < x.size := by omega
    have ih := field_loop acc x ps n j hx ha d (i + 1) (by omega)
    rw [by_drop x i hi, List.all_cons]
    have hb : okB (bt x (i : Int)) = true ↔ (32 < bt x (i : Int) ∧ bt x (i : Int) ≤ 126) := by unfold okB; simp
    by_cases c1 : bt x (i : Int) ≤ 32
    · have hf : okB (bt x (i : Int)) = false := by
        rw [← Bool.not_eq_true, hb]; omega
      rw [hf, Bool.false_and]
      refine ⟨fun _ => Ev_succ ?_, fun h => absurd h (by decide)⟩
      simp only [words_Fields.l1, if_pos (show (i : Int) < (x.size : Int) by omega), if_pos (show 0 ≤ (i : Int) by omega), if_pos c1, if_neg (show ¬ (5 : Int) = 0 by decide)]
      exact Ev.now _
    · by_cases c2 : bt x (i : Int) > 126
      · have hf : okB (bt x (i : Int)) = false := by
          rw [← Bool.not_eq_true, hb]; omega
        rw [hf, Bool.false_and]
        refine ⟨fun _ => Ev_succ ?_, fun h => absurd h (by decide)⟩
        simp only [words_Fields.l1, if_pos (show (i : Int) < (x.size : Int) by omega), if_pos (show 0 ≤ (i : Int) by omega), if_neg c1, if_pos c2, if_neg (show ¬ (5 : Int) = 0 by decide)]
        exact Ev.now _
      · have hf : okB (bt x (i : Int)) = true := by rw [hb]; omega
        rw [hf, Bool.true_and]
        refine ⟨fun h => Ev_succ ?_, fun h r hr => Ev_succ ?_⟩
        · simp only [words_Fields.l1, if_pos (show (i : Int) < (x.size : Int) by omega), if_pos (show 0 ≤ (i : Int) by omega), if_neg c1, if_neg c2, w_succ hi (by omega)]
          exact ih.1 h
        · simp only [words_Fields.l1, if_pos (show (i : Int) < (x.size : Int) by omega), if_pos (show 0 ≤ (i : Int) by omega), if_neg c1, if_neg c2, w_succ hi (by omega)]
          exact ih.2 h r hr
theorem fields_loop (ps : List ByteArray) (hp : ps.length < 8796093022208) (hz : ∀ p ∈ ps, p.size ≤ 4611686018427387904) : ∀ (d i : Nat), i + d = ps.length → Ev (fun k => words_Fields.l0 k (ps.take i) 0 ps ps.length i) (if ((ps.drop i).all fun p => goodP (bytesOf p)) = true then (ps, 0) else ([], 5))
  | 0, i, hd => by
    refine Ev_succ ?_
    simp only [words_Fields.l0, if_neg (show ¬ ((i : Int) < (ps.length : Int)) by omega), if_true]
    rw [List.drop_of_length_le (by omega), List.take_of_length_le (by omega)]
    exact Ev.now _
  | d + 1, i, hd => by
    have hi : i < ps.length := by omega
    have ih := fields_loop ps hp hz d (i + 1) (by omega)
    have hr : rdOf ByteArray.empty ps (i : Int) = ps[i] := rdOf_nat _ _ _ hi
    refine Ev_succ ?_
    simp only [words_Fields.l0, if_pos (show (i : Int) < (ps.length : Int) by omega), if_pos (show 0 ≤ (i : Int) by omega), hr]
    rw [drop_cons ps i hi, List.all_cons]
    by_cases c : ps[i].toList = []
    · have hg : goodP (bytesOf ps[i]) = false := by rw [(by_emp _).1 c]; rfl
      simp only [if_pos c, if_neg (show ¬ (5 : Int) = 0 by decide), hg, Bool.false_and, Bool.false_eq_true, if_false]
      exact Ev.now _
    · have hne : bytesOf ps[i] ≠ [] := fun h => c ((by_emp _).2 h)
      have hem : (bytesOf ps[i]).isEmpty = false := by simpa using hne
      have hl := field_loop (ps.take i) ps[i] ps ps.length i (hz _ (List.getElem_mem hi)) (by rw [List.length_take]; omega) ps[i].size 0 (by omega)
      rw [List.drop_zero] at hl
      simp only [if_neg c]
      have hg : goodP (bytesOf ps[i]) = (bytesOf ps[i]).all okB := by unfold goodP; rw [hem]; simp
      rw [hg]
      cases ha : (bytesOf ps[i]).all okB with
      | false =>
        simp only [Bool.false_and, Bool.false_eq_true, if_false]
        exact hl.1 ha
      | true =>
        rw [Bool.true_and]
        refine hl.2 ha _ ?_
        rw [w_succ hi (by omega), show ps.take i ++ [ps[i]] = ps.take (i + 1) from (List.take_append_getElem hi)]
        exact ih
def fieldsE (L : List Int) : List (List Int) × Int := if 512 < L.length then ([], 8) else if L = [] then ([], 0) else if (splitI 32 L).all goodP = true then (splitI 32 L, 0) else ([], 5)
theorem map_str (l : List ByteArray) : (l.map bytesOf).map strOfNums = l := by
  rw [List.map_map]
  conv => rhs; rw [← List.map_id l]
  exact List.map_congr_left fun x _ => str_by x
def fieldsS (s : ByteArray) : List ByteArray × Int := ((fieldsE (bytesOf s)).1.map strOfNums, (fieldsE (bytesOf s)).2)
theorem fields_f (s : ByteArray) : Ev (fun k => words_Fields.f k s) (fieldsS s) := by
  unfold words_Fields.f fieldsS fieldsE
  rw [by_len]
  by_cases c1 : 512 < s.size
  · simp only [if_pos c1, if_pos (show (s.size : Int) > 512 by omega)]
    exact Ev.now _
  simp only [if_neg c1, if_neg (show ¬ (s.size : Int) > 512 by omega)]
  by_cases c2 : s.toList = []
  · simp only [if_pos c2, if_pos ((by_emp s).1 c2)]
    exact Ev.now _
  simp only [if_neg c2, if_neg (fun h => c2 ((by_emp s).2 h))]
  obtain ⟨l, h1, h2⟩ := split_f s 32 (by omega)
  rw [h1]
  simp only [Option.bind_some]
  have hlen : l.length ≤ s.size + 1 := by
    have := sp_len 32 (bytesOf s)
    rw [show ((32 : UInt8).toNat : Int) = 32 from rfl] at h2
    rw [← h2, List.length_map, by_len] at this
    exact this
  have hsz : ∀ p ∈ l, p.size ≤ 4611686018427387904 := by
    intro p hp
    have hm : bytesOf p ∈ splitI 32 (bytesOf s) := by
      rw [show ((32 : UInt8).toNat : Int) = 32 from rfl] at h2
      rw [← h2]
      exact List.mem_map_of_mem hp
    have key : ∀ (L : List Int), ∀ q ∈ splitI 32 L, q.length ≤ L.length := by
      intro L
      induction L with
      | nil => intro q hq; simp [splitI] at hq; subst hq; simp
      | cons x r ih =>
        intro q hq
        unfold splitI at hq
        split at hq
        · rcases List.mem_cons.1 hq with h | h
          · subst h; simp
          · have := ih q h; simp; omega
        · split at hq
          · rename_i p1 q1 he
            rcases List.mem_cons.1 hq with h | h
            · subst h
              have := ih p1 (by rw [he]; simp)
              simp; omega
            · have := ih q (by rw [he]; simp [h])
              simp; omega
          · simp at hq; subst hq; simp
    have := key _ _ hm
    rw [by_len, by_len] at this
    omega
  have hf := fields_loop l (by omega) hsz l.length 0 (by omega)
  rw [List.take_zero, List.drop_zero] at hf
  have hall : (l.all fun p => goodP (bytesOf p)) = (splitI 32 (bytesOf s)).all goodP := by
    rw [show ((32 : UInt8).toNat : Int) = 32 from rfl] at h2
    rw [← h2, List.all_map]
    rfl
  rw [hall] at hf
  by_cases c3 : (splitI 32 (bytesOf s)).all goodP = true
  · rw [if_pos c3] at hf
    simp only [if_pos c3]
    rw [show ((32 : UInt8).toNat : Int) = 32 from rfl] at h2
    rw [← h2, map_str]
    exact hf
  · rw [if_neg c3] at hf
    simp only [if_neg c3]
    exact hf
def joinI : List (List Int) → List Int
  | [] => []
  | [x] => x
  | x :: y :: r => x ++ 32 :: joinI (y :: r)
theorem join_split : ∀ L : List Int, joinI (splitI 32 L) = L
  | [] => rfl
  | x :: r => by
    have ih := join_split r
    have hn := splitI_ne 32 r
    unfold splitI
    by_cases c : x = 32
    · rw [if_pos c]
      cases hs : splitI 32 r with
      | nil => exact absurd hs hn
      | cons p q =>
        rw [hs] at ih
        unfold joinI
        rw [ih, c]
        rfl
    · rw [if_neg c]
      cases hs : splitI 32 r with
      | nil => exact absurd hs hn
      | cons p q =>
        rw [hs] at ih
        cases q with
        | nil => unfold joinI at ih ⊢; rw [ih]
        | cons y q =>
          unfold joinI at ih ⊢
          rw [← ih]
          rfl
theorem join_bytes : ∀ l : List ByteArray, bytesOf ⟨(Lib.join (l.map (·.data.toList)) (⟨#[32]⟩ : ByteArray).data.toList).toArray⟩ = joinI (l.map bytesOf)
  | [] => rfl
  | [x] => by
    show List.map _ (Lib.join [x.data.toList] [32]).toArray.toList = _
    rw [Lib.join_one]
    rfl
  | x :: y :: r => by
    have ih := join_bytes (y :: r)
    have e : Lib.join ((x :: y :: r).map (·.data.toList)) [32] = x.data.toList ++ 32 :: Lib.join ((y :: r).map (·.data.toList)) [32] := by
      simp only [List.map_cons, Lib.join_cons, Lib.joinTail, List.flatten_cons]
      rfl
    show List.map _ (Lib.join ((x :: y :: r).map (·.data.toList)) [32]).toArray.toList = _
    rw [e]
    have ih2 : List.map (fun b : UInt8 => (b.toNat : Int)) (Lib.join ((y :: r).map (·.data.toList)) [32]) = joinI ((y :: r).map bytesOf) := ih
    simp only [List.toList_toArray, List.map_append, List.map_cons, joinI] at ih2 ⊢
    rw [ih2]
    rfl
def joinS (l : List ByteArray) : ByteArray := strOfNums (joinI (l.map bytesOf))
theorem join_rng (l : List ByteArray) : ∀ x ∈ joinI (l.map bytesOf), 0 ≤ x ∧ x < 256 := by
  rw [← join_bytes]
  exact by_rng _
theorem joinS_by (l : List ByteArray) : bytesOf (joinS l) = joinI (l.map bytesOf) := by_str _ (join_rng l)
theorem join_len : ∀ l : List (List Int), (joinI l).length ≤ (l.map fun x => x.length + 1).sum
  | [] => by simp [joinI]
  | [x] => by simp [joinI]
  | x :: y :: r => by
    have := join_len (y :: r)
    simp only [joinI, List.length_append, List.length_cons, List.map_cons, List.sum_cons] at this ⊢
    omega
def sumZ (l : List ByteArray) : Nat := (l.map fun x => x.size + 1).sum
theorem join_f (l : List ByteArray) (h : sumZ l ≤ 140737488355328) : words_Join.f l = some (joinS l) := by
  have hb := join_bytes l
  have hl : (Lib.join (l.map (·.data.toList)) (⟨#[32]⟩ : ByteArray).data.toList).length ≤ 140737488355328 := by
    have h1 := join_len (l.map bytesOf)
    have e : (l.map bytesOf).map (fun x => x.length + 1) = l.map fun x => x.size + 1 := by
      rw [List.map_map]
      exact List.map_congr_left fun x _ => by simp [by_len]
    rw [e, ← hb, by_len] at h1
    exact Nat.le_trans h1 h
  have hn : l.length ≤ 140737488355328 := by
    have : l.length ≤ sumZ l := by
      unfold sumZ
      clear hb hl h
      induction l with
      | nil => simp
      | cons x r ih => simp only [List.map_cons, List.sum_cons, List.length_cons]; omega
    omega
  unfold words_Join.f words_together.f strings_Join.f
  rw [if_pos ⟨hl, hn⟩]
  simp only [Option.bind_some]
  congr 1
  apply by_inj
  rw [hb, joinS_by]
end Go.Proofs.YthpmmofleddpnaaDoor.P
end
section
namespace Go.Proofs.YthpmmofleddpnaaDoor.P
set_option linter.unusedVariables false
set_option linter.unusedSimpArgs false
open Go.RowKit Go.Proofs.YthpmmofleddpnaaDoorW.PrintWords Go.Proofs.YthpmmofleddpnaaDoorW.PrintMore Go.Proofs.YthpmmofleddpnaaDoor.X
def letterB (n : Int) : Bool := decide (97 ≤ n) && decide (n ≤ 122)
def digitB (n : Int) : Bool := decide (48 ≤ n) && decide (n ≤ 57)
theorem letter_f (n : Int) : words_letter.f n = some (letterB n) := by
  unfold words_letter.f letterB
  by_cases h : 97 ≤ n
  · rw [if_pos h, decide_eq_true h, Bool.true_and]
  · rw [if_neg h, decide_eq_false h, Bool.false_and]
theorem digit_f (n : Int) : words_digit.f n = some (digitB n) := by
  unfold words_digit.f digitB
  by_cases h : 48 ≤ n
  · rw [if_pos h, decide_eq_true h, Bool.true_and]
  · rw [if_neg h, decide_eq_false h, Bool.false_and]
def chB (s : ByteArray) (i : Nat) : Bool := letterB (bt s (i : Int)) || (!(i == 0) && digitB (bt s (i : Int)))
def nameFrom (s : ByteArray) : Nat → Nat → Bool
  | 0, _ => true
  | d + 1, i => chB s i && nameFrom s d (i + 1)
def nameB (s : ByteArray) : Bool := decide (0 < s.size) && decide (s.size ≤ 12) && nameFrom s s.size 0
theorem nameLoop (s : ByteArray) (hs : s.size ≤ 12) (h0 : letterB (bt s 0) = true) : ∀ (d i : Nat), i + d = s.size → Ev (fun k => words_Name.l0 k s s.size i) (nameFrom s d i)
  | 0, i, hd => by
    refine Ev_succ ?_
    simp only [words_Name.l0, if_neg (show ¬ ((i : Int) < (s.size : Int)) by omega)]
    exact Ev.now _
  | d + 1, i, hd => by
    have hi : i < s.size := by omega
    have ih := nameLoop s hs h0 d (i + 1) (by omega)
    refine Ev_succ ?_
    simp only [words_Name.l0, if_pos (show (i : Int) < (s.size : Int) by omega), if_pos (show 0 ≤ (i : Int) by omega), letter_f, digit_f, Option.bind_some, w_succ hi (by omega), nameFrom, chB]
    cases h1 : letterB (bt s (i : Int)) with
    | true => simp only [if_true, Bool.true_or, Bool.true_and]; exact ih
    | false =>
      simp only [Bool.false_eq_true, if_false, Bool.false_or]
      have hi0 : (i == 0) = false := by
        rw [← Bool.not_eq_true, beq_iff_eq]
        rintro rfl
        rw [show ((0 : Nat) : Int) = 0 from rfl, h0] at h1
        cases h1
      simp only [hi0, Bool.not_false, Bool.true_and]
      cases h2 : digitB (bt s (i : Int)) with
      | true => simp only [if_true, Bool.true_and]; exact ih
      | false => simp only [Bool.false_eq_true, if_false, Bool.false_and]; exact Ev.now _
theorem name_f (s : ByteArray) : Ev (fun k => words_Name.f k s) (nameB s) := by
  have hj : nameB s = false → Ev (fun k => words_Name.j0 k s true) (nameB s) := by
    intro h
    rw [h]
    refine Ev_succ ?_
    simp only [words_Name.j0, if_true]
    exact Ev.now _
  unfold words_Name.f
  by_cases c0 : s.toList = []
  · simp only [if_pos c0]
    refine hj ?_
    have : s.size = 0 := by
      have e : s.toList = s.data.toList := ByteArray.toList_eq s
      rw [e] at c0
      have := congrArg List.length c0
      simpa using this
    simp [nameB, this]
  · simp only [if_neg c0]
    by_cases c1 : (s.size : Int) > 12
    · simp only [if_pos c1]
      exact hj (by simp [nameB]; omega)
    · have hp : 0 < s.size := by
        rcases Nat.eq_zero_or_pos s.size with h | h
        · exfalso
          apply c0
          have e : s.toList = s.data.toList := ByteArray.toList_eq s
          rw [e]
          exact List.length_eq_zero_iff.1 (by simpa using h)
        · exact h
      simp only [if_neg c1, if_pos (show 0 < (s.size : Int) by omega), letter_f, Option.bind_some]
      have hn : nameB s = nameFrom s s.size 0 := by
        unfold nameB
        rw [decide_eq_true hp, decide_eq_true (show s.size ≤ 12 by omega)]
        simp
      cases h1 : letterB (bt s 0) with
      | false =>
        refine hj ?_
        rw [hn]
        obtain ⟨d, hd⟩ : ∃ d, s.size = d + 1 := ⟨s.size - 1, by omega⟩
        rw [hd]
        simp [nameFrom, chB, h1]
      | true =>
        refine Ev_succ ?_
        simp only [words_Name.j0, Bool.not_true, Bool.false_eq_true, if_false]
        rw [hn]
        exact nameLoop s (by omega) h1 s.size 0 (by omega)
end Go.Proofs.YthpmmofleddpnaaDoor.P
end
section
namespace Go.Proofs.YthpmmofleddpnaaDoor.P
set_option linter.unusedVariables false
set_option linter.unusedSimpArgs false
open Go.RowKit Go.Proofs.YthpmmofleddpnaaDoorW.PrintWords Go.Proofs.YthpmmofleddpnaaDoorW.PrintMore Go.Proofs.YthpmmofleddpnaaDoor.X
def plainL (L : List Int) : Bool := !L.isEmpty && !(decide (1 < L.length) && L.head? == some 48) && L.all digitB
def numV (n : Int) (L : List Int) : Int := L.foldl (fun n b => 10 * n + (b - 48)) n
def numR (n : Int) (L : List Int) (minus : Bool) : Int × Int := if 1152921504606846976 < numV n L then (0, 3) else (if minus then -(numV n L) else numV n L, 0)
def unsign (L : List Int) : List Int × Bool := if L.head? = some 45 then (L.tail, true) else (L, false)
def intL (L : List Int) : Int × Int := if plainL (unsign L).1 = true ∧ ¬((unsign L).2 = true ∧ (unsign L).1 = [48]) then numR 0 (unsign L).1 (unsign L).2 else (0, 5)
theorem dig_rng {x : Int} (h : digitB x = true) : 48 ≤ x ∧ x ≤ 57 := by
  unfold digitB at h
  simp only [Bool.and_eq_true, decide_eq_true_eq] at h
  exact h
theorem numV_mono : ∀ (L : List Int) (n : Int), 0 ≤ n → (∀ x ∈ L, digitB x = true) → n ≤ numV n L
  | [], n, _, _ => Int.le_refl _
  | x :: L, n, h, hd => by
    have h1 := dig_rng (hd x (by simp))
    have := numV_mono L (10 * n + (x - 48)) (by omega) fun y hy => hd y (by simp [hy])
    unfold numV at this ⊢
    rw [List.foldl_cons]
    omega
theorem num_step (n d : Int) (h0 : 0 ≤ n) (h1 : n ≤ 1152921504606846976) (h2 : 0 ≤ d) (h3 : d ≤ 9) : (10 * n + d ≤ 9223372036854775807 ∧ wrap64 (wrap64 (10 * n) + d) = 10 * n + d) ∨ (9223372036854775807 < 10 * n + d ∧ wrap64 (wrap64 (10 * n) + d) < 0) := by
  unfold wrap64
  omega
theorem neg_w (n : Int) (h0 : 0 ≤ n) (h1 : n ≤ 1152921504606846976) : wrap64 (-n) = -n := w_id (by omega) (by omega)
theorem digits_loop (s : ByteArray) (hs : s.size ≤ 4611686018427387904) : ∀ (d i : Nat), i + d = s.size → Ev (fun k => words_digits.l0 k s s.size i) (((bytesOf s).drop i).all digitB)
  | 0, i, hd => by
    refine Ev_succ ?_
    simp only [words_digits.l0, if_neg (show ¬ ((i : Int) < (s.size : Int)) by omega)]
    rw [by_end s i (by omega)]
    exact Ev.now _
  | d + 1, i, hd => by
    have hi : i < s.size := by omega
    have ih := digits_loop s hs d (i + 1) (by omega)
    refine Ev_succ ?_
    simp only [words_digits.l0, if_pos (show (i : Int) < (s.size : Int) by omega), if_pos (show 0 ≤ (i : Int) by omega), digit_f, Option.bind_some, w_succ hi (by omega)]
    rw [by_drop s i hi, List.all_cons]
    cases h : digitB (bt s (i : Int)) with
    | true => simp only [if_true, Bool.true_and]; exact ih
    | false => simp only [Bool.false_eq_true, if_false, Bool.false_and]; exact Ev.now _
theorem digits_f (s : ByteArray) (hs : s.size ≤ 4611686018427387904) : Ev (fun k => words_digits.f k s) ((bytesOf s).all digitB) := by
  unfold words_digits.f
  exact digits_loop s hs s.size 0 (by omega)
theorem number_loop (s : ByteArray) (minus : Bool) (hs : s.size ≤ 4611686018427387904) (hall : ∀ x ∈ bytesOf s, digitB x = true) : ∀ (d i : Nat) (n : Int), i + d = s.size → 0 ≤ n → n ≤ 1152921504606846976 → Ev (fun k => words_number.l0 k s minus n s.size i) (numR n ((bytesOf s).drop i) minus)
  | 0, i, n, hd, h0, h1 => by
    refine Ev_succ ?_
    simp only [words_number.l0, if_neg (show ¬ ((i : Int) < (s.size : Int)) by omega)]
    rw [by_end s i (by omega)]
    have hc : numR n [] minus = (if minus then -n else n, 0) := by
      unfold numR numV
      rw [List.foldl_nil, if_neg (show ¬ 1152921504606846976 < n by omega)]
    rw [hc]
    cases minus with
    | true => simp only [if_true, neg_w n h0 h1]; exact Ev.now _
    | false => simp only [Bool.false_eq_true, if_false]; exact Ev.now _
  | d + 1, i, n, hd, h0, h1 => by
    have hi : i < s.size := by omega
    have hb : digitB (bt s (i : Int)) = true := hall _ (by
      have h' : i < (bytesOf s).length := by rw [by_len]; exact hi
      rw [by_bt s i h']
      exact List.getElem_mem h')
    have hb2 := dig_rng hb
    refine Ev_succ ?_
    simp only [words_number.l0, if_pos (show (i : Int) < (s.size : Int) by omega), if_pos (show 0 ≤ (i : Int) by omega), w_succ hi (by omega), Int.emod_eq_of_lt (show 0 ≤ bt s (i : Int) - 48 by omega) (show bt s (i : Int) - 48 < 256 by omega)]
    rw [by_drop s i hi]
    have hr : ∀ x ∈ (bytesOf s).drop (i + 1), digitB x = true := fun x hx => hall x (List.mem_of_mem_drop hx)
    have hm := numV_mono ((bytesOf s).drop (i + 1)) (10 * n + (bt s (i : Int) - 48)) (by omega) hr
    have hc : numR n (bt s (i : Int) :: (bytesOf s).drop (i + 1)) minus = numR (10 * n + (bt s (i : Int) - 48)) ((bytesOf s).drop (i + 1)) minus := by
      unfold numR numV
      rw [List.foldl_cons]
    rw [hc]
    rcases num_step n (bt s (i : Int) - 48) h0 h1 (by omega) (by omega) with ⟨h2, h3⟩ | ⟨h2, h3⟩
    · simp only [h3, if_neg (show ¬ 10 * n + (bt s (i : Int) - 48) < 0 by omega)]
      by_cases h4 : 10 * n + (bt s (i : Int) - 48) > 1152921504606846976
      · simp only [if_pos h4]
        have : numR (10 * n + (bt s (i : Int) - 48)) ((bytesOf s).drop (i + 1)) minus = (0, 3) := by
          unfold numR
          rw [if_pos (by omega)]
        rw [this]
        exact Ev.now _
      · simp only [if_neg h4]
        exact number_loop s minus hs hall d (i + 1) _ (by omega) (by omega) (by omega)
    · simp only [if_pos h3]
      have : numR (10 * n + (bt s (i : Int) - 48)) ((bytesOf s).drop (i + 1)) minus = (0, 3) := by
        unfold numR
        rw [if_pos (by omega)]
      rw [this]
      exact Ev.now _
theorem number_f (s : ByteArray) (minus : Bool) (hs : s.size ≤ 4611686018427387904) (hall : ∀ x ∈ bytesOf s, digitB x = true) : Ev (fun k => words_number.f k s minus) (numR 0 (bytesOf s) minus) := by
  unfold words_number.f
  exact number_loop s minus hs hall s.size 0 0 (by omega) (by omega) (by omega)
theorem plain_all {L : List Int} (h : plainL L = true) : ∀ x ∈ L, digitB x = true := by
  unfold plainL at h
  simp only [Bool.and_eq_true] at h
  exact List.all_eq_true.1 h.2
theorem bt_head (s : ByteArray) (h : 0 < s.size) : (bytesOf s).head? = some (bt s 0) := by
  have := by_drop s 0 h
  rw [List.drop_zero] at this
  rw [this]
  rfl
theorem plain_f (s : ByteArray) (hs : s.size ≤ 4611686018427387904) : Ev (fun k => words_plain.f k s) (plainL (bytesOf s)) := by
  unfold words_plain.f plainL
  have hd := digits_f s hs
  by_cases c0 : s.toList = []
  · simp only [if_pos c0]
    rw [(by_emp s).1 c0]
    exact Ev.now _
  · simp only [if_neg c0]
    have h1 : bytesOf s ≠ [] := fun h => c0 ((by_emp s).2 h)
    have h2 : (bytesOf s).isEmpty = false := by simpa using h1
    have h3 : 0 < s.size := by
      rw [← by_len]
      exact List.length_pos_iff.2 h1
    rw [h2]
    simp only [Bool.not_false, Bool.true_and]
    by_cases c1 : (s.size : Int) > 1
    · simp only [if_pos c1, if_pos (show 0 < (s.size : Int) by omega)]
      have h4 : decide (1 < (bytesOf s).length) = true := by
        rw [by_len]
        exact decide_eq_true (by omega)
      rw [h4, bt_head s h3]
      simp only [Bool.true_and]
      by_cases c2 : bt s 0 = 48
      · simp only [if_pos c2, c2]
        simp
        exact Ev.now _
      · have h5 : (some (bt s 0) == some (48 : Int)) = false := by simpa using c2
        simp only [if_neg c2, h5, Bool.not_false, Bool.true_and]
        exact Ev_id hd
    · simp only [if_neg c1]
      have h4 : decide (1 < (bytesOf s).length) = false := by
        rw [by_len]
        exact decide_eq_false (by omega)
      rw [h4]
      simp only [Bool.false_and, Bool.not_false, Bool.true_and]
      exact Ev_id hd
theorem cutp_f (s : ByteArray) : strings_CutPrefix.f s (⟨#[45]⟩ : ByteArray) = some (strOfNums (unsign (bytesOf s)).1, (unsign (bytesOf s)).2) := by
  have hsz : (⟨#[45]⟩ : ByteArray).size = 1 := rfl
  have hl : bytesOf (⟨#[45]⟩ : ByteArray) = [45] := rfl
  have h0 : stringslite_HasPrefix.f s (⟨#[45]⟩ : ByteArray) = some (decide ((bytesOf s).head? = some 45)) := by
    unfold stringslite_HasPrefix.f
    rw [hsz]
    by_cases c : (s.size : Int) ≥ ((1 : Nat) : Int)
    · rw [if_pos c, if_pos (by omega), if_pos (by omega)]
      congr 1
      have h3 : 0 < s.size := by omega
      have hd := by_drop s 0 h3
      rw [List.drop_zero] at hd
      have he : bytesOf (s.extract 0 1) = [bt s 0] := by rw [by_ext, hd]; rfl
      rw [bt_head s h3]
      rw [Bool.eq_iff_iff, beq_iff_eq, decide_eq_true_eq, by_eq]
      constructor
      · intro h
        have := congrArg bytesOf h
        rw [show (((1 : Nat) : Int)).toNat = 1 from rfl, he, hl] at this
        simpa using this
      · intro h
        apply by_inj
        rw [show (((1 : Nat) : Int)).toNat = 1 from rfl, he, hl]
        simpa using h
    · rw [if_neg c]
      have h4 : bytesOf s = [] := List.length_eq_zero_iff.1 (by rw [by_len]; omega)
      rw [h4]
      simp
  unfold strings_CutPrefix.f stringslite_CutPrefix.f
  rw [h0]
  simp only [Option.bind_some]
  unfold unsign
  by_cases c : (bytesOf s).head? = some 45
  · have h3 : 0 < s.size := by
      rw [← by_len]
      rcases hb : bytesOf s with _ | ⟨x, r⟩
      · rw [hb] at c; simp at c
      · simp
    rw [if_pos (decide_eq_true c), if_pos c, hsz, if_pos (by omega), if_pos (by omega)]
    simp only [Option.bind_some]
    congr 2
    apply by_inj
    rw [by_ext, by_str _ fun x hx => by_rng s x (List.mem_of_mem_tail hx), show (((1 : Nat) : Int)).toNat = 1 from rfl, ← by_len, List.take_length, List.drop_one]
  · rw [if_neg (by simpa using c), if_neg c]
    simp only [Option.bind_some]
    rw [str_by]
theorem unsign_rng {L : List Int} (h : ∀ x ∈ L, 0 ≤ x ∧ x < 256) : ∀ x ∈ (unsign L).1, 0 ≤ x ∧ x < 256 := by
  unfold unsign
  split
  · exact fun x hx => h x (List.mem_of_mem_tail hx)
  · exact h
theorem unsign_len (L : List Int) : (unsign L).1.length ≤ L.length := by
  unfold unsign
  split
  · simp
  · exact Nat.le_refl _
theorem int_f (s : ByteArray) (hs : s.size ≤ 4611686018427387904) : Ev (fun k => words_Int.f k s) (intL (bytesOf s)) := by
  unfold words_Int.f intL
  rw [cutp_f]
  simp only [Option.bind_some]
  have hb := by_str (unsign (bytesOf s)).1 (unsign_rng (by_rng s))
  have hsz : (strOfNums (unsign (bytesOf s)).1).size ≤ 4611686018427387904 := by
    rw [strOfNums_size]
    have := unsign_len (bytesOf s)
    rw [by_len] at this
    omega
  refine Ev_bind (plain_f _ hsz) ?_
  rw [hb]
  generalize (unsign (bytesOf s)).2 = m
  generalize hT : (unsign (bytesOf s)).1 = T at hb hsz
  by_cases c0 : plainL T = true
  · simp only [if_pos c0]
    have hn := number_f (strOfNums T) m hsz (by rw [hb]; exact plain_all c0)
    rw [hb] at hn
    cases m with
    | false =>
      simp only [Bool.false_eq_true, if_false, false_and, not_false_eq_true, and_true, if_pos c0]
      exact Ev_bind hn (Ev.now _)
    | true =>
      simp only [if_true, true_and]
      by_cases c1 : (strOfNums T).toList = ([48] : List UInt8)
      · have c2 : T = [48] := by
          have := (by_toList (strOfNums T) [48]).1 c1
          rw [hb] at this
          exact this
        simp only [if_pos c1]
        rw [if_neg (by rintro ⟨_, h⟩; exact h c2)]
        exact Ev.now _
      · have c2 : ¬ T = [48] := by
          intro h
          apply c1
          rw [by_toList, hb, h]
          rfl
        simp only [if_neg c1]
        rw [if_pos ⟨c0, c2⟩]
        exact Ev_bind hn (Ev.now _)
  · simp only [if_neg c0]
    rw [if_neg (fun h => c0 h.1)]
    exact Ev.now _
theorem plain_zero {w : List Int} (h : plainL w = true) (h0 : numV 0 w = 0) : w = [48] := by
  have ha := plain_all h
  unfold plainL at h
  rcases w with _ | ⟨x, r⟩
  · simp at h
  · have hx := dig_rng (ha x (by simp))
    have hm := numV_mono r (x - 48) (by omega) fun y hy => ha y (by simp [hy])
    have he : numV 0 (x :: r) = numV (x - 48) r := by
      unfold numV
      rw [List.foldl_cons]
      congr 1
      omega
    rw [he] at h0
    obtain rfl : x = 48 := by omega
    rcases r with _ | ⟨y, r⟩
    · rfl
    · simp at h
theorem numV_app (n : Int) (A B : List Int) : numV n (A ++ B) = numV (numV n A) B := by
  unfold numV
  rw [List.foldl_append]
end Go.Proofs.YthpmmofleddpnaaDoor.P
end
section
namespace Go.Proofs.YthpmmofleddpnaaDoor.P
set_option linter.unusedVariables false
set_option linter.unusedSimpArgs false
open Go.RowKit Go.Proofs.YthpmmofleddpnaaDoorW.PrintWords Go.Proofs.YthpmmofleddpnaaDoorW.PrintMore Go.Proofs.YthpmmofleddpnaaDoor.X
def digs (n : Nat) : List Int := if n < 10 then [48 + (n : Int)] else digs (n / 10) ++ [48 + ((n % 10 : Nat) : Int)]
termination_by n
decreasing_by omega
theorem digs_lt {n : Nat} (h : n < 10) : digs n = [48 + (n : Int)] := by rw [digs, if_pos h]
theorem digs_ge {n : Nat} (h : 10 ≤ n) : digs n = digs (n / 10) ++ [48 + ((n % 10 : Nat) : Int)] := by rw [digs, if_neg (by omega)]
theorem digs_ind {p : Nat → Prop} (h0 : ∀ n, n < 10 → p n) (h1 : ∀ n, 10 ≤ n → p (n / 10) → p n) (n : Nat) : p n := by
  induction n using Nat.strongRecOn with
  | _ n ih =>
    by_cases h : n < 10
    · exact h0 n h
    · exact h1 n (by omega) (ih _ (by omega))
theorem digitB_of {x : Int} (h1 : 48 ≤ x) (h2 : x ≤ 57) : digitB x = true := by
  unfold digitB
  rw [decide_eq_true h1, decide_eq_true h2, Bool.and_true]
theorem digs_all (n : Nat) : ∀ x ∈ digs n, digitB x = true := by
  induction n using digs_ind with
  | h0 n h =>
    rw [digs_lt h]
    intro x hx
    obtain rfl := List.mem_singleton.1 hx
    exact digitB_of (by omega) (by omega)
  | h1 n h ih =>
    rw [digs_ge h]
    intro x hx
    rcases List.mem_append.1 hx with h2 | h2
    · exact ih x h2
    · obtain rfl := List.mem_singleton.1 h2
      exact digitB_of (by omega) (by omega)
theorem digs_rng (n : Nat) : ∀ x ∈ digs n, 0 ≤ x ∧ x < 256 := fun x hx => by have := dig_rng (digs_all n x hx); omega
theorem head_app {A B : List Int} (h : A ≠ []) : (A ++ B).head? = A.head? := by
  cases A with
  | nil => exact absurd rfl h
  | cons x r => rfl
theorem digs_len : ∀ (k n : Nat), 0 < k → n < 10 ^ k → (digs n).length ≤ k
  | 0, n, h, _ => absurd h (by decide)
  | k + 1, n, _, h => by
    by_cases h2 : n < 10
    · rw [digs_lt h2]; simp
    · rw [digs_ge (by omega)]
      have hk : 0 < k := by
        rcases Nat.eq_zero_or_pos k with rfl | h3
        · simp at h; omega
        · exact h3
      have := digs_len k (n / 10) hk (by rw [Nat.pow_succ] at h; omega)
      simp only [List.length_append, List.length_cons, List.length_nil]
      omega
theorem digs_back : ∀ (k : Nat) (L : List Int), L.length = k → plainL L = true → digs (numV 0 L).toNat = L
  | k, L, hk, h => by
    rcases List.eq_nil_or_concat L with rfl | ⟨A, x, rfl⟩
    · exact absurd h (by decide)
    have hall := plain_all h
    have hx := dig_rng (hall x (by simp))
    rw [List.concat_eq_append] at h hk hall ⊢
    rw [numV_app]
    rcases hA : A with _ | ⟨a, r⟩
    · rw [List.nil_append]
      have e : numV (numV 0 []) [x] = 10 * 0 + (x - 48) := rfl
      rw [e, digs_lt (by omega)]
      congr 1
      omega
    · rw [← hA]
      have hAn : A ≠ [] := by rw [hA]; simp
      have hhead : (A ++ [x]).head? = A.head? := head_app hAn
      have hlen : 0 < A.length := List.length_pos_iff.2 hAn
      have h48 : A.head? ≠ some 48 := by
        intro h2
        unfold plainL at h
        rw [hhead, h2] at h
        have : decide (1 < (A ++ [x]).length) = true := decide_eq_true (by simp only [List.length_append, List.length_cons, List.length_nil]; omega)
        rw [this] at h
        simp at h
      have hpA : plainL A = true := by
        unfold plainL
        have h1 : A.isEmpty = false := by simpa using hAn
        have h2 : A.all digitB = true := List.all_eq_true.2 fun y hy => hall y (by simp [hy])
        have h3 : (A.head? == some 48) = false := by simpa using h48
        rw [h1, h2, h3]
        simp
      have hpos := numV_mono A 0 (by omega) (plain_all hpA)
      have hne : numV 0 A ≠ 0 := by
        intro h0
        have := plain_zero hpA h0
        rw [this] at h48
        simp at h48
      have ih := digs_back A.length A rfl hpA
      have e : numV (numV 0 A) [x] = 10 * numV 0 A + (x - 48) := rfl
      rw [e, digs_ge (by omega), show (10 * numV 0 A + (x - 48)).toNat / 10 = (numV 0 A).toNat by omega, ih, show (48 + (((10 * numV 0 A + (x - 48)).toNat % 10 : Nat) : Int)) = x by omega]
termination_by k _ _ _ => k
decreasing_by
  subst hA
  simp only [List.length_append, List.length_cons, List.length_nil, List.concat_eq_append] at hk ⊢
  omega
theorem decL_digs : ∀ (k : Nat) (u : Int) (acc : List Int), 0 < k → 0 ≤ u → u < 10 ^ k → decL k u acc = digs u.toNat ++ acc
  | 0, u, acc, h, _, _ => absurd h (by decide)
  | k + 1, u, acc, _, h0, h1 => by
    unfold decL
    by_cases c : u / 10 = 0
    · rw [if_pos c, digs_lt (by omega), show 48 + u % 10 = 48 + (u.toNat : Int) by omega]
      rfl
    · rw [if_neg c, digs_ge (by omega)]
      have hk : 0 < k := by
        rcases Nat.eq_zero_or_pos k with rfl | h3
        · simp at h1; omega
        · exact h3
      rw [decL_digs k (u / 10) _ hk (by omega) (by rw [Int.pow_succ] at h1; omega), show (u / 10).toNat = u.toNat / 10 by omega, show 48 + u % 10 = 48 + ((u.toNat % 10 : Nat) : Int) by omega, List.append_assoc]
      rfl
theorem decimal_f (u : Int) (h0 : 0 ≤ u) (h1 : u < 18446744073709551616) : words_decimal.f u = some (strOfNums (digs u.toNat)) := by
  unfold words_decimal.f
  rw [if_pos ⟨h0, h1⟩, decL_digs 20 u [] (by decide) h0 (by omega), List.append_nil]
def sgnL (n : Int) : List Int := if n < 0 then [45] else []
theorem len20 (n : Nat) (h : n < 18446744073709551616) : (digs n).length ≤ 20 := digs_len 20 n (by decide) (by omega)
def textL (n : Int) : List Int := sgnL n ++ digs n.natAbs
theorem wsize_f (n : Int) (h1 : -9223372036854775808 ≤ n) (h2 : n ≤ 9223372036854775807) : words_size.f n = some ((n.natAbs : Int), strOfNums (sgnL n)) := by
  unfold words_size.f sgnL
  by_cases c : n < 0
  · rw [if_pos c, if_pos c]
    have : IntKind.u64.wrap (-(IntKind.u64.wrap n)) = (n.natAbs : Int) := by
      simp only [IntKind.wrap, IntKind.bits, IntKind.signed, Bool.false_and, Bool.false_eq_true, if_false]
      omega
    rw [this]
    rfl
  · rw [if_neg c, if_neg c]
    have : IntKind.u64.wrap n = (n.natAbs : Int) := by
      simp only [IntKind.wrap, IntKind.bits, IntKind.signed, Bool.false_and, Bool.false_eq_true, if_false]
      omega
    rw [this]
    rfl
theorem flat_join (l : List ByteArray) : bytesOf ⟨(Lib.join (l.map (·.data.toList)) (⟨#[]⟩ : ByteArray).data.toList).toArray⟩ = (l.map bytesOf).flatten := by
  unfold bytesOf
  show ((Lib.join (l.map (·.data.toList)) []).toArray.toList).map _ = _
  rw [List.toList_toArray]
  unfold Lib.join
  rw [List.intercalate]
  have e : ∀ m : List (List UInt8), (List.intersperse [] m).flatten = m.flatten := by
    intro m
    induction m with
    | nil => rfl
    | cons x r ih =>
      cases r with
      | nil => rfl
      | cons y r =>
        simp only [List.intersperse_cons_cons, List.flatten_cons, List.nil_append] at ih ⊢
        rw [ih]
  rw [e, List.map_flatten, List.map_map]
  rfl
theorem join0_f (l : List ByteArray) (h : (l.map bytesOf).flatten.length ≤ 140737488355328) (h2 : l.length ≤ 140737488355328) : strings_Join.f l (⟨#[]⟩ : ByteArray) = some (strOfNums (l.map bytesOf).flatten) := by
  unfold strings_Join.f
  have e := flat_join l
  have hl : (Lib.join (l.map (·.data.toList)) (⟨#[]⟩ : ByteArray).data.toList).length = (l.map bytesOf).flatten.length := by
    rw [← e, by_len]
    rfl
  rw [if_pos ⟨by rw [hl]; exact h, h2⟩]
  congr 1
  apply by_inj
  rw [e, by_str]
  intro x hx
  obtain ⟨y, hy, hx⟩ := List.mem_flatten.1 hx
  obtain ⟨s, _, rfl⟩ := List.mem_map.1 hy
  exact by_rng s x hx
theorem sgn_rng (n : Int) : ∀ x ∈ sgnL n, 0 ≤ x ∧ x < 256 := by
  unfold sgnL
  intro x hx
  split at hx
  · obtain rfl := List.mem_singleton.1 hx; omega
  · cases hx
theorem sgn_len (n : Int) : (sgnL n).length ≤ 1 := by
  unfold sgnL
  split <;> simp
theorem bnd {α β : Type} {x : Option α} {a : α} {f : α → Option β} {r : Option β} (h : x = some a) (k : f a = r) : x.bind f = r := by rw [h]; exact k
theorem dec_nat (n : Nat) (h : n < 18446744073709551616) : words_decimal.f (n : Int) = some (strOfNums (digs n)) := by
  have := decimal_f (n : Int) (by omega) (by omega)
  rwa [Int.toNat_natCast] at this
theorem text_join (n : Int) (h1 : -9223372036854775808 ≤ n) (h2 : n ≤ 9223372036854775807) : strings_Join.f [strOfNums (sgnL n), strOfNums (digs n.natAbs)] (⟨#[]⟩ : ByteArray) = some (strOfNums (textL n)) := by
  have e : ([strOfNums (sgnL n), strOfNums (digs n.natAbs)].map bytesOf).flatten = textL n := by
    simp only [List.map_cons, List.map_nil, List.flatten_cons, List.flatten_nil, List.append_nil]
    rw [by_str _ (sgn_rng n), by_str _ (digs_rng _), textL]
  have hl : (textL n).length ≤ 140737488355328 := by
    unfold textL
    rw [List.length_append]
    have := sgn_len n
    have := len20 n.natAbs (by omega)
    omega
  rw [join0_f _ (by rw [e]; exact hl) (by simp), e]
theorem text_f (n : Int) (h1 : -9223372036854775808 ≤ n) (h2 : n ≤ 9223372036854775807) : words_Text.f n = some (strOfNums (textL n)) := by
  unfold words_Text.f words_together.f
  refine bnd (wsize_f n h1 h2) ?_
  refine bnd (dec_nat n.natAbs (by omega)) ?_
  exact bnd (bnd (text_join n h1 h2) (Eq.refl _)) (Eq.refl _)
end Go.Proofs.YthpmmofleddpnaaDoor.P
end
section
namespace Go.Proofs.YthpmmofleddpnaaDoor.P
set_option linter.unusedVariables false
set_option linter.unusedSimpArgs false
open Go.RowKit Go.Proofs.YthpmmofleddpnaaDoorW.PrintWords Go.Proofs.YthpmmofleddpnaaDoorW.PrintMore Go.Proofs.YthpmmofleddpnaaDoor.X
theorem text_int {L : List Int} (h : (intL L).2 = 0) : textL (intL L).1 = L ∧ -1152921504606846976 ≤ (intL L).1 ∧ (intL L).1 ≤ 1152921504606846976 ∧ plainL (unsign L).1 = true := by
  unfold intL at h ⊢
  by_cases c : plainL (unsign L).1 = true ∧ ¬((unsign L).2 = true ∧ (unsign L).1 = [48])
  case neg => rw [if_neg c] at h; exact absurd h (by decide)
  rw [if_pos c] at h ⊢
  unfold numR at h ⊢
  by_cases c2 : 1152921504606846976 < numV 0 (unsign L).1
  · rw [if_pos c2] at h; exact absurd h (by decide)
  rw [if_neg c2]
  have h0 := numV_mono (unsign L).1 0 (by omega) (plain_all c.1)
  have hb := digs_back _ (unsign L).1 rfl c.1
  unfold unsign at c c2 h0 hb ⊢
  by_cases c3 : L.head? = some 45
  · rw [if_pos c3] at c c2 h0 hb ⊢
    simp only [if_true]
    simp only [] at c c2 h0 hb
    have hne : numV 0 L.tail ≠ 0 := fun e => c.2 ⟨by trivial, plain_zero c.1 e⟩
    refine ⟨?_, by omega, by omega, c.1⟩
    unfold textL sgnL
    rw [if_pos (by omega), show (-(numV 0 L.tail)).natAbs = (numV 0 L.tail).toNat by omega, hb, List.singleton_append]
    cases L with
    | nil => cases c3
    | cons x r =>
      rw [List.head?_cons] at c3
      obtain rfl := Option.some.inj c3
      rfl
  · rw [if_neg c3] at c c2 h0 hb ⊢
    simp only [Bool.false_eq_true, if_false]
    simp only [] at c c2 h0 hb
    refine ⟨?_, by omega, by omega, c.1⟩
    unfold textL sgnL
    rw [if_neg (by omega), show (numV 0 L).natAbs = (numV 0 L).toNat by omega, hb, List.nil_append]
end Go.Proofs.YthpmmofleddpnaaDoor.P
end
section
namespace Go.Proofs.YthpmmofleddpnaaDoor.P
set_option linter.unusedVariables false
set_option linter.unusedSimpArgs false
open Go.RowKit Go.Proofs.YthpmmofleddpnaaDoorW.PrintWords Go.Proofs.YthpmmofleddpnaaDoorW.PrintMore Go.Proofs.YthpmmofleddpnaaDoor.X
theorem okb_iff (b : Int) : okB b = true ↔ 32 < b ∧ b ≤ 126 := by unfold okB; simp
theorem good_ok {p : List Int} (h : goodP p = true) : p ≠ [] ∧ ∀ x ∈ p, okB x = true := by
  unfold goodP at h
  simp only [Bool.and_eq_true] at h
  refine ⟨fun e => ?_, List.all_eq_true.1 h.2⟩
  rw [e] at h
  exact absurd h.1 (by decide)
theorem join_of_fields {s : ByteArray} (h : (fieldsS s).2 = 0) : joinS (fieldsS s).1 = s := by
  unfold fieldsS fieldsE at h ⊢
  by_cases c1 : 512 < (bytesOf s).length
  · rw [if_pos c1] at h; exact absurd h (by decide)
  rw [if_neg c1] at h ⊢
  by_cases c2 : bytesOf s = []
  · rw [if_pos c2]
    apply by_inj
    rw [joinS_by, c2]
    rfl
  rw [if_neg c2] at h ⊢
  by_cases c3 : (splitI 32 (bytesOf s)).all goodP = true
  case neg => rw [if_neg c3] at h; exact absurd h (by decide)
  rw [if_pos c3]
  apply by_inj
  rw [joinS_by]
  have hr : ∀ p ∈ splitI 32 (bytesOf s), ∀ x ∈ p, 0 ≤ x ∧ x < 256 := by
    intro p hp x hx
    have := (okb_iff x).1 ((good_ok ((List.all_eq_true.1 c3) p hp)).2 x hx)
    omega
  have e : ((splitI 32 (bytesOf s)).map strOfNums).map bytesOf = splitI 32 (bytesOf s) := by
    rw [List.map_map]
    conv => rhs; rw [← List.map_id (splitI 32 (bytesOf s))]
    exact List.map_congr_left fun p hp => by simp [by_str p (hr p hp)]
  show joinI (((splitI 32 (bytesOf s)).map strOfNums).map bytesOf) = bytesOf s
  rw [e, join_split]
theorem text_rng9 (n : Int) : ∀ x ∈ textL n, okB x = true := by
  unfold textL sgnL
  intro x hx
  rw [okb_iff]
  rcases List.mem_append.1 hx with h | h
  · split at h
    · obtain rfl := List.mem_singleton.1 h; omega
    · cases h
  · have := dig_rng (digs_all _ x h); omega
def textS (n : Int) : ByteArray := strOfNums (textL n)
theorem textS_by (n : Int) : bytesOf (textS n) = textL n := by_str _ fun x hx => by have := (okb_iff x).1 (text_rng9 n x hx); omega
theorem textS_size (n : Int) (h1 : -9223372036854775808 ≤ n) (h2 : n ≤ 9223372036854775807) : (textS n).size ≤ 21 := by
  unfold textS
  rw [strOfNums_size]
  unfold textL
  rw [List.length_append]
  have := sgn_len n
  have := len20 n.natAbs (by omega)
  omega
def I64 (n : Int) : Prop := -9223372036854775808 ≤ n ∧ n ≤ 9223372036854775807
end Go.Proofs.YthpmmofleddpnaaDoor.P
end
section
namespace Go.Proofs.YthpmmofleddpnaaDoor.P
open Go.RowKit Go.Proofs.YthpmmofleddpnaaDoorW.PrintWords Go.Proofs.YthpmmofleddpnaaDoorW.PrintMore Go.Proofs.YthpmmofleddpnaaDoor.X
abbrev Ser := S23
end Go.Proofs.YthpmmofleddpnaaDoor.P
end
section
namespace Go.Proofs.YthpmmofleddpnaaDoor.P
set_option linter.unusedVariables false
set_option linter.unusedSimpArgs false
open Go.RowKit Go.Proofs.YthpmmofleddpnaaDoorW.PrintWords Go.Proofs.YthpmmofleddpnaaDoorW.PrintMore Go.Proofs.YthpmmofleddpnaaDoor.X
def piecesS (s : ByteArray) : List ByteArray := (splitI 46 (bytesOf s)).map strOfNums
theorem split_pieces (s : ByteArray) (hs : s.size < 4294967281) : strings_Split.f s (⟨#[46]⟩ : ByteArray) = some (piecesS s) := by
  obtain ⟨l, h1, h2⟩ := split_f s 46 hs
  rw [h1]
  unfold piecesS
  have e : ((46 : UInt8).toNat : Int) = 46 := rfl
  rw [e] at h2
  rw [← h2, map_str]
theorem split_le (c : Int) : ∀ (L : List Int), ∀ q ∈ splitI c L, q.length ≤ L.length ∧ ∀ x ∈ q, x ∈ L := by
  intro L
  induction L with
  | nil => intro q hq; simp [splitI] at hq; subst hq; simp
  | cons x r ih =>
    intro q hq
    unfold splitI at hq
    split at hq
    · rcases List.mem_cons.1 hq with h | h
      · subst h; simp
      · have := ih q h
        exact ⟨by have := this.1; simp; omega, fun y hy => List.mem_cons_of_mem _ (this.2 y hy)⟩
    · split at hq
      · rename_i p1 q1 he
        rcases List.mem_cons.1 hq with h | h
        · subst h
          have := ih p1 (by rw [he]; simp)
          refine ⟨by have := this.1; simp; omega, fun y hy => ?_⟩
          rcases List.mem_cons.1 hy with e | e
          · subst e; simp
          · exact List.mem_cons_of_mem _ (this.2 y e)
        · have := ih q (by rw [he]; simp [h])
          exact ⟨by have := this.1; simp; omega, fun y hy => List.mem_cons_of_mem _ (this.2 y hy)⟩
      · simp at hq; subst hq; simp
theorem pieces_sz {s : ByteArray} {x : ByteArray} (h : x ∈ piecesS s) : x.size ≤ s.size := by
  unfold piecesS at h
  obtain ⟨p, hp, rfl⟩ := List.mem_map.1 h
  rw [strOfNums_size, ← by_len s]
  exact (split_le 46 _ p hp).1
theorem numV_cons (n x : Int) (L : List Int) : numV n (x :: L) = numV (10 * n + (x - 48)) L := by unfold numV; rw [List.foldl_cons]
theorem sdig_bad (s : ByteArray) (hs : s.size ≤ 4611686018427387904) : ∀ (d i : Nat) (n : Int), i + d = s.size → ((bytesOf s).drop i).all digitB = false → Ev (fun k => series_digits.l0 k s n s.size i) (0, false)
  | 0, i, n, hd, h => by rw [by_end s i (by omega)] at h; exact absurd h (by decide)
  | d + 1, i, n, hd, h => by
    have hi : i < s.size := by omega
    rw [by_drop s i hi, List.all_cons] at h
    have w1 : wrap64 ((i : Int) + 1) = ((i + 1 : Nat) : Int) := w_succ hi (by omega)
    refine Ev_succ ?_
    simp only [series_digits.l0, if_pos (show (i : Int) < (s.size : Int) by omega), if_pos (show 0 ≤ (i : Int) by omega)]
    by_cases c1 : bt s (i : Int) < 48
    · simp only [if_pos c1]; exact Ev.now _
    by_cases c2 : bt s (i : Int) > 57
    · simp only [if_neg c1, if_pos c2]; exact Ev.now _
    have hb : digitB (bt s (i : Int)) = true := by unfold digitB; simp; omega
    rw [hb, Bool.true_and] at h
    simp only [if_neg c1, if_neg c2, w1]
    exact sdig_bad s hs d (i + 1) _ (by omega) h
theorem sdig_ok (s : ByteArray) (hs : s.size ≤ 4611686018427387904) (hall : ∀ x ∈ bytesOf s, digitB x = true) : ∀ (d i : Nat) (n : Int), i + d = s.size → 0 ≤ n → numV n ((bytesOf s).drop i) ≤ 1000000000 → Ev (fun k => series_digits.l0 k s n s.size i) (numV n ((bytesOf s).drop i), true)
  | 0, i, n, hd, h0, h1 => by
    refine Ev_succ ?_
    rw [by_end s i (by omega)]
    simp only [series_digits.l0, if_neg (show ¬ (i : Int) < (s.size : Int) by omega)]
    exact Ev.now _
  | d + 1, i, n, hd, h0, h1 => by
    have hi : i < s.size := by omega
    have hr := by_drop s i hi
    have hm : ∀ x ∈ (bytesOf s).drop i, digitB x = true := fun x hx => hall x (List.mem_of_mem_drop hx)
    rw [hr] at hm h1 ⊢
    have hb := dig_rng (hm (bt s (i : Int)) (by simp))
    rw [numV_cons] at h1 ⊢
    have hm2 := numV_mono ((bytesOf s).drop (i + 1)) (10 * n + (bt s (i : Int) - 48)) (by omega) fun x hx => hm x (by simp [hx])
    have w1 : wrap64 ((i : Int) + 1) = ((i + 1 : Nat) : Int) := w_succ hi (by omega)
    have w2 : wrap64 (wrap64 (10 * n) + (bt s (i : Int) - 48) % 256) = 10 * n + (bt s (i : Int) - 48) := by
      rw [w_id (x := 10 * n) (by omega) (by omega), show (bt s (i : Int) - 48) % 256 = bt s (i : Int) - 48 by omega]
      exact w_id (by omega) (by omega)
    refine Ev_succ ?_
    simp only [series_digits.l0, if_pos (show (i : Int) < (s.size : Int) by omega), if_pos (show 0 ≤ (i : Int) by omega), if_neg (show ¬ bt s (i : Int) < 48 by omega), if_neg (show ¬ bt s (i : Int) > 57 by omega), w1, w2]
    exact sdig_ok s hs hall d (i + 1) _ (by omega) (by omega) h1
theorem num8 {L : List Int} (h8 : L.length = 8) (hd : ∀ x ∈ L, digitB x = true) : 0 ≤ numV 0 L ∧ numV 0 L ≤ 99999999 := by
  rcases L with _ | ⟨a, _ | ⟨b, _ | ⟨c, _ | ⟨d, _ | ⟨e, _ | ⟨f, _ | ⟨g, _ | ⟨h, _ | ⟨i, r⟩⟩⟩⟩⟩⟩⟩⟩⟩
  case cons.cons.cons.cons.cons.cons.cons.cons.nil =>
    have ha := dig_rng (hd a (by simp)); have hb := dig_rng (hd b (by simp)); have hc := dig_rng (hd c (by simp)); have hd' := dig_rng (hd d (by simp))
    have he := dig_rng (hd e (by simp)); have hf := dig_rng (hd f (by simp)); have hg := dig_rng (hd g (by simp)); have hh := dig_rng (hd h (by simp))
    simp only [numV, List.foldl_cons, List.foldl_nil]
    omega
  all_goals (simp at h8)
theorem sdig_f (s : ByteArray) (h8 : s.size = 8) : Ev (fun k => series_digits.f k s) (if (bytesOf s).all digitB = true then (numV 0 (bytesOf s), true) else (0, false)) := by
  unfold series_digits.f
  by_cases c : (bytesOf s).all digitB = true
  · rw [if_pos c]
    have hall := List.all_eq_true.1 c
    have hb := num8 (by rw [by_len, h8]) hall
    have := sdig_ok s (by omega) hall s.size 0 0 (by omega) (by omega) (by rw [List.drop_zero]; omega)
    rw [List.drop_zero] at this
    exact this
  · rw [if_neg c]
    exact sdig_bad s (by omega) s.size 0 0 (by omega) (by rw [List.drop_zero]; simpa using c)
theorem one_byte (s : ByteArray) (c : UInt8) : s.toList = [c] ↔ bytesOf s = [(c.toNat : Int)] := by rw [by_toList]; simp
theorem ext_one (s : ByteArray) (c : UInt8) : (s.extract 0 1).toList = [c] ↔ (bytesOf s).head? = some (c.toNat : Int) := by
  rw [one_byte, by_ext, List.drop_zero]
  cases bytesOf s with
  | nil => simp
  | cons x r => simp
theorem pre_f (s : ByteArray) (c : UInt8) : strings_HasPrefix.f s (⟨#[c]⟩ : ByteArray) = some (decide ((bytesOf s).head? = some (c.toNat : Int))) := by
  unfold strings_HasPrefix.f stringslite_HasPrefix.f
  have e1 : (⟨#[c]⟩ : ByteArray).size = 1 := rfl
  have e2 : (⟨#[c]⟩ : ByteArray).toList = [c] := by rw [ByteArray.toList_eq]
  rw [e1, e2]
  by_cases h : 1 ≤ s.size
  · rw [if_pos (show (s.size : Int) ≥ ((1 : Nat) : Int) by omega), if_pos (by omega), if_pos (show ((1 : Nat) : Int) ≤ (s.size : Int) by omega)]
    have e3 : (((1 : Nat) : Int)).toNat = 1 := rfl
    simp only [e3, Option.bind_some]
    congr 1
    rw [Bool.eq_iff_iff, beq_iff_eq, ext_one, decide_eq_true_iff]
  · rw [if_neg (show ¬ (s.size : Int) ≥ ((1 : Nat) : Int) by omega)]
    have : bytesOf s = [] := List.length_eq_zero_iff.1 (by rw [by_len]; omega)
    rw [this]
    rfl
def kindI (C : List Int) : Int := if C = [102] then 1 else if C.head? = some 99 then 2 else if C.head? = some 112 then 3 else 0
theorem what_f (s : ByteArray) : series_what.f s = some (if kindI (bytesOf s) = 1 then (1, (⟨#[]⟩ : ByteArray), true) else if kindI (bytesOf s) = 0 then (0, (⟨#[]⟩ : ByteArray), false) else (kindI (bytesOf s), s.extract 1 s.size, true)) := by
  unfold series_what.f kindI
  have hs : ∀ c : Int, (bytesOf s).head? = some c → 1 ≤ (s.size : Int) := by
    intro c hc
    have : bytesOf s ≠ [] := fun e => by rw [e] at hc; cases hc
    have := List.length_pos_iff.2 this
    rw [by_len] at this
    omega
  by_cases c1 : s.toList = [102]
  · have c1' : bytesOf s = [102] := (one_byte s 102).1 c1
    rw [if_pos c1, if_pos c1', if_pos rfl]
  · have c1' : ¬ bytesOf s = [102] := fun e => c1 ((one_byte s 102).2 e)
    rw [if_neg c1, if_neg c1', pre_f]
    simp only [Option.bind_some]
    have e99 : ((99 : UInt8).toNat : Int) = 99 := rfl
    have e112 : ((112 : UInt8).toNat : Int) = 112 := rfl
    rw [e99]
    by_cases c2 : (bytesOf s).head? = some 99
    · rw [if_pos c2, if_pos (decide_eq_true c2), if_pos (hs _ c2)]
      rfl
    · rw [if_neg c2, if_neg (by simpa using c2), pre_f, e112]
      simp only [Option.bind_some]
      by_cases c3 : (bytesOf s).head? = some 112
      · rw [if_pos c3, if_pos (decide_eq_true c3), if_pos (hs _ c3)]
        rfl
      · rw [if_neg c3, if_neg (by simpa using c3)]
        rfl
def zS : Ser := ⟨(⟨#[]⟩ : ByteArray), 0, 0, 0⟩
def tS (q : Ser × Int) : ByteArray × Int × Int × Int × Int := (q.1.f0, q.1.f1, q.1.f2, q.1.f3, q.2)
def dayOf (n : Int) : Int × Int := ofV (n / 10000) (n / 100 % 100) (n % 100)
def okForm (a b c : ByteArray) : Prop := nameB a = true ∧ b.size = 8 ∧ (bytesOf b).all digitB = true ∧ kindI (bytesOf c) ≠ 0
instance (a b c : ByteArray) : Decidable (okForm a b c) := inferInstanceAs (Decidable (_ ∧ _ ∧ _ ∧ _))
def parse3 (a b c : ByteArray) : Ser × Int :=
  if okForm a b c then
    (if (dayOf (numV 0 (bytesOf b))).2 = 0 then
      (if kindI (bytesOf c) = 1 then (⟨a, 1, (dayOf (numV 0 (bytesOf b))).1, 0⟩, 0) else
        (if (intL (bytesOf c).tail).2 = 0 then (if (intL (bytesOf c).tail).1 < -16777216 ∨ (intL (bytesOf c).tail).1 > 16777216 then (zS, 17) else (⟨a, kindI (bytesOf c), (dayOf (numV 0 (bytesOf b))).1, (intL (bytesOf c).tail).1⟩, 0)) else (zS, (intL (bytesOf c).tail).2)))
    else (zS, 15))
  else (zS, 5)
def parseL (l : List ByteArray) : Ser × Int := if l.length = 3 then parse3 (rdOf ByteArray.empty l 0) (rdOf ByteArray.empty l 1) (rdOf ByteArray.empty l 2) else (zS, 5)
def parseS (s : ByteArray) : Ser × Int := parseL (piecesS s)
theorem tail_ext (s : ByteArray) : bytesOf (s.extract 1 s.size) = (bytesOf s).tail := by rw [by_ext, ← by_len, List.take_length, List.drop_one]
theorem kind_cases (C : List Int) : kindI C = 0 ∨ kindI C = 1 ∨ kindI C = 2 ∨ kindI C = 3 := by unfold kindI; repeat' first | split | omega
theorem sparse_j1 (l : List ByteArray) (hl : l.length = 3) (hz : ∀ x ∈ l, x.size ≤ 4611686018427387904) (hf : okForm (rdOf ByteArray.empty l 0) (rdOf ByteArray.empty l 1) (rdOf ByteArray.empty l 2)) (x8 : ByteArray) (h8 : kindI (bytesOf (rdOf ByteArray.empty l 2)) ≠ 1 → x8 = (rdOf ByteArray.empty l 2).extract 1 (rdOf ByteArray.empty l 2).size) :
    Ev (fun k => series_Parse.j1 k l (numV 0 (bytesOf (rdOf ByteArray.empty l 1))) (kindI (bytesOf (rdOf ByteArray.empty l 2))) x8 false (⟨#[]⟩ : ByteArray) 0 0 0) (tS (parse3 (rdOf ByteArray.empty l 0) (rdOf ByteArray.empty l 1) (rdOf ByteArray.empty l 2))) := by
  have hz2 : (rdOf ByteArray.empty l 2).size ≤ 4611686018427387904 := by
    have e : rdOf ByteArray.empty l 2 = l[2]'(by omega) := rdOf_nat _ _ 2 _
    rw [e]; exact hz _ (List.getElem_mem _)
  generalize rdOf ByteArray.empty l 2 = c at *
  generalize rdOf ByteArray.empty l 1 = b at *
  obtain ⟨f1, f2, f3, f4⟩ := hf
  have hn := num8 (by rw [by_len, f2]) (List.all_eq_true.1 f3)
  have hok : okForm (rdOf ByteArray.empty l 0) b c := ⟨f1, f2, f3, f4⟩
  refine Ev_succ ?_
  unfold parse3
  rw [if_pos hok]
  generalize numV 0 (bytesOf b) = n at *
  have q1 : wrap64 (Int.tdiv n 10000) = n / 10000 := by rw [Int.tdiv_eq_ediv_of_nonneg (by omega)]; exact w_id (by omega) (by omega)
  have q2 : wrap64 (Int.tdiv n 100) = n / 100 := by rw [Int.tdiv_eq_ediv_of_nonneg (by omega)]; exact w_id (by omega) (by omega)
  have q3 : Int.tmod (n / 100) 100 = n / 100 % 100 := Int.tmod_eq_emod_of_nonneg (by omega)
  have q4 : Int.tmod n 100 = n % 100 := Int.tmod_eq_emod_of_nonneg (by omega)
  have qd : date_Of.f (n / 10000) (n / 100 % 100) (n % 100) = some (dayOf n) := rfl
  simp only [series_Parse.j1, Bool.false_eq_true, if_false, q1, q2, q3, q4, qd, Option.bind_some]
  by_cases c1 : (dayOf n).2 = 0
  case neg => simp only [if_neg c1]; exact Ev.now _
  simp only [if_pos c1]
  have hl0 : (0 : Int) < (l.length : Int) := by omega
  by_cases c2 : kindI (bytesOf c) = 1
  · simp only [if_pos c2, if_pos hl0]
    rw [c2]
    exact Ev.now _
  · simp only [if_neg c2, h8 c2]
    have hi := int_f (c.extract 1 c.size) (by rw [ByteArray.size_extract]; omega)
    rw [tail_ext] at hi
    refine Ev_bind hi ?_
    by_cases c3 : (intL (bytesOf c).tail).2 = 0
    case neg => simp only [if_neg c3]; exact Ev.now _
    simp only [if_pos c3]
    by_cases c4 : (intL (bytesOf c).tail).1 < -16777216
    · simp only [if_pos c4, if_pos (Or.inl c4 : (intL (bytesOf c).tail).1 < -16777216 ∨ (intL (bytesOf c).tail).1 > 16777216)]; exact Ev.now _
    by_cases c5 : (intL (bytesOf c).tail).1 > 16777216
    · simp only [if_neg c4, if_pos c5, if_pos (Or.inr c5 : (intL (bytesOf c).tail).1 < -16777216 ∨ (intL (bytesOf c).tail).1 > 16777216)]; exact Ev.now _
    have c6 : ¬ ((intL (bytesOf c).tail).1 < -16777216 ∨ (intL (bytesOf c).tail).1 > 16777216) := by omega
    simp only [if_neg c4, if_neg c5, if_neg c6, if_pos hl0]
    exact Ev.now _
theorem parse_f10 (s : ByteArray) (hs : s.size ≤ 4294967280) : Ev (fun k => series_Parse.f k s) (tS (parseS s)) := by
  unfold series_Parse.f parseS
  rw [split_pieces s (by omega)]
  have hz : ∀ x ∈ piecesS s, x.size ≤ 4611686018427387904 := fun x hx => by have := pieces_sz hx; omega
  generalize piecesS s = l at *
  simp only [Option.bind_some]
  have bad : Ev (fun k => series_Parse.j0 k l true (⟨#[]⟩ : ByteArray) 0 0 0) (tS (zS, 5)) := Ev_succ (by simp only [series_Parse.j0, if_true]; exact Ev.now _)
  unfold parseL
  by_cases c0 : l.length = 3
  case neg =>
    rw [if_neg c0]
    simp only [if_neg (show ¬ (l.length : Int) = 3 by omega)]
    exact bad
  rw [if_pos c0]
  simp only [if_pos (show (l.length : Int) = 3 by omega), if_pos (show (0 : Int) < (l.length : Int) by omega)]
  refine Ev_bind (name_f (rdOf ByteArray.empty l 0)) ?_
  have no : ¬ okForm (rdOf ByteArray.empty l 0) (rdOf ByteArray.empty l 1) (rdOf ByteArray.empty l 2) → parse3 (rdOf ByteArray.empty l 0) (rdOf ByteArray.empty l 1) (rdOf ByteArray.empty l 2) = (zS, 5) := fun h => by unfold parse3; rw [if_neg h]
  by_cases c1 : nameB (rdOf ByteArray.empty l 0) = true
  case neg => simp only [if_neg c1]; rw [no fun h => c1 h.1]; exact bad
  simp only [if_pos c1, if_pos (show (1 : Int) < (l.length : Int) by omega)]
  by_cases c2 : (rdOf ByteArray.empty l 1).size = 8
  case neg =>
    have e : (((rdOf ByteArray.empty l 1).size : Int) != 8) = true := by rw [bne_iff_ne]; omega
    rw [no fun h => c2 h.2.1]
    simp only [e]
    exact bad
  have e : (((rdOf ByteArray.empty l 1).size : Int) != 8) = false := by rw [bne_eq_false_iff_eq]; omega
  simp only [e]
  refine Ev_succ ?_
  simp only [series_Parse.j0, Bool.false_eq_true, if_false, if_pos (show (1 : Int) < (l.length : Int) by omega), if_pos (show (2 : Int) < (l.length : Int) by omega)]
  refine Ev_bind (sdig_f _ c2) ?_
  rw [what_f]
  simp only [Option.bind_some]
  have bad1 : ∀ n b q, Ev (fun k => series_Parse.j1 k l n b q true (⟨#[]⟩ : ByteArray) 0 0 0) (tS (zS, 5)) := fun n b q => Ev_succ (by simp only [series_Parse.j1, if_true]; exact Ev.now _)
  by_cases c3 : (bytesOf (rdOf ByteArray.empty l 1)).all digitB = true
  case neg =>
    rw [no fun h => c3 h.2.2.1]
    simp only [if_neg c3, Bool.false_eq_true, if_false]
    exact bad1 _ _ _
  simp only [if_pos c3, if_true]
  by_cases c4 : kindI (bytesOf (rdOf ByteArray.empty l 2)) = 0
  · rw [no fun h => h.2.2.2 c4]
    have c5 : ¬ kindI (bytesOf (rdOf ByteArray.empty l 2)) = 1 := by omega
    simp only [if_neg c5, if_pos c4, Bool.not_false]
    exact bad1 _ _ _
  · have hf : okForm (rdOf ByteArray.empty l 0) (rdOf ByteArray.empty l 1) (rdOf ByteArray.empty l 2) := ⟨c1, c2, c3, c4⟩
    by_cases c5 : kindI (bytesOf (rdOf ByteArray.empty l 2)) = 1
    · simp only [if_pos c5, Bool.not_true]
      have := sparse_j1 l c0 hz hf (⟨#[]⟩ : ByteArray) (fun h => absurd c5 h)
      rw [c5] at this
      exact this
    · simp only [if_neg c5, if_neg c4, Bool.not_true]
      exact sparse_j1 l c0 hz hf _ (fun _ => rfl)
end Go.Proofs.YthpmmofleddpnaaDoor.P
end
section
namespace Go.Proofs.YthpmmofleddpnaaDoor.P
set_option linter.unusedVariables false
set_option linter.unusedSimpArgs false
open Go.RowKit Go.Proofs.YthpmmofleddpnaaDoorW.PrintWords Go.Proofs.YthpmmofleddpnaaDoorW.PrintMore Go.Proofs.YthpmmofleddpnaaDoor.X
def digsF : Int → Nat → List Int
  | _, 0 => []
  | n, d + 1 => digsF (n / 10) d ++ [48 + n % 10]
def dayL (day : Int) : List Int := digsF (splitV day).1 4 ++ digsF (splitV day).2.1 2 ++ digsF (splitV day).2.2.1 2
def dayS (day : Int) : ByteArray := strOfNums (dayL day)
def okPrint (s : Ser) : Prop := 1 ≤ s.f1 ∧ s.f1 ≤ 3 ∧ 0 ≤ s.f2 ∧ s.f2 ≤ 73048
instance (s : Ser) : Decidable (okPrint s) := inferInstanceAs (Decidable (_ ∧ _ ∧ _ ∧ _))
def frontS (s : Ser) : ByteArray := ((s.f0 ++ (⟨#[46]⟩ : ByteArray)) ++ dayS s.f2) ++ (⟨#[46]⟩ : ByteArray)
def printS (s : Ser) : ByteArray := if okPrint s then (if s.f1 = 2 then (frontS s ++ (⟨#[99]⟩ : ByteArray)) ++ textS s.f3 else if s.f1 = 3 then (frontS s ++ (⟨#[112]⟩ : ByteArray)) ++ textS s.f3 else frontS s ++ (⟨#[102]⟩ : ByteArray)) else (⟨#[]⟩ : ByteArray)
theorem dayS_size (day : Int) : (dayS day).size = 8 := by unfold dayS; rw [strOfNums_size]; rfl
theorem day_print {day : Int} (h : 0 ≤ day ∧ day ≤ 73048) : strings_ReplaceAll.f (strOfNums (dateC (splitV day).1 (splitV day).2.1 (splitV day).2.2.1 false false false)) (⟨#[45]⟩ : ByteArray) (⟨#[]⟩ : ByteArray) = some (dayS day) := by
  obtain ⟨r1, r2, r3, r4, r5, r6⟩ := split_rng h
  have r7 := split_day h
  unfold strings_ReplaceAll.f
  rw [if_pos]
  · have := day_out (a := 48 + (splitV day).1 / 1000 % 10) (b := 48 + (splitV day).1 / 100 % 10) (c := 48 + (splitV day).1 / 10 % 10) (d := 48 + (splitV day).1 % 10) (e := 48 + (splitV day).2.1 / 10 % 10) (f := 48 + (splitV day).2.1 % 10) (g := 48 + (splitV day).2.2.1 / 10 % 10) (h := 48 + (splitV day).2.2.1 % 10) (by omega) (by omega) (by omega) (by omega) (by omega) (by omega) (by omega) (by omega)
    rw [show strOfNums (dateC (splitV day).1 (splitV day).2.1 (splitV day).2.2.1 false false false) = strOfNums [48 + (splitV day).1 / 1000 % 10, 48 + (splitV day).1 / 100 % 10, 48 + (splitV day).1 / 10 % 10, 48 + (splitV day).1 % 10, 45, 48 + (splitV day).2.1 / 10 % 10, 48 + (splitV day).2.1 % 10, 45, 48 + (splitV day).2.2.1 / 10 % 10, 48 + (splitV day).2.2.1 % 10] from rfl]
    show some (⟨(Lib.replaceAll _ [45] []).toArray⟩ : ByteArray) = _
    rw [this]
    unfold dayS dayL
    congr 2
    show _ = [48 + (splitV day).1 / 10 / 10 / 10 % 10, 48 + (splitV day).1 / 10 / 10 % 10, 48 + (splitV day).1 / 10 % 10, 48 + (splitV day).1 % 10, 48 + (splitV day).2.1 / 10 % 10, 48 + (splitV day).2.1 % 10, 48 + (splitV day).2.2.1 / 10 % 10, 48 + (splitV day).2.2.1 % 10]
    rw [show (splitV day).1 / 10 / 10 / 10 = (splitV day).1 / 1000 by omega, show (splitV day).1 / 10 / 10 = (splitV day).1 / 100 by omega]
  · refine ⟨?_, by decide, ?_⟩
    · rw [strOfNums_size]; show 10 < 4294967281; decide
    · rw [strOfNums_size]; show 10 + _ * 0 ≤ 140737488355328; omega
theorem print_f10 (s : Ser) (h0 : s.f0.size ≤ 140737488351232) (h3 : I64 s.f3) : Ev (fun k => series_Print.f k s.f0 s.f1 s.f2 s.f3) (printS s) := by
  unfold series_Print.f date_Print.f printS
  simp only [Option.bind_some]
  have bad : ∀ t, ¬ okPrint s → Ev (fun k => series_Print.j0 k t true s.f0 s.f1 s.f2 s.f3) (if okPrint s then (if s.f1 = 2 then (frontS s ++ (⟨#[99]⟩ : ByteArray)) ++ textS s.f3 else if s.f1 = 3 then (frontS s ++ (⟨#[112]⟩ : ByteArray)) ++ textS s.f3 else frontS s ++ (⟨#[102]⟩ : ByteArray)) else (⟨#[]⟩ : ByteArray)) := fun t h => by
    rw [if_neg h]
    refine Ev_succ ?_
    simp only [series_Print.j0, if_true]
    exact Ev.now _
  by_cases c1 : s.f1 < 1
  · simp only [if_pos c1]; exact bad _ fun h => by have := h.1; omega
  by_cases c2 : s.f1 > 3
  · simp only [if_neg c1, if_pos c2]; exact bad _ fun h => by have := h.2.1; omega
  simp only [if_neg c1, if_neg c2]
  by_cases c3 : 0 ≤ s.f2 ∧ s.f2 ≤ 73048
  case neg =>
    simp only [if_neg c3]
    have e : ((⟨#[]⟩ : ByteArray).toList == ([] : List UInt8)) = true := by rw [beq_iff_eq, by_emp]; rfl
    rw [e]
    exact bad _ fun h => c3 h.2.2
  simp only [if_pos c3]
  have hok : okPrint s := ⟨by omega, by omega, c3⟩
  rw [if_pos hok]
  have hne : ((strOfNums (dateC (splitV s.f2).1 (splitV s.f2).2.1 (splitV s.f2).2.2.1 false false false)).toList == ([] : List UInt8)) = false := by
    rw [beq_eq_false_iff_ne]
    intro h
    have := congrArg List.length ((by_emp _).1 h)
    rw [by_len, strOfNums_size] at this
    exact absurd this (by show ¬ (10 : Nat) = 0; decide)
  rw [hne]
  refine Ev_succ ?_
  have z := dayS_size s.f2
  have zt := textS_size s.f3 h3.1 h3.2
  have z46 : (⟨#[46]⟩ : ByteArray).size = 1 := rfl
  have z99 : (⟨#[99]⟩ : ByteArray).size = 1 := rfl
  have z112 : (⟨#[112]⟩ : ByteArray).size = 1 := rfl
  have ht : words_Text.f s.f3 = some (textS s.f3) := text_f s.f3 h3.1 h3.2
  simp only [series_Print.j0, Bool.false_eq_true, if_false, day_print c3, Option.bind_some, ByteArray.size_append, z, z46, z99, z112, ht, if_pos (show s.f0.size + 1 ≤ 9223372036854775807 by omega), if_pos (show s.f0.size + 1 + 8 ≤ 9223372036854775807 by omega), if_pos (show s.f0.size + 1 + 8 + 1 ≤ 9223372036854775807 by omega), if_pos (show s.f0.size + 1 + 8 + 1 + 1 ≤ 9223372036854775807 by omega), if_pos (show s.f0.size + 1 + 8 + 1 + 1 + (textS s.f3).size ≤ 9223372036854775807 by omega)]
  unfold frontS
  by_cases d2 : s.f1 = 2
  · simp only [if_pos d2]; exact Ev.now _
  by_cases d3 : s.f1 = 3
  · simp only [if_neg d2, if_pos d3]; exact Ev.now _
  · simp only [if_neg d2, if_neg d3]; exact Ev.now _
end Go.Proofs.YthpmmofleddpnaaDoor.P
end
section
namespace Go.Proofs.YthpmmofleddpnaaDoor.P
set_option linter.unusedVariables false
set_option linter.unusedSimpArgs false
open Go.RowKit Go.Proofs.YthpmmofleddpnaaDoorW.PrintWords Go.Proofs.YthpmmofleddpnaaDoorW.PrintMore Go.Proofs.YthpmmofleddpnaaDoor.X
theorem monSum_mono (b : Bool) : ∀ (d m : Nat), monSum b m ≤ monSum b (m + d)
  | 0, m => Int.le_refl _
  | d + 1, m => by
    have h1 := monSum_mono b d m
    have h2 := monLen_rng b (m + d)
    have e : monSum b (m + (d + 1)) = monSum b (m + d) + monLen b (m + d) := rfl
    omega
theorem monAt_eq (b : Bool) (D : Int) (m : Nat) (hm : m ≤ 12) (h0 : monSum b m ≤ D) (h1 : D < monSum b (m + 1)) : ∀ (f c : Nat), c + f = 13 → c ≤ m → monAt b D f c = m
  | 0, c, hf, hc => by omega
  | f + 1, c, hf, hc => by
    have e : monSum b (m + 1) = monSum b m + monLen b m := rfl
    have e2 : monSum b (c + 1) = monSum b c + monLen b c := rfl
    unfold monAt
    by_cases x : c = m
    · subst x
      rw [if_neg (by omega)]
    · have h2 := monSum_mono b (m - (c + 1)) (c + 1)
      rw [show c + 1 + (m - (c + 1)) = m by omega] at h2
      rw [if_pos (by omega)]
      exact monAt_eq b D m hm h0 h1 f (c + 1) (by omega) (by omega)
theorem split_of {y m d : Int} (h1 : 2000 ≤ y) (h2 : y ≤ 2199) (h3 : 1 ≤ d) (h4 : d ≤ daysV y m) : (0 ≤ (ofV y m d).1 ∧ (ofV y m d).1 ≤ 73048) ∧ splitV (ofV y m d).1 = (y, m, d, 0) ∧ (ofV y m d).2 = 0 := by
  obtain ⟨m1, m2, m3⟩ := days_pos h3 h4
  have e : ofV y m d = (startV y + d - 1 + monSum (leapB y) m.toNat, 0) := by unfold ofV; rw [if_neg (by omega)]
  rw [e]
  show (0 ≤ startV y + d - 1 + monSum (leapB y) m.toNat ∧ startV y + d - 1 + monSum (leapB y) m.toNat ≤ 73048) ∧ splitV (startV y + d - 1 + monSum (leapB y) m.toNat) = (y, m, d, 0) ∧ (0 : Int) = 0
  obtain ⟨M, rfl⟩ : ∃ M : Nat, m = (M : Int) := ⟨m.toNat, by omega⟩
  rw [Int.toNat_natCast]
  have hdv : daysV y (M : Int) = monLen (leapB y) M := by unfold daysV; rw [if_pos ⟨m1, m2⟩, Int.toNat_natCast]
  rw [hdv] at h4
  have hs := monSum_rng (leapB y) M
  have hy := startV_rng1 (y := y) (by omega) (by omega)
  have hsu := startV_succ h1 h2
  have e1 : monSum (leapB y) (M + 1) = monSum (leapB y) M + monLen (leapB y) M := rfl
  have hmo := monSum_mono (leapB y) (13 - (M + 1)) (M + 1)
  rw [show M + 1 + (13 - (M + 1)) = 13 by omega, monSum_all] at hmo
  have hend : startV (y + 1) ≤ 73049 := by
    have := startV_mono (a := y + 1) (b := 2200) (by omega) (by omega)
    have e2 : startV 2200 = 73049 := by decide
    omega
  have hlt : startV y + d - 1 + monSum (leapB y) M < startV (y + 1) := by omega
  have hday : 0 ≤ startV y + d - 1 + monSum (leapB y) M ∧ startV y + d - 1 + monSum (leapB y) M ≤ 73048 := by omega
  refine ⟨hday, ?_, rfl⟩
  obtain ⟨y1, y2, y3⟩ := year_ok hday
  generalize hD : startV y + d - 1 + monSum (leapB y) M = day at *
  have hsk := startV_succ (c := 2000 + (yearK day : Int)) (by omega) (by omega)
  rw [monSum_all] at y3
  have hk : 2000 + (yearK day : Int) = y := by
    by_cases a : 2000 + (yearK day : Int) < y
    · have := startV_mono (a := 2000 + (yearK day : Int) + 1) (b := y) (by omega) (by omega)
      omega
    · by_cases b : y < 2000 + (yearK day : Int)
      · have := startV_mono (a := y + 1) (b := 2000 + (yearK day : Int)) (by omega) (by omega)
        omega
      · omega
  unfold splitV
  rw [if_pos hday, hk]
  have hma := monAt_eq (leapB y) (day - startV y) M (by omega) (by omega) (by omega) 12 1 (by omega) (by omega)
  rw [hma]
  congr 3
  omega
theorem digsF_dig : ∀ (d : Nat) (n : Int), ∀ x ∈ digsF n d, digitB x = true
  | 0, n, x, hx => by cases hx
  | d + 1, n, x, hx => by
    rcases List.mem_append.1 hx with h | h
    · exact digsF_dig d (n / 10) x h
    · obtain rfl := List.mem_singleton.1 h
      unfold digitB
      simp only [Bool.and_eq_true, decide_eq_true_eq]
      omega
theorem dayL_dig (day : Int) : ∀ x ∈ dayL day, digitB x = true := by
  unfold dayL
  intro x hx
  rcases List.mem_append.1 hx with h | h
  · rcases List.mem_append.1 h with h | h
    · exact digsF_dig _ _ x h
    · exact digsF_dig _ _ x h
  · exact digsF_dig _ _ x h
theorem dayS_by (day : Int) : bytesOf (dayS day) = dayL day := by_str _ fun x hx => by have := dig_rng (dayL_dig day x hx); omega
theorem join3 {L A B C : List Int} (h : splitI 46 L = [A, B, C]) : L = A ++ 46 :: (B ++ 46 :: C) := by
  have key : ∀ (L : List Int) (p : List Int) (q : List (List Int)), splitI 46 L = p :: q → (q = [] ∧ L = p) ∨ (∃ R, L = p ++ 46 :: R ∧ splitI 46 R = q) := by
    intro L
    induction L with
    | nil => intro p q h; simp only [splitI, List.cons.injEq] at h; exact Or.inl ⟨h.2.symm, h.1⟩
    | cons x r ih =>
      intro p q h
      unfold splitI at h
      by_cases c : x = 46
      · rw [if_pos c] at h
        simp only [List.cons.injEq] at h
        refine Or.inr ⟨r, ?_, h.2⟩
        rw [← h.1, c]
        rfl
      · rw [if_neg c] at h
        cases hs : splitI 46 r with
        | nil => exact absurd hs (splitI_ne 46 r)
        | cons p1 q1 =>
          rw [hs] at h
          simp only [List.cons.injEq] at h
          obtain ⟨h1, h2⟩ := h
          subst h1 h2
          rcases ih p1 q1 hs with ⟨a, b⟩ | ⟨R, a, b⟩
          · exact Or.inl ⟨a, by rw [b]⟩
          · exact Or.inr ⟨R, by rw [a]; rfl, b⟩
  rcases key L A [B, C] h with ⟨a, _⟩ | ⟨R, a, b⟩
  · cases a
  rcases key R B [C] b with ⟨c, _⟩ | ⟨R2, c, d⟩
  · cases c
  rcases key R2 C [] d with ⟨_, e⟩ | ⟨R3, _, f⟩
  · rw [a, c, e]
  · exact absurd f (splitI_ne 46 R3)
theorem dayL_eq (day : Int) : dayL day = [48 + (splitV day).1 / 10 / 10 / 10 % 10, 48 + (splitV day).1 / 10 / 10 % 10, 48 + (splitV day).1 / 10 % 10, 48 + (splitV day).1 % 10, 48 + (splitV day).2.1 / 10 % 10, 48 + (splitV day).2.1 % 10, 48 + (splitV day).2.2.1 / 10 % 10, 48 + (splitV day).2.2.1 % 10] := rfl
def lastL (s : Ser) : List Int := if s.f1 = 2 then 99 :: textL s.f3 else if s.f1 = 3 then 112 :: textL s.f3 else [102]
theorem print_by {s : Ser} (h : okPrint s) : bytesOf (printS s) = bytesOf s.f0 ++ 46 :: (dayL s.f2 ++ 46 :: lastL s) := by
  unfold printS lastL
  rw [if_pos h]
  have e46 : bytesOf (⟨#[46]⟩ : ByteArray) = [46] := rfl
  have e99 : bytesOf (⟨#[99]⟩ : ByteArray) = [99] := rfl
  have e112 : bytesOf (⟨#[112]⟩ : ByteArray) = [112] := rfl
  have e102 : bytesOf (⟨#[102]⟩ : ByteArray) = [102] := rfl
  by_cases c2 : s.f1 = 2
  · rw [if_pos c2, if_pos c2]
    unfold frontS
    simp only [by_app, e46, e99, dayS_by, textS_by, List.append_assoc, List.singleton_append, List.cons_append, List.nil_append]
  · rw [if_neg c2, if_neg c2]
    by_cases c3 : s.f1 = 3
    · rw [if_pos c3, if_pos c3]
      unfold frontS
      simp only [by_app, e46, e112, dayS_by, textS_by, List.append_assoc, List.singleton_append, List.cons_append, List.nil_append]
    · rw [if_neg c3, if_neg c3]
      unfold frontS
      simp only [by_app, e46, e102, dayS_by, textS_by, List.append_assoc, List.singleton_append, List.cons_append, List.nil_append]
theorem print_parse10 {t : ByteArray} (h : (parseS t).2 = 0) : printS (parseS t).1 = t := by
  have hpc : ∀ p ∈ splitI 46 (bytesOf t), bytesOf (strOfNums p) = p := fun p hp => by_str _ fun x hx => by_rng t x ((split_le 46 _ p hp).2 x hx)
  unfold parseS parseL at h ⊢
  by_cases c0 : (piecesS t).length = 3
  case neg => rw [if_neg c0] at h; exact absurd h (by decide)
  rw [if_pos c0] at h ⊢
  unfold piecesS at c0 h ⊢
  rw [List.length_map] at c0
  rcases hs : splitI 46 (bytesOf t) with _ | ⟨A, _ | ⟨B, _ | ⟨C, _ | ⟨X, r⟩⟩⟩⟩
  case cons.cons.cons.nil =>
    rw [hs] at h hpc
    have hA := hpc A (by simp)
    have hB := hpc B (by simp)
    have hC := hpc C (by simp)
    have hj := join3 hs
    simp only [List.map_cons, List.map_nil] at h ⊢
    have e0 : rdOf ByteArray.empty [strOfNums A, strOfNums B, strOfNums C] 0 = strOfNums A := rfl
    have e1 : rdOf ByteArray.empty [strOfNums A, strOfNums B, strOfNums C] 1 = strOfNums B := rfl
    have e2 : rdOf ByteArray.empty [strOfNums A, strOfNums B, strOfNums C] 2 = strOfNums C := rfl
    rw [e0, e1, e2] at h ⊢
    unfold parse3 at h ⊢
    by_cases c1 : okForm (strOfNums A) (strOfNums B) (strOfNums C)
    case neg => rw [if_neg c1] at h; exact absurd h (by decide)
    rw [if_pos c1] at h ⊢
    obtain ⟨f1, f2, f3, f4⟩ := c1
    rw [hB] at f3 h ⊢
    rw [hC] at f4 h ⊢
    rw [strOfNums_size] at f2
    by_cases c2 : (dayOf (numV 0 B)).2 = 0
    case neg => rw [if_neg c2] at h; exact absurd h (by decide)
    rw [if_pos c2] at h ⊢

    have hday : (0 ≤ (dayOf (numV 0 B)).1 ∧ (dayOf (numV 0 B)).1 ≤ 73048) ∧ dayL (dayOf (numV 0 B)).1 = B := by
      have hv : ¬ (numV 0 B / 10000 < 2000 ∨ numV 0 B / 10000 > 2199 ∨ numV 0 B % 100 < 1 ∨ numV 0 B % 100 > daysV (numV 0 B / 10000) (numV 0 B / 100 % 100)) := by
        intro hb
        unfold dayOf ofV at c2
        rw [if_pos hb] at c2
        exact absurd c2 (by decide)
      have hsp := split_of (y := numV 0 B / 10000) (m := numV 0 B / 100 % 100) (d := numV 0 B % 100) (by omega) (by omega) (by omega) (by omega)
      refine ⟨hsp.1, ?_⟩
      have hsp2 : splitV (dayOf (numV 0 B)).1 = (numV 0 B / 10000, numV 0 B / 100 % 100, numV 0 B % 100, 0) := hsp.2.1
      rw [dayL_eq, hsp2]
      have hall := List.all_eq_true.1 f3
      clear hsp hsp2 hv c2 h hj hpc hs
      rcases B with _ | ⟨a, _ | ⟨b, _ | ⟨c, _ | ⟨d, _ | ⟨e, _ | ⟨f, _ | ⟨g, _ | ⟨k, _ | ⟨i, r⟩⟩⟩⟩⟩⟩⟩⟩⟩
      case cons.cons.cons.cons.cons.cons.cons.cons.nil =>
        have ha := dig_rng (hall a (by simp)); have hb := dig_rng (hall b (by simp)); have hc := dig_rng (hall c (by simp)); have hd' := dig_rng (hall d (by simp))
        have he := dig_rng (hall e (by simp)); have hf := dig_rng (hall f (by simp)); have hg := dig_rng (hall g (by simp)); have hh := dig_rng (hall k (by simp))
        simp only [numV, List.foldl_cons, List.foldl_nil, List.cons.injEq, and_true]
        refine ⟨?_, ?_, ?_, ?_, ?_, ?_, ?_, ?_⟩ <;> omega
      all_goals (simp at f2)
    obtain ⟨hd1, hd2⟩ := hday
    generalize (dayOf (numV 0 B)).1 = day at *
    apply by_inj
    by_cases c3 : kindI C = 1
    · rw [if_pos c3]
      have hC1 : C = [102] := by
        unfold kindI at c3
        by_cases x : C = [102]
        · exact x
        · rw [if_neg x] at c3
          split at c3
          · exact absurd c3 (by decide)
          · split at c3 <;> exact absurd c3 (by decide)
      have hok : okPrint ⟨strOfNums A, 1, day, 0⟩ := ⟨by show (1 : Int) ≤ 1; decide, by show (1 : Int) ≤ 3; decide, hd1⟩
      rw [print_by hok, hj, hA, hd2, hC1]
      rfl
    · rw [if_neg c3] at h ⊢
      by_cases c4 : (intL C.tail).2 = 0
      case neg => rw [if_neg c4] at h; exact absurd h c4
      rw [if_pos c4] at h ⊢
      by_cases c5 : (intL C.tail).1 < -16777216 ∨ (intL C.tail).1 > 16777216
      · rw [if_pos c5] at h; exact absurd h (by decide)
      rw [if_neg c5]
      have ht := (text_int c4).1
      have hok : okPrint ⟨strOfNums A, kindI C, day, (intL C.tail).1⟩ := by
        refine ⟨?_, ?_, hd1⟩
        · show 1 ≤ kindI C
          have := kind_cases C
          omega
        · show kindI C ≤ 3
          have := kind_cases C
          omega
      rw [print_by hok, hj, hA, hd2]
      have hlast : lastL ⟨strOfNums A, kindI C, day, (intL C.tail).1⟩ = C := by
        unfold lastL
        show (if kindI C = 2 then 99 :: textL (intL C.tail).1 else if kindI C = 3 then 112 :: textL (intL C.tail).1 else [102]) = C
        rw [ht]
        unfold kindI at c3 f4 ⊢
        by_cases x : C = [102]
        · rw [if_pos x] at c3; exact absurd rfl c3
        rw [if_neg x] at c3 f4 ⊢
        cases C with
        | nil => exact absurd rfl f4
        | cons z T =>
          simp only [List.head?_cons, Option.some.injEq, List.tail_cons] at *
          by_cases x1 : z = 99
          · rw [if_pos x1, if_pos rfl, x1]
          · rw [if_neg x1] at f4 ⊢
            by_cases x2 : z = 112
            · rw [if_pos x2, if_neg (by decide), if_pos rfl, x2]
            · rw [if_neg x2] at f4; exact absurd rfl f4
      rw [hlast]
  all_goals (rw [hs] at c0; simp at c0)
end Go.Proofs.YthpmmofleddpnaaDoor.P
end
section
namespace Go.Proofs.YthpmmofleddpnaaDoor.P
set_option linter.unusedVariables false
set_option linter.unusedSimpArgs false
open Go.RowKit Go.Proofs.YthpmmofleddpnaaDoorW.PrintWords Go.Proofs.YthpmmofleddpnaaDoorW.PrintMore Go.Proofs.YthpmmofleddpnaaDoor.X
abbrev Trd := S27
theorem rdT (l : List Trd) (i : Nat) (h : i < l.length) : rd_T27 l (i : Int) = l[i] := by simp [rd_T27, h]
def tupF (q : Trd × Bool) : Int × Int × Int × ByteArray × Int × Int × Int × Int × Int × ByteArray × ByteArray × ByteArray × ByteArray × Bool := (q.1.f0, q.1.f1, q.1.f2, q.1.f3.f0, q.1.f3.f1, q.1.f3.f2, q.1.f3.f3, q.1.f4, q.1.f5, q.1.f6.f0, q.1.f6.f1, q.1.f7.f0, q.1.f7.f1, q.2)
def tupE (t : Trd) (e : Int) : Int × Int × Int × ByteArray × Int × Int × Int × Int × Int × ByteArray × ByteArray × ByteArray × ByteArray × Int := (t.f0, t.f1, t.f2, t.f3.f0, t.f3.f1, t.f3.f2, t.f3.f3, t.f4, t.f5, t.f6.f0, t.f6.f1, t.f7.f0, t.f7.f1, e)
def fndF (id : Int) : List Trd → Trd × Bool
  | [] => (z27, false)
  | x :: r => if x.f0 = id then (x, true) else fndF id r
def rmF (id : Int) : List Trd → List Trd
  | [] => []
  | x :: r => if x.f0 = id then r else x :: rmF id r
def insF (t : Trd) : List Trd → List Trd
  | [] => [t]
  | x :: r => if x.f0 > t.f0 then t :: x :: r else x :: insF t r
theorem idx_spec (p : Trd → Bool) : ∀ (l : List Trd) (i : Nat), (idxT p l (i : Int) = -1 ∧ ∀ x ∈ l, p x = false) ∨ ∃ j : Nat, ∃ h : j < l.length, idxT p l (i : Int) = ((i + j : Nat) : Int) ∧ p l[j] = true ∧ ∀ (m : Nat) (hm : m < j), p (l[m]'(by omega)) = false
  | [], i => Or.inl ⟨rfl, fun x hx => by cases hx⟩
  | x :: r, i => by
    unfold idxT
    by_cases c : p x = true
    · rw [if_pos c]
      exact Or.inr ⟨0, by simp, rfl, c, fun m hm => by omega⟩
    · rw [if_neg c]
      have e : (i : Int) + 1 = ((i + 1 : Nat) : Int) := by omega
      rw [e]
      have c' : p x = false := by simpa using c
      rcases idx_spec p r (i + 1) with ⟨h1, h2⟩ | ⟨j, hj, h1, h2, h3⟩
      · refine Or.inl ⟨h1, fun y hy => ?_⟩
        rcases List.mem_cons.1 hy with rfl | hy
        · exact c'
        · exact h2 y hy
      · refine Or.inr ⟨j + 1, by simp; omega, by rw [h1]; congr 1; omega, by simpa using h2, fun m hm => ?_⟩
        cases m with
        | zero => exact c'
        | succ m => simpa using h3 m (by omega)
theorem fnd_none {id : Int} : ∀ {l : List Trd}, (∀ x ∈ l, x.f0 ≠ id) → fndF id l = (z27, false) ∧ rmF id l = l
  | [], _ => ⟨rfl, rfl⟩
  | x :: r, h => by
    obtain ⟨h1, h2⟩ := fnd_none (l := r) fun y hy => h y (by simp [hy])
    unfold fndF rmF
    rw [if_neg (h x (by simp)), if_neg (h x (by simp)), h1, h2]
    exact ⟨rfl, rfl⟩
theorem fnd_at {id : Int} : ∀ {l : List Trd} {j : Nat} (h : j < l.length), l[j].f0 = id → (∀ (m : Nat) (hm : m < j), (l[m]'(by omega)).f0 ≠ id) → fndF id l = (l[j], true) ∧ rmF id l = l.take j ++ l.drop (j + 1)
  | [], j, h, _, _ => by simp at h
  | x :: r, 0, h, h1, _ => by
    unfold fndF rmF
    have : x.f0 = id := h1
    rw [if_pos this, if_pos this]
    exact ⟨rfl, rfl⟩
  | x :: r, j + 1, h, h1, h2 => by
    have hx : x.f0 ≠ id := h2 0 (by omega)
    obtain ⟨i1, i2⟩ := fnd_at (l := r) (j := j) (by simpa using h) (by simpa using h1) (fun m hm => by simpa using h2 (m + 1) (by omega))
    unfold fndF rmF
    rw [if_neg hx, if_neg hx, i1, i2]
    exact ⟨by simp, by simp⟩
theorem fndT_eq (id : Int) (l : List Trd) : fndT id l = fndF id l := by
  unfold fndT
  rcases idx_spec (fun t => t.f0 == id) l 0 with ⟨h1, h2⟩ | ⟨j, hj, h1, h2, h3⟩
  · have h1' : idxT (fun t => t.f0 == id) l 0 = -1 := h1
    rw [h1', if_pos (by decide), (fnd_none fun x hx => by simpa using h2 x hx).1]
  · have h1' : idxT (fun t => t.f0 == id) l 0 = (j : Int) := by have := h1; rw [Nat.zero_add] at this; exact this
    rw [h1', if_neg (by omega), rdT l j hj, (fnd_at hj (by simpa using h2) fun m hm => by simpa using h3 m hm).1]
theorem bstT_eq (id : Int) (l : List Trd) : bstT id l = (if (fndF id l).2 = true then (rmF id l, (fndF id l).1, 0) else ([], z27, 22)) := by
  unfold bstT
  rcases idx_spec (fun t => t.f0 == id) l 0 with ⟨h1, h2⟩ | ⟨j, hj, h1, h2, h3⟩
  · have h1' : idxT (fun t => t.f0 == id) l 0 = -1 := h1
    rw [h1', if_pos (by decide), (fnd_none fun x hx => by simpa using h2 x hx).1, if_neg (by simp)]
  · have h1' : idxT (fun t => t.f0 == id) l 0 = (j : Int) := by have := h1; rw [Nat.zero_add] at this; exact this
    obtain ⟨f1, f2⟩ := fnd_at hj (by simpa using h2) fun m hm => by simpa using h3 m hm
    rw [h1', if_neg (by omega), rdT l j hj, f1, f2, if_pos rfl, Int.toNat_natCast, show ((j : Int) + 1).toNat = j + 1 by omega]
theorem ins_at {t : Trd} : ∀ {l : List Trd} {j : Nat} (h : j < l.length), l[j].f0 > t.f0 → (∀ (m : Nat) (hm : m < j), ¬ (l[m]'(by omega)).f0 > t.f0) → insF t l = l.take j ++ [t] ++ l.drop j
  | [], j, h, _, _ => by simp at h
  | x :: r, 0, h, h1, _ => by
    have hx : x.f0 > t.f0 := h1
    unfold insF
    rw [if_pos hx]
    rfl
  | x :: r, j + 1, h, h1, h2 => by
    have hx : ¬ x.f0 > t.f0 := h2 0 (by omega)
    have i1 := ins_at (l := r) (j := j) (by simpa using h) (by simpa using h1) (fun m hm => by simpa using h2 (m + 1) (by omega))
    unfold insF
    rw [if_neg hx, i1]
    simp
theorem ins_end {t : Trd} : ∀ {l : List Trd}, (∀ x ∈ l, ¬ x.f0 > t.f0) → insF t l = l ++ [t]
  | [], _ => rfl
  | x :: r, h => by
    unfold insF
    rw [if_neg (h x (by simp)), ins_end fun y hy => h y (by simp [hy])]
    rfl
theorem addT_eq (t : Trd) (l : List Trd) : addT t l = if 1024 ≤ l.length then ([], 8) else if (fndF t.f0 l).2 = true then ([], 12) else (insF t l, 0) := by
  unfold addT
  by_cases c : 1024 ≤ l.length
  · rw [if_pos c, if_pos c]
  rw [if_neg c, if_neg c]
  rcases idx_spec (fun x => x.f0 == t.f0) l 0 with ⟨h1, h2⟩ | ⟨j, hj, h1, h2, h3⟩
  · have h1' : idxT (fun x => x.f0 == t.f0) l 0 = -1 := h1
    rw [h1', if_neg (show ¬ (0 : Int) ≤ -1 by decide), (fnd_none fun x hx => by simpa using h2 x hx).1, if_neg (show ¬ ((z27, false) : Trd × Bool).2 = true by simp)]
    congr 1
    unfold insAt
    rcases idx_spec (fun x => decide (t.f0 < x.f0)) l 0 with ⟨g1, g2⟩ | ⟨m, hm, g1, g2, g3⟩
    · have g1' : idxT (fun x => decide (t.f0 < x.f0)) l 0 = -1 := g1
      rw [g1', if_pos (show (-1 : Int) < 0 by decide), Int.toNat_natCast, List.take_length, List.drop_length, List.append_nil, ins_end fun x hx => by have := g2 x hx; simp at this; omega]
    · have g1' : idxT (fun x => decide (t.f0 < x.f0)) l 0 = (m : Int) := by have := g1; rw [Nat.zero_add] at this; exact this
      rw [g1', if_neg (show ¬ (m : Int) < 0 by omega), Int.toNat_natCast, ins_at hm (by simpa using g2) fun q hq => by have := g3 q hq; simp at this; omega]
  · have h1' : idxT (fun x => x.f0 == t.f0) l 0 = (j : Int) := by have := h1; rw [Nat.zero_add] at this; exact this
    rw [h1', if_pos (show (0 : Int) ≤ (j : Int) by omega), (fnd_at hj (by simpa using h2) fun m hm => by simpa using h3 m hm).1, if_pos rfl]
def tupB (q : List Trd × Trd × Int) : List Trd × Int × Int × Int × ByteArray × Int × Int × Int × Int × Int × ByteArray × ByteArray × ByteArray × ByteArray × Int := (q.1, tupE q.2.1 q.2.2)
theorem bust_f (id : Int) (l : List Trd) (h : l.length * 144 ≤ 140737488355328) : trade_Bust.f l id = some (tupB (bstT id l)) := by
  unfold trade_Bust.f
  rw [if_pos h]
  rfl
theorem find_f (id : Int) (l : List Trd) : trade_Find.f l id = some (tupF (fndF id l)) := by
  rw [← fndT_eq]
  rfl
theorem add_f (t : Trd) (l : List Trd) : trade_Add.f l t.f0 t.f1 t.f2 t.f3.f0 t.f3.f1 t.f3.f2 t.f3.f3 t.f4 t.f5 t.f6.f0 t.f6.f1 t.f7.f0 t.f7.f1 = some (addT t l) := rfl
theorem same_loopT (l : List Trd) (hl : l.length ≤ 977343669120) : ∀ (d i : Nat), i + d = l.length → Ev (fun k => contangoref12_Same.l0 k l l (i : Int)) true
  | 0, i, hd => by
    refine Ev_succ (Ev_succ ?_)
    simp only [contangoref12_Same.l0, contangoref12_Same.j1, if_neg (show ¬ (i : Int) < (l.length : Int) by omega), Bool.false_eq_true, if_false, beq_self_eq_true]
    exact Ev.now _
  | d + 1, i, hd => by
    have hi : i < l.length := by omega
    refine Ev_succ (Ev_succ ?_)
    simp only [contangoref12_Same.l0, contangoref12_Same.j1, if_pos (show (i : Int) < (l.length : Int) by omega), decide_eq_true (show (i : Int) < (l.length : Int) by omega), if_true, if_pos (show 0 ≤ (i : Int) by omega), beq_self_eq_true, Bool.not_true, Bool.or_self, Bool.false_eq_true, if_false, w_succ hi (by omega)]
    exact same_loopT l hl d (i + 1) (by omega)
theorem sameT_f (l : List Trd) (hl : l.length ≤ 977343669120) : Ev (fun k => contangoref12_Same.f k l l) true := same_loopT l hl l.length 0 (by omega)
theorem insF_len (t : Trd) : ∀ l : List Trd, (insF t l).length = l.length + 1
  | [] => rfl
  | x :: r => by
    unfold insF
    split
    · simp
    · simp [insF_len t r]
theorem ins_back (t : Trd) : ∀ l : List Trd, (fndF t.f0 l).2 = false → fndF t.f0 (insF t l) = (t, true) ∧ rmF t.f0 (insF t l) = l
  | [], _ => by
    unfold insF fndF rmF
    rw [if_pos rfl, if_pos rfl]
    exact ⟨rfl, rfl⟩
  | x :: r, h => by
    unfold fndF at h
    by_cases c : x.f0 = t.f0
    · rw [if_pos c] at h; cases h
    rw [if_neg c] at h
    unfold insF
    by_cases c2 : x.f0 > t.f0
    · rw [if_pos c2, fndF, rmF, if_pos rfl, if_pos rfl]
      exact ⟨rfl, rfl⟩
    · rw [if_neg c2, fndF, rmF, if_neg c, if_neg c]
      obtain ⟨h1, h2⟩ := ins_back t r h
      rw [h1, h2]
      exact ⟨rfl, rfl⟩
end Go.Proofs.YthpmmofleddpnaaDoor.P
end
section
namespace Go.Proofs.YthpmmofleddpnaaDoor.P
set_option linter.unusedVariables false
set_option linter.unusedSimpArgs false
open Go.RowKit Go.Proofs.YthpmmofleddpnaaDoorW.PrintWords Go.Proofs.YthpmmofleddpnaaDoorW.PrintMore Go.Proofs.YthpmmofleddpnaaDoor.X
theorem fields_512 {s : ByteArray} : ∀ x ∈ (fieldsS s).1, x.size ≤ 512 := by
  intro x hx
  unfold fieldsS fieldsE at hx
  by_cases c1 : 512 < (bytesOf s).length
  · rw [if_pos c1] at hx; simp at hx
  rw [if_neg c1] at hx
  by_cases c2 : bytesOf s = []
  · rw [if_pos c2] at hx; simp at hx
  rw [if_neg c2] at hx
  by_cases c3 : (splitI 32 (bytesOf s)).all goodP = true
  case neg => rw [if_neg c3] at hx; simp at hx
  rw [if_pos c3] at hx
  obtain ⟨p, hp, rfl⟩ := List.mem_map.1 hx
  rw [strOfNums_size]
  have := (split_le 32 _ p hp).1
  omega
theorem rfS_eq (l : List ByteArray) (i : Nat) (h : i < l.length) : rfS l i = l[i] := rdOf_nat _ _ i h
theorem rfS_512 {s : ByteArray} (i : Nat) (h : i < (fieldsS s).1.length) : (rfS (fieldsS s).1 i).size ≤ 512 := by
  rw [rfS_eq _ i h]
  exact fields_512 _ (List.getElem_mem h)
def stI (x : ByteArray) : Int × Int := intL (bytesOf x)
def zT : Trd := z27
def q5 (l : List ByteArray) (t : Trd) : Trd × Int := if (stI (rfS l 5)).2 = 0 then ({ t with f5 := (stI (rfS l 5)).1 }, 0) else (zT, (stI (rfS l 5)).2)
def q4 (l : List ByteArray) (t : Trd) : Trd × Int := if (stI (rfS l 4)).2 = 0 then q5 l { t with f4 := (stI (rfS l 4)).1 } else (zT, (stI (rfS l 4)).2)
def q3 (l : List ByteArray) (t : Trd) : Trd × Int := if (parseS (rfS l 3)).2 = 0 then q4 l { t with f3 := (parseS (rfS l 3)).1 } else (zT, (parseS (rfS l 3)).2)
def q2 (l : List ByteArray) (t : Trd) : Trd × Int := if (stI (rfS l 2)).2 = 0 then q3 l { t with f2 := (stI (rfS l 2)).1 } else (zT, (stI (rfS l 2)).2)
def q1 (l : List ByteArray) (t : Trd) : Trd × Int := if (stI (rfS l 1)).2 = 0 then q2 l { t with f1 := (stI (rfS l 1)).1 } else (zT, (stI (rfS l 1)).2)
def q0 (l : List ByteArray) (t : Trd) : Trd × Int := if (stI (rfS l 0)).2 = 0 then q1 l { t with f0 := (stI (rfS l 0)).1 } else (zT, (stI (rfS l 0)).2)
def parseT (s : ByteArray) : Trd × Int := if (fieldsS s).2 = 0 then (if (fieldsS s).1.length = 10 then (if ((fieldsS s).1.drop 6).all nameB = true then q0 (fieldsS s).1 (t0T (fieldsS s).1) else (zT, 5)) else (zT, 5)) else (zT, (fieldsS s).2)
theorem Ev_q {α : Type} {g : Nat → Int × Int → Option α} {f : Nat → Option (Int × Int)} {v : Int × Int} {a b : α} (hf : Ev f v) (h1 : v.2 = 0 → Ev (fun k => g k v) a) (h2 : v.2 ≠ 0 → Ev (fun k => g k v) b) : Ev (fun k => (f k).bind (g k)) (if v.2 = 0 then a else b) := by
  refine Ev_bind hf ?_
  by_cases c : v.2 = 0
  · rw [if_pos c]; exact h1 c
  · rw [if_neg c]; exact h2 c
theorem int_fT (x : ByteArray) (h : x.size ≤ 512) : Ev (fun k => words_Int.f k x) (stI x) := int_f x (by omega)
theorem pr5_f (l : List ByteArray) (t : Trd) (h : ∀ i, i < 10 → (rfS l i).size ≤ 512) : Ev (fun k => pr5 k l t) (q5 l t) := by
  unfold pr5 q5
  refine Ev_q (int_fT _ (h 5 (by omega))) (fun c => ?_) (fun c => ?_)
  · simp only [if_pos c, pr6]; exact Ev.now _
  · simp only [if_neg c]; exact Ev.now _
theorem pr4_f (l : List ByteArray) (t : Trd) (h : ∀ i, i < 10 → (rfS l i).size ≤ 512) : Ev (fun k => pr4 k l t) (q4 l t) := by
  unfold pr4 q4
  refine Ev_q (int_fT _ (h 4 (by omega))) (fun c => ?_) (fun c => ?_)
  · simp only [if_pos c]; exact pr5_f l _ h
  · simp only [if_neg c]; exact Ev.now _
theorem pr3_f (l : List ByteArray) (t : Trd) (h : ∀ i, i < 10 → (rfS l i).size ≤ 512) : Ev (fun k => pr3 k l t) (q3 l t) := by
  unfold pr3 q3
  refine Ev_bind (parse_f10 _ (by have := h 3 (by omega); omega)) ?_
  by_cases c : (parseS (rfS l 3)).2 = 0
  · simp only [if_pos c, if_pos (show (tS (parseS (rfS l 3))).2.2.2.2 = 0 from c)]; exact pr4_f l _ h
  · simp only [if_neg c, if_neg (show ¬ (tS (parseS (rfS l 3))).2.2.2.2 = 0 from c)]; exact Ev.now _
theorem pr2_f (l : List ByteArray) (t : Trd) (h : ∀ i, i < 10 → (rfS l i).size ≤ 512) : Ev (fun k => pr2 k l t) (q2 l t) := by
  unfold pr2 q2
  refine Ev_q (int_fT _ (h 2 (by omega))) (fun c => ?_) (fun c => ?_)
  · simp only [if_pos c]; exact pr3_f l _ h
  · simp only [if_neg c]; exact Ev.now _
theorem pr1_f (l : List ByteArray) (t : Trd) (h : ∀ i, i < 10 → (rfS l i).size ≤ 512) : Ev (fun k => pr1 k l t) (q1 l t) := by
  unfold pr1 q1
  refine Ev_q (int_fT _ (h 1 (by omega))) (fun c => ?_) (fun c => ?_)
  · simp only [if_pos c]; exact pr2_f l _ h
  · simp only [if_neg c]; exact Ev.now _
theorem pr0_f (l : List ByteArray) (t : Trd) (h : ∀ i, i < 10 → (rfS l i).size ≤ 512) : Ev (fun k => pr0 k l t) (q0 l t) := by
  unfold pr0 q0
  refine Ev_q (int_fT _ (h 0 (by omega))) (fun c => ?_) (fun c => ?_)
  · simp only [if_pos c]; exact pr1_f l _ h
  · simp only [if_neg c]; exact Ev.now _
theorem ixf_loop (l : List ByteArray) (hl : l.length ≤ 100000) : ∀ (d i : Nat), i + d = l.length → ∃ r, Ev (fun k => slices_IndexFunc_string_string.l0 k l l.length (i : Int)) r ∧ decide (r ≥ 0) = !((l.drop i).all nameB)
  | 0, i, hd => by
    refine ⟨-1, Ev_succ ?_, ?_⟩
    · simp only [slices_IndexFunc_string_string.l0, if_neg (show ¬ (i : Int) < (l.length : Int) by omega)]
      exact Ev.now _
    · rw [List.drop_of_length_le (by omega)]; rfl
  | d + 1, i, hd => by
    have hi : i < l.length := by omega
    have hr : rdOf ByteArray.empty l (i : Int) = l[i] := rdOf_nat _ _ i hi
    have hp : Ev (fun k => trade_Parse_1.f k l[i]) (!nameB l[i]) := by
      unfold trade_Parse_1.f
      exact Ev_bind (name_f l[i]) (Ev.now _)
    obtain ⟨r, h1, h2⟩ := ixf_loop l hl d (i + 1) (by omega)
    by_cases c : nameB l[i] = true
    · refine ⟨r, Ev_succ ?_, ?_⟩
      · simp only [slices_IndexFunc_string_string.l0, if_pos (show (i : Int) < (l.length : Int) by omega), if_pos (show 0 ≤ (i : Int) by omega), hr, w_succ hi (by omega)]
        refine Ev_bind hp ?_
        rw [c]
        simp only [Bool.not_true, Bool.false_eq_true, if_false]
        exact h1
      · rw [h2, drop_cons l i hi, List.all_cons, c, Bool.true_and]
    · have c' : nameB l[i] = false := by simpa using c
      refine ⟨(i : Int), Ev_succ ?_, ?_⟩
      · simp only [slices_IndexFunc_string_string.l0, if_pos (show (i : Int) < (l.length : Int) by omega), if_pos (show 0 ≤ (i : Int) by omega), hr, w_succ hi (by omega)]
        refine Ev_bind hp ?_
        rw [c']
        simp only [Bool.not_false, if_true]
        exact Ev.now _
      · rw [drop_cons l i hi, List.all_cons, c', Bool.false_and, decide_eq_true (by omega)]
        rfl
theorem contains_f (l : List ByteArray) (hl : l.length ≤ 100000) : Ev (fun k => slices_ContainsFunc_string_string.f k l) (!(l.all nameB)) := by
  unfold slices_ContainsFunc_string_string.f
  obtain ⟨r, h1, h2⟩ := ixf_loop l hl l.length 0 (by omega)
  rw [List.drop_zero] at h2
  refine Ev_bind (g := fun k => slices_IndexFunc_string_string.f k l) h1 ?_
  rw [h2]
  exact Ev.now _
theorem prs_f (s : ByteArray) : Ev (fun k => prsT k s) (parseT s) := by
  unfold prsT parseT
  refine Ev_bind (fields_f s) ?_
  by_cases c1 : (fieldsS s).2 = 0
  case neg => simp only [if_neg c1]; exact Ev.now _
  simp only [if_pos c1]
  by_cases c2 : (fieldsS s).1.length = 10
  case neg => simp only [if_neg c2]; exact Ev.now _
  simp only [if_pos c2]
  refine Ev_bind (contains_f _ (by rw [List.length_drop]; omega)) ?_
  by_cases c3 : ((fieldsS s).1.drop 6).all nameB = true
  · simp only [c3, Bool.not_true, Bool.false_eq_true, if_false, if_true]
    exact pr0_f _ _ fun i hi => rfS_512 i (by omega)
  · have c3' : ((fieldsS s).1.drop 6).all nameB = false := by simpa using c3
    simp only [c3', Bool.not_false, if_true, Bool.false_eq_true, if_false]
    exact Ev.now _
theorem tparse_f (s : ByteArray) : Ev (fun k => trade_Parse.f k s) (tupE (parseT s).1 (parseT s).2) := by
  unfold trade_Parse.f
  exact Ev_bind (prs_f s) (Ev.now _)
def lineT (t : Trd) : List ByteArray := [textS t.f0, textS t.f1, textS t.f2, printS t.f3, textS t.f4, textS t.f5, t.f6.f0, t.f6.f1, t.f7.f0, t.f7.f1]
def I64T (t : Trd) : Prop := I64 t.f0 ∧ I64 t.f1 ∧ I64 t.f2 ∧ I64 t.f3.f3 ∧ I64 t.f4 ∧ I64 t.f5
theorem tprint_f (t : Trd) (hI : I64T t) (h3 : t.f3.f0.size ≤ 140737488351232) (hs : sumZ (lineT t) ≤ 140737488355328) : Ev (fun k => trade_Print.f k t.f0 t.f1 t.f2 t.f3.f0 t.f3.f1 t.f3.f2 t.f3.f3 t.f4 t.f5 t.f6.f0 t.f6.f1 t.f7.f0 t.f7.f1) (joinS (lineT t)) := by
  obtain ⟨i0, i1, i2, i3, i4, i5⟩ := hI
  unfold trade_Print.f
  have e0 : words_Text.f t.f0 = some (textS t.f0) := text_f _ i0.1 i0.2
  have e1 : words_Text.f t.f1 = some (textS t.f1) := text_f _ i1.1 i1.2
  have e2 : words_Text.f t.f2 = some (textS t.f2) := text_f _ i2.1 i2.2
  have e4 : words_Text.f t.f4 = some (textS t.f4) := text_f _ i4.1 i4.2
  have e5 : words_Text.f t.f5 = some (textS t.f5) := text_f _ i5.1 i5.2
  rw [e0, e1, e2, e4, e5]
  simp only [Option.bind_some]
  refine Ev_bind (print_f10 t.f3 h3 i3) ?_
  have hj := join_f (lineT t) hs
  have hl : ([textS t.f0, textS t.f1, textS t.f2, printS t.f3, textS t.f4, textS t.f5, t.f6.f0, t.f6.f1, t.f7.f0, t.f7.f1] : List ByteArray) = lineT t := rfl
  rw [hl, hj]
  exact Ev.now _
theorem parse_rngS (t : ByteArray) : (parseS t).1.f0.size ≤ t.size ∧ I64 (parseS t).1.f3 := by
  have hz : zS.f0.size ≤ t.size ∧ I64 zS.f3 := ⟨Nat.zero_le _, by show (-9223372036854775808 : Int) ≤ 0 ∧ (0 : Int) ≤ 9223372036854775807; omega⟩
  unfold parseS parseL
  by_cases c0 : (piecesS t).length = 3
  case neg => rw [if_neg c0]; exact hz
  rw [if_pos c0]
  have h0 : (rdOf ByteArray.empty (piecesS t) 0).size ≤ t.size := by
    have e : rdOf ByteArray.empty (piecesS t) 0 = (piecesS t)[0]'(by omega) := rdOf_nat _ _ 0 _
    rw [e]; exact pieces_sz (List.getElem_mem _)
  generalize rdOf ByteArray.empty (piecesS t) 0 = a at *
  generalize rdOf ByteArray.empty (piecesS t) 1 = b at *
  generalize rdOf ByteArray.empty (piecesS t) 2 = c at *
  unfold parse3
  by_cases c1 : okForm a b c
  case neg => rw [if_neg c1]; exact hz
  rw [if_pos c1]
  by_cases c2 : (dayOf (numV 0 (bytesOf b))).2 = 0
  case neg => rw [if_neg c2]; exact hz
  rw [if_pos c2]
  by_cases c3 : kindI (bytesOf c) = 1
  · rw [if_pos c3]; exact ⟨h0, hz.2⟩
  rw [if_neg c3]
  by_cases c4 : (intL (bytesOf c).tail).2 = 0
  case neg => rw [if_neg c4]; exact hz
  rw [if_pos c4]
  by_cases c5 : (intL (bytesOf c).tail).1 < -16777216 ∨ (intL (bytesOf c).tail).1 > 16777216
  · rw [if_pos c5]; exact hz
  rw [if_neg c5]
  refine ⟨h0, ?_⟩
  show (-9223372036854775808 : Int) ≤ (intL (bytesOf c).tail).1 ∧ (intL (bytesOf c).tail).1 ≤ 9223372036854775807
  omega
theorem st_back {x : ByteArray} (h : (stI x).2 = 0) : textS (stI x).1 = x ∧ I64 (stI x).1 := by
  obtain ⟨t1, t2, t3, _⟩ := text_int h
  refine ⟨?_, ?_⟩
  · unfold textS stI; rw [t1, str_by]
  · unfold stI; exact ⟨by omega, by omega⟩
theorem q0_back {l : List ByteArray} {t : Trd} (h : (q0 l t).2 = 0) : (stI (rfS l 0)).2 = 0 ∧ (stI (rfS l 1)).2 = 0 ∧ (stI (rfS l 2)).2 = 0 ∧ (parseS (rfS l 3)).2 = 0 ∧ (stI (rfS l 4)).2 = 0 ∧ (stI (rfS l 5)).2 = 0 ∧ (q0 l t).1 = { t with f0 := (stI (rfS l 0)).1, f1 := (stI (rfS l 1)).1, f2 := (stI (rfS l 2)).1, f3 := (parseS (rfS l 3)).1, f4 := (stI (rfS l 4)).1, f5 := (stI (rfS l 5)).1 } := by
  unfold q0 at h ⊢
  by_cases c0 : (stI (rfS l 0)).2 = 0
  case neg => rw [if_neg c0] at h; exact absurd h c0
  rw [if_pos c0] at h ⊢
  unfold q1 at h ⊢
  by_cases c1 : (stI (rfS l 1)).2 = 0
  case neg => rw [if_neg c1] at h; exact absurd h c1
  rw [if_pos c1] at h ⊢
  unfold q2 at h ⊢
  by_cases c2 : (stI (rfS l 2)).2 = 0
  case neg => rw [if_neg c2] at h; exact absurd h c2
  rw [if_pos c2] at h ⊢
  unfold q3 at h ⊢
  by_cases c3 : (parseS (rfS l 3)).2 = 0
  case neg => rw [if_neg c3] at h; exact absurd h c3
  rw [if_pos c3] at h ⊢
  unfold q4 at h ⊢
  by_cases c4 : (stI (rfS l 4)).2 = 0
  case neg => rw [if_neg c4] at h; exact absurd h c4
  rw [if_pos c4] at h ⊢
  unfold q5 at h ⊢
  by_cases c5 : (stI (rfS l 5)).2 = 0
  case neg => rw [if_neg c5] at h; exact absurd h c5
  rw [if_pos c5]
  exact ⟨c0, c1, c2, c3, c4, c5, rfl⟩
theorem list10 {l : List ByteArray} (h : l.length = 10) : [rfS l 0, rfS l 1, rfS l 2, rfS l 3, rfS l 4, rfS l 5, rfS l 6, rfS l 7, rfS l 8, rfS l 9] = l := by
  rcases l with _ | ⟨a, _ | ⟨b, _ | ⟨c, _ | ⟨d, _ | ⟨e, _ | ⟨f, _ | ⟨g, _ | ⟨i, _ | ⟨j, _ | ⟨k, _ | ⟨m, r⟩⟩⟩⟩⟩⟩⟩⟩⟩⟩⟩
  case cons.cons.cons.cons.cons.cons.cons.cons.cons.cons.nil => rfl
  all_goals (simp at h)
theorem parse_back {s : ByteArray} (h : (parseT s).2 = 0) : lineT (parseT s).1 = (fieldsS s).1 ∧ joinS (lineT (parseT s).1) = s ∧ I64T (parseT s).1 ∧ (parseT s).1.f3.f0.size ≤ 512 ∧ (fieldsS s).1.length = 10 := by
  unfold parseT at h ⊢
  by_cases c1 : (fieldsS s).2 = 0
  case neg => rw [if_neg c1] at h; exact absurd h c1
  rw [if_pos c1] at h ⊢
  by_cases c2 : (fieldsS s).1.length = 10
  case neg => rw [if_neg c2] at h; exact absurd h (by decide)
  rw [if_pos c2] at h ⊢
  by_cases c3 : ((fieldsS s).1.drop 6).all nameB = true
  case neg => rw [if_neg c3] at h; exact absurd h (by decide)
  rw [if_pos c3] at h ⊢
  have hj := join_of_fields c1
  have h3 : (rfS (fieldsS s).1 3).size ≤ 512 := rfS_512 3 (by omega)
  generalize (fieldsS s).1 = l at *
  obtain ⟨a0, a1, a2, a3, a4, a5, e⟩ := q0_back h
  rw [e]
  have b0 := st_back a0
  have b1 := st_back a1
  have b2 := st_back a2
  have b4 := st_back a4
  have b5 := st_back a5
  have hl : lineT { t0T l with f0 := (stI (rfS l 0)).1, f1 := (stI (rfS l 1)).1, f2 := (stI (rfS l 2)).1, f3 := (parseS (rfS l 3)).1, f4 := (stI (rfS l 4)).1, f5 := (stI (rfS l 5)).1 } = l := by
    show [textS (stI (rfS l 0)).1, textS (stI (rfS l 1)).1, textS (stI (rfS l 2)).1, printS (parseS (rfS l 3)).1, textS (stI (rfS l 4)).1, textS (stI (rfS l 5)).1, rfS l 6, rfS l 7, rfS l 8, rfS l 9] = l
    rw [b0.1, b1.1, b2.1, print_parse10 a3, b4.1, b5.1, list10 c2]
  have hr := parse_rngS (rfS l 3)
  exact ⟨hl, by rw [hl]; exact hj, ⟨b0.2, b1.2, b2.2, hr.2, b4.2, b5.2⟩, Nat.le_trans hr.1 h3, c2⟩
end Go.Proofs.YthpmmofleddpnaaDoor.P
end
section
namespace Go.Proofs.YthpmmofleddpnaaDoor.P
open Go.RowKit Go.Proofs.YthpmmofleddpnaaDoorW.PrintWords Go.Proofs.YthpmmofleddpnaaDoorW.PrintMore Go.Proofs.YthpmmofleddpnaaDoor.X
set_option maxRecDepth 100000 in
theorem goes12 : Ev (fun k => contangolaw12_goes.f k) true := Ev.of (k := 60) (contangolaw12_goes.mono) (by decide +kernel)
end Go.Proofs.YthpmmofleddpnaaDoor.P
end
section
namespace Go.Proofs.YthpmmofleddpnaaDoor.Pure
set_option linter.unusedVariables false
set_option linter.unusedSimpArgs false
open Go.RowKit Go.Proofs.YthpmmofleddpnaaDoorW.PrintWords Go.Proofs.YthpmmofleddpnaaDoorW.PrintMore Go.Proofs.YthpmmofleddpnaaDoor.X Go.Proofs.YthpmmofleddpnaaDoor.P
theorem print_back {s : ByteArray} (h : (parseT s).2 = 0) : Ev (fun k => trade_Print.f k (parseT s).1.f0 (parseT s).1.f1 (parseT s).1.f2 (parseT s).1.f3.f0 (parseT s).1.f3.f1 (parseT s).1.f3.f2 (parseT s).1.f3.f3 (parseT s).1.f4 (parseT s).1.f5 (parseT s).1.f6.f0 (parseT s).1.f6.f1 (parseT s).1.f7.f0 (parseT s).1.f7.f1) s := by
  obtain ⟨h1, h2, h3, h4, h5⟩ := parse_back h
  have hz : sumZ (lineT (parseT s).1) ≤ 140737488355328 := by
    rw [h1]
    have key : ∀ l : List ByteArray, (∀ x ∈ l, x.size ≤ 512) → sumZ l ≤ 513 * l.length := by
      intro l
      induction l with
      | nil => intro _; show (0 : Nat) ≤ _; omega
      | cons x r ih =>
        intro hx
        have i1 := ih fun y hy => hx y (by simp [hy])
        have i2 := hx x (by simp)
        unfold sumZ at i1 ⊢
        simp only [List.map_cons, List.sum_cons, List.length_cons]
        omega
    have := key _ (fields_512 (s := s))
    omega
  have := tprint_f (parseT s).1 h3 (by omega) hz
  rw [h2] at this
  exact this
theorem back_rest (s : ByteArray) : Ev (fun k => (trade_Parse.f k s).bind fun bt140 => (if bt140.2.2.2.2.2.2.2.2.2.2.2.2.2 = 0 then ((trade_Print.f k bt140.1 bt140.2.1 bt140.2.2.1 bt140.2.2.2.1 bt140.2.2.2.2.1 bt140.2.2.2.2.2.1 bt140.2.2.2.2.2.2.1 bt140.2.2.2.2.2.2.2.1 bt140.2.2.2.2.2.2.2.2.1 bt140.2.2.2.2.2.2.2.2.2.1 bt140.2.2.2.2.2.2.2.2.2.2.1 bt140.2.2.2.2.2.2.2.2.2.2.2.1 bt140.2.2.2.2.2.2.2.2.2.2.2.2.1).bind fun t155 => (if t155.toList = s.toList then ((contangolaw12_goes.f k).bind fun t156 => (some t156)) else (none))) else ((contangolaw12_goes.f k).bind fun t157 => (some t157)))) true := by
  refine Ev_bind (tparse_f s) ?_
  by_cases c : (parseT s).2 = 0
  · simp only [if_pos (show (tupE (parseT s).1 (parseT s).2).2.2.2.2.2.2.2.2.2.2.2.2.2 = 0 from c)]
    refine Ev_bind (print_back c) ?_
    simp only [if_true]
    exact Ev_id goes12
  · simp only [if_neg (show ¬ (tupE (parseT s).1 (parseT s).2).2.2.2.2.2.2.2.2.2.2.2.2.2 = 0 from c)]
    exact Ev_id goes12
theorem TradeBack : ∀ (l0 : List (S27)) (x1 : S27) (a2 : ByteArray), (l0.length ≤ maxLen ∧ l0.length * 144 ≤ 140737488351232 ∧ ∀ x ∈ l0, ok27 x) → ok27 x1 → a2.size ≤ 140737488351232 → ∃ k, X.contangolaw12_TradeBack.f k l0 x1.f0 x1.f1 x1.f2 x1.f3.f0 x1.f3.f1 x1.f3.f2 x1.f3.f3 x1.f4 x1.f5 x1.f6.f0 x1.f6.f1 x1.f7.f0 x1.f7.f1 a2 = some true := by
  intro l t s h0 h1 h2
  have hl : l.length ≤ 977343669120 := by have := h0.2.1; omega
  refine Ev.rounds ?_
  unfold contangolaw12_TradeBack.f
  rw [add_f t l]
  simp only [Option.bind_some]
  by_cases c : (addT t l).2 = 0
  case neg =>
    simp only [if_neg c]
    exact back_rest s
  simp only [if_pos c]
  have ha := addT_eq t l
  by_cases c1 : 1024 ≤ l.length
  · rw [if_pos c1] at ha; rw [ha] at c; exact absurd c (by decide)
  rw [if_neg c1] at ha
  by_cases c2 : (fndF t.f0 l).2 = true
  · rw [if_pos c2] at ha; rw [ha] at c; exact absurd c (by decide)
  rw [if_neg c2] at ha
  obtain ⟨b1, b2⟩ := ins_back t l (by simpa using c2)
  have e1 : (addT t l).1 = insF t l := by rw [ha]
  have hb : bstT t.f0 (insF t l) = (l, t, 0) := by rw [bstT_eq, b1, if_pos rfl, b2]
  rw [e1, find_f t.f0 (insF t l), b1, bust_f t.f0 (insF t l) (by rw [insF_len]; omega), hb]
  simp only [Option.bind_some]
  have hw : wrap64 ((l.length : Int) + 1) = ((insF t l).length : Int) := by rw [insF_len, w_id (by omega) (by omega)]; omega
  have j0 : ∀ b, b = false → Ev (fun k => contangolaw12_TradeBack.j0 k s b) true := by
    rintro b rfl
    refine Ev_succ ?_
    simp only [contangolaw12_TradeBack.j0, Bool.false_eq_true, if_false]
    exact back_rest s
  simp only [tupF, tupB, tupE, beq_self_eq_true, Bool.not_true, Bool.or_self, Bool.false_eq_true, if_false, if_true]
  refine Ev_bind (sameT_f l hl) ?_
  simp only [if_true, hw]
  exact j0 _ (by simp)
end Go.Proofs.YthpmmofleddpnaaDoor.Pure
end
