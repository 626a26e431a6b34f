/- For JuniorOrders: contracts, and facts on lists and numbers, that it uses (part 3). -/
import Derived.ChangeArms
import Derived.Deep.Slices
import Derived.Laws.BitsLemmas
import Derived.Laws.Strings
import Derived.SizedLaws
import Derived.Test.YtokijibpdnepiaaJuniorOrdersc2
import Derived.WideShapes
section
namespace Go.Proofs.Ytokijibpdnepiaa.X
open Go.RowKit Go.Proofs.YtokijibpdnepiaaW.PrintWords Go.Proofs.YtokijibpdnepiaaW.PrintLast Go.Proofs.YtokijibpdnepiaaW.PrintMore
attribute [local go_sem] max2_int min2_int max_two min_two max_three min_three max_four min_four
set_option linter.unusedVariables false
set_option linter.unusedSimpArgs false
def contangolaw46_JuniorOrders.f (k : Nat) (l0 : List ByteArray) (l1 : List Int) : Option (Bool) := (junior_Order.f k l0 l1).bind fun bt101 => ((contangoref46_Order.f k l0 l1).bind fun bt105 => ((contangoref46_Ints.f k bt101.1 bt105.1).bind fun t109 => (if t109 = true then (if bt101.2 = bt105.2 then ((contangolaw46_goes.f k).bind fun t110 => (some t110)) else (none)) else (none))))
set_option maxHeartbeats 8000000 in
set_option maxRecDepth 100000 in
theorem contangolaw46_JuniorOrders.calls (k : Nat) (A0 : Option Addr) (c0 : Nat) (l0 : List ByteArray) (A1 : Option Addr) (c1 : Nat) (l1 : List Int) (r : Bool) (w : World) (hr0 : Kd.C Kd.string w A0 l0.length l0) (hc0 : l0.length ≤ c0) (hr1 : Kd.C (Kd.int .i64) w A1 l1.length l1) (hc1 : l1.length ≤ c1) (h : contangolaw46_JuniorOrders.f k l0 l1 = some r) :
    Calls Try.prog 9 #[.slice A0 l0.length c0, .slice A1 l1.length c1] w fun e w' => e = .returned (.bool r) ∧ Below w.heap.size w w' := by
  have HR0 := Aside0.mk hr0
  have HC0 := Aside0.mk hc0
  clear hr0 hc0
  have HR1 := Aside0.mk hr1
  have HC1 := Aside0.mk hc1
  clear hr1 hc1
  have HB := Aside0.mk (Below.refl w.heap.size w)
  have H : ((junior_Order.f k l0 l1).bind fun bt101 => ((contangoref46_Order.f k l0 l1).bind fun bt105 => ((contangoref46_Ints.f k bt101.1 bt105.1).bind fun t109 => (if t109 = true then (if bt101.2 = bt105.2 then ((contangolaw46_goes.f k).bind fun t110 => (some t110)) else (none)) else (none))))) = some r := h
  clear h
  replace H := Option.bind_eq_some_iff.mp H
  obtain ⟨⟨t101, t102⟩, A30, H⟩ := H
  replace H : ((contangoref46_Order.f k l0 l1).bind fun bt105 => ((contangoref46_Ints.f k t101 bt105.1).bind fun t109 => (if t109 = true then (if t102 = bt105.2 then ((contangolaw46_goes.f k).bind fun t110 => (some t110)) else (none)) else (none)))) = some r := H
  have A3 := Aside0.mk A30
  clear A30
  replace H := Option.bind_eq_some_iff.mp H
  obtain ⟨⟨t105, t106⟩, A40, H⟩ := H
  replace H : ((contangoref46_Ints.f k t101 t105).bind fun t109 => (if t109 = true then (if t102 = t106 then ((contangolaw46_goes.f k).bind fun t110 => (some t110)) else (none)) else (none))) = some r := H
  have A4 := Aside0.mk A40
  clear A40
  replace H := Option.bind_eq_some_iff.mp H
  obtain ⟨t109, A50, H⟩ := H
  replace H : (if t109 = true then (if t102 = t106 then ((contangolaw46_goes.f k).bind fun t110 => (some t110)) else (none)) else (none)) = some r := H
  have A5 := Aside0.mk A50
  clear A50
  by_cases c6 : t109 = true
  · subst c6
    have H1 : (if t102 = t106 then ((contangolaw46_goes.f k).bind fun t110 => (some t110)) else (none)) = some r := by rw [if_pos rfl] at H; exact H
    clear H
    have H := H1
    clear H1
    by_cases c7 : t102 = t106
    · rw [if_pos c7] at H
      have c7b0 : (t102 == t106) = true := beq_iff_eq.mpr c7
      have c7b1 : (t102 != t106) = false := bne_eq_false_iff_eq.mpr c7
      clear c7
      replace H := Option.bind_eq_some_iff.mp H
      obtain ⟨t110, A80, H⟩ := H
      replace H : (some t110) = some r := H
      have A8 := Aside0.mk A80
      clear A80
      obtain rfl := Option.some.inj H
      go_enter Try.func9, Try.ntmps9
      go_wp2_with (first | ((with_reducible refine gate_callee (f := 35) rfl ?_); refine goesL_ (some 12) rfl rfl Try.func35 (by kernel_rfl) rfl #[.slice A0 l0.length c0, .slice A1 l1.length c1] rfl (by (try simp only [List.map_toArray, List.map_cons, List.map_nil]); first | done | rfl | (simp only [List.length_drop, List.length_take]; rfl)) ?_; (with_reducible refine (junior_Order.calls k _ _ l0 _ _ l1 t101 t102 _ ?side1 ?side2 ?side3 ?side4 A3.out).mono ?_); (case side1 => repeat (first | exact HR0.out | (with_reducible refine Kd.C_alloc ?_ _) | (with_reducible refine Kd.C_drewN ?_ _) | (with_reducible refine Kd.C_drew ?_))); (case side2 => exact HC0.out); (case side3 => repeat (first | exact HR1.out | (with_reducible refine Kd.C_alloc ?_ _) | (with_reducible refine Kd.C_drewN ?_ _) | (with_reducible refine Kd.C_drew ?_))); (case side4 => exact HC1.out); rintro e w9 ⟨v103, rfl, ho0, hb⟩; refine ⟨_, rfl, ?_⟩; have n0_ := Aside0.mk (Kd.R_lower ho0 (below_size (by repeat (first | (with_reducible first | exact HB.out | apply below_alloc | apply pw_below_drewN | apply below_drew1) | exact HB.out)))); have n1_ := Aside0.mk (below_step (by repeat (first | (with_reducible first | exact HB.out | apply below_alloc | apply pw_below_drewN | apply below_drew1) | exact HB.out)) hb); clear HB; have HO104 := n0_; have HB := n1_; clear n0_ n1_; (try clear hb); (try clear hb2); (try clear hk); (try clear hi); (try clear ho0)) | ((with_reducible refine gate_callee (f := 36) rfl ?_); refine goesL_ (some 18) rfl rfl Try.func36 (by kernel_rfl) rfl #[.slice A0 l0.length c0, .slice A1 l1.length c1] rfl (by (try simp only [List.map_toArray, List.map_cons, List.map_nil]); first | done | rfl | (simp only [List.length_drop, List.length_take]; rfl)) ?_; (with_reducible refine (contangoref46_Order.calls k _ _ l0 _ _ l1 t105 t106 _ ?side1 ?side2 ?side3 ?side4 A4.out).mono ?_); (case side1 => repeat (first | exact (Kd.C_below HR0.out HB.out) | (with_reducible refine Kd.C_alloc ?_ _) | (with_reducible refine Kd.C_drewN ?_ _) | (with_reducible refine Kd.C_drew ?_))); (case side2 => exact HC0.out); (case side3 => repeat (first | exact (Kd.C_below HR1.out HB.out) | (with_reducible refine Kd.C_alloc ?_ _) | (with_reducible refine Kd.C_drewN ?_ _) | (with_reducible refine Kd.C_drew ?_))); (case side4 => exact HC1.out); rintro e w10 ⟨v107, rfl, ho0, hb⟩; refine ⟨_, rfl, ?_⟩; have n0_ := Aside0.mk (Kd.R_elder' (by (with_reducible repeat (first | apply Kd.R_alloc | apply Kd.R_drewN | apply Kd.R_drew)); exact HO104.out) (Kd.R_base ho0) hb); have n1_ := Aside0.mk (Kd.R_lower (Kd.R_new' ho0 (Kd.R_lt (by (with_reducible repeat (first | apply Kd.R_alloc | apply Kd.R_drewN | apply Kd.R_drew)); exact HO104.out))) (below_size (by repeat (first | (with_reducible first | exact HB.out | apply below_alloc | apply pw_below_drewN | apply below_drew1) | exact HB.out)))); have n2_ := Aside0.mk (below_step (by repeat (first | (with_reducible first | exact HB.out | apply below_alloc | apply pw_below_drewN | apply below_drew1) | exact HB.out)) hb); clear HO104; clear HB; have HO104 := n0_; have HO108 := n1_; have HB := n2_; clear n0_ n1_ n2_; (try clear hb); (try clear hb2); (try clear hk); (try clear hi); (try clear ho0); obtain ⟨Ao11, co11, eo11⟩ := Kd.R_slice HO104.out; subst eo11; obtain ⟨Ao12, co12, eo12⟩ := Kd.R_slice HO108.out; subst eo12) | ((with_reducible refine gate_callee (f := 34) rfl ?_); refine goesL_ (some 23) rfl rfl Try.func34 (by kernel_rfl) rfl #[.slice Ao11 t101.length co11, .slice Ao12 t105.length co12] rfl (by (try simp only [List.map_toArray, List.map_cons, List.map_nil]); first | done | rfl | (simp only [List.length_drop, List.length_take]; rfl)) ?_; (with_reducible refine (contangoref46_Ints.calls k _ _ t101 _ _ t105 true _ ?side1 ?side2 ?side3 ?side4 A5.out).mono ?_); (case side1 => repeat (first | exact (Kd.R_reads' HO104.out).2.2 | (with_reducible refine Kd.C_alloc ?_ _) | (with_reducible refine Kd.C_drewN ?_ _) | (with_reducible refine Kd.C_drew ?_))); (case side2 => exact (Kd.R_reads' HO104.out).2.1); (case side3 => repeat (first | exact (Kd.R_reads' HO108.out).2.2 | (with_reducible refine Kd.C_alloc ?_ _) | (with_reducible refine Kd.C_drewN ?_ _) | (with_reducible refine Kd.C_drew ?_))); (case side4 => exact (Kd.R_reads' HO108.out).2.1); rintro e w' ⟨rfl, ⟨nd, rfl⟩⟩; refine ⟨_, rfl, ?_⟩) | (go_at_call 29; (with_reducible refine (contangolaw46_goes.calls k  t110 _ A8.out).mono ?_); rintro e w13 ⟨rfl, hb⟩; have n0_ := Aside0.mk (Kd.R_below (by (with_reducible repeat (first | apply Kd.R_alloc | apply Kd.R_drewN | apply Kd.R_drew)); exact HO104.out) hb); have n1_ := Aside0.mk (Kd.R_below (by (with_reducible repeat (first | apply Kd.R_alloc | apply Kd.R_drewN | apply Kd.R_drew)); exact HO108.out) hb); have n2_ := Aside0.mk (below_step (by repeat (first | (with_reducible first | exact HB.out | apply below_alloc | apply pw_below_drewN | apply below_drew1) | exact HB.out)) hb); clear HO104; clear HO108; clear HB; have HO104 := n0_; have HO108 := n1_; have HB := n2_; clear n0_ n1_ n2_; (try clear hb); (try clear hb2); (try clear hk); (try clear hi)))
      go_ret
      exact ⟨by first | rfl | (simp [errW_none, errW_some] <;> rfl) | (simp [*, errW_none, errW_some] <;> rfl), by repeat (first | (with_reducible first | exact HB.out | apply below_alloc | apply pw_below_drewN | apply below_drew1) | exact HB.out)⟩
    · rw [if_neg c7] at H
      exact absurd H (by simp)
  · replace c6 := Bool.eq_false_iff.mpr c6
    subst c6
    have H1 : (none) = some r := by rw [if_neg (show ¬ (false = true) by decide)] at H; exact H
    clear H
    have H := H1
    clear H1
    exact absurd H (by simp)
end Go.Proofs.Ytokijibpdnepiaa.X
end
section
namespace Go.Proofs.Ytokijibpdnepiaa.Opn
open Go.ChangeShapes Go.WideShapes Go.Proofs.YtokijibpdnepiaaW.PrintWords
set_option linter.unusedVariables false
set_option linter.unusedSimpArgs false
structure Opens (P : Program) (t : TypeId) {α : Type} (d : Kd α) (Ok : α → Prop) : Prop where
  sz : d.sz = P.cellsOf t
  opens : ∀ {H : Type} {enc : TypeId × Value → H} {w : World} {base : Nat} {spare : Nat → Bool} {held : Bool} {fuel : Nat} {cs : List Value} {x : DataW H × List MemPlace},
    DataW.trod enc P w base spare held fuel t cs = some x → (∀ n ∈ x.1.weights P t, n ≤ reachBytes) → ∃ v, d.K w v cs ∧ Ok v
theorem opens_int {P : Program} {t : TypeId} {k : IntKind} (ht : P.underlying t = some (.int k)) (hc : P.cellsOf t = 1) : Opens P t (Kd.int k) (fun n => (Lit.int k n).wf = true) := by
  refine ⟨hc.symm, fun h _ => ?_⟩
  obtain ⟨n, rfl, _, hw⟩ := DataW.trod_int ht h
  exact ⟨n, rfl, hw⟩
theorem opens_string {P : Program} {t : TypeId} (ht : P.underlying t = some .string) (hc : P.cellsOf t = 1) : Opens P t Kd.string (fun s => s.size ≤ 140737488351232) := by
  refine ⟨hc.symm, fun h hw => ?_⟩
  obtain ⟨s, rfl, rfl, hs⟩ := DataW.trod_string ht h
  refine ⟨s, rfl, ?_⟩
  have := hw s.data.toList.length (by simp [DataW.weights])
  rw [Array.length_toList] at this
  exact this
theorem weights_all {H : Type} {P : Program} {e : TypeId} : ∀ {ds : List (DataW H)} {j : Nat} {d : DataW H}, ds[j]? = some d → ∀ n ∈ d.weights P e, n ∈ DataW.weightsAll P e ds
  | d0 :: ds, 0, d, hd, n, hn => by
    simp only [List.getElem?_cons_zero, Option.some.injEq] at hd
    subst hd
    simp only [DataW.weightsAll, List.mem_append]
    exact Or.inl hn
  | d0 :: ds, j + 1, d, hd, n, hn => by
    simp only [List.getElem?_cons_succ] at hd
    simp only [DataW.weightsAll, List.mem_append]
    exact Or.inr (weights_all hd n hn)
  | [], _, _, hd, _, _ => by simp at hd
theorem list_of {α : Type} {n : Nat} {p : Nat → α → Prop} (h : ∀ i, i < n → ∃ x, p i x) : ∃ l : List α, l.length = n ∧ ∀ i x, l[i]? = some x → p i x := by
  induction n with
  | zero => exact ⟨[], rfl, fun i x hx => by simp at hx⟩
  | succ n ih =>
    obtain ⟨l, hl, hp⟩ := ih (fun i hi => h i (by omega))
    obtain ⟨x, hx⟩ := h n (by omega)
    refine ⟨l ++ [x], by simp [hl], fun i y hy => ?_⟩
    by_cases hi : i < l.length
    · rw [List.getElem?_append_left hi] at hy
      exact hp i y hy
    · rw [List.getElem?_append_right (by omega)] at hy
      have : i - l.length = 0 := by
        cases hk : i - l.length with
        | zero => rfl
        | succ m => rw [hk] at hy; simp at hy
      rw [this] at hy
      simp at hy
      subst hy
      have : i = n := by omega
      subst this
      exact hx
theorem opens_slice {P : Program} {t e : TypeId} {α : Type} {d : Kd α} {Ok : α → Prop} (h : Opens P e d Ok) (ht : P.underlying t = some (.slice e)) (hc : P.cellsOf t = 1) {B : Nat} (hB : P.bytesOf e = B) :
    Opens P t (Kd.slice e d) (fun l => l.length ≤ maxLen ∧ l.length * B ≤ 140737488351232 ∧ ∀ x ∈ l, Ok x) := by
  subst hB
  refine ⟨hc.symm, fun {H enc w base spare held fuel cs x} hx hw => ?_⟩
  rcases DataW.trod_slice ht hx with ⟨rfl, rfl⟩ | ⟨a, len, cap, elems, rest, n, _, rfl, rfl, hb, hl, hm, hlen, hel, hsp, hns⟩
  · exact ⟨[], ⟨none, 0, rfl, Nat.le_refl _, Kd.C_nil _ _⟩, by simp⟩
  simp only [DataW.weights, ht] at hw
  have hw1 : (elems.length + rest.length) * P.bytesOf e ≤ reachBytes := by
    have := hw ((elems.length + rest.length) * P.bytesOf e) (by simp)
    exact this
  have hone : ∀ i, i < len → ∃ v : α, ∃ c, w.cells? base (a.add (i * P.cellsOf e)) (P.cellsOf e) = some c ∧ d.K w v c ∧ Ok v := by
    intro i hi
    have h1 := hel i hi
    rw [List.getElem?_eq_getElem (by omega)] at h1
    obtain ⟨c, hc1, hc2⟩ := Option.bind_eq_some_iff.1 h1
    obtain ⟨v, hv, hok⟩ := h.opens hc2 (fun n hn => hw n (by
      simp only [List.mem_cons, List.mem_append]
      right; left
      refine weights_all (j := i) ?_ n hn
      rw [List.getElem?_map, List.getElem?_eq_getElem (by omega)]
      rfl))
    exact ⟨v, c, hc1, hv, hok⟩
  obtain ⟨l, hl1, hl2⟩ := list_of hone
  subst hl1
  refine ⟨l, ⟨some a, cap, rfl, hl, rfl, ?_, fun _ => ⟨a, rfl, fun j p hj => ?_⟩⟩, ?_, ?_, ?_⟩
  · unfold maxLen at hm; omega
  · obtain ⟨c, hc1, hc2, _⟩ := hl2 j p hj
    obtain ⟨_, hlen2, hcell⟩ := World.cells?_some hc1
    refine ⟨c, by rw [h.sz]; exact hlen2, hc2, fun i u hu => ?_⟩
    have hi : i < P.cellsOf e := by
      have := (List.getElem?_eq_some_iff.1 hu).1
      omega
    have := hcell i hi
    rw [hu, ← Deep.add_add, h.sz] at *
    exact this
  · exact Nat.le_trans hl hm
  · have h2 : l.length * P.bytesOf e ≤ (elems.length + rest.length) * P.bytesOf e := Nat.mul_le_mul_right _ (by omega)
    exact Nat.le_trans h2 hw1
  · intro x hx
    obtain ⟨j, hj⟩ := List.getElem?_of_mem hx
    obtain ⟨c, _, _, ho⟩ := hl2 j x hj
    exact ho
structure OpensF (P : Program) (fs : List Field) (off : Nat) {α : Type} (d : Kd α) (Ok : α → Prop) : Prop where
  opens : ∀ {H : Type} {enc : TypeId × Value → H} {w : World} {base : Nat} {spare : Nat → Bool} {held : Bool} {n : Nat} {cs : List Value} {xs : List (DataW H × List MemPlace)},
    xs.length = fs.length → (∀ (i : Nat) (f : Field), fs[i]? = some f → DataW.trod enc P w base spare held n f.type ((cs.drop f.offset).take (P.cellsOf f.type)) = xs[i]?) →
    (∀ m ∈ DataW.weightsEach P (fs.map (·.type)) (xs.map (·.1)), m ≤ reachBytes) → ∃ v, d.K w v ((cs.drop off).take d.sz) ∧ Ok v
end Go.Proofs.Ytokijibpdnepiaa.Opn
end
section
namespace Go.Proofs.Ytokijibpdnepiaa.P
open Go.RowKit Go.Proofs.YtokijibpdnepiaaW.PrintWords Go.Proofs.YtokijibpdnepiaaW.PrintMore Go.Proofs.Ytokijibpdnepiaa.X
theorem Ev_succ {α : Type} {g : Nat → Option α} {r : α} (h : Ev (fun k => g (k + 1)) r) : Ev g r := Ev.step (fun _ => rfl) h
theorem Ev_all {α : Type} {g : Nat → Option α} {r : α} (h : ∀ k, g k = some r) : Ev g r := ⟨0, fun k _ => h k⟩
theorem Ev_bind {α β : Type} {g : Nat → Option α} {f : Nat → α → Option β} {a : α} {r : β} (h : Ev g a) (k : Ev (fun n => f n a) r) : Ev (fun n => (g n).bind (f n)) r := Ev.bind h k
theorem Ev_id {α : Type} {g : Nat → Option α} {r : α} (h : Ev g r) : Ev (fun n => (g n).bind fun x => some x) r := Ev.bind h (Ev.now _)
theorem w_id {x : Int} (h1 : -9223372036854775808 ≤ x) (h2 : x ≤ 9223372036854775807) : wrap64 x = x := by unfold wrap64; omega
theorem w_succ {i n : Nat} (h : i < n) (hn : n ≤ 9223372036854775807) : wrap64 ((i : Int) + 1) = ((i + 1 : Nat) : Int) := by rw [w_id (by omega) (by omega)]; omega
theorem rd_nat (xs : List Int) (i : Nat) (h : i < xs.length) : rd xs (i : Int) = xs[i] := by simp [rd, h]
theorem drop_cons {α : Type} (l : List α) (i : Nat) (h : i < l.length) : l.drop i = l[i] :: l.drop (i + 1) := (List.getElem_cons_drop h).symm
end Go.Proofs.Ytokijibpdnepiaa.P
end
section
namespace Go.Proofs.Ytokijibpdnepiaa.P
set_option linter.unusedVariables false
set_option linter.unusedSimpArgs false
open Go.RowKit Go.Proofs.YtokijibpdnepiaaW.PrintWords Go.Proofs.YtokijibpdnepiaaW.PrintMore Go.Proofs.Ytokijibpdnepiaa.X
def selFrom (c : Int) : Nat → List Int → List Int
  | _, [] => []
  | i, x :: t => if x = c then (i : Int) :: selFrom c (i + 1) t else selFrom c (i + 1) t
theorem selFrom_append (c : Int) : ∀ (A B : List Int) (i : Nat), selFrom c i (A ++ B) = selFrom c i A ++ selFrom c (i + A.length) B
  | [], B, i => by simp [selFrom]
  | a :: A, B, i => by
    simp only [List.cons_append, selFrom, selFrom_append c A B (i + 1), List.length_cons]
    rw [show i + 1 + A.length = i + (A.length + 1) by omega]
    split <;> simp
theorem selFrom_mem (c : Int) : ∀ (A : List Int) (i : Nat) (x : Int), x ∈ selFrom c i A → (i : Int) ≤ x ∧ x < (i : Int) + A.length ∧ rd A (x - i) = c
  | [], i, x, h => by simp [selFrom] at h
  | a :: A, i, x, h => by
    rw [selFrom] at h
    have go : x ∈ selFrom c (i + 1) A → (i : Int) ≤ x ∧ x < (i : Int) + (a :: A).length ∧ rd (a :: A) (x - i) = c := by
      intro h
      obtain ⟨h1, h2, h3⟩ := selFrom_mem c A (i + 1) x h
      refine ⟨by omega, by simp; omega, ?_⟩
      obtain ⟨d, hd⟩ : ∃ d : Nat, x - ((i + 1 : Nat) : Int) = (d : Int) := ⟨(x - ((i + 1 : Nat) : Int)).toNat, by omega⟩
      rw [hd] at h3
      rw [show x - (i : Int) = ((d + 1 : Nat) : Int) by omega]
      have hdA : d < A.length := by omega
      rw [rd_nat _ _ hdA] at h3
      rw [rd_nat _ _ (by simp; omega)]
      simpa using h3
    by_cases e : a = c
    · rw [if_pos e] at h
      rcases List.mem_cons.1 h with h | h
      · refine ⟨by omega, by simp; omega, ?_⟩
        rw [h, Int.sub_self, show (0 : Int) = ((0 : Nat) : Int) from rfl, rd_nat _ _ (by simp)]
        simpa using e
      · exact go h
    · rw [if_neg e] at h; exact go h
theorem selFrom_asc (c : Int) : ∀ (A : List Int) (i : Nat), (selFrom c i A).Pairwise (· < ·)
  | [], i => by simp [selFrom]
  | a :: A, i => by
    rw [selFrom]
    by_cases e : a = c
    · rw [if_pos e]
      refine List.pairwise_cons.2 ⟨fun x hx => ?_, selFrom_asc c A (i + 1)⟩
      have := (selFrom_mem c A (i + 1) x hx).1
      omega
    · rw [if_neg e]; exact selFrom_asc c A (i + 1)
def byClass (l : List Int) : List Int := selFrom 1 0 l ++ (selFrom 2 0 l ++ selFrom 3 0 l)
def order (names : List ByteArray) (classes : List Int) : List Int × Int := if classes.length ≠ names.length then ([], 8) else if ordBad classes = true then ([], 2) else (byClass classes, 0)
theorem ordUp_filter (l : List Int) (c : Int) : ∀ n, n ≤ l.length → (ordUp n).filter (fun x => ordKey l x == c) = selFrom c 0 (l.take n)
  | 0, _ => by simp [ordUp, selFrom]
  | n + 1, h => by
    rw [ordUp, List.filter_append, ordUp_filter l c n (by omega), List.take_succ_eq_append_getElem (show n < l.length by omega), selFrom_append]
    congr 1
    have hk : ordKey l (n : Int) = l[n] := by unfold ordKey; exact rd_nat l n (by omega)
    have hlen : (l.take n).length = n := by rw [List.length_take]; omega
    rw [hlen, Nat.zero_add, selFrom, selFrom]
    by_cases e : l[n] = c
    · rw [if_pos e, List.filter_cons_of_pos (by rw [hk]; simpa using e)]; simp
    · rw [if_neg e, List.filter_cons_of_neg (by rw [hk]; simpa using e)]; simp
theorem ordUp_sel (l : List Int) (c : Int) : (ordUp l.length).filter (fun x => ordKey l x == c) = selFrom c 0 l := by
  rw [ordUp_filter l c l.length (Nat.le_refl _), List.take_length]
theorem filter_filter_eq {α : Type} (key : α → Int) (X : List α) (a b : Int) : (X.filter (fun x => key x == a)).filter (fun x => key x == b) = if a = b then X.filter (fun x => key x == a) else [] := by
  rw [List.filter_filter]
  by_cases e : a = b
  · subst e
    rw [if_pos rfl]
    congr 1
    funext x
    simp
  · rw [if_neg e]
    refine List.filter_eq_nil_iff.2 fun x _ => ?_
    simp; omega
theorem three_perm {α : Type} (key : α → Int) : ∀ (X : List α), (∀ x ∈ X, key x = 1 ∨ key x = 2 ∨ key x = 3) → X.Perm (X.filter (fun x => key x == 1) ++ (X.filter (fun x => key x == 2) ++ X.filter (fun x => key x == 3)))
  | [], _ => by simp
  | x :: X, h => by
    have ih := three_perm key X (fun y hy => h y (by simp [hy]))
    rcases h x (by simp) with e | e | e
    · rw [List.filter_cons_of_pos (by simp [e]), List.filter_cons_of_neg (by simp [e]), List.filter_cons_of_neg (by simp [e])]
      exact (List.perm_cons x).2 ih
    · rw [List.filter_cons_of_neg (by simp [e]), List.filter_cons_of_pos (by simp [e]), List.filter_cons_of_neg (by simp [e])]
      exact ((List.perm_cons x).2 ih).trans List.perm_middle.symm
    · rw [List.filter_cons_of_neg (by simp [e]), List.filter_cons_of_neg (by simp [e]), List.filter_cons_of_pos (by simp [e]), ← List.append_assoc]
      rw [← List.append_assoc] at ih
      exact ((List.perm_cons x).2 ih).trans List.perm_middle.symm
theorem ordKey_class (l : List Int) (hb : ordBad l = false) (x : Int) (hx : x ∈ ordUp l.length) : ordKey l x = 1 ∨ ordKey l x = 2 ∨ ordKey l x = 3 := by
  obtain ⟨h0, h1⟩ := ordUp_mem _ x hx
  obtain ⟨d, rfl⟩ : ∃ d : Nat, x = (d : Int) := ⟨x.toNat, by omega⟩
  have hd : d < l.length := by omega
  have := ordBad_all l hb l[d] (List.getElem_mem hd)
  unfold ordKey
  rw [rd_nat l d hd]
  omega
theorem sel_key (l : List Int) (c x : Int) (h : x ∈ selFrom c 0 l) : ordKey l x = c := by
  have := (selFrom_mem c l 0 x h).2.2
  simpa [ordKey] using this
theorem stab_order (l : List Int) (hb : ordBad l = false) : Srt.stabF (0 : Int) (Srt.klt (ordKey l)) (ordUp l.length) = byClass l := by
  refine Srt.stabF_eq (0 : Int) _ _ ?_ ⟨?_, fun n => ?_⟩
  · have one : ∀ c, (selFrom c 0 l).Pairwise (Srt.Kle (ordKey l)) := fun c => by
      refine (selFrom_asc c l 0).imp_of_mem fun {a b} ha hb _ => ?_
      unfold Srt.Kle
      rw [sel_key l c a ha, sel_key l c b hb]
      exact Int.le_refl _
    unfold byClass
    refine List.pairwise_append.2 ⟨one 1, List.pairwise_append.2 ⟨one 2, one 3, fun a ha b hb => ?_⟩, fun a ha b hb => ?_⟩
    · unfold Srt.Kle; rw [sel_key l 2 a ha, sel_key l 3 b hb]; decide
    · unfold Srt.Kle
      rw [sel_key l 1 a ha]
      rcases List.mem_append.1 hb with hb | hb
      · rw [sel_key l 2 b hb]; decide
      · rw [sel_key l 3 b hb]; decide
  · have := three_perm (ordKey l) (ordUp l.length) (ordKey_class l hb)
    rw [ordUp_sel, ordUp_sel, ordUp_sel] at this
    exact this
  · have hnot : n ≠ 1 → n ≠ 2 → n ≠ 3 → (ordUp l.length).filter (fun x => ordKey l x == n) = [] := fun h1 h2 h3 => by
      refine List.filter_eq_nil_iff.2 fun x hx => ?_
      have := ordKey_class l hb x hx
      simp; omega
    unfold byClass
    rw [← ordUp_sel l 1, ← ordUp_sel l 2, ← ordUp_sel l 3, List.filter_append, List.filter_append, filter_filter_eq, filter_filter_eq, filter_filter_eq]
    by_cases e1 : n = 1
    · subst e1; simp
    by_cases e2 : n = 2
    · subst e2; simp
    by_cases e3 : n = 3
    · subst e3; simp
    rw [if_neg (fun h => e1 h.symm), if_neg (fun h => e2 h.symm), if_neg (fun h => e3 h.symm), hnot e1 e2 e3]
    rfl
theorem order_f (names : List ByteArray) (classes : List Int) (hn : classes.length < 17592186044416) (k : Nat) : junior_Order.f k names classes = some (order names classes) := by
  unfold junior_Order.f order
  by_cases h : classes.length ≠ names.length
  · rw [if_pos h, if_pos h]
  rw [if_neg h, if_neg h, if_pos hn]
  by_cases h2 : ordBad classes = true
  · rw [if_pos h2, if_pos h2]
  rw [if_neg h2, if_neg h2, stab_order classes (by simpa using h2)]
theorem byClass_len (l : List Int) (hb : ordBad l = false) : (byClass l).length = l.length := by
  have := (Srt.stabF_spec (key := ordKey l) (0 : Int) (ordUp l.length)).2.1.length_eq
  rw [stab_order l hb, ordUp_length] at this
  exact this.symm
theorem orderR2 (cl : List Int) (hl : cl.length ≤ 4611686018427387904) (c : Int) (r : List Int × Int) : ∀ (d i : Nat) (acc : List Int), i + d = cl.length → acc.length + (selFrom c i (cl.drop i)).length ≤ 17592186044415 → Ev (fun k => contangoref46_Order.l1 k cl (acc ++ selFrom c i (cl.drop i)) (wrap64 (c + 1))) r → Ev (fun k => contangoref46_Order.l2 k cl acc c i) r
  | 0, i, acc, hd, ha, h => by
    rw [List.drop_of_length_le (by omega), selFrom, List.append_nil] at h
    refine Ev_succ ?_
    simp only [contangoref46_Order.l2, if_neg (show ¬ ((i : Int) < (cl.length : Int)) by omega)]
    exact h
  | d + 1, i, acc, hd, ha, h => by
    have hi : i < cl.length := by omega
    rw [drop_cons cl i hi, selFrom] at h ha
    refine Ev_succ ?_
    simp only [contangoref46_Order.l2, if_pos (show (i : Int) < (cl.length : Int) by omega), if_pos (show 0 ≤ (i : Int) by omega), rd_nat cl i hi, w_succ hi (by omega)]
    by_cases e : cl[i] = c
    · rw [if_pos e] at h ha
      rw [List.length_cons] at ha
      simp only [if_pos e, if_pos (show acc.length < 17592186044416 by omega)]
      exact orderR2 cl hl c r d (i + 1) _ (by omega) (by simp; omega) (by simpa using h)
    · rw [if_neg e] at h ha
      simp only [if_neg e]
      exact orderR2 cl hl c r d (i + 1) _ (by omega) ha h
theorem orderR1 (cl : List Int) (hl : cl.length ≤ 4611686018427387904) (hb : (byClass cl).length ≤ 17592186044415) : Ev (fun k => contangoref46_Order.l1 k cl [] 1) (byClass cl, 0) := by
  have step : ∀ (c : Int) (acc : List Int) (r : List Int × Int), c ≤ 3 → acc.length + (selFrom c 0 cl).length ≤ 17592186044415 → Ev (fun k => contangoref46_Order.l1 k cl (acc ++ selFrom c 0 cl) (wrap64 (c + 1))) r → Ev (fun k => contangoref46_Order.l1 k cl acc c) r := by
    intro c acc r hc ha h
    refine Ev_succ ?_
    simp only [contangoref46_Order.l1, if_pos hc]
    exact orderR2 cl hl c r cl.length 0 acc (by omega) (by simpa using ha) (by simpa using h)
  unfold byClass at hb
  rw [List.length_append, List.length_append] at hb
  refine step 1 [] _ (by decide) (by simp; omega) ?_
  rw [show wrap64 (1 + 1) = 2 from w_id (by decide) (by decide)]
  refine step 2 _ _ (by decide) (by simp; omega) ?_
  rw [show wrap64 (2 + 1) = 3 from w_id (by decide) (by decide)]
  refine step 3 _ _ (by decide) (by simp; omega) ?_
  rw [show wrap64 (3 + 1) = 4 from w_id (by decide) (by decide)]
  refine Ev_succ ?_
  simp only [contangoref46_Order.l1, if_neg (show ¬ ((4 : Int) ≤ 3) by decide)]
  rw [List.nil_append, List.append_assoc]
  exact Ev.now _
theorem orderR0 (cl : List Int) (hl : cl.length ≤ 17592186044415) : ∀ (d i : Nat), i + d = cl.length → ordBad (cl.drop i) = ordBad cl → Ev (fun k => contangoref46_Order.l0 k cl i) (if ordBad cl = true then ([], 2) else (byClass cl, 0))
  | 0, i, hd, hb => by
    rw [List.drop_of_length_le (by omega), ordBad] at hb
    rw [← hb]
    refine Ev_succ ?_
    simp only [contangoref46_Order.l0, if_neg (show ¬ ((i : Int) < (cl.length : Int)) by omega), Bool.false_eq_true, if_false]
    exact orderR1 cl (by omega) (by rw [byClass_len cl hb.symm]; exact hl)
  | d + 1, i, hd, hb => by
    have hi : i < cl.length := by omega
    rw [drop_cons cl i hi, ordBad] at hb
    refine Ev_succ ?_
    simp only [contangoref46_Order.l0, if_pos (show (i : Int) < (cl.length : Int) by omega), if_pos (show 0 ≤ (i : Int) by omega), rd_nat cl i hi, w_succ hi (by omega)]
    by_cases e1 : cl[i] < 1
    · rw [if_pos e1] at hb
      simp only [if_pos e1, if_pos hb.symm]; exact Ev.now _
    · rw [if_neg e1] at hb
      by_cases e2 : 3 < cl[i]
      · rw [if_pos e2] at hb
        simp only [if_neg e1, if_pos (show cl[i] > 3 from e2), if_pos hb.symm]; exact Ev.now _
      · rw [if_neg e2] at hb
        simp only [if_neg e1, if_neg (show ¬ cl[i] > 3 from e2)]
        exact orderR0 cl hl d (i + 1) (by omega) hb
theorem orderR_f (names : List ByteArray) (cl : List Int) (hl : cl.length ≤ 17592186044415) : Ev (fun k => contangoref46_Order.f k names cl) (order names cl) := by
  unfold contangoref46_Order.f order
  by_cases h : cl.length ≠ names.length
  · simp only [if_pos h, if_neg (show ¬ ((names.length : Int) = (cl.length : Int)) by omega)]; exact Ev.now _
  · simp only [if_neg h, if_pos (show ((names.length : Int) = (cl.length : Int)) by omega)]
    exact orderR0 cl hl cl.length 0 (by omega) rfl
theorem order_len (names : List ByteArray) (cl : List Int) : (order names cl).1.length ≤ cl.length := by
  unfold order
  by_cases h : cl.length ≠ names.length
  · rw [if_pos h]; simp
  rw [if_neg h]
  by_cases h2 : ordBad cl = true
  · rw [if_pos h2]; simp
  rw [if_neg h2]
  exact Nat.le_of_eq (byClass_len cl (by simpa using h2))
theorem ints46 (a : List Int) (ha : a.length ≤ 4611686018427387904) : ∀ (d i : Nat), i + d = a.length → Ev (fun k => contangoref46_Ints.l0 k a a i) true
  | 0, i, hd => by
    refine Ev_succ ?_
    simp only [contangoref46_Ints.l0, if_neg (show ¬ ((i : Int) < (a.length : Int)) by omega)]
    exact Ev.now _
  | d + 1, i, hd => by
    have hi : i < a.length := by omega
    refine Ev_succ ?_
    simp only [contangoref46_Ints.l0, if_pos (show (i : Int) < (a.length : Int) by omega), if_pos (show 0 ≤ (i : Int) by omega), if_true, w_succ hi (by omega)]
    exact ints46 a ha d (i + 1) (by omega)
theorem ints46_f (a : List Int) (ha : a.length ≤ 4611686018427387904) : Ev (fun k => contangoref46_Ints.f k a a) true := by
  unfold contangoref46_Ints.f
  simp only [if_true]
  exact ints46 a ha a.length 0 (by omega)
end Go.Proofs.Ytokijibpdnepiaa.P
end
section
namespace Go.Proofs.Ytokijibpdnepiaa.P
open Go.RowKit Go.Proofs.YtokijibpdnepiaaW.PrintWords Go.Proofs.YtokijibpdnepiaaW.PrintMore Go.Proofs.Ytokijibpdnepiaa.X
set_option maxRecDepth 100000 in
theorem goes46 : Ev (fun k => contangolaw46_goes.f k) true := Ev.of (k := 40) (contangolaw46_goes.mono) (by decide +kernel)
end Go.Proofs.Ytokijibpdnepiaa.P
end
section
namespace Go.Proofs.Ytokijibpdnepiaa.Pure
set_option linter.unusedVariables false
set_option linter.unusedSimpArgs false
open Go.RowKit Go.Proofs.YtokijibpdnepiaaW.PrintWords Go.Proofs.YtokijibpdnepiaaW.PrintMore Go.Proofs.Ytokijibpdnepiaa.X Go.Proofs.Ytokijibpdnepiaa.P
theorem JuniorOrders : ∀ (l0 : List (ByteArray)) (l1 : List (Int)), (l0.length ≤ maxLen ∧ l0.length * 16 ≤ 140737488351232 ∧ ∀ x ∈ l0, x.size ≤ 140737488351232) → (l1.length ≤ maxLen ∧ l1.length * 8 ≤ 140737488351232 ∧ ∀ x ∈ l1, (Lit.int .i64 x).wf = true) → ∃ k, X.contangolaw46_JuniorOrders.f k l0 l1 = some true := by
  intro names cl hn hc
  apply Ev.rounds
  unfold contangolaw46_JuniorOrders.f
  have hl := hc.2.1
  have hlen := order_len names cl
  refine Ev_bind (Ev_all (order_f names cl (by omega))) ?_
  refine Ev_bind (orderR_f names cl (by omega)) ?_
  refine Ev_bind (ints46_f _ (by omega)) ?_
  simp only [if_true]
  exact Ev_id goes46
end Go.Proofs.Ytokijibpdnepiaa.Pure
end
