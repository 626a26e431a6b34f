/- For MarkMids: contracts, and facts on lists and numbers, that it uses (part 4). -/
import Derived.ChangeArms
import Derived.Deep.Slices
import Derived.Laws.Bits64b
import Derived.Laws.BitsLemmas
import Derived.Laws.Strings
import Derived.Lib.Mul64
import Derived.SizedLaws
import Derived.Test.YtocndpddghefhaaMarkMidsc3
import Derived.WideShapes
section
namespace Go.Proofs.Ytocndpddghefhaa.X
open Go.RowKit Go.Proofs.YtocndpddghefhaaW.PrintWords Go.Proofs.YtocndpddghefhaaW.PrintLast Go.Proofs.YtocndpddghefhaaW.PrintMore
attribute [local go_sem] max2_int min2_int max_two min_two max_three min_three max_four min_four
set_option linter.unusedVariables false
set_option linter.unusedSimpArgs false
def contangolaw18_MarkMids.f (k : Nat) (a0 : Int) (a1 : Int) (a2 : Int) : Option (Bool) := (mark_Mid.f k a0 a1 a2).bind fun bt101 => ((contangoref18_Mid.f k a0 a1 a2).bind fun bt103 => (if bt101.1 = bt103.1 then (if bt101.2 = bt103.2 then (if bt101.2 = 0 then (if a2 = 0 then (none) else (if (Int.tmod a0 a2) = 0 then (if (Int.tmod a1 a2) = 0 then (if bt101.1 ≥ a0 then (if bt101.1 ≤ a1 then ((contangolaw18_goes.f k).bind fun t105 => (some t105)) else (none)) else (none)) else ((contangolaw18_goes.f k).bind fun t106 => (some t106))) else ((contangolaw18_goes.f k).bind fun t107 => (some t107)))) else ((contangolaw18_goes.f k).bind fun t108 => (some t108))) else (none)) else (none)))
set_option maxHeartbeats 8000000 in
set_option maxRecDepth 100000 in
theorem contangolaw18_MarkMids.calls (k : Nat) (a0 : Int) (a1 : Int) (a2 : Int) (r : Bool) (w : World) (h : contangolaw18_MarkMids.f k a0 a1 a2 = some r) :
    Calls Try.prog 6 #[.int .i64 a0, .int .i64 a1, .int .i64 a2] w fun e w' => e = .returned (.bool r) ∧ Below w.heap.size w w' := by
  have HB := Aside0.mk (Below.refl w.heap.size w)
  have H : ((mark_Mid.f k a0 a1 a2).bind fun bt101 => ((contangoref18_Mid.f k a0 a1 a2).bind fun bt103 => (if bt101.1 = bt103.1 then (if bt101.2 = bt103.2 then (if bt101.2 = 0 then (if a2 = 0 then (none) else (if (Int.tmod a0 a2) = 0 then (if (Int.tmod a1 a2) = 0 then (if bt101.1 ≥ a0 then (if bt101.1 ≤ a1 then ((contangolaw18_goes.f k).bind fun t105 => (some t105)) else (none)) else (none)) else ((contangolaw18_goes.f k).bind fun t106 => (some t106))) else ((contangolaw18_goes.f k).bind fun t107 => (some t107)))) else ((contangolaw18_goes.f k).bind fun t108 => (some t108))) else (none)) else (none)))) = some r := h
  clear h
  replace H := Option.bind_eq_some_iff.mp H
  obtain ⟨⟨t101, t102⟩, A40, H⟩ := H
  replace H : ((contangoref18_Mid.f k a0 a1 a2).bind fun bt103 => (if t101 = bt103.1 then (if t102 = bt103.2 then (if t102 = 0 then (if a2 = 0 then (none) else (if (Int.tmod a0 a2) = 0 then (if (Int.tmod a1 a2) = 0 then (if t101 ≥ a0 then (if t101 ≤ a1 then ((contangolaw18_goes.f k).bind fun t105 => (some t105)) else (none)) else (none)) else ((contangolaw18_goes.f k).bind fun t106 => (some t106))) else ((contangolaw18_goes.f k).bind fun t107 => (some t107)))) else ((contangolaw18_goes.f k).bind fun t108 => (some t108))) else (none)) else (none))) = some r := H
  have A4 := Aside0.mk A40
  clear A40
  replace H := Option.bind_eq_some_iff.mp H
  obtain ⟨⟨t103, t104⟩, A50, H⟩ := H
  replace H : (if t101 = t103 then (if t102 = t104 then (if t102 = 0 then (if a2 = 0 then (none) else (if (Int.tmod a0 a2) = 0 then (if (Int.tmod a1 a2) = 0 then (if t101 ≥ a0 then (if t101 ≤ a1 then ((contangolaw18_goes.f k).bind fun t105 => (some t105)) else (none)) else (none)) else ((contangolaw18_goes.f k).bind fun t106 => (some t106))) else ((contangolaw18_goes.f k).bind fun t107 => (some t107)))) else ((contangolaw18_goes.f k).bind fun t108 => (some t108))) else (none)) else (none)) = some r := H
  have A5 := Aside0.mk A50
  clear A50
  by_cases c6 : t101 = t103
  · rw [if_pos c6] at H
    have c6b0 : (t101 == t103) = true := beq_iff_eq.mpr c6
    have c6b1 : (t101 != t103) = false := bne_eq_false_iff_eq.mpr c6
    clear c6
    by_cases c7 : t102 = t104
    · rw [if_pos c7] at H
      have c7b0 : (t102 == t104) = true := beq_iff_eq.mpr c7
      have c7b1 : (t102 != t104) = false := bne_eq_false_iff_eq.mpr c7
      clear c7
      by_cases c8 : t102 = 0
      · rw [if_pos c8] at H
        have c8b0 : (t102 == 0) = true := beq_iff_eq.mpr c8
        have c8b1 : (t102 != 0) = false := bne_eq_false_iff_eq.mpr c8
        clear c8
        by_cases c9 : a2 = 0
        · rw [if_pos c9] at H
          exact absurd H (by simp)
        · rw [if_neg c9] at H
          have c9b0 : (a2 == 0) = false := beq_eq_false_iff_ne.mpr c9
          have c9b1 : (a2 != 0) = true := bne_iff_ne.mpr c9
          by_cases c10 : (Int.tmod a0 a2) = 0
          · rw [if_pos c10] at H
            have c10b0 : ((Int.tmod a0 a2) == 0) = true := beq_iff_eq.mpr c10
            have c10b1 : ((Int.tmod a0 a2) != 0) = false := bne_eq_false_iff_eq.mpr c10
            clear c10
            by_cases c11 : (Int.tmod a1 a2) = 0
            · rw [if_pos c11] at H
              have c11b0 : ((Int.tmod a1 a2) == 0) = true := beq_iff_eq.mpr c11
              have c11b1 : ((Int.tmod a1 a2) != 0) = false := bne_eq_false_iff_eq.mpr c11
              clear c11
              by_cases c12 : t101 ≥ a0
              · rw [if_pos c12] at H
                have c12b0 : decide (a0 ≤ t101) = true := decide_eq_true c12
                clear c12
                by_cases c13 : t101 ≤ a1
                · rw [if_pos c13] at H
                  have c13b0 : decide (t101 ≤ a1) = true := decide_eq_true c13
                  clear c13
                  replace H := Option.bind_eq_some_iff.mp H
                  obtain ⟨t105, A140, H⟩ := H
                  replace H : (some t105) = some r := H
                  have A14 := Aside0.mk A140
                  clear A140
                  obtain rfl := Option.some.inj H
                  go_enter Try.func6, Try.ntmps6
                  go_wp2_with (first | ((with_reducible refine gate_callee (f := 21) rfl ?_); refine goesL_ (some 15) rfl rfl Try.func21 (by kernel_rfl) rfl #[.int .i64 a0, .int .i64 a1, .int .i64 a2] rfl (by (try simp only [List.map_toArray, List.map_cons, List.map_nil]); first | done | rfl | (simp only [List.length_drop, List.length_take]; rfl)) ?_; (with_reducible refine (mark_Mid.calls k a0 a1 a2 t101 t102 _ A4.out).mono ?_); rintro e w15 ⟨rfl, hb⟩; refine ⟨_, rfl, ?_⟩; have n0_ := Aside0.mk (below_step (by repeat (first | (with_reducible first | exact HB.out | apply below_alloc | apply pw_below_drewN | apply below_drew1) | exact HB.out)) hb); clear HB; have HB := n0_; clear n0_; (try clear hb); (try clear hb2); (try clear hk); (try clear hi)) | ((with_reducible refine gate_callee (f := 22) rfl ?_); refine goesL_ (some 22) rfl rfl Try.func22 (by kernel_rfl) rfl #[.int .i64 a0, .int .i64 a1, .int .i64 a2] rfl (by (try simp only [List.map_toArray, List.map_cons, List.map_nil]); first | done | rfl | (simp only [List.length_drop, List.length_take]; rfl)) ?_; (with_reducible refine (contangoref18_Mid.calls k a0 a1 a2 t103 t104 _ A5.out).mono ?_); rintro e w' ⟨rfl, ⟨nd, rfl⟩⟩; refine ⟨_, rfl, ?_⟩) | (go_at_call 20; (with_reducible refine (contangolaw18_goes.calls k  t105 _ A14.out).mono ?_); rintro e w16 ⟨rfl, hb⟩; have n0_ := Aside0.mk (below_step (by repeat (first | (with_reducible first | exact HB.out | apply below_alloc | apply pw_below_drewN | apply below_drew1) | exact HB.out)) hb); clear HB; have HB := n0_; clear n0_; (try clear hb); (try clear hb2); (try clear hk); (try clear hi)))
                  go_ret
                  exact ⟨by first | rfl | (simp [errW_none, errW_some] <;> rfl) | (simp [*, errW_none, errW_some] <;> rfl), by repeat (first | (with_reducible first | exact HB.out | apply below_alloc | apply pw_below_drewN | apply below_drew1) | exact HB.out)⟩
                · rw [if_neg c13] at H
                  exact absurd H (by simp)
              · rw [if_neg c12] at H
                exact absurd H (by simp)
            · rw [if_neg c11] at H
              have c11b0 : ((Int.tmod a1 a2) == 0) = false := beq_eq_false_iff_ne.mpr c11
              have c11b1 : ((Int.tmod a1 a2) != 0) = true := bne_iff_ne.mpr c11
              replace H := Option.bind_eq_some_iff.mp H
              obtain ⟨t106, A170, H⟩ := H
              replace H : (some t106) = some r := H
              have A17 := Aside0.mk A170
              clear A170
              obtain rfl := Option.some.inj H
              go_enter Try.func6, Try.ntmps6
              go_wp2_with (first | ((with_reducible refine gate_callee (f := 21) rfl ?_); refine goesL_ (some 15) rfl rfl Try.func21 (by kernel_rfl) rfl #[.int .i64 a0, .int .i64 a1, .int .i64 a2] rfl (by (try simp only [List.map_toArray, List.map_cons, List.map_nil]); first | done | rfl | (simp only [List.length_drop, List.length_take]; rfl)) ?_; (with_reducible refine (mark_Mid.calls k a0 a1 a2 t101 t102 _ A4.out).mono ?_); rintro e w18 ⟨rfl, hb⟩; refine ⟨_, rfl, ?_⟩; have n0_ := Aside0.mk (below_step (by repeat (first | (with_reducible first | exact HB.out | apply below_alloc | apply pw_below_drewN | apply below_drew1) | exact HB.out)) hb); clear HB; have HB := n0_; clear n0_; (try clear hb); (try clear hb2); (try clear hk); (try clear hi)) | ((with_reducible refine gate_callee (f := 22) rfl ?_); refine goesL_ (some 22) rfl rfl Try.func22 (by kernel_rfl) rfl #[.int .i64 a0, .int .i64 a1, .int .i64 a2] rfl (by (try simp only [List.map_toArray, List.map_cons, List.map_nil]); first | done | rfl | (simp only [List.length_drop, List.length_take]; rfl)) ?_; (with_reducible refine (contangoref18_Mid.calls k a0 a1 a2 t103 t104 _ A5.out).mono ?_); rintro e w' ⟨rfl, ⟨nd, rfl⟩⟩; refine ⟨_, rfl, ?_⟩) | (go_at_call 20; (with_reducible refine (contangolaw18_goes.calls k  t106 _ A17.out).mono ?_); rintro e w19 ⟨rfl, hb⟩; have n0_ := Aside0.mk (below_step (by repeat (first | (with_reducible first | exact HB.out | apply below_alloc | apply pw_below_drewN | apply below_drew1) | exact HB.out)) hb); clear HB; have HB := n0_; clear n0_; (try clear hb); (try clear hb2); (try clear hk); (try clear hi)))
              go_ret
              exact ⟨by first | rfl | (simp [errW_none, errW_some] <;> rfl) | (simp [*, errW_none, errW_some] <;> rfl), by repeat (first | (with_reducible first | exact HB.out | apply below_alloc | apply pw_below_drewN | apply below_drew1) | exact HB.out)⟩
          · rw [if_neg c10] at H
            have c10b0 : ((Int.tmod a0 a2) == 0) = false := beq_eq_false_iff_ne.mpr c10
            have c10b1 : ((Int.tmod a0 a2) != 0) = true := bne_iff_ne.mpr c10
            replace H := Option.bind_eq_some_iff.mp H
            obtain ⟨t107, A200, H⟩ := H
            replace H : (some t107) = some r := H
            have A20 := Aside0.mk A200
            clear A200
            obtain rfl := Option.some.inj H
            go_enter Try.func6, Try.ntmps6
            go_wp2_with (first | ((with_reducible refine gate_callee (f := 21) rfl ?_); refine goesL_ (some 15) rfl rfl Try.func21 (by kernel_rfl) rfl #[.int .i64 a0, .int .i64 a1, .int .i64 a2] rfl (by (try simp only [List.map_toArray, List.map_cons, List.map_nil]); first | done | rfl | (simp only [List.length_drop, List.length_take]; rfl)) ?_; (with_reducible refine (mark_Mid.calls k a0 a1 a2 t101 t102 _ A4.out).mono ?_); rintro e w21 ⟨rfl, hb⟩; refine ⟨_, rfl, ?_⟩; have n0_ := Aside0.mk (below_step (by repeat (first | (with_reducible first | exact HB.out | apply below_alloc | apply pw_below_drewN | apply below_drew1) | exact HB.out)) hb); clear HB; have HB := n0_; clear n0_; (try clear hb); (try clear hb2); (try clear hk); (try clear hi)) | ((with_reducible refine gate_callee (f := 22) rfl ?_); refine goesL_ (some 22) rfl rfl Try.func22 (by kernel_rfl) rfl #[.int .i64 a0, .int .i64 a1, .int .i64 a2] rfl (by (try simp only [List.map_toArray, List.map_cons, List.map_nil]); first | done | rfl | (simp only [List.length_drop, List.length_take]; rfl)) ?_; (with_reducible refine (contangoref18_Mid.calls k a0 a1 a2 t103 t104 _ A5.out).mono ?_); rintro e w' ⟨rfl, ⟨nd, rfl⟩⟩; refine ⟨_, rfl, ?_⟩) | (go_at_call 20; (with_reducible refine (contangolaw18_goes.calls k  t107 _ A20.out).mono ?_); rintro e w22 ⟨rfl, hb⟩; have n0_ := Aside0.mk (below_step (by repeat (first | (with_reducible first | exact HB.out | apply below_alloc | apply pw_below_drewN | apply below_drew1) | exact HB.out)) hb); clear HB; have HB := n0_; clear n0_; (try clear hb); (try clear hb2); (try clear hk); (try clear hi)))
            go_ret
            exact ⟨by first | rfl | (simp [errW_none, errW_some] <;> rfl) | (simp [*, errW_none, errW_some] <;> rfl), by repeat (first | (with_reducible first | exact HB.out | apply below_alloc | apply pw_below_drewN | apply below_drew1) | exact HB.out)⟩
      · rw [if_neg c8] at H
        have c8b0 : (t102 == 0) = false := beq_eq_false_iff_ne.mpr c8
        have c8b1 : (t102 != 0) = true := bne_iff_ne.mpr c8
        replace H := Option.bind_eq_some_iff.mp H
        obtain ⟨t108, A230, H⟩ := H
        replace H : (some t108) = some r := H
        have A23 := Aside0.mk A230
        clear A230
        obtain rfl := Option.some.inj H
        go_enter Try.func6, Try.ntmps6
        go_wp2_with (first | ((with_reducible refine gate_callee (f := 21) rfl ?_); refine goesL_ (some 15) rfl rfl Try.func21 (by kernel_rfl) rfl #[.int .i64 a0, .int .i64 a1, .int .i64 a2] rfl (by (try simp only [List.map_toArray, List.map_cons, List.map_nil]); first | done | rfl | (simp only [List.length_drop, List.length_take]; rfl)) ?_; (with_reducible refine (mark_Mid.calls k a0 a1 a2 t101 t102 _ A4.out).mono ?_); rintro e w24 ⟨rfl, hb⟩; refine ⟨_, rfl, ?_⟩; have n0_ := Aside0.mk (below_step (by repeat (first | (with_reducible first | exact HB.out | apply below_alloc | apply pw_below_drewN | apply below_drew1) | exact HB.out)) hb); clear HB; have HB := n0_; clear n0_; (try clear hb); (try clear hb2); (try clear hk); (try clear hi)) | ((with_reducible refine gate_callee (f := 22) rfl ?_); refine goesL_ (some 22) rfl rfl Try.func22 (by kernel_rfl) rfl #[.int .i64 a0, .int .i64 a1, .int .i64 a2] rfl (by (try simp only [List.map_toArray, List.map_cons, List.map_nil]); first | done | rfl | (simp only [List.length_drop, List.length_take]; rfl)) ?_; (with_reducible refine (contangoref18_Mid.calls k a0 a1 a2 t103 t104 _ A5.out).mono ?_); rintro e w' ⟨rfl, ⟨nd, rfl⟩⟩; refine ⟨_, rfl, ?_⟩) | (go_at_call 20; (with_reducible refine (contangolaw18_goes.calls k  t108 _ A23.out).mono ?_); rintro e w25 ⟨rfl, hb⟩; have n0_ := Aside0.mk (below_step (by repeat (first | (with_reducible first | exact HB.out | apply below_alloc | apply pw_below_drewN | apply below_drew1) | exact HB.out)) hb); clear HB; have HB := n0_; clear n0_; (try clear hb); (try clear hb2); (try clear hk); (try clear hi)))
        go_ret
        exact ⟨by first | rfl | (simp [errW_none, errW_some] <;> rfl) | (simp [*, errW_none, errW_some] <;> rfl), by repeat (first | (with_reducible first | exact HB.out | apply below_alloc | apply pw_below_drewN | apply below_drew1) | exact HB.out)⟩
    · rw [if_neg c7] at H
      exact absurd H (by simp)
  · rw [if_neg c6] at H
    exact absurd H (by simp)
end Go.Proofs.Ytocndpddghefhaa.X
end
section
namespace Go.Proofs.Ytocndpddghefhaa.Opn
open Go.ChangeShapes Go.WideShapes Go.Proofs.YtocndpddghefhaaW.PrintWords
set_option linter.unusedVariables false
set_option linter.unusedSimpArgs false
structure Opens (P : Program) (t : TypeId) {α : Type} (d : Kd α) (Ok : α → Prop) : Prop where
  sz : d.sz = P.cellsOf t
  opens : ∀ {H : Type} {enc : TypeId × Value → H} {w : World} {base : Nat} {spare : Nat → Bool} {held : Bool} {fuel : Nat} {cs : List Value} {x : DataW H × List MemPlace},
    DataW.trod enc P w base spare held fuel t cs = some x → (∀ n ∈ x.1.weights P t, n ≤ reachBytes) → ∃ v, d.K w v cs ∧ Ok v
structure OpensF (P : Program) (fs : List Field) (off : Nat) {α : Type} (d : Kd α) (Ok : α → Prop) : Prop where
  opens : ∀ {H : Type} {enc : TypeId × Value → H} {w : World} {base : Nat} {spare : Nat → Bool} {held : Bool} {n : Nat} {cs : List Value} {xs : List (DataW H × List MemPlace)},
    xs.length = fs.length → (∀ (i : Nat) (f : Field), fs[i]? = some f → DataW.trod enc P w base spare held n f.type ((cs.drop f.offset).take (P.cellsOf f.type)) = xs[i]?) →
    (∀ m ∈ DataW.weightsEach P (fs.map (·.type)) (xs.map (·.1)), m ≤ reachBytes) → ∃ v, d.K w v ((cs.drop off).take d.sz) ∧ Ok v
end Go.Proofs.Ytocndpddghefhaa.Opn
end
section
namespace Go.Proofs.Ytocndpddghefhaa.P
open Go.RowKit Go.Proofs.YtocndpddghefhaaW.PrintWords Go.Proofs.YtocndpddghefhaaW.PrintMore Go.Proofs.Ytocndpddghefhaa.X
theorem Ev_succ {α : Type} {g : Nat → Option α} {r : α} (h : Ev (fun k => g (k + 1)) r) : Ev g r := Ev.step (fun _ => rfl) h
theorem Ev_bind {α β : Type} {g : Nat → Option α} {f : Nat → α → Option β} {a : α} {r : β} (h : Ev g a) (k : Ev (fun n => f n a) r) : Ev (fun n => (g n).bind (f n)) r := Ev.bind h k
theorem Ev_id {α : Type} {g : Nat → Option α} {r : α} (h : Ev g r) : Ev (fun n => (g n).bind fun x => some x) r := Ev.bind h (Ev.now _)
theorem w_id {x : Int} (h1 : -9223372036854775808 ≤ x) (h2 : x ≤ 9223372036854775807) : wrap64 x = x := by unfold wrap64; omega
end Go.Proofs.Ytocndpddghefhaa.P
end
section
namespace Go.Proofs.Ytocndpddghefhaa.P
set_option linter.unusedVariables false
set_option linter.unusedSimpArgs false
open Go.RowKit Go.Proofs.YtocndpddghefhaaW.PrintWords Go.Proofs.YtocndpddghefhaaW.PrintMore Go.Proofs.Ytocndpddghefhaa.X
theorem uwrap (n : Int) : IntKind.u64.wrap n = n % 18446744073709551616 := by simp [IntKind.wrap, IntKind.bits, IntKind.signed]
theorem u_id {x : Int} (h1 : 0 ≤ x) (h2 : x < 18446744073709551616) : IntKind.u64.wrap x = x := by rw [uwrap]; omega
def fitsM (n : Int) : Bool := decide (-1152921504606846976 ≤ n) && decide (n ≤ 1152921504606846976)
theorem fitsM_iff (n : Int) : fitsM n = true ↔ -1152921504606846976 ≤ n ∧ n ≤ 1152921504606846976 := by simp [fitsM]
theorem fitsM_f (n : Int) : cents_Fits.f n = some (fitsM n) := by
  unfold cents_Fits.f fitsM
  by_cases h : n ≥ -1152921504606846976
  · rw [if_pos h, decide_eq_true (show -1152921504606846976 ≤ n from h), Bool.true_and]
  · rw [if_neg h, decide_eq_false (show ¬ -1152921504606846976 ≤ n from h), Bool.false_and]
theorem fitsMR_f (n : Int) : contangoref01_Fits.f n = some (fitsM n) := by
  unfold contangoref01_Fits.f fitsM
  by_cases h : n ≥ -1152921504606846976
  · rw [if_pos h, decide_eq_true (show -1152921504606846976 ≤ n from h), Bool.true_and]
  · rw [if_neg h, decide_eq_false (show ¬ -1152921504606846976 ≤ n from h), Bool.false_and]
def szI (n : Int) : Int := if n < 0 then -n else n
theorem szI_rng {n : Int} (h : fitsM n = true) : 0 ≤ szI n ∧ szI n ≤ 1152921504606846976 := by
  rw [fitsM_iff] at h; unfold szI; split <;> omega
theorem szI_pos {n : Int} (h : n ≠ 0) : 1 ≤ szI n := by unfold szI; split <;> omega
theorem size_f {n : Int} (h : fitsM n = true) : cents_size.f n = some (szI n) := by
  rw [fitsM_iff] at h
  unfold cents_size.f szI
  by_cases c : n < 0
  · rw [if_pos c, if_pos c, w_id (by omega) (by omega), u_id (by omega) (by omega)]
  · rw [if_neg c, if_neg c, u_id (by omega) (by omega)]
theorem sizeR_f {n : Int} (h : fitsM n = true) : contangoref01_size.f n = some (szI n) := by
  rw [fitsM_iff] at h
  unfold contangoref01_size.f szI
  by_cases c : n < 0
  · rw [if_pos c, if_pos c, w_id (by omega) (by omega)]
  · rw [if_neg c, if_neg c]
theorem maskN (a : Nat) (ha : a < 18446744073709551616) : Go.bits .and .u64 (a : Int) 4294967295 = ((a % 4294967296 : Nat) : Int) := by
  have h := bits_and_u64_nat a 4294967295 ha (by omega)
  have e : a &&& 4294967295 = a % 4294967296 := Nat.and_two_pow_sub_one_eq_mod a 32
  rw [e] at h
  exact h
theorem divN (a : Nat) : (a : Int) / 4294967296 = ((a / 4294967296 : Nat) : Int) := by omega
theorem mulN (a b : Nat) : (a : Int) * (b : Int) = ((a * b : Nat) : Int) := (Int.natCast_mul a b).symm
theorem addN (a b : Nat) : (a : Int) + (b : Int) = ((a + b : Nat) : Int) := (Int.natCast_add a b).symm
theorem wrapN (a : Nat) (ha : a < 18446744073709551616) : IntKind.u64.wrap (a : Int) = (a : Int) := by rw [uwrap]; omega
theorem wrapM (a : Nat) : IntKind.u64.wrap (a : Int) = ((a % 18446744073709551616 : Nat) : Int) := by rw [uwrap]; omega
theorem mul64_f (x y : Nat) (hx : x < 18446744073709551616) (hy : y < 18446744073709551616) : bits_Mul64.f (x : Int) (y : Int) = some (((x * y / 18446744073709551616 : Nat) : Int), ((x * y % 18446744073709551616 : Nat) : Int)) := by
  obtain ⟨bd, bt, bw, hhi⟩ := Lib.mul64_hi x y hx hy
  have ba := Lib.half_mul_le (a := x / 4294967296) (b := y / 4294967296) (by omega) (by omega)
  have bb := Lib.half_mul_le (a := x / 4294967296) (b := y % 4294967296) (by omega) (by omega)
  have bc := Lib.half_mul_le (a := x % 4294967296) (b := y / 4294967296) (by omega) (by omega)
  have ba' : x / 4294967296 * (y / 4294967296) < 18446744073709551616 := by omega
  have bb' : x / 4294967296 * (y % 4294967296) < 18446744073709551616 := by omega
  have bc' : x % 4294967296 * (y / 4294967296) < 18446744073709551616 := by omega
  have bh1 : x / 4294967296 * (y / 4294967296) + (x / 4294967296 * (y % 4294967296) + x % 4294967296 * (y % 4294967296) / 4294967296) / 4294967296 < 18446744073709551616 := by omega
  have bh : x / 4294967296 * (y / 4294967296) + (x / 4294967296 * (y % 4294967296) + x % 4294967296 * (y % 4294967296) / 4294967296) / 4294967296 + ((x / 4294967296 * (y % 4294967296) + x % 4294967296 * (y % 4294967296) / 4294967296) % 4294967296 + x % 4294967296 * (y / 4294967296)) / 4294967296 < 18446744073709551616 := by omega
  unfold bits_Mul64.f
  simp only [maskN x hx, maskN y hy, divN, mulN, addN, wrapN _ bd, wrapN _ bb', wrapN _ bt, maskN _ bt, wrapN _ bc', wrapN _ bw, wrapN _ ba', wrapN _ bh1, wrapN _ bh, wrapM (x * y)]
  rw [hhi]
def awayP (m : Int) (bl : Bool) (q r y : Int) : Bool := if m = 5 then decide (y - r < r) || (r == y - r && q % 2 == 1) else awayAll m bl
def mdQ (a b c : Int) : Int := szI a * szI b / szI c
def mdR (a b c : Int) : Int := szI a * szI b % szI c
def mdN (a b c m : Int) : Int := if 0 < mdR a b c ∧ awayP m (belowB a b c) (mdQ a b c) (mdR a b c) (szI c) = true then mdQ a b c + 1 else mdQ a b c
def mdV (a b c m : Int) : Int × Int := if 1152921504606846976 < mdN a b c m then (0, 3) else (if belowB a b c = true then -mdN a b c m else mdN a b c m, 0)
def mulDiv (a b c m : Int) : Int × Int := if fitsM a = true ∧ fitsM b = true ∧ fitsM c = true ∧ 1 ≤ m ∧ m ≤ 5 then (if c = 0 then (0, 4) else mdV a b c m) else (0, 2)
theorem mdR_rng {a b c : Int} (ha : fitsM a = true) (hb : fitsM b = true) (hc : fitsM c = true) (h0 : c ≠ 0) : 0 ≤ mdQ a b c ∧ 0 ≤ mdR a b c ∧ mdR a b c < szI c ∧ mdQ a b c ≤ szI a * szI b := by
  have ra := szI_rng ha
  have rb := szI_rng hb
  have pc := szI_pos h0
  have hp := Int.mul_nonneg ra.1 rb.1
  unfold mdQ mdR
  refine ⟨Int.ediv_nonneg hp (by omega), Int.emod_nonneg _ (by omega), Int.emod_lt_of_pos _ (by omega), ?_⟩
  exact Int.ediv_le_self _ hp
theorem div64_0 (k : Nat) {lo y : Int} (h1 : 0 ≤ lo) (h2 : lo < 18446744073709551616) (hy : 1 ≤ y) : bits_Div64.f k 0 lo y = some (lo / y, lo % y) := by
  unfold bits_Div64.f
  have e1 := Int.tdiv_eq_ediv_of_nonneg (b := y) h1
  have e2 := Int.tmod_eq_emod_of_nonneg (b := y) h1
  have b1 := Int.ediv_nonneg h1 (show 0 ≤ y by omega)
  have b2 := Int.ediv_le_self y h1
  rw [if_neg (by omega), if_neg (by omega), if_pos rfl, e1, e2, u_id (by omega) (by omega)]
theorem signed_f {q : Int} (bl : Bool) (h : 0 ≤ q) (h2 : q ≤ 2305843009213693953) : cents_signed.f q bl = some (if 1152921504606846976 < q then (0, 3) else (if bl = true then -q else q, 0)) := by
  unfold cents_signed.f
  by_cases c : q > 1152921504606846976
  · rw [if_pos c, if_pos (show 1152921504606846976 < q from c)]
  · rw [if_neg c, if_neg (show ¬ 1152921504606846976 < q from c)]
    have e : wrap64 q = q := w_id (by omega) (by omega)
    have e2 : wrap64 (-q) = -q := w_id (by omega) (by omega)
    rw [e, e2]
    cases bl <;> rfl
theorem awayB_P {m : Int} {bl : Bool} {q r y : Int} (hq : 0 ≤ q) (hr : 0 ≤ r) (hry : r < y) (hy : y ≤ 1152921504606846976) : awayB m bl q r y = awayP m bl q r y := by
  unfold awayB awayP
  have e : IntKind.u64.wrap (y - r) = y - r := u_id (by omega) (by omega)
  have e2 := Int.tmod_eq_emod_of_nonneg (b := 2) hq
  rw [e, e2]
theorem mulDiv_f (k : Nat) (a b c m : Int) (h : szI a * szI b < 18446744073709551616) : cents_MulDiv.f k a b c m = some (mulDiv a b c m) := by
  unfold cents_MulDiv.f mulDiv
  simp only [fitsM_f, Option.bind_some]
  by_cases c1 : fitsM a = true ∧ fitsM b = true ∧ fitsM c = true ∧ 1 ≤ m ∧ m ≤ 5
  · rw [if_pos c1, if_pos c1]
    obtain ⟨ha, hb, hc, hm1, hm2⟩ := c1
    by_cases c2 : c = 0
    · rw [if_pos c2, if_pos c2]
    · rw [if_neg c2, if_neg c2, size_f ha, size_f hb, size_f hc]
      simp only [Option.bind_some]
      have ra := szI_rng ha
      have rb := szI_rng hb
      have rc := szI_rng hc
      have pc := szI_pos c2
      have hR := mdR_rng ha hb hc c2
      have hp := Int.mul_nonneg ra.1 rb.1
      have e0 : bits_Mul64.f (szI a) (szI b) = some (0, szI a * szI b) := by
        obtain ⟨x, hx⟩ : ∃ x : Nat, szI a = (x : Int) := ⟨(szI a).toNat, by omega⟩
        obtain ⟨y, hy⟩ : ∃ y : Nat, szI b = (y : Int) := ⟨(szI b).toNat, by omega⟩
        rw [hx, hy] at h
        rw [hx, hy, mul64_f x y (by omega) (by omega)]
        rw [mulN] at h ⊢
        have hxy : x * y < 18446744073709551616 := by omega
        rw [Nat.div_eq_of_lt hxy, Nat.mod_eq_of_lt hxy]
        rfl
      rw [e0]
      simp only [Option.bind_some]
      rw [if_neg (by omega), div64_0 k hp h pc]
      simp only [Option.bind_some]
      show (if 1152921504606846976 < mdQ a b c then some (0, 3) else cents_signed.f (if 0 < mdR a b c ∧ awayB m (belowB a b c) (mdQ a b c) (mdR a b c) (szI c) = true then IntKind.u64.wrap (mdQ a b c + 1) else mdQ a b c) (belowB a b c)) = some (mdV a b c m)
      rw [awayB_P hR.1 hR.2.1 hR.2.2.1 rc.2]
      unfold mdV
      by_cases c3 : 1152921504606846976 < mdQ a b c
      · have : 1152921504606846976 < mdN a b c m := by unfold mdN; split <;> omega
        rw [if_pos c3, if_pos this]
      · rw [if_neg c3]
        have e1 : IntKind.u64.wrap (mdQ a b c + 1) = mdQ a b c + 1 := u_id (by omega) (by omega)
        rw [e1]
        show cents_signed.f (mdN a b c m) (belowB a b c) = _
        have : 0 ≤ mdN a b c m ∧ mdN a b c m ≤ 1152921504606846977 := by unfold mdN; split <;> omega
        rw [signed_f _ this.1 (by omega)]
  · rw [if_neg c1, if_neg c1]
def cap61 (n : Int) : Int := if n > 2305843009213693952 then 2305843009213693952 else n
theorem step61 {N b c t N' : Int} (hc : 0 < c) (hN : 0 ≤ N) (hb : 0 ≤ b) (hN' : N' = 2 * N + b) (ht : t = (2 * (N % c) + b)) : cap61 (2 * cap61 (N / c) + t / c) = cap61 (N' / c) ∧ t % c = N' % c := by
  have hd := Int.mul_ediv_add_emod N c
  have h1 : N' = t + c * (2 * (N / c)) := by
    have e : c * (2 * (N / c)) = 2 * (c * (N / c)) := by rw [Int.mul_left_comm]
    rw [e]; omega
  have h2 : N' / c = t / c + 2 * (N / c) := by rw [h1, Int.add_mul_ediv_left _ _ (by omega)]
  have h3 : N' % c = t % c := by rw [h1, Int.add_mul_emod_self_left]
  have ht0 : 0 ≤ t / c := Int.ediv_nonneg (by have := Int.emod_nonneg N (show c ≠ 0 by omega); omega) (by omega)
  have hq0 : 0 ≤ N / c := Int.ediv_nonneg hN (by omega)
  refine ⟨?_, h3.symm⟩
  rw [h2]
  unfold cap61
  generalize N / c = u at *
  generalize t / c = v at *
  repeat' split
  all_goals omega
theorem quotLoop (a b c : Int) (ha : 0 ≤ a ∧ a ≤ 1152921504606846976) (hb : 0 ≤ b ∧ b ≤ 1152921504606846976) (hc : 1 ≤ c ∧ c ≤ 1152921504606846976) : ∀ (n : Nat), n ≤ 61 →
    Ev (fun k => contangoref01_quotient.l0 k a b c (cap61 (a / 2 ^ n * b / c)) (a / 2 ^ n * b % c) ((n : Int) - 1)) (cap61 (a * b / c), a * b % c)
  | 0, _ => by
    refine Ev_succ ?_
    simp only [contangoref01_quotient.l0, if_neg (show ¬ (((0 : Nat) : Int) - 1 ≥ 0) by omega)]
    have e : a / 2 ^ 0 = a := by rw [Int.pow_zero, Int.ediv_one]
    rw [e]
    exact Ev.now _
  | n + 1, hn => by
    have ih := quotLoop a b c ha hb hc n (by omega)
    have en : ((n + 1 : Nat) : Int) - 1 = (n : Int) := by omega
    have eu : IntKind.u64.wrap (n : Int) = (n : Int) := u_id (by omega) (by omega)
    have ew : wrap64 ((n : Int) - 1) = (n : Int) - 1 := w_id (by omega) (by omega)
    have esh : shr .i64 a (n : Int) = a / 2 ^ n := shr_small rfl (by show (n : Int) ≤ ((64 : Nat) : Int); omega) |>.symm
    have hpow : (2 : Int) ^ (n + 1) = 2 ^ n * 2 := Int.pow_succ 2 n
    have hp1 : 0 < (2 : Int) ^ n := Int.pow_pos (by omega)
    have hA0 : 0 ≤ a / 2 ^ n := Int.ediv_nonneg ha.1 (by omega)
    have hA : a / 2 ^ (n + 1) = a / 2 ^ n / 2 := by rw [hpow, Int.ediv_ediv_of_nonneg (by omega)]
    have hA1 : 0 ≤ a / 2 ^ (n + 1) := by rw [hA]; omega
    obtain ⟨A, hAd⟩ : ∃ A, a / 2 ^ n = A := ⟨_, rfl⟩
    rw [hAd] at ih esh hA hA0
    have hN0 : 0 ≤ A / 2 * b := Int.mul_nonneg (by omega) hb.1
    have hr1 := Int.emod_nonneg (A / 2 * b) (show c ≠ 0 by omega)
    have hr2 := Int.emod_lt_of_pos (A / 2 * b) (show 0 < c by omega)
    have hq0 : 0 ≤ A / 2 * b / c := Int.ediv_nonneg hN0 (by omega)
    have hcap : 0 ≤ cap61 (A / 2 * b / c) ∧ cap61 (A / 2 * b / c) ≤ 2305843009213693952 := by unfold cap61; split <;> omega
    have etm := Int.tmod_eq_emod_of_nonneg (b := 2) hA0
    rw [hA, en]
    refine Ev_succ ?_
    simp only [contangoref01_quotient.l0, if_pos (show (n : Int) ≥ 0 by omega), eu, if_pos (show 0 ≤ (n : Int) by omega), esh, etm, if_neg (show ¬ c = 0 by omega), ew]
    have key : ∀ t : Int, 0 ≤ t → t ≤ 3458764513820540928 → (∃ bb, 0 ≤ bb ∧ A * b = 2 * (A / 2 * b) + bb ∧ t = 2 * (A / 2 * b % c) + bb) →
        Ev (fun k => if wrap64 (wrap64 (2 * cap61 (A / 2 * b / c)) + wrap64 (t.tdiv c)) > 2305843009213693952 then contangoref01_quotient.l0 k a b c 2305843009213693952 (t.tmod c) ((n : Int) - 1) else contangoref01_quotient.l0 k a b c (wrap64 (wrap64 (2 * cap61 (A / 2 * b / c)) + wrap64 (t.tdiv c))) (t.tmod c) ((n : Int) - 1)) (cap61 (a * b / c), a * b % c) := by
      rintro t t0 t1 ⟨bb, hbb, hAb, ht⟩
      obtain ⟨s1, s2⟩ := step61 (by omega) hN0 hbb hAb ht
      have d1 : t.tdiv c = t / c := Int.tdiv_eq_ediv_of_nonneg t0
      have d2 : t.tmod c = t % c := Int.tmod_eq_emod_of_nonneg t0
      have d3 := Int.ediv_nonneg t0 (show 0 ≤ c by omega)
      have d4 := Int.ediv_le_self c t0
      have e1 : wrap64 (2 * cap61 (A / 2 * b / c)) = 2 * cap61 (A / 2 * b / c) := w_id (by omega) (by omega)
      have e2 : wrap64 (t / c) = t / c := w_id (by omega) (by omega)
      have e3 : wrap64 (2 * cap61 (A / 2 * b / c) + t / c) = 2 * cap61 (A / 2 * b / c) + t / c := w_id (by omega) (by omega)
      rw [d1, d2, e1, e2, e3, s2]
      have hs : cap61 (2 * cap61 (A / 2 * b / c) + t / c) = if 2 * cap61 (A / 2 * b / c) + t / c > 2305843009213693952 then 2305843009213693952 else 2 * cap61 (A / 2 * b / c) + t / c := rfl
      by_cases cc : 2 * cap61 (A / 2 * b / c) + t / c > 2305843009213693952
      · rw [if_pos cc] at hs
        simp only [if_pos cc]
        rw [← s1, hs] at ih
        exact ih
      · rw [if_neg cc] at hs
        simp only [if_neg cc]
        rw [← s1, hs] at ih
        exact ih
    have e4 : wrap64 (2 * (A / 2 * b % c)) = 2 * (A / 2 * b % c) := w_id (by omega) (by omega)
    have e5 : wrap64 (2 * (A / 2 * b % c) + b) = 2 * (A / 2 * b % c) + b := w_id (by omega) (by omega)
    simp only [e4, e5]
    by_cases cb : A % 2 = 1
    · simp only [if_pos cb]
      refine key _ (by omega) (by omega) ⟨b, hb.1, ?_, rfl⟩
      have : A = 2 * (A / 2) + 1 := by omega
      calc A * b = (2 * (A / 2) + 1) * b := by rw [← this]
        _ = 2 * (A / 2 * b) + b := by rw [Int.add_mul, Int.one_mul, Int.mul_assoc]
    · simp only [if_neg cb]
      refine key _ (by omega) (by omega) ⟨0, Int.le_refl _, ?_, by omega⟩
      have : A = 2 * (A / 2) := by omega
      calc A * b = (2 * (A / 2)) * b := by rw [← this]
        _ = 2 * (A / 2 * b) + 0 := by rw [Int.mul_assoc, Int.add_zero]
theorem quot_f {a b c : Int} (ha : 0 ≤ a ∧ a ≤ 1152921504606846976) (hb : 0 ≤ b ∧ b ≤ 1152921504606846976) (hc : 1 ≤ c ∧ c ≤ 1152921504606846976) : Ev (fun k => contangoref01_quotient.f k a b c) (cap61 (a * b / c), a * b % c) := by
  have h := quotLoop a b c ha hb hc 61 (Nat.le_refl _)
  have e : a / 2 ^ 61 = 0 := Int.ediv_eq_zero_of_lt ha.1 (by have : (2 : Int) ^ 61 = 2305843009213693952 := by decide
                                                             omega)
  rw [e, Int.zero_mul, Int.zero_ediv, Int.zero_emod] at h
  exact h
theorem awayR_f {m : Int} {bl : Bool} {q r y : Int} (hm : 1 ≤ m ∧ m ≤ 5) (hq : 0 ≤ q) (hr : 0 ≤ r) (hry : r < y) (hy : y ≤ 1152921504606846976) : contangoref01_away.f q r y m bl = some (awayP m bl q r y) := by
  have e : wrap64 (y - r) = y - r := w_id (by omega) (by omega)
  have e2 := Int.tmod_eq_emod_of_nonneg (b := 2) hq
  unfold contangoref01_away.f awayP
  rw [e, e2]
  by_cases c2 : m = 2
  · subst c2; rfl
  · rw [if_neg c2]
    by_cases c3 : m = 3
    · subst c3; cases bl <;> rfl
    · rw [if_neg c3]
      by_cases c4 : m = 4
      · subst c4; cases bl <;> rfl
      · rw [if_neg c4]
        by_cases c5 : m = 5
        · rw [if_pos c5, if_pos c5]
          by_cases d1 : r > y - r
          · rw [if_pos d1, decide_eq_true (show y - r < r from d1), Bool.true_or]
          · rw [if_neg d1, decide_eq_false (show ¬ y - r < r from d1), Bool.false_or]
            by_cases d2 : r = y - r
            · rw [if_pos d2, beq_iff_eq.2 d2, Bool.true_and]
            · rw [if_neg d2, beq_eq_false_iff_ne.2 d2, Bool.false_and]
        · rw [if_neg c5, if_neg c5]
          unfold awayAll
          rw [beq_eq_false_iff_ne.2 c2, beq_eq_false_iff_ne.2 c3, beq_eq_false_iff_ne.2 c4]
          rfl
theorem j2R_f {q : Int} (bl : Bool) (h : 0 ≤ q) (h2 : q ≤ 2305843009213693953) : Ev (fun k => contangoref01_MulDiv.j2 k q bl) (if 1152921504606846976 < q then (0, 3) else (if bl = true then -q else q, 0)) := by
  refine Ev_succ ?_
  by_cases c : q > 1152921504606846976
  · rw [if_pos (show 1152921504606846976 < q from c)]
    simp only [contangoref01_MulDiv.j2, if_pos c]
    exact Ev.now _
  · rw [if_neg (show ¬ 1152921504606846976 < q from c)]
    have e2 : wrap64 (-q) = -q := w_id (by omega) (by omega)
    simp only [contangoref01_MulDiv.j2, if_neg c, e2]
    cases bl
    · simp only [Bool.false_eq_true, if_false]; exact Ev.now _
    · simp only [if_true]; exact Ev.now _
theorem j1R_f {q : Int} (bl u : Bool) (h : 0 ≤ q) (h2 : q ≤ 2305843009213693952) : Ev (fun k => contangoref01_MulDiv.j1 k q bl u) (if 1152921504606846976 < (if u = true then q + 1 else q) then (0, 3) else (if bl = true then -(if u = true then q + 1 else q) else (if u = true then q + 1 else q), 0)) := by
  refine Ev_succ ?_
  have e : wrap64 (q + 1) = q + 1 := w_id (by omega) (by omega)
  cases u
  · simp only [contangoref01_MulDiv.j1, Bool.false_eq_true, if_false]
    exact j2R_f bl h (by omega)
  · simp only [contangoref01_MulDiv.j1, if_true, e]
    exact j2R_f bl (by omega) (by omega)
theorem mulDivR_f (a b c m : Int) : Ev (fun k => contangoref01_MulDiv.f k a b c m) (mulDiv a b c m) := by
  unfold contangoref01_MulDiv.f mulDiv
  have bad : Ev (fun k => contangoref01_MulDiv.j0 k a b c m true) (0, 2) := by
    refine Ev_succ ?_
    simp only [contangoref01_MulDiv.j0, if_true]
    exact Ev.now _
  simp only [fitsMR_f, Option.bind_some]
  by_cases ha : fitsM a = true
  case neg => rw [if_neg (fun h => ha h.1)]; simp only [if_neg ha]; exact bad
  by_cases hb : fitsM b = true
  case neg => rw [if_neg (fun h => hb h.2.1)]; simp only [if_pos ha, if_neg hb]; exact bad
  by_cases hc : fitsM c = true
  case neg => rw [if_neg (fun h => hc h.2.2.1)]; simp only [if_pos ha, if_pos hb, if_neg hc]; exact bad
  simp only [if_pos ha, if_pos hb, if_pos hc]
  by_cases hm1 : m < 1
  · rw [if_neg (by omega)]; simp only [if_pos hm1]; exact bad
  simp only [if_neg hm1]
  by_cases hm2 : m > 5
  · rw [if_neg (by omega), decide_eq_true hm2]; exact bad
  rw [if_pos ⟨ha, hb, hc, by omega, by omega⟩, decide_eq_false hm2]
  refine Ev_succ ?_
  simp only [contangoref01_MulDiv.j0, Bool.false_eq_true, if_false]
  by_cases c0 : c = 0
  · rw [if_pos c0]; simp only [if_pos c0]; exact Ev.now _
  rw [if_neg c0]
  simp only [if_neg c0, sizeR_f ha, sizeR_f hb, sizeR_f hc, Option.bind_some]
  have ra := szI_rng ha
  have rb := szI_rng hb
  have rc := szI_rng hc
  have pc := szI_pos c0
  have hR := mdR_rng ha hb hc c0
  refine Ev_bind (quot_f ra rb ⟨pc, rc.2⟩) ?_
  have ebl : (!((!((decide (a < 0)) == (decide (b < 0)))) == (decide (c < 0)))) = belowB a b c := rfl
  have ebl2 : (((decide (a < 0)) != (decide (b < 0))) != (decide (c < 0))) = belowB a b c := rfl
  simp only [ebl, ebl2]
  show Ev (fun k => if mdR a b c > 0 then (contangoref01_away.f (cap61 (mdQ a b c)) (mdR a b c) (szI c) m (belowB a b c)).bind fun t => contangoref01_MulDiv.j1 k (cap61 (mdQ a b c)) (belowB a b c) t else contangoref01_MulDiv.j1 k (cap61 (mdQ a b c)) (belowB a b c) false) (mdV a b c m)
  have hcap : 0 ≤ cap61 (mdQ a b c) ∧ cap61 (mdQ a b c) ≤ 2305843009213693952 ∧ (1152921504606846976 < cap61 (mdQ a b c) ↔ 1152921504606846976 < mdQ a b c) ∧ (mdQ a b c ≤ 1152921504606846976 → cap61 (mdQ a b c) = mdQ a b c) := by
    unfold cap61; split
    · refine ⟨by omega, by omega, by omega, by omega⟩
    · refine ⟨by omega, by omega, by omega, by omega⟩
  unfold mdV mdN
  by_cases h0 : mdR a b c > 0
  · simp only [if_pos h0, awayR_f (bl := belowB a b c) ⟨show 1 ≤ m by omega, show m ≤ 5 by omega⟩ hcap.1 hR.2.1 hR.2.2.1 rc.2, Option.bind_some]
    have := j1R_f (belowB a b c) (awayP m (belowB a b c) (cap61 (mdQ a b c)) (mdR a b c) (szI c)) hcap.1 hcap.2.1
    by_cases hbig : 1152921504606846976 < mdQ a b c
    · have hb1 := hcap.2.2.1.2 hbig
      rw [if_pos (by split <;> omega)] at this
      rw [if_pos (by split <;> omega)]
      exact this
    · rw [hcap.2.2.2 (by omega)] at this ⊢
      have e : (0 < mdR a b c ∧ awayP m (belowB a b c) (mdQ a b c) (mdR a b c) (szI c) = true) = (awayP m (belowB a b c) (mdQ a b c) (mdR a b c) (szI c) = true) := propext ⟨fun h => h.2, fun h => ⟨h0, h⟩⟩
      simp only [e]
      exact this
  · simp only [if_neg h0]
    have := j1R_f (belowB a b c) false hcap.1 hcap.2.1
    have e : (0 < mdR a b c ∧ awayP m (belowB a b c) (mdQ a b c) (mdR a b c) (szI c) = true) = False := propext ⟨fun h => h0 h.1, False.elim⟩
    simp only [e, if_false]
    simp only [Bool.false_eq_true, if_false] at this
    by_cases hbig : 1152921504606846976 < mdQ a b c
    · have hb1 := hcap.2.2.1.2 hbig
      rw [if_pos hb1] at this
      rw [if_pos hbig]
      exact this
    · rw [hcap.2.2.2 (by omega)] at this ⊢
      exact this
end Go.Proofs.Ytocndpddghefhaa.P
end
section
namespace Go.Proofs.Ytocndpddghefhaa.P
set_option linter.unusedVariables false
set_option linter.unusedSimpArgs false
open Go.RowKit Go.Proofs.YtocndpddghefhaaW.PrintWords Go.Proofs.YtocndpddghefhaaW.PrintMore Go.Proofs.Ytocndpddghefhaa.X
theorem Ev_or {α : Type} {g : Nat → Bool → Option α} {a b : Prop} [Decidable a] [Decidable b] {r : α} (ht : (a ∨ b) → Ev (fun k => g k true) r) (hf : ¬ (a ∨ b) → Ev (fun k => g k false) r) : Ev (fun k => if a then g k true else g k (decide b)) r := by
  by_cases ca : a
  · simp only [if_pos ca]; exact ht (Or.inl ca)
  · simp only [if_neg ca]
    by_cases cb : b
    · rw [decide_eq_true cb]; exact ht (Or.inr cb)
    · rw [decide_eq_false cb]; exact hf (fun h => h.elim ca cb)
theorem Ev_if {α : Type} {c : Prop} [Decidable c] {f g : Nat → Option α} {r : α} (h1 : c → Ev f r) (h2 : ¬ c → Ev g r) : Ev (fun k => if c then f k else g k) r := by
  by_cases h : c
  · simp only [if_pos h]; exact h1 h
  · simp only [if_neg h]; exact h2 h
theorem within18_f (n a b : Int) : contangoref18_within.f n a b = some (decide (a ≤ n) && decide (n ≤ b)) := by
  unfold contangoref18_within.f
  by_cases h : n ≥ a
  · rw [if_pos h, decide_eq_true (show a ≤ n from h), Bool.true_and]
  · rw [if_neg h, decide_eq_false (show ¬ a ≤ n from h), Bool.false_and]
theorem and_iff (a b : Prop) [Decidable a] [Decidable b] : (decide a && decide b) = true ↔ a ∧ b := by simp
theorem md_one {S c m : Int} (hS : -36028797018963968 ≤ S ∧ S ≤ 36028797018963968) (hc : 1 ≤ c ∧ c ≤ 36028797018963968) (hm : 1 ≤ m ∧ m ≤ 5) :
    mulDiv S 1 c m = mdV S 1 c m ∧ (mdV S 1 c m).2 = 0 ∧ szI S * szI 1 < 18446744073709551616 ∧ -c < (mdV S 1 c m).1 * c - S ∧ (mdV S 1 c m).1 * c - S < c ∧ -36028797018963969 ≤ (mdV S 1 c m).1 ∧ (mdV S 1 c m).1 ≤ 36028797018963969 := by
  have f1 : fitsM S = true := (fitsM_iff _).2 (by omega)
  have f2 : fitsM 1 = true := rfl
  have f3 : fitsM c = true := (fitsM_iff _).2 (by omega)
  have hR := mdR_rng f1 f2 f3 (show c ≠ 0 by omega)
  have e1 : szI (1 : Int) = 1 := rfl
  have eQ : szI c = c := by unfold szI; rw [if_neg (by omega)]
  have hz : szI S ≤ 36028797018963968 ∧ 0 ≤ szI S := by unfold szI; split <;> omega
  have eq : mdQ S 1 c = szI S / c := by unfold mdQ; rw [eQ, e1, Int.mul_one]
  have er : mdR S 1 c = szI S % c := by unfold mdR; rw [eQ, e1, Int.mul_one]
  have hd := Int.mul_ediv_add_emod (szI S) c
  rw [e1, Int.mul_one, eQ] at hR
  have hN : mdN S 1 c m ≤ 36028797018963969 ∧ 0 ≤ mdN S 1 c m := by unfold mdN; split <;> omega
  have hV : mdV S 1 c m = (if belowB S 1 c = true then -mdN S 1 c m else mdN S 1 c m, 0) := by unfold mdV; rw [if_neg (by omega)]
  have hNc : mdN S 1 c m = mdQ S 1 c ∨ (0 < mdR S 1 c ∧ mdN S 1 c m = mdQ S 1 c + 1) := by
    unfold mdN; split
    · rename_i h; exact Or.inr ⟨h.1, rfl⟩
    · exact Or.inl rfl
  rw [← eq, ← er, Int.mul_comm] at hd
  have hQ1 : (mdQ S 1 c + 1) * c = mdQ S 1 c * c + c := by rw [Int.add_mul, Int.one_mul]
  refine ⟨?_, by rw [hV], by rw [e1, Int.mul_one]; omega, ?_⟩
  · unfold mulDiv; rw [if_pos ⟨f1, f2, f3, hm.1, hm.2⟩, if_neg (by omega)]
  · rw [hV]
    by_cases cs : S < 0
    · have eb : belowB S 1 c = true := by unfold belowB; rw [decide_eq_true cs, decide_eq_false (show ¬ (1 : Int) < 0 by decide), decide_eq_false (show ¬ c < 0 by omega)]; rfl
      have eS : szI S = -S := by unfold szI; rw [if_pos cs]
      rw [eb, if_pos rfl]
      show -c < -mdN S 1 c m * c - S ∧ -mdN S 1 c m * c - S < c ∧ _
      rw [Int.neg_mul]
      rcases hNc with h | ⟨h1, h⟩
      · rw [h]; omega
      · rw [h, hQ1]; omega
    · have eb : belowB S 1 c = false := by unfold belowB; rw [decide_eq_false cs, decide_eq_false (show ¬ (1 : Int) < 0 by decide), decide_eq_false (show ¬ c < 0 by omega)]; rfl
      have eS : szI S = S := by unfold szI; rw [if_neg cs]
      rw [eb, if_neg (by decide)]
      show -c < mdN S 1 c m * c - S ∧ mdN S 1 c m * c - S < c ∧ _
      rcases hNc with h | ⟨h1, h⟩
      · rw [h]; omega
      · rw [h, hQ1]; omega
def midE (a b t : Int) : Int × Int := if t < 1 ∨ t > 16777216 then (0, 16) else if -16777216 ≤ a ∧ a ≤ 16777216 ∧ -16777216 ≤ b ∧ b ≤ 16777216 ∧ a ≤ b then (wrap64 ((mdV (a + b) 1 (2 * t) 5).1 * t), 0) else (0, 17)
theorem mprice_f (n : Int) : mark_price.f n = some (decide (-16777216 ≤ n) && decide (n ≤ 16777216)) := by
  unfold mark_price.f
  by_cases h : n ≥ -16777216
  · rw [if_pos h, decide_eq_true (show -16777216 ≤ n from h), Bool.true_and]
  · rw [if_neg h, decide_eq_false (show ¬ -16777216 ≤ n from h), Bool.false_and]
theorem mid_f (a b t : Int) : Ev (fun k => mark_Mid.f k a b t) (midE a b t) := by
  unfold mark_Mid.f midE
  refine Ev_or (g := fun k x => mark_Mid.j0 k a b t x) (fun c => ?_) (fun c => ?_)
  · rw [if_pos c]; refine Ev_succ ?_; simp only [mark_Mid.j0, if_true]; exact Ev.now _
  rw [if_neg c]
  refine Ev_succ ?_
  simp only [mark_Mid.j0, Bool.false_eq_true, if_false, mprice_f, Option.bind_some, and_iff]
  refine Ev_if (fun c1 => Ev_if (fun c2 => Ev_if (fun c3 => by rw [if_neg (by omega)]; exact Ev.now _) fun c3 => ?_) fun c2 => by rw [if_neg (by omega)]; exact Ev.now _) fun c1 => by rw [if_neg (by omega)]; exact Ev.now _
  obtain ⟨m1, m2, m3, _⟩ := md_one (S := a + b) (c := 2 * t) (m := 5) (by omega) (by omega) (by omega)
  rw [if_pos (by omega)]
  simp only [w_id (show -9223372036854775808 ≤ a + b by omega) (by omega), w_id (show -9223372036854775808 ≤ 2 * t by omega) (by omega), mulDiv_f _ (a + b) 1 (2 * t) 5 m3, m1, m2, Option.bind_some]
  exact Ev.now _
theorem midR_f (a b t : Int) : Ev (fun k => contangoref18_Mid.f k a b t) (midE a b t) := by
  unfold contangoref18_Mid.f midE
  simp only [within18_f, Option.bind_some, and_iff]
  refine Ev_if (fun c => ?_) (fun c => by rw [if_pos (by omega)]; exact Ev.now _)
  rw [if_neg (by omega)]
  refine Ev_if (fun c1 => Ev_if (fun c2 => Ev_if (fun c3 => by rw [if_neg (by omega)]; exact Ev.now _) fun c3 => ?_) fun c2 => by rw [if_neg (by omega)]; exact Ev.now _) fun c1 => by rw [if_neg (by omega)]; exact Ev.now _
  obtain ⟨m1, m2, m3, _⟩ := md_one (S := a + b) (c := 2 * t) (m := 5) (by omega) (by omega) (by omega)
  rw [if_pos (by omega)]
  simp only [w_id (show -9223372036854775808 ≤ a + b by omega) (by omega), w_id (show -9223372036854775808 ≤ 2 * t by omega) (by omega)]
  refine Ev_bind (mulDivR_f _ _ _ _) ?_
  rw [m1]
  exact Ev.now _
theorem lt_of_mulp {x y c : Int} (hc : 1 ≤ c) (h : x * c < y * c) : x < y := by
  by_cases h2 : x < y
  · exact h2
  · have := Int.mul_le_mul_of_nonneg_right (show y ≤ x by omega) (show 0 ≤ c by omega)
    omega
theorem tmod_mul {n t : Int} (h : Int.tmod n t = 0) : ∃ z, n = z * t := by
  obtain ⟨z, hz⟩ := Int.dvd_of_tmod_eq_zero h
  exact ⟨z, by rw [hz, Int.mul_comm]⟩
theorem mid_between {a b t : Int} (ht : 1 ≤ t ∧ t ≤ 16777216) (ha : -16777216 ≤ a ∧ a ≤ 16777216) (hb : -16777216 ≤ b ∧ b ≤ 16777216) (hab : a ≤ b) (h1 : Int.tmod a t = 0) (h2 : Int.tmod b t = 0) :
    ∃ z, midE a b t = (z * t, 0) ∧ a ≤ z * t ∧ z * t ≤ b := by
  obtain ⟨A, rfl⟩ := tmod_mul h1
  obtain ⟨B, rfl⟩ := tmod_mul h2
  obtain ⟨m1, m2, m3, m4, m5, m6, m7⟩ := md_one (S := A * t + B * t) (c := 2 * t) (m := 5) (by omega) (by omega) (by omega)
  generalize hn : (mdV (A * t + B * t) 1 (2 * t) 5).1 = n at m4 m5 m6 m7
  have hAB : A ≤ B := by
    by_cases c : A ≤ B
    · exact c
    · have := Int.mul_lt_mul_of_pos_right (show B < A by omega) (show 0 < t by omega); omega
  have e1 : n * (2 * t) = 2 * n * t := by rw [← Int.mul_assoc, Int.mul_comm n 2]
  have u1 : 2 * n < A + B + 2 := lt_of_mulp ht.1 (by rw [Int.add_mul, Int.add_mul]; omega)
  have u2 : A + B - 2 < 2 * n := lt_of_mulp ht.1 (by rw [Int.sub_mul, Int.add_mul]; omega)
  have v1 := Int.mul_le_mul_of_nonneg_right (show A ≤ n by omega) (show 0 ≤ t by omega)
  have v2 := Int.mul_le_mul_of_nonneg_right (show n ≤ B by omega) (show 0 ≤ t by omega)
  refine ⟨n, ?_, v1, v2⟩
  unfold midE
  rw [if_neg (by omega), if_pos (by omega), hn, w_id (by omega) (by omega)]
end Go.Proofs.Ytocndpddghefhaa.P
end
section
namespace Go.Proofs.Ytocndpddghefhaa.P
open Go.RowKit Go.Proofs.YtocndpddghefhaaW.PrintWords Go.Proofs.YtocndpddghefhaaW.PrintMore Go.Proofs.Ytocndpddghefhaa.X
set_option maxRecDepth 100000 in
theorem goes18 : Ev (fun k => contangolaw18_goes.f k) true := Ev.of (k := 70) (contangolaw18_goes.mono) (by decide +kernel)
end Go.Proofs.Ytocndpddghefhaa.P
end
section
namespace Go.Proofs.Ytocndpddghefhaa.Pure
set_option linter.unusedVariables false
set_option linter.unusedSimpArgs false
open Go.RowKit Go.Proofs.YtocndpddghefhaaW.PrintWords Go.Proofs.YtocndpddghefhaaW.PrintMore Go.Proofs.Ytocndpddghefhaa.X Go.Proofs.Ytocndpddghefhaa.P
theorem MarkMids : ∀ (a0 : Int) (a1 : Int) (a2 : Int), (Lit.int .i64 a0).wf = true → (Lit.int .i64 a1).wf = true → (Lit.int .i64 a2).wf = true → ∃ k, X.contangolaw18_MarkMids.f k a0 a1 a2 = some true := by
  intro a b t _ _ _
  apply Ev.rounds
  unfold contangolaw18_MarkMids.f
  refine Ev_bind (mid_f a b t) ?_
  refine Ev_bind (midR_f a b t) ?_
  simp only [if_true]
  refine Ev_if (fun he => ?_) (fun _ => Ev_id goes18)
  have ht : ¬ (t < 1 ∨ t > 16777216) := fun h => by unfold midE at he; rw [if_pos h] at he; exact absurd he (by decide)
  have hab : -16777216 ≤ a ∧ a ≤ 16777216 ∧ -16777216 ≤ b ∧ b ≤ 16777216 ∧ a ≤ b := by
    unfold midE at he
    rw [if_neg ht] at he
    split at he
    · assumption
    · exact absurd he (by decide)
  simp only [if_neg (show ¬ t = 0 by omega)]
  refine Ev_if (fun h1 => Ev_if (fun h2 => ?_) (fun _ => Ev_id goes18)) (fun _ => Ev_id goes18)
  obtain ⟨z, e, u1, u2⟩ := mid_between (by omega) ⟨hab.1, hab.2.1⟩ ⟨hab.2.2.1, hab.2.2.2.1⟩ hab.2.2.2.2 h1 h2
  simp only [e, if_pos (show z * t ≥ a from u1), if_pos u2]
  exact Ev_id goes18
end Go.Proofs.Ytocndpddghefhaa.Pure
end
