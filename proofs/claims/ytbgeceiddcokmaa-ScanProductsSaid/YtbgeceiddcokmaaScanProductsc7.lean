/- For ScanProducts: contracts, and facts on lists and numbers, that it uses (part 7). -/
import Derived.ChangeArms
import Derived.Deep.Slices
import Derived.Laws.BitsLemmas
import Derived.Laws.Strings
import Derived.SizedLaws
import Derived.Test.YtbgeceiddcokmaaScanProductsc6
import Derived.WideShapes
section
namespace Go.Proofs.Ytbgeceiddcokmaa.X
open Go.RowKit Go.Proofs.YtbgeceiddcokmaaW.PrintWords Go.Proofs.YtbgeceiddcokmaaW.PrintLast Go.Proofs.YtbgeceiddcokmaaW.PrintMore
attribute [local go_sem] max2_int min2_int max_two min_two max_three min_three max_four min_four
set_option linter.unusedVariables false
set_option linter.unusedSimpArgs false
mutual
def contangolaw23_ScanProducts.j0 : Nat → List (S73) → List (S73) → List (List (S73)) → List (List (S73)) → Bool → Option (Bool)
  | 0, _, _, _, _, _ => none
  | k + 1, x0, x3, x5, x7, x38 => if x38 = true then (none) else (contangolaw23_ScanProducts.l0 k x0 x3 x5 x7 (x5.length : Int) 0)
def contangolaw23_ScanProducts.l0 : Nat → List (S73) → List (S73) → List (List (S73)) → List (List (S73)) → Int → Int → Option (Bool)
  | 0, _, _, _, _, _, _ => none
  | k + 1, x0, x3, x5, x7, x40, x41 => if x41 < x40 then (if 0 ≤ x41 then (if x41 < (x5.length : Int) then (if x41 < (x7.length : Int) then ((contangoref23_Positions.f k (rd_L9 x5 x41) (rd_L9 x7 x41)).bind fun t123 => (if t123 = true then (contangolaw23_ScanProducts.l0 k x0 x3 x5 x7 x40 (wrap64 (x41 + 1))) else (none))) else (none)) else (none)) else (none)) else (contangolaw23_ScanProducts.l1 k x0 x3 x5 (x5.length : Int) 0)
def contangolaw23_ScanProducts.l1 : Nat → List (S73) → List (S73) → List (List (S73)) → Int → Int → Option (Bool)
  | 0, _, _, _, _, _ => none
  | k + 1, x0, x3, x5, x56, x57 => if x57 < x56 then (if 0 ≤ x57 then (if x57 < (x5.length : Int) then (contangolaw23_ScanProducts.l2 k x0 x3 x5 x57 x56 x57 ((rd_L9 x5 x57).length : Int) 0) else (none)) else (none)) else ((contangoref23_Positions.f k x3 x0).bind fun t124 => (if t124 = true then ((contangolaw23_goes.f k).bind fun t125 => (some t125)) else (none)))
def contangolaw23_ScanProducts.l2 : Nat → List (S73) → List (S73) → List (List (S73)) → Int → Int → Int → Int → Int → Option (Bool)
  | 0, _, _, _, _, _, _, _, _ => none
  | k + 1, x0, x3, x5, x9, x56, x57, x64, x65 => if x65 < x64 then (if 0 ≤ x9 then (if x9 < (x5.length : Int) then (if 0 ≤ x65 then (if x65 < ((rd_L9 x5 x9).length : Int) then (contangolaw23_ScanProducts.l2 k x0 x3 (x5.set (x9 : Int).toNat ((rd_L9 x5 x9).set (x65 : Int).toNat (⟨(⟨(rd_T73 (rd_L9 x5 x9) x65).f0.f0, (rd_T73 (rd_L9 x5 x9) x65).f0.f1, (rd_T73 (rd_L9 x5 x9) x65).f0.f2, (rd_T73 (rd_L9 x5 x9) x65).f0.f3⟩ : S39), wrap64 (77 + x9), (rd_T73 (rd_L9 x5 x9) x65).f2⟩ : S73))) x9 x56 x57 x64 (wrap64 (x65 + 1))) else (none)) else (none)) else (none)) else (none)) else (contangolaw23_ScanProducts.l1 k x0 x3 x5 x56 (wrap64 (x57 + 1)))
end
def contangolaw23_ScanProducts.f (k : Nat) (l0 : List (S73)) : Option (Bool) := if (l0.length : Int) > 300 then ((contangolaw23_goes.f k).bind fun t101 => (some t101)) else ((some (([] : List (S73)) : List (S73))).bind fun y102 => (if y102.length + l0.length < 2513169434916 then ((some (y102 ++ l0 : List (S73))).bind fun y105 => ((scan_Products.f k y105).bind fun bt108 => ((contangoref23_Products.f k l0).bind fun bt114 => ((contangoref23_Names.f k bt108.1 bt114.1).bind fun t120 => (if t120 = true then (contangolaw23_ScanProducts.j0 k l0 y105 bt108.2 bt114.2 ((bt108.2.length : Int) != (bt114.2.length : Int))) else (contangolaw23_ScanProducts.j0 k l0 y105 bt108.2 bt114.2 true)))))) else (none)))
theorem contangolaw23_ScanProducts.mono_l : ∀ k, (∀ y0 y1 y2 y3 y4, LeO (contangolaw23_ScanProducts.j0 k y0 y1 y2 y3 y4) (contangolaw23_ScanProducts.j0 (k + 1) y0 y1 y2 y3 y4)) ∧ (∀ y0 y1 y2 y3 y4 y5, LeO (contangolaw23_ScanProducts.l0 k y0 y1 y2 y3 y4 y5) (contangolaw23_ScanProducts.l0 (k + 1) y0 y1 y2 y3 y4 y5)) ∧ (∀ y0 y1 y2 y3 y4, LeO (contangolaw23_ScanProducts.l1 k y0 y1 y2 y3 y4) (contangolaw23_ScanProducts.l1 (k + 1) y0 y1 y2 y3 y4)) ∧ (∀ y0 y1 y2 y3 y4 y5 y6 y7, LeO (contangolaw23_ScanProducts.l2 k y0 y1 y2 y3 y4 y5 y6 y7) (contangolaw23_ScanProducts.l2 (k + 1) y0 y1 y2 y3 y4 y5 y6 y7))
  | 0 => ⟨fun _ _ _ _ _ r h => by simp [contangolaw23_ScanProducts.j0] at h, fun _ _ _ _ _ _ r h => by simp [contangolaw23_ScanProducts.l0] at h, fun _ _ _ _ _ r h => by simp [contangolaw23_ScanProducts.l1] at h, fun _ _ _ _ _ _ _ _ r h => by simp [contangolaw23_ScanProducts.l2] at h⟩
  | k + 1 => by
    obtain ⟨ih0, ih1, ih2, ih3⟩ := contangolaw23_ScanProducts.mono_l k
    refine ⟨?_, ?_, ?_, ?_⟩
    · intro y0 y1 y2 y3 y4
      unfold contangolaw23_ScanProducts.j0
      repeat' first
      | (with_reducible exact ih0 _ _ _ _ _)
      | (with_reducible exact ih1 _ _ _ _ _ _)
      | (with_reducible exact ih2 _ _ _ _ _)
      | (with_reducible exact ih3 _ _ _ _ _ _ _ _)
      | (with_reducible exact contangolaw23_goes.mono _)
      | (with_reducible exact contangoref23_Names.mono _ _ _)
      | (with_reducible exact contangoref23_Positions.mono _ _ _)
      | (with_reducible exact contangoref23_Products.mono _ _)
      | (with_reducible exact scan_Products.mono _ _)
      | (with_reducible exact LeO.refl _)
      | (with_reducible exact LeO.none _)
      | (with_reducible refine LeO.ite ?_ ?_)
      | (with_reducible refine LeO.bind ?_ (fun _ => ?_))
      | exact ih0 _ _ _ _ _
      | exact ih1 _ _ _ _ _ _
      | exact ih2 _ _ _ _ _
      | exact ih3 _ _ _ _ _ _ _ _
      | exact contangolaw23_goes.mono _
      | exact contangoref23_Names.mono _ _ _
      | exact contangoref23_Positions.mono _ _ _
      | exact contangoref23_Products.mono _ _
      | exact scan_Products.mono _ _
      | exact LeO.none _
      | refine LeO.ite ?_ ?_
      | refine LeO.bind ?_ (fun _ => ?_)
    · intro y0 y1 y2 y3 y4 y5
      unfold contangolaw23_ScanProducts.l0
      repeat' first
      | (with_reducible exact ih0 _ _ _ _ _)
      | (with_reducible exact ih1 _ _ _ _ _ _)
      | (with_reducible exact ih2 _ _ _ _ _)
      | (with_reducible exact ih3 _ _ _ _ _ _ _ _)
      | (with_reducible exact contangolaw23_goes.mono _)
      | (with_reducible exact contangoref23_Names.mono _ _ _)
      | (with_reducible exact contangoref23_Positions.mono _ _ _)
      | (with_reducible exact contangoref23_Products.mono _ _)
      | (with_reducible exact scan_Products.mono _ _)
      | (with_reducible exact LeO.refl _)
      | (with_reducible exact LeO.none _)
      | (with_reducible refine LeO.ite ?_ ?_)
      | (with_reducible refine LeO.bind ?_ (fun _ => ?_))
      | exact ih0 _ _ _ _ _
      | exact ih1 _ _ _ _ _ _
      | exact ih2 _ _ _ _ _
      | exact ih3 _ _ _ _ _ _ _ _
      | exact contangolaw23_goes.mono _
      | exact contangoref23_Names.mono _ _ _
      | exact contangoref23_Positions.mono _ _ _
      | exact contangoref23_Products.mono _ _
      | exact scan_Products.mono _ _
      | exact LeO.none _
      | refine LeO.ite ?_ ?_
      | refine LeO.bind ?_ (fun _ => ?_)
    · intro y0 y1 y2 y3 y4
      unfold contangolaw23_ScanProducts.l1
      repeat' first
      | (with_reducible exact ih0 _ _ _ _ _)
      | (with_reducible exact ih1 _ _ _ _ _ _)
      | (with_reducible exact ih2 _ _ _ _ _)
      | (with_reducible exact ih3 _ _ _ _ _ _ _ _)
      | (with_reducible exact contangolaw23_goes.mono _)
      | (with_reducible exact contangoref23_Names.mono _ _ _)
      | (with_reducible exact contangoref23_Positions.mono _ _ _)
      | (with_reducible exact contangoref23_Products.mono _ _)
      | (with_reducible exact scan_Products.mono _ _)
      | (with_reducible exact LeO.refl _)
      | (with_reducible exact LeO.none _)
      | (with_reducible refine LeO.ite ?_ ?_)
      | (with_reducible refine LeO.bind ?_ (fun _ => ?_))
      | exact ih0 _ _ _ _ _
      | exact ih1 _ _ _ _ _ _
      | exact ih2 _ _ _ _ _
      | exact ih3 _ _ _ _ _ _ _ _
      | exact contangolaw23_goes.mono _
      | exact contangoref23_Names.mono _ _ _
      | exact contangoref23_Positions.mono _ _ _
      | exact contangoref23_Products.mono _ _
      | exact scan_Products.mono _ _
      | exact LeO.none _
      | refine LeO.ite ?_ ?_
      | refine LeO.bind ?_ (fun _ => ?_)
    · intro y0 y1 y2 y3 y4 y5 y6 y7
      unfold contangolaw23_ScanProducts.l2
      repeat' first
      | (with_reducible exact ih0 _ _ _ _ _)
      | (with_reducible exact ih1 _ _ _ _ _ _)
      | (with_reducible exact ih2 _ _ _ _ _)
      | (with_reducible exact ih3 _ _ _ _ _ _ _ _)
      | (with_reducible exact contangolaw23_goes.mono _)
      | (with_reducible exact contangoref23_Names.mono _ _ _)
      | (with_reducible exact contangoref23_Positions.mono _ _ _)
      | (with_reducible exact contangoref23_Products.mono _ _)
      | (with_reducible exact scan_Products.mono _ _)
      | (with_reducible exact LeO.refl _)
      | (with_reducible exact LeO.none _)
      | (with_reducible refine LeO.ite ?_ ?_)
      | (with_reducible refine LeO.bind ?_ (fun _ => ?_))
      | exact ih0 _ _ _ _ _
      | exact ih1 _ _ _ _ _ _
      | exact ih2 _ _ _ _ _
      | exact ih3 _ _ _ _ _ _ _ _
      | exact contangolaw23_goes.mono _
      | exact contangoref23_Names.mono _ _ _
      | exact contangoref23_Positions.mono _ _ _
      | exact contangoref23_Products.mono _ _
      | exact scan_Products.mono _ _
      | exact LeO.none _
      | refine LeO.ite ?_ ?_
      | refine LeO.bind ?_ (fun _ => ?_)
theorem contangolaw23_ScanProducts.mono : ∀ a0 k, LeO (contangolaw23_ScanProducts.f k a0) (contangolaw23_ScanProducts.f (k + 1) a0) := by
  intro a0 k
  obtain ⟨ih0, ih1, ih2, ih3⟩ := contangolaw23_ScanProducts.mono_l k
  unfold contangolaw23_ScanProducts.f
  repeat' first
      | (with_reducible exact ih0 _ _ _ _ _)
      | (with_reducible exact ih1 _ _ _ _ _ _)
      | (with_reducible exact ih2 _ _ _ _ _)
      | (with_reducible exact ih3 _ _ _ _ _ _ _ _)
      | (with_reducible exact contangolaw23_goes.mono _)
      | (with_reducible exact contangoref23_Names.mono _ _ _)
      | (with_reducible exact contangoref23_Positions.mono _ _ _)
      | (with_reducible exact contangoref23_Products.mono _ _)
      | (with_reducible exact scan_Products.mono _ _)
      | (with_reducible exact LeO.refl _)
      | (with_reducible exact LeO.none _)
      | (with_reducible refine LeO.ite ?_ ?_)
      | (with_reducible refine LeO.bind ?_ (fun _ => ?_))
      | exact ih0 _ _ _ _ _
      | exact ih1 _ _ _ _ _ _
      | exact ih2 _ _ _ _ _
      | exact ih3 _ _ _ _ _ _ _ _
      | exact contangolaw23_goes.mono _
      | exact contangoref23_Names.mono _ _ _
      | exact contangoref23_Positions.mono _ _ _
      | exact contangoref23_Products.mono _ _
      | exact scan_Products.mono _ _
      | exact LeO.none _
      | refine LeO.ite ?_ ?_
      | refine LeO.bind ?_ (fun _ => ?_)
set_option maxHeartbeats 8000000 in
set_option maxRecDepth 100000 in
theorem contangolaw23_ScanProducts.calls (k : Nat) (A0 : Option Addr) (c0 : Nat) (l0 : List (S73)) (r : Bool) (w : World) (hr0 : Kd.C k73 w A0 l0.length l0) (hc0 : l0.length ≤ c0) (h : contangolaw23_ScanProducts.f k l0 = some r) :
    Calls Try.prog 9 #[.slice A0 l0.length c0] w fun e w' => e = .returned (.bool r) ∧ Below w.heap.size w w' := by
  have HR0 := Aside0.mk hr0
  have HC0 := Aside0.mk hc0
  clear hr0 hc0
  have HB := Aside0.mk (Below.refl w.heap.size w)
  have H : (if (l0.length : Int) > 300 then ((contangolaw23_goes.f k).bind fun t101 => (some t101)) else ((some (([] : List (S73)) : List (S73))).bind fun y102 => (if y102.length + l0.length < 2513169434916 then ((some (y102 ++ l0 : List (S73))).bind fun y105 => ((scan_Products.f k y105).bind fun bt108 => ((contangoref23_Products.f k l0).bind fun bt114 => ((contangoref23_Names.f k bt108.1 bt114.1).bind fun t120 => (if t120 = true then (contangolaw23_ScanProducts.j0 k l0 y105 bt108.2 bt114.2 ((bt108.2.length : Int) != (bt114.2.length : Int))) else (contangolaw23_ScanProducts.j0 k l0 y105 bt108.2 bt114.2 true)))))) else (none)))) = some r := h
  clear h
  by_cases c2 : (l0.length : Int) > 300
  · rw [if_pos c2] at H
    have c2b0 : decide (300 < (l0.length : Int)) = true := decide_eq_true c2
    have c2b1 : decide (300 < l0.length) = true := decide_eq_true (by omega)
    clear c2
    replace H := Option.bind_eq_some_iff.mp H
    obtain ⟨t101, A30, H⟩ := H
    replace H : (some t101) = some r := H
    have A3 := Aside0.mk A30
    clear A30
    obtain rfl := Option.some.inj H
    go_enter Try.func9, Try.ntmps9
    go_wp2_with (first | (go_at_call 25; (with_reducible refine (contangolaw23_goes.calls k  t101 _ A3.out).mono ?_); rintro e w4 ⟨rfl, hb⟩; have n0_ := Aside0.mk (below_step (by repeat (first | (with_reducible first | exact HB.out | apply below_alloc | apply pw_below_drewN | apply below_drew1) | exact HB.out)) hb); clear HB; have HB := n0_; clear n0_; (try clear hb); (try clear hb2); (try clear hk); (try clear hi)))
    repeat (go_quiet (first | (go_at_call 25; (with_reducible refine (contangolaw23_goes.calls k  t101 _ A3.out).mono ?_); rintro e w4 ⟨rfl, hb⟩; have n0_ := Aside0.mk (below_step (by repeat (first | (with_reducible first | exact HB.out | apply below_alloc | apply pw_below_drewN | apply below_drew1) | exact HB.out)) hb); clear HB; have HB := n0_; clear n0_; (try clear hb); (try clear hb2); (try clear hk); (try clear hi))); try go_wp2_with (first | (go_at_call 25; (with_reducible refine (contangolaw23_goes.calls k  t101 _ A3.out).mono ?_); rintro e w4 ⟨rfl, hb⟩; have n0_ := Aside0.mk (below_step (by repeat (first | (with_reducible first | exact HB.out | apply below_alloc | apply pw_below_drewN | apply below_drew1) | exact HB.out)) hb); clear HB; have HB := n0_; clear n0_; (try clear hb); (try clear hb2); (try clear hk); (try clear hi))))
    go_ret
    exact ⟨by first | rfl | (simp [errW_none, errW_some] <;> rfl) | (simp [*, errW_none, errW_some] <;> rfl), by repeat (first | (with_reducible first | exact HB.out | apply below_alloc | apply pw_below_drewN | apply below_drew1) | exact HB.out)⟩
  · rw [if_neg c2] at H
    have c2b0 : decide (300 < (l0.length : Int)) = false := decide_eq_false c2
    have c2b1 : decide (300 < l0.length) = false := decide_eq_false (by omega)
    clear c2
    obtain ⟨y102, hy102⟩ : ∃ y_ : List (S73), y_ = (([] : List (S73))) := ⟨_, rfl⟩
    replace H : (if y102.length + l0.length < 2513169434916 then ((some (y102 ++ l0 : List (S73))).bind fun y105 => ((scan_Products.f k y105).bind fun bt108 => ((contangoref23_Products.f k l0).bind fun bt114 => ((contangoref23_Names.f k bt108.1 bt114.1).bind fun t120 => (if t120 = true then (contangolaw23_ScanProducts.j0 k l0 y105 bt108.2 bt114.2 ((bt108.2.length : Int) != (bt114.2.length : Int))) else (contangolaw23_ScanProducts.j0 k l0 y105 bt108.2 bt114.2 true)))))) else (none)) = some r := by first | (rw [hy102]; with_reducible exact H) | (have H2_ := (Option.bind_some _ _).symm.trans H; rw [hy102]; with_reducible exact H2_) | (have H2_ := (Option.bind_some _ _).symm.trans H; with_reducible exact H2_) | with_reducible exact H | (rw [hy102]; exact H) | exact H
    have Ny102 := Aside0.mk hy102
    clear hy102
    by_cases c5 : y102.length + l0.length < 2513169434916
    · rw [if_pos c5] at H
      have LMc5 := Aside0.mk c5
      clear c5
      obtain ⟨y105, hy105⟩ : ∃ y_ : List (S73), y_ = (y102 ++ l0) := ⟨_, rfl⟩
      replace H : ((scan_Products.f k y105).bind fun bt108 => ((contangoref23_Products.f k l0).bind fun bt114 => ((contangoref23_Names.f k bt108.1 bt114.1).bind fun t120 => (if t120 = true then (contangolaw23_ScanProducts.j0 k l0 y105 bt108.2 bt114.2 ((bt108.2.length : Int) != (bt114.2.length : Int))) else (contangolaw23_ScanProducts.j0 k l0 y105 bt108.2 bt114.2 true))))) = some r := by first | (rw [hy105]; with_reducible exact H) | (have H2_ := (Option.bind_some _ _).symm.trans H; rw [hy105]; with_reducible exact H2_) | (have H2_ := (Option.bind_some _ _).symm.trans H; with_reducible exact H2_) | with_reducible exact H | (rw [hy105]; exact H) | exact H
      have Ny105 := Aside0.mk hy105
      clear hy105
      replace H := Option.bind_eq_some_iff.mp H
      obtain ⟨⟨t108, t109⟩, A60, H⟩ := H
      replace H : ((contangoref23_Products.f k l0).bind fun bt114 => ((contangoref23_Names.f k t108 bt114.1).bind fun t120 => (if t120 = true then (contangolaw23_ScanProducts.j0 k l0 y105 t109 bt114.2 ((t109.length : Int) != (bt114.2.length : Int))) else (contangolaw23_ScanProducts.j0 k l0 y105 t109 bt114.2 true)))) = some r := H
      have A6 := Aside0.mk A60
      clear A60
      replace H := Option.bind_eq_some_iff.mp H
      obtain ⟨⟨t114, t115⟩, A70, H⟩ := H
      replace H : ((contangoref23_Names.f k t108 t114).bind fun t120 => (if t120 = true then (contangolaw23_ScanProducts.j0 k l0 y105 t109 t115 ((t109.length : Int) != (t115.length : Int))) else (contangolaw23_ScanProducts.j0 k l0 y105 t109 t115 true))) = some r := H
      have A7 := Aside0.mk A70
      clear A70
      have HC8 := Aside0.mk H
      clear H
      go_enter Try.func9, Try.ntmps9
      go_upto_region 6 with (first | ((with_reducible refine gate_dst (N := 15) rfl ?_); (try (refine gate_guard (by rfl) ?_; dsimp only)); refine Kd.R_lit k73 _ 73 ?hg (N := 15) ?hd (xs := ([] : List (S73))) (inner := []) (ok := fun _ => True) (okp := fun _ => True) ?hr ?hp (fun _ hk => hk) trivial (Below.refl _ _) (Nat.le_refl _) (by simp) ?_; (case hd => rfl); (case hg => rfl); (case hr => first | (go_simp; done) | (go_simp; rfl)); (case hp => exact (Reps.none _ _)); intro v103 w9 ho10 hb hg_ hnew_; clear hg_ hnew_; (first | rw [← Ny102.out] at ho10 | (simp only [Int.reduceToNat] at ho10; rw [← Ny102.out] at ho10)); have n0_ := Aside0.mk (Kd.R_lower ho10 (below_size (by repeat (first | (with_reducible first | exact HB.out | apply below_alloc | apply pw_below_drewN | apply below_drew1) | exact HB.out)))); have n1_ := Aside0.mk (below_step (by repeat (first | (with_reducible first | exact HB.out | apply below_alloc | apply pw_below_drewN | apply below_drew1) | exact HB.out)) hb); clear HB; have HO104 := n0_; have HB := n1_; clear n0_ n1_; clear hb ho10) | ((with_reducible refine gate_builtin (b := .append) (xs := #[.tmp 15, .tmp 16]) rfl ?_); (try (refine gate_guard (by rfl) ?_; dsimp only)); at_builtin; refine Kd.R_append_rows k73 (w0 := w) w.heap.size rfl (.tmp 15) (.tmp 16) 55 73 (.agg #[(.string ⟨#[]⟩), (.int .i64 0), (.int .i64 0), (.int .i64 0), (.int .i64 0), (.int .i64 0)]) 56 rfl Try.underlying55 info73 rfl (by decide) (by omega) v103 y102 l0 _ _ _ (fun _ => True) (fun _ => False) rfl rfl ?aO ?aR (fun _ _ h => h) (fun _ h => h.elim) ?aF ?aB ?aS ?aL ?_; (case aR => repeat (first | exact (Kd.C_below HR0.out HB.out) | (with_reducible refine Kd.C_alloc ?_ _) | (with_reducible refine Kd.C_drewN ?_ _) | (with_reducible refine Kd.C_drew ?_))); (case aB => exact (by repeat (first | (with_reducible first | exact HB.out | apply below_alloc | apply pw_below_drewN | apply below_drew1) | exact HB.out))); (case aF => exact (fun _ _ => trivial)); (case aO => exact (by (with_reducible repeat (first | apply Kd.R_alloc | apply Kd.R_drewN | apply Kd.R_drew)); exact HO104.out)); (case aS => exact (below_size (by repeat (first | (with_reducible first | exact HB.out | apply below_alloc | apply pw_below_drewN | apply below_drew1) | exact HB.out)))); (case aL => have := LMc5.out; omega); intro v106 w11 ho hb hg hat; rw [← Ny105.out] at ho; have n0_ := Aside0.mk (hb); have n1_ := Aside0.mk (ho); clear HB; clear HO104; have HB := n0_; have HO107 := n1_; clear n0_ n1_; clear ho hb hg hat; obtain ⟨Ao12, co12, eo12⟩ := Kd.R_slice HO107.out; subst eo12) | (go_at_call 37; (with_reducible refine (scan_Products.calls k _ _ y105 t108 t109 _ ?side1 ?side2 A6.out).mono ?_); (case side1 => repeat (first | exact (Kd.R_reads' HO107.out).2.2 | (with_reducible refine Kd.C_alloc ?_ _) | (with_reducible refine Kd.C_drewN ?_ _) | (with_reducible refine Kd.C_drew ?_))); (case side2 => exact (Kd.R_reads' HO107.out).2.1); rintro e w13 ⟨v110, v112, rfl, ho0, ho1, hb⟩; have n0_ := Aside0.mk (Kd.R_below (by (with_reducible repeat (first | apply Kd.R_alloc | apply Kd.R_drewN | apply Kd.R_drew)); exact HO107.out) hb); have n1_ := Aside0.mk (Kd.R_lower ho0 (below_size (by repeat (first | (with_reducible first | exact HB.out | apply below_alloc | apply pw_below_drewN | apply below_drew1) | exact HB.out)))); have n2_ := Aside0.mk (Kd.S_lower (Kd.S_new' ho1 (Kd.R_lt (by (with_reducible repeat (first | apply Kd.R_alloc | apply Kd.R_drewN | apply Kd.R_drew)); exact HO107.out))) (below_size (by repeat (first | (with_reducible first | exact HB.out | apply below_alloc | apply pw_below_drewN | apply below_drew1) | exact HB.out)))); have n3_ := Aside0.mk (below_step (by repeat (first | (with_reducible first | exact HB.out | apply below_alloc | apply pw_below_drewN | apply below_drew1) | exact HB.out)) hb); clear HO107; clear HB; have HO107 := n0_; have HO111 := n1_; have HO113 := n2_; have HB := n3_; clear n0_ n1_ n2_ n3_; (try clear hb); (try clear hb2); (try clear hk); (try clear hi); (try clear ho0); (try clear ho1)) | (go_at_call 38; (with_reducible refine (contangoref23_Products.calls k _ _ l0 t114 t115 _ ?side1 ?side2 A7.out).mono ?_); (case side1 => repeat (first | exact (Kd.C_below HR0.out HB.out) | (with_reducible refine Kd.C_alloc ?_ _) | (with_reducible refine Kd.C_drewN ?_ _) | (with_reducible refine Kd.C_drew ?_))); (case side2 => exact HC0.out); rintro e w14 ⟨v116, v118, rfl, ho0, ho1, hb⟩; have n0_ := Aside0.mk (Kd.R_below (by (with_reducible repeat (first | apply Kd.R_alloc | apply Kd.R_drewN | apply Kd.R_drew)); exact HO107.out) hb); have n1_ := Aside0.mk (Kd.R_elder' (by (with_reducible repeat (first | apply Kd.R_alloc | apply Kd.R_drewN | apply Kd.R_drew)); exact HO111.out) (Kd.R_base ho0) hb); have n2_ := Aside0.mk (Kd.S_elder' (by (with_reducible repeat (first | apply Kd.S_alloc | apply Kd.S_drewN | apply Kd.S_drew)); exact HO113.out) (Kd.S_base ho1) hb); have n3_ := Aside0.mk (Kd.R_lower (Kd.R_new' ho0 (Kd.R_lt (by (with_reducible repeat (first | apply Kd.R_alloc | apply Kd.R_drewN | apply Kd.R_drew)); exact HO111.out))) (below_size (by repeat (first | (with_reducible first | exact HB.out | apply below_alloc | apply pw_below_drewN | apply below_drew1) | exact HB.out)))); have n4_ := Aside0.mk (Kd.S_lower (Kd.S_new' (Kd.S_new' ho1 (Kd.R_lt (by (with_reducible repeat (first | apply Kd.R_alloc | apply Kd.R_drewN | apply Kd.R_drew)); exact HO107.out))) (Kd.S_lt (by (with_reducible repeat (first | apply Kd.S_alloc | apply Kd.S_drewN | apply Kd.S_drew)); exact HO113.out))) (below_size (by repeat (first | (with_reducible first | exact HB.out | apply below_alloc | apply pw_below_drewN | apply below_drew1) | exact HB.out)))); have n5_ := Aside0.mk (below_step (by repeat (first | (with_reducible first | exact HB.out | apply below_alloc | apply pw_below_drewN | apply below_drew1) | exact HB.out)) hb); clear HO107; clear HO111; clear HO113; clear HB; have HO107 := n0_; have HO111 := n1_; have HO113 := n2_; have HO117 := n3_; have HO119 := n4_; have HB := n5_; clear n0_ n1_ n2_ n3_ n4_ n5_; (try clear hb); (try clear hb2); (try clear hk); (try clear hi); (try clear ho0); (try clear ho1)))
      (try simp only [Act.put, List.setIfInBounds_toArray, List.set_cons_zero, List.set_cons_succ])
      go_cut [38] (fun v38 wc => ∃ (kq : Nat) (x38_7 : Bool), v38 = .bool x38_7 ∧ Aside0 (contangolaw23_ScanProducts.j0 kq l0 y105 t109 t115 x38_7 = some r) ∧ Aside0 (kq ≤ k) ∧ Aside0 (Kd.R k73 73 wc w.heap.size (fun _ => True) (.slice Ao12 y105.length co12) y105) ∧ Aside0 (Kd.S (Kd.slice 73 k73) 55 wc w.heap.size (fun k_ => some k_ ≠ ((.slice Ao12 y105.length co12) : Value).ownBlock ∧ some k_ ≠ (v118 : Value).ownBlock) v112 t109) ∧ Aside0 (Kd.S (Kd.slice 73 k73) 55 wc w.heap.size (fun k_ => some k_ ≠ ((.slice Ao12 y105.length co12) : Value).ownBlock ∧ some k_ ≠ (v112 : Value).ownBlock) v118 t115) ∧ Aside0 (Below w.heap.size w wc))
      case first =>
        have H := HC8.out
        clear HC8
        replace H := Option.bind_eq_some_iff.mp H
        obtain ⟨t120, A150, H⟩ := H
        replace H : (if t120 = true then (contangolaw23_ScanProducts.j0 k l0 y105 t109 t115 ((t109.length : Int) != (t115.length : Int))) else (contangolaw23_ScanProducts.j0 k l0 y105 t109 t115 true)) = some r := H
        have A15 := Aside0.mk A150
        clear A150
        by_cases c16 : t120 = true
        · subst c16
          have H1 : (contangolaw23_ScanProducts.j0 k l0 y105 t109 t115 ((t109.length : Int) != (t115.length : Int))) = some r := by rw [if_pos rfl] at H; exact H
          clear H
          have H := H1
          clear H1
          have H' := Aside0.mk H
          clear H
          obtain ⟨Ao17, co17, eo17⟩ := Kd.R_slice HO111.out
          subst eo17
          obtain ⟨Ao18, co18, eo18⟩ := Kd.R_slice HO117.out
          subst eo18
          go_wp2_with (first | (go_at_call 39; (with_reducible refine (contangoref23_Names.calls k _ _ t108 _ _ t114 true _ ?side1 ?side2 ?side3 ?side4 A15.out).mono ?_); (case side1 => repeat (first | exact (Kd.R_reads' HO111.out).2.2 | (with_reducible refine Kd.C_alloc ?_ _) | (with_reducible refine Kd.C_drewN ?_ _) | (with_reducible refine Kd.C_drew ?_))); (case side2 => exact (Kd.R_reads' HO111.out).2.1); (case side3 => repeat (first | exact (Kd.R_reads' HO117.out).2.2 | (with_reducible refine Kd.C_alloc ?_ _) | (with_reducible refine Kd.C_drewN ?_ _) | (with_reducible refine Kd.C_drew ?_))); (case side4 => exact (Kd.R_reads' HO117.out).2.1); rintro e w' ⟨rfl, ⟨nd, rfl⟩⟩; (try first | exact ⟨rfl, _, World.drewN_drewN _ _ _⟩ | exact ⟨rfl, _, Eq.trans (World.drewN_drewN _ _ _) (congrArg (World.drewN _) (Nat.add_assoc _ _ _))⟩); obtain ⟨Ao19, co19, eo19⟩ := Kd.S_slice HO113.out; subst eo19; obtain ⟨Ao20, co20, eo20⟩ := Kd.S_slice HO119.out; subst eo20))
          go_meet
          case rel => exact ⟨_, (((t109.length : Int) != (t115.length : Int))), (by first | rfl | (simp; done) | (simp [*]; done)), H', ⟨by first | omega | exact Nat.le_refl _⟩, ⟨by (with_reducible repeat (first | apply Kd.R_alloc | apply Kd.R_drewN | apply Kd.R_drew)); exact HO107.out⟩, ⟨by (with_reducible repeat (first | apply Kd.S_alloc | apply Kd.S_drewN | apply Kd.S_drew)); exact Kd.S_mono HO113.out (fun _ hk => ⟨hk.1.2, hk.2⟩)⟩, ⟨by (with_reducible repeat (first | apply Kd.S_alloc | apply Kd.S_drewN | apply Kd.S_drew)); exact Kd.S_mono HO119.out (fun _ hk => ⟨hk.1.2, hk.2⟩)⟩, ⟨by repeat (first | (with_reducible first | exact HB.out | apply below_alloc | apply pw_below_drewN | apply below_drew1) | exact HB.out)⟩⟩
        · replace c16 := Bool.eq_false_iff.mpr c16
          subst c16
          have H1 : (contangolaw23_ScanProducts.j0 k l0 y105 t109 t115 true) = some r := by rw [if_neg (show ¬ (false = true) by decide)] at H; exact H
          clear H
          have H := H1
          clear H1
          have H' := Aside0.mk H
          clear H
          obtain ⟨Ao21, co21, eo21⟩ := Kd.R_slice HO111.out
          subst eo21
          obtain ⟨Ao22, co22, eo22⟩ := Kd.R_slice HO117.out
          subst eo22
          go_wp2_with (first | (go_at_call 39; (with_reducible refine (contangoref23_Names.calls k _ _ t108 _ _ t114 false _ ?side1 ?side2 ?side3 ?side4 A15.out).mono ?_); (case side1 => repeat (first | exact (Kd.R_reads' HO111.out).2.2 | (with_reducible refine Kd.C_alloc ?_ _) | (with_reducible refine Kd.C_drewN ?_ _) | (with_reducible refine Kd.C_drew ?_))); (case side2 => exact (Kd.R_reads' HO111.out).2.1); (case side3 => repeat (first | exact (Kd.R_reads' HO117.out).2.2 | (with_reducible refine Kd.C_alloc ?_ _) | (with_reducible refine Kd.C_drewN ?_ _) | (with_reducible refine Kd.C_drew ?_))); (case side4 => exact (Kd.R_reads' HO117.out).2.1); rintro e w' ⟨rfl, ⟨nd, rfl⟩⟩; (try first | exact ⟨rfl, _, World.drewN_drewN _ _ _⟩ | exact ⟨rfl, _, Eq.trans (World.drewN_drewN _ _ _) (congrArg (World.drewN _) (Nat.add_assoc _ _ _))⟩)))
          go_meet
          case rel => exact ⟨_, (true), (by first | rfl | (simp; done) | (simp [*]; done)), H', ⟨by first | omega | exact Nat.le_refl _⟩, ⟨by (with_reducible repeat (first | apply Kd.R_alloc | apply Kd.R_drewN | apply Kd.R_drew)); exact HO107.out⟩, ⟨by (with_reducible repeat (first | apply Kd.S_alloc | apply Kd.S_drewN | apply Kd.S_drew)); exact Kd.S_mono HO113.out (fun _ hk => ⟨hk.1.2, hk.2⟩)⟩, ⟨by (with_reducible repeat (first | apply Kd.S_alloc | apply Kd.S_drewN | apply Kd.S_drew)); exact Kd.S_mono HO119.out (fun _ hk => ⟨hk.1.2, hk.2⟩)⟩, ⟨by repeat (first | (with_reducible first | exact HB.out | apply below_alloc | apply pw_below_drewN | apply below_drew1) | exact HB.out)⟩⟩
      case rest =>
        clear HC8
        try clear c1
        try clear c2
        try clear c2b0
        try clear c2b1
        try clear p2
        try clear c5
        try clear c9
        try clear c16
        obtain ⟨kq, x38_7, rfl, HA, HJ7, HO_3, HO_5, HO_7, HB⟩ := hcut
        cases kq with
        | zero => exact absurd HA.out (by simp [contangolaw23_ScanProducts.j0])
        | succ kj7 =>
          have H := HA.out
          clear HA
          simp only [contangolaw23_ScanProducts.j0] at H
          by_cases c23 : x38_7 = true
          · subst c23
            have H1 : (none) = some r := by rw [if_pos rfl] at H; exact H
            clear H
            have H := H1
            clear H1
            exact absurd H (by simp)
          · replace c23 := Bool.eq_false_iff.mpr c23
            subst c23
            have H1 : (contangolaw23_ScanProducts.l0 kj7 l0 y105 t109 t115 (t109.length : Int) 0) = some r := by rw [if_neg (show ¬ (false = true) by decide)] at H; exact H
            clear H
            have H := H1
            clear H1
            have H' := Aside0.mk H
            clear H
            obtain ⟨Ao24, co24, eo24⟩ := Kd.S_slice HO_5.out
            subst eo24
            go_wp2
            repeat (go_quiet (fail); try go_wp2)
            go_loopg [41] kj7 (fun kq v41 w' => ∃ (x41_2 : Int), v41 = .int .i64 x41_2 ∧ Aside0 (contangolaw23_ScanProducts.l0 kq l0 y105 t109 t115 (t109.length : Int) x41_2 = some r) ∧ Aside0 (kq ≤ kj7) ∧ Aside0 (Kd.R k73 73 w' w.heap.size (fun _ => True) (.slice Ao12 y105.length co12) y105) ∧ Aside0 (Kd.S (Kd.slice 73 k73) 55 w' w.heap.size (fun k_ => some k_ ≠ ((.slice Ao12 y105.length co12) : Value).ownBlock ∧ some k_ ≠ (v118 : Value).ownBlock) (.slice Ao24 t109.length co24) t109) ∧ Aside0 (Kd.S (Kd.slice 73 k73) 55 w' w.heap.size (fun k_ => some k_ ≠ ((.slice Ao12 y105.length co12) : Value).ownBlock ∧ some k_ ≠ ((.slice Ao24 t109.length co24) : Value).ownBlock) v118 t115) ∧ Aside0 (Below w.heap.size w w'))
            case atStart => exact ⟨(0), (by first | rfl | (simp; done) | (simp [*]; done)), H', ⟨Nat.le_refl _⟩, ⟨by (with_reducible repeat (first | apply Kd.R_alloc | apply Kd.R_drewN | apply Kd.R_drew)); exact HO_3.out⟩, ⟨by (with_reducible repeat (first | apply Kd.S_alloc | apply Kd.S_drewN | apply Kd.S_drew)); exact HO_5.out⟩, ⟨by (with_reducible repeat (first | apply Kd.S_alloc | apply Kd.S_drewN | apply Kd.S_drew)); exact HO_7.out⟩, ⟨by repeat (first | (with_reducible first | exact HB.out | apply below_alloc | apply pw_below_drewN | apply below_drew1) | exact HB.out)⟩⟩
            case round =>
              clear H'
              try clear c1
              try clear c2
              try clear c2b0
              try clear c2b1
              try clear p2
              try clear c5
              try clear c9
              try clear c16
              try clear c23
              try clear p2
              obtain ⟨x41_2, rfl, HA, HK2, HO_3, HO_5, HO_7, HB⟩ := hrel
              cases gk with
              | zero => exact absurd HA.out (by simp [contangolaw23_ScanProducts.l0])
              | succ k2 =>
                have H := HA.out
                clear HA
                simp only [contangolaw23_ScanProducts.l0] at H
                by_cases c25 : x41_2 < (t109.length : Int)
                · rw [if_pos c25] at H
                  have c25b0 : decide (x41_2 < (t109.length : Int)) = true := decide_eq_true c25
                  clear c25
                  by_cases c26 : 0 ≤ x41_2
                  · rw [if_pos c26] at H
                    have c26b0 : decide (0 ≤ x41_2) = true := decide_eq_true c26
                    clear c26
                    by_cases c27 : x41_2 < (t109.length : Int)
                    · rw [if_pos c27] at H
                      have c27b0 : decide (x41_2 < (t109.length : Int)) = true := decide_eq_true c27
                      clear c27
                      by_cases c28 : x41_2 < (t115.length : Int)
                      · rw [if_pos c28] at H
                        have c28b0 : decide (x41_2 < (t115.length : Int)) = true := decide_eq_true c28
                        clear c28
                        replace H := Option.bind_eq_some_iff.mp H
                        obtain ⟨t123, A290, H⟩ := H
                        replace H : (if t123 = true then (contangolaw23_ScanProducts.l0 k2 l0 y105 t109 t115 (t109.length : Int) (wrap64 (x41_2 + 1))) else (none)) = some r := H
                        have A29 := Aside0.mk A290
                        clear A290
                        by_cases c30 : t123 = true
                        · subst c30
                          have H1 : (contangolaw23_ScanProducts.l0 k2 l0 y105 t109 t115 (t109.length : Int) (wrap64 (x41_2 + 1))) = some r := by rw [if_pos rfl] at H; exact H
                          clear H
                          have H := H1
                          clear H1
                          have H' := Aside0.mk H
                          clear H
                          have p121 : 0 ≤ (x41_2 : Int) := of_decide_eq_true (by first | (with_reducible assumption) | assumption)
                          have q121 : x41_2 < (t109.length : Int) := of_decide_eq_true (by first | (with_reducible assumption) | assumption)
                          obtain ⟨ad121, A121_0, c121_0, e121, hx121_0, hl121_0, hi121_0⟩ := at_L9 (Kd.S_reads' HO_5.out).2.2 x41_2 p121 q121
                          cases e121
                          obtain ⟨ce121, hce121, hMe121, hcc121⟩ := Kd.S_get HO_5.out [] x41_2 p121 (by first | exact q121 | exact of_decide_eq_true (by first | (with_reducible assumption) | assumption) | (have e_ := (Kd.S_reads' HO_5.out).1; omega))
                          obtain ⟨ve121_0, rfl, ge121_0⟩ := hMe121
                          have hv121_0 := hcc121 0 _ rfl
                          rw [Nat.add_zero, show ((Kd.slice 73 k73)).sz = 1 from rfl, Nat.mul_one] at hv121_0
                          replace hv121_0 := Option.some.inj (hv121_0.symm.trans hx121_0)
                          rw [hv121_0] at ge121_0
                          have HL121_0 := Aside0.mk (show Kd.R k73 73 _ _ _ _ (rd_L9 t109 x41_2) from ge121_0)
                          clear hv121_0 ge121_0
                          have HX121_0 := Aside0.mk hx121_0
                          clear hcc121 hce121
                          have HR121_0 := Aside0.mk hi121_0
                          have HC121_0 := Aside0.mk hl121_0
                          clear hi121_0 hl121_0
                          replace p121 := eq_true p121
                          replace q121 := eq_true q121
                          obtain ⟨Ao31, co31, eo31⟩ := Kd.S_slice HO_7.out
                          subst eo31
                          have p122 : 0 ≤ (x41_2 : Int) := of_decide_eq_true (by first | (with_reducible assumption) | assumption)
                          have q122 : x41_2 < (t115.length : Int) := of_decide_eq_true (by first | (with_reducible assumption) | assumption)
                          obtain ⟨ad122, A122_0, c122_0, e122, hx122_0, hl122_0, hi122_0⟩ := at_L9 (Kd.S_reads' HO_7.out).2.2 x41_2 p122 q122
                          cases e122
                          obtain ⟨ce122, hce122, hMe122, hcc122⟩ := Kd.S_get HO_7.out [] x41_2 p122 (by first | exact q122 | exact of_decide_eq_true (by first | (with_reducible assumption) | assumption) | (have e_ := (Kd.S_reads' HO_7.out).1; omega))
                          obtain ⟨ve122_0, rfl, ge122_0⟩ := hMe122
                          have hv122_0 := hcc122 0 _ rfl
                          rw [Nat.add_zero, show ((Kd.slice 73 k73)).sz = 1 from rfl, Nat.mul_one] at hv122_0
                          replace hv122_0 := Option.some.inj (hv122_0.symm.trans hx122_0)
                          rw [hv122_0] at ge122_0
                          have HL122_0 := Aside0.mk (show Kd.R k73 73 _ _ _ _ (rd_L9 t115 x41_2) from ge122_0)
                          clear hv122_0 ge122_0
                          have HX122_0 := Aside0.mk hx122_0
                          clear hcc122 hce122
                          have HR122_0 := Aside0.mk hi122_0
                          have HC122_0 := Aside0.mk hl122_0
                          clear hi122_0 hl122_0
                          replace p122 := eq_true p122
                          replace q122 := eq_true q122
                          go_wp2_with (first | (go_at_call 35; (with_reducible refine (contangoref23_Positions.calls k2 _ _ (rd_L9 t109 x41_2) _ _ (rd_L9 t115 x41_2) true _ ?side1 ?side2 ?side3 ?side4 A29.out).mono ?_); (case side1 => repeat (first | exact (by repeat (first | (with_reducible exact HR121_0.out) | (with_reducible refine Kd.C_alloc ?_ _) | (with_reducible refine Kd.C_drewN ?_ _) | (with_reducible refine Kd.C_drew ?_) | exact HR121_0.out)) | (with_reducible refine Kd.C_alloc ?_ _) | (with_reducible refine Kd.C_drewN ?_ _) | (with_reducible refine Kd.C_drew ?_))); (case side2 => exact HC121_0.out); (case side3 => repeat (first | exact (by repeat (first | (with_reducible exact HR122_0.out) | (with_reducible refine Kd.C_alloc ?_ _) | (with_reducible refine Kd.C_drewN ?_ _) | (with_reducible refine Kd.C_drew ?_) | exact HR122_0.out)) | (with_reducible refine Kd.C_alloc ?_ _) | (with_reducible refine Kd.C_drewN ?_ _) | (with_reducible refine Kd.C_drew ?_))); (case side4 => exact HC122_0.out); rintro e w' ⟨rfl, ⟨nd, rfl⟩⟩; (try first | exact ⟨rfl, _, World.drewN_drewN _ _ _⟩ | exact ⟨rfl, _, Eq.trans (World.drewN_drewN _ _ _) (congrArg (World.drewN _) (Nat.add_assoc _ _ _))⟩)))
                          repeat (go_quiet (first | (go_at_call 35; (with_reducible refine (contangoref23_Positions.calls k2 _ _ (rd_L9 t109 x41_2) _ _ (rd_L9 t115 x41_2) true _ ?side1 ?side2 ?side3 ?side4 A29.out).mono ?_); (case side1 => repeat (first | exact (by repeat (first | (with_reducible exact HR121_0.out) | (with_reducible refine Kd.C_alloc ?_ _) | (with_reducible refine Kd.C_drewN ?_ _) | (with_reducible refine Kd.C_drew ?_) | exact HR121_0.out)) | (with_reducible refine Kd.C_alloc ?_ _) | (with_reducible refine Kd.C_drewN ?_ _) | (with_reducible refine Kd.C_drew ?_))); (case side2 => exact HC121_0.out); (case side3 => repeat (first | exact (by repeat (first | (with_reducible exact HR122_0.out) | (with_reducible refine Kd.C_alloc ?_ _) | (with_reducible refine Kd.C_drewN ?_ _) | (with_reducible refine Kd.C_drew ?_) | exact HR122_0.out)) | (with_reducible refine Kd.C_alloc ?_ _) | (with_reducible refine Kd.C_drewN ?_ _) | (with_reducible refine Kd.C_drew ?_))); (case side4 => exact HC122_0.out); rintro e w' ⟨rfl, ⟨nd, rfl⟩⟩; (try first | exact ⟨rfl, _, World.drewN_drewN _ _ _⟩ | exact ⟨rfl, _, Eq.trans (World.drewN_drewN _ _ _) (congrArg (World.drewN _) (Nat.add_assoc _ _ _))⟩))); try go_wp2_with (first | (go_at_call 35; (with_reducible refine (contangoref23_Positions.calls k2 _ _ (rd_L9 t109 x41_2) _ _ (rd_L9 t115 x41_2) true _ ?side1 ?side2 ?side3 ?side4 A29.out).mono ?_); (case side1 => repeat (first | exact (by repeat (first | (with_reducible exact HR121_0.out) | (with_reducible refine Kd.C_alloc ?_ _) | (with_reducible refine Kd.C_drewN ?_ _) | (with_reducible refine Kd.C_drew ?_) | exact HR121_0.out)) | (with_reducible refine Kd.C_alloc ?_ _) | (with_reducible refine Kd.C_drewN ?_ _) | (with_reducible refine Kd.C_drew ?_))); (case side2 => exact HC121_0.out); (case side3 => repeat (first | exact (by repeat (first | (with_reducible exact HR122_0.out) | (with_reducible refine Kd.C_alloc ?_ _) | (with_reducible refine Kd.C_drewN ?_ _) | (with_reducible refine Kd.C_drew ?_) | exact HR122_0.out)) | (with_reducible refine Kd.C_alloc ?_ _) | (with_reducible refine Kd.C_drewN ?_ _) | (with_reducible refine Kd.C_drew ?_))); (case side4 => exact HC122_0.out); rintro e w' ⟨rfl, ⟨nd, rfl⟩⟩; (try first | exact ⟨rfl, _, World.drewN_drewN _ _ _⟩ | exact ⟨rfl, _, Eq.trans (World.drewN_drewN _ _ _) (congrArg (World.drewN _) (Nat.add_assoc _ _ _))⟩))))
                          go_roundg k2
                          case measure => have := HJ7.out; have := HK2.out; omega
                          case rel => exact ⟨(wrap64 (x41_2 + 1)), (by first | rfl | (simp; done) | (simp [*]; done)), H', ⟨by have := HJ7.out; have := HK2.out; omega⟩, ⟨by (with_reducible repeat (first | apply Kd.R_alloc | apply Kd.R_drewN | apply Kd.R_drew)); exact HO_3.out⟩, ⟨by (with_reducible repeat (first | apply Kd.S_alloc | apply Kd.S_drewN | apply Kd.S_drew)); exact HO_5.out⟩, ⟨by (with_reducible repeat (first | apply Kd.S_alloc | apply Kd.S_drewN | apply Kd.S_drew)); exact HO_7.out⟩, ⟨by repeat (first | (with_reducible first | exact HB.out | apply below_alloc | apply pw_below_drewN | apply below_drew1) | exact HB.out)⟩⟩
                        · replace c30 := Bool.eq_false_iff.mpr c30
                          subst c30
                          have H1 : (none) = some r := by rw [if_neg (show ¬ (false = true) by decide)] at H; exact H
                          clear H
                          have H := H1
                          clear H1
                          exact absurd H (by simp)
                      · rw [if_neg c28] at H
                        exact absurd H (by simp)
                    · rw [if_neg c27] at H
                      exact absurd H (by simp)
                  · rw [if_neg c26] at H
                    exact absurd H (by simp)
                · rw [if_neg c25] at H
                  have c25b0 : decide (x41_2 < (t109.length : Int)) = false := decide_eq_false c25
                  try simp only [hl5_3] at c25b0
                  clear c25
                  have H' := Aside0.mk H
                  clear H
                  go_wp2
                  repeat (go_quiet (fail); try go_wp2)
                  go_loopg [57] k2 (fun kq v57 w' => ∃ (x3_3 : List (S73)) (x5_3 : List (List (S73))) (x57_3 : Int), v57 = .int .i64 x57_3 ∧ Aside0 (contangolaw23_ScanProducts.l1 kq l0 x3_3 x5_3 (t109.length : Int) x57_3 = some r) ∧ Aside0 (kq ≤ k2) ∧ Aside0 (Kd.R k73 73 w' w.heap.size (fun _ => True) (.slice Ao12 y105.length co12) x3_3) ∧ Aside0 (Kd.S (Kd.slice 73 k73) 55 w' w.heap.size (fun k_ => some k_ ≠ ((.slice Ao12 y105.length co12) : Value).ownBlock) (.slice Ao24 t109.length co24) x5_3) ∧ Aside0 (Below w.heap.size w w'))
                  case atStart => exact ⟨(y105), (t109), (0), (by first | rfl | (simp; done) | (simp [*]; done)), H', ⟨Nat.le_refl _⟩, ⟨by (with_reducible repeat (first | apply Kd.R_alloc | apply Kd.R_drewN | apply Kd.R_drew)); exact HO_3.out⟩, ⟨by (with_reducible repeat (first | apply Kd.S_alloc | apply Kd.S_drewN | apply Kd.S_drew)); exact Kd.S_mono HO_5.out (fun _ hk => hk.1)⟩, ⟨by repeat (first | (with_reducible first | exact HB.out | apply below_alloc | apply pw_below_drewN | apply below_drew1) | exact HB.out)⟩⟩
                  case round =>
                    clear H'
                    try clear c1
                    try clear p1
                    try clear q1
                    try clear hx1
                    try clear c2
                    try clear c2b0
                    try clear c2b1
                    try clear p2
                    try clear c3
                    try clear c5
                    try clear p6
                    try clear c9
                    try clear c12
                    try clear p12
                    try clear q12
                    try clear hx12
                    try clear c16
                    try clear c23
                    try clear c25
                    try clear c25b0
                    try clear c26
                    try clear c26b0
                    try clear c27
                    try clear c27b0
                    try clear c28
                    try clear c28b0
                    try clear c30
                    try clear hx121_0
                    try clear hx122_0
                    try clear p121
                    try clear p122
                    try clear p2
                    try clear q121
                    try clear q122
                    obtain ⟨x3_3, x5_3, x57_3, rfl, HA, HK3, HO_3, HO_5, HB⟩ := hrel
                    have hl3_3 := (Kd.R_reads' HO_3.out).1
                    rw [hl3_3] at HO_3
                    (try simp only [hl3_3])
                    (try simp only [hl3_3] at HO_5)
                    have hl5_3 := (Kd.S_reads' HO_5.out).1
                    rw [hl5_3] at HO_5
                    (try simp only [hl5_3])
                    (try simp only [hl5_3] at HO_3)
                    cases gk with
                    | zero => exact absurd HA.out (by simp [contangolaw23_ScanProducts.l1])
                    | succ k3 =>
                      have H := HA.out
                      clear HA
                      simp only [contangolaw23_ScanProducts.l1] at H
                      by_cases c32 : x57_3 < (t109.length : Int)
                      · rw [if_pos c32] at H
                        have c32b0 : decide (x57_3 < (t109.length : Int)) = true := decide_eq_true c32
                        clear c32
                        by_cases c33 : 0 ≤ x57_3
                        · rw [if_pos c33] at H
                          have c33b0 : decide (0 ≤ x57_3) = true := decide_eq_true c33
                          clear c33
                          by_cases c34 : x57_3 < (x5_3.length : Int)
                          · rw [if_pos c34] at H
                            have c34b0 : decide (x57_3 < (x5_3.length : Int)) = true := decide_eq_true c34
                            clear c34
                            have H' := Aside0.mk H
                            clear H
                            have p126 : 0 ≤ (x57_3 : Int) := of_decide_eq_true (by first | (with_reducible assumption) | assumption)
                            have q126 : x57_3 < (x5_3.length : Int) := of_decide_eq_true (by first | (with_reducible assumption) | assumption)
                            obtain ⟨ad126, A126_0, c126_0, e126, hx126_0, hl126_0, hi126_0⟩ := at_L9 (Kd.S_reads' HO_5.out).2.2 x57_3 p126 q126
                            cases e126
                            obtain ⟨ce126, hce126, hMe126, hcc126⟩ := Kd.S_get HO_5.out [] x57_3 p126 (by first | exact q126 | exact of_decide_eq_true (by first | (with_reducible assumption) | assumption) | (have e_ := (Kd.S_reads' HO_5.out).1; omega))
                            obtain ⟨ve126_0, rfl, ge126_0⟩ := hMe126
                            have hv126_0 := hcc126 0 _ rfl
                            rw [Nat.add_zero, show ((Kd.slice 73 k73)).sz = 1 from rfl, Nat.mul_one] at hv126_0
                            replace hv126_0 := Option.some.inj (hv126_0.symm.trans hx126_0)
                            rw [hv126_0] at ge126_0
                            have HL126_0 := Aside0.mk (show Kd.R k73 73 _ _ _ _ (rd_L9 x5_3 x57_3) from ge126_0)
                            clear hv126_0 ge126_0
                            have HX126_0 := Aside0.mk hx126_0
                            clear hcc126 hce126
                            have HR126_0 := Aside0.mk hi126_0
                            have HC126_0 := Aside0.mk hl126_0
                            clear hi126_0 hl126_0
                            replace p126 := eq_true p126
                            replace q126 := eq_true q126
                            go_wp2
                            repeat (go_quiet (fail); try go_wp2)
                            go_loopg [65] k3 (fun kq v65 w' => ∃ (x3_4 : List (S73)) (x5_4 : List (List (S73))) (x65_4 : Int), v65 = .int .i64 x65_4 ∧ Aside0 (contangolaw23_ScanProducts.l2 kq l0 x3_4 x5_4 x57_3 (t109.length : Int) x57_3 ((rd_L9 x5_3 x57_3).length : Int) x65_4 = some r) ∧ Aside0 (kq ≤ k3) ∧ Aside0 (Kd.R k73 73 w' w.heap.size (fun _ => True) (.slice Ao12 x3_3.length co12) x3_4) ∧ Aside0 (Kd.S (Kd.slice 73 k73) 55 w' w.heap.size (fun k_ => some k_ ≠ ((.slice Ao12 x3_3.length co12) : Value).ownBlock) (.slice (some ad126) x5_3.length co24) x5_4) ∧ Aside0 (Below w.heap.size w w'))
                            case atStart => exact ⟨(x3_3), (x5_3), (0), (by first | rfl | (simp; done) | (simp [*]; done)), H', ⟨Nat.le_refl _⟩, ⟨by (try simp only [hl3_3]); (try simp only [hl5_3]); (with_reducible repeat (first | apply Kd.R_alloc | apply Kd.R_drewN | apply Kd.R_drew)); exact HO_3.out⟩, ⟨by (try simp only [hl3_3]); (try simp only [hl5_3]); (with_reducible repeat (first | apply Kd.S_alloc | apply Kd.S_drewN | apply Kd.S_drew)); exact HO_5.out⟩, ⟨by repeat (first | (with_reducible first | exact HB.out | apply below_alloc | apply pw_below_drewN | apply below_drew1) | exact HB.out)⟩⟩
                            case round =>
                              clear H'
                              try clear c1
                              try clear p1
                              try clear q1
                              try clear hx1
                              try clear c2
                              try clear c2b0
                              try clear c2b1
                              try clear p2
                              try clear c3
                              try clear c5
                              try clear p6
                              try clear c9
                              try clear c12
                              try clear p12
                              try clear q12
                              try clear hx12
                              try clear c16
                              try clear c23
                              try clear c25
                              try clear c25b0
                              try clear c26
                              try clear c26b0
                              try clear c27
                              try clear c27b0
                              try clear c28
                              try clear c28b0
                              try clear c30
                              try clear c32
                              try clear c32b0
                              try clear c33
                              try clear c33b0
                              try clear c34
                              try clear c34b0
                              try clear hx121_0
                              try clear hx122_0
                              try clear hx126_0
                              try clear p1
                              try clear p12
                              try clear p121
                              try clear p122
                              try clear p126
                              try clear p2
                              try clear p6
                              try clear q1
                              try clear q12
                              try clear q121
                              try clear q122
                              try clear q126
                              obtain ⟨x3_4, x5_4, x65_4, rfl, HA, HK4, HO_3, HO_5, HB⟩ := hrel
                              have hl3_4 := (Kd.R_reads' HO_3.out).1
                              rw [hl3_4] at HO_3
                              (try simp only [hl3_4])
                              (try simp only [hl3_4] at HO_5)
                              have hl5_4 := (Kd.S_reads' HO_5.out).1
                              rw [hl5_4] at HO_5
                              (try simp only [hl5_4])
                              (try simp only [hl5_4] at HO_3)
                              cases gk with
                              | zero => exact absurd HA.out (by simp [contangolaw23_ScanProducts.l2])
                              | succ k4 =>
                                have H := HA.out
                                clear HA
                                simp only [contangolaw23_ScanProducts.l2] at H
                                by_cases c35 : x65_4 < ((rd_L9 x5_3 x57_3).length : Int)
                                · rw [if_pos c35] at H
                                  have c35b0 : decide (x65_4 < ((rd_L9 x5_3 x57_3).length : Int)) = true := decide_eq_true c35
                                  clear c35
                                  by_cases c36 : 0 ≤ x57_3
                                  · rw [if_pos c36] at H
                                    have c36b0 : decide (0 ≤ x57_3) = true := decide_eq_true c36
                                    clear c36
                                    by_cases c37 : x57_3 < (x5_4.length : Int)
                                    · rw [if_pos c37] at H
                                      have c37b0 : decide (x57_3 < (x5_4.length : Int)) = true := decide_eq_true c37
                                      clear c37
                                      by_cases c38 : 0 ≤ x65_4
                                      · rw [if_pos c38] at H
                                        have c38b0 : decide (0 ≤ x65_4) = true := decide_eq_true c38
                                        clear c38
                                        by_cases c39 : x65_4 < ((rd_L9 x5_4 x57_3).length : Int)
                                        · rw [if_pos c39] at H
                                          have c39b0 : decide (x65_4 < ((rd_L9 x5_4 x57_3).length : Int)) = true := decide_eq_true c39
                                          clear c39
                                          obtain ⟨y128, hy128⟩ : ∃ y_ : List (S73), y_ = ((rd_L9 x5_4 x57_3).set (x65_4 : Int).toNat (⟨(⟨(rd_T73 (rd_L9 x5_4 x57_3) x65_4).f0.f0, (rd_T73 (rd_L9 x5_4 x57_3) x65_4).f0.f1, (rd_T73 (rd_L9 x5_4 x57_3) x65_4).f0.f2, (rd_T73 (rd_L9 x5_4 x57_3) x65_4).f0.f3⟩ : S39), wrap64 (77 + x57_3), (rd_T73 (rd_L9 x5_4 x57_3) x65_4).f2⟩ : S73)) := ⟨_, rfl⟩
                                          replace H : (contangolaw23_ScanProducts.l2 k4 l0 x3_4 (x5_4.set (x57_3 : Int).toNat y128) x57_3 (t109.length : Int) x57_3 ((rd_L9 x5_3 x57_3).length : Int) (wrap64 (x65_4 + 1))) = some r := by first | (rw [hy128]; with_reducible exact H) | (have H2_ := (Option.bind_some _ _).symm.trans H; rw [hy128]; with_reducible exact H2_) | (have H2_ := (Option.bind_some _ _).symm.trans H; with_reducible exact H2_) | with_reducible exact H | (rw [hy128]; exact H) | exact H
                                          have Ny128 := Aside0.mk hy128
                                          clear hy128
                                          obtain ⟨y130, hy130⟩ : ∃ y_ : List (List (S73)), y_ = (x5_4.set (x57_3 : Int).toNat y128) := ⟨_, rfl⟩
                                          replace H : (contangolaw23_ScanProducts.l2 k4 l0 x3_4 y130 x57_3 (t109.length : Int) x57_3 ((rd_L9 x5_3 x57_3).length : Int) (wrap64 (x65_4 + 1))) = some r := by first | (rw [hy130]; with_reducible exact H) | (have H2_ := (Option.bind_some _ _).symm.trans H; rw [hy130]; with_reducible exact H2_) | (have H2_ := (Option.bind_some _ _).symm.trans H; with_reducible exact H2_) | with_reducible exact H | (rw [hy130]; exact H) | exact H
                                          have Ny130 := Aside0.mk hy130
                                          clear hy130
                                          have H' := Aside0.mk H
                                          clear H
                                          have p127 : 0 ≤ (x57_3 : Int) := of_decide_eq_true (by first | (with_reducible assumption) | assumption)
                                          have q127 : x57_3 < (x5_4.length : Int) := of_decide_eq_true (by first | (with_reducible assumption) | assumption)
                                          obtain ⟨ad127, A127_0, c127_0, e127, hx127_0, hl127_0, hi127_0⟩ := at_L9 (Kd.S_reads' HO_5.out).2.2 x57_3 p127 q127
                                          obtain rfl : ad126 = ad127 := (by injection e127)
                                          obtain ⟨ce127, hce127, hMe127, hcc127⟩ := Kd.S_get HO_5.out [] x57_3 p127 (by first | exact q127 | exact of_decide_eq_true (by first | (with_reducible assumption) | assumption) | (have e_ := (Kd.S_reads' HO_5.out).1; omega))
                                          obtain ⟨ve127_0, rfl, ge127_0⟩ := hMe127
                                          have hv127_0 := hcc127 0 _ rfl
                                          rw [Nat.add_zero, show ((Kd.slice 73 k73)).sz = 1 from rfl, Nat.mul_one] at hv127_0
                                          replace hv127_0 := Option.some.inj (hv127_0.symm.trans hx127_0)
                                          rw [hv127_0] at ge127_0
                                          have HL127_0 := Aside0.mk (show Kd.R k73 73 _ _ _ _ (rd_L9 x5_4 x57_3) from ge127_0)
                                          clear hv127_0 ge127_0
                                          have HX127_0 := Aside0.mk hx127_0
                                          clear hcc127 hce127
                                          have HR127_0 := Aside0.mk hi127_0
                                          have HC127_0 := Aside0.mk hl127_0
                                          clear hi127_0 hl127_0
                                          replace p127 := eq_true p127
                                          replace q127 := eq_true q127
                                          have p40 : 0 ≤ (x65_4 : Int) := of_decide_eq_true (by first | (with_reducible assumption) | assumption)
                                          have q40 : (x65_4 : Int) < (((rd_L9 x5_4 x57_3).length : Int) : Int) := of_decide_eq_true (by first | (with_reducible assumption) | assumption)
                                          obtain ⟨go40, co40, eo40, gb40, gl40, cl40, HG40⟩ := Kd.R_form HL127_0.out (by omega)
                                          (first | cases eo40 | (injection eo40 with ea_ en_ ec_; (first | subst ea_ | (injection ea_ with ea_; subst ea_)); subst ec_; clear en_))
                                          have GB40 := Aside0.mk gb40
                                          have GG40 := Aside0.mk HG40
                                          clear gb40 gl40 HG40
                                          obtain ⟨ce40, hcl40, hM40, hcc40, hfr40⟩ := Kd.R_elem HL127_0.out z73 (x65_4 : Int) p40 q40
                                          obtain rfl := k73_openM hM40
                                          have hx40_0 : wr.cell? ⟨go40, (x65_4 : Int).toNat * 6, none⟩ = some (.string ((rd_T73 (rd_L9 x5_4 x57_3) x65_4).f0.f0)) := hcc40 0 _ rfl
                                          have hx40_1 : wr.cell? ⟨go40, (x65_4 : Int).toNat * 6 + 1, none⟩ = some (.int .i64 ((rd_T73 (rd_L9 x5_4 x57_3) x65_4).f0.f1)) := hcc40 1 _ rfl
                                          have hx40_2 : wr.cell? ⟨go40, (x65_4 : Int).toNat * 6 + 2, none⟩ = some (.int .i64 ((rd_T73 (rd_L9 x5_4 x57_3) x65_4).f0.f2)) := hcc40 2 _ rfl
                                          have hx40_3 : wr.cell? ⟨go40, (x65_4 : Int).toNat * 6 + 3, none⟩ = some (.int .i64 ((rd_T73 (rd_L9 x5_4 x57_3) x65_4).f0.f3)) := hcc40 3 _ rfl
                                          have hx40_4 : wr.cell? ⟨go40, (x65_4 : Int).toNat * 6 + 4, none⟩ = some (.int .i64 ((rd_T73 (rd_L9 x5_4 x57_3) x65_4).f1)) := hcc40 4 _ rfl
                                          have hx40_5 : wr.cell? ⟨go40, (x65_4 : Int).toNat * 6 + 5, none⟩ = some (.int .i64 ((rd_T73 (rd_L9 x5_4 x57_3) x65_4).f2)) := hcc40 5 _ rfl
                                          have hf40_0 : wr.frozen? ⟨go40, (x65_4 : Int).toNat * 6, none⟩ = false := hfr40 0
                                          have hf40_1 : wr.frozen? ⟨go40, (x65_4 : Int).toNat * 6 + 1, none⟩ = false := hfr40 1
                                          have hf40_2 : wr.frozen? ⟨go40, (x65_4 : Int).toNat * 6 + 2, none⟩ = false := hfr40 2
                                          have hf40_3 : wr.frozen? ⟨go40, (x65_4 : Int).toNat * 6 + 3, none⟩ = false := hfr40 3
                                          have hf40_4 : wr.frozen? ⟨go40, (x65_4 : Int).toNat * 6 + 4, none⟩ = false := hfr40 4
                                          have hf40_5 : wr.frozen? ⟨go40, (x65_4 : Int).toNat * 6 + 5, none⟩ = false := hfr40 5
                                          clear hcl40 hcc40 hfr40 hM40
                                          replace p40 := eq_true p40
                                          replace q40 := eq_true q40
                                          have hq41 : (x57_3 : Int) < (x5_4.length : Int) := (by have h_ : (x57_3 : Int) < ((x5_4.length : Int) : Int) := of_decide_eq_true (by first | (with_reducible assumption) | assumption); first | exact h_ | (have e_ := (Kd.S_reads' HO_5.out).1; omega) | simpa only [List.length_set, List.length_set] using h_)
                                          obtain ⟨oki41, ce41, hcl41, hM41, hcc41, hok41, hbk41⟩ := Kd.S_borrow HO_5.out [] (x57_3 : Int) (of_decide_eq_true (by first | (with_reducible assumption) | assumption)) hq41
                                          obtain ⟨ve41_0, rfl, ge41_0⟩ := hM41
                                          have hv41 := hcc41 0 _ rfl
                                          rw [Nat.add_zero, show ((Kd.slice 73 k73)).sz = 1 from rfl, Nat.mul_one] at hv41
                                          replace hv41 := Option.some.inj (hv41.symm.trans HX127_0.out)
                                          subst hv41
                                          clear hcc41 hcl41
                                          replace ge41_0 := (show Kd.R k73 73 _ _ _ _ (rd_L9 x5_4 x57_3) from ge41_0)
                                          obtain ⟨cf41, hcl41, hN41, hcc41, hfr41⟩ := Kd.R_elem ge41_0 z73 (x65_4 : Int) (of_decide_eq_true (by first | (with_reducible assumption) | assumption)) (by have h_ : (x65_4 : Int) < (((rd_L9 x5_4 x57_3).length : Int) : Int) := of_decide_eq_true (by first | (with_reducible assumption) | assumption); first | exact h_ | (have e_ := (Kd.R_reads' HR127_0.out).1; omega) | simpa using h_)
                                          obtain rfl := k73_openM hN41
                                          have HP41 := Kd.R_seg ge41_0 (x65_4 : Int) (of_decide_eq_true (by first | (with_reducible assumption) | assumption)) (by have h_ : (x65_4 : Int) < (((rd_L9 x5_4 x57_3).length : Int) : Int) := of_decide_eq_true (by first | (with_reducible assumption) | assumption); first | exact h_ | (have e_ := (Kd.R_reads' HR127_0.out).1; omega) | simpa using h_) (seg := [.int .i64 (wrap64 (77 + x57_3))]) (j := 4) hcl41 hcc41 (show 5 ≤ 6 from by decide) (x' := (⟨(⟨(rd_T73 (rd_L9 x5_4 x57_3) x65_4).f0.f0, (rd_T73 (rd_L9 x5_4 x57_3) x65_4).f0.f1, (rd_T73 (rd_L9 x5_4 x57_3) x65_4).f0.f2, (rd_T73 (rd_L9 x5_4 x57_3) x65_4).f0.f3⟩ : S39), wrap64 (77 + x57_3), (rd_T73 (rd_L9 x5_4 x57_3) x65_4).f2⟩ : S73)) (k73_mkM _ _ _ (⟨(⟨(rd_T73 (rd_L9 x5_4 x57_3) x65_4).f0.f0, (rd_T73 (rd_L9 x5_4 x57_3) x65_4).f0.f1, (rd_T73 (rd_L9 x5_4 x57_3) x65_4).f0.f2, (rd_T73 (rd_L9 x5_4 x57_3) x65_4).f0.f3⟩ : S39), wrap64 (77 + x57_3), (rd_T73 (rd_L9 x5_4 x57_3) x65_4).f2⟩ : S73)) (fun _ hk => hk)
                                          clear hcl41 hcc41 hfr41 hN41
                                          go_wp2_with (first | ((with_reducible refine gate_store (t := 3) (p := 76) rfl ?_); (try (rw [drewN_self wr]; generalize hq_ : World.drewN wr _ = wr; have n0_ := Aside0.mk (Kd.R_at hq_ HO_3.out); have n1_ := Aside0.mk (Kd.S_at hq_ HO_5.out); have n2_ := Aside0.mk (Kd.R_at hq_ HL131.out); have n3_ := Aside0.mk (below_at hq_ HB.out); clear hq_ HO_3 HO_5 HL131 HB; have HO_3 := n0_; have HO_5 := n1_; have HL131 := n2_; have HB := n3_; clear n0_ n1_ n2_ n3_; (try (have hq41 : (x57_3 : Int) < (x5_4.length : Int) := (by have h_ : (x57_3 : Int) < ((x5_4.length : Int) : Int) := of_decide_eq_true (by first | (with_reducible assumption) | assumption); first | exact h_ | (have e_ := (Kd.S_reads' HO_5.out).1; omega) | simpa only [List.length_set, List.length_set] using h_))); (try (obtain ⟨oki41, ce41, hcl41, hM41, hcc41, hok41, hbk41⟩ := Kd.S_borrow HO_5.out [] (x57_3 : Int) (of_decide_eq_true (by first | (with_reducible assumption) | assumption)) hq41)); (try (obtain ⟨ve41_0, rfl, ge41_0⟩ := hM41)); (try (have hv41 := hcc41 0 _ rfl)); (try (rw [Nat.add_zero, show ((Kd.slice 73 k73)).sz = 1 from rfl, Nat.mul_one] at hv41)); (try (replace hv41 := Option.some.inj (hv41.symm.trans HX127_0.out))); (try (subst hv41)); (try (clear hcc41 hcl41)); (try (replace ge41_0 := (show Kd.R k73 73 _ _ _ _ (rd_L9 x5_4 x57_3) from ge41_0))); (try (obtain ⟨cf41, hcl41, hN41, hcc41, hfr41⟩ := Kd.R_elem ge41_0 z73 (x65_4 : Int) (of_decide_eq_true (by first | (with_reducible assumption) | assumption)) (by have h_ : (x65_4 : Int) < (((rd_L9 x5_4 x57_3).length : Int) : Int) := of_decide_eq_true (by first | (with_reducible assumption) | assumption); first | exact h_ | (have e_ := (Kd.R_reads' HR127_0.out).1; omega) | simpa using h_))); (try (obtain rfl := k73_openM hN41)); (try (have HP41 := Kd.R_seg ge41_0 (x65_4 : Int) (of_decide_eq_true (by first | (with_reducible assumption) | assumption)) (by have h_ : (x65_4 : Int) < (((rd_L9 x5_4 x57_3).length : Int) : Int) := of_decide_eq_true (by first | (with_reducible assumption) | assumption); first | exact h_ | (have e_ := (Kd.R_reads' HR127_0.out).1; omega) | simpa using h_) (seg := [.int .i64 (wrap64 (77 + x57_3))]) (j := 4) hcl41 hcc41 (show 5 ≤ 6 from by decide) (x' := (⟨(⟨(rd_T73 (rd_L9 x5_4 x57_3) x65_4).f0.f0, (rd_T73 (rd_L9 x5_4 x57_3) x65_4).f0.f1, (rd_T73 (rd_L9 x5_4 x57_3) x65_4).f0.f2, (rd_T73 (rd_L9 x5_4 x57_3) x65_4).f0.f3⟩ : S39), wrap64 (77 + x57_3), (rd_T73 (rd_L9 x5_4 x57_3) x65_4).f2⟩ : S73)) (k73_mkM _ _ _ (⟨(⟨(rd_T73 (rd_L9 x5_4 x57_3) x65_4).f0.f0, (rd_T73 (rd_L9 x5_4 x57_3) x65_4).f0.f1, (rd_T73 (rd_L9 x5_4 x57_3) x65_4).f0.f2, (rd_T73 (rd_L9 x5_4 x57_3) x65_4).f0.f3⟩ : S39), wrap64 (77 + x57_3), (rd_T73 (rd_L9 x5_4 x57_3) x65_4).f2⟩ : S73)) (fun _ hk => hk))); (try (clear hcl41 hcc41 hfr41 hN41)))); refine store_event (t := 3) (p := 76) (v := ?vo_w42) (w1 := (wr.setCell ⟨go40, (x65_4 : Int).toNat * 6 + 4, none⟩ (.int .i64 (wrap64 (77 + x57_3))))) ?hg ?ho ?hn ?hr ?_; (case ho => rfl); (case hg => rfl); (case hn => rfl); (case hr => first | (go_simp; done) | (go_simp; rfl)); intro w42 hw; have hg : wr.grownBy w42 (some go40) := (by rw [hw]; exact HP41.2); have hz_ : Kd.R k73 73 w42 w.heap.size oki41 (.slice (some ⟨go40, 0, none⟩) (rd_L9 x5_4 x57_3).length c127_0) y128 := (by rw [hw, Ny128.out]; exact HP41.1); have hp_ : Kd.S (Kd.slice 73 k73) 55 w42 w.heap.size (fun k_ => some k_ ≠ (.slice Ao12 x3_4.length co12 : Value).ownBlock) (.slice (some ad126) x5_4.length co24) y130 := (by rw [Ny130.out]; exact hbk41 hg (fun k_ e_ => by injection e_ with e_; subst e_; exact ge41_0.1 _ rfl) (Kd.M_row hz_)); have hm_ := Kd.R_mono hz_ hok41; clear HP41 hbk41; have n0_ := Aside0.mk (Kd.R_grown1 (by (with_reducible repeat (first | apply Kd.R_alloc | apply Kd.R_drewN | apply Kd.R_drew)); exact HO_3.out) rfl hg ((HL127_0.out.1 _ rfl).1)); have n1_ := Aside0.mk (hp_); have n2_ := Aside0.mk ((by rw [hw]; exact below_set (HB.out) GB40.out : Below w.heap.size w w42)); have n3_ := Aside0.mk (hm_); have n4_ := Aside0.mk ((Kd.R_reads' hm_).2.1); clear HO_3; clear HO_5; clear HB; clear HL127_0; have HO_3 := n0_; have HO_5 := n1_; have HB := n2_; have HL131 := n3_; have HC129 := n4_; clear n0_ n1_ n2_ n3_ n4_; clear hg hw hp_ hz_ hm_ hok41))
                                          (try simp only [← hl3_4, ← hl5_4])
                                          go_roundg k4
                                          case measure => have := HJ7.out; have := HK2.out; have := HK3.out; have := HK4.out; omega
                                          case rel => exact ⟨(x3_4), (y130), (wrap64 (x65_4 + 1)), (by first | rfl | (simp; done) | (simp [*]; done)), H', ⟨by have := HJ7.out; have := HK2.out; have := HK3.out; have := HK4.out; omega⟩, ⟨by (try simp only [hl3_3]); (try simp only [hl5_3]); (try simp only [hl3_4]); (try simp only [hl5_4]); (with_reducible repeat (first | apply Kd.R_alloc | apply Kd.R_drewN | apply Kd.R_drew)); exact HO_3.out⟩, ⟨by (try simp only [hl3_3]); (try simp only [hl5_3]); (try simp only [hl3_4]); (try simp only [hl5_4]); (with_reducible repeat (first | apply Kd.S_alloc | apply Kd.S_drewN | apply Kd.S_drew)); exact HO_5.out⟩, ⟨by repeat (first | (with_reducible first | exact HB.out | apply below_alloc | apply pw_below_drewN | apply below_drew1) | exact HB.out)⟩⟩
                                        · rw [if_neg c39] at H
                                          exact absurd H (by simp)
                                      · rw [if_neg c38] at H
                                        exact absurd H (by simp)
                                    · rw [if_neg c37] at H
                                      exact absurd H (by simp)
                                  · rw [if_neg c36] at H
                                    exact absurd H (by simp)
                                · rw [if_neg c35] at H
                                  have c35b0 : decide (x65_4 < ((rd_L9 x5_3 x57_3).length : Int)) = false := decide_eq_false c35
                                  clear c35
                                  have H' := Aside0.mk H
                                  clear H
                                  go_wp2
                                  repeat (go_quiet (fail); try go_wp2)
                                  (try simp only [← hl3_3, ← hl5_3, ← hl3_4, ← hl5_4])
                                  go_roundg k4
                                  case measure => have := HJ7.out; have := HK2.out; have := HK3.out; have := HK4.out; omega
                                  case rel => exact ⟨(x3_4), (x5_4), (wrap64 (x57_3 + 1)), (by first | rfl | (simp; done) | (simp [*]; done)), H', ⟨by have := HJ7.out; have := HK2.out; have := HK3.out; have := HK4.out; omega⟩, ⟨by (try simp only [hl3_3]); (try simp only [hl5_3]); (try simp only [hl3_4]); (try simp only [hl5_4]); (with_reducible repeat (first | apply Kd.R_alloc | apply Kd.R_drewN | apply Kd.R_drew)); exact HO_3.out⟩, ⟨by (try simp only [hl3_3]); (try simp only [hl5_3]); (try simp only [hl3_4]); (try simp only [hl5_4]); (with_reducible repeat (first | apply Kd.S_alloc | apply Kd.S_drewN | apply Kd.S_drew)); exact HO_5.out⟩, ⟨by repeat (first | (with_reducible first | exact HB.out | apply below_alloc | apply pw_below_drewN | apply below_drew1) | exact HB.out)⟩⟩
                          · rw [if_neg c34] at H
                            exact absurd H (by simp)
                        · rw [if_neg c33] at H
                          exact absurd H (by simp)
                      · rw [if_neg c32] at H
                        have c32b0 : decide (x57_3 < (t109.length : Int)) = false := decide_eq_false c32
                        try simp only [hl5_3] at c32b0
                        clear c32
                        replace H := Option.bind_eq_some_iff.mp H
                        obtain ⟨t124, A430, H⟩ := H
                        replace H : (if t124 = true then ((contangolaw23_goes.f k3).bind fun t125 => (some t125)) else (none)) = some r := H
                        have A43 := Aside0.mk A430
                        clear A430
                        by_cases c44 : t124 = true
                        · subst c44
                          have H1 : ((contangolaw23_goes.f k3).bind fun t125 => (some t125)) = some r := by rw [if_pos rfl] at H; exact H
                          clear H
                          have H := H1
                          clear H1
                          replace H := Option.bind_eq_some_iff.mp H
                          obtain ⟨t125, A450, H⟩ := H
                          replace H : (some t125) = some r := H
                          have A45 := Aside0.mk A450
                          clear A450
                          obtain rfl := Option.some.inj H
                          go_wp2_with (first | (go_at_call 35; (with_reducible refine (contangoref23_Positions.calls k3 _ _ x3_3 _ _ l0 true _ ?side1 ?side2 ?side3 ?side4 A43.out).mono ?_); (case side1 => repeat (first | exact (Kd.R_reads' HO_3.out).2.2 | (with_reducible refine Kd.C_alloc ?_ _) | (with_reducible refine Kd.C_drewN ?_ _) | (with_reducible refine Kd.C_drew ?_))); (case side2 => exact (Kd.R_reads' HO_3.out).2.1); (case side3 => repeat (first | exact (Kd.C_below HR0.out HB.out) | (with_reducible refine Kd.C_alloc ?_ _) | (with_reducible refine Kd.C_drewN ?_ _) | (with_reducible refine Kd.C_drew ?_))); (case side4 => exact HC0.out); rintro e w' ⟨rfl, ⟨nd, rfl⟩⟩; (try first | exact ⟨rfl, _, World.drewN_drewN _ _ _⟩ | exact ⟨rfl, _, Eq.trans (World.drewN_drewN _ _ _) (congrArg (World.drewN _) (Nat.add_assoc _ _ _))⟩)) | (go_at_call 25; (with_reducible refine (contangolaw23_goes.calls k3  t125 _ A45.out).mono ?_); rintro e w46 ⟨rfl, hb⟩; have n0_ := Aside0.mk (Kd.R_below (by (with_reducible repeat (first | apply Kd.R_alloc | apply Kd.R_drewN | apply Kd.R_drew)); exact HO_3.out) hb); have n1_ := Aside0.mk (Kd.S_below (by (with_reducible repeat (first | apply Kd.S_alloc | apply Kd.S_drewN | apply Kd.S_drew)); exact HO_5.out) hb); have n2_ := Aside0.mk (below_step (by repeat (first | (with_reducible first | exact HB.out | apply below_alloc | apply pw_below_drewN | apply below_drew1) | exact HB.out)) hb); clear HO_3; clear HO_5; clear HB; have HO_3 := n0_; have HO_5 := n1_; have HB := n2_; clear n0_ n1_ n2_; (try clear hb); (try clear hb2); (try clear hk); (try clear hi)))
                          go_ret
                          exact ⟨by first | rfl | (simp [errW_none, errW_some] <;> rfl) | (simp [*, errW_none, errW_some] <;> rfl), by repeat (first | (with_reducible first | exact HB.out | apply below_alloc | apply pw_below_drewN | apply below_drew1) | exact HB.out)⟩
                        · replace c44 := Bool.eq_false_iff.mpr c44
                          subst c44
                          have H1 : (none) = some r := by rw [if_neg (show ¬ (false = true) by decide)] at H; exact H
                          clear H
                          have H := H1
                          clear H1
                          exact absurd H (by simp)
    · rw [if_neg c5] at H
      exact absurd H (by simp)
end Go.Proofs.Ytbgeceiddcokmaa.X
end
section
namespace Go.Proofs.Ytbgeceiddcokmaa.Opn
open Go.ChangeShapes Go.WideShapes Go.Proofs.YtbgeceiddcokmaaW.PrintWords
set_option linter.unusedVariables false
set_option linter.unusedSimpArgs false
structure Opens (P : Program) (t : TypeId) {α : Type} (d : Kd α) (Ok : α → Prop) : Prop where
  sz : d.sz = P.cellsOf t
  opens : ∀ {H : Type} {enc : TypeId × Value → H} {w : World} {base : Nat} {spare : Nat → Bool} {held : Bool} {fuel : Nat} {cs : List Value} {x : DataW H × List MemPlace},
    DataW.trod enc P w base spare held fuel t cs = some x → (∀ n ∈ x.1.weights P t, n ≤ reachBytes) → ∃ v, d.K w v cs ∧ Ok v
theorem opens_int {P : Program} {t : TypeId} {k : IntKind} (ht : P.underlying t = some (.int k)) (hc : P.cellsOf t = 1) : Opens P t (Kd.int k) (fun n => (Lit.int k n).wf = true) := by
  refine ⟨hc.symm, fun h _ => ?_⟩
  obtain ⟨n, rfl, _, hw⟩ := DataW.trod_int ht h
  exact ⟨n, rfl, hw⟩
theorem opens_string {P : Program} {t : TypeId} (ht : P.underlying t = some .string) (hc : P.cellsOf t = 1) : Opens P t Kd.string (fun s => s.size ≤ 140737488351232) := by
  refine ⟨hc.symm, fun h hw => ?_⟩
  obtain ⟨s, rfl, rfl, hs⟩ := DataW.trod_string ht h
  refine ⟨s, rfl, ?_⟩
  have := hw s.data.toList.length (by simp [DataW.weights])
  rw [Array.length_toList] at this
  exact this
theorem weights_all {H : Type} {P : Program} {e : TypeId} : ∀ {ds : List (DataW H)} {j : Nat} {d : DataW H}, ds[j]? = some d → ∀ n ∈ d.weights P e, n ∈ DataW.weightsAll P e ds
  | d0 :: ds, 0, d, hd, n, hn => by
    simp only [List.getElem?_cons_zero, Option.some.injEq] at hd
    subst hd
    simp only [DataW.weightsAll, List.mem_append]
    exact Or.inl hn
  | d0 :: ds, j + 1, d, hd, n, hn => by
    simp only [List.getElem?_cons_succ] at hd
    simp only [DataW.weightsAll, List.mem_append]
    exact Or.inr (weights_all hd n hn)
  | [], _, _, hd, _, _ => by simp at hd
theorem list_of {α : Type} {n : Nat} {p : Nat → α → Prop} (h : ∀ i, i < n → ∃ x, p i x) : ∃ l : List α, l.length = n ∧ ∀ i x, l[i]? = some x → p i x := by
  induction n with
  | zero => exact ⟨[], rfl, fun i x hx => by simp at hx⟩
  | succ n ih =>
    obtain ⟨l, hl, hp⟩ := ih (fun i hi => h i (by omega))
    obtain ⟨x, hx⟩ := h n (by omega)
    refine ⟨l ++ [x], by simp [hl], fun i y hy => ?_⟩
    by_cases hi : i < l.length
    · rw [List.getElem?_append_left hi] at hy
      exact hp i y hy
    · rw [List.getElem?_append_right (by omega)] at hy
      have : i - l.length = 0 := by
        cases hk : i - l.length with
        | zero => rfl
        | succ m => rw [hk] at hy; simp at hy
      rw [this] at hy
      simp at hy
      subst hy
      have : i = n := by omega
      subst this
      exact hx
theorem opens_slice {P : Program} {t e : TypeId} {α : Type} {d : Kd α} {Ok : α → Prop} (h : Opens P e d Ok) (ht : P.underlying t = some (.slice e)) (hc : P.cellsOf t = 1) {B : Nat} (hB : P.bytesOf e = B) :
    Opens P t (Kd.slice e d) (fun l => l.length ≤ maxLen ∧ l.length * B ≤ 140737488351232 ∧ ∀ x ∈ l, Ok x) := by
  subst hB
  refine ⟨hc.symm, fun {H enc w base spare held fuel cs x} hx hw => ?_⟩
  rcases DataW.trod_slice ht hx with ⟨rfl, rfl⟩ | ⟨a, len, cap, elems, rest, n, _, rfl, rfl, hb, hl, hm, hlen, hel, hsp, hns⟩
  · exact ⟨[], ⟨none, 0, rfl, Nat.le_refl _, Kd.C_nil _ _⟩, by simp⟩
  simp only [DataW.weights, ht] at hw
  have hw1 : (elems.length + rest.length) * P.bytesOf e ≤ reachBytes := by
    have := hw ((elems.length + rest.length) * P.bytesOf e) (by simp)
    exact this
  have hone : ∀ i, i < len → ∃ v : α, ∃ c, w.cells? base (a.add (i * P.cellsOf e)) (P.cellsOf e) = some c ∧ d.K w v c ∧ Ok v := by
    intro i hi
    have h1 := hel i hi
    rw [List.getElem?_eq_getElem (by omega)] at h1
    obtain ⟨c, hc1, hc2⟩ := Option.bind_eq_some_iff.1 h1
    obtain ⟨v, hv, hok⟩ := h.opens hc2 (fun n hn => hw n (by
      simp only [List.mem_cons, List.mem_append]
      right; left
      refine weights_all (j := i) ?_ n hn
      rw [List.getElem?_map, List.getElem?_eq_getElem (by omega)]
      rfl))
    exact ⟨v, c, hc1, hv, hok⟩
  obtain ⟨l, hl1, hl2⟩ := list_of hone
  subst hl1
  refine ⟨l, ⟨some a, cap, rfl, hl, rfl, ?_, fun _ => ⟨a, rfl, fun j p hj => ?_⟩⟩, ?_, ?_, ?_⟩
  · unfold maxLen at hm; omega
  · obtain ⟨c, hc1, hc2, _⟩ := hl2 j p hj
    obtain ⟨_, hlen2, hcell⟩ := World.cells?_some hc1
    refine ⟨c, by rw [h.sz]; exact hlen2, hc2, fun i u hu => ?_⟩
    have hi : i < P.cellsOf e := by
      have := (List.getElem?_eq_some_iff.1 hu).1
      omega
    have := hcell i hi
    rw [hu, ← Deep.add_add, h.sz] at *
    exact this
  · exact Nat.le_trans hl hm
  · have h2 : l.length * P.bytesOf e ≤ (elems.length + rest.length) * P.bytesOf e := Nat.mul_le_mul_right _ (by omega)
    exact Nat.le_trans h2 hw1
  · intro x hx
    obtain ⟨j, hj⟩ := List.getElem?_of_mem hx
    obtain ⟨c, _, _, ho⟩ := hl2 j x hj
    exact ho
structure OpensF (P : Program) (fs : List Field) (off : Nat) {α : Type} (d : Kd α) (Ok : α → Prop) : Prop where
  opens : ∀ {H : Type} {enc : TypeId × Value → H} {w : World} {base : Nat} {spare : Nat → Bool} {held : Bool} {n : Nat} {cs : List Value} {xs : List (DataW H × List MemPlace)},
    xs.length = fs.length → (∀ (i : Nat) (f : Field), fs[i]? = some f → DataW.trod enc P w base spare held n f.type ((cs.drop f.offset).take (P.cellsOf f.type)) = xs[i]?) →
    (∀ m ∈ DataW.weightsEach P (fs.map (·.type)) (xs.map (·.1)), m ≤ reachBytes) → ∃ v, d.K w v ((cs.drop off).take d.sz) ∧ Ok v
theorem opensF_one {P : Program} {f : Field} {off : Nat} {α : Type} {d : Kd α} {Ok : α → Prop} (h : Opens P f.type d Ok) (ho : f.offset = off) : OpensF P [f] off d Ok := by
  refine ⟨fun {H enc w base spare held n cs xs} hl hx hw => ?_⟩
  match xs, hl with
  | [x], _ =>
    have h1 := hx 0 f rfl
    obtain ⟨v, hv, hok⟩ := h.opens h1 (fun n hn => hw n (by simpa [DataW.weightsEach] using hn))
    refine ⟨v, ?_, hok⟩
    rw [h.sz, ← ho]
    exact hv
theorem opensF_cons {P : Program} {f : Field} {fs : List Field} {off : Nat} {α β : Type} {d : Kd α} {d' : Kd β} {Ok : α → Prop} {Ok' : β → Prop} (h : Opens P f.type d Ok) (ho : f.offset = off) (h' : OpensF P fs (off + d.sz) d' Ok') :
    OpensF P (f :: fs) off (Kd.pair d d') (fun p => Ok p.1 ∧ Ok' p.2) := by
  refine ⟨fun {H enc w base spare held n cs xs} hl hx hw => ?_⟩
  match xs, hl with
  | x :: xs, hl =>
    have h1 := hx 0 f rfl
    obtain ⟨v, hv, hok⟩ := h.opens h1 (fun n hn => hw n (by
      simp only [List.map_cons, DataW.weightsEach, List.mem_append]; exact Or.inl hn))
    obtain ⟨v', hv', hok'⟩ := h'.opens (cs := cs) (xs := xs) (by simpa using hl) (fun i g hg => by
      have := hx (i + 1) g (by simpa using hg)
      simpa using this) (fun m hm => hw m (by simp only [List.map_cons, DataW.weightsEach, List.mem_append]; exact Or.inr hm))
    refine ⟨(v, v'), ⟨(cs.drop off).take d.sz, (cs.drop (off + d.sz)).take d'.sz, ?_, ?_, hv'⟩, hok, hok'⟩
    · show (cs.drop off).take (d.sz + d'.sz) = _
      rw [List.take_add, List.drop_drop]
    · rw [h.sz, ← ho]; exact hv
theorem opens_struct {P : Program} {t : TypeId} {fs : Array Field} {α β : Type} {d : Kd α} {Ok : α → Prop} (h : OpensF P fs.toList 0 d Ok) (ht : P.underlying t = some (.struct fs)) (hc : d.sz = P.cellsOf t) (f : β → α) (mk : α → β) (hf : ∀ a, f (mk a) = a) :
    Opens P t (Kd.iso d f) (fun b => Ok (f b)) := by
  refine ⟨hc, fun {H enc w base spare held fuel cs x} hx hw => ?_⟩
  obtain ⟨xs, n, _, rfl, hlen, hsz, hall⟩ := DataW.trod_struct ht hx
  simp only [DataW.weights, ht] at hw
  obtain ⟨v, hv, hok⟩ := h.opens (cs := cs) (xs := xs) (by simpa using hsz) (fun i f hf => hall i f (by simpa using hf)) hw
  refine ⟨mk v, ?_, by rw [hf]; exact hok⟩
  show d.K w (f (mk v)) cs
  rw [hf]
  rw [List.drop_zero, hc, ← hlen, List.take_length] at hv
  exact hv
theorem opens_imp {P : Program} {t : TypeId} {α : Type} {d : Kd α} {Ok Ok' : α → Prop} (h : Opens P t d Ok) (hi : ∀ v, Ok v → Ok' v) : Opens P t d Ok' :=
  ⟨h.sz, fun hx hw => let ⟨v, hv, ho⟩ := h.opens hx hw; ⟨v, hv, hi v ho⟩⟩
end Go.Proofs.Ytbgeceiddcokmaa.Opn
end
section
namespace Go.Proofs.Ytbgeceiddcokmaa.X
open Go.RowKit Go.Proofs.YtbgeceiddcokmaaW.PrintWords Go.Proofs.YtbgeceiddcokmaaW.PrintLast Go.Proofs.YtbgeceiddcokmaaW.PrintMore
attribute [local go_sem] max2_int min2_int max_two min_two max_three min_three max_four min_four
set_option linter.unusedVariables false
set_option linter.unusedSimpArgs false
def ok39 (v : S39) : Prop := v.f0.size ≤ 140737488351232 ∧ ((Lit.int .i64 v.f1).wf = true ∧ ((Lit.int .i64 v.f2).wf = true ∧ ((Lit.int .i64 v.f3).wf = true)))
theorem opens39 : Opn.Opens Try.prog 39 k39 ok39 := by
  have hu := Try.underlying39
  refine Opn.opens_imp (Opn.opens_struct (Ok := fun (p : ByteArray × (Int × (Int × (Int)))) => p.1.size ≤ 140737488351232 ∧ ((Lit.int .i64 p.2.1).wf = true ∧ ((Lit.int .i64 p.2.2.1).wf = true ∧ ((Lit.int .i64 p.2.2.2).wf = true)))) ?hF hu (by kernel_rfl) (fun x : S39 => (x.f0, x.f1, x.f2, x.f3)) (fun a => ⟨a.1, a.2.1, a.2.2.1, a.2.2.2⟩) (fun _ => rfl)) ?hI
  case hF =>
    refine Opn.opensF_cons (Ok := fun (p : ByteArray) => p.size ≤ 140737488351232) (Ok' := fun (p : Int × (Int × (Int))) => (Lit.int .i64 p.1).wf = true ∧ ((Lit.int .i64 p.2.1).wf = true ∧ ((Lit.int .i64 p.2.2).wf = true))) (h := ?_) (ho := ?_) (h' := ?_)
    · exact Opn.opens_string Try.underlying9 (by kernel_rfl)
    · rfl
    · skip
      refine Opn.opensF_cons (Ok := fun (p : Int) => (Lit.int .i64 p).wf = true) (Ok' := fun (p : Int × (Int)) => (Lit.int .i64 p.1).wf = true ∧ ((Lit.int .i64 p.2).wf = true)) (h := ?_) (ho := ?_) (h' := ?_)
      · exact Opn.opens_int Try.underlying3 (by kernel_rfl)
      · rfl
      · skip
        refine Opn.opensF_cons (Ok := fun (p : Int) => (Lit.int .i64 p).wf = true) (Ok' := fun (p : Int) => (Lit.int .i64 p).wf = true) (h := ?_) (ho := ?_) (h' := ?_)
        · exact Opn.opens_int Try.underlying3 (by kernel_rfl)
        · rfl
        · skip
          refine Opn.opensF_one (Ok := fun (p : Int) => (Lit.int .i64 p).wf = true) (h := ?_) (ho := ?_)
          · exact Opn.opens_int Try.underlying3 (by kernel_rfl)
          · rfl
  case hI => exact fun v h => h
def ok73 (v : S73) : Prop := ok39 v.f0 ∧ ((Lit.int .i64 v.f1).wf = true ∧ ((Lit.int .i64 v.f2).wf = true))
theorem opens73 : Opn.Opens Try.prog 73 k73 ok73 := by
  have hu := Try.underlying73
  refine Opn.opens_imp (Opn.opens_struct (Ok := fun (p : S39 × (Int × (Int))) => ok39 p.1 ∧ ((Lit.int .i64 p.2.1).wf = true ∧ ((Lit.int .i64 p.2.2).wf = true))) ?hF hu (by kernel_rfl) (fun x : S73 => (x.f0, x.f1, x.f2)) (fun a => ⟨a.1, a.2.1, a.2.2⟩) (fun _ => rfl)) ?hI
  case hF =>
    refine Opn.opensF_cons (Ok := fun (p : S39) => ok39 p) (Ok' := fun (p : Int × (Int)) => (Lit.int .i64 p.1).wf = true ∧ ((Lit.int .i64 p.2).wf = true)) (h := ?_) (ho := ?_) (h' := ?_)
    · exact opens39
    · rfl
    · skip
      refine Opn.opensF_cons (Ok := fun (p : Int) => (Lit.int .i64 p).wf = true) (Ok' := fun (p : Int) => (Lit.int .i64 p).wf = true) (h := ?_) (ho := ?_) (h' := ?_)
      · exact Opn.opens_int Try.underlying3 (by kernel_rfl)
      · rfl
      · skip
        refine Opn.opensF_one (Ok := fun (p : Int) => (Lit.int .i64 p).wf = true) (h := ?_) (ho := ?_)
        · exact Opn.opens_int Try.underlying3 (by kernel_rfl)
        · rfl
  case hI => exact fun v h => h
end Go.Proofs.Ytbgeceiddcokmaa.X
end
section
namespace Go.Proofs.Ytbgeceiddcokmaa.P
open Go.RowKit Go.Proofs.YtbgeceiddcokmaaW.PrintWords Go.Proofs.YtbgeceiddcokmaaW.PrintMore Go.Proofs.Ytbgeceiddcokmaa.X
theorem Ev_succ {α : Type} {g : Nat → Option α} {r : α} (h : Ev (fun k => g (k + 1)) r) : Ev g r := Ev.step (fun _ => rfl) h
theorem Ev_bind {α β : Type} {g : Nat → Option α} {f : Nat → α → Option β} {a : α} {r : β} (h : Ev g a) (k : Ev (fun n => f n a) r) : Ev (fun n => (g n).bind (f n)) r := Ev.bind h k
theorem Ev_id {α : Type} {g : Nat → Option α} {r : α} (h : Ev g r) : Ev (fun n => (g n).bind fun x => some x) r := Ev.bind h (Ev.now _)
theorem w_id {x : Int} (h1 : -9223372036854775808 ≤ x) (h2 : x ≤ 9223372036854775807) : wrap64 x = x := by unfold wrap64; omega
theorem w_succ {i n : Nat} (h : i < n) (hn : n ≤ 9223372036854775807) : wrap64 ((i : Int) + 1) = ((i + 1 : Nat) : Int) := by rw [w_id (by omega) (by omega)]; omega
theorem w_pred {i : Nat} (h : 0 < i) (hn : i ≤ 9223372036854775807) : wrap64 ((i : Int) - 1) = ((i - 1 : Nat) : Int) := by rw [w_id (by omega) (by omega)]; omega
theorem rdOf_nat {α : Type} (d : α) (xs : List α) (i : Nat) (h : i < xs.length) : rdOf d xs (i : Int) = xs[i] := by simp [rdOf, h]
theorem drop_cons {α : Type} (l : List α) (i : Nat) (h : i < l.length) : l.drop i = l[i] :: l.drop (i + 1) := (List.getElem_cons_drop h).symm
theorem ba_ext {a b : ByteArray} (h : a.toList = b.toList) : a = b := by
  have e : ∀ c : ByteArray, c.toList = c.data.toList := fun c => ByteArray.toList_eq c
  rw [e, e] at h
  cases a; cases b
  congr 1
  exact Array.toList_inj.1 h
end Go.Proofs.Ytbgeceiddcokmaa.P
end
section
namespace Go.Proofs.Ytbgeceiddcokmaa.P
set_option linter.unusedVariables false
set_option linter.unusedSimpArgs false
open Go.RowKit Go.Proofs.YtbgeceiddcokmaaW.PrintWords Go.Proofs.YtbgeceiddcokmaaW.PrintMore Go.Proofs.Ytbgeceiddcokmaa.X
abbrev Ser := S39
abbrev Pos := S73
def cmpI (a b : Int) : Int := if a < b then -1 else if a > b then 1 else 0
def cmpB (a b : ByteArray) : Int := if (Op.bytesLess a.toList b.toList) = true then -1 else if (Op.bytesLess b.toList a.toList) = true then 1 else 0
def cmpS (a b : Ser) : Int :=
  if a.f0.toList = b.f0.toList then (if a.f2 = b.f2 then (if a.f1 = b.f1 then cmpI a.f3 b.f3 else cmpI a.f1 b.f1) else cmpI a.f2 b.f2) else cmpB a.f0 b.f0
theorem cmpI_f (a b : Int) : cmp_Compare_int.f a b = some (cmpI a b) := by
  unfold cmp_Compare_int.f cmp_isNaN_int.f cmpI
  simp only [bne_self_eq_false, Option.bind_some, Bool.false_eq_true, if_false]
  split
  · rfl
  · split <;> rfl
theorem cmpB_f (a b : ByteArray) : cmp_Compare_string.f a b = some (cmpB a b) := by
  unfold cmp_Compare_string.f cmp_isNaN_string.f cmpB
  simp only [bne_self_eq_false, Option.bind_some, Bool.false_eq_true, if_false]
  split
  · rfl
  · split <;> rfl
theorem cmpS_f (a b : Ser) : series_Compare.f a.f0 a.f1 a.f2 a.f3 b.f0 b.f1 b.f2 b.f3 = some (cmpS a b) := by
  unfold series_Compare.f cmpS
  simp only [cmpI_f, cmpB_f, Option.bind_some]
  by_cases h0 : a.f0.toList = b.f0.toList
  · by_cases h2 : a.f2 = b.f2
    · by_cases h1 : a.f1 = b.f1
      · by_cases h3 : a.f3 = b.f3
        · simp [h0, h1, h2, h3, cmpI]
        · simp [h0, h1, h2, h3]
      · simp [h0, h1, h2]
    · simp [h0, h2]
  · simp [h0]
def lots (n : Int) : Bool := decide (0 ≤ n) && decide (n ≤ 1048576)
theorem lots_f (n : Int) : position_lots.f n = some (lots n) := by
  unfold position_lots.f lots
  by_cases h : n ≥ 0
  · rw [if_pos h, decide_eq_true (show 0 ≤ n from h), Bool.true_and]
  · rw [if_neg h, decide_eq_false (show ¬ 0 ≤ n from h), Bool.false_and]
def posBad (p : Pos) : Bool := !(lots p.f1) || !(lots p.f2) || (decide (p.f1 = 0) && decide (p.f2 = 0))
def behind (prev : Option Ser) (s : Ser) : Bool := match prev with | some q => decide (cmpS q s ≥ 0) | none => false
def posGo : Option Ser → List Pos → Int
  | _, [] => 0
  | prev, p :: r => if behind prev p.f0 = true then 19 else if posBad p = true then 18 else posGo (some p.f0) r
def posCheck (l : List Pos) : Int := if l.length > 128 then 8 else posGo none l
def prevOf (l : List Pos) (i : Nat) : Option Ser := if i = 0 then none else (l[i - 1]?).map (·.f0)
theorem rdPos (l : List Pos) (i : Nat) (h : i < l.length) : rd_T73 l (i : Int) = l[i] := by simp [rd_T73, h]
theorem posJ (l : List Pos) (i : Nat) (b : Bool) (p : Pos) (r : Int)
    (h : b = false → posBad p = false → Ev (fun k => position_Check.l0 k l l l.length (wrap64 ((i : Int) + 1))) r) :
    Ev (fun k => position_Check.j1 k l l l.length i b p.f0.f0 p.f0.f1 p.f0.f2 p.f0.f3 p.f1 p.f2) (if b = true then 19 else if posBad p = true then 18 else r) := by
  refine Ev_succ ?_
  simp only [position_Check.j1, lots_f, Option.bind_some]
  cases b with
  | true => exact Ev.now _
  | false =>
    simp only [Bool.false_eq_true, if_false]
    cases h1 : lots p.f1 with
    | false => simp only [posBad, h1, Bool.not_false, Bool.true_or, if_true, Bool.false_eq_true, if_false]; exact Ev.now _
    | true =>
      cases h2 : lots p.f2 with
      | false => simp only [posBad, h1, h2, Bool.not_false, Bool.not_true, Bool.true_or, Bool.or_true, if_true, Bool.false_eq_true, if_false]; exact Ev.now _
      | true =>
        simp only [if_true]
        by_cases z1 : p.f1 = 0
        · by_cases z2 : p.f2 = 0
          · have hb : posBad p = true := by simp [posBad, z1, z2]
            simp only [hb, if_true, if_pos z1, if_pos z2]
            exact Ev.now _
          · have hb : posBad p = false := by simp only [posBad, h1, h2]; simp [z2]
            simp only [hb, Bool.false_eq_true, if_false, if_neg z2, ite_self]
            exact h rfl hb
        · have hb : posBad p = false := by simp only [posBad, h1, h2]; simp [z1]
          simp only [hb, Bool.false_eq_true, if_false, if_neg z1]
          exact h rfl hb
theorem posLoop (l : List Pos) (hl : l.length ≤ 4611686018427387904) : ∀ (d i : Nat), i + d = l.length → Ev (fun k => position_Check.l0 k l l l.length i) (posGo (prevOf l i) (l.drop i))
  | 0, i, hd => by
    refine Ev_succ ?_
    simp only [position_Check.l0, if_neg (show ¬ ((i : Int) < (l.length : Int)) by omega)]
    rw [List.drop_of_length_le (by omega)]
    exact Ev.now _
  | d + 1, i, hd => by
    have hi : i < l.length := by omega
    have ih := posLoop l hl d (i + 1) (by omega)
    rw [← w_succ hi (by omega)] at ih
    have hprev : prevOf l (i + 1) = some l[i].f0 := by simp [prevOf, hi]
    rw [hprev] at ih
    rw [drop_cons l i hi]
    refine Ev_succ ?_
    simp only [position_Check.l0, if_pos (show (i : Int) < (l.length : Int) by omega), if_pos (show 0 ≤ (i : Int) by omega), rdPos l i hi]
    by_cases h0 : i = 0
    · subst h0
      simp only [if_neg (show ¬ (((0 : Nat) : Int) > 0) by omega)]
      exact posJ l 0 false l[0] _ (fun _ _ => ih)
    · have hp := w_pred (show 0 < i by omega) (by omega)
      simp only [if_pos (show ((i : Int) > 0) by omega), hp, if_pos (show 0 ≤ ((i - 1 : Nat) : Int) by omega), if_pos (show ((i - 1 : Nat) : Int) < (l.length : Int) by omega), rdPos l (i - 1) (by omega), cmpS_f, Option.bind_some]
      have hb : behind (prevOf l i) l[i].f0 = decide (cmpS l[i - 1].f0 l[i].f0 ≥ 0) := by
        simp [behind, prevOf, h0, show i - 1 < l.length by omega]
      simp only [posGo, hb]
      exact posJ l i _ l[i] _ (fun _ _ => ih)
theorem posCheck_f (l : List Pos) (hl : l.length ≤ 4611686018427387904) : Ev (fun k => position_Check.f k l) (posCheck l) := by
  unfold position_Check.f posCheck
  by_cases h : l.length > 128
  · simp only [if_pos (show (l.length : Int) > 128 by omega), if_pos h]
    exact Ev.now _
  · simp only [if_neg (show ¬ ((l.length : Int) > 128) by omega), if_neg h]
    exact posLoop l hl l.length 0 (by omega)
end Go.Proofs.Ytbgeceiddcokmaa.P
end
section
namespace Go.Proofs.Ytbgeceiddcokmaa.P
set_option linter.unusedVariables false
set_option linter.unusedSimpArgs false
open Go.RowKit Go.Proofs.YtbgeceiddcokmaaW.PrintWords Go.Proofs.YtbgeceiddcokmaaW.PrintMore Go.Proofs.Ytbgeceiddcokmaa.X
theorem bl_self : ∀ a : List UInt8, Op.bytesLess a a = false
  | [] => rfl
  | x :: a => by simp [Op.bytesLess, bl_self a]
theorem bl_not : ∀ a b : List UInt8, (!(Op.bytesLess a b || a == b)) = Op.bytesLess b a
  | [], [] => rfl
  | [], y :: b => by simp [Op.bytesLess]
  | x :: a, [] => by simp [Op.bytesLess]
  | x :: a, y :: b => by
    have ih := bl_not a b
    simp only [Op.bytesLess]
    by_cases h : x = y
    · subst h
      have : ¬ x < x := by simp
      simp only [this, decide_false, Bool.false_or, beq_self_eq_true, Bool.true_and, ← ih]
      congr 1
      simp
    · have h1 : (x == y) = false := by simpa using h
      have h2 : (y == x) = false := by simpa using fun e => h e.symm
      have h3 : (x :: a == y :: b) = false := by simp [h]
      rw [h1, h2, h3]
      simp only [Bool.false_and, Bool.or_false]
      have : decide (y < x) = !decide (x < y) := by
        rw [Bool.eq_iff_iff]
        simp only [decide_eq_true_eq, Bool.not_eq_true', decide_eq_false_iff_not, UInt8.lt_iff_toNat_lt]
        have : x.toNat ≠ y.toNat := fun e => h (UInt8.toNat_inj.1 e)
        omega
      rw [this]
theorem bl_eq {a b : List UInt8} (h : Op.bytesLess a b = false) (k : Op.bytesLess b a = false) : a = b := by
  have := bl_not a b
  rw [h, k] at this
  simpa using this
theorem bl_ne {a b : List UInt8} (h : Op.bytesLess a b = true) : a ≠ b := by
  rintro rfl
  rw [bl_self] at h
  cases h
theorem bl_trans : ∀ a b c : List UInt8, Op.bytesLess a b = true → Op.bytesLess b c = true → Op.bytesLess a c = true
  | a, b, [], _, h => by cases b <;> simp [Op.bytesLess] at h
  | a, [], z :: c, h, _ => by cases a <;> simp [Op.bytesLess] at h
  | [], y :: b, z :: c, _, _ => by simp [Op.bytesLess]
  | x :: a, y :: b, z :: c, h, k => by
    simp only [Op.bytesLess, Bool.or_eq_true, Bool.and_eq_true, decide_eq_true_eq, beq_iff_eq] at h k ⊢
    rcases h with h | ⟨h, h'⟩ <;> rcases k with k | ⟨k, k'⟩
    · exact Or.inl (UInt8.lt_trans h k)
    · subst k; exact Or.inl h
    · subst h; exact Or.inl k
    · subst h k; exact Or.inr ⟨rfl, bl_trans a b c h' k'⟩
theorem orderR_f (a b : Int) : contangoref10_order.f a b = some (cmpI a b) := by
  unfold contangoref10_order.f cmpI
  split
  · rfl
  · split <;> rfl
theorem cmpR_f (a b : Ser) : contangoref10_Compare.f a.f0 a.f1 a.f2 a.f3 b.f0 b.f1 b.f2 b.f3 = some (cmpS a b) := by
  unfold contangoref10_Compare.f cmpS cmpB
  simp only [orderR_f, Option.bind_some]
  by_cases h0 : a.f0.toList = b.f0.toList
  · rw [if_pos h0, h0]
    simp only [bl_self, Bool.false_eq_true, if_false]
    split
    · split <;> rfl
    · rfl
  · rw [if_neg h0]
    cases h1 : Op.bytesLess a.f0.toList b.f0.toList with
    | true => simp
    | false =>
      cases h2 : Op.bytesLess b.f0.toList a.f0.toList with
      | true => simp
      | false => exact absurd (bl_eq h1 h2) h0
theorem lotsR_f (n : Int) : contangoref15_lots.f n = some (lots n) := by
  unfold contangoref15_lots.f lots
  by_cases h : n ≥ 0
  · rw [if_pos h, decide_eq_true (show 0 ≤ n from h), Bool.true_and]
  · rw [if_neg h, decide_eq_false (show ¬ 0 ≤ n from h), Bool.false_and]
theorem refPosJ (l : List Pos) (i : Nat) (hi : i < l.length) (b : Bool) (r : Int)
    (h : b = false → posBad l[i] = false → Ev (fun k => contangoref15_Check.l0 k l (wrap64 ((i : Int) + 1))) r) :
    Ev (fun k => contangoref15_Check.j1 k l i b) (if b = true then 19 else if posBad l[i] = true then 18 else r) := by
  refine Ev_succ ?_
  simp only [contangoref15_Check.j1, lotsR_f, Option.bind_some, if_pos (show 0 ≤ (i : Int) by omega), if_pos (show (i : Int) < (l.length : Int) by omega), rdPos l i hi]
  cases b with
  | true => exact Ev.now _
  | false =>
    simp only [Bool.false_eq_true, if_false]
    cases h1 : lots l[i].f1 with
    | false => simp only [posBad, h1, Bool.not_false, Bool.true_or, if_true, Bool.false_eq_true, if_false]; exact Ev.now _
    | true =>
      cases h2 : lots l[i].f2 with
      | false => simp only [posBad, h1, h2, Bool.not_false, Bool.not_true, Bool.true_or, Bool.or_true, if_true, Bool.false_eq_true, if_false]; exact Ev.now _
      | true =>
        simp only [if_true]
        simp only [lots, Bool.and_eq_true, decide_eq_true_eq] at h1 h2
        rw [w_id (x := l[i].f1 + l[i].f2) (by omega) (by omega)]
        by_cases z : l[i].f1 + l[i].f2 = 0
        · have hb : posBad l[i] = true := by simp [posBad, show l[i].f1 = 0 by omega, show l[i].f2 = 0 by omega]
          simp only [hb, if_true, if_pos z]
          exact Ev.now _
        · have hb : posBad l[i] = false := by simp [posBad, lots]; omega
          simp only [hb, Bool.false_eq_true, if_false, if_neg z]
          exact h rfl hb
theorem refPosLoop (l : List Pos) (hl : l.length ≤ 4611686018427387904) : ∀ (d i : Nat), i + d = l.length → Ev (fun k => contangoref15_Check.l0 k l i) (posGo (prevOf l i) (l.drop i))
  | 0, i, hd => by
    refine Ev_succ ?_
    simp only [contangoref15_Check.l0, if_neg (show ¬ ((i : Int) < (l.length : Int)) by omega)]
    rw [List.drop_of_length_le (by omega)]
    exact Ev.now _
  | d + 1, i, hd => by
    have hi : i < l.length := by omega
    have ih := refPosLoop l hl d (i + 1) (by omega)
    rw [← w_succ hi (by omega)] at ih
    have hprev : prevOf l (i + 1) = some l[i].f0 := by simp [prevOf, hi]
    rw [hprev] at ih
    rw [drop_cons l i hi]
    refine Ev_succ ?_
    simp only [contangoref15_Check.l0, if_pos (show (i : Int) < (l.length : Int) by omega), if_pos (show 0 ≤ (i : Int) by omega), rdPos l i hi]
    by_cases h0 : i = 0
    · subst h0
      simp only [if_neg (show ¬ (((0 : Nat) : Int) > 0) by omega)]
      exact refPosJ l 0 hi false _ (fun _ _ => ih)
    · have hp := w_pred (show 0 < i by omega) (by omega)
      simp only [if_pos (show ((i : Int) > 0) by omega), hp, if_pos (show 0 ≤ ((i - 1 : Nat) : Int) by omega), if_pos (show ((i - 1 : Nat) : Int) < (l.length : Int) by omega), rdPos l (i - 1) (by omega), cmpR_f, Option.bind_some]
      have hb : behind (prevOf l i) l[i].f0 = decide (cmpS l[i - 1].f0 l[i].f0 ≥ 0) := by
        simp [behind, prevOf, h0, show i - 1 < l.length by omega]
      simp only [posGo, hb]
      exact refPosJ l i hi _ _ (fun _ _ => ih)
theorem refPosCheck_f (l : List Pos) (hl : l.length ≤ 4611686018427387904) : Ev (fun k => contangoref15_Check.f k l) (posCheck l) := by
  unfold contangoref15_Check.f posCheck
  by_cases h : l.length > 128
  · simp only [if_pos (show (l.length : Int) > 128 by omega), if_pos h]
    exact Ev.now _
  · simp only [if_neg (show ¬ ((l.length : Int) > 128) by omega), if_neg h]
    exact refPosLoop l hl l.length 0 (by omega)
theorem posGo_order : ∀ (l : List Pos) (prev : Option Ser), posGo prev l = 0 → ∀ (i : Nat) (h : i < l.length) (h0 : 0 < i), cmpS (l[i - 1]'(by omega)).f0 l[i].f0 < 0
  | [], _, _, i, h, _ => by simp at h
  | p :: t, prev, hz, i, h, h0 => by
    unfold posGo at hz
    by_cases h1 : behind prev p.f0 = true
    · rw [if_pos h1] at hz; omega
    · rw [if_neg h1] at hz
      by_cases h2 : posBad p = true
      · rw [if_pos h2] at hz; omega
      · rw [if_neg h2] at hz
        obtain ⟨j, rfl⟩ : ∃ j, i = j + 1 := ⟨i - 1, by omega⟩
        cases j with
        | zero =>
          cases t with
          | nil => simp at h
          | cons q t =>
            unfold posGo at hz
            by_cases h3 : behind (some p.f0) q.f0 = true
            · rw [if_pos h3] at hz; omega
            · simp only [behind, decide_eq_true_eq] at h3
              simp only [List.getElem_cons_succ, List.getElem_cons_zero, Nat.zero_add, Nat.sub_self]
              omega
        | succ j =>
          have := posGo_order t _ hz (j + 1) (by simpa using h) (by omega)
          simpa using this
theorem posCheck_order {l : List Pos} (h : posCheck l = 0) : ∀ (i : Nat) (h : i < l.length) (h0 : 0 < i), cmpS (l[i - 1]'(by omega)).f0 l[i].f0 < 0 := by
  unfold posCheck at h
  by_cases h2 : l.length > 128
  · rw [if_pos h2] at h; omega
  · rw [if_neg h2] at h; exact posGo_order l none h
theorem cmpS_names {a b : Ser} (h : cmpS a b < 0) : a.f0.toList = b.f0.toList ∨ Op.bytesLess a.f0.toList b.f0.toList = true := by
  unfold cmpS at h
  by_cases h0 : a.f0.toList = b.f0.toList
  · exact Or.inl h0
  · rw [if_neg h0] at h
    unfold cmpB at h
    by_cases h1 : Op.bytesLess a.f0.toList b.f0.toList = true
    · exact Or.inr h1
    · rw [if_neg h1] at h
      by_cases h2 : Op.bytesLess b.f0.toList a.f0.toList = true
      · rw [if_pos h2] at h; omega
      · rw [if_neg h2] at h; omega
end Go.Proofs.Ytbgeceiddcokmaa.P
end
section
namespace Go.Proofs.Ytbgeceiddcokmaa.P
set_option linter.unusedVariables false
set_option linter.unusedSimpArgs false
open Go.RowKit Go.Proofs.YtbgeceiddcokmaaW.PrintWords Go.Proofs.YtbgeceiddcokmaaW.PrintMore Go.Proofs.Ytbgeceiddcokmaa.X
abbrev Arr := S91
def lossBad (x : Int) : Bool := decide (x < -68719476736) || decide (x > 68719476736)
def deltaBad (x : Int) : Bool := decide (x < -1000) || decide (x > 1000)
end Go.Proofs.Ytbgeceiddcokmaa.P
end
section
namespace Go.Proofs.Ytbgeceiddcokmaa.P
set_option linter.unusedVariables false
set_option linter.unusedSimpArgs false
open Go.RowKit Go.Proofs.YtbgeceiddcokmaaW.PrintWords Go.Proofs.YtbgeceiddcokmaaW.PrintMore Go.Proofs.Ytbgeceiddcokmaa.X
structure PGood (l : List Pos) (o : List Arr) (n : Nat) : Prop where
  len : o.length = l.length
  few : l.length ≤ 128
  lots : ∀ p ∈ l, lots p.f1 = true ∧ lots p.f2 = true
  arr : ∀ a ∈ o, a.f1.length = n ∧ (∀ x ∈ a.f1, lossBad x = false) ∧ deltaBad a.f2 = false
  scen : n ≤ 32
theorem posGo_zero : ∀ (l : List Pos) (prev : Option Ser), posGo prev l = 0 → ∀ p ∈ l, posBad p = false
  | [], _, _, p, hp => by simp at hp
  | q :: t, prev, h, p, hp => by
    unfold posGo at h
    by_cases h1 : behind prev q.f0 = true
    · rw [if_pos h1] at h; omega
    · rw [if_neg h1] at h
      by_cases h2 : posBad q = true
      · rw [if_pos h2] at h; omega
      · rw [if_neg h2] at h
        rcases List.mem_cons.1 hp with rfl | hp
        · simpa using h2
        · exact posGo_zero t _ h p hp
theorem posCheck_zero {l : List Pos} (h : posCheck l = 0) : l.length ≤ 128 ∧ ∀ p ∈ l, posBad p = false := by
  unfold posCheck at h
  by_cases h1 : l.length > 128
  · rw [if_pos h1] at h; omega
  · rw [if_neg h1] at h; exact ⟨by omega, posGo_zero l none h⟩
end Go.Proofs.Ytbgeceiddcokmaa.P
end
section
namespace Go.Proofs.Ytbgeceiddcokmaa.P
set_option linter.unusedVariables false
set_option linter.unusedSimpArgs false
open Go.RowKit Go.Proofs.YtbgeceiddcokmaaW.PrintWords Go.Proofs.YtbgeceiddcokmaaW.PrintMore Go.Proofs.Ytbgeceiddcokmaa.X
def sameN (n : ByteArray) (l : List Pos) : List Pos := l.filter (fun p => p.f0.f0.toList == n.toList)
def isN (prev : Option ByteArray) (n : ByteArray) : Bool := match prev with | some q => q.toList == n.toList | none => false
def heads : Option ByteArray → List Pos → List ByteArray
  | _, [] => []
  | prev, p :: t => if isN prev p.f0.f0 = true then heads (some p.f0.f0) t else p.f0.f0 :: heads (some p.f0.f0) t
def prods (l : List Pos) : List ByteArray × List (List Pos) := if posCheck l = 0 then (heads none l, (heads none l).map fun n => sameN n l) else ([], [])
def prevN (l : List Pos) (i : Nat) : Option ByteArray := if i = 0 then none else (l[i - 1]?).map (·.f0.f0)
theorem prevN_succ (l : List Pos) (i : Nat) (hi : i < l.length) : prevN l (i + 1) = some l[i].f0.f0 := by simp [prevN, hi]
theorem heads_len : ∀ (l : List Pos) (p : Option ByteArray), (heads p l).length ≤ l.length
  | [], _ => by simp [heads]
  | q :: t, p => by
    unfold heads
    have := heads_len t (some q.f0.f0)
    split <;> simp <;> omega
theorem sameN_len (n : ByteArray) (l : List Pos) : (sameN n l).length ≤ l.length := List.length_filter_le _ _
theorem sameN_snoc (n : ByteArray) (l : List Pos) (p : Pos) : sameN n (l ++ [p]) = if p.f0.f0.toList = n.toList then sameN n l ++ [p] else sameN n l := by
  unfold sameN
  rw [List.filter_append]
  by_cases h : p.f0.f0.toList = n.toList
  · rw [if_pos h]; simp [h]
  · rw [if_neg h]; simp [h]
theorem refL1 (l : List Pos) (hl : l.length ≤ 128) (ns : List ByteArray) (ps : List (List Pos)) (i : Nat) (hi : i < l.length) (hn : ns.length < 200) (hp : ps.length < 200) (r : List ByteArray × List (List Pos))
    (h : Ev (fun k => contangoref23_Products.l0 k l (ns ++ [l[i].f0.f0]) (ps ++ [sameN l[i].f0.f0 l]) (wrap64 ((i : Int) + 1))) r) : ∀ (d j : Nat), j + d = l.length →
    Ev (fun k => contangoref23_Products.l1 k l ns ps i (sameN l[i].f0.f0 (l.take j)) j) r
  | 0, j, hd => by
    refine Ev_succ ?_
    simp only [contangoref23_Products.l1, if_neg (show ¬ ((j : Int) < (l.length : Int)) by omega), if_pos (show 0 ≤ (i : Int) by omega), if_pos (show (i : Int) < (l.length : Int) by omega), if_pos (show ns.length < 8796093022208 by omega), if_pos (show ps.length < 5864062014805 by omega), rdPos l i hi]
    rw [List.take_of_length_le (by omega)]
    exact h
  | d + 1, j, hd => by
    have hj : j < l.length := by omega
    have ih := refL1 l hl ns ps i hi hn hp r h d (j + 1) (by omega)
    rw [List.take_succ_eq_append_getElem hj, sameN_snoc] at ih
    have hlen : (sameN l[i].f0.f0 (l.take j)).length < 2513169434916 := by
      have := sameN_len l[i].f0.f0 (l.take j)
      rw [List.length_take] at this
      omega
    refine Ev_succ ?_
    simp only [contangoref23_Products.l1, if_pos (show (j : Int) < (l.length : Int) by omega), if_pos (show 0 ≤ (j : Int) by omega), if_pos (show 0 ≤ (i : Int) by omega), if_pos (show (i : Int) < (l.length : Int) by omega), rdPos l i hi, rdPos l j hj, if_pos hlen, w_succ hj (by omega)]
    by_cases c : l[j].f0.f0.toList = l[i].f0.f0.toList
    · simp only [if_pos c]
      rw [if_pos c] at ih
      exact ih
    · simp only [if_neg c]
      rw [if_neg c] at ih
      exact ih
theorem refJ1 (l : List Pos) (hl : l.length ≤ 128) (ns : List ByteArray) (ps : List (List Pos)) (i : Nat) (hi : i < l.length) (hn : ns.length < 200) (hp : ps.length < 200) (b : Bool) (r : List ByteArray × List (List Pos))
    (h1 : b = true → Ev (fun k => contangoref23_Products.l0 k l ns ps (wrap64 ((i : Int) + 1))) r)
    (h2 : b = false → Ev (fun k => contangoref23_Products.l0 k l (ns ++ [l[i].f0.f0]) (ps ++ [sameN l[i].f0.f0 l]) (wrap64 ((i : Int) + 1))) r) :
    Ev (fun k => contangoref23_Products.j1 k l ns ps i b) r := by
  refine Ev_succ ?_
  cases b with
  | true => simp only [contangoref23_Products.j1, if_true]; exact h1 rfl
  | false =>
    simp only [contangoref23_Products.j1, Bool.false_eq_true, if_false]
    exact refL1 l hl ns ps i hi hn hp r (h2 rfl) l.length 0 (by omega)
theorem refProdLoop (l : List Pos) (hl : l.length ≤ 128) : ∀ (d i : Nat) (ns : List ByteArray) (ps : List (List Pos)), i + d = l.length → ns.length ≤ i → ps.length ≤ i →
    Ev (fun k => contangoref23_Products.l0 k l ns ps i) (ns ++ heads (prevN l i) (l.drop i), ps ++ (heads (prevN l i) (l.drop i)).map fun n => sameN n l)
  | 0, i, ns, ps, hd, _, _ => by
    refine Ev_succ ?_
    simp only [contangoref23_Products.l0, if_neg (show ¬ ((i : Int) < (l.length : Int)) by omega)]
    rw [List.drop_of_length_le (by omega)]
    simp only [heads, List.map_nil, List.append_nil]
    exact Ev.now _
  | d + 1, i, ns, ps, hd, hn, hp => by
    have hi : i < l.length := by omega
    have key : ∀ b, b = isN (prevN l i) l[i].f0.f0 → Ev (fun k => contangoref23_Products.j1 k l ns ps i b) (ns ++ heads (prevN l i) (l.drop i), ps ++ (heads (prevN l i) (l.drop i)).map fun n => sameN n l) := by
      intro b hb
      rw [drop_cons l i hi]
      refine refJ1 l hl ns ps i hi (by omega) (by omega) b _ ?_ ?_
      · intro e
        rw [e] at hb
        have ih := refProdLoop l hl d (i + 1) ns ps (by omega) (by omega) (by omega)
        rw [← w_succ hi (by omega), prevN_succ l i hi] at ih
        simp only [heads, if_pos hb.symm]
        exact ih
      · intro e
        rw [e] at hb
        have ih := refProdLoop l hl d (i + 1) (ns ++ [l[i].f0.f0]) (ps ++ [sameN l[i].f0.f0 l]) (by omega) (by simp; omega) (by simp; omega)
        rw [← w_succ hi (by omega), prevN_succ l i hi] at ih
        simp only [heads, ← hb, Bool.false_eq_true, if_false, List.map_cons]
        simpa using ih
    refine Ev_succ ?_
    simp only [contangoref23_Products.l0, if_pos (show (i : Int) < (l.length : Int) by omega), if_pos (show 0 ≤ (i : Int) by omega), rdPos l i hi]
    by_cases h0 : i = 0
    · subst h0
      simp only [if_neg (show ¬ (((0 : Nat) : Int) > 0) by omega)]
      exact key false rfl
    · have hw := w_pred (show 0 < i by omega) (by omega)
      simp only [if_pos (show ((i : Int) > 0) by omega), hw, if_pos (show 0 ≤ ((i - 1 : Nat) : Int) by omega), if_pos (show ((i - 1 : Nat) : Int) < (l.length : Int) by omega), rdPos l (i - 1) (by omega)]
      refine key _ ?_
      simp only [prevN, if_neg h0, List.getElem?_eq_getElem (show i - 1 < l.length by omega), Option.map_some, isN]
      rw [Bool.eq_iff_iff, beq_iff_eq, beq_iff_eq]
      exact eq_comm
theorem refProds_f (l : List Pos) (hl : l.length ≤ 4611686018427387904) : Ev (fun k => contangoref23_Products.f k l) (prods l) := by
  unfold contangoref23_Products.f prods
  simp only [Option.bind_some]
  refine Ev_bind (refPosCheck_f l hl) ?_
  by_cases h : posCheck l = 0
  · simp only [if_pos h]
    have := refProdLoop l (posCheck_zero h).1 l.length 0 [] [] (by omega) (by simp) (by simp)
    simpa [prevN] using this
  · simp only [if_neg h]
    exact Ev.now _
def HInv (l : List Pos) (i : Nat) (ns : List ByteArray) : Prop := (i = 0 ∧ ns = []) ∨
  (0 < i ∧ ∃ (ms : List ByteArray) (n : ByteArray), prevN l i = some n ∧ ns = ms ++ [n] ∧ (∀ m ∈ ms, Op.bytesLess m.toList n.toList = true) ∧ ∀ p ∈ l.take i, p.f0.f0.toList = n.toList ∨ Op.bytesLess p.f0.f0.toList n.toList = true)
theorem rdL_nat (ps : List (List Pos)) (i : Nat) (h : i < ps.length) : rd_L9 ps (i : Int) = ps[i] := by simp [rd_L9, h]
theorem rdL_last (ps : List (List Pos)) (p : List Pos) (i : Int) (hi : i = (ps.length : Int)) : rd_L9 (ps ++ [p]) i = p := by subst hi; simp [rd_L9]
theorem set_last {α : Type} (ps : List α) (p q : α) (i : Int) (hi : i = (ps.length : Int)) : (ps ++ [p]).set i.toNat q = ps ++ [q] := by subst hi; simp
theorem prodLoop (l : List Pos) (hl : l.length ≤ 128) (hs : ∀ (i : Nat) (h : i < l.length) (h0 : 0 < i), cmpS (l[i - 1]'(by omega)).f0 l[i].f0 < 0) : ∀ (d i : Nat) (ns : List ByteArray), i + d = l.length → ns.length ≤ i → HInv l i ns →
    Ev (fun k => scan_Products.l0 k ns (ns.map fun n => sameN n (l.take i)) l l.length i) (ns ++ heads (prevN l i) (l.drop i), (ns ++ heads (prevN l i) (l.drop i)).map fun n => sameN n l)
  | 0, i, ns, hd, _, _ => by
    refine Ev_succ ?_
    simp only [scan_Products.l0, if_neg (show ¬ ((i : Int) < (l.length : Int)) by omega)]
    rw [List.drop_of_length_le (by omega), List.take_of_length_le (by omega)]
    simp only [heads, List.append_nil]
    exact Ev.now _
  | d + 1, i, ns, hd, hn, hI => by
    have hi : i < l.length := by omega
    have hps : ∀ n, (sameN n (l.take i)).length < 2513169434916 := fun n => by
      have := sameN_len n (l.take i)
      rw [List.length_take] at this
      omega
    refine Ev_succ ?_
    simp only [scan_Products.l0, if_pos (show (i : Int) < (l.length : Int) by omega), if_pos (show 0 ≤ (i : Int) by omega), rdPos l i hi, w_succ hi (by omega)]

    have fresh : isN (prevN l i) l[i].f0.f0 = false → HInv l (i + 1) (ns ++ [l[i].f0.f0]) → (ns ++ [l[i].f0.f0]).map (fun n => sameN n (l.take (i + 1))) = ns.map (fun n => sameN n (l.take i)) ++ [[l[i]]] →
        Ev (fun k => scan_Products.l0 k (ns ++ [l[i].f0.f0]) (ns.map (fun n => sameN n (l.take i)) ++ [[l[i]]]) l l.length ((i + 1 : Nat) : Int)) (ns ++ heads (prevN l i) (l.drop i), (ns ++ heads (prevN l i) (l.drop i)).map fun n => sameN n l) := by
      intro hf hI2 he
      have ih := prodLoop l hl hs d (i + 1) (ns ++ [l[i].f0.f0]) (by omega) (by simp; omega) hI2
      rw [he, prevN_succ l i hi] at ih
      rw [drop_cons l i hi]
      simp only [heads, hf, Bool.false_eq_true, if_false]
      simpa using ih
    rcases hI with ⟨h0, rfl⟩ | ⟨h0, ms, n, hpn, rfl, hms, hle⟩
    · subst h0
      simp only [List.length_nil, List.map_nil, List.nil_append, if_pos (show (((0 : Nat) : Int)) = 0 by rfl), if_pos (show (0 : Nat) < 8796093022208 by omega), if_pos (show (0 : Nat) < 5864062014805 by omega), Option.bind_some, List.length_cons, Nat.zero_add]
      have e0 : wrap64 (((1 : Nat) : Int) - 1) = 0 := by rw [w_id (by omega) (by omega)]; omega
      simp only [e0, if_pos (show (0 : Int) ≤ 0 by omega), if_pos (show (0 : Int) < ((1 : Nat) : Int) by omega)]
      have e1 : rd_L9 ([[]] : List (List Pos)) 0 = [] := rfl
      simp only [e1, List.length_nil, if_pos (show (0 : Nat) < 2513169434916 by omega), List.nil_append]
      have := fresh rfl (Or.inr ⟨by omega, [], l[0].f0.f0, prevN_succ l 0 hi, rfl, by simp, fun p hp => by
        rw [List.take_succ_eq_append_getElem hi] at hp
        simp at hp
        subst hp
        exact Or.inl rfl⟩) (by
        rw [List.take_succ_eq_append_getElem hi]
        simp [sameN])
      simpa using this
    · have hlen : (ms ++ [n]).length = ms.length + 1 := by simp
      have en : ¬ (((ms ++ [n]).length : Int) = 0) := by rw [hlen]; omega
      have hpl : ((ms ++ [n]).map (fun n => sameN n (l.take i))).length = ms.length + 1 := by simp
      have hmsl : ms.length ≤ 128 := by omega
      have e2 : wrap64 (((ms ++ [n]).length : Int) - 1) = (ms.length : Int) := by rw [hlen, w_id (by omega) (by omega)]; omega
      have e3 : rdOf ByteArray.empty (ms ++ [n]) (ms.length : Int) = n := by rw [rdOf_nat _ _ _ (by simp)]; simp
      have hq := hs i hi h0
      have hq2 : (l[i - 1]'(by omega)).f0.f0 = n := by
        simp only [prevN, if_neg (show i ≠ 0 by omega), List.getElem?_eq_getElem (show i - 1 < l.length by omega), Option.map_some, Option.some.injEq] at hpn
        exact hpn
      simp only [if_neg en, e2, e3, hpl, if_pos (show 0 ≤ (ms.length : Int) by omega), if_pos (show (ms.length : Int) < ((ms ++ [n]).length : Int) by rw [hlen]; omega)]
      have hd3 := cmpS_names hq
      rw [hq2] at hd3
      by_cases c : n.toList = l[i].f0.f0.toList
      · have cn : n = l[i].f0.f0 := ba_ext c
        have e4 : wrap64 (((ms.length + 1 : Nat) : Int) - 1) = (ms.length : Int) := by rw [w_id (by omega) (by omega)]; omega
        have e5 : rd_L9 ((ms ++ [n]).map fun n => sameN n (l.take i)) (ms.length : Int) = sameN n (l.take i) := by
          rw [List.map_append, List.map_cons, List.map_nil]
          exact rdL_last _ _ _ (by simp)
        have e6 : ((ms ++ [n]).map fun n => sameN n (l.take i)).set ((ms.length : Int)).toNat (sameN n (l.take i) ++ [l[i]]) = (ms ++ [n]).map fun n => sameN n (l.take (i + 1)) := by
          rw [List.map_append, List.map_cons, List.map_nil, set_last _ _ _ _ (by simp), List.map_append, List.map_cons, List.map_nil, List.take_succ_eq_append_getElem hi, sameN_snoc, if_pos c.symm]
          congr 1
          refine List.map_congr_left fun m hm => ?_
          rw [sameN_snoc, if_neg]
          rw [← c]
          exact fun e => bl_ne (hms m hm) e.symm
        simp only [if_pos c, e4, if_pos (show 0 ≤ (ms.length : Int) by omega), if_pos (show (ms.length : Int) < ((ms.length + 1 : Nat) : Int) by omega), e5, if_pos (hps n)]
        have ih := prodLoop l hl hs d (i + 1) (ms ++ [n]) (by omega) (by omega) (Or.inr ⟨by omega, ms, n, by rw [prevN_succ l i hi, cn], rfl, hms, fun p hp => by
          rw [List.take_succ_eq_append_getElem hi] at hp
          rcases List.mem_append.1 hp with hp | hp
          · exact hle p hp
          · rw [List.mem_singleton.1 hp]; exact Or.inl c.symm⟩)
        have e7 : isN (prevN l i) l[i].f0.f0 = true := by rw [hpn]; simp [isN, c]
        rw [drop_cons l i hi]
        simp only [heads, e7, if_true]
        rw [prevN_succ l i hi, ← e6] at ih
        exact ih
      · have hlt : Op.bytesLess n.toList l[i].f0.f0.toList = true := hd3.resolve_left c
        have hall : ∀ m ∈ ms ++ [n], Op.bytesLess m.toList l[i].f0.f0.toList = true := fun m hm => by
          rcases List.mem_append.1 hm with hm | hm
          · exact bl_trans _ _ _ (hms m hm) hlt
          · rw [List.mem_singleton.1 hm]; exact hlt
        have hall2 : ∀ p ∈ l.take i, Op.bytesLess p.f0.f0.toList l[i].f0.f0.toList = true := fun p hp => by
          rcases hle p hp with e | e
          · rw [e]; exact hlt
          · exact bl_trans _ _ _ e hlt
        have e8 : wrap64 (((((ms ++ [n]).map (fun n => sameN n (l.take i))) ++ [([] : List Pos)]).length : Int) - 1) = ((ms.length + 1 : Nat) : Int) := by
          rw [List.length_append, hpl, w_id (by simp; omega) (by simp; omega)]; simp
        have e9 : rd_L9 ((ms ++ [n]).map (fun n => sameN n (l.take i)) ++ [([] : List Pos)]) ((ms.length + 1 : Nat) : Int) = [] := rdL_last _ _ _ (by simp)
        have e10 : ((ms ++ [n]).map (fun n => sameN n (l.take i)) ++ [([] : List Pos)]).set (((ms.length + 1 : Nat) : Int)).toNat [l[i]] = (ms ++ [n]).map (fun n => sameN n (l.take i)) ++ [[l[i]]] := set_last _ _ _ _ (by simp)
        have e11 : ((ms ++ [n]).length) < 8796093022208 := by omega
        simp only [if_neg c, if_pos e11, if_pos (show ms.length + 1 < 5864062014805 by omega), Option.bind_some, e8, if_pos (show 0 ≤ ((ms.length + 1 : Nat) : Int) by omega), e9, List.length_nil, if_pos (show (0 : Nat) < 2513169434916 by omega), List.nil_append, e10]
        have e12 : ((ms.length + 1 : Nat) : Int) < ((((ms ++ [n]).map (fun n => sameN n (l.take i))) ++ [([] : List Pos)]).length : Int) := by
          rw [List.length_append, hpl]; simp; omega
        simp only [if_pos e12]
        refine fresh ?_ ?_ ?_
        · rw [hpn]
          simp only [isN]
          exact beq_false_of_ne c
        · refine Or.inr ⟨by omega, ms ++ [n], l[i].f0.f0, prevN_succ l i hi, rfl, hall, fun p hp => ?_⟩
          rw [List.take_succ_eq_append_getElem hi] at hp
          rcases List.mem_append.1 hp with hp | hp
          · exact Or.inr (hall2 p hp)
          · rw [List.mem_singleton.1 hp]; exact Or.inl rfl
        · rw [List.take_succ_eq_append_getElem hi, List.map_append, List.map_cons, List.map_nil]
          congr 1
          · refine List.map_congr_left fun m hm => ?_
            rw [sameN_snoc, if_neg]
            exact fun e => bl_ne (hall m hm) e.symm
          · rw [sameN_snoc, if_pos rfl]
            have : sameN l[i].f0.f0 (l.take i) = [] := by
              unfold sameN
              rw [List.filter_eq_nil_iff]
              intro p hp
              simp only [beq_iff_eq]
              exact bl_ne (hall2 p hp)
            rw [this]; rfl
theorem prods_f (l : List Pos) (hl : l.length ≤ 4611686018427387904) : Ev (fun k => scan_Products.f k l) (prods l) := by
  unfold scan_Products.f prods
  refine Ev_bind (posCheck_f l hl) ?_
  by_cases h : posCheck l = 0
  · simp only [if_pos h]
    have := prodLoop l (posCheck_zero h).1 (posCheck_order h) l.length 0 [] (by omega) (by simp) (Or.inl ⟨rfl, rfl⟩)
    simpa [prevN] using this
  · simp only [if_neg h]
    exact Ev.now _
end Go.Proofs.Ytbgeceiddcokmaa.P
end
section
namespace Go.Proofs.Ytbgeceiddcokmaa.P
open Go.RowKit Go.Proofs.YtbgeceiddcokmaaW.PrintWords Go.Proofs.YtbgeceiddcokmaaW.PrintMore Go.Proofs.Ytbgeceiddcokmaa.X
theorem goes23 : Ev (fun k => contangolaw23_goes.f k) true := Ev.of (k := 40) (contangolaw23_goes.mono) (by decide +kernel)
end Go.Proofs.Ytbgeceiddcokmaa.P
end
section
namespace Go.Proofs.Ytbgeceiddcokmaa.Pure
set_option linter.unusedVariables false
set_option linter.unusedSimpArgs false
open Go.RowKit Go.Proofs.YtbgeceiddcokmaaW.PrintWords Go.Proofs.YtbgeceiddcokmaaW.PrintMore Go.Proofs.Ytbgeceiddcokmaa.X Go.Proofs.Ytbgeceiddcokmaa.P
theorem namesLoop (a : List ByteArray) (ha : a.length ≤ 4611686018427387904) : ∀ (d i : Nat), i + d = a.length → Ev (fun k => contangoref23_Names.l0 k a a i) true
  | 0, i, hd => by
    refine Ev_succ ?_
    simp only [contangoref23_Names.l0, if_neg (show ¬ ((i : Int) < (a.length : Int)) by omega)]
    exact Ev.now _
  | d + 1, i, hd => by
    have hi : i < a.length := by omega
    refine Ev_succ ?_
    simp only [contangoref23_Names.l0, if_pos (show (i : Int) < (a.length : Int) by omega), if_pos (show 0 ≤ (i : Int) by omega), if_true, w_succ hi (by omega)]
    exact namesLoop a ha d (i + 1) (by omega)
theorem names_f (a : List ByteArray) (ha : a.length ≤ 4611686018427387904) : Ev (fun k => contangoref23_Names.f k a a) true := by
  unfold contangoref23_Names.f
  simp only [if_true]
  exact namesLoop a ha a.length 0 (by omega)
theorem positionsLoop (a : List Pos) (ha : a.length ≤ 4611686018427387904) : ∀ (d i : Nat), i + d = a.length → Ev (fun k => contangoref23_Positions.l0 k a a i) true
  | 0, i, hd => by
    refine Ev_succ ?_
    simp only [contangoref23_Positions.l0, if_neg (show ¬ ((i : Int) < (a.length : Int)) by omega)]
    exact Ev.now _
  | d + 1, i, hd => by
    have hi : i < a.length := by omega
    refine Ev_succ ?_
    simp only [contangoref23_Positions.l0, if_pos (show (i : Int) < (a.length : Int) by omega), if_pos (show 0 ≤ (i : Int) by omega), beq_self_eq_true, Bool.not_true, Bool.or_false, Bool.false_eq_true, if_false, w_succ hi (by omega)]
    exact positionsLoop a ha d (i + 1) (by omega)
theorem positions_f (a : List Pos) (ha : a.length ≤ 4611686018427387904) : Ev (fun k => contangoref23_Positions.f k a a) true := by
  unfold contangoref23_Positions.f
  simp only [if_true]
  exact positionsLoop a ha a.length 0 (by omega)
theorem putL2 (l : List Pos) (N : Nat) (hN : N ≤ 1000) (i : Nat) (hi : i < N) (M : Nat) (hM : M ≤ 1000)
    (h : ∀ ps : List (List Pos), ps.length = N → (∀ p ∈ ps, p.length ≤ 1000) → Ev (fun k => contangolaw23_ScanProducts.l1 k l l ps N (wrap64 ((i : Int) + 1))) true) :
    ∀ (d j : Nat) (ps : List (List Pos)), j + d = M → ps.length = N → (∀ p ∈ ps, p.length ≤ 1000) → (rd_L9 ps i).length = M → Ev (fun k => contangolaw23_ScanProducts.l2 k l l ps i N i M j) true
  | 0, j, ps, hd, hp, hq, hr => by
    refine Ev_succ ?_
    simp only [contangolaw23_ScanProducts.l2, if_neg (show ¬ ((j : Int) < (M : Int)) by omega)]
    exact h ps hp hq
  | d + 1, j, ps, hd, hp, hq, hr => by
    refine Ev_succ ?_
    have hj : j < M := by omega
    simp only [contangolaw23_ScanProducts.l2, if_pos (show (j : Int) < (M : Int) by omega), if_pos (show 0 ≤ (i : Int) by omega), if_pos (show (i : Int) < (ps.length : Int) by omega), if_pos (show 0 ≤ (j : Int) by omega), hr, w_succ hj (by omega)]
    refine putL2 l N hN i hi M hM h d (j + 1) _ (by omega) (by simp [hp]) ?_ ?_
    · intro p hm
      rcases List.mem_or_eq_of_mem_set hm with hm | rfl
      · exact hq p hm
      · rw [List.length_set, hr]; exact hM
    · rw [rdL_nat _ i (by simp; omega)]
      simp [hr]
theorem putL1 (l : List Pos) (hl : l.length ≤ 4611686018427387904) (N : Nat) (hN : N ≤ 1000) : ∀ (d i : Nat) (ps : List (List Pos)), i + d = N → ps.length = N → (∀ p ∈ ps, p.length ≤ 1000) → Ev (fun k => contangolaw23_ScanProducts.l1 k l l ps N i) true
  | 0, i, ps, hd, hp, hq => by
    refine Ev_succ ?_
    simp only [contangolaw23_ScanProducts.l1, if_neg (show ¬ ((i : Int) < (N : Int)) by omega)]
    refine Ev_bind (positions_f l hl) ?_
    simp only [if_true]
    exact Ev_id goes23
  | d + 1, i, ps, hd, hp, hq => by
    have hi : i < N := by omega
    refine Ev_succ ?_
    simp only [contangolaw23_ScanProducts.l1, if_pos (show (i : Int) < (N : Int) by omega), if_pos (show 0 ≤ (i : Int) by omega), if_pos (show (i : Int) < (ps.length : Int) by omega)]
    refine putL2 l N hN i hi _ ?_ ?_ _ 0 ps (Nat.zero_add _) hp hq rfl
    · rw [rdL_nat _ i (by omega)]; exact hq _ (List.getElem_mem _)
    · intro ps2 hp2 hq2
      rw [w_succ hi (by omega)]
      exact putL1 l hl N hN d (i + 1) ps2 (by omega) hp2 hq2
theorem eachL0 (l : List Pos) (hl : l.length ≤ 4611686018427387904) (ps : List (List Pos)) (hN : ps.length ≤ 1000) (hq : ∀ p ∈ ps, p.length ≤ 1000) : ∀ (d i : Nat), i + d = ps.length → Ev (fun k => contangolaw23_ScanProducts.l0 k l l ps ps ps.length i) true
  | 0, i, hd => by
    refine Ev_succ ?_
    simp only [contangolaw23_ScanProducts.l0, if_neg (show ¬ ((i : Int) < (ps.length : Int)) by omega)]
    exact putL1 l hl ps.length hN ps.length 0 ps (by omega) rfl hq
  | d + 1, i, hd => by
    have hi : i < ps.length := by omega
    refine Ev_succ ?_
    simp only [contangolaw23_ScanProducts.l0, if_pos (show (i : Int) < (ps.length : Int) by omega), if_pos (show 0 ≤ (i : Int) by omega)]
    refine Ev_bind (positions_f _ ?_) ?_
    · rw [rdL_nat _ i hi]
      have := hq _ (List.getElem_mem hi)
      omega
    · simp only [if_true, w_succ hi (by omega)]
      exact eachL0 l hl ps hN hq d (i + 1) (by omega)
theorem prods_len (l : List Pos) : (prods l).1.length ≤ 128 ∧ (prods l).2.length ≤ 128 ∧ ∀ p ∈ (prods l).2, p.length ≤ 1000 := by
  unfold prods
  by_cases h : posCheck l = 0
  · have h1 := (posCheck_zero h).1
    have h2 := heads_len l none
    rw [if_pos h]
    refine ⟨by simp only; omega, by simp only [List.length_map]; omega, ?_⟩
    intro p hp
    obtain ⟨n, _, rfl⟩ := List.mem_map.1 hp
    have := sameN_len n l
    omega
  · rw [if_neg h]
    simp
theorem ScanProducts : ∀ (l0 : List (S73)), (l0.length ≤ maxLen ∧ l0.length * 56 ≤ 140737488351232 ∧ ∀ x ∈ l0, ok73 x) → ∃ k, X.contangolaw23_ScanProducts.f k l0 = some true := by
  rintro l ⟨_, hl, _⟩
  have hE : Ev (fun k => contangolaw23_ScanProducts.f k l) true := by
    unfold contangolaw23_ScanProducts.f
    by_cases c : (l.length : Int) > 300
    · simp only [if_pos c]
      exact Ev_id goes23
    · simp only [if_neg c, Option.bind_some, List.length_nil, List.nil_append, if_pos (show 0 + l.length < 2513169434916 by omega)]
      obtain ⟨n1, n2, n3⟩ := prods_len l
      refine Ev_bind (prods_f l (by omega)) ?_
      refine Ev_bind (refProds_f l (by omega)) ?_
      refine Ev_bind (names_f _ (by omega)) ?_
      simp only [if_true, bne_self_eq_false]
      refine Ev_succ ?_
      simp only [contangolaw23_ScanProducts.j0, Bool.false_eq_true, if_false]
      exact eachL0 l (by omega) (prods l).2 (by omega) n3 (prods l).2.length 0 (by omega)
  obtain ⟨K, hK⟩ := hE
  exact ⟨K, hK K (Nat.le_refl _)⟩
end Go.Proofs.Ytbgeceiddcokmaa.Pure
end
