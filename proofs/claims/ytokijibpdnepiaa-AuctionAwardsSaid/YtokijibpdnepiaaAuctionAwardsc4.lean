/- For AuctionAwards: contracts, and facts on lists and numbers, that it uses (part 4). -/
import Derived.ChangeArms
import Derived.Deep.Slices
import Derived.Laws.BitsLemmas
import Derived.Laws.Strings
import Derived.Lib.Bytealg
import Derived.SizedLaws
import Derived.Test.YtokijibpdnepiaaAuctionAwardsc3
import Derived.WideShapes
section
namespace Go.Proofs.Ytokijibpdnepiaa.X
open Go.RowKit Go.Proofs.YtokijibpdnepiaaW.PrintWords Go.Proofs.YtokijibpdnepiaaW.PrintLast Go.Proofs.YtokijibpdnepiaaW.PrintMore
attribute [local go_sem] max2_int min2_int max_two min_two max_three min_three max_four min_four
set_option linter.unusedVariables false
set_option linter.unusedSimpArgs false
def contangolaw45_AuctionAwards.f (k : Nat) (a0 : Int) (l1 : List (S33)) (a2 : Int) : Option (Bool) := if (l1.length : Int) > 300 then ((contangolaw45_goes.f k).bind fun t101 => (some t101)) else ((some (([] : List (S33)) : List (S33))).bind fun y102 => (if y102.length + l1.length < 3518437208883 then ((auction_Award.f k a0 (y102 ++ l1) a2).bind fun bt108 => ((contangoref45_Award.f k a0 l1 a2).bind fun bt113 => ((some (([] : List (S33)) : List (S33))).bind fun y118 => (if y118.length + l1.length < 3518437208883 then ((auction_Uniform.f k a0 (y118 ++ l1) a2).bind fun bt124 => ((contangoref45_Uniform.f k a0 l1 a2).bind fun bt130 => ((contangoref45_Awards.f k bt108.1 bt113.1).bind fun t136 => (if t136 = true then (if bt108.2.1 = bt113.2.1 then (if bt108.2.2 = bt113.2.2 then ((contangoref45_Awards.f k bt124.1 bt130.1).bind fun t137 => (if t137 = true then (if bt124.2.1 = bt130.2.1 then (if bt124.2.2.1 = bt130.2.2.1 then (if bt124.2.2.2 = bt130.2.2.2 then ((contangolaw45_goes.f k).bind fun t138 => (some t138)) else (none)) else (none)) else (none)) else (none))) else (none)) else (none)) else (none))))) else (none))))) else (none)))
set_option maxHeartbeats 8000000 in
set_option maxRecDepth 100000 in
theorem contangolaw45_AuctionAwards.calls (k : Nat) (a0 : Int) (A1 : Option Addr) (c1 : Nat) (l1 : List (S33)) (a2 : Int) (r : Bool) (w : World) (hr1 : Kd.C k33 w A1 l1.length l1) (hc1 : l1.length ≤ c1) (h : contangolaw45_AuctionAwards.f k a0 l1 a2 = some r) :
    Calls Try.prog 4 #[.int .i64 a0, .slice A1 l1.length c1, .int .i64 a2] w fun e w' => e = .returned (.bool r) ∧ Below w.heap.size w w' := by
  have HR1 := Aside0.mk hr1
  have HC1 := Aside0.mk hc1
  clear hr1 hc1
  have HB := Aside0.mk (Below.refl w.heap.size w)
  have H : (if (l1.length : Int) > 300 then ((contangolaw45_goes.f k).bind fun t101 => (some t101)) else ((some (([] : List (S33)) : List (S33))).bind fun y102 => (if y102.length + l1.length < 3518437208883 then ((auction_Award.f k a0 (y102 ++ l1) a2).bind fun bt108 => ((contangoref45_Award.f k a0 l1 a2).bind fun bt113 => ((some (([] : List (S33)) : List (S33))).bind fun y118 => (if y118.length + l1.length < 3518437208883 then ((auction_Uniform.f k a0 (y118 ++ l1) a2).bind fun bt124 => ((contangoref45_Uniform.f k a0 l1 a2).bind fun bt130 => ((contangoref45_Awards.f k bt108.1 bt113.1).bind fun t136 => (if t136 = true then (if bt108.2.1 = bt113.2.1 then (if bt108.2.2 = bt113.2.2 then ((contangoref45_Awards.f k bt124.1 bt130.1).bind fun t137 => (if t137 = true then (if bt124.2.1 = bt130.2.1 then (if bt124.2.2.1 = bt130.2.2.1 then (if bt124.2.2.2 = bt130.2.2.2 then ((contangolaw45_goes.f k).bind fun t138 => (some t138)) else (none)) else (none)) else (none)) else (none))) else (none)) else (none)) else (none))))) else (none))))) else (none)))) = some r := h
  clear h
  by_cases c4 : (l1.length : Int) > 300
  · rw [if_pos c4] at H
    have c4b0 : decide (300 < (l1.length : Int)) = true := decide_eq_true c4
    have c4b1 : decide (300 < l1.length) = true := decide_eq_true (by omega)
    clear c4
    replace H := Option.bind_eq_some_iff.mp H
    obtain ⟨t101, A50, H⟩ := H
    replace H : (some t101) = some r := H
    have A5 := Aside0.mk A50
    clear A50
    obtain rfl := Option.some.inj H
    go_enter Try.func4, Try.ntmps4
    go_wp2_with (first | ((with_reducible refine gate_callee (f := 15) rfl ?_); refine goesL_ (some 24) rfl rfl Try.func15 (by kernel_rfl) rfl #[] rfl (by (try simp only [List.map_toArray, List.map_cons, List.map_nil]); first | done | rfl | (simp only [List.length_drop, List.length_take]; rfl)) ?_; (with_reducible refine (contangolaw45_goes.calls k  t101 _ A5.out).mono ?_); rintro e w6 ⟨rfl, hb⟩; refine ⟨_, rfl, ?_⟩; have n0_ := Aside0.mk (below_step (by repeat (first | (with_reducible first | exact HB.out | apply below_alloc | apply pw_below_drewN | apply below_drew1) | exact HB.out)) hb); clear HB; have HB := n0_; clear n0_; (try clear hb); (try clear hb2); (try clear hk); (try clear hi)))
    go_ret
    exact ⟨by first | rfl | (simp [errW_none, errW_some] <;> rfl) | (simp [*, errW_none, errW_some] <;> rfl), by repeat (first | (with_reducible first | exact HB.out | apply below_alloc | apply pw_below_drewN | apply below_drew1) | exact HB.out)⟩
  · rw [if_neg c4] at H
    have c4b0 : decide (300 < (l1.length : Int)) = false := decide_eq_false c4
    have c4b1 : decide (300 < l1.length) = false := decide_eq_false (by omega)
    clear c4
    obtain ⟨y102, hy102⟩ : ∃ y_ : List (S33), y_ = (([] : List (S33))) := ⟨_, rfl⟩
    replace H : (if y102.length + l1.length < 3518437208883 then ((auction_Award.f k a0 (y102 ++ l1) a2).bind fun bt108 => ((contangoref45_Award.f k a0 l1 a2).bind fun bt113 => ((some (([] : List (S33)) : List (S33))).bind fun y118 => (if y118.length + l1.length < 3518437208883 then ((auction_Uniform.f k a0 (y118 ++ l1) a2).bind fun bt124 => ((contangoref45_Uniform.f k a0 l1 a2).bind fun bt130 => ((contangoref45_Awards.f k bt108.1 bt113.1).bind fun t136 => (if t136 = true then (if bt108.2.1 = bt113.2.1 then (if bt108.2.2 = bt113.2.2 then ((contangoref45_Awards.f k bt124.1 bt130.1).bind fun t137 => (if t137 = true then (if bt124.2.1 = bt130.2.1 then (if bt124.2.2.1 = bt130.2.2.1 then (if bt124.2.2.2 = bt130.2.2.2 then ((contangolaw45_goes.f k).bind fun t138 => (some t138)) else (none)) else (none)) else (none)) else (none))) else (none)) else (none)) else (none))))) else (none))))) else (none)) = some r := by first | (rw [hy102]; with_reducible exact H) | (have H2_ := (Option.bind_some _ _).symm.trans H; rw [hy102]; with_reducible exact H2_) | (have H2_ := (Option.bind_some _ _).symm.trans H; with_reducible exact H2_) | with_reducible exact H | (rw [hy102]; exact H) | exact H
    have Ny102 := Aside0.mk hy102
    clear hy102
    by_cases c7 : y102.length + l1.length < 3518437208883
    · rw [if_pos c7] at H
      have LMc7 := Aside0.mk c7
      clear c7
      obtain ⟨y105, hy105⟩ : ∃ y_ : List (S33), y_ = (y102 ++ l1) := ⟨_, rfl⟩
      replace H : ((auction_Award.f k a0 y105 a2).bind fun bt108 => ((contangoref45_Award.f k a0 l1 a2).bind fun bt113 => ((some (([] : List (S33)) : List (S33))).bind fun y118 => (if y118.length + l1.length < 3518437208883 then ((auction_Uniform.f k a0 (y118 ++ l1) a2).bind fun bt124 => ((contangoref45_Uniform.f k a0 l1 a2).bind fun bt130 => ((contangoref45_Awards.f k bt108.1 bt113.1).bind fun t136 => (if t136 = true then (if bt108.2.1 = bt113.2.1 then (if bt108.2.2 = bt113.2.2 then ((contangoref45_Awards.f k bt124.1 bt130.1).bind fun t137 => (if t137 = true then (if bt124.2.1 = bt130.2.1 then (if bt124.2.2.1 = bt130.2.2.1 then (if bt124.2.2.2 = bt130.2.2.2 then ((contangolaw45_goes.f k).bind fun t138 => (some t138)) else (none)) else (none)) else (none)) else (none))) else (none)) else (none)) else (none))))) else (none))))) = some r := by first | (rw [hy105]; with_reducible exact H) | (have H2_ := (Option.bind_some _ _).symm.trans H; rw [hy105]; with_reducible exact H2_) | (have H2_ := (Option.bind_some _ _).symm.trans H; with_reducible exact H2_) | with_reducible exact H | (rw [hy105]; exact H) | exact H
      have Ny105 := Aside0.mk hy105
      clear hy105
      replace H := Option.bind_eq_some_iff.mp H
      obtain ⟨⟨t108, t109, t110⟩, A80, H⟩ := H
      replace H : ((contangoref45_Award.f k a0 l1 a2).bind fun bt113 => ((some (([] : List (S33)) : List (S33))).bind fun y118 => (if y118.length + l1.length < 3518437208883 then ((auction_Uniform.f k a0 (y118 ++ l1) a2).bind fun bt124 => ((contangoref45_Uniform.f k a0 l1 a2).bind fun bt130 => ((contangoref45_Awards.f k t108 bt113.1).bind fun t136 => (if t136 = true then (if t109 = bt113.2.1 then (if t110 = bt113.2.2 then ((contangoref45_Awards.f k bt124.1 bt130.1).bind fun t137 => (if t137 = true then (if bt124.2.1 = bt130.2.1 then (if bt124.2.2.1 = bt130.2.2.1 then (if bt124.2.2.2 = bt130.2.2.2 then ((contangolaw45_goes.f k).bind fun t138 => (some t138)) else (none)) else (none)) else (none)) else (none))) else (none)) else (none)) else (none))))) else (none)))) = some r := H
      have A8 := Aside0.mk A80
      clear A80
      replace H := Option.bind_eq_some_iff.mp H
      obtain ⟨⟨t113, t114, t115⟩, A90, H⟩ := H
      replace H : ((some (([] : List (S33)) : List (S33))).bind fun y118 => (if y118.length + l1.length < 3518437208883 then ((auction_Uniform.f k a0 (y118 ++ l1) a2).bind fun bt124 => ((contangoref45_Uniform.f k a0 l1 a2).bind fun bt130 => ((contangoref45_Awards.f k t108 t113).bind fun t136 => (if t136 = true then (if t109 = t114 then (if t110 = t115 then ((contangoref45_Awards.f k bt124.1 bt130.1).bind fun t137 => (if t137 = true then (if bt124.2.1 = bt130.2.1 then (if bt124.2.2.1 = bt130.2.2.1 then (if bt124.2.2.2 = bt130.2.2.2 then ((contangolaw45_goes.f k).bind fun t138 => (some t138)) else (none)) else (none)) else (none)) else (none))) else (none)) else (none)) else (none))))) else (none))) = some r := H
      have A9 := Aside0.mk A90
      clear A90
      obtain ⟨y118, hy118⟩ : ∃ y_ : List (S33), y_ = (([] : List (S33))) := ⟨_, rfl⟩
      replace H : (if y118.length + l1.length < 3518437208883 then ((auction_Uniform.f k a0 (y118 ++ l1) a2).bind fun bt124 => ((contangoref45_Uniform.f k a0 l1 a2).bind fun bt130 => ((contangoref45_Awards.f k t108 t113).bind fun t136 => (if t136 = true then (if t109 = t114 then (if t110 = t115 then ((contangoref45_Awards.f k bt124.1 bt130.1).bind fun t137 => (if t137 = true then (if bt124.2.1 = bt130.2.1 then (if bt124.2.2.1 = bt130.2.2.1 then (if bt124.2.2.2 = bt130.2.2.2 then ((contangolaw45_goes.f k).bind fun t138 => (some t138)) else (none)) else (none)) else (none)) else (none))) else (none)) else (none)) else (none))))) else (none)) = some r := by first | (rw [hy118]; with_reducible exact H) | (have H2_ := (Option.bind_some _ _).symm.trans H; rw [hy118]; with_reducible exact H2_) | (have H2_ := (Option.bind_some _ _).symm.trans H; with_reducible exact H2_) | with_reducible exact H | (rw [hy118]; exact H) | exact H
      have Ny118 := Aside0.mk hy118
      clear hy118
      by_cases c10 : y118.length + l1.length < 3518437208883
      · rw [if_pos c10] at H
        have LMc10 := Aside0.mk c10
        clear c10
        obtain ⟨y121, hy121⟩ : ∃ y_ : List (S33), y_ = (y118 ++ l1) := ⟨_, rfl⟩
        replace H : ((auction_Uniform.f k a0 y121 a2).bind fun bt124 => ((contangoref45_Uniform.f k a0 l1 a2).bind fun bt130 => ((contangoref45_Awards.f k t108 t113).bind fun t136 => (if t136 = true then (if t109 = t114 then (if t110 = t115 then ((contangoref45_Awards.f k bt124.1 bt130.1).bind fun t137 => (if t137 = true then (if bt124.2.1 = bt130.2.1 then (if bt124.2.2.1 = bt130.2.2.1 then (if bt124.2.2.2 = bt130.2.2.2 then ((contangolaw45_goes.f k).bind fun t138 => (some t138)) else (none)) else (none)) else (none)) else (none))) else (none)) else (none)) else (none))))) = some r := by first | (rw [hy121]; with_reducible exact H) | (have H2_ := (Option.bind_some _ _).symm.trans H; rw [hy121]; with_reducible exact H2_) | (have H2_ := (Option.bind_some _ _).symm.trans H; with_reducible exact H2_) | with_reducible exact H | (rw [hy121]; exact H) | exact H
        have Ny121 := Aside0.mk hy121
        clear hy121
        replace H := Option.bind_eq_some_iff.mp H
        obtain ⟨⟨t124, t125, t126, t127⟩, A110, H⟩ := H
        replace H : ((contangoref45_Uniform.f k a0 l1 a2).bind fun bt130 => ((contangoref45_Awards.f k t108 t113).bind fun t136 => (if t136 = true then (if t109 = t114 then (if t110 = t115 then ((contangoref45_Awards.f k t124 bt130.1).bind fun t137 => (if t137 = true then (if t125 = bt130.2.1 then (if t126 = bt130.2.2.1 then (if t127 = bt130.2.2.2 then ((contangolaw45_goes.f k).bind fun t138 => (some t138)) else (none)) else (none)) else (none)) else (none))) else (none)) else (none)) else (none)))) = some r := H
        have A11 := Aside0.mk A110
        clear A110
        replace H := Option.bind_eq_some_iff.mp H
        obtain ⟨⟨t130, t131, t132, t133⟩, A120, H⟩ := H
        replace H : ((contangoref45_Awards.f k t108 t113).bind fun t136 => (if t136 = true then (if t109 = t114 then (if t110 = t115 then ((contangoref45_Awards.f k t124 t130).bind fun t137 => (if t137 = true then (if t125 = t131 then (if t126 = t132 then (if t127 = t133 then ((contangolaw45_goes.f k).bind fun t138 => (some t138)) else (none)) else (none)) else (none)) else (none))) else (none)) else (none)) else (none))) = some r := H
        have A12 := Aside0.mk A120
        clear A120
        replace H := Option.bind_eq_some_iff.mp H
        obtain ⟨t136, A130, H⟩ := H
        replace H : (if t136 = true then (if t109 = t114 then (if t110 = t115 then ((contangoref45_Awards.f k t124 t130).bind fun t137 => (if t137 = true then (if t125 = t131 then (if t126 = t132 then (if t127 = t133 then ((contangolaw45_goes.f k).bind fun t138 => (some t138)) else (none)) else (none)) else (none)) else (none))) else (none)) else (none)) else (none)) = some r := H
        have A13 := Aside0.mk A130
        clear A130
        by_cases c14 : t136 = true
        · subst c14
          have H1 : (if t109 = t114 then (if t110 = t115 then ((contangoref45_Awards.f k t124 t130).bind fun t137 => (if t137 = true then (if t125 = t131 then (if t126 = t132 then (if t127 = t133 then ((contangolaw45_goes.f k).bind fun t138 => (some t138)) else (none)) else (none)) else (none)) else (none))) else (none)) else (none)) = some r := by rw [if_pos rfl] at H; exact H
          clear H
          have H := H1
          clear H1
          by_cases c15 : t109 = t114
          · rw [if_pos c15] at H
            have c15b0 : (t109 == t114) = true := beq_iff_eq.mpr c15
            have c15b1 : (t109 != t114) = false := bne_eq_false_iff_eq.mpr c15
            clear c15
            by_cases c16 : t110 = t115
            · rw [if_pos c16] at H
              have c16b0 : (t110 == t115) = true := beq_iff_eq.mpr c16
              have c16b1 : (t110 != t115) = false := bne_eq_false_iff_eq.mpr c16
              clear c16
              replace H := Option.bind_eq_some_iff.mp H
              obtain ⟨t137, A170, H⟩ := H
              replace H : (if t137 = true then (if t125 = t131 then (if t126 = t132 then (if t127 = t133 then ((contangolaw45_goes.f k).bind fun t138 => (some t138)) else (none)) else (none)) else (none)) else (none)) = some r := H
              have A17 := Aside0.mk A170
              clear A170
              by_cases c18 : t137 = true
              · subst c18
                have H1 : (if t125 = t131 then (if t126 = t132 then (if t127 = t133 then ((contangolaw45_goes.f k).bind fun t138 => (some t138)) else (none)) else (none)) else (none)) = some r := by rw [if_pos rfl] at H; exact H
                clear H
                have H := H1
                clear H1
                by_cases c19 : t125 = t131
                · rw [if_pos c19] at H
                  have c19b0 : (t125 == t131) = true := beq_iff_eq.mpr c19
                  have c19b1 : (t125 != t131) = false := bne_eq_false_iff_eq.mpr c19
                  clear c19
                  by_cases c20 : t126 = t132
                  · rw [if_pos c20] at H
                    have c20b0 : (t126 == t132) = true := beq_iff_eq.mpr c20
                    have c20b1 : (t126 != t132) = false := bne_eq_false_iff_eq.mpr c20
                    clear c20
                    by_cases c21 : t127 = t133
                    · rw [if_pos c21] at H
                      have c21b0 : (t127 == t133) = true := beq_iff_eq.mpr c21
                      have c21b1 : (t127 != t133) = false := bne_eq_false_iff_eq.mpr c21
                      clear c21
                      replace H := Option.bind_eq_some_iff.mp H
                      obtain ⟨t138, A220, H⟩ := H
                      replace H : (some t138) = some r := H
                      have A22 := Aside0.mk A220
                      clear A220
                      obtain rfl := Option.some.inj H
                      go_enter Try.func4, Try.ntmps4
                      go_wp2_with (first | ((with_reducible refine gate_dst (N := 27) rfl ?_); refine Kd.R_lit k33 _ 33 ?hg (N := 27) ?hd (xs := ([] : List (S33))) (inner := []) (ok := fun _ => True) (okp := fun _ => True) ?hr ?hp (fun _ hk => hk) trivial (Below.refl _ _) (Nat.le_refl _) (by simp) ?_; (case hd => rfl); (case hg => rfl); (case hr => first | (go_simp; done) | (go_simp; rfl)); (case hp => exact (Reps.none _ _)); intro v103 w23 ho24 hb hg_ hnew_; clear hg_ hnew_; (first | rw [← Ny102.out] at ho24 | (simp only [Int.reduceToNat] at ho24; rw [← Ny102.out] at ho24)); have n0_ := Aside0.mk (Kd.R_lower ho24 (below_size (by repeat (first | (with_reducible first | exact HB.out | apply below_alloc | apply pw_below_drewN | apply below_drew1) | exact HB.out)))); have n1_ := Aside0.mk (below_step (by repeat (first | (with_reducible first | exact HB.out | apply below_alloc | apply pw_below_drewN | apply below_drew1) | exact HB.out)) hb); clear HB; have HO104 := n0_; have HB := n1_; clear n0_ n1_; clear hb ho24) | ((with_reducible refine gate_builtin (b := .append) (xs := #[.tmp 27, .tmp 28]) rfl ?_); at_builtin; refine Kd.R_append_rows k33 (w0 := w) w.heap.size rfl (.tmp 27) (.tmp 28) 22 33 (.agg #[(.string ⟨#[]⟩), (.int .i64 0), (.int .i64 0), (.int .i64 0)]) 40 rfl Try.underlying22 info33 rfl (by decide) (by omega) v103 y102 l1 _ _ _ (fun _ => True) (fun _ => False) rfl rfl ?aO ?aR (fun _ _ h => h) (fun _ h => h.elim) ?aF ?aB ?aS ?aL ?_; (case aR => repeat (first | exact (Kd.C_below HR1.out HB.out) | (with_reducible refine Kd.C_alloc ?_ _) | (with_reducible refine Kd.C_drewN ?_ _) | (with_reducible refine Kd.C_drew ?_))); (case aB => exact (by repeat (first | (with_reducible first | exact HB.out | apply below_alloc | apply pw_below_drewN | apply below_drew1) | exact HB.out))); (case aF => exact (fun _ _ => trivial)); (case aO => exact (by (with_reducible repeat (first | apply Kd.R_alloc | apply Kd.R_drewN | apply Kd.R_drew)); exact HO104.out)); (case aS => exact (below_size (by repeat (first | (with_reducible first | exact HB.out | apply below_alloc | apply pw_below_drewN | apply below_drew1) | exact HB.out)))); (case aL => have := LMc7.out; omega); intro v106 w25 ho hb hg hat; rw [← Ny105.out] at ho; have n0_ := Aside0.mk (hb); have n1_ := Aside0.mk (ho); clear HB; clear HO104; have HB := n0_; have HO107 := n1_; clear n0_ n1_; clear ho hb hg hat; obtain ⟨Ao26, co26, eo26⟩ := Kd.R_slice HO107.out; subst eo26) | ((with_reducible refine gate_callee (f := 21) rfl ?_); refine goesL_ (some 31) rfl rfl Try.func21 (by kernel_rfl) rfl #[.int .i64 a0, .slice Ao26 y105.length co26, .int .i64 a2] rfl (by (try simp only [List.map_toArray, List.map_cons, List.map_nil]); first | done | rfl | (simp only [List.length_drop, List.length_take]; rfl)) ?_; (with_reducible refine (auction_Award.calls k a0 _ _ y105 a2 t108 t109 t110 _ ?side1 ?side2 A8.out).mono ?_); (case side1 => repeat (first | exact (Kd.R_reads' HO107.out).2.2 | (with_reducible refine Kd.C_alloc ?_ _) | (with_reducible refine Kd.C_drewN ?_ _) | (with_reducible refine Kd.C_drew ?_))); (case side2 => exact (Kd.R_reads' HO107.out).2.1); rintro e w27 ⟨v111, rfl, ho0, hb⟩; refine ⟨_, rfl, ?_⟩; have n0_ := Aside0.mk (Kd.R_below (by (with_reducible repeat (first | apply Kd.R_alloc | apply Kd.R_drewN | apply Kd.R_drew)); exact HO107.out) hb); have n1_ := Aside0.mk (Kd.R_lower ho0 (below_size (by repeat (first | (with_reducible first | exact HB.out | apply below_alloc | apply pw_below_drewN | apply below_drew1) | exact HB.out)))); have n2_ := Aside0.mk (below_step (by repeat (first | (with_reducible first | exact HB.out | apply below_alloc | apply pw_below_drewN | apply below_drew1) | exact HB.out)) hb); clear HO107; clear HB; have HO107 := n0_; have HO112 := n1_; have HB := n2_; clear n0_ n1_ n2_; (try clear hb); (try clear hb2); (try clear hk); (try clear hi); (try clear ho0)) | ((with_reducible refine gate_callee (f := 22) rfl ?_); refine goesL_ (some 39) rfl rfl Try.func22 (by kernel_rfl) rfl #[.int .i64 a0, .slice A1 l1.length c1, .int .i64 a2] rfl (by (try simp only [List.map_toArray, List.map_cons, List.map_nil]); first | done | rfl | (simp only [List.length_drop, List.length_take]; rfl)) ?_; (with_reducible refine (contangoref45_Award.calls k a0 _ _ l1 a2 t113 t114 t115 _ ?side1 ?side2 A9.out).mono ?_); (case side1 => repeat (first | exact (Kd.C_below HR1.out HB.out) | (with_reducible refine Kd.C_alloc ?_ _) | (with_reducible refine Kd.C_drewN ?_ _) | (with_reducible refine Kd.C_drew ?_))); (case side2 => exact HC1.out); rintro e w28 ⟨v116, rfl, ho0, hb⟩; refine ⟨_, rfl, ?_⟩; have n0_ := Aside0.mk (Kd.R_below (by (with_reducible repeat (first | apply Kd.R_alloc | apply Kd.R_drewN | apply Kd.R_drew)); exact HO107.out) hb); have n1_ := Aside0.mk (Kd.R_elder' (by (with_reducible repeat (first | apply Kd.R_alloc | apply Kd.R_drewN | apply Kd.R_drew)); exact HO112.out) (Kd.R_base ho0) hb); have n2_ := Aside0.mk (Kd.R_lower (Kd.R_new' ho0 (Kd.R_lt (by (with_reducible repeat (first | apply Kd.R_alloc | apply Kd.R_drewN | apply Kd.R_drew)); exact HO112.out))) (below_size (by repeat (first | (with_reducible first | exact HB.out | apply below_alloc | apply pw_below_drewN | apply below_drew1) | exact HB.out)))); have n3_ := Aside0.mk (below_step (by repeat (first | (with_reducible first | exact HB.out | apply below_alloc | apply pw_below_drewN | apply below_drew1) | exact HB.out)) hb); clear HO107; clear HO112; clear HB; have HO107 := n0_; have HO112 := n1_; have HO117 := n2_; have HB := n3_; clear n0_ n1_ n2_ n3_; (try clear hb); (try clear hb2); (try clear hk); (try clear hi); (try clear ho0)) | ((with_reducible refine gate_dst (N := 45) rfl ?_); refine Kd.R_lit k33 _ 33 ?hg (N := 45) ?hd (xs := ([] : List (S33))) (inner := []) (ok := fun _ => True) (okp := fun _ => True) ?hr ?hp (fun _ hk => hk) trivial (Below.refl _ _) (Nat.le_refl _) (by simp) ?_; (case hd => rfl); (case hg => rfl); (case hr => first | (go_simp; done) | (go_simp; rfl)); (case hp => exact (Reps.none _ _)); intro v119 w29 ho30 hb hg_ hnew_; clear hg_ hnew_; (first | rw [← Ny118.out] at ho30 | (simp only [Int.reduceToNat] at ho30; rw [← Ny118.out] at ho30)); have n0_ := Aside0.mk (Kd.R_elder' (by (with_reducible repeat (first | apply Kd.R_alloc | apply Kd.R_drewN | apply Kd.R_drew)); exact HO107.out) (Kd.R_base ho30) hb); have n1_ := Aside0.mk (Kd.R_below (by (with_reducible repeat (first | apply Kd.R_alloc | apply Kd.R_drewN | apply Kd.R_drew)); exact HO112.out) hb); have n2_ := Aside0.mk (Kd.R_below (by (with_reducible repeat (first | apply Kd.R_alloc | apply Kd.R_drewN | apply Kd.R_drew)); exact HO117.out) hb); have n3_ := Aside0.mk (Kd.R_lower (Kd.R_new' ho30 (Kd.R_lt (by (with_reducible repeat (first | apply Kd.R_alloc | apply Kd.R_drewN | apply Kd.R_drew)); exact HO107.out))) (below_size (by repeat (first | (with_reducible first | exact HB.out | apply below_alloc | apply pw_below_drewN | apply below_drew1) | exact HB.out)))); have n4_ := Aside0.mk (below_step (by repeat (first | (with_reducible first | exact HB.out | apply below_alloc | apply pw_below_drewN | apply below_drew1) | exact HB.out)) hb); clear HO107; clear HO112; clear HO117; clear HB; have HO107 := n0_; have HO112 := n1_; have HO117 := n2_; have HO120 := n3_; have HB := n4_; clear n0_ n1_ n2_ n3_ n4_; clear hb ho30) | ((with_reducible refine gate_builtin (b := .append) (xs := #[.tmp 45, .tmp 46]) rfl ?_); at_builtin; refine Kd.R_append_rows k33 (w0 := w) w.heap.size rfl (.tmp 45) (.tmp 46) 22 33 (.agg #[(.string ⟨#[]⟩), (.int .i64 0), (.int .i64 0), (.int .i64 0)]) 40 rfl Try.underlying22 info33 rfl (by decide) (by omega) v119 y118 l1 _ _ _ (fun k_ => some k_ ≠ (.slice Ao26 y105.length co26 : Value).ownBlock) (fun _ => False) rfl rfl ?aO ?aR (fun _ _ h => h) (fun _ h => h.elim) ?aF ?aB ?aS ?aL ?_; (case aR => repeat (first | exact (Kd.C_below HR1.out HB.out) | (with_reducible refine Kd.C_alloc ?_ _) | (with_reducible refine Kd.C_drewN ?_ _) | (with_reducible refine Kd.C_drew ?_))); (case aB => exact (by repeat (first | (with_reducible first | exact HB.out | apply below_alloc | apply pw_below_drewN | apply below_drew1) | exact HB.out))); (case aF => exact (fun k_ hk => Kd.fresh' (Kd.R_lt (by (with_reducible repeat (first | apply Kd.R_alloc | apply Kd.R_drewN | apply Kd.R_drew)); exact HO107.out)) k_ hk)); (case aO => exact (by (with_reducible repeat (first | apply Kd.R_alloc | apply Kd.R_drewN | apply Kd.R_drew)); exact Kd.R_mono HO120.out (fun _ hk => hk.2))); (case aS => exact (below_size (by repeat (first | (with_reducible first | exact HB.out | apply below_alloc | apply pw_below_drewN | apply below_drew1) | exact HB.out)))); (case aL => have := LMc10.out; omega); intro v122 w31 ho hb hg hat; rw [← Ny121.out] at ho; have n0_ := Aside0.mk (Kd.R_after (ok := (fun _ => True)) (by (with_reducible repeat (first | apply Kd.R_alloc | apply Kd.R_drewN | apply Kd.R_drew)); exact HO107.out) hg hat); have n1_ := Aside0.mk (Kd.R_over' (by (with_reducible repeat (first | apply Kd.R_alloc | apply Kd.R_drewN | apply Kd.R_drew)); exact HO112.out) (Kd.R_typed (by (with_reducible repeat (first | apply Kd.R_alloc | apply Kd.R_drewN | apply Kd.R_drew)); exact HO120.out)) (by decide) hg); have n2_ := Aside0.mk (Kd.R_over' (by (with_reducible repeat (first | apply Kd.R_alloc | apply Kd.R_drewN | apply Kd.R_drew)); exact HO117.out) (Kd.R_typed (by (with_reducible repeat (first | apply Kd.R_alloc | apply Kd.R_drewN | apply Kd.R_drew)); exact HO120.out)) (by decide) hg); have n3_ := Aside0.mk (hb); have n4_ := Aside0.mk (ho); clear HO107; clear HO112; clear HO117; clear HB; clear HO120; have HO107 := n0_; have HO112 := n1_; have HO117 := n2_; have HB := n3_; have HO123 := n4_; clear n0_ n1_ n2_ n3_ n4_; clear ho hb hg hat; obtain ⟨Ao32, co32, eo32⟩ := Kd.R_slice HO123.out; subst eo32) | ((with_reducible refine gate_callee (f := 23) rfl ?_); refine goesL_ (some 49) rfl rfl Try.func23 (by kernel_rfl) rfl #[.int .i64 a0, .slice Ao32 y121.length co32, .int .i64 a2] rfl (by (try simp only [List.map_toArray, List.map_cons, List.map_nil]); first | done | rfl | (simp only [List.length_drop, List.length_take]; rfl)) ?_; (with_reducible refine (auction_Uniform.calls k a0 _ _ y121 a2 t124 t125 t126 t127 _ ?side1 ?side2 A11.out).mono ?_); (case side1 => repeat (first | exact (Kd.R_reads' HO123.out).2.2 | (with_reducible refine Kd.C_alloc ?_ _) | (with_reducible refine Kd.C_drewN ?_ _) | (with_reducible refine Kd.C_drew ?_))); (case side2 => exact (Kd.R_reads' HO123.out).2.1); rintro e w33 ⟨v128, rfl, ho0, hb⟩; refine ⟨_, rfl, ?_⟩; have n0_ := Aside0.mk (Kd.R_below (by (with_reducible repeat (first | apply Kd.R_alloc | apply Kd.R_drewN | apply Kd.R_drew)); exact HO107.out) hb); have n1_ := Aside0.mk (Kd.R_elder' (by (with_reducible repeat (first | apply Kd.R_alloc | apply Kd.R_drewN | apply Kd.R_drew)); exact HO112.out) (Kd.R_base ho0) hb); have n2_ := Aside0.mk (Kd.R_elder' (by (with_reducible repeat (first | apply Kd.R_alloc | apply Kd.R_drewN | apply Kd.R_drew)); exact HO117.out) (Kd.R_base ho0) hb); have n3_ := Aside0.mk (Kd.R_below (by (with_reducible repeat (first | apply Kd.R_alloc | apply Kd.R_drewN | apply Kd.R_drew)); exact HO123.out) hb); have n4_ := Aside0.mk (Kd.R_lower (Kd.R_new' (Kd.R_new' ho0 (Kd.R_lt (by (with_reducible repeat (first | apply Kd.R_alloc | apply Kd.R_drewN | apply Kd.R_drew)); exact HO112.out))) (Kd.R_lt (by (with_reducible repeat (first | apply Kd.R_alloc | apply Kd.R_drewN | apply Kd.R_drew)); exact HO117.out))) (below_size (by repeat (first | (with_reducible first | exact HB.out | apply below_alloc | apply pw_below_drewN | apply below_drew1) | exact HB.out)))); have n5_ := Aside0.mk (below_step (by repeat (first | (with_reducible first | exact HB.out | apply below_alloc | apply pw_below_drewN | apply below_drew1) | exact HB.out)) hb); clear HO107; clear HO112; clear HO117; clear HO123; clear HB; have HO107 := n0_; have HO112 := n1_; have HO117 := n2_; have HO123 := n3_; have HO129 := n4_; have HB := n5_; clear n0_ n1_ n2_ n3_ n4_ n5_; (try clear hb); (try clear hb2); (try clear hk); (try clear hi); (try clear ho0)) | ((with_reducible refine gate_callee (f := 24) rfl ?_); refine goesL_ (some 58) rfl rfl Try.func24 (by kernel_rfl) rfl #[.int .i64 a0, .slice A1 l1.length c1, .int .i64 a2] rfl (by (try simp only [List.map_toArray, List.map_cons, List.map_nil]); first | done | rfl | (simp only [List.length_drop, List.length_take]; rfl)) ?_; (with_reducible refine (contangoref45_Uniform.calls k a0 _ _ l1 a2 t130 t131 t132 t133 _ ?side1 ?side2 A12.out).mono ?_); (case side1 => repeat (first | exact (Kd.C_below HR1.out HB.out) | (with_reducible refine Kd.C_alloc ?_ _) | (with_reducible refine Kd.C_drewN ?_ _) | (with_reducible refine Kd.C_drew ?_))); (case side2 => exact HC1.out); rintro e w34 ⟨v134, rfl, ho0, hb⟩; refine ⟨_, rfl, ?_⟩; have n0_ := Aside0.mk (Kd.R_below (by (with_reducible repeat (first | apply Kd.R_alloc | apply Kd.R_drewN | apply Kd.R_drew)); exact HO107.out) hb); have n1_ := Aside0.mk (Kd.R_elder' (by (with_reducible repeat (first | apply Kd.R_alloc | apply Kd.R_drewN | apply Kd.R_drew)); exact HO112.out) (Kd.R_base ho0) hb); have n2_ := Aside0.mk (Kd.R_elder' (by (with_reducible repeat (first | apply Kd.R_alloc | apply Kd.R_drewN | apply Kd.R_drew)); exact HO117.out) (Kd.R_base ho0) hb); have n3_ := Aside0.mk (Kd.R_below (by (with_reducible repeat (first | apply Kd.R_alloc | apply Kd.R_drewN | apply Kd.R_drew)); exact HO123.out) hb); have n4_ := Aside0.mk (Kd.R_elder' (by (with_reducible repeat (first | apply Kd.R_alloc | apply Kd.R_drewN | apply Kd.R_drew)); exact HO129.out) (Kd.R_base ho0) hb); have n5_ := Aside0.mk (Kd.R_lower (Kd.R_new' (Kd.R_new' (Kd.R_new' ho0 (Kd.R_lt (by (with_reducible repeat (first | apply Kd.R_alloc | apply Kd.R_drewN | apply Kd.R_drew)); exact HO112.out))) (Kd.R_lt (by (with_reducible repeat (first | apply Kd.R_alloc | apply Kd.R_drewN | apply Kd.R_drew)); exact HO117.out))) (Kd.R_lt (by (with_reducible repeat (first | apply Kd.R_alloc | apply Kd.R_drewN | apply Kd.R_drew)); exact HO129.out))) (below_size (by repeat (first | (with_reducible first | exact HB.out | apply below_alloc | apply pw_below_drewN | apply below_drew1) | exact HB.out)))); have n6_ := Aside0.mk (below_step (by repeat (first | (with_reducible first | exact HB.out | apply below_alloc | apply pw_below_drewN | apply below_drew1) | exact HB.out)) hb); clear HO107; clear HO112; clear HO117; clear HO123; clear HO129; clear HB; have HO107 := n0_; have HO112 := n1_; have HO117 := n2_; have HO123 := n3_; have HO129 := n4_; have HO135 := n5_; have HB := n6_; clear n0_ n1_ n2_ n3_ n4_ n5_ n6_; (try clear hb); (try clear hb2); (try clear hk); (try clear hi); (try clear ho0); obtain ⟨Ao35, co35, eo35⟩ := Kd.R_slice HO112.out; subst eo35; obtain ⟨Ao36, co36, eo36⟩ := Kd.R_slice HO117.out; subst eo36) | ((with_reducible refine gate_callee (f := 25) rfl ?_); refine goesL_ (some 65) rfl rfl Try.func25 (by kernel_rfl) rfl #[.slice Ao35 t108.length co35, .slice Ao36 t113.length co36] rfl (by (try simp only [List.map_toArray, List.map_cons, List.map_nil]); first | done | rfl | (simp only [List.length_drop, List.length_take]; rfl)) ?_; (with_reducible refine (contangoref45_Awards.calls k _ _ t108 _ _ t113 true _ ?side1 ?side2 ?side3 ?side4 A13.out).mono ?_); (case side1 => repeat (first | exact (Kd.R_reads' HO112.out).2.2 | (with_reducible refine Kd.C_alloc ?_ _) | (with_reducible refine Kd.C_drewN ?_ _) | (with_reducible refine Kd.C_drew ?_))); (case side2 => exact (Kd.R_reads' HO112.out).2.1); (case side3 => repeat (first | exact (Kd.R_reads' HO117.out).2.2 | (with_reducible refine Kd.C_alloc ?_ _) | (with_reducible refine Kd.C_drewN ?_ _) | (with_reducible refine Kd.C_drew ?_))); (case side4 => exact (Kd.R_reads' HO117.out).2.1); rintro e w' ⟨rfl, ⟨nd, rfl⟩⟩; refine ⟨_, rfl, ?_⟩; obtain ⟨Ao37, co37, eo37⟩ := Kd.R_slice HO129.out; subst eo37; obtain ⟨Ao38, co38, eo38⟩ := Kd.R_slice HO135.out; subst eo38) | (go_at_call 25; (with_reducible refine (contangoref45_Awards.calls k _ _ t124 _ _ t130 true _ ?side1 ?side2 ?side3 ?side4 A17.out).mono ?_); (case side1 => repeat (first | exact (Kd.R_reads' HO129.out).2.2 | (with_reducible refine Kd.C_alloc ?_ _) | (with_reducible refine Kd.C_drewN ?_ _) | (with_reducible refine Kd.C_drew ?_))); (case side2 => exact (Kd.R_reads' HO129.out).2.1); (case side3 => repeat (first | exact (Kd.R_reads' HO135.out).2.2 | (with_reducible refine Kd.C_alloc ?_ _) | (with_reducible refine Kd.C_drewN ?_ _) | (with_reducible refine Kd.C_drew ?_))); (case side4 => exact (Kd.R_reads' HO135.out).2.1); rintro e w' ⟨rfl, ⟨nd, rfl⟩⟩) | (go_at_call 15; (with_reducible refine (contangolaw45_goes.calls k  t138 _ A22.out).mono ?_); rintro e w39 ⟨rfl, hb⟩; have n0_ := Aside0.mk (Kd.R_below (by (with_reducible repeat (first | apply Kd.R_alloc | apply Kd.R_drewN | apply Kd.R_drew)); exact HO107.out) hb); have n1_ := Aside0.mk (Kd.R_below (by (with_reducible repeat (first | apply Kd.R_alloc | apply Kd.R_drewN | apply Kd.R_drew)); exact HO112.out) hb); have n2_ := Aside0.mk (Kd.R_below (by (with_reducible repeat (first | apply Kd.R_alloc | apply Kd.R_drewN | apply Kd.R_drew)); exact HO117.out) hb); have n3_ := Aside0.mk (Kd.R_below (by (with_reducible repeat (first | apply Kd.R_alloc | apply Kd.R_drewN | apply Kd.R_drew)); exact HO123.out) hb); have n4_ := Aside0.mk (Kd.R_below (by (with_reducible repeat (first | apply Kd.R_alloc | apply Kd.R_drewN | apply Kd.R_drew)); exact HO129.out) hb); have n5_ := Aside0.mk (Kd.R_below (by (with_reducible repeat (first | apply Kd.R_alloc | apply Kd.R_drewN | apply Kd.R_drew)); exact HO135.out) hb); have n6_ := Aside0.mk (below_step (by repeat (first | (with_reducible first | exact HB.out | apply below_alloc | apply pw_below_drewN | apply below_drew1) | exact HB.out)) hb); clear HO107; clear HO112; clear HO117; clear HO123; clear HO129; clear HO135; clear HB; have HO107 := n0_; have HO112 := n1_; have HO117 := n2_; have HO123 := n3_; have HO129 := n4_; have HO135 := n5_; have HB := n6_; clear n0_ n1_ n2_ n3_ n4_ n5_ n6_; (try clear hb); (try clear hb2); (try clear hk); (try clear hi)))
                      go_ret
                      exact ⟨by first | rfl | (simp [errW_none, errW_some] <;> rfl) | (simp [*, errW_none, errW_some] <;> rfl), by repeat (first | (with_reducible first | exact HB.out | apply below_alloc | apply pw_below_drewN | apply below_drew1) | exact HB.out)⟩
                    · rw [if_neg c21] at H
                      exact absurd H (by simp)
                  · rw [if_neg c20] at H
                    exact absurd H (by simp)
                · rw [if_neg c19] at H
                  exact absurd H (by simp)
              · replace c18 := Bool.eq_false_iff.mpr c18
                subst c18
                have H1 : (none) = some r := by rw [if_neg (show ¬ (false = true) by decide)] at H; exact H
                clear H
                have H := H1
                clear H1
                exact absurd H (by simp)
            · rw [if_neg c16] at H
              exact absurd H (by simp)
          · rw [if_neg c15] at H
            exact absurd H (by simp)
        · replace c14 := Bool.eq_false_iff.mpr c14
          subst c14
          have H1 : (none) = some r := by rw [if_neg (show ¬ (false = true) by decide)] at H; exact H
          clear H
          have H := H1
          clear H1
          exact absurd H (by simp)
      · rw [if_neg c10] at H
        exact absurd H (by simp)
    · rw [if_neg c7] at H
      exact absurd H (by simp)
end Go.Proofs.Ytokijibpdnepiaa.X
end
section
namespace Go.Proofs.Ytokijibpdnepiaa.Opn
open Go.ChangeShapes Go.WideShapes Go.Proofs.YtokijibpdnepiaaW.PrintWords
set_option linter.unusedVariables false
set_option linter.unusedSimpArgs false
structure Opens (P : Program) (t : TypeId) {α : Type} (d : Kd α) (Ok : α → Prop) : Prop where
  sz : d.sz = P.cellsOf t
  opens : ∀ {H : Type} {enc : TypeId × Value → H} {w : World} {base : Nat} {spare : Nat → Bool} {held : Bool} {fuel : Nat} {cs : List Value} {x : DataW H × List MemPlace},
    DataW.trod enc P w base spare held fuel t cs = some x → (∀ n ∈ x.1.weights P t, n ≤ reachBytes) → ∃ v, d.K w v cs ∧ Ok v
theorem opens_int {P : Program} {t : TypeId} {k : IntKind} (ht : P.underlying t = some (.int k)) (hc : P.cellsOf t = 1) : Opens P t (Kd.int k) (fun n => (Lit.int k n).wf = true) := by
  refine ⟨hc.symm, fun h _ => ?_⟩
  obtain ⟨n, rfl, _, hw⟩ := DataW.trod_int ht h
  exact ⟨n, rfl, hw⟩
theorem opens_string {P : Program} {t : TypeId} (ht : P.underlying t = some .string) (hc : P.cellsOf t = 1) : Opens P t Kd.string (fun s => s.size ≤ 140737488351232) := by
  refine ⟨hc.symm, fun h hw => ?_⟩
  obtain ⟨s, rfl, rfl, hs⟩ := DataW.trod_string ht h
  refine ⟨s, rfl, ?_⟩
  have := hw s.data.toList.length (by simp [DataW.weights])
  rw [Array.length_toList] at this
  exact this
theorem weights_all {H : Type} {P : Program} {e : TypeId} : ∀ {ds : List (DataW H)} {j : Nat} {d : DataW H}, ds[j]? = some d → ∀ n ∈ d.weights P e, n ∈ DataW.weightsAll P e ds
  | d0 :: ds, 0, d, hd, n, hn => by
    simp only [List.getElem?_cons_zero, Option.some.injEq] at hd
    subst hd
    simp only [DataW.weightsAll, List.mem_append]
    exact Or.inl hn
  | d0 :: ds, j + 1, d, hd, n, hn => by
    simp only [List.getElem?_cons_succ] at hd
    simp only [DataW.weightsAll, List.mem_append]
    exact Or.inr (weights_all hd n hn)
  | [], _, _, hd, _, _ => by simp at hd
theorem list_of {α : Type} {n : Nat} {p : Nat → α → Prop} (h : ∀ i, i < n → ∃ x, p i x) : ∃ l : List α, l.length = n ∧ ∀ i x, l[i]? = some x → p i x := by
  induction n with
  | zero => exact ⟨[], rfl, fun i x hx => by simp at hx⟩
  | succ n ih =>
    obtain ⟨l, hl, hp⟩ := ih (fun i hi => h i (by omega))
    obtain ⟨x, hx⟩ := h n (by omega)
    refine ⟨l ++ [x], by simp [hl], fun i y hy => ?_⟩
    by_cases hi : i < l.length
    · rw [List.getElem?_append_left hi] at hy
      exact hp i y hy
    · rw [List.getElem?_append_right (by omega)] at hy
      have : i - l.length = 0 := by
        cases hk : i - l.length with
        | zero => rfl
        | succ m => rw [hk] at hy; simp at hy
      rw [this] at hy
      simp at hy
      subst hy
      have : i = n := by omega
      subst this
      exact hx
theorem opens_slice {P : Program} {t e : TypeId} {α : Type} {d : Kd α} {Ok : α → Prop} (h : Opens P e d Ok) (ht : P.underlying t = some (.slice e)) (hc : P.cellsOf t = 1) {B : Nat} (hB : P.bytesOf e = B) :
    Opens P t (Kd.slice e d) (fun l => l.length ≤ maxLen ∧ l.length * B ≤ 140737488351232 ∧ ∀ x ∈ l, Ok x) := by
  subst hB
  refine ⟨hc.symm, fun {H enc w base spare held fuel cs x} hx hw => ?_⟩
  rcases DataW.trod_slice ht hx with ⟨rfl, rfl⟩ | ⟨a, len, cap, elems, rest, n, _, rfl, rfl, hb, hl, hm, hlen, hel, hsp, hns⟩
  · exact ⟨[], ⟨none, 0, rfl, Nat.le_refl _, Kd.C_nil _ _⟩, by simp⟩
  simp only [DataW.weights, ht] at hw
  have hw1 : (elems.length + rest.length) * P.bytesOf e ≤ reachBytes := by
    have := hw ((elems.length + rest.length) * P.bytesOf e) (by simp)
    exact this
  have hone : ∀ i, i < len → ∃ v : α, ∃ c, w.cells? base (a.add (i * P.cellsOf e)) (P.cellsOf e) = some c ∧ d.K w v c ∧ Ok v := by
    intro i hi
    have h1 := hel i hi
    rw [List.getElem?_eq_getElem (by omega)] at h1
    obtain ⟨c, hc1, hc2⟩ := Option.bind_eq_some_iff.1 h1
    obtain ⟨v, hv, hok⟩ := h.opens hc2 (fun n hn => hw n (by
      simp only [List.mem_cons, List.mem_append]
      right; left
      refine weights_all (j := i) ?_ n hn
      rw [List.getElem?_map, List.getElem?_eq_getElem (by omega)]
      rfl))
    exact ⟨v, c, hc1, hv, hok⟩
  obtain ⟨l, hl1, hl2⟩ := list_of hone
  subst hl1
  refine ⟨l, ⟨some a, cap, rfl, hl, rfl, ?_, fun _ => ⟨a, rfl, fun j p hj => ?_⟩⟩, ?_, ?_, ?_⟩
  · unfold maxLen at hm; omega
  · obtain ⟨c, hc1, hc2, _⟩ := hl2 j p hj
    obtain ⟨_, hlen2, hcell⟩ := World.cells?_some hc1
    refine ⟨c, by rw [h.sz]; exact hlen2, hc2, fun i u hu => ?_⟩
    have hi : i < P.cellsOf e := by
      have := (List.getElem?_eq_some_iff.1 hu).1
      omega
    have := hcell i hi
    rw [hu, ← Deep.add_add, h.sz] at *
    exact this
  · exact Nat.le_trans hl hm
  · have h2 : l.length * P.bytesOf e ≤ (elems.length + rest.length) * P.bytesOf e := Nat.mul_le_mul_right _ (by omega)
    exact Nat.le_trans h2 hw1
  · intro x hx
    obtain ⟨j, hj⟩ := List.getElem?_of_mem hx
    obtain ⟨c, _, _, ho⟩ := hl2 j x hj
    exact ho
structure OpensF (P : Program) (fs : List Field) (off : Nat) {α : Type} (d : Kd α) (Ok : α → Prop) : Prop where
  opens : ∀ {H : Type} {enc : TypeId × Value → H} {w : World} {base : Nat} {spare : Nat → Bool} {held : Bool} {n : Nat} {cs : List Value} {xs : List (DataW H × List MemPlace)},
    xs.length = fs.length → (∀ (i : Nat) (f : Field), fs[i]? = some f → DataW.trod enc P w base spare held n f.type ((cs.drop f.offset).take (P.cellsOf f.type)) = xs[i]?) →
    (∀ m ∈ DataW.weightsEach P (fs.map (·.type)) (xs.map (·.1)), m ≤ reachBytes) → ∃ v, d.K w v ((cs.drop off).take d.sz) ∧ Ok v
theorem opensF_one {P : Program} {f : Field} {off : Nat} {α : Type} {d : Kd α} {Ok : α → Prop} (h : Opens P f.type d Ok) (ho : f.offset = off) : OpensF P [f] off d Ok := by
  refine ⟨fun {H enc w base spare held n cs xs} hl hx hw => ?_⟩
  match xs, hl with
  | [x], _ =>
    have h1 := hx 0 f rfl
    obtain ⟨v, hv, hok⟩ := h.opens h1 (fun n hn => hw n (by simpa [DataW.weightsEach] using hn))
    refine ⟨v, ?_, hok⟩
    rw [h.sz, ← ho]
    exact hv
theorem opensF_cons {P : Program} {f : Field} {fs : List Field} {off : Nat} {α β : Type} {d : Kd α} {d' : Kd β} {Ok : α → Prop} {Ok' : β → Prop} (h : Opens P f.type d Ok) (ho : f.offset = off) (h' : OpensF P fs (off + d.sz) d' Ok') :
    OpensF P (f :: fs) off (Kd.pair d d') (fun p => Ok p.1 ∧ Ok' p.2) := by
  refine ⟨fun {H enc w base spare held n cs xs} hl hx hw => ?_⟩
  match xs, hl with
  | x :: xs, hl =>
    have h1 := hx 0 f rfl
    obtain ⟨v, hv, hok⟩ := h.opens h1 (fun n hn => hw n (by
      simp only [List.map_cons, DataW.weightsEach, List.mem_append]; exact Or.inl hn))
    obtain ⟨v', hv', hok'⟩ := h'.opens (cs := cs) (xs := xs) (by simpa using hl) (fun i g hg => by
      have := hx (i + 1) g (by simpa using hg)
      simpa using this) (fun m hm => hw m (by simp only [List.map_cons, DataW.weightsEach, List.mem_append]; exact Or.inr hm))
    refine ⟨(v, v'), ⟨(cs.drop off).take d.sz, (cs.drop (off + d.sz)).take d'.sz, ?_, ?_, hv'⟩, hok, hok'⟩
    · show (cs.drop off).take (d.sz + d'.sz) = _
      rw [List.take_add, List.drop_drop]
    · rw [h.sz, ← ho]; exact hv
theorem opens_struct {P : Program} {t : TypeId} {fs : Array Field} {α β : Type} {d : Kd α} {Ok : α → Prop} (h : OpensF P fs.toList 0 d Ok) (ht : P.underlying t = some (.struct fs)) (hc : d.sz = P.cellsOf t) (f : β → α) (mk : α → β) (hf : ∀ a, f (mk a) = a) :
    Opens P t (Kd.iso d f) (fun b => Ok (f b)) := by
  refine ⟨hc, fun {H enc w base spare held fuel cs x} hx hw => ?_⟩
  obtain ⟨xs, n, _, rfl, hlen, hsz, hall⟩ := DataW.trod_struct ht hx
  simp only [DataW.weights, ht] at hw
  obtain ⟨v, hv, hok⟩ := h.opens (cs := cs) (xs := xs) (by simpa using hsz) (fun i f hf => hall i f (by simpa using hf)) hw
  refine ⟨mk v, ?_, by rw [hf]; exact hok⟩
  show d.K w (f (mk v)) cs
  rw [hf]
  rw [List.drop_zero, hc, ← hlen, List.take_length] at hv
  exact hv
theorem opens_imp {P : Program} {t : TypeId} {α : Type} {d : Kd α} {Ok Ok' : α → Prop} (h : Opens P t d Ok) (hi : ∀ v, Ok v → Ok' v) : Opens P t d Ok' :=
  ⟨h.sz, fun hx hw => let ⟨v, hv, ho⟩ := h.opens hx hw; ⟨v, hv, hi v ho⟩⟩
end Go.Proofs.Ytokijibpdnepiaa.Opn
end
section
namespace Go.Proofs.Ytokijibpdnepiaa.X
open Go.RowKit Go.Proofs.YtokijibpdnepiaaW.PrintWords Go.Proofs.YtokijibpdnepiaaW.PrintLast Go.Proofs.YtokijibpdnepiaaW.PrintMore
attribute [local go_sem] max2_int min2_int max_two min_two max_three min_three max_four min_four
set_option linter.unusedVariables false
set_option linter.unusedSimpArgs false
def ok33 (v : S33) : Prop := v.f0.size ≤ 140737488351232 ∧ ((Lit.int .i64 v.f1).wf = true ∧ ((Lit.int .i64 v.f2).wf = true ∧ ((Lit.int .i64 v.f3).wf = true)))
theorem opens33 : Opn.Opens Try.prog 33 k33 ok33 := by
  have hu := Try.underlying33
  refine Opn.opens_imp (Opn.opens_struct (Ok := fun (p : ByteArray × (Int × (Int × (Int)))) => p.1.size ≤ 140737488351232 ∧ ((Lit.int .i64 p.2.1).wf = true ∧ ((Lit.int .i64 p.2.2.1).wf = true ∧ ((Lit.int .i64 p.2.2.2).wf = true)))) ?hF hu (by kernel_rfl) (fun x : S33 => (x.f0, x.f1, x.f2, x.f3)) (fun a => ⟨a.1, a.2.1, a.2.2.1, a.2.2.2⟩) (fun _ => rfl)) ?hI
  case hF =>
    refine Opn.opensF_cons (Ok := fun (p : ByteArray) => p.size ≤ 140737488351232) (Ok' := fun (p : Int × (Int × (Int))) => (Lit.int .i64 p.1).wf = true ∧ ((Lit.int .i64 p.2.1).wf = true ∧ ((Lit.int .i64 p.2.2).wf = true))) (h := ?_) (ho := ?_) (h' := ?_)
    · exact Opn.opens_string Try.underlying9 (by kernel_rfl)
    · rfl
    · skip
      refine Opn.opensF_cons (Ok := fun (p : Int) => (Lit.int .i64 p).wf = true) (Ok' := fun (p : Int × (Int)) => (Lit.int .i64 p.1).wf = true ∧ ((Lit.int .i64 p.2).wf = true)) (h := ?_) (ho := ?_) (h' := ?_)
      · exact Opn.opens_int Try.underlying3 (by kernel_rfl)
      · rfl
      · skip
        refine Opn.opensF_cons (Ok := fun (p : Int) => (Lit.int .i64 p).wf = true) (Ok' := fun (p : Int) => (Lit.int .i64 p).wf = true) (h := ?_) (ho := ?_) (h' := ?_)
        · exact Opn.opens_int Try.underlying3 (by kernel_rfl)
        · rfl
        · skip
          refine Opn.opensF_one (Ok := fun (p : Int) => (Lit.int .i64 p).wf = true) (h := ?_) (ho := ?_)
          · exact Opn.opens_int Try.underlying3 (by kernel_rfl)
          · rfl
  case hI => exact fun v h => h
end Go.Proofs.Ytokijibpdnepiaa.X
end
section
namespace Go.Proofs.Ytokijibpdnepiaa.P
open Go.RowKit Go.Proofs.YtokijibpdnepiaaW.PrintWords Go.Proofs.YtokijibpdnepiaaW.PrintMore Go.Proofs.Ytokijibpdnepiaa.X
theorem Ev_succ {α : Type} {g : Nat → Option α} {r : α} (h : Ev (fun k => g (k + 1)) r) : Ev g r := Ev.step (fun _ => rfl) h
theorem Ev_bind {α β : Type} {g : Nat → Option α} {f : Nat → α → Option β} {a : α} {r : β} (h : Ev g a) (k : Ev (fun n => f n a) r) : Ev (fun n => (g n).bind (f n)) r := Ev.bind h k
theorem Ev_id {α : Type} {g : Nat → Option α} {r : α} (h : Ev g r) : Ev (fun n => (g n).bind fun x => some x) r := Ev.bind h (Ev.now _)
theorem w_id {x : Int} (h1 : -9223372036854775808 ≤ x) (h2 : x ≤ 9223372036854775807) : wrap64 x = x := by unfold wrap64; omega
theorem w_succ {i n : Nat} (h : i < n) (hn : n ≤ 9223372036854775807) : wrap64 ((i : Int) + 1) = ((i + 1 : Nat) : Int) := by rw [w_id (by omega) (by omega)]; omega
theorem w_pred {i : Nat} (h : 0 < i) (hn : i ≤ 9223372036854775807) : wrap64 ((i : Int) - 1) = ((i - 1 : Nat) : Int) := by rw [w_id (by omega) (by omega)]; omega
theorem drop_cons {α : Type} (l : List α) (i : Nat) (h : i < l.length) : l.drop i = l[i] :: l.drop (i + 1) := (List.getElem_cons_drop h).symm
end Go.Proofs.Ytokijibpdnepiaa.P
end
section
namespace Go.Proofs.Ytokijibpdnepiaa.P
set_option linter.unusedVariables false
set_option linter.unusedSimpArgs false
open Go.RowKit Go.Proofs.YtokijibpdnepiaaW.PrintWords Go.Proofs.YtokijibpdnepiaaW.PrintMore Go.Proofs.Ytokijibpdnepiaa.X
theorem bl_not : ∀ a b : List UInt8, (!(Op.bytesLess a b || a == b)) = Op.bytesLess b a
  | [], [] => rfl
  | [], y :: b => by simp [Op.bytesLess]
  | x :: a, [] => by simp [Op.bytesLess]
  | x :: a, y :: b => by
    have ih := bl_not a b
    simp only [Op.bytesLess]
    by_cases h : x = y
    · subst h
      have : ¬ x < x := by simp
      simp only [this, decide_false, Bool.false_or, beq_self_eq_true, Bool.true_and, ← ih]
      congr 1
      simp
    · have h1 : (x == y) = false := by simpa using h
      have h2 : (y == x) = false := by simpa using fun e => h e.symm
      have h3 : (x :: a == y :: b) = false := by simp [h]
      rw [h1, h2, h3]
      simp only [Bool.false_and, Bool.or_false]
      have : decide (y < x) = !decide (x < y) := by
        rw [Bool.eq_iff_iff]
        simp only [decide_eq_true_eq, Bool.not_eq_true', decide_eq_false_iff_not, UInt8.lt_iff_toNat_lt]
        have : x.toNat ≠ y.toNat := fun e => h (UInt8.toNat_inj.1 e)
        omega
      rw [this]
theorem bl_eq {a b : List UInt8} (h : Op.bytesLess a b = false) (k : Op.bytesLess b a = false) : a = b := by
  have := bl_not a b
  rw [h, k] at this
  simpa using this
theorem bl_asymm {a b : List UInt8} (h : Op.bytesLess a b = true) : Op.bytesLess b a = false := by
  rw [← bl_not a b, h]; rfl
theorem bl_trans : ∀ a b c : List UInt8, Op.bytesLess a b = true → Op.bytesLess b c = true → Op.bytesLess a c = true
  | a, b, [], _, h => by cases b <;> simp [Op.bytesLess] at h
  | a, [], z :: c, h, _ => by cases a <;> simp [Op.bytesLess] at h
  | [], y :: b, z :: c, _, _ => by simp [Op.bytesLess]
  | x :: a, y :: b, z :: c, h, k => by
    simp only [Op.bytesLess, Bool.or_eq_true, Bool.and_eq_true, decide_eq_true_eq, beq_iff_eq] at h k ⊢
    rcases h with h | ⟨h, h'⟩ <;> rcases k with k | ⟨k, k'⟩
    · exact Or.inl (UInt8.lt_trans h k)
    · subst k; exact Or.inl h
    · subst h; exact Or.inl k
    · subst h k; exact Or.inr ⟨rfl, bl_trans a b c h' k'⟩
end Go.Proofs.Ytokijibpdnepiaa.P
end
section
namespace Go.Proofs.Ytokijibpdnepiaa.P
set_option linter.unusedVariables false
set_option linter.unusedSimpArgs false
open Go.RowKit Go.Proofs.YtokijibpdnepiaaW.PrintWords Go.Proofs.YtokijibpdnepiaaW.PrintMore Go.Proofs.Ytokijibpdnepiaa.X
def letterB (n : Int) : Bool := decide (97 ≤ n) && decide (n ≤ 122)
def digitB (n : Int) : Bool := decide (48 ≤ n) && decide (n ≤ 57)
theorem letter_f (n : Int) : words_letter.f n = some (letterB n) := by
  unfold words_letter.f letterB
  by_cases h : 97 ≤ n
  · rw [if_pos h, decide_eq_true h, Bool.true_and]
  · rw [if_neg h, decide_eq_false h, Bool.false_and]
theorem digit_f (n : Int) : words_digit.f n = some (digitB n) := by
  unfold words_digit.f digitB
  by_cases h : 48 ≤ n
  · rw [if_pos h, decide_eq_true h, Bool.true_and]
  · rw [if_neg h, decide_eq_false h, Bool.false_and]
def chB (s : ByteArray) (i : Nat) : Bool := letterB (bt s (i : Int)) || (!(i == 0) && digitB (bt s (i : Int)))
def nameFrom (s : ByteArray) : Nat → Nat → Bool
  | 0, _ => true
  | d + 1, i => chB s i && nameFrom s d (i + 1)
def nameB (s : ByteArray) : Bool := decide (0 < s.size) && decide (s.size ≤ 12) && nameFrom s s.size 0
theorem nameLoop (s : ByteArray) (hs : s.size ≤ 12) (h0 : letterB (bt s 0) = true) : ∀ (d i : Nat), i + d = s.size → Ev (fun k => words_Name.l0 k s s.size i) (nameFrom s d i)
  | 0, i, hd => by
    refine Ev_succ ?_
    simp only [words_Name.l0, if_neg (show ¬ ((i : Int) < (s.size : Int)) by omega)]
    exact Ev.now _
  | d + 1, i, hd => by
    have hi : i < s.size := by omega
    have ih := nameLoop s hs h0 d (i + 1) (by omega)
    refine Ev_succ ?_
    simp only [words_Name.l0, if_pos (show (i : Int) < (s.size : Int) by omega), if_pos (show 0 ≤ (i : Int) by omega), letter_f, digit_f, Option.bind_some, w_succ hi (by omega), nameFrom, chB]
    cases h1 : letterB (bt s (i : Int)) with
    | true => simp only [if_true, Bool.true_or, Bool.true_and]; exact ih
    | false =>
      simp only [Bool.false_eq_true, if_false, Bool.false_or]
      have hi0 : (i == 0) = false := by
        rw [← Bool.not_eq_true, beq_iff_eq]
        rintro rfl
        rw [show ((0 : Nat) : Int) = 0 from rfl, h0] at h1
        cases h1
      simp only [hi0, Bool.not_false, Bool.true_and]
      cases h2 : digitB (bt s (i : Int)) with
      | true => simp only [if_true, Bool.true_and]; exact ih
      | false => simp only [Bool.false_eq_true, if_false, Bool.false_and]; exact Ev.now _
theorem name_f (s : ByteArray) : Ev (fun k => words_Name.f k s) (nameB s) := by
  have hj : nameB s = false → Ev (fun k => words_Name.j0 k s true) (nameB s) := by
    intro h
    rw [h]
    refine Ev_succ ?_
    simp only [words_Name.j0, if_true]
    exact Ev.now _
  unfold words_Name.f
  by_cases c0 : s.toList = []
  · simp only [if_pos c0]
    refine hj ?_
    have : s.size = 0 := by
      have e : s.toList = s.data.toList := ByteArray.toList_eq s
      rw [e] at c0
      have := congrArg List.length c0
      simpa using this
    simp [nameB, this]
  · simp only [if_neg c0]
    by_cases c1 : (s.size : Int) > 12
    · simp only [if_pos c1]
      exact hj (by simp [nameB]; omega)
    · have hp : 0 < s.size := by
        rcases Nat.eq_zero_or_pos s.size with h | h
        · exfalso
          apply c0
          have e : s.toList = s.data.toList := ByteArray.toList_eq s
          rw [e]
          exact List.length_eq_zero_iff.1 (by simpa using h)
        · exact h
      simp only [if_neg c1, if_pos (show 0 < (s.size : Int) by omega), letter_f, Option.bind_some]
      have hn : nameB s = nameFrom s s.size 0 := by
        unfold nameB
        rw [decide_eq_true hp, decide_eq_true (show s.size ≤ 12 by omega)]
        simp
      cases h1 : letterB (bt s 0) with
      | false =>
        refine hj ?_
        rw [hn]
        obtain ⟨d, hd⟩ : ∃ d, s.size = d + 1 := ⟨s.size - 1, by omega⟩
        rw [hd]
        simp [nameFrom, chB, h1]
      | true =>
        refine Ev_succ ?_
        simp only [words_Name.j0, Bool.not_true, Bool.false_eq_true, if_false]
        rw [hn]
        exact nameLoop s (by omega) h1 s.size 0 (by omega)
theorem nameRLoop (s : ByteArray) (hs : s.size ≤ 4611686018427387904) : ∀ (d i : Nat), i + d = s.size → Ev (fun k => contangoref03_Name.l0 k s i) (nameFrom s d i && (decide (0 < s.size) && decide (s.size ≤ 12)))
  | 0, i, hd => by
    refine Ev_succ ?_
    simp only [contangoref03_Name.l0, if_neg (show ¬ ((i : Int) < (s.size : Int)) by omega), nameFrom, Bool.true_and]
    by_cases c : (s.size : Int) > 0
    · simp only [if_pos c, decide_eq_true (show 0 < s.size by omega), Bool.true_and]
      have : decide ((s.size : Int) ≤ 12) = decide (s.size ≤ 12) := by rw [decide_eq_decide]; omega
      rw [this]
      exact Ev.now _
    · simp only [if_neg c, decide_eq_false (show ¬ 0 < s.size by omega), Bool.false_and]
      exact Ev.now _
  | d + 1, i, hd => by
    have hi : i < s.size := by omega
    have ih := nameRLoop s hs d (i + 1) (by omega)
    rw [← w_succ hi (by omega)] at ih
    refine Ev_succ ?_
    simp only [contangoref03_Name.l0, if_pos (show (i : Int) < (s.size : Int) by omega), if_pos (show 0 ≤ (i : Int) by omega), nameFrom]
    have step : chB s i = true → Ev (fun k => contangoref03_Name.l0 k s (wrap64 ((i : Int) + 1))) (chB s i && nameFrom s d (i + 1) && (decide (0 < s.size) && decide (s.size ≤ 12))) := by
      intro h
      rw [h, Bool.true_and]
      exact ih
    have stop : chB s i = false → Ev (fun _ => (some false : Option Bool)) (chB s i && nameFrom s d (i + 1) && (decide (0 < s.size) && decide (s.size ≤ 12))) := by
      intro h
      rw [h, Bool.false_and, Bool.false_and]
      exact Ev.now _
    have rest : letterB (bt s (i : Int)) = false → Ev (fun k => if (i : Int) = 0 then some false else if bt s (i : Int) < 48 then some false else if bt s (i : Int) > 57 then some false else contangoref03_Name.l0 k s (wrap64 ((i : Int) + 1))) (chB s i && nameFrom s d (i + 1) && (decide (0 < s.size) && decide (s.size ≤ 12))) := by
      intro hl
      by_cases c0 : (i : Int) = 0
      · have hi0 : (i == 0) = true := by rw [beq_iff_eq]; omega
        simp only [if_pos c0]
        exact stop (by unfold chB; rw [hl, hi0]; rfl)
      · by_cases c1 : bt s (i : Int) < 48
        · simp only [if_neg c0, if_pos c1]; exact stop (by simp [chB, hl, digitB]; omega)
        · by_cases c2 : bt s (i : Int) > 57
          · simp only [if_neg c0, if_neg c1, if_pos c2]; exact stop (by simp [chB, hl, digitB]; omega)
          · simp only [if_neg c0, if_neg c1, if_neg c2]; exact step (by simp [chB, hl, digitB]; omega)
    by_cases g1 : bt s (i : Int) ≥ 97
    · by_cases g2 : bt s (i : Int) ≤ 122
      · simp only [if_pos g1, if_pos g2]; exact step (by simp [chB, letterB]; omega)
      · simp only [if_pos g1, if_neg g2]; exact rest (by simp [letterB]; omega)
    · simp only [if_neg g1]; exact rest (by simp [letterB]; omega)
theorem nameR_f (s : ByteArray) (hs : s.size ≤ 4611686018427387904) : Ev (fun k => contangoref03_Name.f k s) (nameB s) := by
  have h := nameRLoop s hs s.size 0 (by omega)
  have e : nameB s = (nameFrom s s.size 0 && (decide (0 < s.size) && decide (s.size ≤ 12))) := by
    unfold nameB
    rw [Bool.and_comm]
  rw [e]
  exact h
end Go.Proofs.Ytokijibpdnepiaa.P
end
section
namespace Go.Proofs.Ytokijibpdnepiaa.P
set_option linter.unusedVariables false
set_option linter.unusedSimpArgs false
open Go.RowKit Go.Proofs.YtokijibpdnepiaaW.PrintWords Go.Proofs.YtokijibpdnepiaaW.PrintMore Go.Proofs.Ytokijibpdnepiaa.X
abbrev Bid := S33
theorem rdBid (l : List Bid) (i : Nat) (h : i < l.length) : rd_T33 l (i : Int) = l[i] := by simp [rd_T33, h]
def priceB (n : Int) : Bool := decide (-68719476736 ≤ n) && decide (n ≤ 68719476736)
theorem price_f (n : Int) : auction_priced.f n = some (priceB n) := by
  unfold auction_priced.f priceB
  by_cases h : n ≥ -68719476736
  · rw [if_pos h, decide_eq_true (show -68719476736 ≤ n from h), Bool.true_and]
  · rw [if_neg h, decide_eq_false (show ¬ -68719476736 ≤ n from h), Bool.false_and]
theorem priceR_f (n : Int) : contangoref45_price.f n = some (priceB n) := by
  unfold contangoref45_price.f priceB
  by_cases h : n ≥ -68719476736
  · rw [if_pos h, decide_eq_true (show -68719476736 ≤ n from h), Bool.true_and]
  · rw [if_neg h, decide_eq_false (show ¬ -68719476736 ≤ n from h), Bool.false_and]
def bidErr (b : Bid) : Int := if nameB b.f0 = true then (if b.f1 < 1 ∨ b.f1 > 1048576 then 18 else if priceB b.f2 = true then (if b.f3 < 0 ∨ b.f3 > 86399 then 28 else 0) else 28) else 10
def bidGo : List Bid → Int
  | [] => 0
  | b :: t => if bidErr b = 0 then bidGo t else bidErr b
def bidCheck (l : List Bid) : Int := if l.length > 1024 then 8 else bidGo l
theorem bidLoop (l : List Bid) (hl : l.length ≤ 1024) : ∀ (d i : Nat), i + d = l.length → Ev (fun k => auction_Check.l0 k l l.length i) (bidGo (l.drop i))
  | 0, i, hd => by
    rw [List.drop_of_length_le (by omega)]
    refine Ev_succ ?_
    simp only [auction_Check.l0, if_neg (show ¬ ((i : Int) < (l.length : Int)) by omega)]
    exact Ev.now _
  | d + 1, i, hd => by
    have hi : i < l.length := by omega
    have ih := bidLoop l hl d (i + 1) (by omega)
    rw [← w_succ hi (by omega)] at ih
    rw [drop_cons l i hi, bidGo]
    have hj : ∀ b, (b = true ↔ (l[i].f1 < 1 ∨ l[i].f1 > 1048576)) → nameB l[i].f0 = true → Ev (fun k => auction_Check.j1 k l l.length i b l[i].f0 l[i].f1 l[i].f2 l[i].f3) (if bidErr l[i] = 0 then bidGo (l.drop (i + 1)) else bidErr l[i]) := by
      intro b hb hn
      refine Ev_succ ?_
      unfold bidErr
      rw [if_pos hn]
      by_cases c : b = true
      · subst c
        rw [if_pos (hb.1 rfl)]
        simp only [auction_Check.j1, if_true]
        exact Ev.now _
      · have cf : b = false := by simpa using c
        subst cf
        rw [if_neg (fun h => c (hb.2 h))]
        simp only [auction_Check.j1, Bool.false_eq_true, if_false, price_f, Option.bind_some]
        by_cases c1 : priceB l[i].f2 = true
        · simp only [if_pos c1]
          by_cases c2 : l[i].f3 < 0
          · rw [if_pos (Or.inl c2)]
            simp only [if_pos c2]
            exact Ev.now _
          · by_cases c3 : l[i].f3 > 86399
            · rw [if_pos (Or.inr c3)]
              simp only [if_neg c2, if_pos c3]
              exact Ev.now _
            · rw [if_neg (show ¬ (l[i].f3 < 0 ∨ l[i].f3 > 86399) by omega)]
              simp only [if_neg c2, if_neg c3, if_true]
              exact ih
        · simp only [if_neg c1]
          exact Ev.now _
    refine Ev_succ ?_
    simp only [auction_Check.l0, if_pos (show (i : Int) < (l.length : Int) by omega), if_pos (show 0 ≤ (i : Int) by omega), rdBid l i hi]
    refine Ev_bind (name_f l[i].f0) ?_
    by_cases hn : nameB l[i].f0 = true
    · simp only [if_pos hn]
      by_cases c : l[i].f1 < 1
      · simp only [if_pos c]
        exact hj true (by simp [c]) hn
      · simp only [if_neg c]
        refine hj _ ?_ hn
        rw [decide_eq_true_iff]
        exact ⟨Or.inr, fun h => h.resolve_left c⟩
    · simp only [if_neg hn]
      have e : bidErr l[i] = 10 := by unfold bidErr; rw [if_neg hn]
      rw [e, if_neg (by decide)]
      exact Ev.now _
theorem bidCheck_f (l : List Bid) : Ev (fun k => auction_Check.f k l) (bidCheck l) := by
  unfold auction_Check.f bidCheck
  by_cases h : l.length > 1024
  · simp only [if_pos (show (l.length : Int) > 1024 by omega), if_pos h]
    exact Ev.now _
  · simp only [if_neg (show ¬ ((l.length : Int) > 1024) by omega), if_neg h]
    exact bidLoop l (by omega) l.length 0 (by omega)
theorem bidRLoop (l : List Bid) (hl : l.length ≤ 1024) (hs : ∀ b ∈ l, b.f0.size ≤ 4611686018427387904) : ∀ (d i : Nat), i + d = l.length → Ev (fun k => contangoref45_Check.l0 k l i) (bidGo (l.drop i))
  | 0, i, hd => by
    rw [List.drop_of_length_le (by omega)]
    refine Ev_succ ?_
    simp only [contangoref45_Check.l0, if_neg (show ¬ ((i : Int) < (l.length : Int)) by omega)]
    exact Ev.now _
  | d + 1, i, hd => by
    have hi : i < l.length := by omega
    have ih := bidRLoop l hl hs d (i + 1) (by omega)
    rw [← w_succ hi (by omega)] at ih
    rw [drop_cons l i hi, bidGo]
    have hj : ∀ b, (b = true ↔ (l[i].f1 < 1 ∨ l[i].f1 > 1048576)) → nameB l[i].f0 = true → Ev (fun k => contangoref45_Check.j1 k l i b) (if bidErr l[i] = 0 then bidGo (l.drop (i + 1)) else bidErr l[i]) := by
      intro b hb hn
      refine Ev_succ ?_
      unfold bidErr
      rw [if_pos hn]
      by_cases c : b = true
      · subst c
        rw [if_pos (hb.1 rfl)]
        simp only [contangoref45_Check.j1, if_true]
        exact Ev.now _
      · have cf : b = false := by simpa using c
        subst cf
        rw [if_neg (fun h => c (hb.2 h))]
        simp only [contangoref45_Check.j1, Bool.false_eq_true, if_false, if_pos (show 0 ≤ (i : Int) by omega), if_pos (show (i : Int) < (l.length : Int) by omega), rdBid l i hi, priceR_f, Option.bind_some]
        by_cases c1 : priceB l[i].f2 = true
        · simp only [if_pos c1]
          by_cases c2 : l[i].f3 < 0
          · rw [if_pos (Or.inl c2)]
            simp only [if_pos c2]
            exact Ev.now _
          · by_cases c3 : l[i].f3 > 86399
            · rw [if_pos (Or.inr c3)]
              simp only [if_neg c2, if_pos c3]
              exact Ev.now _
            · rw [if_neg (show ¬ (l[i].f3 < 0 ∨ l[i].f3 > 86399) by omega)]
              simp only [if_neg c2, if_neg c3, if_true]
              exact ih
        · simp only [if_neg c1]
          exact Ev.now _
    refine Ev_succ ?_
    simp only [contangoref45_Check.l0, if_pos (show (i : Int) < (l.length : Int) by omega), if_pos (show 0 ≤ (i : Int) by omega), rdBid l i hi]
    refine Ev_bind (nameR_f l[i].f0 (hs _ (List.getElem_mem hi))) ?_
    by_cases hn : nameB l[i].f0 = true
    · simp only [if_pos hn]
      by_cases c : l[i].f1 < 1
      · simp only [if_pos c]
        exact hj true (by simp [c]) hn
      · simp only [if_neg c]
        refine hj _ ?_ hn
        rw [decide_eq_true_iff]
        exact ⟨Or.inr, fun h => h.resolve_left c⟩
    · simp only [if_neg hn]
      have e : bidErr l[i] = 10 := by unfold bidErr; rw [if_neg hn]
      rw [e, if_neg (by decide)]
      exact Ev.now _
theorem bidCheckR_f (l : List Bid) (hs : ∀ b ∈ l, b.f0.size ≤ 4611686018427387904) : Ev (fun k => contangoref45_Check.f k l) (bidCheck l) := by
  unfold contangoref45_Check.f bidCheck
  by_cases h : l.length > 1024
  · simp only [if_pos (show (l.length : Int) > 1024 by omega), if_pos h]
    exact Ev.now _
  · simp only [if_neg (show ¬ ((l.length : Int) > 1024) by omega), if_neg h]
    exact bidRLoop l (by omega) hs l.length 0 (by omega)
theorem bidGo_zero : ∀ (l : List Bid), bidGo l = 0 → ∀ b ∈ l, bidErr b = 0
  | [], _, b, hb => by simp at hb
  | x :: t, h, b, hb => by
    unfold bidGo at h
    by_cases c : bidErr x = 0
    · rw [if_pos c] at h
      rcases List.mem_cons.1 hb with e | e
      · rw [e]; exact c
      · exact bidGo_zero t h b e
    · rw [if_neg c] at h; exact absurd h c
theorem bidErr_zero {b : Bid} (h : bidErr b = 0) : 1 ≤ b.f1 ∧ b.f1 ≤ 1048576 ∧ -68719476736 ≤ b.f2 ∧ b.f2 ≤ 68719476736 := by
  unfold bidErr at h
  by_cases c : nameB b.f0 = true
  · rw [if_pos c] at h
    by_cases c1 : b.f1 < 1 ∨ b.f1 > 1048576
    · rw [if_pos c1] at h; omega
    · rw [if_neg c1] at h
      by_cases c2 : priceB b.f2 = true
      · have := c2
        simp only [priceB, Bool.and_eq_true, decide_eq_true_eq] at this
        omega
      · rw [if_neg c2] at h; omega
  · rw [if_neg c] at h; omega
theorem bidCheck_zero {l : List Bid} (h : bidCheck l = 0) : l.length ≤ 1024 ∧ ∀ b ∈ l, 1 ≤ b.f1 ∧ b.f1 ≤ 1048576 ∧ -68719476736 ≤ b.f2 ∧ b.f2 ≤ 68719476736 := by
  unfold bidCheck at h
  by_cases c : l.length > 1024
  · rw [if_pos c] at h; omega
  · rw [if_neg c] at h; exact ⟨by omega, fun b hb => bidErr_zero (bidGo_zero l h b hb)⟩
end Go.Proofs.Ytokijibpdnepiaa.P
end
section
namespace Go.Proofs.Ytokijibpdnepiaa.P
set_option linter.unusedVariables false
set_option linter.unusedSimpArgs false
open Go.RowKit Go.Proofs.YtokijibpdnepiaaW.PrintWords Go.Proofs.YtokijibpdnepiaaW.PrintMore Go.Proofs.Ytokijibpdnepiaa.X
def lt (a b : Bid) : Bool := if a.f2 = b.f2 then (if a.f3 = b.f3 then Op.bytesLess a.f0.toList b.f0.toList else decide (a.f3 < b.f3)) else decide (a.f2 < b.f2)
theorem lt_iff (a b : Bid) : lt a b = true ↔ a.f2 < b.f2 ∨ a.f2 = b.f2 ∧ (a.f3 < b.f3 ∨ a.f3 = b.f3 ∧ Op.bytesLess a.f0.toList b.f0.toList = true) := by
  unfold lt
  by_cases h : a.f2 = b.f2
  · rw [if_pos h]
    by_cases h2 : a.f3 = b.f3
    · rw [if_pos h2]
      constructor
      · intro e; exact Or.inr ⟨h, Or.inr ⟨h2, e⟩⟩
      · rintro (e | ⟨_, e | ⟨_, e⟩⟩)
        · omega
        · omega
        · exact e
    · rw [if_neg h2, decide_eq_true_iff]
      constructor
      · intro e; exact Or.inr ⟨h, Or.inl e⟩
      · rintro (e | ⟨_, e | ⟨e, _⟩⟩)
        · omega
        · exact e
        · exact absurd e h2
  · rw [if_neg h, decide_eq_true_iff]
    constructor
    · intro e; exact Or.inl e
    · rintro (e | ⟨e, _⟩)
      · exact e
      · exact absurd e h
theorem lt_asymm {a b : Bid} (h : lt a b = true) : lt b a = false := by
  rw [← Bool.not_eq_true]
  intro k
  rw [lt_iff] at h k
  rcases h with h | ⟨h1, h | ⟨h2, h3⟩⟩
  · rcases k with k | ⟨k1, _⟩ <;> omega
  · rcases k with k | ⟨k1, k | ⟨k2, _⟩⟩ <;> omega
  · rcases k with k | ⟨k1, k | ⟨k2, k3⟩⟩
    · omega
    · omega
    · rw [bl_asymm h3] at k3; cases k3
theorem lt_self (a : Bid) : lt a a = false := by
  rw [← Bool.not_eq_true]
  intro h
  have := lt_asymm h
  rw [h] at this
  cases this
theorem lt_le {x y z : Bid} (h : lt x y = true) (k : lt z y = false) : lt x z = true := by
  have k' : ¬ lt z y = true := by rw [k]; decide
  rw [lt_iff] at h k' ⊢
  rcases h with h | ⟨h1, h | ⟨h2, h3⟩⟩
  · have : y.f2 ≤ z.f2 := by
      by_cases c : z.f2 < y.f2
      · exact absurd (Or.inl c) k'
      · omega
    left; omega
  · by_cases c : z.f2 < y.f2
    · exact absurd (Or.inl c) k'
    · by_cases c2 : z.f2 = y.f2
      · by_cases c3 : z.f3 < y.f3
        · exact absurd (Or.inr ⟨c2, Or.inl c3⟩) k'
        · right; exact ⟨by omega, Or.inl (by omega)⟩
      · left; omega
  · by_cases c : z.f2 < y.f2
    · exact absurd (Or.inl c) k'
    · by_cases c2 : z.f2 = y.f2
      · by_cases c3 : z.f3 < y.f3
        · exact absurd (Or.inr ⟨c2, Or.inl c3⟩) k'
        · by_cases c4 : z.f3 = y.f3
          · have c5 : Op.bytesLess z.f0.toList y.f0.toList = false := by
              rw [← Bool.not_eq_true]
              intro e
              exact k' (Or.inr ⟨c2, Or.inr ⟨c4, e⟩⟩)
            right
            refine ⟨by omega, Or.inr ⟨by omega, ?_⟩⟩
            by_cases c6 : Op.bytesLess y.f0.toList z.f0.toList = true
            · exact bl_trans _ _ _ h3 c6
            · rw [← bl_eq (by simpa using c6) c5]; exact h3
          · right; exact ⟨by omega, Or.inl (by omega)⟩
      · left; omega
theorem ordV_lt (a b : Bid) : ordV a b < 0 ↔ lt a b = true := by
  unfold ordV auction_Rank_1.f cmp_Compare_int.f cmp_Compare_string.f cmp_isNaN_int.f cmp_isNaN_string.f lt
  simp only [bne_self_eq_false, Option.bind_some, Bool.false_eq_true, if_false]
  by_cases h : a.f2 = b.f2
  · rw [if_pos h, if_pos h]
    by_cases h2 : a.f3 = b.f3
    · rw [if_pos h2, if_pos h2]
      by_cases h3 : Op.bytesLess a.f0.toList b.f0.toList = true
      · rw [if_pos h3, h3]; simp
      · rw [if_neg h3]
        have : Op.bytesLess a.f0.toList b.f0.toList = false := by simpa using h3
        rw [this]
        split <;> simp
    · rw [if_neg h2, if_neg h2, decide_eq_true_iff]
      by_cases h3 : a.f3 < b.f3
      · rw [if_pos h3]; simp [h3]
      · rw [if_neg h3]
        split <;> simp <;> omega
  · rw [if_neg h, if_neg h, decide_eq_true_iff]
    by_cases h3 : a.f2 < b.f2
    · rw [if_pos h3]; simp [h3]
    · rw [if_neg h3]
      split <;> simp <;> omega
theorem better_f (a b : Bid) : contangoref45_better.f a.f0 a.f1 a.f2 a.f3 b.f0 b.f1 b.f2 b.f3 = some (lt a b) := by
  unfold contangoref45_better.f lt
  split
  · split <;> rfl
  · rfl
abbrev gb (l : List Bid) (i : Nat) : Bid := l.getD i z33
theorem gb_eq (l : List Bid) (i : Nat) (h : i < l.length) : gb l i = l[i] := by simp [gb, List.getD, h]
theorem rd_gb (l : List Bid) (i : Nat) : rd_T33 l (i : Int) = gb l i := by simp [rd_T33, gb]
def Sorted (l : List Bid) : Prop := l.Pairwise fun a b => lt b a = false
theorem sorted_at {l : List Bid} (h : Sorted l) {i j : Nat} (hij : i < j) (hj : j < l.length) : lt (gb l j) (gb l i) = false := by
  rw [gb_eq l j hj, gb_eq l i (by omega)]
  exact (List.pairwise_iff_getElem.1 h) i j (by omega) hj hij
theorem insAt_facts (s : List Bid) (x : Bid) (hs : Sorted s) : ∀ n, n ≤ s.length → (∀ j, insAt s x n ≤ j → j < n → lt x (gb s j) = true) ∧ (∀ j, j < insAt s x n → lt x (gb s j) = false)
  | 0, _ => ⟨fun j _ h => by omega, fun j h => by simp [insAt] at h⟩
  | n + 1, hn => by
    obtain ⟨h1, h2⟩ := insAt_facts s x hs n (by omega)
    have e : insAt s x (n + 1) = if ordV x (rd_T33 s (n : Int)) < 0 then insAt s x n else n + 1 := rfl
    rw [e, rd_gb]
    by_cases c : ordV x (gb s n) < 0
    · rw [if_pos c]
      refine ⟨fun j hj hjn => ?_, h2⟩
      by_cases ej : j = n
      · rw [ej]; exact (ordV_lt _ _).1 c
      · exact h1 j hj (by omega)
    · rw [if_neg c]
      refine ⟨fun j hj hjn => by omega, fun j hj => ?_⟩
      have hxn : lt x (gb s n) = false := by rw [← Bool.not_eq_true]; exact fun h => c ((ordV_lt _ _).2 h)
      by_cases ej : j = n
      · rw [ej]; exact hxn
      · rw [← Bool.not_eq_true]
        intro hx
        have := lt_le hx (sorted_at hs (show j < n by omega) (by omega))
        rw [this] at hxn
        cases hxn
theorem insB_sorted {s : List Bid} (hs : Sorted s) (x : Bid) : Sorted (insB s x) := by
  obtain ⟨h1, h2⟩ := insAt_facts s x hs s.length (Nat.le_refl _)
  have hq := insAt_le s x s.length
  unfold insB
  generalize insAt s x s.length = q at h1 h2 hq
  have hp := hs
  unfold Sorted at hp ⊢
  rw [← List.take_append_drop q s, List.pairwise_append] at hp
  obtain ⟨p1, p2, p3⟩ := hp
  rw [List.append_assoc, List.pairwise_append]
  refine ⟨p1, List.pairwise_cons.2 ⟨fun y hy => ?_, p2⟩, fun a ha b hb => ?_⟩
  · have hy : y ∈ s.drop q := hy
    obtain ⟨i, hi, rfl⟩ := List.getElem_of_mem hy
    rw [List.length_drop] at hi
    rw [List.getElem_drop, ← gb_eq s (q + i) (by omega)]
    exact lt_asymm (h1 (q + i) (by omega) (by omega))
  · rcases List.mem_cons.1 hb with e | e
    · rw [e]
      obtain ⟨i, hi, rfl⟩ := List.getElem_of_mem ha
      rw [List.length_take] at hi
      rw [List.getElem_take, ← gb_eq s i (by omega)]
      exact h2 i (by omega)
    · exact p3 a ha b e
theorem insB_perm (s : List Bid) (x : Bid) : (insB s x).Perm (x :: s) := by
  unfold insB
  rw [List.append_assoc]
  have h : (s.take (insAt s x s.length) ++ ([x] ++ s.drop (insAt s x s.length))).Perm ([x] ++ (s.take (insAt s x s.length) ++ s.drop (insAt s x s.length))) := by
    rw [← List.append_assoc, ← List.append_assoc]
    exact List.perm_append_comm.append_right _
  rw [List.take_append_drop] at h
  exact h
theorem insB_get (s : List Bid) (x : Bid) (j : Nat) : gb (insB s x) j = if j < insAt s x s.length then gb s j else if j = insAt s x s.length then x else gb s (j - 1) := by
  have hq := insAt_le s x s.length
  unfold insB
  generalize insAt s x s.length = q at hq
  have ht : (s.take q).length = q := by rw [List.length_take]; omega
  unfold gb
  rw [List.append_assoc]
  by_cases c : j < q
  · rw [if_pos c]
    simp only [List.getD, List.getElem?_append_left (show j < (s.take q).length by omega), List.getElem?_take, if_pos c]
  · rw [if_neg c]
    simp only [List.getD, List.getElem?_append_right (show (s.take q).length ≤ j by omega), ht]
    by_cases c2 : j = q
    · rw [if_pos c2, c2, Nat.sub_self]; rfl
    · rw [if_neg c2]
      obtain ⟨m, hm⟩ : ∃ m, j - q = m + 1 := ⟨j - q - 1, by omega⟩
      rw [hm]
      simp only [List.getD, List.singleton_append, List.getElem?_cons_succ, List.getElem?_drop]
      rw [show q + m = j - 1 by omega]
def rankP (l : List Bid) : List Bid := l.foldl insB []
theorem rank_snoc (l : List Bid) (x : Bid) : rankP (l ++ [x]) = insB (rankP l) x := by unfold rankP; rw [List.foldl_append]; rfl
theorem rank_len (l : List Bid) : (rankP l).length = l.length := by
  unfold rankP; rw [fold_len]; simp
theorem rank_facts : ∀ (l : List Bid), Sorted (rankP l) ∧ (rankP l).Perm l := by
  intro l
  generalize hn : l.length = n
  induction n generalizing l with
  | zero =>
    have : l = [] := List.eq_nil_of_length_eq_zero hn
    subst this
    exact ⟨List.Pairwise.nil, List.Perm.refl _⟩
  | succ n ih =>
    have hne : l ≠ [] := by intro e; subst e; simp at hn
    rw [← List.dropLast_concat_getLast hne]
    obtain ⟨h1, h2⟩ := ih l.dropLast (by simp [hn])
    rw [rank_snoc]
    exact ⟨insB_sorted h1 _, (insB_perm _ _).trans ((h2.cons _).trans (List.perm_append_comm (l₁ := [l.getLast hne]) (l₂ := l.dropLast)))⟩
def ahead (l : List Bid) (i k : Nat) : Bool := lt (gb l k) (gb l i) || (!(lt (gb l i) (gb l k)) && decide (k < i))
def cnt (l : List Bid) (m i : Nat) : Nat := (List.range m).countP (ahead l i)
theorem cnt_succ (l : List Bid) (m i : Nat) : cnt l (m + 1) i = cnt l m i + if ahead l i m = true then 1 else 0 := by
  unfold cnt
  rw [List.range_succ, List.countP_append, List.countP_cons, List.countP_nil, Nat.zero_add]
theorem countP_range (p : Bid → Bool) (l : List Bid) : ∀ m, m ≤ l.length → (List.range m).countP (fun k => p (gb l k)) = (l.take m).countP p
  | 0, _ => rfl
  | m + 1, h => by
    rw [List.range_succ, List.countP_append, countP_range p l m (by omega), List.take_succ_eq_append_getElem (by omega), List.countP_append, gb_eq' l m (by omega)]
where
  gb_eq' (l : List Bid) (m : Nat) (h : m < l.length) : ∀ {p : Bid → Bool}, List.countP (fun k => p (gb l k)) [m] = List.countP p [l[m]] := by
    intro p
    simp only [List.countP_cons, List.countP_nil, gb_eq l m h]
theorem countP_front (p : Bid → Bool) (s : List Bid) (q : Nat) (hq : q ≤ s.length) (h1 : ∀ j, j < q → p (gb s j) = true) (h2 : ∀ j, q ≤ j → j < s.length → p (gb s j) = false) : s.countP p = q := by
  rw [← List.take_append_drop q s, List.countP_append]
  have e1 : (s.take q).countP p = q := by
    have : (s.take q).countP p = (s.take q).length := List.countP_eq_length.2 fun x hx => by
      obtain ⟨i, hi, rfl⟩ := List.getElem_of_mem hx
      rw [List.length_take] at hi
      rw [List.getElem_take, ← gb_eq s i (by omega)]
      exact h1 i (by omega)
    rw [this, List.length_take]; omega
  have e2 : (s.drop q).countP p = 0 := List.countP_eq_zero.2 fun x hx => by
    obtain ⟨i, hi, rfl⟩ := List.getElem_of_mem hx
    rw [List.length_drop] at hi
    rw [List.getElem_drop, ← gb_eq s (q + i) (by omega), h2 (q + i) (by omega) (by omega)]
    decide
  omega
theorem placed (l : List Bid) : ∀ m, m ≤ l.length → (∀ i, i < m → cnt l m i < m ∧ gb (rankP (l.take m)) (cnt l m i) = gb l i) ∧ (∀ j, j < m → ∃ i, i < m ∧ cnt l m i = j)
  | 0, _ => ⟨fun i h => by omega, fun j h => by omega⟩
  | m + 1, hm => by
    obtain ⟨p1, p2⟩ := placed l m (by omega)
    obtain ⟨hs, hp⟩ := rank_facts (l.take m)
    have hlen : (rankP (l.take m)).length = m := by rw [rank_len, List.length_take]; omega
    have hx : l[m]'(by omega) = gb l m := (gb_eq l m (by omega)).symm
    rw [List.take_succ_eq_append_getElem (by omega), rank_snoc, hx]
    obtain ⟨f1, f2⟩ := insAt_facts (rankP (l.take m)) (gb l m) hs _ (Nat.le_refl _)
    have hq := insAt_le (rankP (l.take m)) (gb l m) (rankP (l.take m)).length
    have hget := insB_get (rankP (l.take m)) (gb l m)
    have hcntm : cnt l (m + 1) m = insAt (rankP (l.take m)) (gb l m) (rankP (l.take m)).length := by
      have e0 : cnt l (m + 1) m = (List.range m).countP (fun k => !(lt (gb l m) (gb l k))) := by
        rw [cnt_succ]
        have : ahead l m m = false := by unfold ahead; rw [lt_self]; simp
        rw [this]
        simp only [Bool.false_eq_true, if_false, Nat.add_zero]
        unfold cnt
        refine List.countP_congr fun k hk => ?_
        have hk' : k < m := List.mem_range.1 hk
        unfold ahead
        rw [decide_eq_true hk', Bool.and_true]
        cases h : lt (gb l k) (gb l m) with
        | true => rw [lt_asymm h]; simp
        | false => simp
      rw [e0, countP_range (fun b => !(lt (gb l m) b)) l m (by omega), ← hp.countP_eq]
      refine countP_front _ _ _ hq (fun j hj => ?_) (fun j hj hj2 => ?_)
      · rw [f2 j hj]; rfl
      · rw [f1 j hj hj2]; rfl
    generalize insAt (rankP (l.take m)) (gb l m) (rankP (l.take m)).length = q at f1 f2 hq hget hcntm
    rw [hlen] at hq f1
    have hold : ∀ i, i < m → cnt l (m + 1) i = if cnt l m i < q then cnt l m i else cnt l m i + 1 := fun i hi => by
      obtain ⟨c1, c2⟩ := p1 i hi
      rw [cnt_succ]
      have ha : ahead l i m = lt (gb l m) (gb l i) := by
        unfold ahead
        rw [decide_eq_false (show ¬ m < i by omega), Bool.and_false, Bool.or_false]
      rw [ha, ← c2]
      by_cases c : cnt l m i < q
      · rw [if_pos c, f2 _ c]; simp
      · rw [if_neg c, f1 _ (by omega) c1, if_pos rfl]
    refine ⟨fun i hi => ?_, fun j hj => ?_⟩
    · by_cases ei : i = m
      · subst ei
        rw [hcntm, hget, if_neg (Nat.lt_irrefl _), if_pos rfl]
        exact ⟨by omega, rfl⟩
      · obtain ⟨c1, c2⟩ := p1 i (by omega)
        rw [hold i (by omega), hget]
        by_cases c : cnt l m i < q
        · rw [if_pos c, if_pos c]; exact ⟨by omega, c2⟩
        · rw [if_neg c, if_neg (by omega), if_neg (by omega), Nat.add_sub_cancel]; exact ⟨by omega, c2⟩
    · by_cases c : j < q
      · obtain ⟨i, hi, e⟩ := p2 j (by omega)
        exact ⟨i, by omega, by rw [hold i hi, e, if_pos c]⟩
      · by_cases c2 : j = q
        · exact ⟨m, by omega, by rw [hcntm, c2]⟩
        · obtain ⟨i, hi, e⟩ := p2 (j - 1) (by omega)
          exact ⟨i, by omega, by rw [hold i hi, e, if_neg (by omega)]; omega⟩
theorem refRankL1 (l : List Bid) (hl : l.length ≤ 1024) (out : List Bid) (i : Nat) (hi : i < l.length) (r : List Bid × Int) : ∀ (d k n : Nat), k + d = l.length → n = cnt l k i →
    Ev (fun f => if 0 ≤ ((cnt l l.length i : Nat) : Int) then (if ((cnt l l.length i : Nat) : Int) < (out.length : Int) then contangoref45_Rank.l0 f l (out.set (cnt l l.length i) (gb l i)) ((i + 1 : Nat) : Int) else none) else none) r →
    Ev (fun f => contangoref45_Rank.l1 f l out i n k) r
  | 0, k, n, hd, hn, h => by
    have hk : k = l.length := by omega
    subst hk
    subst hn
    refine Ev_succ ?_
    simp only [contangoref45_Rank.l1, if_neg (show ¬ ((l.length : Int) < (l.length : Int)) by omega), if_pos (show 0 ≤ (i : Int) by omega), if_pos (show (i : Int) < (l.length : Int) by omega), rd_gb, w_succ hi (show l.length ≤ 9223372036854775807 by omega), Int.toNat_natCast]
    exact h
  | d + 1, k, n, hd, hn, h => by
    have hk : k < l.length := by omega
    have hcl : cnt l k i ≤ k := by unfold cnt; have := List.countP_le_length (p := ahead l i) (l := List.range k); rw [List.length_range] at this; exact this
    have ih := refRankL1 l hl out i hi r d (k + 1) (cnt l (k + 1) i) (by omega) rfl h
    have e1 : wrap64 ((cnt l k i : Nat) + 1 : Int) = ((cnt l k i + 1 : Nat) : Int) := by rw [w_id (by omega) (by omega)]; omega
    rw [cnt_succ] at ih
    subst hn
    refine Ev_succ ?_
    simp only [contangoref45_Rank.l1, if_pos (show (k : Int) < (l.length : Int) by omega), if_pos (show 0 ≤ (k : Int) by omega), if_pos (show 0 ≤ (i : Int) by omega), if_pos (show (i : Int) < (l.length : Int) by omega), rd_gb, better_f, Option.bind_some, w_succ hk (show l.length ≤ 9223372036854775807 by omega), e1]
    unfold ahead at ih
    by_cases c : lt (gb l k) (gb l i) = true
    · simp only [if_pos c]
      rw [c, Bool.true_or, if_pos rfl] at ih
      exact ih
    · have cf : lt (gb l k) (gb l i) = false := by simpa using c
      simp only [if_neg c]
      rw [cf, Bool.false_or] at ih
      by_cases c2 : lt (gb l i) (gb l k) = true
      · simp only [if_pos c2]
        rw [c2] at ih
        simp only [Bool.not_true, Bool.false_and, Bool.false_eq_true, if_false, Nat.add_zero] at ih
        exact ih
      · have c2f : lt (gb l i) (gb l k) = false := by simpa using c2
        simp only [if_neg c2]
        rw [c2f] at ih
        simp only [Bool.not_false, Bool.true_and, decide_eq_true_eq] at ih
        by_cases c3 : k < i
        · simp only [if_pos (show (k : Int) < (i : Int) by omega)]
          rw [if_pos c3] at ih
          exact ih
        · simp only [if_neg (show ¬ (k : Int) < (i : Int) by omega)]
          rw [if_neg c3, Nat.add_zero] at ih
          exact ih
theorem gb_set (out : List Bid) (p j : Nat) (x : Bid) (hp : p < out.length) : gb (out.set p x) j = if j = p then x else gb out j := by
  unfold gb
  by_cases c : j = p
  · subst c; rw [if_pos rfl]; simp [List.getD, hp]
  · rw [if_neg c]; simp [List.getD, List.getElem?_set_ne (Ne.symm c)]
theorem gb_ext {a b : List Bid} (hl : a.length = b.length) (h : ∀ j, j < a.length → gb a j = gb b j) : a = b :=
  List.ext_getElem hl fun i h1 h2 => by have := h i h1; rwa [gb_eq a i h1, gb_eq b i h2] at this
theorem refRankL0 (l : List Bid) (hl : l.length ≤ 1024) : ∀ (d i : Nat) (out : List Bid), i + d = l.length → out.length = l.length → (∀ k, k < i → gb out (cnt l l.length k) = gb (rankP l) (cnt l l.length k)) →
    Ev (fun f => contangoref45_Rank.l0 f l out i) (rankP l, 0)
  | 0, i, out, hd, ho, h => by
    have e : out = rankP l := gb_ext (by rw [rank_len, ho]) fun j hj => by
      obtain ⟨k, hk, e⟩ := (placed l l.length (Nat.le_refl _)).2 j (by omega)
      rw [← e]
      exact h k (by omega)
    subst e
    refine Ev_succ ?_
    simp only [contangoref45_Rank.l0, if_neg (show ¬ ((i : Int) < (l.length : Int)) by omega)]
    exact Ev.now _
  | d + 1, i, out, hd, ho, h => by
    have hi : i < l.length := by omega
    have hp := (placed l l.length (Nat.le_refl _)).1 i hi
    rw [List.take_length] at hp
    refine Ev_succ ?_
    simp only [contangoref45_Rank.l0, if_pos (show (i : Int) < (l.length : Int) by omega)]
    refine refRankL1 l hl out i hi _ l.length 0 0 (by omega) rfl ?_
    simp only [if_pos (show 0 ≤ ((cnt l l.length i : Nat) : Int) by omega), if_pos (show ((cnt l l.length i : Nat) : Int) < (out.length : Int) by omega)]
    refine refRankL0 l hl d (i + 1) _ (by omega) (by simp [ho]) fun k hk => ?_
    rw [gb_set _ _ _ _ (by omega)]
    by_cases c : cnt l l.length k = cnt l l.length i
    · rw [if_pos c, c, hp.2]
    · rw [if_neg c]
      refine h k ?_
      by_cases e : k = i
      · subst e; exact absurd rfl c
      · omega
def rank (l : List Bid) : List Bid × Int := if bidCheck l = 0 then (rankP l, 0) else ([], bidCheck l)
theorem rank_f (l : List Bid) : Ev (fun k => auction_Rank.f k l) (rank l) := by
  unfold auction_Rank.f rank
  refine Ev_bind (bidCheck_f l) ?_
  by_cases h : bidCheck l = 0
  · have := (bidCheck_zero h).1
    simp only [if_pos h, if_pos (show l.length < 137438953471 by omega)]
    exact Ev.now _
  · simp only [if_neg h]
    exact Ev.now _
theorem rankR_f (l : List Bid) (hs : ∀ b ∈ l, b.f0.size ≤ 4611686018427387904) : Ev (fun k => contangoref45_Rank.f k l) (rank l) := by
  unfold contangoref45_Rank.f rank
  refine Ev_bind (bidCheckR_f l hs) ?_
  by_cases h : bidCheck l = 0
  · have hl := (bidCheck_zero h).1
    simp only [if_pos h, if_pos (show 0 ≤ (l.length : Int) by omega), Int.toNat_natCast, if_pos (show l.length ≤ 7036874417766 by omega)]
    exact refRankL0 l hl l.length 0 _ (by omega) (by simp) (fun k hk => by omega)
  · simp only [if_neg h]
    exact Ev.now _
end Go.Proofs.Ytokijibpdnepiaa.P
end
section
namespace Go.Proofs.Ytokijibpdnepiaa.P
set_option linter.unusedVariables false
set_option linter.unusedSimpArgs false
open Go.RowKit Go.Proofs.YtokijibpdnepiaaW.PrintWords Go.Proofs.YtokijibpdnepiaaW.PrintMore Go.Proofs.Ytokijibpdnepiaa.X
abbrev Aw := S52
theorem rdAw (l : List Aw) (i : Nat) (h : i < l.length) : rd_T52 l (i : Int) = l[i] := by simp [rd_T52, h]
def awardGo (cap : Int) : Int → List Bid → List Aw × Int
  | left, [] => ([], left)
  | left, b :: t => if left = 0 ∨ b.f2 > cap then ([], left) else (⟨b.f0, mn left b.f1, b.f2⟩ :: (awardGo cap (left - mn left b.f1) t).1, (awardGo cap (left - mn left b.f1) t).2)
theorem mn_rng {a b : Int} (ha : 0 ≤ a) (hb : 1 ≤ b) : mn a b ≤ a ∧ mn a b ≤ b ∧ 0 ≤ mn a b ∧ (a ≠ 0 → 1 ≤ mn a b) ∧ (mn a b < b → mn a b = a) := by
  unfold mn; split <;> omega
theorem awardLoop (cap : Int) (l : List Bid) (hl : l.length ≤ 1024) (hq : ∀ b ∈ l, 1 ≤ b.f1) : ∀ (d i : Nat) (acc : List Aw) (left : Int), i + d = l.length → acc.length ≤ i → 0 ≤ left → left ≤ 1048576 →
    Ev (fun k => auction_Award.l0 k cap acc left l l.length i) (acc ++ (awardGo cap left (l.drop i)).1, (awardGo cap left (l.drop i)).2, 0)
  | 0, i, acc, left, hd, ha, h1, h2 => by
    rw [List.drop_of_length_le (by omega)]
    refine Ev_succ ?_
    simp only [auction_Award.l0, if_neg (show ¬ ((i : Int) < (l.length : Int)) by omega), awardGo, List.append_nil]
    exact Ev.now _
  | d + 1, i, acc, left, hd, ha, h1, h2 => by
    have hi : i < l.length := by omega
    have hm := mn_rng h1 (hq _ (List.getElem_mem hi))
    rw [drop_cons l i hi, awardGo]
    refine Ev_succ ?_
    simp only [auction_Award.l0, if_pos (show (i : Int) < (l.length : Int) by omega), if_pos (show 0 ≤ (i : Int) by omega), rdBid l i hi]
    by_cases c : left = 0
    · rw [if_pos (Or.inl c)]
      simp only [if_pos c, List.append_nil]
      exact Ev.now _
    · by_cases c2 : l[i].f2 > cap
      · rw [if_pos (Or.inr c2)]
        simp only [if_neg c, if_pos c2, List.append_nil]
        exact Ev.now _
      · have e1 : wrap64 (left - mn left l[i].f1) = left - mn left l[i].f1 := w_id (by omega) (by omega)
        rw [if_neg (show ¬ (left = 0 ∨ l[i].f2 > cap) from fun h => h.elim c c2)]
        simp only [if_neg c, if_neg c2, if_pos (show acc.length < 4398046511104 by omega), e1, w_succ hi (by omega)]
        have ih := awardLoop cap l hl hq d (i + 1) (acc ++ [⟨l[i].f0, mn left l[i].f1, l[i].f2⟩]) (left - mn left l[i].f1) (by omega) (by simp; omega) (by omega) (by omega)
        rw [List.append_assoc] at ih
        exact ih
theorem awardRSkip (cap : Int) (l : List Bid) (hl : l.length ≤ 1024) (hq : ∀ b ∈ l, 1 ≤ b.f1) (left : Int) (acc : List Aw) : ∀ (d i : Nat), i + d = l.length → (left = 0 ∨ ∀ j (h : j < l.length), i ≤ j → l[j].f2 > cap) → Ev (fun k => contangoref45_Award.l0 k cap l acc left i) (acc, left, 0)
  | 0, i, hd, h => by
    refine Ev_succ ?_
    simp only [contangoref45_Award.l0, if_neg (show ¬ ((i : Int) < (l.length : Int)) by omega)]
    exact Ev.now _
  | d + 1, i, hd, h => by
    have hi : i < l.length := by omega
    have ih := awardRSkip cap l hl hq left acc d (i + 1) (by omega) (h.imp id fun h j hj hij => h j hj (by omega))
    refine Ev_succ ?_
    simp only [contangoref45_Award.l0, if_pos (show (i : Int) < (l.length : Int) by omega), if_pos (show 0 ≤ (i : Int) by omega), rdBid l i hi, w_succ hi (show l.length ≤ 9223372036854775807 by omega)]
    by_cases c : mn left l[i].f1 > 0
    · have hb : l[i].f2 > cap := by
        rcases h with h | h
        · have := hq _ (List.getElem_mem hi)
          rw [h] at c; unfold mn at c; split at c <;> omega
        · exact h i hi (Nat.le_refl _)
      simp only [if_pos c, if_neg (show ¬ l[i].f2 ≤ cap by omega)]
      exact ih
    · simp only [if_neg c]
      exact ih
theorem awardRLoop (cap : Int) (l : List Bid) (hl : l.length ≤ 1024) (hq : ∀ b ∈ l, 1 ≤ b.f1) (hs : ∀ i j (h : j < l.length) (hij : i < j), (l[i]'(by omega)).f2 ≤ l[j].f2) : ∀ (d i : Nat) (acc : List Aw) (left : Int), i + d = l.length → acc.length ≤ i → 0 ≤ left → left ≤ 1048576 →
    Ev (fun k => contangoref45_Award.l0 k cap l acc left i) (acc ++ (awardGo cap left (l.drop i)).1, (awardGo cap left (l.drop i)).2, 0)
  | 0, i, acc, left, hd, ha, h1, h2 => by
    rw [List.drop_of_length_le (by omega)]
    refine Ev_succ ?_
    simp only [contangoref45_Award.l0, if_neg (show ¬ ((i : Int) < (l.length : Int)) by omega), awardGo, List.append_nil]
    exact Ev.now _
  | d + 1, i, acc, left, hd, ha, h1, h2 => by
    have hi : i < l.length := by omega
    have hm := mn_rng h1 (hq _ (List.getElem_mem hi))
    have hskip : (left = 0 ∨ l[i].f2 > cap) → Ev (fun k => contangoref45_Award.l0 k cap l acc left i) (acc, left, 0) := fun h =>
      awardRSkip cap l hl hq left acc (d + 1) i hd (h.imp id fun h j hj hij => by
        by_cases e : i = j
        · subst e; exact h
        · have := hs i j hj (by omega); omega)
    rw [drop_cons l i hi, awardGo]
    by_cases c : left = 0 ∨ l[i].f2 > cap
    · rw [if_pos c, List.append_nil]
      exact hskip c
    · have c1 : left ≠ 0 := fun e => c (Or.inl e)
      have c2 : ¬ l[i].f2 > cap := fun e => c (Or.inr e)
      have e1 : wrap64 (left - mn left l[i].f1) = left - mn left l[i].f1 := w_id (by omega) (by omega)
      have hm4 := hm.2.2.2.1 c1
      rw [if_neg c]
      refine Ev_succ ?_
      simp only [contangoref45_Award.l0, if_pos (show (i : Int) < (l.length : Int) by omega), if_pos (show 0 ≤ (i : Int) by omega), rdBid l i hi, if_pos (show mn left l[i].f1 > 0 by omega), if_pos (show l[i].f2 ≤ cap by omega), if_pos (show acc.length < 4398046511104 by omega), e1, w_succ hi (show l.length ≤ 9223372036854775807 by omega)]
      have ih := awardRLoop cap l hl hq hs d (i + 1) (acc ++ [⟨l[i].f0, mn left l[i].f1, l[i].f2⟩]) (left - mn left l[i].f1) (by omega) (by simp; omega) (by omega) (by omega)
      rw [List.append_assoc] at ih
      exact ih
def award (qty : Int) (l : List Bid) (cap : Int) : List Aw × Int × Int :=
  if bidCheck l = 0 then (if qty < 0 ∨ qty > 1048576 then ([], 0, 18) else if priceB cap = true then ((awardGo cap qty (rankP l)).1, (awardGo cap qty (rankP l)).2, 0) else ([], 0, 28)) else ([], 0, bidCheck l)
theorem rank_good {l : List Bid} (h : bidCheck l = 0) : (rankP l).length = l.length ∧ l.length ≤ 1024 ∧ (∀ b ∈ rankP l, 1 ≤ b.f1 ∧ b.f1 ≤ 1048576 ∧ -68719476736 ≤ b.f2 ∧ b.f2 ≤ 68719476736) ∧ ∀ i j (h : j < (rankP l).length) (hij : i < j), ((rankP l)[i]'(by omega)).f2 ≤ (rankP l)[j].f2 := by
  obtain ⟨h1, h2⟩ := bidCheck_zero h
  obtain ⟨s1, s2⟩ := rank_facts l
  refine ⟨rank_len l, h1, fun b hb => h2 b (s2.mem_iff.1 hb), fun i j hj hij => ?_⟩
  have := (List.pairwise_iff_getElem.1 s1) i j (by omega) hj hij
  by_cases c : (rankP l)[j].f2 < ((rankP l)[i]'(by omega)).f2
  · rw [(lt_iff _ _).2 (Or.inl c)] at this; cases this
  · omega
theorem award_f (qty : Int) (l : List Bid) (cap : Int) : Ev (fun k => auction_Award.f k qty l cap) (award qty l cap) := by
  unfold auction_Award.f award
  refine Ev_bind (rank_f l) ?_
  unfold rank
  by_cases h : bidCheck l = 0
  · obtain ⟨g1, g2, g3, g4⟩ := rank_good h
    simp only [if_pos h, if_true]
    have hj : ∀ b, (b = true ↔ (qty < 0 ∨ qty > 1048576)) → Ev (fun k => auction_Award.j0 k qty cap [] (rankP l) b) (if qty < 0 ∨ qty > 1048576 then ([], 0, 18) else if priceB cap = true then ((awardGo cap qty (rankP l)).1, (awardGo cap qty (rankP l)).2, 0) else ([], 0, 28)) := by
      intro b hb
      refine Ev_succ ?_
      by_cases c : b = true
      · subst c
        rw [if_pos (hb.1 rfl)]
        simp only [auction_Award.j0, if_true]
        exact Ev.now _
      · have cf : b = false := by simpa using c
        subst cf
        have hn : ¬ (qty < 0 ∨ qty > 1048576) := fun h => c (hb.2 h)
        rw [if_neg hn]
        simp only [auction_Award.j0, Bool.false_eq_true, if_false, price_f, Option.bind_some]
        by_cases c1 : priceB cap = true
        · simp only [if_pos c1]
          have := awardLoop cap (rankP l) (by omega) (fun b hb => (g3 b hb).1) (rankP l).length 0 [] qty (by omega) (by simp) (by omega) (by omega)
          simpa using this
        · simp only [if_neg c1]
          exact Ev.now _
    by_cases c : qty < 0
    · simp only [if_pos c]
      have := hj true (by simp [c])
      exact this
    · simp only [if_neg c]
      refine hj _ ?_
      rw [decide_eq_true_iff]
      exact ⟨Or.inr, fun h => h.resolve_left c⟩
  · simp only [if_neg h]
    exact Ev.now _
theorem awardR_f (qty : Int) (l : List Bid) (cap : Int) (hz : ∀ b ∈ l, b.f0.size ≤ 4611686018427387904) : Ev (fun k => contangoref45_Award.f k qty l cap) (award qty l cap) := by
  unfold contangoref45_Award.f award
  refine Ev_bind (rankR_f l hz) ?_
  unfold rank
  by_cases h : bidCheck l = 0
  · obtain ⟨g1, g2, g3, g4⟩ := rank_good h
    simp only [if_pos h, if_true]
    have hj : ∀ b, (b = true ↔ (qty < 0 ∨ qty > 1048576)) → Ev (fun k => contangoref45_Award.j0 k qty cap (rankP l) b) (if qty < 0 ∨ qty > 1048576 then ([], 0, 18) else if priceB cap = true then ((awardGo cap qty (rankP l)).1, (awardGo cap qty (rankP l)).2, 0) else ([], 0, 28)) := by
      intro b hb
      refine Ev_succ ?_
      by_cases c : b = true
      · subst c
        rw [if_pos (hb.1 rfl)]
        simp only [contangoref45_Award.j0, if_true]
        exact Ev.now _
      · have cf : b = false := by simpa using c
        subst cf
        have hn : ¬ (qty < 0 ∨ qty > 1048576) := fun h => c (hb.2 h)
        rw [if_neg hn]
        simp only [contangoref45_Award.j0, Bool.false_eq_true, if_false, priceR_f, Option.bind_some]
        by_cases c1 : priceB cap = true
        · simp only [if_pos c1]
          have := awardRLoop cap (rankP l) (by omega) (fun b hb => (g3 b hb).1) g4 (rankP l).length 0 [] qty (by omega) (by simp) (by omega) (by omega)
          simpa using this
        · simp only [if_neg c1]
          exact Ev.now _
    by_cases c : qty < 0
    · simp only [if_pos c]
      have := hj true (by simp [c])
      exact this
    · simp only [if_neg c]
      refine hj _ ?_
      rw [decide_eq_true_iff]
      exact ⟨Or.inr, fun h => h.resolve_left c⟩
  · simp only [if_neg h]
    exact Ev.now _
theorem awardGo_facts (cap : Int) : ∀ (l : List Bid) (left : Int), 0 ≤ left → (∀ b ∈ l, 1 ≤ b.f1) → (awardGo cap left l).1.length ≤ l.length ∧ ∀ i (h : i < (awardGo cap left l).1.length) (h2 : i < l.length), (awardGo cap left l).1[i].f0 = l[i].f0 ∧ (awardGo cap left l).1[i].f2 = l[i].f2 ∧ l[i].f2 ≤ cap ∧ 1 ≤ (awardGo cap left l).1[i].f1 ∧ (awardGo cap left l).1[i].f1 ≤ l[i].f1 ∧ (i + 1 < (awardGo cap left l).1.length → (awardGo cap left l).1[i].f1 = l[i].f1)
  | [], left, h0, _ => by simp [awardGo]
  | b :: t, left, h0, hq => by
    by_cases c : left = 0 ∨ b.f2 > cap
    · have e : awardGo cap left (b :: t) = ([], left) := by rw [awardGo, if_pos c]
      rw [e]; simp
    · have e : awardGo cap left (b :: t) = (⟨b.f0, mn left b.f1, b.f2⟩ :: (awardGo cap (left - mn left b.f1) t).1, (awardGo cap (left - mn left b.f1) t).2) := by rw [awardGo, if_neg c]
      rw [e]
      dsimp only
      have hm := mn_rng h0 (hq b (by simp))
      obtain ⟨a1, a2⟩ := awardGo_facts cap t (left - mn left b.f1) (by omega) fun x hx => hq x (by simp [hx])
      refine ⟨by simp only [List.length_cons]; omega, fun i h h2 => ?_⟩
      cases i with
      | zero =>
        have c1 : left ≠ 0 := fun e => c (Or.inl e)
        have c2 : ¬ b.f2 > cap := fun e => c (Or.inr e)
        refine ⟨rfl, rfl, by simp only [List.getElem_cons_zero]; omega, ?_, ?_, fun h3 => ?_⟩
        · exact hm.2.2.2.1 c1
        · exact hm.2.1
        · simp only [List.getElem_cons_zero]
          by_cases e : mn left b.f1 < b.f1
          · have e2 := hm.2.2.2.2 e
            simp only [List.length_cons] at h3
            rw [e2, Int.sub_self] at h3
            have : (awardGo cap 0 t).1 = [] := by cases t <;> simp [awardGo]
            rw [this] at h3
            simp at h3
          · omega
      | succ j =>
        have h' : j < (awardGo cap (left - mn left b.f1) t).1.length := by simpa using h
        have h2' : j < t.length := by simpa using h2
        have := a2 j h' h2'
        simp only [List.getElem_cons_succ, List.length_cons]
        refine ⟨this.1, this.2.1, this.2.2.1, this.2.2.2.1, this.2.2.2.2.1, fun h3 => this.2.2.2.2.2 (by omega)⟩
theorem award_len (qty : Int) (l : List Bid) (cap : Int) : (award qty l cap).1.length ≤ 1024 ∧ ((award qty l cap).2.2 ≠ 0 → (award qty l cap).1 = [] ∧ (award qty l cap).2.1 = 0) := by
  unfold award
  by_cases h : bidCheck l = 0
  · rw [if_pos h]
    obtain ⟨g1, g2, g3, g4⟩ := rank_good h
    by_cases c : qty < 0 ∨ qty > 1048576
    · rw [if_pos c]; simp
    · rw [if_neg c]
      by_cases c1 : priceB cap = true
      · rw [if_pos c1]
        have := (awardGo_facts cap (rankP l) qty (by omega) fun b hb => (g3 b hb).1).1
        exact ⟨by show (awardGo cap qty (rankP l)).1.length ≤ 1024; omega, fun h => absurd rfl h⟩
      · rw [if_neg c1]; simp
  · rw [if_neg h]; simp
def setP (p : Int) (a : Aw) : Aw := ⟨a.f0, a.f1, p⟩
def lastP (l : List Aw) : Int := match l.getLast? with | some a => a.f2 | none => 0
theorem lastP_at (l : List Aw) (h : 0 < l.length) : lastP l = (l[l.length - 1]).f2 := by
  unfold lastP
  rw [List.getLast?_eq_getElem?, List.getElem?_eq_getElem (show l.length - 1 < l.length by omega)]
def uniform (qty : Int) (l : List Bid) (cap : Int) : List Aw × Int × Int × Int := ((award qty l cap).1.map (setP (lastP (award qty l cap).1)), lastP (award qty l cap).1, (award qty l cap).2.1, (award qty l cap).2.2)
theorem at_mid (A B : List Aw) (b : Aw) (f : Aw → Aw) : rd_T52 (A.map f ++ b :: B) (A.length : Int) = b := by
  rw [rdAw _ _ (by simp)]
  rw [List.getElem_append_right (by simp)]
  simp
theorem put_mid (A B : List Aw) (b x : Aw) (f : Aw → Aw) : (A.map f ++ b :: B).set A.length x = A.map f ++ x :: B := by
  rw [List.set_append_right _ _ (by simp)]
  simp
theorem uniLoop (p left e : Int) (n : Nat) (hn : n ≤ 4611686018427387904) : ∀ (B A : List Aw), A.length + B.length = n → Ev (fun k => auction_Uniform.l0 k (A.map (setP p) ++ B) p left e n A.length) ((A ++ B).map (setP p), p, left, e)
  | [], A, h => by
    refine Ev_succ ?_
    simp only [List.length_nil, Nat.add_zero] at h
    subst h
    simp only [auction_Uniform.l0, if_neg (show ¬ ((A.length : Int) < (A.length : Int)) by omega), List.append_nil]
    exact Ev.now _
  | b :: B, A, h => by
    have ih := uniLoop p left e n hn B (A ++ [b]) (by simp at h ⊢; omega)
    have e1 : (A ++ [b]).map (setP p) ++ B = A.map (setP p) ++ setP p b :: B := by simp
    have e2 : (A ++ [b]).length = A.length + 1 := by simp
    rw [e1, e2, List.append_assoc] at ih
    simp only [List.length_cons] at h
    refine Ev_succ ?_
    simp only [auction_Uniform.l0, if_pos (show (A.length : Int) < (n : Int) by omega), if_pos (show 0 ≤ (A.length : Int) by omega), if_pos (show (A.length : Int) < ((A.map (setP p) ++ b :: B).length : Int) by simp; omega), at_mid, Int.toNat_natCast, put_mid, w_succ (show A.length < n by omega) (show n ≤ 9223372036854775807 by omega)]
    exact ih
theorem uniform_f (qty : Int) (l : List Bid) (cap : Int) : Ev (fun k => auction_Uniform.f k qty l cap) (uniform qty l cap) := by
  unfold auction_Uniform.f uniform
  refine Ev_bind (award_f qty l cap) ?_
  have hl := (award_len qty l cap).1
  generalize award qty l cap = r at hl
  obtain ⟨o, left, e⟩ := r
  dsimp only at hl ⊢
  have hgo : ∀ p, Ev (fun k => auction_Uniform.j0 k o p left e) (o.map (setP p), p, left, e) := by
    intro p
    refine Ev_succ ?_
    simp only [auction_Uniform.j0]
    exact uniLoop p left e o.length (by omega) o [] (by simp)
  by_cases c : 0 < o.length
  · have hp := w_pred c (by omega)
    simp only [if_pos (show (o.length : Int) > 0 by omega), hp, if_pos (show 0 ≤ ((o.length - 1 : Nat) : Int) by omega), if_pos (show ((o.length - 1 : Nat) : Int) < (o.length : Int) by omega), rdAw o (o.length - 1) (by omega), ← lastP_at o c]
    exact hgo _
  · have : o = [] := List.eq_nil_of_length_eq_zero (by omega)
    subst this
    simp only [if_neg (show ¬ (((([] : List Aw).length : Nat) : Int) > 0) by simp)]
    exact hgo 0
theorem uniRLoop (p left : Int) (n : Nat) (hn : n ≤ 4611686018427387904) : ∀ (B A : List Aw), A.length + B.length = n → Ev (fun k => contangoref45_Uniform.l0 k (A.map (setP p) ++ B) left p A.length) ((A ++ B).map (setP p), p, left, 0)
  | [], A, h => by
    refine Ev_succ ?_
    simp only [contangoref45_Uniform.l0, List.append_nil, List.length_map, if_neg (show ¬ ((A.length : Int) < (A.length : Int)) by omega)]
    exact Ev.now _
  | b :: B, A, h => by
    have ih := uniRLoop p left n hn B (A ++ [b]) (by simp at h ⊢; omega)
    have e1 : (A ++ [b]).map (setP p) ++ B = A.map (setP p) ++ setP p b :: B := by simp
    have e2 : (A ++ [b]).length = A.length + 1 := by simp
    rw [e1, e2, List.append_assoc] at ih
    simp only [List.length_cons] at h
    refine Ev_succ ?_
    simp only [contangoref45_Uniform.l0, if_pos (show (A.length : Int) < ((A.map (setP p) ++ b :: B).length : Int) by simp; omega), if_pos (show 0 ≤ (A.length : Int) by omega), at_mid, Int.toNat_natCast, put_mid, w_succ (show A.length < n by omega) (show n ≤ 9223372036854775807 by omega)]
    exact ih
theorem uniformR_f (qty : Int) (l : List Bid) (cap : Int) (hz : ∀ b ∈ l, b.f0.size ≤ 4611686018427387904) : Ev (fun k => contangoref45_Uniform.f k qty l cap) (uniform qty l cap) := by
  unfold contangoref45_Uniform.f uniform
  refine Ev_bind (awardR_f qty l cap hz) ?_
  obtain ⟨hl, he⟩ := award_len qty l cap
  generalize award qty l cap = r at hl he
  obtain ⟨o, left, e⟩ := r
  dsimp only at hl he ⊢
  by_cases c : e = 0
  · subst c
    simp only [if_true]
    refine Ev_succ ?_
    by_cases c : 0 < o.length
    · have hp := w_pred c (by omega)
      have hb : ((o.length : Int) == 0) = false := beq_eq_false_iff_ne.2 (by omega)
      simp only [contangoref45_Uniform.j0, hb, Bool.false_eq_true, if_false, hp, if_pos (show 0 ≤ ((o.length - 1 : Nat) : Int) by omega), if_pos (show ((o.length - 1 : Nat) : Int) < (o.length : Int) by omega), rdAw o (o.length - 1) (by omega), ← lastP_at o c]
      exact uniRLoop (lastP o) left o.length (by omega) o [] (by simp)
    · have : o = [] := List.eq_nil_of_length_eq_zero (by omega)
      subst this
      simp only [contangoref45_Uniform.j0, List.length_nil, show (((0 : Nat) : Int) == 0) = true from rfl, if_true]
      exact Ev.now _
  · obtain ⟨rfl, rfl⟩ := he c
    simp only [if_neg c]
    refine Ev_succ ?_
    simp only [contangoref45_Uniform.j0, if_true]
    exact Ev.now _
theorem awSame (a : List Aw) (ha : a.length ≤ 4611686018427387904) : ∀ (d i : Nat), i + d = a.length → Ev (fun k => contangoref45_Awards.l0 k a a i) true
  | 0, i, hd => by
    refine Ev_succ ?_
    simp only [contangoref45_Awards.l0, if_neg (show ¬ ((i : Int) < (a.length : Int)) by omega)]
    exact Ev.now _
  | d + 1, i, hd => by
    have hi : i < a.length := by omega
    refine Ev_succ ?_
    simp only [contangoref45_Awards.l0, if_pos (show (i : Int) < (a.length : Int) by omega), if_pos (show 0 ≤ (i : Int) by omega), beq_self_eq_true, Bool.not_true, Bool.or_false, Bool.false_eq_true, if_false, w_succ hi (by omega)]
    exact awSame a ha d (i + 1) (by omega)
theorem awSame_f (a : List Aw) (ha : a.length ≤ 4611686018427387904) : Ev (fun k => contangoref45_Awards.f k a a) true := by
  unfold contangoref45_Awards.f
  simp only [if_true]
  exact awSame a ha a.length 0 (by omega)
end Go.Proofs.Ytokijibpdnepiaa.P
end
section
namespace Go.Proofs.Ytokijibpdnepiaa.P
open Go.RowKit Go.Proofs.YtokijibpdnepiaaW.PrintWords Go.Proofs.YtokijibpdnepiaaW.PrintMore Go.Proofs.Ytokijibpdnepiaa.X
set_option maxRecDepth 100000 in
theorem goes45 : Ev (fun k => contangolaw45_goes.f k) true := Ev.of (k := 40) (contangolaw45_goes.mono) (by decide +kernel)
end Go.Proofs.Ytokijibpdnepiaa.P
end
section
namespace Go.Proofs.Ytokijibpdnepiaa.Pure
set_option linter.unusedVariables false
set_option linter.unusedSimpArgs false
open Go.RowKit Go.Proofs.YtokijibpdnepiaaW.PrintWords Go.Proofs.YtokijibpdnepiaaW.PrintMore Go.Proofs.Ytokijibpdnepiaa.X Go.Proofs.Ytokijibpdnepiaa.P
theorem AuctionAwards : ∀ (a0 : Int) (l1 : List (S33)) (a2 : Int), (Lit.int .i64 a0).wf = true → (l1.length ≤ maxLen ∧ l1.length * 40 ≤ 140737488351232 ∧ ∀ x ∈ l1, ok33 x) → (Lit.int .i64 a2).wf = true → ∃ k, X.contangolaw45_AuctionAwards.f k a0 l1 a2 = some true := by
  intro qty l cap _ hl _
  apply Ev.rounds
  have hz : ∀ b ∈ l, b.f0.size ≤ 4611686018427387904 := fun b hb => by have := (hl.2.2 b hb).1; omega
  unfold contangolaw45_AuctionAwards.f
  by_cases c : (l.length : Int) > 300
  · simp only [if_pos c]; exact Ev_id goes45
  · have hal := (award_len qty l cap).1
    simp only [if_neg c, Option.bind_some, List.length_nil, Nat.zero_add, if_pos (show l.length < 3518437208883 by omega), List.nil_append]
    refine Ev_bind (award_f qty l cap) ?_
    refine Ev_bind (awardR_f qty l cap hz) ?_
    refine Ev_bind (uniform_f qty l cap) ?_
    refine Ev_bind (uniformR_f qty l cap hz) ?_
    refine Ev_bind (awSame_f _ (by omega)) ?_
    simp only [if_true]
    refine Ev_bind (awSame_f _ (by unfold uniform; rw [List.length_map]; omega)) ?_
    simp only [if_true]
    exact Ev_id goes45
end Go.Proofs.Ytokijibpdnepiaa.Pure
end
