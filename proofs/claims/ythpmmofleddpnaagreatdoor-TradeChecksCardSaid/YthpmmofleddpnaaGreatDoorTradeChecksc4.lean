/- For TradeChecks: contracts, and facts on lists and numbers, that it uses (part 4). -/
import Derived.Test.YthpmmofleddpnaaGreatDoorTradeChecksc3
section
namespace Go.Proofs.YthpmmofleddpnaaGreatDoor.X
open Go.RowKit Go.Proofs.YthpmmofleddpnaaGreatDoorW.PrintWords Go.Proofs.YthpmmofleddpnaaGreatDoorW.PrintLast Go.Proofs.YthpmmofleddpnaaGreatDoorW.PrintMore
attribute [local go_sem] max2_int min2_int max_two min_two max_three min_three max_four min_four
set_option linter.unusedVariables false
set_option linter.unusedSimpArgs false
def contangoref09_CheckAll.l0 : Nat → List (S69) → Int → Option (Int)
  | 0, _, _ => none
  | k + 1, x0, x3 => if x3 < (x0.length : Int) then (if 0 ≤ x3 then ((contangoref09_Check.f k ((rd_T69 x0 x3).f0) ((rd_T69 x0 x3).f1) ((rd_T69 x0 x3).f2) ((rd_T69 x0 x3).f3) ((rd_T69 x0 x3).f4) ((rd_T69 x0 x3).f5) ((rd_T69 x0 x3).f6)).bind fun t102 => (if t102 = 0 then (if x3 > 0 then (if 0 ≤ (wrap64 (x3 - 1)) then (if (wrap64 (x3 - 1)) < (x0.length : Int) then (if ((Op.bytesLess (((rd_T69 x0 (wrap64 (x3 - 1))).f0).toList) (((rd_T69 x0 x3).f0).toList)) = true) then (contangoref09_CheckAll.l0 k x0 (wrap64 (x3 + 1))) else (some 12)) else (none)) else (none)) else (contangoref09_CheckAll.l0 k x0 (wrap64 (x3 + 1)))) else (some t102))) else (none)) else (some 0)
def contangoref09_CheckAll.f (k : Nat) (l0 : List (S69)) : Option (Int) := if (l0.length : Int) > 32 then (some 8) else (contangoref09_CheckAll.l0 k l0 0)
set_option maxHeartbeats 8000000 in
set_option maxRecDepth 100000 in
theorem contangoref09_CheckAll.calls (k : Nat) (A0 : Option Addr) (c0 : Nat) (l0 : List (S69)) (r : Int) (w : World) (hr0 : Kd.C k69 w A0 l0.length l0) (hc0 : l0.length ≤ c0) (h : contangoref09_CheckAll.f k l0 = some r) :
    Calls Tryz.prog 92 #[.slice A0 l0.length c0] w fun e w' => e = .returned (.int .i64 r) ∧ Below w.heap.size w w' := by
  have hu69 := Tryz.underlying69
  have HR0 := Aside0.mk hr0
  have HC0 := Aside0.mk hc0
  clear hr0 hc0
  have HB := Aside0.mk (Below.refl w.heap.size w)
  have H : (if (l0.length : Int) > 32 then (some 8) else (contangoref09_CheckAll.l0 k l0 0)) = some r := h
  clear h
  by_cases c2 : (l0.length : Int) > 32
  · rw [if_pos c2] at H
    have c2b0 : decide (32 < (l0.length : Int)) = true := decide_eq_true c2
    have c2b1 : decide (32 < l0.length) = true := decide_eq_true (by omega)
    clear c2
    obtain rfl := Option.some.inj H
    go_enter Tryz.func92, Tryz.ntmps92
    go_wp2
    repeat (go_quiet (fail); try go_wp2)
    go_ret
    exact ⟨ers, bel⟩
  · rw [if_neg c2] at H
    have c2b0 : decide (32 < (l0.length : Int)) = false := decide_eq_false c2
    have c2b1 : decide (32 < l0.length) = false := decide_eq_false (by omega)
    clear c2
    have H' := Aside0.mk H
    clear H
    go_enter Tryz.func92, Tryz.ntmps92
    go_wp2
    repeat (go_quiet (fail); try go_wp2)
    go_loopg [3] k (fun kq v3 w' => ∃ (x3_1 : Int), v3 = .int .i64 x3_1 ∧ Aside0 (contangoref09_CheckAll.l0 kq l0 x3_1 = some r) ∧ Aside0 (kq ≤ k) ∧ Aside0 (Below w.heap.size w w'))
    case atStart => exact ⟨(0), eqs, H', ⟨Nat.le_refl _⟩, ⟨bel⟩⟩
    case round =>
      clear H'
      try clear c2
      try clear c2b0
      try clear c2b1
      try clear p2
      obtain ⟨x3_1, rfl, HA, HK1, HB⟩ := hrel
      cases gk with
      | zero => exact absurd HA.out (by simp [contangoref09_CheckAll.l0])
      | succ k1 =>
        have H := HA.out
        clear HA
        simp only [contangoref09_CheckAll.l0] at H
        by_cases c3 : x3_1 < (l0.length : Int)
        · rw [if_pos c3] at H
          have c3b0 := decide_eq_true c3
          clear c3
          by_cases c4 : 0 ≤ x3_1
          · rw [if_pos c4] at H
            have c4b0 := decide_eq_true c4
            clear c4
            replace H := bnd H
            obtain ⟨t102, A50, H⟩ := H
            have A5 := Aside0.mk A50
            clear A50
            by_cases c6 : t102 = 0
            · rw [if_pos c6] at H
              have c6b0 : (t102 == 0) = true := beq_iff_eq.mpr c6
              have c6b1 : (t102 != 0) = false := bne_eq_false_iff_eq.mpr c6
              clear c6
              by_cases c7 : x3_1 > 0
              · rw [if_pos c7] at H
                have c7b0 : decide (0 < x3_1) = true := decide_eq_true c7
                clear c7
                obtain ⟨ji8, hji8⟩ : ∃ j_ : Int, (wrap64 (x3_1 - 1)) = j_ := ⟨_, rfl⟩
                replace H : (if 0 ≤ (ji8) then (if (ji8) < (l0.length : Int) then (if ((Op.bytesLess (((rd_T69 l0 (ji8)).f0).toList) (((rd_T69 l0 x3_1).f0).toList)) = true) then (contangoref09_CheckAll.l0 k1 l0 (wrap64 (x3_1 + 1))) else (some 12)) else (none)) else (none)) = some r := by first | (rw [hji8] at H; exact H) | (simp only [hji8] at H ⊢; exact H)
                (try rw [hji8] at A5)
                have hji8w : (IntKind.i64.wrap (x3_1 - 1)) = ji8 := (i64_w _).trans hji8
                by_cases c9 : 0 ≤ (ji8)
                · rw [if_pos c9] at H
                  have c9b0 := decide_eq_true c9
                  clear c9
                  by_cases c10 : (ji8) < (l0.length : Int)
                  · rw [if_pos c10] at H
                    have c10b0 := decide_eq_true c10
                    clear c10
                    by_cases c11 : ((Op.bytesLess (((rd_T69 l0 (ji8)).f0).toList) (((rd_T69 l0 x3_1).f0).toList)) = true)
                    · rw [if_pos c11] at H
                      have c11b0 : (Op.bytesLess (((rd_T69 l0 (ji8)).f0).toList) (((rd_T69 l0 x3_1).f0).toList)) = true := c11
                      clear c11
                      have H' := Aside0.mk H
                      clear H
                      have p101 : 0 ≤ (x3_1 : Int) := dt
                      have q101 : x3_1 < (l0.length : Int) := dt
                      obtain ⟨ad101, e101, hx101_0, hx101_1, hx101_2, hx101_3, hx101_4, hx101_5, hx101_6⟩ := at_T69 HR0.out x3_1 p101 q101
                      cases e101
                      replace hx101_0 := (HB.out.cell (World.block_lt_of_cell? w _ hx101_0)).trans hx101_0
                      replace hx101_1 := (HB.out.cell (World.block_lt_of_cell? w _ hx101_1)).trans hx101_1
                      replace hx101_2 := (HB.out.cell (World.block_lt_of_cell? w _ hx101_2)).trans hx101_2
                      replace hx101_3 := (HB.out.cell (World.block_lt_of_cell? w _ hx101_3)).trans hx101_3
                      replace hx101_4 := (HB.out.cell (World.block_lt_of_cell? w _ hx101_4)).trans hx101_4
                      replace hx101_5 := (HB.out.cell (World.block_lt_of_cell? w _ hx101_5)).trans hx101_5
                      replace hx101_6 := (HB.out.cell (World.block_lt_of_cell? w _ hx101_6)).trans hx101_6
                      replace p101 := eq_true p101
                      replace q101 := eq_true q101
                      go_wp2_with (first | (go_at_call 93; (with_reducible refine (contangoref09_Check.calls k1 ((rd_T69 l0 x3_1).f0) ((rd_T69 l0 x3_1).f1) ((rd_T69 l0 x3_1).f2) ((rd_T69 l0 x3_1).f3) ((rd_T69 l0 x3_1).f4) ((rd_T69 l0 x3_1).f5) ((rd_T69 l0 x3_1).f6) t102 _ A5.out).mono ?_); rintro e w12 ⟨rfl, hb⟩; replace HB := Aside0.mk (below_step bel hb); (try clear hb); (try clear hb2); (try clear hk); (try clear hi); have p103 : 0 ≤ (x3_1 : Int) := dt; have q103 : x3_1 < (l0.length : Int) := dt; obtain ⟨ad103, e103, hx103_0, hx103_1, hx103_2, hx103_3, hx103_4, hx103_5, hx103_6⟩ := at_T69 HR0.out x3_1 p103 q103; obtain rfl : ad101 = ad103 := (by injection e103); replace hx103_0 := (HB.out.cell (World.block_lt_of_cell? w _ hx103_0)).trans hx103_0; replace hx103_1 := (HB.out.cell (World.block_lt_of_cell? w _ hx103_1)).trans hx103_1; replace hx103_2 := (HB.out.cell (World.block_lt_of_cell? w _ hx103_2)).trans hx103_2; replace hx103_3 := (HB.out.cell (World.block_lt_of_cell? w _ hx103_3)).trans hx103_3; replace hx103_4 := (HB.out.cell (World.block_lt_of_cell? w _ hx103_4)).trans hx103_4; replace hx103_5 := (HB.out.cell (World.block_lt_of_cell? w _ hx103_5)).trans hx103_5; replace hx103_6 := (HB.out.cell (World.block_lt_of_cell? w _ hx103_6)).trans hx103_6; replace p103 := eq_true p103; replace q103 := eq_true q103; have p104 : 0 ≤ ((ji8) : Int) := dt; have q104 : (ji8) < (l0.length : Int) := dt; obtain ⟨ad104, e104, hx104_0, hx104_1, hx104_2, hx104_3, hx104_4, hx104_5, hx104_6⟩ := at_T69 HR0.out (ji8) p104 q104; obtain rfl : ad101 = ad104 := (by injection e104); replace hx104_0 := (HB.out.cell (World.block_lt_of_cell? w _ hx104_0)).trans hx104_0; replace hx104_1 := (HB.out.cell (World.block_lt_of_cell? w _ hx104_1)).trans hx104_1; replace hx104_2 := (HB.out.cell (World.block_lt_of_cell? w _ hx104_2)).trans hx104_2; replace hx104_3 := (HB.out.cell (World.block_lt_of_cell? w _ hx104_3)).trans hx104_3; replace hx104_4 := (HB.out.cell (World.block_lt_of_cell? w _ hx104_4)).trans hx104_4; replace hx104_5 := (HB.out.cell (World.block_lt_of_cell? w _ hx104_5)).trans hx104_5; replace hx104_6 := (HB.out.cell (World.block_lt_of_cell? w _ hx104_6)).trans hx104_6; replace p104 := eq_true p104; replace q104 := eq_true q104))
                      repeat (go_quiet (first | (go_at_call 93; (with_reducible refine (contangoref09_Check.calls k1 ((rd_T69 l0 x3_1).f0) ((rd_T69 l0 x3_1).f1) ((rd_T69 l0 x3_1).f2) ((rd_T69 l0 x3_1).f3) ((rd_T69 l0 x3_1).f4) ((rd_T69 l0 x3_1).f5) ((rd_T69 l0 x3_1).f6) t102 _ A5.out).mono ?_); rintro e w12 ⟨rfl, hb⟩; replace HB := Aside0.mk (below_step bel hb); (try clear hb); (try clear hb2); (try clear hk); (try clear hi); have p103 : 0 ≤ (x3_1 : Int) := dt; have q103 : x3_1 < (l0.length : Int) := dt; obtain ⟨ad103, e103, hx103_0, hx103_1, hx103_2, hx103_3, hx103_4, hx103_5, hx103_6⟩ := at_T69 HR0.out x3_1 p103 q103; obtain rfl : ad101 = ad103 := (by injection e103); replace hx103_0 := (HB.out.cell (World.block_lt_of_cell? w _ hx103_0)).trans hx103_0; replace hx103_1 := (HB.out.cell (World.block_lt_of_cell? w _ hx103_1)).trans hx103_1; replace hx103_2 := (HB.out.cell (World.block_lt_of_cell? w _ hx103_2)).trans hx103_2; replace hx103_3 := (HB.out.cell (World.block_lt_of_cell? w _ hx103_3)).trans hx103_3; replace hx103_4 := (HB.out.cell (World.block_lt_of_cell? w _ hx103_4)).trans hx103_4; replace hx103_5 := (HB.out.cell (World.block_lt_of_cell? w _ hx103_5)).trans hx103_5; replace hx103_6 := (HB.out.cell (World.block_lt_of_cell? w _ hx103_6)).trans hx103_6; replace p103 := eq_true p103; replace q103 := eq_true q103; have p104 : 0 ≤ ((ji8) : Int) := dt; have q104 : (ji8) < (l0.length : Int) := dt; obtain ⟨ad104, e104, hx104_0, hx104_1, hx104_2, hx104_3, hx104_4, hx104_5, hx104_6⟩ := at_T69 HR0.out (ji8) p104 q104; obtain rfl : ad101 = ad104 := (by injection e104); replace hx104_0 := (HB.out.cell (World.block_lt_of_cell? w _ hx104_0)).trans hx104_0; replace hx104_1 := (HB.out.cell (World.block_lt_of_cell? w _ hx104_1)).trans hx104_1; replace hx104_2 := (HB.out.cell (World.block_lt_of_cell? w _ hx104_2)).trans hx104_2; replace hx104_3 := (HB.out.cell (World.block_lt_of_cell? w _ hx104_3)).trans hx104_3; replace hx104_4 := (HB.out.cell (World.block_lt_of_cell? w _ hx104_4)).trans hx104_4; replace hx104_5 := (HB.out.cell (World.block_lt_of_cell? w _ hx104_5)).trans hx104_5; replace hx104_6 := (HB.out.cell (World.block_lt_of_cell? w _ hx104_6)).trans hx104_6; replace p104 := eq_true p104; replace q104 := eq_true q104)); try go_wp2_with (first | (go_at_call 93; (with_reducible refine (contangoref09_Check.calls k1 ((rd_T69 l0 x3_1).f0) ((rd_T69 l0 x3_1).f1) ((rd_T69 l0 x3_1).f2) ((rd_T69 l0 x3_1).f3) ((rd_T69 l0 x3_1).f4) ((rd_T69 l0 x3_1).f5) ((rd_T69 l0 x3_1).f6) t102 _ A5.out).mono ?_); rintro e w12 ⟨rfl, hb⟩; replace HB := Aside0.mk (below_step bel hb); (try clear hb); (try clear hb2); (try clear hk); (try clear hi); have p103 : 0 ≤ (x3_1 : Int) := dt; have q103 : x3_1 < (l0.length : Int) := dt; obtain ⟨ad103, e103, hx103_0, hx103_1, hx103_2, hx103_3, hx103_4, hx103_5, hx103_6⟩ := at_T69 HR0.out x3_1 p103 q103; obtain rfl : ad101 = ad103 := (by injection e103); replace hx103_0 := (HB.out.cell (World.block_lt_of_cell? w _ hx103_0)).trans hx103_0; replace hx103_1 := (HB.out.cell (World.block_lt_of_cell? w _ hx103_1)).trans hx103_1; replace hx103_2 := (HB.out.cell (World.block_lt_of_cell? w _ hx103_2)).trans hx103_2; replace hx103_3 := (HB.out.cell (World.block_lt_of_cell? w _ hx103_3)).trans hx103_3; replace hx103_4 := (HB.out.cell (World.block_lt_of_cell? w _ hx103_4)).trans hx103_4; replace hx103_5 := (HB.out.cell (World.block_lt_of_cell? w _ hx103_5)).trans hx103_5; replace hx103_6 := (HB.out.cell (World.block_lt_of_cell? w _ hx103_6)).trans hx103_6; replace p103 := eq_true p103; replace q103 := eq_true q103; have p104 : 0 ≤ ((ji8) : Int) := dt; have q104 : (ji8) < (l0.length : Int) := dt; obtain ⟨ad104, e104, hx104_0, hx104_1, hx104_2, hx104_3, hx104_4, hx104_5, hx104_6⟩ := at_T69 HR0.out (ji8) p104 q104; obtain rfl : ad101 = ad104 := (by injection e104); replace hx104_0 := (HB.out.cell (World.block_lt_of_cell? w _ hx104_0)).trans hx104_0; replace hx104_1 := (HB.out.cell (World.block_lt_of_cell? w _ hx104_1)).trans hx104_1; replace hx104_2 := (HB.out.cell (World.block_lt_of_cell? w _ hx104_2)).trans hx104_2; replace hx104_3 := (HB.out.cell (World.block_lt_of_cell? w _ hx104_3)).trans hx104_3; replace hx104_4 := (HB.out.cell (World.block_lt_of_cell? w _ hx104_4)).trans hx104_4; replace hx104_5 := (HB.out.cell (World.block_lt_of_cell? w _ hx104_5)).trans hx104_5; replace hx104_6 := (HB.out.cell (World.block_lt_of_cell? w _ hx104_6)).trans hx104_6; replace p104 := eq_true p104; replace q104 := eq_true q104)))
                      go_roundg k1
                      case measure => have := HK1.out; omega
                      case rel => exact ⟨(wrap64 (x3_1 + 1)), eqs, H', ⟨hko⟩, ⟨bel⟩⟩
                    · rw [if_neg c11] at H
                      have c11b0 : (Op.bytesLess (((rd_T69 l0 (ji8)).f0).toList) (((rd_T69 l0 x3_1).f0).toList)) = false := by simpa using c11
                      clear c11
                      obtain rfl := Option.some.inj H
                      have p101 : 0 ≤ (x3_1 : Int) := dt
                      have q101 : x3_1 < (l0.length : Int) := dt
                      obtain ⟨ad101, e101, hx101_0, hx101_1, hx101_2, hx101_3, hx101_4, hx101_5, hx101_6⟩ := at_T69 HR0.out x3_1 p101 q101
                      cases e101
                      replace hx101_0 := (HB.out.cell (World.block_lt_of_cell? w _ hx101_0)).trans hx101_0
                      replace hx101_1 := (HB.out.cell (World.block_lt_of_cell? w _ hx101_1)).trans hx101_1
                      replace hx101_2 := (HB.out.cell (World.block_lt_of_cell? w _ hx101_2)).trans hx101_2
                      replace hx101_3 := (HB.out.cell (World.block_lt_of_cell? w _ hx101_3)).trans hx101_3
                      replace hx101_4 := (HB.out.cell (World.block_lt_of_cell? w _ hx101_4)).trans hx101_4
                      replace hx101_5 := (HB.out.cell (World.block_lt_of_cell? w _ hx101_5)).trans hx101_5
                      replace hx101_6 := (HB.out.cell (World.block_lt_of_cell? w _ hx101_6)).trans hx101_6
                      replace p101 := eq_true p101
                      replace q101 := eq_true q101
                      go_wp2_with (first | (go_at_call 93; (with_reducible refine (contangoref09_Check.calls k1 ((rd_T69 l0 x3_1).f0) ((rd_T69 l0 x3_1).f1) ((rd_T69 l0 x3_1).f2) ((rd_T69 l0 x3_1).f3) ((rd_T69 l0 x3_1).f4) ((rd_T69 l0 x3_1).f5) ((rd_T69 l0 x3_1).f6) t102 _ A5.out).mono ?_); rintro e w13 ⟨rfl, hb⟩; replace HB := Aside0.mk (below_step bel hb); (try clear hb); (try clear hb2); (try clear hk); (try clear hi); have p103 : 0 ≤ (x3_1 : Int) := dt; have q103 : x3_1 < (l0.length : Int) := dt; obtain ⟨ad103, e103, hx103_0, hx103_1, hx103_2, hx103_3, hx103_4, hx103_5, hx103_6⟩ := at_T69 HR0.out x3_1 p103 q103; obtain rfl : ad101 = ad103 := (by injection e103); replace hx103_0 := (HB.out.cell (World.block_lt_of_cell? w _ hx103_0)).trans hx103_0; replace hx103_1 := (HB.out.cell (World.block_lt_of_cell? w _ hx103_1)).trans hx103_1; replace hx103_2 := (HB.out.cell (World.block_lt_of_cell? w _ hx103_2)).trans hx103_2; replace hx103_3 := (HB.out.cell (World.block_lt_of_cell? w _ hx103_3)).trans hx103_3; replace hx103_4 := (HB.out.cell (World.block_lt_of_cell? w _ hx103_4)).trans hx103_4; replace hx103_5 := (HB.out.cell (World.block_lt_of_cell? w _ hx103_5)).trans hx103_5; replace hx103_6 := (HB.out.cell (World.block_lt_of_cell? w _ hx103_6)).trans hx103_6; replace p103 := eq_true p103; replace q103 := eq_true q103; have p104 : 0 ≤ ((ji8) : Int) := dt; have q104 : (ji8) < (l0.length : Int) := dt; obtain ⟨ad104, e104, hx104_0, hx104_1, hx104_2, hx104_3, hx104_4, hx104_5, hx104_6⟩ := at_T69 HR0.out (ji8) p104 q104; obtain rfl : ad101 = ad104 := (by injection e104); replace hx104_0 := (HB.out.cell (World.block_lt_of_cell? w _ hx104_0)).trans hx104_0; replace hx104_1 := (HB.out.cell (World.block_lt_of_cell? w _ hx104_1)).trans hx104_1; replace hx104_2 := (HB.out.cell (World.block_lt_of_cell? w _ hx104_2)).trans hx104_2; replace hx104_3 := (HB.out.cell (World.block_lt_of_cell? w _ hx104_3)).trans hx104_3; replace hx104_4 := (HB.out.cell (World.block_lt_of_cell? w _ hx104_4)).trans hx104_4; replace hx104_5 := (HB.out.cell (World.block_lt_of_cell? w _ hx104_5)).trans hx104_5; replace hx104_6 := (HB.out.cell (World.block_lt_of_cell? w _ hx104_6)).trans hx104_6; replace p104 := eq_true p104; replace q104 := eq_true q104))
                      repeat (go_quiet (first | (go_at_call 93; (with_reducible refine (contangoref09_Check.calls k1 ((rd_T69 l0 x3_1).f0) ((rd_T69 l0 x3_1).f1) ((rd_T69 l0 x3_1).f2) ((rd_T69 l0 x3_1).f3) ((rd_T69 l0 x3_1).f4) ((rd_T69 l0 x3_1).f5) ((rd_T69 l0 x3_1).f6) t102 _ A5.out).mono ?_); rintro e w13 ⟨rfl, hb⟩; replace HB := Aside0.mk (below_step bel hb); (try clear hb); (try clear hb2); (try clear hk); (try clear hi); have p103 : 0 ≤ (x3_1 : Int) := dt; have q103 : x3_1 < (l0.length : Int) := dt; obtain ⟨ad103, e103, hx103_0, hx103_1, hx103_2, hx103_3, hx103_4, hx103_5, hx103_6⟩ := at_T69 HR0.out x3_1 p103 q103; obtain rfl : ad101 = ad103 := (by injection e103); replace hx103_0 := (HB.out.cell (World.block_lt_of_cell? w _ hx103_0)).trans hx103_0; replace hx103_1 := (HB.out.cell (World.block_lt_of_cell? w _ hx103_1)).trans hx103_1; replace hx103_2 := (HB.out.cell (World.block_lt_of_cell? w _ hx103_2)).trans hx103_2; replace hx103_3 := (HB.out.cell (World.block_lt_of_cell? w _ hx103_3)).trans hx103_3; replace hx103_4 := (HB.out.cell (World.block_lt_of_cell? w _ hx103_4)).trans hx103_4; replace hx103_5 := (HB.out.cell (World.block_lt_of_cell? w _ hx103_5)).trans hx103_5; replace hx103_6 := (HB.out.cell (World.block_lt_of_cell? w _ hx103_6)).trans hx103_6; replace p103 := eq_true p103; replace q103 := eq_true q103; have p104 : 0 ≤ ((ji8) : Int) := dt; have q104 : (ji8) < (l0.length : Int) := dt; obtain ⟨ad104, e104, hx104_0, hx104_1, hx104_2, hx104_3, hx104_4, hx104_5, hx104_6⟩ := at_T69 HR0.out (ji8) p104 q104; obtain rfl : ad101 = ad104 := (by injection e104); replace hx104_0 := (HB.out.cell (World.block_lt_of_cell? w _ hx104_0)).trans hx104_0; replace hx104_1 := (HB.out.cell (World.block_lt_of_cell? w _ hx104_1)).trans hx104_1; replace hx104_2 := (HB.out.cell (World.block_lt_of_cell? w _ hx104_2)).trans hx104_2; replace hx104_3 := (HB.out.cell (World.block_lt_of_cell? w _ hx104_3)).trans hx104_3; replace hx104_4 := (HB.out.cell (World.block_lt_of_cell? w _ hx104_4)).trans hx104_4; replace hx104_5 := (HB.out.cell (World.block_lt_of_cell? w _ hx104_5)).trans hx104_5; replace hx104_6 := (HB.out.cell (World.block_lt_of_cell? w _ hx104_6)).trans hx104_6; replace p104 := eq_true p104; replace q104 := eq_true q104)); try go_wp2_with (first | (go_at_call 93; (with_reducible refine (contangoref09_Check.calls k1 ((rd_T69 l0 x3_1).f0) ((rd_T69 l0 x3_1).f1) ((rd_T69 l0 x3_1).f2) ((rd_T69 l0 x3_1).f3) ((rd_T69 l0 x3_1).f4) ((rd_T69 l0 x3_1).f5) ((rd_T69 l0 x3_1).f6) t102 _ A5.out).mono ?_); rintro e w13 ⟨rfl, hb⟩; replace HB := Aside0.mk (below_step bel hb); (try clear hb); (try clear hb2); (try clear hk); (try clear hi); have p103 : 0 ≤ (x3_1 : Int) := dt; have q103 : x3_1 < (l0.length : Int) := dt; obtain ⟨ad103, e103, hx103_0, hx103_1, hx103_2, hx103_3, hx103_4, hx103_5, hx103_6⟩ := at_T69 HR0.out x3_1 p103 q103; obtain rfl : ad101 = ad103 := (by injection e103); replace hx103_0 := (HB.out.cell (World.block_lt_of_cell? w _ hx103_0)).trans hx103_0; replace hx103_1 := (HB.out.cell (World.block_lt_of_cell? w _ hx103_1)).trans hx103_1; replace hx103_2 := (HB.out.cell (World.block_lt_of_cell? w _ hx103_2)).trans hx103_2; replace hx103_3 := (HB.out.cell (World.block_lt_of_cell? w _ hx103_3)).trans hx103_3; replace hx103_4 := (HB.out.cell (World.block_lt_of_cell? w _ hx103_4)).trans hx103_4; replace hx103_5 := (HB.out.cell (World.block_lt_of_cell? w _ hx103_5)).trans hx103_5; replace hx103_6 := (HB.out.cell (World.block_lt_of_cell? w _ hx103_6)).trans hx103_6; replace p103 := eq_true p103; replace q103 := eq_true q103; have p104 : 0 ≤ ((ji8) : Int) := dt; have q104 : (ji8) < (l0.length : Int) := dt; obtain ⟨ad104, e104, hx104_0, hx104_1, hx104_2, hx104_3, hx104_4, hx104_5, hx104_6⟩ := at_T69 HR0.out (ji8) p104 q104; obtain rfl : ad101 = ad104 := (by injection e104); replace hx104_0 := (HB.out.cell (World.block_lt_of_cell? w _ hx104_0)).trans hx104_0; replace hx104_1 := (HB.out.cell (World.block_lt_of_cell? w _ hx104_1)).trans hx104_1; replace hx104_2 := (HB.out.cell (World.block_lt_of_cell? w _ hx104_2)).trans hx104_2; replace hx104_3 := (HB.out.cell (World.block_lt_of_cell? w _ hx104_3)).trans hx104_3; replace hx104_4 := (HB.out.cell (World.block_lt_of_cell? w _ hx104_4)).trans hx104_4; replace hx104_5 := (HB.out.cell (World.block_lt_of_cell? w _ hx104_5)).trans hx104_5; replace hx104_6 := (HB.out.cell (World.block_lt_of_cell? w _ hx104_6)).trans hx104_6; replace p104 := eq_true p104; replace q104 := eq_true q104)))
                      go_ret
                      exact ⟨by first | rfl | (simp [errW_none, errW_some] <;> rfl) | (simp only [← hji8]; first | rfl | (simp [errW_none, errW_some] <;> rfl)) | (simp [*, errW_none, errW_some] <;> rfl), bel⟩
                  · rw [if_neg c10] at H
                    exact absurd H (by simp)
                · rw [if_neg c9] at H
                  exact absurd H (by simp)
              · rw [if_neg c7] at H
                have c7b0 : decide (0 < x3_1) = false := decide_eq_false c7
                clear c7
                have H' := Aside0.mk H
                clear H
                have p101 : 0 ≤ (x3_1 : Int) := dt
                have q101 : x3_1 < (l0.length : Int) := dt
                obtain ⟨ad101, e101, hx101_0, hx101_1, hx101_2, hx101_3, hx101_4, hx101_5, hx101_6⟩ := at_T69 HR0.out x3_1 p101 q101
                cases e101
                replace hx101_0 := (HB.out.cell (World.block_lt_of_cell? w _ hx101_0)).trans hx101_0
                replace hx101_1 := (HB.out.cell (World.block_lt_of_cell? w _ hx101_1)).trans hx101_1
                replace hx101_2 := (HB.out.cell (World.block_lt_of_cell? w _ hx101_2)).trans hx101_2
                replace hx101_3 := (HB.out.cell (World.block_lt_of_cell? w _ hx101_3)).trans hx101_3
                replace hx101_4 := (HB.out.cell (World.block_lt_of_cell? w _ hx101_4)).trans hx101_4
                replace hx101_5 := (HB.out.cell (World.block_lt_of_cell? w _ hx101_5)).trans hx101_5
                replace hx101_6 := (HB.out.cell (World.block_lt_of_cell? w _ hx101_6)).trans hx101_6
                replace p101 := eq_true p101
                replace q101 := eq_true q101
                go_wp2_with (first | (go_at_call 93; (with_reducible refine (contangoref09_Check.calls k1 ((rd_T69 l0 x3_1).f0) ((rd_T69 l0 x3_1).f1) ((rd_T69 l0 x3_1).f2) ((rd_T69 l0 x3_1).f3) ((rd_T69 l0 x3_1).f4) ((rd_T69 l0 x3_1).f5) ((rd_T69 l0 x3_1).f6) t102 _ A5.out).mono ?_); rintro e w14 ⟨rfl, hb⟩; replace HB := Aside0.mk (below_step bel hb); (try clear hb); (try clear hb2); (try clear hk); (try clear hi)))
                repeat (go_quiet (first | (go_at_call 93; (with_reducible refine (contangoref09_Check.calls k1 ((rd_T69 l0 x3_1).f0) ((rd_T69 l0 x3_1).f1) ((rd_T69 l0 x3_1).f2) ((rd_T69 l0 x3_1).f3) ((rd_T69 l0 x3_1).f4) ((rd_T69 l0 x3_1).f5) ((rd_T69 l0 x3_1).f6) t102 _ A5.out).mono ?_); rintro e w14 ⟨rfl, hb⟩; replace HB := Aside0.mk (below_step bel hb); (try clear hb); (try clear hb2); (try clear hk); (try clear hi))); try go_wp2_with (first | (go_at_call 93; (with_reducible refine (contangoref09_Check.calls k1 ((rd_T69 l0 x3_1).f0) ((rd_T69 l0 x3_1).f1) ((rd_T69 l0 x3_1).f2) ((rd_T69 l0 x3_1).f3) ((rd_T69 l0 x3_1).f4) ((rd_T69 l0 x3_1).f5) ((rd_T69 l0 x3_1).f6) t102 _ A5.out).mono ?_); rintro e w14 ⟨rfl, hb⟩; replace HB := Aside0.mk (below_step bel hb); (try clear hb); (try clear hb2); (try clear hk); (try clear hi))))
                go_roundg k1
                case measure => have := HK1.out; omega
                case rel => exact ⟨(wrap64 (x3_1 + 1)), eqs, H', ⟨hko⟩, ⟨bel⟩⟩
            · rw [if_neg c6] at H
              have c6b0 : (t102 == 0) = false := beq_eq_false_iff_ne.mpr c6
              have c6b1 : (t102 != 0) = true := bne_iff_ne.mpr c6
              obtain rfl := Option.some.inj H
              have p101 : 0 ≤ (x3_1 : Int) := dt
              have q101 : x3_1 < (l0.length : Int) := dt
              obtain ⟨ad101, e101, hx101_0, hx101_1, hx101_2, hx101_3, hx101_4, hx101_5, hx101_6⟩ := at_T69 HR0.out x3_1 p101 q101
              cases e101
              replace hx101_0 := (HB.out.cell (World.block_lt_of_cell? w _ hx101_0)).trans hx101_0
              replace hx101_1 := (HB.out.cell (World.block_lt_of_cell? w _ hx101_1)).trans hx101_1
              replace hx101_2 := (HB.out.cell (World.block_lt_of_cell? w _ hx101_2)).trans hx101_2
              replace hx101_3 := (HB.out.cell (World.block_lt_of_cell? w _ hx101_3)).trans hx101_3
              replace hx101_4 := (HB.out.cell (World.block_lt_of_cell? w _ hx101_4)).trans hx101_4
              replace hx101_5 := (HB.out.cell (World.block_lt_of_cell? w _ hx101_5)).trans hx101_5
              replace hx101_6 := (HB.out.cell (World.block_lt_of_cell? w _ hx101_6)).trans hx101_6
              replace p101 := eq_true p101
              replace q101 := eq_true q101
              go_wp2_with (first | (go_at_call 93; (with_reducible refine (contangoref09_Check.calls k1 ((rd_T69 l0 x3_1).f0) ((rd_T69 l0 x3_1).f1) ((rd_T69 l0 x3_1).f2) ((rd_T69 l0 x3_1).f3) ((rd_T69 l0 x3_1).f4) ((rd_T69 l0 x3_1).f5) ((rd_T69 l0 x3_1).f6) t102 _ A5.out).mono ?_); rintro e w15 ⟨rfl, hb⟩; replace HB := Aside0.mk (below_step bel hb); (try clear hb); (try clear hb2); (try clear hk); (try clear hi)))
              repeat (go_quiet (first | (go_at_call 93; (with_reducible refine (contangoref09_Check.calls k1 ((rd_T69 l0 x3_1).f0) ((rd_T69 l0 x3_1).f1) ((rd_T69 l0 x3_1).f2) ((rd_T69 l0 x3_1).f3) ((rd_T69 l0 x3_1).f4) ((rd_T69 l0 x3_1).f5) ((rd_T69 l0 x3_1).f6) t102 _ A5.out).mono ?_); rintro e w15 ⟨rfl, hb⟩; replace HB := Aside0.mk (below_step bel hb); (try clear hb); (try clear hb2); (try clear hk); (try clear hi))); try go_wp2_with (first | (go_at_call 93; (with_reducible refine (contangoref09_Check.calls k1 ((rd_T69 l0 x3_1).f0) ((rd_T69 l0 x3_1).f1) ((rd_T69 l0 x3_1).f2) ((rd_T69 l0 x3_1).f3) ((rd_T69 l0 x3_1).f4) ((rd_T69 l0 x3_1).f5) ((rd_T69 l0 x3_1).f6) t102 _ A5.out).mono ?_); rintro e w15 ⟨rfl, hb⟩; replace HB := Aside0.mk (below_step bel hb); (try clear hb); (try clear hb2); (try clear hk); (try clear hi))))
              go_ret
              exact ⟨ers, bel⟩
          · rw [if_neg c4] at H
            exact absurd H (by simp)
        · rw [if_neg c3] at H
          have c3b0 := decide_eq_false c3
          clear c3
          obtain rfl := Option.some.inj H
          go_wp2
          repeat (go_quiet (fail); try go_wp2)
          go_ret
          exact ⟨ers, bel⟩
mutual
def contangoref10_Check.j0 : Nat → Bool → ByteArray → Int → Int → Int → ByteArray → Int → Int → Int → Int → Int → Bool → Option (Int)
  | 0, _, _, _, _, _, _, _, _, _, _, _, _ => none
  | k + 1, x31, x102000, x102001, x102002, x102003, x112000, x112001, x112002, x112003, x112004, x112005, x112006 => if x31 = true then (some 19) else (if x102002 < 0 then (contangoref10_Check.j1 k true x102000 x102001 x102002 x102003 x112000 x112001 x112002 x112003 x112004 x112005 x112006) else (contangoref10_Check.j1 k (decide (x102002 > 73048)) x102000 x102001 x102002 x102003 x112000 x112001 x112002 x112003 x112004 x112005 x112006))
def contangoref10_Check.j1 : Nat → Bool → ByteArray → Int → Int → Int → ByteArray → Int → Int → Int → Int → Int → Bool → Option (Int)
  | 0, _, _, _, _, _, _, _, _, _, _, _, _ => none
  | k + 1, x39, x102000, x102001, x102002, x102003, x112000, x112001, x112002, x112003, x112004, x112005, x112006 => if x39 = true then (some 15) else (if x102001 = 1 then (if x102003 = 0 then (if x102001 > 1 then ((contangoref09_Price.f k x112000 x112001 x112002 x112003 x112004 x112005 x112006 x102003).bind fun t112 => (if t112 = 0 then (some 0) else (some 17))) else (some 0)) else (some 17)) else (if x102001 > 1 then ((contangoref09_Price.f k x112000 x112001 x112002 x112003 x112004 x112005 x112006 x102003).bind fun t113 => (if t113 = 0 then (some 0) else (some 17))) else (some 0)))
end
def contangoref10_Check.f (k : Nat) (l0 : List (S69)) (a1_0 : ByteArray) (a1_1 : Int) (a1_2 : Int) (a1_3 : Int) : Option (Int) := (contangoref09_CheckAll.f k l0).bind fun t102 => (if t102 = 0 then ((contangoref09_Find.f k l0 a1_0).bind fun bt103 => (if bt103.2.2.2.2.2.2.2 = true then (if a1_1 < 1 then (contangoref10_Check.j0 k true a1_0 a1_1 a1_2 a1_3 bt103.1 bt103.2.1 bt103.2.2.1 bt103.2.2.2.1 bt103.2.2.2.2.1 bt103.2.2.2.2.2.1 bt103.2.2.2.2.2.2.1) else (contangoref10_Check.j0 k (decide (a1_1 > 3)) a1_0 a1_1 a1_2 a1_3 bt103.1 bt103.2.1 bt103.2.2.1 bt103.2.2.2.1 bt103.2.2.2.2.1 bt103.2.2.2.2.2.1 bt103.2.2.2.2.2.2.1)) else (contangoref10_Check.j0 k true a1_0 a1_1 a1_2 a1_3 bt103.1 bt103.2.1 bt103.2.2.1 bt103.2.2.2.1 bt103.2.2.2.2.1 bt103.2.2.2.2.2.1 bt103.2.2.2.2.2.2.1))) else (some t102))
set_option maxHeartbeats 8000000 in
set_option maxRecDepth 100000 in
theorem contangoref10_Check.calls (k : Nat) (A0 : Option Addr) (c0 : Nat) (l0 : List (S69)) (a1_0 : ByteArray) (a1_1 : Int) (a1_2 : Int) (a1_3 : Int) (r : Int) (w : World) (hr0 : Kd.C k69 w A0 l0.length l0) (hc0 : l0.length ≤ c0) (h : contangoref10_Check.f k l0 a1_0 a1_1 a1_2 a1_3 = some r) :
    Calls Tryz.prog 37 #[.slice A0 l0.length c0, .agg #[.string a1_0, .int .i64 a1_1, .int .i64 a1_2, .int .i64 a1_3]] w fun e w' => e = .returned (.int .i64 r) ∧ Below w.heap.size w w' := by
  have hu23 := Tryz.underlying23
  have hu69 := Tryz.underlying69
  have HR0 := Aside0.mk hr0
  have HC0 := Aside0.mk hc0
  clear hr0 hc0
  have HB := Aside0.mk (Below.refl w.heap.size w)
  have H : ((contangoref09_CheckAll.f k l0).bind fun t102 => (if t102 = 0 then ((contangoref09_Find.f k l0 a1_0).bind fun bt103 => (if bt103.2.2.2.2.2.2.2 = true then (if a1_1 < 1 then (contangoref10_Check.j0 k true a1_0 a1_1 a1_2 a1_3 bt103.1 bt103.2.1 bt103.2.2.1 bt103.2.2.2.1 bt103.2.2.2.2.1 bt103.2.2.2.2.2.1 bt103.2.2.2.2.2.2.1) else (contangoref10_Check.j0 k (decide (a1_1 > 3)) a1_0 a1_1 a1_2 a1_3 bt103.1 bt103.2.1 bt103.2.2.1 bt103.2.2.2.1 bt103.2.2.2.2.1 bt103.2.2.2.2.2.1 bt103.2.2.2.2.2.2.1)) else (contangoref10_Check.j0 k true a1_0 a1_1 a1_2 a1_3 bt103.1 bt103.2.1 bt103.2.2.1 bt103.2.2.2.1 bt103.2.2.2.2.1 bt103.2.2.2.2.2.1 bt103.2.2.2.2.2.2.1))) else (some t102))) = some r := h
  clear h
  replace H := bnd H
  obtain ⟨t102, A30, H⟩ := H
  have A3 := Aside0.mk A30
  clear A30
  by_cases c4 : t102 = 0
  · rw [if_pos c4] at H
    have c4b0 : (t102 == 0) = true := beq_iff_eq.mpr c4
    have c4b1 : (t102 != 0) = false := bne_eq_false_iff_eq.mpr c4
    clear c4
    replace H := bnd H
    obtain ⟨⟨t103, t104, t105, t106, t107, t108, t109, t110⟩, A50, H⟩ := H
    replace H : (if t110 = true then (if a1_1 < 1 then (contangoref10_Check.j0 k true a1_0 a1_1 a1_2 a1_3 t103 t104 t105 t106 t107 t108 t109) else (contangoref10_Check.j0 k (decide (a1_1 > 3)) a1_0 a1_1 a1_2 a1_3 t103 t104 t105 t106 t107 t108 t109)) else (contangoref10_Check.j0 k true a1_0 a1_1 a1_2 a1_3 t103 t104 t105 t106 t107 t108 t109)) = some r := H
    have A5 := Aside0.mk A50
    clear A50
    have HC6 := Aside0.mk H
    clear H
    go_enter Tryz.func37, Tryz.ntmps37
    go_upto_region 5 with (first | ((with_reducible refine gate_dst (N := 3) rfl ?_); refine box_event ?hg (N := 3) ?hd (cs := #[.string a1_0, .int .i64 a1_1, .int .i64 a1_2, .int .i64 a1_3]) (t := 23) ?hr ?_; (case hd => rfl); (case hg => rfl); (case hr => first | (go_simp; done) | (go_simp; rfl)); intro gb101 hg w7 hbox hb; have BK101 := Aside0.mk (hbox); have GW101 := Aside0.mk ((gsz hg : w.heap.size ≤ gb101)); have GE101 := Aside0.mk ((gsz hg : w.heap.size ≤ gb101)); replace HB := Aside0.mk (below_step bel hb); clear hb hbox hg) | ((with_reducible refine gate_callee (f := 92) rfl ?_); refine goesL_ (some 9) rfl rfl Tryz.func92 (by kernel_rfl) rfl #[.slice A0 l0.length c0] rfl arg ?_; (with_reducible refine (contangoref09_CheckAll.calls k _ _ l0 t102 _ ?side1 ?side2 A3.out).mono ?_); (case side1 => repeat (first | exact (Kd.C_below HR0.out HB.out) | (with_reducible refine Kd.C_alloc ?_ _) | (with_reducible refine Kd.C_drewN ?_ _) | (with_reducible refine Kd.C_drew ?_))); (case side2 => exact HC0.out); rintro e w8 ⟨rfl, hb⟩; refine ⟨_, rfl, ?_⟩; replace BK101 := Aside0.mk (blk_below (g := gb101) (bw BK101.out) hb); replace HB := Aside0.mk (below_step bel hb); (try clear hb); (try clear hb2); (try clear hk); (try clear hi); obtain ⟨hcz9_0, hcz9_1, hcz9_2, hcz9_3, hfz9_0, hfz9_1, hfz9_2, hfz9_3⟩ := cz4 BK101.out) | ((with_reducible refine gate_callee (f := 39) rfl ?_); refine goesL_ (some 17) rfl rfl Tryz.func39 (by kernel_rfl) rfl #[.slice A0 l0.length c0, .string a1_0] rfl arg ?_; (with_reducible refine (contangoref09_Find.calls k _ _ l0 a1_0 t103 t104 t105 t106 t107 t108 t109 t110 _ ?side1 ?side2 A5.out).mono ?_); (case side1 => repeat (first | exact (Kd.C_below HR0.out HB.out) | (with_reducible refine Kd.C_alloc ?_ _) | (with_reducible refine Kd.C_drewN ?_ _) | (with_reducible refine Kd.C_drew ?_))); (case side2 => exact HC0.out); rintro e w10 ⟨rfl, hb⟩; refine ⟨_, rfl, ?_⟩; replace BK101 := Aside0.mk (blk_below (g := gb101) (bw BK101.out) hb); replace HB := Aside0.mk (below_step bel hb); (try clear hb); (try clear hb2); (try clear hk); (try clear hi)) | ((with_reducible refine gate_dst (N := 6) rfl ?_); refine box_event ?hg (N := 6) ?hd (cs := #[.string (⟨#[]⟩ : ByteArray), .int .i64 0, .int .i64 0, .int .i64 0, .int .i64 0, .int .i64 0, .bool false]) (t := 69) ?hr ?_; (case hd => rfl); (case hg => rfl); (case hr => first | (go_simp; done) | (go_simp; rfl)); intro gb111 hg w11 hbox hb; have BK111 := Aside0.mk (hbox); have GW111 := Aside0.mk ((gsz hg : w.heap.size ≤ gb111)); have GE111 := Aside0.mk ((gsz hg : w.heap.size ≤ gb111)); have NB101_111 := Aside0.mk ((nlt hg (bw BK101.out) : gb101 ≠ gb111)); have NB111_101 := Aside0.mk ((ngt hg (bw BK101.out) : gb111 ≠ gb101)); replace BK101 := Aside0.mk (blk_below (g := gb101) (bw BK101.out) hb); replace HB := Aside0.mk (below_step bel hb); clear hb hbox hg; have hnb12 := NB111_101.out; have hnc12 := NB101_111.out; obtain ⟨hcz13_0, hcz13_1, hcz13_2, hcz13_3, hcz13_4, hcz13_5, hcz13_6, hfz13_0, hfz13_1, hfz13_2, hfz13_3, hfz13_4, hfz13_5, hfz13_6⟩ := cz7 BK111.out))
    (try simp only [Act.put, List.setIfInBounds_toArray, List.set_cons_zero, List.set_cons_succ])
    go_cut [31] (fun v31 wc => ∃ (kq : Nat) (x31_5 : Bool), v31 = .bool x31_5 ∧ Aside0 (contangoref10_Check.j0 kq x31_5 a1_0 a1_1 a1_2 a1_3 t103 t104 t105 t106 t107 t108 t109 = some r) ∧ Aside0 (kq ≤ k) ∧ Aside0 (wc.heap[gb101]? = some (.cells #[.string a1_0, .int .i64 a1_1, .int .i64 a1_2, .int .i64 a1_3] 23 (0, 0))) ∧ Aside0 (wc.heap[gb111]? = some (.cells #[.string t103, .int .i64 t104, .int .i64 t105, .int .i64 t106, .int .i64 t107, .int .i64 t108, .bool t109] 69 (0, 0))) ∧ Aside0 (Below w.heap.size w wc))
    case first =>
      have H := HC6.out
      clear HC6
      by_cases c14 : t110 = true
      · subst c14
        rw [if_pos rfl] at H
        by_cases c15 : a1_1 < 1
        · rw [if_pos c15] at H
          have c15b0 := decide_eq_true c15
          clear c15
          (first | rw [c15b0] | (simp only [i64_w, i32_w]; rw [c15b0]) | skip)
          have H' := Aside0.mk H
          clear H
          have hnb16 := NB101_111.out
          have hnc16 := NB111_101.out
          obtain ⟨hcz17_0, hcz17_1, hcz17_2, hcz17_3, hfz17_0, hfz17_1, hfz17_2, hfz17_3⟩ := cz4 BK101.out
          go_wp2
          go_meet
          case rel => exact ⟨_, (true), eqs, H', ⟨by first | omega | exact Nat.le_refl _⟩, ⟨bs BK101.out⟩, ⟨bs BK111.out⟩, ⟨bel⟩⟩
        · rw [if_neg c15] at H
          have c15b0 := decide_eq_false c15
          clear c15
          (first | rw [c15b0] | (simp only [i64_w, i32_w]; rw [c15b0]) | skip)
          have H' := Aside0.mk H
          clear H
          have hnb18 := NB101_111.out
          have hnc18 := NB111_101.out
          obtain ⟨hcz19_0, hcz19_1, hcz19_2, hcz19_3, hfz19_0, hfz19_1, hfz19_2, hfz19_3⟩ := cz4 BK101.out
          go_wp2
          go_meet
          case rel => exact ⟨_, (decide (a1_1 > 3)), eqs, H', ⟨by first | omega | exact Nat.le_refl _⟩, ⟨bs BK101.out⟩, ⟨bs BK111.out⟩, ⟨bel⟩⟩
      · replace c14 := Bool.eq_false_iff.mpr c14
        subst c14
        rw [if_neg (show ¬ (false = true) by decide)] at H
        have H' := Aside0.mk H
        clear H
        go_wp2
        go_meet
        case rel => exact ⟨_, (true), eqs, H', ⟨by first | omega | exact Nat.le_refl _⟩, ⟨bs BK101.out⟩, ⟨bs BK111.out⟩, ⟨bel⟩⟩
    case rest =>
      clear HC6
      try clear c1
      try clear p2
      try clear c3
      try clear c4
      try clear c4b0
      try clear c4b1
      try clear c9
      try clear c12
      try clear c14
      try clear c15
      try clear c15b0
      try clear c16
      try clear c18
      try clear hcz13_0 hcz13_1 hcz13_2 hcz13_3 hcz13_4 hcz13_5 hcz13_6
      try clear hcz17_0 hcz17_1 hcz17_2 hcz17_3
      try clear hcz19_0 hcz19_1 hcz19_2 hcz19_3
      try clear hcz9_0 hcz9_1 hcz9_2 hcz9_3
      try clear hfz13_0 hfz13_1 hfz13_2 hfz13_3 hfz13_4 hfz13_5 hfz13_6
      try clear hfz17_0 hfz17_1 hfz17_2 hfz17_3
      try clear hfz19_0 hfz19_1 hfz19_2 hfz19_3
      try clear hfz9_0 hfz9_1 hfz9_2 hfz9_3
      obtain ⟨kq, x31_5, rfl, HA, HJ5, BK101, BK111, HB⟩ := hcut
      cases kq with
      | zero => exact absurd HA.out (by simp [contangoref10_Check.j0])
      | succ kj5 =>
        have H := HA.out
        clear HA
        simp only [contangoref10_Check.j0] at H
        by_cases c20 : x31_5 = true
        · subst c20
          rw [if_pos rfl] at H
          obtain rfl := Option.some.inj H
          go_wp2
          go_ret
          exact ⟨ers, bel⟩
        · replace c20 := Bool.eq_false_iff.mpr c20
          subst c20
          rw [if_neg (show ¬ (false = true) by decide)] at H
          have HC21 := Aside0.mk H
          clear H
          go_upto_region 7 with (fail)
          go_cut [39] (fun v39 wc => ∃ (kq : Nat) (x39_20 : Bool), v39 = .bool x39_20 ∧ Aside0 (contangoref10_Check.j1 kq x39_20 a1_0 a1_1 a1_2 a1_3 t103 t104 t105 t106 t107 t108 t109 = some r) ∧ Aside0 (kq ≤ kj5) ∧ Aside0 (wc.heap[gb101]? = some (.cells #[.string a1_0, .int .i64 a1_1, .int .i64 a1_2, .int .i64 a1_3] 23 (0, 0))) ∧ Aside0 (wc.heap[gb111]? = some (.cells #[.string t103, .int .i64 t104, .int .i64 t105, .int .i64 t106, .int .i64 t107, .int .i64 t108, .bool t109] 69 (0, 0))) ∧ Aside0 (Below w.heap.size w wc))
          case first =>
            have H := HC21.out
            clear HC21
            by_cases c22 : a1_2 < 0
            · rw [if_pos c22] at H
              have c22b0 := decide_eq_true c22
              clear c22
              (first | rw [c22b0] | (simp only [i64_w, i32_w]; rw [c22b0]) | skip)
              have H' := Aside0.mk H
              clear H
              have hnb23 := NB101_111.out
              have hnc23 := NB111_101.out
              obtain ⟨hcz24_0, hcz24_1, hcz24_2, hcz24_3, hfz24_0, hfz24_1, hfz24_2, hfz24_3⟩ := cz4 BK101.out
              go_wp2
              go_meet
              case rel => exact ⟨_, (true), eqs, H', ⟨by have := HJ5.out; first | omega | exact Nat.le_refl _⟩, ⟨bw BK101.out⟩, ⟨bw BK111.out⟩, ⟨bel⟩⟩
            · rw [if_neg c22] at H
              have c22b0 := decide_eq_false c22
              clear c22
              (first | rw [c22b0] | (simp only [i64_w, i32_w]; rw [c22b0]) | skip)
              have H' := Aside0.mk H
              clear H
              have hnb25 := NB101_111.out
              have hnc25 := NB111_101.out
              obtain ⟨hcz26_0, hcz26_1, hcz26_2, hcz26_3, hfz26_0, hfz26_1, hfz26_2, hfz26_3⟩ := cz4 BK101.out
              go_wp2
              go_meet
              case rel => exact ⟨_, (decide (a1_2 > 73048)), eqs, H', ⟨by have := HJ5.out; first | omega | exact Nat.le_refl _⟩, ⟨bw BK101.out⟩, ⟨bw BK111.out⟩, ⟨bel⟩⟩
          case rest =>
            clear HC21
            try clear c1
            try clear c2
            try clear p2
            try clear c3
            try clear c4
            try clear c4b0
            try clear c4b1
            try clear c9
            try clear c12
            try clear c14
            try clear c15
            try clear c15b0
            try clear c16
            try clear c18
            try clear c20
            try clear c22
            try clear c22b0
            try clear c23
            try clear c25
            try clear hcz13_0 hcz13_1 hcz13_2 hcz13_3 hcz13_4 hcz13_5 hcz13_6
            try clear hcz17_0 hcz17_1 hcz17_2 hcz17_3
            try clear hcz19_0 hcz19_1 hcz19_2 hcz19_3
            try clear hcz24_0 hcz24_1 hcz24_2 hcz24_3
            try clear hcz26_0 hcz26_1 hcz26_2 hcz26_3
            try clear hcz9_0 hcz9_1 hcz9_2 hcz9_3
            try clear hfz13_0 hfz13_1 hfz13_2 hfz13_3 hfz13_4 hfz13_5 hfz13_6
            try clear hfz17_0 hfz17_1 hfz17_2 hfz17_3
            try clear hfz19_0 hfz19_1 hfz19_2 hfz19_3
            try clear hfz24_0 hfz24_1 hfz24_2 hfz24_3
            try clear hfz26_0 hfz26_1 hfz26_2 hfz26_3
            try clear hfz9_0 hfz9_1 hfz9_2 hfz9_3
            try clear p2
            obtain ⟨kq, x39_20, rfl, HA, HJ20, BK101, BK111, HB⟩ := hcut
            cases kq with
            | zero => exact absurd HA.out (by simp [contangoref10_Check.j1])
            | succ kj20 =>
              have H := HA.out
              clear HA
              simp only [contangoref10_Check.j1] at H
              by_cases c27 : x39_20 = true
              · subst c27
                rw [if_pos rfl] at H
                obtain rfl := Option.some.inj H
                go_wp2
                go_ret
                exact ⟨ers, bel⟩
              · replace c27 := Bool.eq_false_iff.mpr c27
                subst c27
                rw [if_neg (show ¬ (false = true) by decide)] at H
                by_cases c28 : a1_1 = 1
                · rw [if_pos c28] at H
                  have c28b0 : (a1_1 == 1) = true := beq_iff_eq.mpr c28
                  have c28b1 : (a1_1 != 1) = false := bne_eq_false_iff_eq.mpr c28
                  clear c28
                  by_cases c29 : a1_3 = 0
                  · rw [if_pos c29] at H
                    have c29b0 : (a1_3 == 0) = true := beq_iff_eq.mpr c29
                    have c29b1 : (a1_3 != 0) = false := bne_eq_false_iff_eq.mpr c29
                    clear c29
                    by_cases c30 : a1_1 > 1
                    · rw [if_pos c30] at H
                      have c30b0 : decide (1 < a1_1) = true := decide_eq_true c30
                      clear c30
                      replace H := bnd H
                      obtain ⟨t112, A310, H⟩ := H
                      have A31 := Aside0.mk A310
                      clear A310
                      by_cases c32 : t112 = 0
                      · rw [if_pos c32] at H
                        have c32b0 : (t112 == 0) = true := beq_iff_eq.mpr c32
                        have c32b1 : (t112 != 0) = false := bne_eq_false_iff_eq.mpr c32
                        clear c32
                        obtain rfl := Option.some.inj H
                        have hnb33 := NB101_111.out
                        have hnc33 := NB111_101.out
                        obtain ⟨hcz34_0, hcz34_1, hcz34_2, hcz34_3, hfz34_0, hfz34_1, hfz34_2, hfz34_3⟩ := cz4 BK101.out
                        obtain ⟨hcz35_0, hcz35_1, hcz35_2, hcz35_3, hcz35_4, hcz35_5, hcz35_6, hfz35_0, hfz35_1, hfz35_2, hfz35_3, hfz35_4, hfz35_5, hfz35_6⟩ := cz7 BK111.out
                        go_wp2_with (first | (go_at_call 40; (with_reducible refine (contangoref09_Price.calls kj20 t103 t104 t105 t106 t107 t108 t109 a1_3 t112 _ A31.out).mono ?_); rintro e w36 ⟨rfl, hb⟩; replace BK101 := Aside0.mk (blk_below (g := gb101) (bw BK101.out) hb); replace BK111 := Aside0.mk (blk_below (g := gb111) (bw BK111.out) hb); replace HB := Aside0.mk (below_step bel hb); (try clear hb); (try clear hb2); (try clear hk); (try clear hi)))
                        go_ret
                        exact ⟨ers, bel⟩
                      · rw [if_neg c32] at H
                        have c32b0 : (t112 == 0) = false := beq_eq_false_iff_ne.mpr c32
                        have c32b1 : (t112 != 0) = true := bne_iff_ne.mpr c32
                        obtain rfl := Option.some.inj H
                        have hnb37 := NB101_111.out
                        have hnc37 := NB111_101.out
                        obtain ⟨hcz38_0, hcz38_1, hcz38_2, hcz38_3, hfz38_0, hfz38_1, hfz38_2, hfz38_3⟩ := cz4 BK101.out
                        obtain ⟨hcz39_0, hcz39_1, hcz39_2, hcz39_3, hcz39_4, hcz39_5, hcz39_6, hfz39_0, hfz39_1, hfz39_2, hfz39_3, hfz39_4, hfz39_5, hfz39_6⟩ := cz7 BK111.out
                        go_wp2_with (first | (go_at_call 40; (with_reducible refine (contangoref09_Price.calls kj20 t103 t104 t105 t106 t107 t108 t109 a1_3 t112 _ A31.out).mono ?_); rintro e w40 ⟨rfl, hb⟩; replace BK101 := Aside0.mk (blk_below (g := gb101) (bw BK101.out) hb); replace BK111 := Aside0.mk (blk_below (g := gb111) (bw BK111.out) hb); replace HB := Aside0.mk (below_step bel hb); (try clear hb); (try clear hb2); (try clear hk); (try clear hi)))
                        go_ret
                        exact ⟨ers, bel⟩
                    · rw [if_neg c30] at H
                      have c30b0 : decide (1 < a1_1) = false := decide_eq_false c30
                      clear c30
                      obtain rfl := Option.some.inj H
                      have hnb41 := NB101_111.out
                      have hnc41 := NB111_101.out
                      obtain ⟨hcz42_0, hcz42_1, hcz42_2, hcz42_3, hfz42_0, hfz42_1, hfz42_2, hfz42_3⟩ := cz4 BK101.out
                      go_wp2
                      go_ret
                      exact ⟨ers, bel⟩
                  · rw [if_neg c29] at H
                    have c29b0 : (a1_3 == 0) = false := beq_eq_false_iff_ne.mpr c29
                    have c29b1 : (a1_3 != 0) = true := bne_iff_ne.mpr c29
                    obtain rfl := Option.some.inj H
                    have hnb43 := NB101_111.out
                    have hnc43 := NB111_101.out
                    obtain ⟨hcz44_0, hcz44_1, hcz44_2, hcz44_3, hfz44_0, hfz44_1, hfz44_2, hfz44_3⟩ := cz4 BK101.out
                    go_wp2
                    go_ret
                    exact ⟨ers, bel⟩
                · rw [if_neg c28] at H
                  have c28b0 : (a1_1 == 1) = false := beq_eq_false_iff_ne.mpr c28
                  have c28b1 : (a1_1 != 1) = true := bne_iff_ne.mpr c28
                  by_cases c45 : a1_1 > 1
                  · rw [if_pos c45] at H
                    have c45b0 : decide (1 < a1_1) = true := decide_eq_true c45
                    clear c45
                    replace H := bnd H
                    obtain ⟨t113, A460, H⟩ := H
                    have A46 := Aside0.mk A460
                    clear A460
                    by_cases c47 : t113 = 0
                    · rw [if_pos c47] at H
                      have c47b0 : (t113 == 0) = true := beq_iff_eq.mpr c47
                      have c47b1 : (t113 != 0) = false := bne_eq_false_iff_eq.mpr c47
                      clear c47
                      obtain rfl := Option.some.inj H
                      have hnb48 := NB101_111.out
                      have hnc48 := NB111_101.out
                      obtain ⟨hcz49_0, hcz49_1, hcz49_2, hcz49_3, hfz49_0, hfz49_1, hfz49_2, hfz49_3⟩ := cz4 BK101.out
                      obtain ⟨hcz50_0, hcz50_1, hcz50_2, hcz50_3, hcz50_4, hcz50_5, hcz50_6, hfz50_0, hfz50_1, hfz50_2, hfz50_3, hfz50_4, hfz50_5, hfz50_6⟩ := cz7 BK111.out
                      go_wp2_with (first | (go_at_call 40; (with_reducible refine (contangoref09_Price.calls kj20 t103 t104 t105 t106 t107 t108 t109 a1_3 t113 _ A46.out).mono ?_); rintro e w51 ⟨rfl, hb⟩; replace BK101 := Aside0.mk (blk_below (g := gb101) (bw BK101.out) hb); replace BK111 := Aside0.mk (blk_below (g := gb111) (bw BK111.out) hb); replace HB := Aside0.mk (below_step bel hb); (try clear hb); (try clear hb2); (try clear hk); (try clear hi)))
                      go_ret
                      exact ⟨ers, bel⟩
                    · rw [if_neg c47] at H
                      have c47b0 : (t113 == 0) = false := beq_eq_false_iff_ne.mpr c47
                      have c47b1 : (t113 != 0) = true := bne_iff_ne.mpr c47
                      obtain rfl := Option.some.inj H
                      have hnb52 := NB101_111.out
                      have hnc52 := NB111_101.out
                      obtain ⟨hcz53_0, hcz53_1, hcz53_2, hcz53_3, hfz53_0, hfz53_1, hfz53_2, hfz53_3⟩ := cz4 BK101.out
                      obtain ⟨hcz54_0, hcz54_1, hcz54_2, hcz54_3, hcz54_4, hcz54_5, hcz54_6, hfz54_0, hfz54_1, hfz54_2, hfz54_3, hfz54_4, hfz54_5, hfz54_6⟩ := cz7 BK111.out
                      go_wp2_with (first | (go_at_call 40; (with_reducible refine (contangoref09_Price.calls kj20 t103 t104 t105 t106 t107 t108 t109 a1_3 t113 _ A46.out).mono ?_); rintro e w55 ⟨rfl, hb⟩; replace BK101 := Aside0.mk (blk_below (g := gb101) (bw BK101.out) hb); replace BK111 := Aside0.mk (blk_below (g := gb111) (bw BK111.out) hb); replace HB := Aside0.mk (below_step bel hb); (try clear hb); (try clear hb2); (try clear hk); (try clear hi)))
                      go_ret
                      exact ⟨ers, bel⟩
                  · rw [if_neg c45] at H
                    have c45b0 : decide (1 < a1_1) = false := decide_eq_false c45
                    clear c45
                    obtain rfl := Option.some.inj H
                    have hnb56 := NB101_111.out
                    have hnc56 := NB111_101.out
                    obtain ⟨hcz57_0, hcz57_1, hcz57_2, hcz57_3, hfz57_0, hfz57_1, hfz57_2, hfz57_3⟩ := cz4 BK101.out
                    go_wp2
                    go_ret
                    exact ⟨ers, bel⟩
  · rw [if_neg c4] at H
    have c4b0 : (t102 == 0) = false := beq_eq_false_iff_ne.mpr c4
    have c4b1 : (t102 != 0) = true := bne_iff_ne.mpr c4
    obtain rfl := Option.some.inj H
    go_enter Tryz.func37, Tryz.ntmps37
    go_wp2_with (first | ((with_reducible refine gate_dst (N := 3) rfl ?_); refine box_event ?hg (N := 3) ?hd (cs := #[.string a1_0, .int .i64 a1_1, .int .i64 a1_2, .int .i64 a1_3]) (t := 23) ?hr ?_; (case hd => rfl); (case hg => rfl); (case hr => first | (go_simp; done) | (go_simp; rfl)); intro gb101 hg w58 hbox hb; have BK101 := Aside0.mk (hbox); have GW101 := Aside0.mk ((gsz hg : w.heap.size ≤ gb101)); have GE101 := Aside0.mk ((gsz hg : w.heap.size ≤ gb101)); replace HB := Aside0.mk (below_step bel hb); clear hb hbox hg) | ((with_reducible refine gate_callee (f := 92) rfl ?_); refine goesL_ (some 9) rfl rfl Tryz.func92 (by kernel_rfl) rfl #[.slice A0 l0.length c0] rfl arg ?_; (with_reducible refine (contangoref09_CheckAll.calls k _ _ l0 t102 _ ?side1 ?side2 A3.out).mono ?_); (case side1 => repeat (first | exact (Kd.C_below HR0.out HB.out) | (with_reducible refine Kd.C_alloc ?_ _) | (with_reducible refine Kd.C_drewN ?_ _) | (with_reducible refine Kd.C_drew ?_))); (case side2 => exact HC0.out); rintro e w59 ⟨rfl, hb⟩; refine ⟨_, rfl, ?_⟩; replace BK101 := Aside0.mk (blk_below (g := gb101) (bw BK101.out) hb); replace HB := Aside0.mk (below_step bel hb); (try clear hb); (try clear hb2); (try clear hk); (try clear hi)))
    go_ret
    exact ⟨ers, bel⟩
def contangoref10_Live.f (a0_0 : ByteArray) (a0_1 : Int) (a0_2 : Int) (a0_3 : Int) (a1 : Int) : Option (Bool) := some (decide (a0_2 ≥ a1))
set_option maxHeartbeats 8000000 in
set_option maxRecDepth 100000 in
theorem contangoref10_Live.calls (a0_0 : ByteArray) (a0_1 : Int) (a0_2 : Int) (a0_3 : Int) (a1 : Int) (r : Bool) (w : World) (h : contangoref10_Live.f a0_0 a0_1 a0_2 a0_3 a1 = some r) :
    Calls Tryz.prog 38 #[.agg #[.string a0_0, .int .i64 a0_1, .int .i64 a0_2, .int .i64 a0_3], .int .i64 a1] w fun e w' => e = .returned (.bool r) ∧ Below w.heap.size w w' := by
  have hu23 := Tryz.underlying23
  have HB := Aside0.mk (Below.refl w.heap.size w)
  have H : (some (decide (a0_2 ≥ a1))) = some r := h
  clear h
  obtain rfl := Option.some.inj H
  go_enter Tryz.func38, Tryz.ntmps38
  go_wp2_with (first | ((with_reducible refine gate_dst (N := 2) rfl ?_); refine box_event ?hg (N := 2) ?hd (cs := #[.string a0_0, .int .i64 a0_1, .int .i64 a0_2, .int .i64 a0_3]) (t := 23) ?hr ?_; (case hd => rfl); (case hg => rfl); (case hr => first | (go_simp; done) | (go_simp; rfl)); intro gb101 hg w3 hbox hb; have BK101 := Aside0.mk (hbox); have GW101 := Aside0.mk ((gsz hg : w.heap.size ≤ gb101)); have GE101 := Aside0.mk ((gsz hg : w.heap.size ≤ gb101)); replace HB := Aside0.mk (below_step bel hb); clear hb hbox hg; obtain ⟨hcz4_0, hcz4_1, hcz4_2, hcz4_3, hfz4_0, hfz4_1, hfz4_2, hfz4_3⟩ := cz4 BK101.out))
  go_ret
  exact ⟨ers, bel⟩
mutual
def contangoref11_accounts.l0 : Nat → List (S151) → Int → Option (Int)
  | 0, _, _ => none
  | k + 1, x0, x3 => if x3 < (x0.length : Int) then (if 0 ≤ x3 then ((contangoref03_Name.f k ((rd_T151 x0 x3).f0)).bind fun t102 => (if t102 = true then (if x3 > 0 then (if 0 ≤ (wrap64 (x3 - 1)) then (if (wrap64 (x3 - 1)) < (x0.length : Int) then (contangoref11_accounts.j1 k x0 x3 (!(Op.bytesLess (((rd_T151 x0 (wrap64 (x3 - 1))).f0).toList) (((rd_T151 x0 x3).f0).toList)))) else (none)) else (none)) else (contangoref11_accounts.j1 k x0 x3 false)) else (some 10))) else (none)) else (some 0)
def contangoref11_accounts.j1 : Nat → List (S151) → Int → Bool → Option (Int)
  | 0, _, _, _ => none
  | k + 1, x0, x3, x35 => if x35 = true then (some 12) else (if 0 ≤ x3 then (if x3 < (x0.length : Int) then (if ((rd_T151 x0 x3).f1) < 1 then (some 21) else (if ((rd_T151 x0 x3).f1) > 3 then (some 21) else (contangoref11_accounts.l0 k x0 (wrap64 (x3 + 1))))) else (none)) else (none))
end
def contangoref11_accounts.f (k : Nat) (l0 : List (S151)) : Option (Int) := if (l0.length : Int) > 16 then (some 8) else (contangoref11_accounts.l0 k l0 0)
set_option maxHeartbeats 8000000 in
set_option maxRecDepth 100000 in
theorem contangoref11_accounts.calls (k : Nat) (A0 : Option Addr) (c0 : Nat) (l0 : List (S151)) (r : Int) (w : World) (hr0 : Kd.C k151 w A0 l0.length l0) (hc0 : l0.length ≤ c0) (h : contangoref11_accounts.f k l0 = some r) :
    Calls Tryz.prog 96 #[.slice A0 l0.length c0] w fun e w' => e = .returned (.int .i64 r) ∧ Drawn0 w w' := by
  have HR0 := Aside0.mk hr0
  have HC0 := Aside0.mk hc0
  clear hr0 hc0
  have H : (if (l0.length : Int) > 16 then (some 8) else (contangoref11_accounts.l0 k l0 0)) = some r := h
  clear h
  by_cases c2 : (l0.length : Int) > 16
  · rw [if_pos c2] at H
    have c2b0 : decide (16 < (l0.length : Int)) = true := decide_eq_true c2
    have c2b1 : decide (16 < l0.length) = true := decide_eq_true (by omega)
    clear c2
    obtain rfl := Option.some.inj H
    go_enter Tryz.func96, Tryz.ntmps96
    go_wp2
    repeat (go_quiet (fail); try go_wp2)
    go_ret
    exact ⟨eqs, drz⟩
  · rw [if_neg c2] at H
    have c2b0 : decide (16 < (l0.length : Int)) = false := decide_eq_false c2
    have c2b1 : decide (16 < l0.length) = false := decide_eq_false (by omega)
    clear c2
    have H' := Aside0.mk H
    clear H
    go_enter Tryz.func96, Tryz.ntmps96
    go_wp2
    repeat (go_quiet (fail); try go_wp2)
    go_loopg [3] k (fun kq v3 w' => ∃ (x3_1 : Int), v3 = .int .i64 x3_1 ∧ Aside0 (contangoref11_accounts.l0 kq l0 x3_1 = some r) ∧ Aside0 (kq ≤ k) ∧ Drawn0 w w')
    case atStart => exact ⟨(0), eqs, H', ⟨Nat.le_refl _⟩, drz⟩
    case round =>
      clear H'
      try clear c2
      try clear c2b0
      try clear c2b1
      try clear p2
      obtain ⟨x3_1, rfl, HA, HK1, ⟨m1, rfl⟩⟩ := hrel
      cases gk with
      | zero => exact absurd HA.out (by simp [contangoref11_accounts.l0])
      | succ k1 =>
        have H := HA.out
        clear HA
        simp only [contangoref11_accounts.l0] at H
        by_cases c3 : x3_1 < (l0.length : Int)
        · rw [if_pos c3] at H
          have c3b0 := decide_eq_true c3
          clear c3
          by_cases c4 : 0 ≤ x3_1
          · rw [if_pos c4] at H
            have c4b0 := decide_eq_true c4
            clear c4
            replace H := bnd H
            obtain ⟨t102, A50, H⟩ := H
            have A5 := Aside0.mk A50
            clear A50
            by_cases c6 : t102 = true
            · subst c6
              rw [if_pos rfl] at H
              have HC7 := Aside0.mk H
              clear H
              have p101 : 0 ≤ (x3_1 : Int) := dt
              have q101 : x3_1 < (l0.length : Int) := dt
              obtain ⟨ad101, e101, hx101_0, hx101_1⟩ := at_T151 HR0.out x3_1 p101 q101
              cases e101
              replace p101 := eq_true p101
              replace q101 := eq_true q101
              go_upto_region 8 with (first | (go_at_call 95; (with_reducible refine (contangoref03_Name.calls k1 ((rd_T151 l0 x3_1).f0) true _ A5.out).mono ?_); rintro e w' ⟨rfl, ⟨nd, rfl⟩⟩; (try first | exact ⟨rfl, _, World.drewN_drewN _ _ _⟩ | exact ⟨rfl, _, Eq.trans (World.drewN_drewN _ _ _) (congrArg (World.drewN _) (Nat.add_assoc _ _ _))⟩)))
              repeat (go_quiet (first | (go_at_call 95; (with_reducible refine (contangoref03_Name.calls k1 ((rd_T151 l0 x3_1).f0) true _ A5.out).mono ?_); rintro e w' ⟨rfl, ⟨nd, rfl⟩⟩; (try first | exact ⟨rfl, _, World.drewN_drewN _ _ _⟩ | exact ⟨rfl, _, Eq.trans (World.drewN_drewN _ _ _) (congrArg (World.drewN _) (Nat.add_assoc _ _ _))⟩))); go_upto_region 8 with (first | (go_at_call 95; (with_reducible refine (contangoref03_Name.calls k1 ((rd_T151 l0 x3_1).f0) true _ A5.out).mono ?_); rintro e w' ⟨rfl, ⟨nd, rfl⟩⟩; (try first | exact ⟨rfl, _, World.drewN_drewN _ _ _⟩ | exact ⟨rfl, _, Eq.trans (World.drewN_drewN _ _ _) (congrArg (World.drewN _) (Nat.add_assoc _ _ _))⟩))))
              (try simp only [Act.put, List.setIfInBounds_toArray, List.set_cons_zero, List.set_cons_succ])
              go_cut [35] (fun v35 wc => ∃ (kq : Nat) (x35_6 : Bool), v35 = .bool x35_6 ∧ Aside0 (contangoref11_accounts.j1 kq l0 x3_1 x35_6 = some r) ∧ Aside0 (kq ≤ k1) ∧ Drawn0 w wc)
              case first =>
                have H := HC7.out
                clear HC7
                by_cases c8 : x3_1 > 0
                · rw [if_pos c8] at H
                  have c8b0 : decide (0 < x3_1) = true := decide_eq_true c8
                  clear c8
                  (first | rw [c8b0] | (simp only [i64_w, i32_w]; rw [c8b0]) | skip)
                  obtain ⟨ji9, hji9⟩ : ∃ j_ : Int, (wrap64 (x3_1 - 1)) = j_ := ⟨_, rfl⟩
                  replace H : (if 0 ≤ (ji9) then (if (ji9) < (l0.length : Int) then (contangoref11_accounts.j1 k1 l0 x3_1 (!(Op.bytesLess (((rd_T151 l0 (ji9)).f0).toList) (((rd_T151 l0 x3_1).f0).toList)))) else (none)) else (none)) = some r := by first | (rw [hji9] at H; exact H) | (simp only [hji9] at H ⊢; exact H)
                  have hji9w : (IntKind.i64.wrap (x3_1 - 1)) = ji9 := (i64_w _).trans hji9
                  by_cases c10 : 0 ≤ (ji9)
                  · rw [if_pos c10] at H
                    have c10b0 := decide_eq_true c10
                    clear c10
                    by_cases c11 : (ji9) < (l0.length : Int)
                    · rw [if_pos c11] at H
                      have c11b0 := decide_eq_true c11
                      clear c11
                      have H' := Aside0.mk H
                      clear H
                      have p103 : 0 ≤ (x3_1 : Int) := dt
                      have q103 : x3_1 < (l0.length : Int) := dt
                      obtain ⟨ad103, e103, hx103_0, hx103_1⟩ := at_T151 HR0.out x3_1 p103 q103
                      obtain rfl : ad101 = ad103 := (by injection e103)
                      replace p103 := eq_true p103
                      replace q103 := eq_true q103
                      have p104 : 0 ≤ ((ji9) : Int) := dt
                      have q104 : (ji9) < (l0.length : Int) := dt
                      obtain ⟨ad104, e104, hx104_0, hx104_1⟩ := at_T151 HR0.out (ji9) p104 q104
                      obtain rfl : ad101 = ad104 := (by injection e104)
                      replace p104 := eq_true p104
                      replace q104 := eq_true q104
                      go_wp2
                      repeat (go_quiet (fail); try go_wp2)
                      go_meet
                      case rel => exact ⟨_, (!(Op.bytesLess (((rd_T151 l0 (ji9)).f0).toList) (((rd_T151 l0 x3_1).f0).toList))), (by first | rfl | (simp; done) | (simp only [← hji9] <;> (first | rfl | simp)) | (simp [*]; done)), H', ⟨by have := HK1.out; first | omega | exact Nat.le_refl _⟩, drz⟩
                    · rw [if_neg c11] at H
                      exact absurd H (by simp)
                  · rw [if_neg c10] at H
                    exact absurd H (by simp)
                · rw [if_neg c8] at H
                  have c8b0 : decide (0 < x3_1) = false := decide_eq_false c8
                  clear c8
                  (first | rw [c8b0] | (simp only [i64_w, i32_w]; rw [c8b0]) | skip)
                  have H' := Aside0.mk H
                  clear H
                  go_wp2
                  repeat (go_quiet (fail); try go_wp2)
                  go_meet
                  case rel => exact ⟨_, (false), eqs, H', ⟨by have := HK1.out; first | omega | exact Nat.le_refl _⟩, drz⟩
              case rest =>
                clear HC7
                try clear c1
                try clear p1
                try clear q1
                try clear hx1
                try clear c2
                try clear c2b0
                try clear c2b1
                try clear p2
                try clear c3
                try clear c3b0
                try clear c4
                try clear c4b0
                try clear c6
                try clear p6
                try clear c8
                try clear c8b0
                try clear c9
                try clear c10
                try clear c10b0
                try clear p10
                try clear q10
                try clear hx10
                try clear c11
                try clear c11b0
                try clear hx101_0
                try clear hx101_1
                try clear hx103_0
                try clear hx103_1
                try clear hx104_0
                try clear hx104_1
                try clear p101
                try clear p103
                try clear p104
                try clear p2
                try clear q101
                try clear q103
                try clear q104
                obtain ⟨kq, x35_6, rfl, HA, HJ6, ⟨mc6, rfl⟩⟩ := hcut
                cases kq with
                | zero => exact absurd HA.out (by simp [contangoref11_accounts.j1])
                | succ kj6 =>
                  have H := HA.out
                  clear HA
                  simp only [contangoref11_accounts.j1] at H
                  by_cases c12 : x35_6 = true
                  · subst c12
                    rw [if_pos rfl] at H
                    obtain rfl := Option.some.inj H
                    go_wp2
                    repeat (go_quiet (fail); try go_wp2)
                    go_ret
                    exact ⟨eqs, drz⟩
                  · replace c12 := Bool.eq_false_iff.mpr c12
                    subst c12
                    rw [if_neg (show ¬ (false = true) by decide)] at H
                    by_cases c13 : 0 ≤ x3_1
                    · rw [if_pos c13] at H
                      have c13b0 := decide_eq_true c13
                      clear c13
                      by_cases c14 : x3_1 < (l0.length : Int)
                      · rw [if_pos c14] at H
                        have c14b0 := decide_eq_true c14
                        clear c14
                        by_cases c15 : ((rd_T151 l0 x3_1).f1) < 1
                        · rw [if_pos c15] at H
                          have c15b0 := decide_eq_true c15
                          clear c15
                          obtain rfl := Option.some.inj H
                          have p105 : 0 ≤ (x3_1 : Int) := dt
                          have q105 : x3_1 < (l0.length : Int) := dt
                          obtain ⟨ad105, e105, hx105_0, hx105_1⟩ := at_T151 HR0.out x3_1 p105 q105
                          obtain rfl : ad101 = ad105 := (by injection e105)
                          replace p105 := eq_true p105
                          replace q105 := eq_true q105
                          go_wp2
                          repeat (go_quiet (fail); try go_wp2)
                          go_ret
                          exact ⟨eqs, drz⟩
                        · rw [if_neg c15] at H
                          have c15b0 := decide_eq_false c15
                          clear c15
                          by_cases c16 : ((rd_T151 l0 x3_1).f1) > 3
                          · rw [if_pos c16] at H
                            have c16b0 : decide (3 < ((rd_T151 l0 x3_1).f1)) = true := decide_eq_true c16
                            clear c16
                            obtain rfl := Option.some.inj H
                            have p105 : 0 ≤ (x3_1 : Int) := dt
                            have q105 : x3_1 < (l0.length : Int) := dt
                            obtain ⟨ad105, e105, hx105_0, hx105_1⟩ := at_T151 HR0.out x3_1 p105 q105
                            obtain rfl : ad101 = ad105 := (by injection e105)
                            replace p105 := eq_true p105
                            replace q105 := eq_true q105
                            have p106 : 0 ≤ (x3_1 : Int) := dt
                            have q106 : x3_1 < (l0.length : Int) := dt
                            obtain ⟨ad106, e106, hx106_0, hx106_1⟩ := at_T151 HR0.out x3_1 p106 q106
                            obtain rfl : ad101 = ad106 := (by injection e106)
                            replace p106 := eq_true p106
                            replace q106 := eq_true q106
                            go_wp2
                            repeat (go_quiet (fail); try go_wp2)
                            go_ret
                            exact ⟨eqs, drz⟩
                          · rw [if_neg c16] at H
                            have c16b0 : decide (3 < ((rd_T151 l0 x3_1).f1)) = false := decide_eq_false c16
                            clear c16
                            have H' := Aside0.mk H
                            clear H
                            have p105 : 0 ≤ (x3_1 : Int) := dt
                            have q105 : x3_1 < (l0.length : Int) := dt
                            obtain ⟨ad105, e105, hx105_0, hx105_1⟩ := at_T151 HR0.out x3_1 p105 q105
                            obtain rfl : ad101 = ad105 := (by injection e105)
                            replace p105 := eq_true p105
                            replace q105 := eq_true q105
                            have p106 : 0 ≤ (x3_1 : Int) := dt
                            have q106 : x3_1 < (l0.length : Int) := dt
                            obtain ⟨ad106, e106, hx106_0, hx106_1⟩ := at_T151 HR0.out x3_1 p106 q106
                            obtain rfl : ad101 = ad106 := (by injection e106)
                            replace p106 := eq_true p106
                            replace q106 := eq_true q106
                            go_wp2
                            repeat (go_quiet (fail); try go_wp2)
                            go_roundg kj6
                            case measure => have := HK1.out; have := HJ6.out; omega
                            case rel => exact ⟨(wrap64 (x3_1 + 1)), eqs, H', ⟨by have := HK1.out; have := HJ6.out; omega⟩, drz⟩
                      · rw [if_neg c14] at H
                        exact absurd H (by simp)
                    · rw [if_neg c13] at H
                      exact absurd H (by simp)
            · replace c6 := Bool.eq_false_iff.mpr c6
              subst c6
              rw [if_neg (show ¬ (false = true) by decide)] at H
              obtain rfl := Option.some.inj H
              have p101 : 0 ≤ (x3_1 : Int) := dt
              have q101 : x3_1 < (l0.length : Int) := dt
              obtain ⟨ad101, e101, hx101_0, hx101_1⟩ := at_T151 HR0.out x3_1 p101 q101
              cases e101
              replace p101 := eq_true p101
              replace q101 := eq_true q101
              go_wp2_with (first | (go_at_call 95; (with_reducible refine (contangoref03_Name.calls k1 ((rd_T151 l0 x3_1).f0) false _ A5.out).mono ?_); rintro e w' ⟨rfl, ⟨nd, rfl⟩⟩; (try first | exact ⟨rfl, _, World.drewN_drewN _ _ _⟩ | exact ⟨rfl, _, Eq.trans (World.drewN_drewN _ _ _) (congrArg (World.drewN _) (Nat.add_assoc _ _ _))⟩)))
              repeat (go_quiet (first | (go_at_call 95; (with_reducible refine (contangoref03_Name.calls k1 ((rd_T151 l0 x3_1).f0) false _ A5.out).mono ?_); rintro e w' ⟨rfl, ⟨nd, rfl⟩⟩; (try first | exact ⟨rfl, _, World.drewN_drewN _ _ _⟩ | exact ⟨rfl, _, Eq.trans (World.drewN_drewN _ _ _) (congrArg (World.drewN _) (Nat.add_assoc _ _ _))⟩))); try go_wp2_with (first | (go_at_call 95; (with_reducible refine (contangoref03_Name.calls k1 ((rd_T151 l0 x3_1).f0) false _ A5.out).mono ?_); rintro e w' ⟨rfl, ⟨nd, rfl⟩⟩; (try first | exact ⟨rfl, _, World.drewN_drewN _ _ _⟩ | exact ⟨rfl, _, Eq.trans (World.drewN_drewN _ _ _) (congrArg (World.drewN _) (Nat.add_assoc _ _ _))⟩))))
              go_ret
              exact ⟨eqs, drz⟩
          · rw [if_neg c4] at H
            exact absurd H (by simp)
        · rw [if_neg c3] at H
          have c3b0 := decide_eq_false c3
          clear c3
          obtain rfl := Option.some.inj H
          go_wp2
          repeat (go_quiet (fail); try go_wp2)
          go_ret
          exact ⟨eqs, drz⟩
mutual
def contangoref11_Check.l0 : Nat → List (S148) → Int → Option (Int)
  | 0, _, _ => none
  | k + 1, x0, x3 => if x3 < (x0.length : Int) then (if 0 ≤ x3 then ((contangoref03_Name.f k ((rd_T148 x0 x3).f0)).bind fun t102 => (if t102 = true then (if x3 > 0 then (if 0 ≤ (wrap64 (x3 - 1)) then (if (wrap64 (x3 - 1)) < (x0.length : Int) then (contangoref11_Check.j1 k x0 x3 (!(Op.bytesLess (((rd_T148 x0 (wrap64 (x3 - 1))).f0).toList) (((rd_T148 x0 x3).f0).toList)))) else (none)) else (none)) else (contangoref11_Check.j1 k x0 x3 false)) else (some 10))) else (none)) else (some 0)
def contangoref11_Check.j1 : Nat → List (S148) → Int → Bool → Option (Int)
  | 0, _, _, _ => none
  | k + 1, x0, x3, x36 => if x36 = true then (some 12) else (if 0 ≤ x3 then (if x3 < (x0.length : Int) then (if ((rd_T148 x0 x3).f1) < 1 then (contangoref11_Check.j2 k x0 x3 true) else (contangoref11_Check.j2 k x0 x3 (decide (((rd_T148 x0 x3).f1) > 4)))) else (none)) else (none))
def contangoref11_Check.j2 : Nat → List (S148) → Int → Bool → Option (Int)
  | 0, _, _, _ => none
  | k + 1, x0, x3, x50 => if x50 = true then (some 13) else (if 0 ≤ x3 then (if x3 < (x0.length : Int) then ((contangoref11_accounts.f k ((rd_T148 x0 x3).f2)).bind fun t108 => (if t108 = 0 then (contangoref11_Check.l0 k x0 (wrap64 (x3 + 1))) else (some t108))) else (none)) else (none))
end
def contangoref11_Check.f (k : Nat) (l0 : List (S148)) : Option (Int) := if (l0.length : Int) > 32 then (some 8) else (contangoref11_Check.l0 k l0 0)
set_option maxHeartbeats 8000000 in
set_option maxRecDepth 100000 in
theorem contangoref11_Check.calls (k : Nat) (A0 : Option Addr) (c0 : Nat) (l0 : List (S148)) (r : Int) (w : World) (hr0 : Kd.C k148 w A0 l0.length l0) (hc0 : l0.length ≤ c0) (h : contangoref11_Check.f k l0 = some r) :
    Calls Tryz.prog 41 #[.slice A0 l0.length c0] w fun e w' => e = .returned (.int .i64 r) ∧ Drawn0 w w' := by
  have HR0 := Aside0.mk hr0
  have HC0 := Aside0.mk hc0
  clear hr0 hc0
  have H : (if (l0.length : Int) > 32 then (some 8) else (contangoref11_Check.l0 k l0 0)) = some r := h
  clear h
  by_cases c2 : (l0.length : Int) > 32
  · rw [if_pos c2] at H
    have c2b0 : decide (32 < (l0.length : Int)) = true := decide_eq_true c2
    have c2b1 : decide (32 < l0.length) = true := decide_eq_true (by omega)
    clear c2
    obtain rfl := Option.some.inj H
    go_enter Tryz.func41, Tryz.ntmps41
    go_wp2
    repeat (go_quiet (fail); try go_wp2)
    go_ret
    exact ⟨eqs, drz⟩
  · rw [if_neg c2] at H
    have c2b0 : decide (32 < (l0.length : Int)) = false := decide_eq_false c2
    have c2b1 : decide (32 < l0.length) = false := decide_eq_false (by omega)
    clear c2
    have H' := Aside0.mk H
    clear H
    go_enter Tryz.func41, Tryz.ntmps41
    go_wp2
    repeat (go_quiet (fail); try go_wp2)
    go_loopg [3] k (fun kq v3 w' => ∃ (x3_1 : Int), v3 = .int .i64 x3_1 ∧ Aside0 (contangoref11_Check.l0 kq l0 x3_1 = some r) ∧ Aside0 (kq ≤ k) ∧ Drawn0 w w')
    case atStart => exact ⟨(0), eqs, H', ⟨Nat.le_refl _⟩, drz⟩
    case round =>
      clear H'
      try clear c2
      try clear c2b0
      try clear c2b1
      try clear p2
      obtain ⟨x3_1, rfl, HA, HK1, ⟨m1, rfl⟩⟩ := hrel
      cases gk with
      | zero => exact absurd HA.out (by simp [contangoref11_Check.l0])
      | succ k1 =>
        have H := HA.out
        clear HA
        simp only [contangoref11_Check.l0] at H
        by_cases c3 : x3_1 < (l0.length : Int)
        · rw [if_pos c3] at H
          have c3b0 := decide_eq_true c3
          clear c3
          by_cases c4 : 0 ≤ x3_1
          · rw [if_pos c4] at H
            have c4b0 := decide_eq_true c4
            clear c4
            replace H := bnd H
            obtain ⟨t102, A50, H⟩ := H
            have A5 := Aside0.mk A50
            clear A50
            by_cases c6 : t102 = true
            · subst c6
              rw [if_pos rfl] at H
              have HC7 := Aside0.mk H
              clear H
              have p101 : 0 ≤ (x3_1 : Int) := dt
              have q101 : x3_1 < (l0.length : Int) := dt
              obtain ⟨ad101, A101_2, c101_2, e101, hx101_0, hx101_1, hx101_2, hl101_2, hi101_2⟩ := at_T148 HR0.out x3_1 p101 q101
              cases e101
              have HR101_2 := Aside0.mk hi101_2
              have HC101_2 := Aside0.mk hl101_2
              clear hi101_2 hl101_2
              replace p101 := eq_true p101
              replace q101 := eq_true q101
              go_upto_region 8 with (first | (go_at_call 95; (with_reducible refine (contangoref03_Name.calls k1 ((rd_T148 l0 x3_1).f0) true _ A5.out).mono ?_); rintro e w' ⟨rfl, ⟨nd, rfl⟩⟩; (try first | exact ⟨rfl, _, World.drewN_drewN _ _ _⟩ | exact ⟨rfl, _, Eq.trans (World.drewN_drewN _ _ _) (congrArg (World.drewN _) (Nat.add_assoc _ _ _))⟩)))
              repeat (go_quiet (first | (go_at_call 95; (with_reducible refine (contangoref03_Name.calls k1 ((rd_T148 l0 x3_1).f0) true _ A5.out).mono ?_); rintro e w' ⟨rfl, ⟨nd, rfl⟩⟩; (try first | exact ⟨rfl, _, World.drewN_drewN _ _ _⟩ | exact ⟨rfl, _, Eq.trans (World.drewN_drewN _ _ _) (congrArg (World.drewN _) (Nat.add_assoc _ _ _))⟩))); go_upto_region 8 with (first | (go_at_call 95; (with_reducible refine (contangoref03_Name.calls k1 ((rd_T148 l0 x3_1).f0) true _ A5.out).mono ?_); rintro e w' ⟨rfl, ⟨nd, rfl⟩⟩; (try first | exact ⟨rfl, _, World.drewN_drewN _ _ _⟩ | exact ⟨rfl, _, Eq.trans (World.drewN_drewN _ _ _) (congrArg (World.drewN _) (Nat.add_assoc _ _ _))⟩))))
              (try simp only [Act.put, List.setIfInBounds_toArray, List.set_cons_zero, List.set_cons_succ])
              go_cut [36] (fun v36 wc => ∃ (kq : Nat) (x36_6 : Bool), v36 = .bool x36_6 ∧ Aside0 (contangoref11_Check.j1 kq l0 x3_1 x36_6 = some r) ∧ Aside0 (kq ≤ k1) ∧ Drawn0 w wc)
              case first =>
                have H := HC7.out
                clear HC7
                by_cases c8 : x3_1 > 0
                · rw [if_pos c8] at H
                  have c8b0 : decide (0 < x3_1) = true := decide_eq_true c8
                  clear c8
                  (first | rw [c8b0] | (simp only [i64_w, i32_w]; rw [c8b0]) | skip)
                  obtain ⟨ji9, hji9⟩ : ∃ j_ : Int, (wrap64 (x3_1 - 1)) = j_ := ⟨_, rfl⟩
                  replace H : (if 0 ≤ (ji9) then (if (ji9) < (l0.length : Int) then (contangoref11_Check.j1 k1 l0 x3_1 (!(Op.bytesLess (((rd_T148 l0 (ji9)).f0).toList) (((rd_T148 l0 x3_1).f0).toList)))) else (none)) else (none)) = some r := by first | (rw [hji9] at H; exact H) | (simp only [hji9] at H ⊢; exact H)
                  have hji9w : (IntKind.i64.wrap (x3_1 - 1)) = ji9 := (i64_w _).trans hji9
                  by_cases c10 : 0 ≤ (ji9)
                  · rw [if_pos c10] at H
                    have c10b0 := decide_eq_true c10
                    clear c10
                    by_cases c11 : (ji9) < (l0.length : Int)
                    · rw [if_pos c11] at H
                      have c11b0 := decide_eq_true c11
                      clear c11
                      have H' := Aside0.mk H
                      clear H
                      have p103 : 0 ≤ (x3_1 : Int) := dt
                      have q103 : x3_1 < (l0.length : Int) := dt
                      obtain ⟨ad103, A103_2, c103_2, e103, hx103_0, hx103_1, hx103_2, hl103_2, hi103_2⟩ := at_T148 HR0.out x3_1 p103 q103
                      obtain rfl : ad101 = ad103 := (by injection e103)
                      have HR103_2 := Aside0.mk hi103_2
                      have HC103_2 := Aside0.mk hl103_2
                      clear hi103_2 hl103_2
                      replace p103 := eq_true p103
                      replace q103 := eq_true q103
                      have p104 : 0 ≤ ((ji9) : Int) := dt
                      have q104 : (ji9) < (l0.length : Int) := dt
                      obtain ⟨ad104, A104_2, c104_2, e104, hx104_0, hx104_1, hx104_2, hl104_2, hi104_2⟩ := at_T148 HR0.out (ji9) p104 q104
                      obtain rfl : ad101 = ad104 := (by injection e104)
                      have HR104_2 := Aside0.mk hi104_2
                      have HC104_2 := Aside0.mk hl104_2
                      clear hi104_2 hl104_2
                      replace p104 := eq_true p104
                      replace q104 := eq_true q104
                      go_wp2
                      repeat (go_quiet (fail); try go_wp2)
                      go_meet
                      case rel => exact ⟨_, (!(Op.bytesLess (((rd_T148 l0 (ji9)).f0).toList) (((rd_T148 l0 x3_1).f0).toList))), (by first | rfl | (simp; done) | (simp only [← hji9] <;> (first | rfl | simp)) | (simp [*]; done)), H', ⟨by have := HK1.out; first | omega | exact Nat.le_refl _⟩, drz⟩
                    · rw [if_neg c11] at H
                      exact absurd H (by simp)
                  · rw [if_neg c10] at H
                    exact absurd H (by simp)
                · rw [if_neg c8] at H
                  have c8b0 : decide (0 < x3_1) = false := decide_eq_false c8
                  clear c8
                  (first | rw [c8b0] | (simp only [i64_w, i32_w]; rw [c8b0]) | skip)
                  have H' := Aside0.mk H
                  clear H
                  go_wp2
                  repeat (go_quiet (fail); try go_wp2)
                  go_meet
                  case rel => exact ⟨_, (false), eqs, H', ⟨by have := HK1.out; first | omega | exact Nat.le_refl _⟩, drz⟩
              case rest =>
                clear HC7
                try clear c1
                try clear p1
                try clear q1
                try clear hx1
                try clear c2
                try clear c2b0
                try clear c2b1
                try clear p2
                try clear c3
                try clear c3b0
                try clear c4
                try clear c4b0
                try clear c6
                try clear p6
                try clear c8
                try clear c8b0
                try clear c10
                try clear c10b0
                try clear p10
                try clear q10
                try clear hx10
                try clear c11
                try clear c11b0
                try clear hx101_0
                try clear hx101_1
                try clear hx101_2
                try clear hx103_0
                try clear hx103_1
                try clear hx103_2
                try clear hx104_0
                try clear hx104_1
                try clear hx104_2
                try clear p101
                try clear p103
                try clear p104
                try clear p2
                try clear q101
                try clear q103
                try clear q104
                obtain ⟨kq, x36_6, rfl, HA, HJ6, ⟨mc6, rfl⟩⟩ := hcut
                cases kq with
                | zero => exact absurd HA.out (by simp [contangoref11_Check.j1])
                | succ kj6 =>
                  have H := HA.out
                  clear HA
                  simp only [contangoref11_Check.j1] at H
                  by_cases c12 : x36_6 = true
                  · subst c12
                    rw [if_pos rfl] at H
                    obtain rfl := Option.some.inj H
                    go_wp2
                    repeat (go_quiet (fail); try go_wp2)
                    go_ret
                    exact ⟨eqs, drz⟩
                  · replace c12 := Bool.eq_false_iff.mpr c12
                    subst c12
                    rw [if_neg (show ¬ (false = true) by decide)] at H
                    have HC13 := Aside0.mk H
                    clear H
                    go_upto_region 10 with (fail)
                    repeat (go_quiet (fail); go_upto_region 10 with (fail))
                    go_cut [50] (fun v50 wc => ∃ (kq : Nat) (x50_12 : Bool), v50 = .bool x50_12 ∧ Aside0 (contangoref11_Check.j2 kq l0 x3_1 x50_12 = some r) ∧ Aside0 (kq ≤ kj6) ∧ Drawn0 w wc)
                    case first =>
                      have H := HC13.out
                      clear HC13
                      by_cases c14 : 0 ≤ x3_1
                      · rw [if_pos c14] at H
                        have c14b0 := decide_eq_true c14
                        clear c14
                        (first | rw [c14b0] | (simp only [i64_w, i32_w]; rw [c14b0]) | skip)
                        by_cases c15 : x3_1 < (l0.length : Int)
                        · rw [if_pos c15] at H
                          have c15b0 := decide_eq_true c15
                          clear c15
                          by_cases c16 : ((rd_T148 l0 x3_1).f1) < 1
                          · rw [if_pos c16] at H
                            have c16b0 := decide_eq_true c16
                            clear c16
                            have H' := Aside0.mk H
                            clear H
                            have p105 : 0 ≤ (x3_1 : Int) := dt
                            have q105 : x3_1 < (l0.length : Int) := dt
                            obtain ⟨ad105, A105_2, c105_2, e105, hx105_0, hx105_1, hx105_2, hl105_2, hi105_2⟩ := at_T148 HR0.out x3_1 p105 q105
                            obtain rfl : ad101 = ad105 := (by injection e105)
                            have HR105_2 := Aside0.mk hi105_2
                            have HC105_2 := Aside0.mk hl105_2
                            clear hi105_2 hl105_2
                            replace p105 := eq_true p105
                            replace q105 := eq_true q105
                            go_wp2
                            repeat (go_quiet (fail); try go_wp2)
                            go_meet
                            case rel => exact ⟨_, (true), eqs, H', ⟨by have := HK1.out; have := HJ6.out; first | omega | exact Nat.le_refl _⟩, drz⟩
                          · rw [if_neg c16] at H
                            have c16b0 := decide_eq_false c16
                            clear c16
                            have H' := Aside0.mk H
                            clear H
                            have p105 : 0 ≤ (x3_1 : Int) := dt
                            have q105 : x3_1 < (l0.length : Int) := dt
                            obtain ⟨ad105, A105_2, c105_2, e105, hx105_0, hx105_1, hx105_2, hl105_2, hi105_2⟩ := at_T148 HR0.out x3_1 p105 q105
                            obtain rfl : ad101 = ad105 := (by injection e105)
                            have HR105_2 := Aside0.mk hi105_2
                            have HC105_2 := Aside0.mk hl105_2
                            clear hi105_2 hl105_2
                            replace p105 := eq_true p105
                            replace q105 := eq_true q105
                            have p106 : 0 ≤ (x3_1 : Int) := dt
                            have q106 : x3_1 < (l0.length : Int) := dt
                            obtain ⟨ad106, A106_2, c106_2, e106, hx106_0, hx106_1, hx106_2, hl106_2, hi106_2⟩ := at_T148 HR0.out x3_1 p106 q106
                            obtain rfl : ad101 = ad106 := (by injection e106)
                            have HR106_2 := Aside0.mk hi106_2
                            have HC106_2 := Aside0.mk hl106_2
                            clear hi106_2 hl106_2
                            replace p106 := eq_true p106
                            replace q106 := eq_true q106
                            have ea_ := Option.some.inj (hx105_2.symm.trans hx106_2)
                            injection ea_ with ea_ en_ ec_
                            subst ea_
                            subst ec_
                            clear en_
                            go_wp2
                            repeat (go_quiet (fail); try go_wp2)
                            go_meet
                            case rel => exact ⟨_, (decide (((rd_T148 l0 x3_1).f1) > 4)), eqs, H', ⟨by have := HK1.out; have := HJ6.out; first | omega | exact Nat.le_refl _⟩, drz⟩
                        · rw [if_neg c15] at H
                          exact absurd H (by simp)
                      · rw [if_neg c14] at H
                        exact absurd H (by simp)
                    case rest =>
                      clear HC13
                      try clear c1
                      try clear p1
                      try clear q1
                      try clear hx1
                      try clear c2
                      try clear c2b0
                      try clear c2b1
                      try clear p2
                      try clear c3
                      try clear c3b0
                      try clear c4
                      try clear c4b0
                      try clear c6
                      try clear p6
                      try clear c8
                      try clear c8b0
                      try clear c10
                      try clear c10b0
                      try clear p10
                      try clear q10
                      try clear hx10
                      try clear c11
                      try clear c11b0
                      try clear c12
                      try clear c14
                      try clear c14b0
                      try clear c15
                      try clear c15b0
                      try clear c16
                      try clear c16b0
                      try clear hx101_0
                      try clear hx101_1
                      try clear hx101_2
                      try clear hx103_0
                      try clear hx103_1
                      try clear hx103_2
                      try clear hx104_0
                      try clear hx104_1
                      try clear hx104_2
                      try clear hx105_0
                      try clear hx105_1
                      try clear hx105_2
                      try clear hx106_0
                      try clear hx106_1
                      try clear hx106_2
                      try clear p1
                      try clear p10
                      try clear p101
                      try clear p103
                      try clear p104
                      try clear p105
                      try clear p106
                      try clear p2
                      try clear p6
                      try clear q1
                      try clear q10
                      try clear q101
                      try clear q103
                      try clear q104
                      try clear q105
                      try clear q106
                      obtain ⟨kq, x50_12, rfl, HA, HJ12, ⟨mc12, rfl⟩⟩ := hcut
                      cases kq with
                      | zero => exact absurd HA.out (by simp [contangoref11_Check.j2])
                      | succ kj12 =>
                        have H := HA.out
                        clear HA
                        simp only [contangoref11_Check.j2] at H
                        by_cases c17 : x50_12 = true
                        · subst c17
                          rw [if_pos rfl] at H
                          obtain rfl := Option.some.inj H
                          go_wp2
                          repeat (go_quiet (fail); try go_wp2)
                          go_ret
                          exact ⟨eqs, drz⟩
                        · replace c17 := Bool.eq_false_iff.mpr c17
                          subst c17
                          rw [if_neg (show ¬ (false = true) by decide)] at H
                          by_cases c18 : 0 ≤ x3_1
                          · rw [if_pos c18] at H
                            have c18b0 := decide_eq_true c18
                            clear c18
                            by_cases c19 : x3_1 < (l0.length : Int)
                            · rw [if_pos c19] at H
                              have c19b0 := decide_eq_true c19
                              clear c19
                              replace H := bnd H
                              obtain ⟨t108, A200, H⟩ := H
                              have A20 := Aside0.mk A200
                              clear A200
                              by_cases c21 : t108 = 0
                              · rw [if_pos c21] at H
                                have c21b0 : (t108 == 0) = true := beq_iff_eq.mpr c21
                                have c21b1 : (t108 != 0) = false := bne_eq_false_iff_eq.mpr c21
                                clear c21
                                have H' := Aside0.mk H
                                clear H
                                have p107 : 0 ≤ (x3_1 : Int) := dt
                                have q107 : x3_1 < (l0.length : Int) := dt
                                obtain ⟨ad107, A107_2, c107_2, e107, hx107_0, hx107_1, hx107_2, hl107_2, hi107_2⟩ := at_T148 HR0.out x3_1 p107 q107
                                obtain rfl : ad101 = ad107 := (by injection e107)
                                have HR107_2 := Aside0.mk hi107_2
                                have HC107_2 := Aside0.mk hl107_2
                                clear hi107_2 hl107_2
                                replace p107 := eq_true p107
                                replace q107 := eq_true q107
                                go_wp2_with (first | (go_at_call 96; (with_reducible refine (contangoref11_accounts.calls kj12 _ _ ((rd_T148 l0 x3_1).f2) t108 _ ?side1 ?side2 A20.out).mono ?_); (case side1 => repeat (first | exact HR107_2.out | (with_reducible refine Kd.C_alloc ?_ _) | (with_reducible refine Kd.C_drewN ?_ _) | (with_reducible refine Kd.C_drew ?_))); (case side2 => exact HC107_2.out); rintro e w' ⟨rfl, ⟨nd, rfl⟩⟩; (try first | exact ⟨rfl, _, World.drewN_drewN _ _ _⟩ | exact ⟨rfl, _, Eq.trans (World.drewN_drewN _ _ _) (congrArg (World.drewN _) (Nat.add_assoc _ _ _))⟩)))
                                repeat (go_quiet (first | (go_at_call 96; (with_reducible refine (contangoref11_accounts.calls kj12 _ _ ((rd_T148 l0 x3_1).f2) t108 _ ?side1 ?side2 A20.out).mono ?_); (case side1 => repeat (first | exact HR107_2.out | (with_reducible refine Kd.C_alloc ?_ _) | (with_reducible refine Kd.C_drewN ?_ _) | (with_reducible refine Kd.C_drew ?_))); (case side2 => exact HC107_2.out); rintro e w' ⟨rfl, ⟨nd, rfl⟩⟩; (try first | exact ⟨rfl, _, World.drewN_drewN _ _ _⟩ | exact ⟨rfl, _, Eq.trans (World.drewN_drewN _ _ _) (congrArg (World.drewN _) (Nat.add_assoc _ _ _))⟩))); try go_wp2_with (first | (go_at_call 96; (with_reducible refine (contangoref11_accounts.calls kj12 _ _ ((rd_T148 l0 x3_1).f2) t108 _ ?side1 ?side2 A20.out).mono ?_); (case side1 => repeat (first | exact HR107_2.out | (with_reducible refine Kd.C_alloc ?_ _) | (with_reducible refine Kd.C_drewN ?_ _) | (with_reducible refine Kd.C_drew ?_))); (case side2 => exact HC107_2.out); rintro e w' ⟨rfl, ⟨nd, rfl⟩⟩; (try first | exact ⟨rfl, _, World.drewN_drewN _ _ _⟩ | exact ⟨rfl, _, Eq.trans (World.drewN_drewN _ _ _) (congrArg (World.drewN _) (Nat.add_assoc _ _ _))⟩))))
                                go_roundg kj12
                                case measure => have := HK1.out; have := HJ6.out; have := HJ12.out; omega
                                case rel => exact ⟨(wrap64 (x3_1 + 1)), eqs, H', ⟨by have := HK1.out; have := HJ6.out; have := HJ12.out; omega⟩, drz⟩
                              · rw [if_neg c21] at H
                                have c21b0 : (t108 == 0) = false := beq_eq_false_iff_ne.mpr c21
                                have c21b1 : (t108 != 0) = true := bne_iff_ne.mpr c21
                                obtain rfl := Option.some.inj H
                                have p107 : 0 ≤ (x3_1 : Int) := dt
                                have q107 : x3_1 < (l0.length : Int) := dt
                                obtain ⟨ad107, A107_2, c107_2, e107, hx107_0, hx107_1, hx107_2, hl107_2, hi107_2⟩ := at_T148 HR0.out x3_1 p107 q107
                                obtain rfl : ad101 = ad107 := (by injection e107)
                                have HR107_2 := Aside0.mk hi107_2
                                have HC107_2 := Aside0.mk hl107_2
                                clear hi107_2 hl107_2
                                replace p107 := eq_true p107
                                replace q107 := eq_true q107
                                go_wp2_with (first | (go_at_call 96; (with_reducible refine (contangoref11_accounts.calls kj12 _ _ ((rd_T148 l0 x3_1).f2) t108 _ ?side1 ?side2 A20.out).mono ?_); (case side1 => repeat (first | exact HR107_2.out | (with_reducible refine Kd.C_alloc ?_ _) | (with_reducible refine Kd.C_drewN ?_ _) | (with_reducible refine Kd.C_drew ?_))); (case side2 => exact HC107_2.out); rintro e w' ⟨rfl, ⟨nd, rfl⟩⟩; (try first | exact ⟨rfl, _, World.drewN_drewN _ _ _⟩ | exact ⟨rfl, _, Eq.trans (World.drewN_drewN _ _ _) (congrArg (World.drewN _) (Nat.add_assoc _ _ _))⟩)))
                                repeat (go_quiet (first | (go_at_call 96; (with_reducible refine (contangoref11_accounts.calls kj12 _ _ ((rd_T148 l0 x3_1).f2) t108 _ ?side1 ?side2 A20.out).mono ?_); (case side1 => repeat (first | exact HR107_2.out | (with_reducible refine Kd.C_alloc ?_ _) | (with_reducible refine Kd.C_drewN ?_ _) | (with_reducible refine Kd.C_drew ?_))); (case side2 => exact HC107_2.out); rintro e w' ⟨rfl, ⟨nd, rfl⟩⟩; (try first | exact ⟨rfl, _, World.drewN_drewN _ _ _⟩ | exact ⟨rfl, _, Eq.trans (World.drewN_drewN _ _ _) (congrArg (World.drewN _) (Nat.add_assoc _ _ _))⟩))); try go_wp2_with (first | (go_at_call 96; (with_reducible refine (contangoref11_accounts.calls kj12 _ _ ((rd_T148 l0 x3_1).f2) t108 _ ?side1 ?side2 A20.out).mono ?_); (case side1 => repeat (first | exact HR107_2.out | (with_reducible refine Kd.C_alloc ?_ _) | (with_reducible refine Kd.C_drewN ?_ _) | (with_reducible refine Kd.C_drew ?_))); (case side2 => exact HC107_2.out); rintro e w' ⟨rfl, ⟨nd, rfl⟩⟩; (try first | exact ⟨rfl, _, World.drewN_drewN _ _ _⟩ | exact ⟨rfl, _, Eq.trans (World.drewN_drewN _ _ _) (congrArg (World.drewN _) (Nat.add_assoc _ _ _))⟩))))
                                go_ret
                                exact ⟨eqs, drz⟩
                            · rw [if_neg c19] at H
                              exact absurd H (by simp)
                          · rw [if_neg c18] at H
                            exact absurd H (by simp)
            · replace c6 := Bool.eq_false_iff.mpr c6
              subst c6
              rw [if_neg (show ¬ (false = true) by decide)] at H
              obtain rfl := Option.some.inj H
              have p101 : 0 ≤ (x3_1 : Int) := dt
              have q101 : x3_1 < (l0.length : Int) := dt
              obtain ⟨ad101, A101_2, c101_2, e101, hx101_0, hx101_1, hx101_2, hl101_2, hi101_2⟩ := at_T148 HR0.out x3_1 p101 q101
              cases e101
              have HR101_2 := Aside0.mk hi101_2
              have HC101_2 := Aside0.mk hl101_2
              clear hi101_2 hl101_2
              replace p101 := eq_true p101
              replace q101 := eq_true q101
              go_wp2_with (first | (go_at_call 95; (with_reducible refine (contangoref03_Name.calls k1 ((rd_T148 l0 x3_1).f0) false _ A5.out).mono ?_); rintro e w' ⟨rfl, ⟨nd, rfl⟩⟩; (try first | exact ⟨rfl, _, World.drewN_drewN _ _ _⟩ | exact ⟨rfl, _, Eq.trans (World.drewN_drewN _ _ _) (congrArg (World.drewN _) (Nat.add_assoc _ _ _))⟩)))
              repeat (go_quiet (first | (go_at_call 95; (with_reducible refine (contangoref03_Name.calls k1 ((rd_T148 l0 x3_1).f0) false _ A5.out).mono ?_); rintro e w' ⟨rfl, ⟨nd, rfl⟩⟩; (try first | exact ⟨rfl, _, World.drewN_drewN _ _ _⟩ | exact ⟨rfl, _, Eq.trans (World.drewN_drewN _ _ _) (congrArg (World.drewN _) (Nat.add_assoc _ _ _))⟩))); try go_wp2_with (first | (go_at_call 95; (with_reducible refine (contangoref03_Name.calls k1 ((rd_T148 l0 x3_1).f0) false _ A5.out).mono ?_); rintro e w' ⟨rfl, ⟨nd, rfl⟩⟩; (try first | exact ⟨rfl, _, World.drewN_drewN _ _ _⟩ | exact ⟨rfl, _, Eq.trans (World.drewN_drewN _ _ _) (congrArg (World.drewN _) (Nat.add_assoc _ _ _))⟩))))
              go_ret
              exact ⟨eqs, drz⟩
          · rw [if_neg c4] at H
            exact absurd H (by simp)
        · rw [if_neg c3] at H
          have c3b0 := decide_eq_false c3
          clear c3
          obtain rfl := Option.some.inj H
          go_wp2
          repeat (go_quiet (fail); try go_wp2)
          go_ret
          exact ⟨eqs, drz⟩
def contangoref11_place.l0 : Nat → List (S148) → ByteArray → Int → Option (Int)
  | 0, _, _, _ => none
  | k + 1, x0, x1, x5 => if x5 < (x0.length : Int) then (if 0 ≤ x5 then (if ((rd_T148 x0 x5).f0).toList = x1.toList then (some x5) else (contangoref11_place.l0 k x0 x1 (wrap64 (x5 + 1)))) else (none)) else (some (-1))
def contangoref11_place.f (k : Nat) (l0 : List (S148)) (a1 : ByteArray) : Option (Int) := contangoref11_place.l0 k l0 a1 0
set_option maxHeartbeats 8000000 in
set_option maxRecDepth 100000 in
theorem contangoref11_place.calls (k : Nat) (A0 : Option Addr) (c0 : Nat) (l0 : List (S148)) (a1 : ByteArray) (r : Int) (w : World) (hr0 : Kd.C k148 w A0 l0.length l0) (hc0 : l0.length ≤ c0) (h : contangoref11_place.f k l0 a1 = some r) :
    Calls Tryz.prog 134 #[.slice A0 l0.length c0, .string a1] w fun e w' => e = .returned (.int .i64 r) ∧ Drawn0 w w' := by
  have HR0 := Aside0.mk hr0
  have HC0 := Aside0.mk hc0
  clear hr0 hc0
  have H : (contangoref11_place.l0 k l0 a1 0) = some r := h
  clear h
  have H' := Aside0.mk H
  clear H
  go_enter Tryz.func134, Tryz.ntmps134
  go_wp2
  go_loopg [5] k (fun kq v5 w' => ∃ (x5_1 : Int), v5 = .int .i64 x5_1 ∧ Aside0 (contangoref11_place.l0 kq l0 a1 x5_1 = some r) ∧ Aside0 (kq ≤ k) ∧ Drawn0 w w')
  case atStart => exact ⟨(0), eqs, H', ⟨Nat.le_refl _⟩, drz⟩
  case round =>
    clear H'
    try clear c1
    try clear p2
    obtain ⟨x5_1, rfl, HA, HK1, ⟨m1, rfl⟩⟩ := hrel
    cases gk with
    | zero => exact absurd HA.out (by simp [contangoref11_place.l0])
    | succ k1 =>
      have H := HA.out
      clear HA
      simp only [contangoref11_place.l0] at H
      by_cases c3 : x5_1 < (l0.length : Int)
      · rw [if_pos c3] at H
        have c3b0 := decide_eq_true c3
        clear c3
        by_cases c4 : 0 ≤ x5_1
        · rw [if_pos c4] at H
          have c4b0 := decide_eq_true c4
          clear c4
          by_cases c5 : ((rd_T148 l0 x5_1).f0).toList = a1.toList
          · rw [if_pos c5] at H
            have c5b0 : (((rd_T148 l0 x5_1).f0).toList == a1.toList) = true := beq_iff_eq.mpr c5
            have c5b1 : (((rd_T148 l0 x5_1).f0).toList != a1.toList) = false := bne_eq_false_iff_eq.mpr c5
            clear c5
            obtain rfl := Option.some.inj H
            have p101 : 0 ≤ (x5_1 : Int) := dt
            have q101 : x5_1 < (l0.length : Int) := dt
            obtain ⟨ad101, A101_2, c101_2, e101, hx101_0, hx101_1, hx101_2, hl101_2, hi101_2⟩ := at_T148 HR0.out x5_1 p101 q101
            cases e101
            have HR101_2 := Aside0.mk hi101_2
            have HC101_2 := Aside0.mk hl101_2
            clear hi101_2 hl101_2
            replace p101 := eq_true p101
            replace q101 := eq_true q101
            go_wp2
            go_ret
            exact ⟨eqs, drz⟩
          · rw [if_neg c5] at H
            have c5b0 : (((rd_T148 l0 x5_1).f0).toList == a1.toList) = false := beq_eq_false_iff_ne.mpr c5
            have c5b1 : (((rd_T148 l0 x5_1).f0).toList != a1.toList) = true := bne_iff_ne.mpr c5
            have H' := Aside0.mk H
            clear H
            have p101 : 0 ≤ (x5_1 : Int) := dt
            have q101 : x5_1 < (l0.length : Int) := dt
            obtain ⟨ad101, A101_2, c101_2, e101, hx101_0, hx101_1, hx101_2, hl101_2, hi101_2⟩ := at_T148 HR0.out x5_1 p101 q101
            cases e101
            have HR101_2 := Aside0.mk hi101_2
            have HC101_2 := Aside0.mk hl101_2
            clear hi101_2 hl101_2
            replace p101 := eq_true p101
            replace q101 := eq_true q101
            go_wp2
            go_roundg k1
            case measure => have := HK1.out; omega
            case rel => exact ⟨(wrap64 (x5_1 + 1)), eqs, H', ⟨hko⟩, drz⟩
        · rw [if_neg c4] at H
          exact absurd H (by simp)
      · rw [if_neg c3] at H
        have c3b0 := decide_eq_false c3
        clear c3
        obtain rfl := Option.some.inj H
        go_wp2
        go_ret
        exact ⟨eqs, drz⟩
def contangoref11_Find.f (k : Nat) (l0 : List (S148)) (a1 : ByteArray) : Option (ByteArray × Int × (List (S151)) × Bool) := (contangoref11_place.f k l0 a1).bind fun t102 => (if t102 < 0 then (some ((⟨#[]⟩ : ByteArray), 0, ([] : List (S151)), false)) else (if 0 ≤ t102 then (if t102 < (l0.length : Int) then (some ((rd_T148 l0 t102).f0, (rd_T148 l0 t102).f1, (rd_T148 l0 t102).f2, true)) else (none)) else (none)))
set_option maxHeartbeats 8000000 in
set_option maxRecDepth 100000 in
theorem contangoref11_Find.calls (k : Nat) (P0_ : Nat → Prop) (A0 : Option Addr) (c0 : Nat) (l0 : List (S148)) (a1 : ByteArray) (r1 : ByteArray) (r2 : Int) (r3 : List (S151)) (r4 : Bool) (w : World) (hs0 : Kd.V k148 148 w w.heap.size (fun k_ => P0_ k_) (.slice A0 l0.length c0) l0) (h : contangoref11_Find.f k l0 a1 = some (r1, r2, r3, r4)) :
    Calls Tryz.prog 97 #[.slice A0 l0.length c0, .string a1] w fun e w' => ∃ v2_ : Value, e = .returned (.tuple #[.agg #[.string r1, .int .i64 r2, v2_], .bool r4]) ∧ Kd.V k151 151 w' w.heap.size (fun k_ => (P0_ k_ ∨ w.heap.size ≤ k_)) v2_ r3 ∧ Below w.heap.size w w' := by
  have hu148 := Tryz.underlying148
  have HO0 := Aside0.mk (show Kd.V k148 148 w w.heap.size (fun k_ => (P0_ k_ ∨ w.heap.size ≤ k_)) (.slice A0 l0.length c0) l0 from Kd.V_mono hs0 (fun k_ hk => .inl hk))
  have HB := Aside0.mk (Below.refl w.heap.size w)
  have H : ((contangoref11_place.f k l0 a1).bind fun t102 => (if t102 < 0 then (some ((⟨#[]⟩ : ByteArray), 0, ([] : List (S151)), false)) else (if 0 ≤ t102 then (if t102 < (l0.length : Int) then (some ((rd_T148 l0 t102).f0, (rd_T148 l0 t102).f1, (rd_T148 l0 t102).f2, true)) else (none)) else (none)))) = some (r1, r2, r3, r4) := h
  clear h
  replace H := bnd H
  obtain ⟨t102, A30, H⟩ := H
  have A3 := Aside0.mk A30
  clear A30
  by_cases c4 : t102 < 0
  · rw [if_pos c4] at H
    have c4b0 := decide_eq_true c4
    clear c4
    simp only [Option.some.injEq, Prod.mk.injEq] at H
    obtain ⟨rfl, rfl, rfl, rfl⟩ := H
    go_enter Tryz.func97, Tryz.ntmps97
    go_wp2_with (first | ((with_reducible refine gate_dst (N := 4) rfl ?_); refine box_event ?hg (N := 4) ?hd (cs := #[.string (⟨#[]⟩ : ByteArray), .int .i64 0, .slice none 0 0]) (t := 148) ?hr ?_; (case hd => rfl); (case hg => rfl); (case hr => first | (go_simp; done) | (go_simp; rfl)); intro gb101 hg w5 hbox hb; replace HO0 := Aside0.mk (Kd.V_below (Kd.V_elderB (kv HO0.out) gb101 (Nat.le_of_eq hg.symm)) hb); have BK101 := Aside0.mk (hbox); have GW101 := Aside0.mk ((gsz hg : w.heap.size ≤ gb101)); have GE101 := Aside0.mk ((gsz hg : w.heap.size ≤ gb101)); replace HB := Aside0.mk (below_step bel hb); clear hb hbox hg) | ((with_reducible refine gate_callee (f := 134) rfl ?_); refine goesL_ (some 9) rfl rfl Tryz.func134 (by kernel_rfl) rfl #[.slice A0 l0.length c0, .string a1] rfl arg ?_; (with_reducible refine (contangoref11_place.calls k _ _ l0 a1 t102 _ ?side1 ?side2 A3.out).mono ?_); (case side1 => repeat (first | exact (Kd.V_reads' HO0.out).2.2 | (with_reducible refine Kd.C_alloc ?_ _) | (with_reducible refine Kd.C_drewN ?_ _) | (with_reducible refine Kd.C_drew ?_))); (case side2 => exact (Kd.V_reads' HO0.out).2.1); rintro e w' ⟨rfl, ⟨nd, rfl⟩⟩; refine ⟨_, rfl, ?_⟩; (try (rw [drewN_self w5]; generalize hq_ : World.drewN w5 _ = w5; have n0_ : Aside0 (Kd.V k148 148 w5 w.heap.size (fun k_ => (P0_ k_ ∨ w.heap.size ≤ k_) ∧ k_ ≠ gb101) (.slice A0 l0.length c0) l0) := ⟨by rw [← hq_]; exact (kv HO0.out)⟩; have n1_ : Aside0 (w5.heap[gb101]? = some (.cells #[.string (⟨#[]⟩ : ByteArray), .int .i64 0, .slice none 0 0] 148 (0, 0))) := ⟨by rw [← hq_]; exact (bw BK101.out)⟩; have n2_ : Aside0 (Below w.heap.size w w5) := ⟨by rw [← hq_]; exact bel⟩; clear HO0 BK101 HB hq_; have HO0 := n0_; have BK101 := n1_; have HB := n2_; clear n0_ n1_ n2_)); obtain ⟨hcz6_0, hcz6_1, hcz6_2, hfz6_0, hfz6_1, hfz6_2⟩ := cz3 BK101.out))
    refine bodyPost_ret (results_ct rfl _ _ gb101 148 #[.string (⟨#[]⟩ : ByteArray), .int .i64 0, .slice none 0 0] (0, 0) _ rfl (bs BK101.out) Tryz.underlying148 rfl (by kernel_rfl)) rfl ?_
    exact ⟨_, ers, Kd.V_nil _ _ _ _ _, bel⟩
  · rw [if_neg c4] at H
    have c4b0 := decide_eq_false c4
    clear c4
    by_cases c7 : 0 ≤ t102
    · rw [if_pos c7] at H
      have c7b0 := decide_eq_true c7
      clear c7
      by_cases c8 : t102 < (l0.length : Int)
      · rw [if_pos c8] at H
        have c8b0 := decide_eq_true c8
        clear c8
        simp only [Option.some.injEq, Prod.mk.injEq] at H
        obtain ⟨rfl, rfl, rfl, rfl⟩ := H
        go_enter Tryz.func97, Tryz.ntmps97
        go_wp2_with (first | ((with_reducible refine gate_dst (N := 4) rfl ?_); refine box_event ?hg (N := 4) ?hd (cs := #[.string (⟨#[]⟩ : ByteArray), .int .i64 0, .slice none 0 0]) (t := 148) ?hr ?_; (case hd => rfl); (case hg => rfl); (case hr => first | (go_simp; done) | (go_simp; rfl)); intro gb101 hg w9 hbox hb; replace HO0 := Aside0.mk (Kd.V_below (Kd.V_elderB (kv HO0.out) gb101 (Nat.le_of_eq hg.symm)) hb); have BK101 := Aside0.mk (hbox); have GW101 := Aside0.mk ((gsz hg : w.heap.size ≤ gb101)); have GE101 := Aside0.mk ((gsz hg : w.heap.size ≤ gb101)); replace HB := Aside0.mk (below_step bel hb); clear hb hbox hg) | ((with_reducible refine gate_callee (f := 134) rfl ?_); refine goesL_ (some 9) rfl rfl Tryz.func134 (by kernel_rfl) rfl #[.slice A0 l0.length c0, .string a1] rfl arg ?_; (with_reducible refine (contangoref11_place.calls k _ _ l0 a1 t102 _ ?side1 ?side2 A3.out).mono ?_); (case side1 => repeat (first | exact (Kd.V_reads' HO0.out).2.2 | (with_reducible refine Kd.C_alloc ?_ _) | (with_reducible refine Kd.C_drewN ?_ _) | (with_reducible refine Kd.C_drew ?_))); (case side2 => exact (Kd.V_reads' HO0.out).2.1); rintro e w' ⟨rfl, ⟨nd, rfl⟩⟩; refine ⟨_, rfl, ?_⟩; (try (rw [drewN_self w9]; generalize hq_ : World.drewN w9 _ = w9; have n0_ : Aside0 (Kd.V k148 148 w9 w.heap.size (fun k_ => (P0_ k_ ∨ w.heap.size ≤ k_) ∧ k_ ≠ gb101) (.slice A0 l0.length c0) l0) := ⟨by rw [← hq_]; exact (kv HO0.out)⟩; have n1_ : Aside0 (w9.heap[gb101]? = some (.cells #[.string (⟨#[]⟩ : ByteArray), .int .i64 0, .slice none 0 0] 148 (0, 0))) := ⟨by rw [← hq_]; exact (bw BK101.out)⟩; have n2_ : Aside0 (Below w.heap.size w w9) := ⟨by rw [← hq_]; exact bel⟩; clear HO0 BK101 HB hq_; have HO0 := n0_; have BK101 := n1_; have HB := n2_; clear n0_ n1_ n2_)); have p103 : 0 ≤ (t102 : Int) := dt; have q103 : t102 < (l0.length : Int) := dt; obtain ⟨ad103, A103_2, c103_2, e103, hx103_0, hx103_1, hx103_2, hl103_2, hi103_2⟩ := at_T148 (Kd.V_reads' HO0.out).2.2 t102 p103 q103; cases e103; obtain ⟨ce103, hce103, hMe103, hcc103⟩ := Kd.V_get HO0.out z148 t102 p103 (by first | exact q103 | exact dt | (have e_ := (Kd.V_reads' HO0.out).1; omega)); obtain ⟨ua103_2, uc103_2, rfl, ul103_2, ge103_2⟩ := k148_openF hMe103; have hv103_2 := hcc103 2 _ rfl; rw [add_field _ _ 2 (by omega)] at hv103_2; replace hv103_2 := Option.some.inj (hv103_2.symm.trans hx103_2); injection hv103_2 with hva_ hvn_ hvc_; rw [hva_] at ge103_2; rw [hvc_] at ul103_2; have HL103_2 := Aside0.mk (show Kd.V k151 151 _ w.heap.size _ _ ((rd_T148 l0 t102).f2) from Kd.V_mk ul103_2 ge103_2); clear hva_ hvn_ hvc_ ge103_2 ul103_2; clear hcc103 hce103; have HR103_2 := Aside0.mk hi103_2; have HC103_2 := Aside0.mk hl103_2; clear hi103_2 hl103_2; replace p103 := eq_true p103; replace q103 := eq_true q103; obtain ⟨hcz10_0, hcz10_1, hcz10_2, hfz10_0, hfz10_1, hfz10_2⟩ := cz3 BK101.out))
        refine bodyPost_ret (results_ct rfl _ _ gb101 148 #[.string ((rd_T148 l0 t102).f0), .int .i64 ((rd_T148 l0 t102).f1), .slice A103_2 ((rd_T148 l0 t102).f2).length c103_2] (0, 0) _ rfl (bs BK101.out) Tryz.underlying148 rfl (by kernel_rfl)) rfl ?_
        exact ⟨_, ers, by (with_reducible repeat (first | apply Kd.V_alloc | apply Kd.V_drewN | apply Kd.V_drew)); exact Kd.V_mono (Kd.V_far (p := ⟨gb101, 2, none⟩) (Kd.V_far (p := ⟨gb101, 1, none⟩) (Kd.V_far (p := ⟨gb101, 0, none⟩) (Kd.V_mono HL103_2.out (fun k_ hk => (⟨hk, hk.2⟩ : _ ∧ k_ ≠ gb101))) (fun _ hk => hk.2) (.string ((rd_T148 l0 t102).f0))) (fun _ hk => hk.2) (.int .i64 ((rd_T148 l0 t102).f1))) (fun _ hk => hk.2) (.slice A103_2 ((rd_T148 l0 t102).f2).length c103_2)) (fun _ hk => hk.1.1), bel⟩
      · rw [if_neg c8] at H
        exact absurd H (by simp)
    · rw [if_neg c7] at H
      exact absurd H (by simp)
def contangoref11_Account.l0 : Nat → Int → ByteArray → ByteArray → ByteArray → Int → List (S151) → Option (ByteArray × Int × Bool)
  | 0, _, _, _, _, _, _ => none
  | k + 1, x8, x102000, x102001, x110000, x110001, x110002 => if x8 < (x110002.length : Int) then (if 0 ≤ x8 then (if ((rd_T151 x110002 x8).f0).toList = x102001.toList then (some ((rd_T151 x110002 x8).f0, (rd_T151 x110002 x8).f1, true)) else (contangoref11_Account.l0 k (wrap64 (x8 + 1)) x102000 x102001 x110000 x110001 x110002)) else (none)) else (some ((⟨#[]⟩ : ByteArray), 0, false))
def contangoref11_Account.f (k : Nat) (l0 : List (S148)) (a1_0 : ByteArray) (a1_1 : ByteArray) : Option (ByteArray × Int × Bool) := (contangoref11_Find.f k l0 a1_0).bind fun bt103 => (contangoref11_Account.l0 k 0 a1_0 a1_1 bt103.1 bt103.2.1 bt103.2.2.1)
set_option maxHeartbeats 8000000 in
set_option maxRecDepth 100000 in
theorem contangoref11_Account.calls (k : Nat) (A0 : Option Addr) (c0 : Nat) (l0 : List (S148)) (a1_0 : ByteArray) (a1_1 : ByteArray) (r1 : ByteArray) (r2 : Int) (r3 : Bool) (w : World) (hr0 : Kd.C k148 w A0 l0.length l0) (hc0 : l0.length ≤ c0) (h : contangoref11_Account.f k l0 a1_0 a1_1 = some (r1, r2, r3)) :
    Calls Tryz.prog 98 #[.slice A0 l0.length c0, .agg #[.string a1_0, .string a1_1]] w fun e w' => e = .returned (.tuple #[.agg #[.string r1, .int .i64 r2], .bool r3]) ∧ Below w.heap.size w w' := by
  have hu25 := Tryz.underlying25
  have hu151 := Tryz.underlying151
  have hu148 := Tryz.underlying148
  have HR0 := Aside0.mk hr0
  have HC0 := Aside0.mk hc0
  clear hr0 hc0
  have HB := Aside0.mk (Below.refl w.heap.size w)
  have H : ((contangoref11_Find.f k l0 a1_0).bind fun bt103 => (contangoref11_Account.l0 k 0 a1_0 a1_1 bt103.1 bt103.2.1 bt103.2.2.1)) = some (r1, r2, r3) := h
  clear h
  replace H := bnd H
  obtain ⟨⟨t103, t104, t105, t108⟩, A30, H⟩ := H
  replace H : (contangoref11_Account.l0 k 0 a1_0 a1_1 t103 t104 t105) = some (r1, r2, r3) := H
  have A3 := Aside0.mk A30
  clear A30
  have H' := Aside0.mk H
  clear H
  go_enter Tryz.func98, Tryz.ntmps98
  go_wp2_with (first | ((with_reducible refine gate_dst (N := 3) rfl ?_); refine box_event ?hg (N := 3) ?hd (cs := #[.string a1_0, .string a1_1]) (t := 25) ?hr ?_; (case hd => rfl); (case hg => rfl); (case hr => first | (go_simp; done) | (go_simp; rfl)); intro gb101 hg w4 hbox hb; have BK101 := Aside0.mk (hbox); have GW101 := Aside0.mk ((gsz hg : w.heap.size ≤ gb101)); have GE101 := Aside0.mk ((gsz hg : w.heap.size ≤ gb101)); replace HB := Aside0.mk (below_step bel hb); clear hb hbox hg) | ((with_reducible refine gate_dst (N := 4) rfl ?_); refine box_event ?hg (N := 4) ?hd (cs := #[.string (⟨#[]⟩ : ByteArray), .int .i64 0]) (t := 151) ?hr ?_; (case hd => rfl); (case hg => rfl); (case hr => first | (go_simp; done) | (go_simp; rfl)); intro gb102 hg w5 hbox hb; have BK102 := Aside0.mk (hbox); have GW102 := Aside0.mk ((gsz hg : w.heap.size ≤ gb102)); have GE102 := Aside0.mk ((gsz hg : w.heap.size ≤ gb102)); have NB101_102 := Aside0.mk ((nlt hg (bw BK101.out) : gb101 ≠ gb102)); have NB102_101 := Aside0.mk ((ngt hg (bw BK101.out) : gb102 ≠ gb101)); replace BK101 := Aside0.mk (blk_below (g := gb101) (bw BK101.out) hb); replace HB := Aside0.mk (below_step bel hb); clear hb hbox hg; have hnb6 := NB101_102.out; have hnc6 := NB102_101.out; obtain ⟨hcz7_0, hcz7_1, hfz7_0, hfz7_1⟩ := cz2 BK101.out) | (go_at_call 97; (with_reducible refine (contangoref11_Find.calls k (fun k_ => k_ < w.heap.size) _ _ l0 a1_0 t103 t104 t105 t108 _ ?side1 A3.out).mono ?_); (case side1 => exact Kd.V_mk HC0.out (Kd.F_below (Kd.C_F k148_heap HR0.out) bel)); rintro e w8 ⟨v106, rfl, ho0, hb⟩; have HO107 := Aside0.mk (Kd.V_lower (Kd.V_mono (ok' := fun k_ => k_ ≠ gb101 ∧ k_ ≠ gb102) ho0 (fun k_ hk_ => ⟨Or.elim hk_ (fun hs_ => fun e_ => Nat.not_le.2 hs_ (by rw [e_]; exact GW101.out)) (fun hn_ => (Kd.freshB (g := gb101) (o := .cells #[.string a1_0, .string a1_1] 25 (0, 0)) (bw BK101.out) k_ hn_)), Or.elim hk_ (fun hs_ => fun e_ => Nat.not_le.2 hs_ (by rw [e_]; exact GW102.out)) (fun hn_ => (Kd.freshB (g := gb102) (o := .cells #[.string (⟨#[]⟩ : ByteArray), .int .i64 0] 151 (0, 0)) (bw BK102.out) k_ hn_))⟩)) (below_size bel)); replace BK101 := Aside0.mk (blk_below (g := gb101) (bw BK101.out) hb); replace BK102 := Aside0.mk (blk_below (g := gb102) (bw BK102.out) hb); replace HB := Aside0.mk (below_step bel hb); (try clear hb); (try clear hb2); (try clear hk); (try clear hi); (try clear ho0)) | ((with_reducible refine gate_dst (N := 6) rfl ?_); refine box_event ?hg (N := 6) ?hd (cs := #[.string (⟨#[]⟩ : ByteArray), .int .i64 0, .slice none 0 0]) (t := 148) ?hr ?_; (case hd => rfl); (case hg => rfl); (case hr => first | (go_simp; done) | (go_simp; rfl)); intro gb109 hg w9 hbox hb; replace HO107 := Aside0.mk (Kd.V_below (Kd.V_elderB (kv HO107.out) gb109 (Nat.le_of_eq hg.symm)) hb); have BK109 := Aside0.mk (hbox); have GW109 := Aside0.mk ((gsz hg : w.heap.size ≤ gb109)); have GE109 := Aside0.mk ((gsz hg : w.heap.size ≤ gb109)); have NB101_109 := Aside0.mk ((nlt hg (bw BK101.out) : gb101 ≠ gb109)); have NB109_101 := Aside0.mk ((ngt hg (bw BK101.out) : gb109 ≠ gb101)); replace BK101 := Aside0.mk (blk_below (g := gb101) (bw BK101.out) hb); have NB102_109 := Aside0.mk ((nlt hg (bw BK102.out) : gb102 ≠ gb109)); have NB109_102 := Aside0.mk ((ngt hg (bw BK102.out) : gb109 ≠ gb102)); replace BK102 := Aside0.mk (blk_below (g := gb102) (bw BK102.out) hb); replace HB := Aside0.mk (below_step bel hb); clear hb hbox hg; have hnb10 := NB109_101.out; have hnc10 := NB101_109.out; have hnb11 := NB109_102.out; have hnc11 := NB102_109.out; obtain ⟨hcz12_0, hcz12_1, hcz12_2, hfz12_0, hfz12_1, hfz12_2⟩ := cz3 BK109.out; obtain ⟨Ao13, co13, eo13⟩ := Kd.V_slice HO107.out; subst eo13))
  repeat (go_quiet (first | ((with_reducible refine gate_dst (N := 3) rfl ?_); refine box_event ?hg (N := 3) ?hd (cs := #[.string a1_0, .string a1_1]) (t := 25) ?hr ?_; (case hd => rfl); (case hg => rfl); (case hr => first | (go_simp; done) | (go_simp; rfl)); intro gb101 hg w4 hbox hb; have BK101 := Aside0.mk (hbox); have GW101 := Aside0.mk ((gsz hg : w.heap.size ≤ gb101)); have GE101 := Aside0.mk ((gsz hg : w.heap.size ≤ gb101)); replace HB := Aside0.mk (below_step bel hb); clear hb hbox hg) | ((with_reducible refine gate_dst (N := 4) rfl ?_); refine box_event ?hg (N := 4) ?hd (cs := #[.string (⟨#[]⟩ : ByteArray), .int .i64 0]) (t := 151) ?hr ?_; (case hd => rfl); (case hg => rfl); (case hr => first | (go_simp; done) | (go_simp; rfl)); intro gb102 hg w5 hbox hb; have BK102 := Aside0.mk (hbox); have GW102 := Aside0.mk ((gsz hg : w.heap.size ≤ gb102)); have GE102 := Aside0.mk ((gsz hg : w.heap.size ≤ gb102)); have NB101_102 := Aside0.mk ((nlt hg (bw BK101.out) : gb101 ≠ gb102)); have NB102_101 := Aside0.mk ((ngt hg (bw BK101.out) : gb102 ≠ gb101)); replace BK101 := Aside0.mk (blk_below (g := gb101) (bw BK101.out) hb); replace HB := Aside0.mk (below_step bel hb); clear hb hbox hg; have hnb6 := NB101_102.out; have hnc6 := NB102_101.out; obtain ⟨hcz7_0, hcz7_1, hfz7_0, hfz7_1⟩ := cz2 BK101.out) | (go_at_call 97; (with_reducible refine (contangoref11_Find.calls k (fun k_ => k_ < w.heap.size) _ _ l0 a1_0 t103 t104 t105 t108 _ ?side1 A3.out).mono ?_); (case side1 => exact Kd.V_mk HC0.out (Kd.F_below (Kd.C_F k148_heap HR0.out) bel)); rintro e w8 ⟨v106, rfl, ho0, hb⟩; have HO107 := Aside0.mk (Kd.V_lower (Kd.V_mono (ok' := fun k_ => k_ ≠ gb101 ∧ k_ ≠ gb102) ho0 (fun k_ hk_ => ⟨Or.elim hk_ (fun hs_ => fun e_ => Nat.not_le.2 hs_ (by rw [e_]; exact GW101.out)) (fun hn_ => (Kd.freshB (g := gb101) (o := .cells #[.string a1_0, .string a1_1] 25 (0, 0)) (bw BK101.out) k_ hn_)), Or.elim hk_ (fun hs_ => fun e_ => Nat.not_le.2 hs_ (by rw [e_]; exact GW102.out)) (fun hn_ => (Kd.freshB (g := gb102) (o := .cells #[.string (⟨#[]⟩ : ByteArray), .int .i64 0] 151 (0, 0)) (bw BK102.out) k_ hn_))⟩)) (below_size bel)); replace BK101 := Aside0.mk (blk_below (g := gb101) (bw BK101.out) hb); replace BK102 := Aside0.mk (blk_below (g := gb102) (bw BK102.out) hb); replace HB := Aside0.mk (below_step bel hb); (try clear hb); (try clear hb2); (try clear hk); (try clear hi); (try clear ho0)) | ((with_reducible refine gate_dst (N := 6) rfl ?_); refine box_event ?hg (N := 6) ?hd (cs := #[.string (⟨#[]⟩ : ByteArray), .int .i64 0, .slice none 0 0]) (t := 148) ?hr ?_; (case hd => rfl); (case hg => rfl); (case hr => first | (go_simp; done) | (go_simp; rfl)); intro gb109 hg w9 hbox hb; replace HO107 := Aside0.mk (Kd.V_below (Kd.V_elderB (kv HO107.out) gb109 (Nat.le_of_eq hg.symm)) hb); have BK109 := Aside0.mk (hbox); have GW109 := Aside0.mk ((gsz hg : w.heap.size ≤ gb109)); have GE109 := Aside0.mk ((gsz hg : w.heap.size ≤ gb109)); have NB101_109 := Aside0.mk ((nlt hg (bw BK101.out) : gb101 ≠ gb109)); have NB109_101 := Aside0.mk ((ngt hg (bw BK101.out) : gb109 ≠ gb101)); replace BK101 := Aside0.mk (blk_below (g := gb101) (bw BK101.out) hb); have NB102_109 := Aside0.mk ((nlt hg (bw BK102.out) : gb102 ≠ gb109)); have NB109_102 := Aside0.mk ((ngt hg (bw BK102.out) : gb109 ≠ gb102)); replace BK102 := Aside0.mk (blk_below (g := gb102) (bw BK102.out) hb); replace HB := Aside0.mk (below_step bel hb); clear hb hbox hg; have hnb10 := NB109_101.out; have hnc10 := NB101_109.out; have hnb11 := NB109_102.out; have hnc11 := NB102_109.out; obtain ⟨hcz12_0, hcz12_1, hcz12_2, hfz12_0, hfz12_1, hfz12_2⟩ := cz3 BK109.out; obtain ⟨Ao13, co13, eo13⟩ := Kd.V_slice HO107.out; subst eo13)); try go_wp2_with (first | ((with_reducible refine gate_dst (N := 3) rfl ?_); refine box_event ?hg (N := 3) ?hd (cs := #[.string a1_0, .string a1_1]) (t := 25) ?hr ?_; (case hd => rfl); (case hg => rfl); (case hr => first | (go_simp; done) | (go_simp; rfl)); intro gb101 hg w4 hbox hb; have BK101 := Aside0.mk (hbox); have GW101 := Aside0.mk ((gsz hg : w.heap.size ≤ gb101)); have GE101 := Aside0.mk ((gsz hg : w.heap.size ≤ gb101)); replace HB := Aside0.mk (below_step bel hb); clear hb hbox hg) | ((with_reducible refine gate_dst (N := 4) rfl ?_); refine box_event ?hg (N := 4) ?hd (cs := #[.string (⟨#[]⟩ : ByteArray), .int .i64 0]) (t := 151) ?hr ?_; (case hd => rfl); (case hg => rfl); (case hr => first | (go_simp; done) | (go_simp; rfl)); intro gb102 hg w5 hbox hb; have BK102 := Aside0.mk (hbox); have GW102 := Aside0.mk ((gsz hg : w.heap.size ≤ gb102)); have GE102 := Aside0.mk ((gsz hg : w.heap.size ≤ gb102)); have NB101_102 := Aside0.mk ((nlt hg (bw BK101.out) : gb101 ≠ gb102)); have NB102_101 := Aside0.mk ((ngt hg (bw BK101.out) : gb102 ≠ gb101)); replace BK101 := Aside0.mk (blk_below (g := gb101) (bw BK101.out) hb); replace HB := Aside0.mk (below_step bel hb); clear hb hbox hg; have hnb6 := NB101_102.out; have hnc6 := NB102_101.out; obtain ⟨hcz7_0, hcz7_1, hfz7_0, hfz7_1⟩ := cz2 BK101.out) | (go_at_call 97; (with_reducible refine (contangoref11_Find.calls k (fun k_ => k_ < w.heap.size) _ _ l0 a1_0 t103 t104 t105 t108 _ ?side1 A3.out).mono ?_); (case side1 => exact Kd.V_mk HC0.out (Kd.F_below (Kd.C_F k148_heap HR0.out) bel)); rintro e w8 ⟨v106, rfl, ho0, hb⟩; have HO107 := Aside0.mk (Kd.V_lower (Kd.V_mono (ok' := fun k_ => k_ ≠ gb101 ∧ k_ ≠ gb102) ho0 (fun k_ hk_ => ⟨Or.elim hk_ (fun hs_ => fun e_ => Nat.not_le.2 hs_ (by rw [e_]; exact GW101.out)) (fun hn_ => (Kd.freshB (g := gb101) (o := .cells #[.string a1_0, .string a1_1] 25 (0, 0)) (bw BK101.out) k_ hn_)), Or.elim hk_ (fun hs_ => fun e_ => Nat.not_le.2 hs_ (by rw [e_]; exact GW102.out)) (fun hn_ => (Kd.freshB (g := gb102) (o := .cells #[.string (⟨#[]⟩ : ByteArray), .int .i64 0] 151 (0, 0)) (bw BK102.out) k_ hn_))⟩)) (below_size bel)); replace BK101 := Aside0.mk (blk_below (g := gb101) (bw BK101.out) hb); replace BK102 := Aside0.mk (blk_below (g := gb102) (bw BK102.out) hb); replace HB := Aside0.mk (below_step bel hb); (try clear hb); (try clear hb2); (try clear hk); (try clear hi); (try clear ho0)) | ((with_reducible refine gate_dst (N := 6) rfl ?_); refine box_event ?hg (N := 6) ?hd (cs := #[.string (⟨#[]⟩ : ByteArray), .int .i64 0, .slice none 0 0]) (t := 148) ?hr ?_; (case hd => rfl); (case hg => rfl); (case hr => first | (go_simp; done) | (go_simp; rfl)); intro gb109 hg w9 hbox hb; replace HO107 := Aside0.mk (Kd.V_below (Kd.V_elderB (kv HO107.out) gb109 (Nat.le_of_eq hg.symm)) hb); have BK109 := Aside0.mk (hbox); have GW109 := Aside0.mk ((gsz hg : w.heap.size ≤ gb109)); have GE109 := Aside0.mk ((gsz hg : w.heap.size ≤ gb109)); have NB101_109 := Aside0.mk ((nlt hg (bw BK101.out) : gb101 ≠ gb109)); have NB109_101 := Aside0.mk ((ngt hg (bw BK101.out) : gb109 ≠ gb101)); replace BK101 := Aside0.mk (blk_below (g := gb101) (bw BK101.out) hb); have NB102_109 := Aside0.mk ((nlt hg (bw BK102.out) : gb102 ≠ gb109)); have NB109_102 := Aside0.mk ((ngt hg (bw BK102.out) : gb109 ≠ gb102)); replace BK102 := Aside0.mk (blk_below (g := gb102) (bw BK102.out) hb); replace HB := Aside0.mk (below_step bel hb); clear hb hbox hg; have hnb10 := NB109_101.out; have hnc10 := NB101_109.out; have hnb11 := NB109_102.out; have hnc11 := NB102_109.out; obtain ⟨hcz12_0, hcz12_1, hcz12_2, hfz12_0, hfz12_1, hfz12_2⟩ := cz3 BK109.out; obtain ⟨Ao13, co13, eo13⟩ := Kd.V_slice HO107.out; subst eo13)))
  go_loopg [8] k (fun kq v8 w' => ∃ (x8_1 : Int) (x103000_1 : ByteArray) (x103001_1 : Int), v8 = .int .i64 x8_1 ∧ Aside0 (contangoref11_Account.l0 kq x8_1 a1_0 a1_1 t103 t104 t105 = some (r1, r2, r3)) ∧ Aside0 (kq ≤ k) ∧ Aside0 (Kd.V k151 151 w' w.heap.size (fun k_ => k_ ≠ gb101 ∧ k_ ≠ gb102 ∧ k_ ≠ gb109) (.slice Ao13 t105.length co13) t105) ∧ Aside0 (w'.heap[gb101]? = some (.cells #[.string a1_0, .string a1_1] 25 (0, 0))) ∧ Aside0 (w'.heap[gb102]? = some (.cells #[.string x103000_1, .int .i64 x103001_1] 151 (0, 0))) ∧ Aside0 (w'.heap[gb109]? = some (.cells #[.string t103, .int .i64 t104, (.slice Ao13 t105.length co13)] 148 (0, 0))) ∧ Aside0 (Below w.heap.size w w'))
  case atStart => exact ⟨(0), ((⟨#[]⟩ : ByteArray)), (0), eqs, H', ⟨Nat.le_refl _⟩, ⟨by (with_reducible repeat (first | apply Kd.V_alloc | apply Kd.V_drewN | apply Kd.V_drew)); exact Kd.V_mono (Kd.V_far (p := ⟨gb109, 2, none⟩) (Kd.V_far (p := ⟨gb109, 1, none⟩) (Kd.V_far (p := ⟨gb109, 0, none⟩) (Kd.V_mono HO107.out (fun k_ hk => (⟨hk, hk.2⟩ : _ ∧ k_ ≠ gb109))) (fun _ hk => hk.2) (.string t103)) (fun _ hk => hk.2) (.int .i64 t104)) (fun _ hk => hk.2) (.slice Ao13 t105.length co13)) (fun _ hk => ⟨hk.1.1.1, ⟨hk.1.1.2, hk.1.2⟩⟩)⟩, ⟨bs BK101.out⟩, ⟨bs BK102.out⟩, ⟨bs BK109.out⟩, ⟨bel⟩⟩
  case round =>
    clear H'
    try clear c1
    try clear p2
    try clear c6
    try clear c9
    try clear c10
    try clear c11
    try clear hcz12_0 hcz12_1 hcz12_2
    try clear hcz7_0 hcz7_1
    try clear hfz12_0 hfz12_1 hfz12_2
    try clear hfz7_0 hfz7_1
    obtain ⟨x8_1, x103000_1, x103001_1, rfl, HA, HK1, HO_110002, BK101, BK102, BK109, HB⟩ := hrel
    cases gk with
    | zero => exact absurd HA.out (by simp [contangoref11_Account.l0])
    | succ k1 =>
      have H := HA.out
      clear HA
      simp only [contangoref11_Account.l0] at H
      by_cases c14 : x8_1 < (t105.length : Int)
      · rw [if_pos c14] at H
        have c14b0 := decide_eq_true c14
        clear c14
        by_cases c15 : 0 ≤ x8_1
        · rw [if_pos c15] at H
          have c15b0 := decide_eq_true c15
          clear c15
          by_cases c16 : ((rd_T151 t105 x8_1).f0).toList = a1_1.toList
          · rw [if_pos c16] at H
            have c16b0 : (((rd_T151 t105 x8_1).f0).toList == a1_1.toList) = true := beq_iff_eq.mpr c16
            have c16b1 : (((rd_T151 t105 x8_1).f0).toList != a1_1.toList) = false := bne_eq_false_iff_eq.mpr c16
            clear c16
            simp only [Option.some.injEq, Prod.mk.injEq] at H
            obtain ⟨rfl, rfl, rfl⟩ := H
            have hnb17 := NB109_101.out
            have hnc17 := NB101_109.out
            have hnb18 := NB109_102.out
            have hnc18 := NB102_109.out
            obtain ⟨hcz19_0, hcz19_1, hcz19_2, hfz19_0, hfz19_1, hfz19_2⟩ := cz3 BK109.out
            have p110 : 0 ≤ (x8_1 : Int) := dt
            have q110 : x8_1 < (t105.length : Int) := dt
            obtain ⟨ad110, e110, hx110_0, hx110_1⟩ := at_T151 (Kd.V_reads' HO_110002.out).2.2 x8_1 p110 q110
            cases e110
            replace p110 := eq_true p110
            replace q110 := eq_true q110
            have hnb20 := NB101_102.out
            have hnc20 := NB102_101.out
            obtain ⟨hcz21_0, hcz21_1, hfz21_0, hfz21_1⟩ := cz2 BK101.out
            have p111 : 0 ≤ (x8_1 : Int) := dt
            have q111 : x8_1 < (t105.length : Int) := dt
            obtain ⟨ad111, e111, hx111_0, hx111_1⟩ := at_T151 (Kd.V_reads' HO_110002.out).2.2 x8_1 p111 q111
            obtain rfl : ad110 = ad111 := (by injection e111)
            replace p111 := eq_true p111
            replace q111 := eq_true q111
            obtain ⟨hcz22_0, hcz22_1, hfz22_0, hfz22_1⟩ := cz2 BK102.out
            go_wp2
            repeat (go_quiet (fail); try go_wp2)
            refine bodyPost_ret (results_ct rfl _ _ gb102 151 #[.string ((rd_T151 t105 x8_1).f0), .int .i64 ((rd_T151 t105 x8_1).f1)] (0, 0) _ rfl (bs BK102.out) Tryz.underlying151 rfl (by kernel_rfl)) rfl ?_
            exact ⟨ers, bel⟩
          · rw [if_neg c16] at H
            have c16b0 : (((rd_T151 t105 x8_1).f0).toList == a1_1.toList) = false := beq_eq_false_iff_ne.mpr c16
            have c16b1 : (((rd_T151 t105 x8_1).f0).toList != a1_1.toList) = true := bne_iff_ne.mpr c16
            have H' := Aside0.mk H
            clear H
            have hnb23 := NB109_101.out
            have hnc23 := NB101_109.out
            have hnb24 := NB109_102.out
            have hnc24 := NB102_109.out
            obtain ⟨hcz25_0, hcz25_1, hcz25_2, hfz25_0, hfz25_1, hfz25_2⟩ := cz3 BK109.out
            have p110 : 0 ≤ (x8_1 : Int) := dt
            have q110 : x8_1 < (t105.length : Int) := dt
            obtain ⟨ad110, e110, hx110_0, hx110_1⟩ := at_T151 (Kd.V_reads' HO_110002.out).2.2 x8_1 p110 q110
            cases e110
            replace p110 := eq_true p110
            replace q110 := eq_true q110
            have hnb26 := NB101_102.out
            have hnc26 := NB102_101.out
            obtain ⟨hcz27_0, hcz27_1, hfz27_0, hfz27_1⟩ := cz2 BK101.out
            go_wp2
            repeat (go_quiet (fail); try go_wp2)
            go_roundg k1
            case measure => have := HK1.out; omega
            case rel => exact ⟨(wrap64 (x8_1 + 1)), (x103000_1), (x103001_1), eqs, H', ⟨hko⟩, ⟨kv HO_110002.out⟩, ⟨bw BK101.out⟩, ⟨bw BK102.out⟩, ⟨bw BK109.out⟩, ⟨bel⟩⟩
        · rw [if_neg c15] at H
          exact absurd H (by simp)
      · rw [if_neg c14] at H
        have c14b0 := decide_eq_false c14
        clear c14
        simp only [Option.some.injEq, Prod.mk.injEq] at H
        obtain ⟨rfl, rfl, rfl⟩ := H
        have hnb28 := NB109_101.out
        have hnc28 := NB101_109.out
        have hnb29 := NB109_102.out
        have hnc29 := NB102_109.out
        obtain ⟨hcz30_0, hcz30_1, hcz30_2, hfz30_0, hfz30_1, hfz30_2⟩ := cz3 BK109.out
        have hnb31 := NB102_101.out
        have hnc31 := NB101_102.out
        obtain ⟨hcz32_0, hcz32_1, hfz32_0, hfz32_1⟩ := cz2 BK102.out
        go_wp2
        repeat (go_quiet (fail); try go_wp2)
        refine bodyPost_ret (results_ct rfl _ _ gb102 151 #[.string (⟨#[]⟩ : ByteArray), .int .i64 0] (0, 0) _ rfl (bs BK102.out) Tryz.underlying151 rfl (by kernel_rfl)) rfl ?_
        exact ⟨ers, bel⟩
def contangoref11_May.f (k : Nat) (l0 : List (S148)) (a1_0 : ByteArray) (a1_1 : ByteArray) (a2 : Int) : Option (Int) := (contangoref11_Find.f k l0 a1_0).bind fun bt102 => (if bt102.2.2.2 = true then ((contangoref11_Account.f k l0 a1_0 a1_1).bind fun bt109 => (if bt109.2.2 = true then (if bt102.2.1 = 1 then (some 0) else (if bt102.2.1 = 2 then (if a2 = 1 then (some 13) else (if a2 = 3 then (some 13) else (some 0))) else (if bt102.2.1 = 3 then (if a2 ≥ 4 then (if a2 ≤ 8 then (some 0) else (some 13)) else (some 13)) else (some 13)))) else (some 21))) else (some 20))
set_option maxHeartbeats 8000000 in
set_option maxRecDepth 100000 in
theorem contangoref11_May.calls (k : Nat) (A0 : Option Addr) (c0 : Nat) (l0 : List (S148)) (a1_0 : ByteArray) (a1_1 : ByteArray) (a2 : Int) (r : Int) (w : World) (hr0 : Kd.C k148 w A0 l0.length l0) (hc0 : l0.length ≤ c0) (h : contangoref11_May.f k l0 a1_0 a1_1 a2 = some r) :
    Calls Tryz.prog 42 #[.slice A0 l0.length c0, .agg #[.string a1_0, .string a1_1], .int .i64 a2] w fun e w' => e = .returned (.int .i64 r) ∧ Below w.heap.size w w' := by
  have hu25 := Tryz.underlying25
  have hu148 := Tryz.underlying148
  have hu151 := Tryz.underlying151
  have HR0 := Aside0.mk hr0
  have HC0 := Aside0.mk hc0
  clear hr0 hc0
  have HB := Aside0.mk (Below.refl w.heap.size w)
  have H : ((contangoref11_Find.f k l0 a1_0).bind fun bt102 => (if bt102.2.2.2 = true then ((contangoref11_Account.f k l0 a1_0 a1_1).bind fun bt109 => (if bt109.2.2 = true then (if bt102.2.1 = 1 then (some 0) else (if bt102.2.1 = 2 then (if a2 = 1 then (some 13) else (if a2 = 3 then (some 13) else (some 0))) else (if bt102.2.1 = 3 then (if a2 ≥ 4 then (if a2 ≤ 8 then (some 0) else (some 13)) else (some 13)) else (some 13)))) else (some 21))) else (some 20))) = some r := h
  clear h
  replace H := bnd H
  obtain ⟨⟨t102, t103, t104, t107⟩, A40, H⟩ := H
  replace H : (if t107 = true then ((contangoref11_Account.f k l0 a1_0 a1_1).bind fun bt109 => (if bt109.2.2 = true then (if t103 = 1 then (some 0) else (if t103 = 2 then (if a2 = 1 then (some 13) else (if a2 = 3 then (some 13) else (some 0))) else (if t103 = 3 then (if a2 ≥ 4 then (if a2 ≤ 8 then (some 0) else (some 13)) else (some 13)) else (some 13)))) else (some 21))) else (some 20)) = some r := H
  have A4 := Aside0.mk A40
  clear A40
  by_cases c5 : t107 = true
  · subst c5
    rw [if_pos rfl] at H
    replace H := bnd H
    obtain ⟨⟨t109, t110, t111⟩, A60, H⟩ := H
    replace H : (if t111 = true then (if t103 = 1 then (some 0) else (if t103 = 2 then (if a2 = 1 then (some 13) else (if a2 = 3 then (some 13) else (some 0))) else (if t103 = 3 then (if a2 ≥ 4 then (if a2 ≤ 8 then (some 0) else (some 13)) else (some 13)) else (some 13)))) else (some 21)) = some r := H
    have A6 := Aside0.mk A60
    clear A60
    go_enter Tryz.func42, Tryz.ntmps42
    go_wp2_with (first | ((with_reducible refine gate_dst (N := 4) rfl ?_); refine box_event ?hg (N := 4) ?hd (cs := #[.string a1_0, .string a1_1]) (t := 25) ?hr ?_; (case hd => rfl); (case hg => rfl); (case hr => first | (go_simp; done) | (go_simp; rfl)); intro gb101 hg w9 hbox hb; have BK101 := Aside0.mk (hbox); have GW101 := Aside0.mk ((gsz hg : w.heap.size ≤ gb101)); have GE101 := Aside0.mk ((gsz hg : w.heap.size ≤ gb101)); replace HB := Aside0.mk (below_step bel hb); clear hb hbox hg; obtain ⟨hcz10_0, hcz10_1, hfz10_0, hfz10_1⟩ := cz2 BK101.out) | ((with_reducible refine gate_callee (f := 97) rfl ?_); refine goesL_ (some 15) rfl rfl Tryz.func97 (by kernel_rfl) rfl #[.slice A0 l0.length c0, .string a1_0] rfl arg ?_; (with_reducible refine (contangoref11_Find.calls k (fun k_ => k_ < w.heap.size) _ _ l0 a1_0 t102 t103 t104 true _ ?side1 A4.out).mono ?_); (case side1 => exact Kd.V_mk HC0.out (Kd.F_below (Kd.C_F k148_heap HR0.out) bel)); rintro e w11 ⟨v105, rfl, ho0, hb⟩; refine ⟨_, rfl, ?_⟩; have HO106 := Aside0.mk (Kd.V_lower (Kd.V_mono (ok' := fun k_ => k_ ≠ gb101) ho0 (fun k_ hk_ => Or.elim hk_ (fun hs_ => fun e_ => Nat.not_le.2 hs_ (by rw [e_]; exact GW101.out)) (fun hn_ => (Kd.freshB (g := gb101) (o := .cells #[.string a1_0, .string a1_1] 25 (0, 0)) (bw BK101.out) k_ hn_)))) (below_size bel)); replace BK101 := Aside0.mk (blk_below (g := gb101) (bw BK101.out) hb); replace HB := Aside0.mk (below_step bel hb); (try clear hb); (try clear hb2); (try clear hk); (try clear hi); (try clear ho0)) | ((with_reducible refine gate_dst (N := 7) rfl ?_); refine Aside0.out ?_))
    by_cases c7 : t111 = true
    · subst c7
      rw [if_pos rfl] at H
      refine Aside0.mk ?_
      (refine box_event ?hg (N := 7) ?hd (cs := #[.string (⟨#[]⟩ : ByteArray), .int .i64 0, .slice none 0 0]) (t := 148) ?hr ?_; (case hd => rfl); (case hg => rfl); (case hr => first | (go_simp; done) | (go_simp; rfl)); intro gb108 hg w12 hbox hb; replace HO106 := Aside0.mk (Kd.V_below (Kd.V_elderB (kv HO106.out) gb108 (Nat.le_of_eq hg.symm)) hb); have BK108 := Aside0.mk (hbox); have GW108 := Aside0.mk ((gsz hg : w.heap.size ≤ gb108)); have GE108 := Aside0.mk ((gsz hg : w.heap.size ≤ gb108)); have NB101_108 := Aside0.mk ((nlt hg (bw BK101.out) : gb101 ≠ gb108)); have NB108_101 := Aside0.mk ((ngt hg (bw BK101.out) : gb108 ≠ gb101)); replace BK101 := Aside0.mk (blk_below (g := gb101) (bw BK101.out) hb); replace HB := Aside0.mk (below_step bel hb); clear hb hbox hg; have hnb13 := NB108_101.out; have hnc13 := NB101_108.out; obtain ⟨hcz14_0, hcz14_1, hcz14_2, hfz14_0, hfz14_1, hfz14_2⟩ := cz3 BK108.out; obtain ⟨Ao15, co15, eo15⟩ := Kd.V_slice HO106.out; subst eo15; obtain ⟨hcz16_0, hcz16_1, hfz16_0, hfz16_1⟩ := cz2 BK101.out)
      go_wp2_with (first | ((with_reducible refine gate_callee (f := 98) rfl ?_); refine goesL_ (some 23) rfl rfl Tryz.func98 (by kernel_rfl) rfl #[.slice A0 l0.length c0, .agg #[.string a1_0, .string a1_1]] rfl arg ?_; (with_reducible refine (contangoref11_Account.calls k _ _ l0 a1_0 a1_1 t109 t110 true _ ?side1 ?side2 A6.out).mono ?_); (case side1 => exact Kd.C_below HR0.out bel); (case side2 => exact HC0.out); rintro e w17 ⟨rfl, hb⟩; refine ⟨_, rfl, ?_⟩; replace HO106 := Aside0.mk (Kd.V_below (by (with_reducible repeat (first | apply Kd.V_alloc | apply Kd.V_drewN | apply Kd.V_drew)); exact (Kd.V_mono (Kd.V_far (p := ⟨gb108, 2, none⟩) (Kd.V_far (p := ⟨gb108, 1, none⟩) (Kd.V_far (p := ⟨gb108, 0, none⟩) (Kd.V_mono HO106.out (fun k_ hk => (⟨hk, hk.2⟩ : _ ∧ k_ ≠ gb108))) (fun _ hk => hk.2) (.string t102)) (fun _ hk => hk.2) (.int .i64 t103)) (fun _ hk => hk.2) (.slice Ao15 t104.length co15)) (fun _ h_ => h_.1))) hb); replace BK101 := Aside0.mk (blk_below (g := gb101) (o := .cells #[.string a1_0, .string a1_1] 25 (0, 0)) (bs BK101.out) hb); replace BK108 := Aside0.mk (blk_below (g := gb108) (o := .cells #[.string t102, .int .i64 t103, .slice Ao15 t104.length co15] 148 (0, 0)) (bs BK108.out) hb); replace HB := Aside0.mk (below_step bel hb); (try clear hb); (try clear hb2); (try clear hk); (try clear hi)) | ((with_reducible refine gate_dst (N := 9) rfl ?_); refine Aside0.out ?_))
      by_cases c8 : t103 = 1
      · rw [if_pos c8] at H
        have c8b0 : (t103 == 1) = true := beq_iff_eq.mpr c8
        have c8b1 : (t103 != 1) = false := bne_eq_false_iff_eq.mpr c8
        clear c8
        obtain rfl := Option.some.inj H
        refine Aside0.mk ?_
        (refine box_event ?hg (N := 9) ?hd (cs := #[.string (⟨#[]⟩ : ByteArray), .int .i64 0]) (t := 151) ?hr ?_; (case hd => rfl); (case hg => rfl); (case hr => first | (go_simp; done) | (go_simp; rfl)); intro gb112 hg w18 hbox hb; replace HO106 := Aside0.mk (Kd.V_below (Kd.V_elderB (kv HO106.out) gb112 (Nat.le_of_eq hg.symm)) hb); have BK112 := Aside0.mk (hbox); have GW112 := Aside0.mk ((gsz hg : w.heap.size ≤ gb112)); have GE112 := Aside0.mk ((gsz hg : w.heap.size ≤ gb112)); have NB101_112 := Aside0.mk ((nlt hg (bw BK101.out) : gb101 ≠ gb112)); have NB112_101 := Aside0.mk ((ngt hg (bw BK101.out) : gb112 ≠ gb101)); replace BK101 := Aside0.mk (blk_below (g := gb101) (bw BK101.out) hb); have NB108_112 := Aside0.mk ((nlt hg (bw BK108.out) : gb108 ≠ gb112)); have NB112_108 := Aside0.mk ((ngt hg (bw BK108.out) : gb112 ≠ gb108)); replace BK108 := Aside0.mk (blk_below (g := gb108) (bw BK108.out) hb); replace HB := Aside0.mk (below_step bel hb); clear hb hbox hg; have hnb19 := NB112_101.out; have hnc19 := NB101_112.out; have hnb20 := NB112_108.out; have hnc20 := NB108_112.out; obtain ⟨hcz21_0, hcz21_1, hfz21_0, hfz21_1⟩ := cz2 BK112.out; obtain ⟨hcz22_0, hcz22_1, hcz22_2, hfz22_0, hfz22_1, hfz22_2⟩ := cz3 BK108.out)
        go_wp2_with (fail)
        go_ret
        exact ⟨ers, bel⟩
      · rw [if_neg c8] at H
        have c8b0 : (t103 == 1) = false := beq_eq_false_iff_ne.mpr c8
        have c8b1 : (t103 != 1) = true := bne_iff_ne.mpr c8
        by_cases c23 : t103 = 2
        · rw [if_pos c23] at H
          have c23b0 : (t103 == 2) = true := beq_iff_eq.mpr c23
          have c23b1 : (t103 != 2) = false := bne_eq_false_iff_eq.mpr c23
          clear c23
          by_cases c24 : a2 = 1
          · rw [if_pos c24] at H
            have c24b0 : (a2 == 1) = true := beq_iff_eq.mpr c24
            have c24b1 : (a2 != 1) = false := bne_eq_false_iff_eq.mpr c24
            clear c24
            obtain rfl := Option.some.inj H
            refine Aside0.mk ?_
            (refine box_event ?hg (N := 9) ?hd (cs := #[.string (⟨#[]⟩ : ByteArray), .int .i64 0]) (t := 151) ?hr ?_; (case hd => rfl); (case hg => rfl); (case hr => first | (go_simp; done) | (go_simp; rfl)); intro gb112 hg w34 hbox hb; replace HO106 := Aside0.mk (Kd.V_below (Kd.V_elderB (kv HO106.out) gb112 (Nat.le_of_eq hg.symm)) hb); have BK112 := Aside0.mk (hbox); have GW112 := Aside0.mk ((gsz hg : w.heap.size ≤ gb112)); have GE112 := Aside0.mk ((gsz hg : w.heap.size ≤ gb112)); have NB101_112 := Aside0.mk ((nlt hg (bw BK101.out) : gb101 ≠ gb112)); have NB112_101 := Aside0.mk ((ngt hg (bw BK101.out) : gb112 ≠ gb101)); replace BK101 := Aside0.mk (blk_below (g := gb101) (bw BK101.out) hb); have NB108_112 := Aside0.mk ((nlt hg (bw BK108.out) : gb108 ≠ gb112)); have NB112_108 := Aside0.mk ((ngt hg (bw BK108.out) : gb112 ≠ gb108)); replace BK108 := Aside0.mk (blk_below (g := gb108) (bw BK108.out) hb); replace HB := Aside0.mk (below_step bel hb); clear hb hbox hg; have hnb35 := NB112_101.out; have hnc35 := NB101_112.out; have hnb36 := NB112_108.out; have hnc36 := NB108_112.out; obtain ⟨hcz37_0, hcz37_1, hfz37_0, hfz37_1⟩ := cz2 BK112.out; obtain ⟨hcz38_0, hcz38_1, hcz38_2, hfz38_0, hfz38_1, hfz38_2⟩ := cz3 BK108.out)
            go_wp2_with (fail)
            go_ret
            exact ⟨ers, bel⟩
          · rw [if_neg c24] at H
            have c24b0 : (a2 == 1) = false := beq_eq_false_iff_ne.mpr c24
            have c24b1 : (a2 != 1) = true := bne_iff_ne.mpr c24
            by_cases c39 : a2 = 3
            · rw [if_pos c39] at H
              have c39b0 : (a2 == 3) = true := beq_iff_eq.mpr c39
              have c39b1 : (a2 != 3) = false := bne_eq_false_iff_eq.mpr c39
              clear c39
              obtain rfl := Option.some.inj H
              refine Aside0.mk ?_
              (refine box_event ?hg (N := 9) ?hd (cs := #[.string (⟨#[]⟩ : ByteArray), .int .i64 0]) (t := 151) ?hr ?_; (case hd => rfl); (case hg => rfl); (case hr => first | (go_simp; done) | (go_simp; rfl)); intro gb112 hg w49 hbox hb; replace HO106 := Aside0.mk (Kd.V_below (Kd.V_elderB (kv HO106.out) gb112 (Nat.le_of_eq hg.symm)) hb); have BK112 := Aside0.mk (hbox); have GW112 := Aside0.mk ((gsz hg : w.heap.size ≤ gb112)); have GE112 := Aside0.mk ((gsz hg : w.heap.size ≤ gb112)); have NB101_112 := Aside0.mk ((nlt hg (bw BK101.out) : gb101 ≠ gb112)); have NB112_101 := Aside0.mk ((ngt hg (bw BK101.out) : gb112 ≠ gb101)); replace BK101 := Aside0.mk (blk_below (g := gb101) (bw BK101.out) hb); have NB108_112 := Aside0.mk ((nlt hg (bw BK108.out) : gb108 ≠ gb112)); have NB112_108 := Aside0.mk ((ngt hg (bw BK108.out) : gb112 ≠ gb108)); replace BK108 := Aside0.mk (blk_below (g := gb108) (bw BK108.out) hb); replace HB := Aside0.mk (below_step bel hb); clear hb hbox hg; have hnb50 := NB112_101.out; have hnc50 := NB101_112.out; have hnb51 := NB112_108.out; have hnc51 := NB108_112.out; obtain ⟨hcz52_0, hcz52_1, hfz52_0, hfz52_1⟩ := cz2 BK112.out; obtain ⟨hcz53_0, hcz53_1, hcz53_2, hfz53_0, hfz53_1, hfz53_2⟩ := cz3 BK108.out)
              go_wp2_with (fail)
              go_ret
              exact ⟨ers, bel⟩
            · rw [if_neg c39] at H
              have c39b0 : (a2 == 3) = false := beq_eq_false_iff_ne.mpr c39
              have c39b1 : (a2 != 3) = true := bne_iff_ne.mpr c39
              obtain rfl := Option.some.inj H
              refine Aside0.mk ?_
              (refine box_event ?hg (N := 9) ?hd (cs := #[.string (⟨#[]⟩ : ByteArray), .int .i64 0]) (t := 151) ?hr ?_; (case hd => rfl); (case hg => rfl); (case hr => first | (go_simp; done) | (go_simp; rfl)); intro gb112 hg w63 hbox hb; replace HO106 := Aside0.mk (Kd.V_below (Kd.V_elderB (kv HO106.out) gb112 (Nat.le_of_eq hg.symm)) hb); have BK112 := Aside0.mk (hbox); have GW112 := Aside0.mk ((gsz hg : w.heap.size ≤ gb112)); have GE112 := Aside0.mk ((gsz hg : w.heap.size ≤ gb112)); have NB101_112 := Aside0.mk ((nlt hg (bw BK101.out) : gb101 ≠ gb112)); have NB112_101 := Aside0.mk ((ngt hg (bw BK101.out) : gb112 ≠ gb101)); replace BK101 := Aside0.mk (blk_below (g := gb101) (bw BK101.out) hb); have NB108_112 := Aside0.mk ((nlt hg (bw BK108.out) : gb108 ≠ gb112)); have NB112_108 := Aside0.mk ((ngt hg (bw BK108.out) : gb112 ≠ gb108)); replace BK108 := Aside0.mk (blk_below (g := gb108) (bw BK108.out) hb); replace HB := Aside0.mk (below_step bel hb); clear hb hbox hg; have hnb64 := NB112_101.out; have hnc64 := NB101_112.out; have hnb65 := NB112_108.out; have hnc65 := NB108_112.out; obtain ⟨hcz66_0, hcz66_1, hfz66_0, hfz66_1⟩ := cz2 BK112.out; obtain ⟨hcz67_0, hcz67_1, hcz67_2, hfz67_0, hfz67_1, hfz67_2⟩ := cz3 BK108.out)
              go_wp2_with (fail)
              go_ret
              exact ⟨ers, bel⟩
        · rw [if_neg c23] at H
          have c23b0 : (t103 == 2) = false := beq_eq_false_iff_ne.mpr c23
          have c23b1 : (t103 != 2) = true := bne_iff_ne.mpr c23
          by_cases c68 : t103 = 3
          · rw [if_pos c68] at H
            have c68b0 : (t103 == 3) = true := beq_iff_eq.mpr c68
            have c68b1 : (t103 != 3) = false := bne_eq_false_iff_eq.mpr c68
            clear c68
            by_cases c69 : a2 ≥ 4
            · rw [if_pos c69] at H
              have c69b0 : decide (4 ≤ a2) = true := decide_eq_true c69
              clear c69
              by_cases c70 : a2 ≤ 8
              · rw [if_pos c70] at H
                have c70b0 := decide_eq_true c70
                clear c70
                obtain rfl := Option.some.inj H
                refine Aside0.mk ?_
                (refine box_event ?hg (N := 9) ?hd (cs := #[.string (⟨#[]⟩ : ByteArray), .int .i64 0]) (t := 151) ?hr ?_; (case hd => rfl); (case hg => rfl); (case hr => first | (go_simp; done) | (go_simp; rfl)); intro gb112 hg w80 hbox hb; replace HO106 := Aside0.mk (Kd.V_below (Kd.V_elderB (kv HO106.out) gb112 (Nat.le_of_eq hg.symm)) hb); have BK112 := Aside0.mk (hbox); have GW112 := Aside0.mk ((gsz hg : w.heap.size ≤ gb112)); have GE112 := Aside0.mk ((gsz hg : w.heap.size ≤ gb112)); have NB101_112 := Aside0.mk ((nlt hg (bw BK101.out) : gb101 ≠ gb112)); have NB112_101 := Aside0.mk ((ngt hg (bw BK101.out) : gb112 ≠ gb101)); replace BK101 := Aside0.mk (blk_below (g := gb101) (bw BK101.out) hb); have NB108_112 := Aside0.mk ((nlt hg (bw BK108.out) : gb108 ≠ gb112)); have NB112_108 := Aside0.mk ((ngt hg (bw BK108.out) : gb112 ≠ gb108)); replace BK108 := Aside0.mk (blk_below (g := gb108) (bw BK108.out) hb); replace HB := Aside0.mk (below_step bel hb); clear hb hbox hg; have hnb81 := NB112_101.out; have hnc81 := NB101_112.out; have hnb82 := NB112_108.out; have hnc82 := NB108_112.out; obtain ⟨hcz83_0, hcz83_1, hfz83_0, hfz83_1⟩ := cz2 BK112.out; obtain ⟨hcz84_0, hcz84_1, hcz84_2, hfz84_0, hfz84_1, hfz84_2⟩ := cz3 BK108.out)
                go_wp2_with (fail)
                go_ret
                exact ⟨ers, bel⟩
              · rw [if_neg c70] at H
                have c70b0 := decide_eq_false c70
                clear c70
                obtain rfl := Option.some.inj H
                refine Aside0.mk ?_
                (refine box_event ?hg (N := 9) ?hd (cs := #[.string (⟨#[]⟩ : ByteArray), .int .i64 0]) (t := 151) ?hr ?_; (case hd => rfl); (case hg => rfl); (case hr => first | (go_simp; done) | (go_simp; rfl)); intro gb112 hg w94 hbox hb; replace HO106 := Aside0.mk (Kd.V_below (Kd.V_elderB (kv HO106.out) gb112 (Nat.le_of_eq hg.symm)) hb); have BK112 := Aside0.mk (hbox); have GW112 := Aside0.mk ((gsz hg : w.heap.size ≤ gb112)); have GE112 := Aside0.mk ((gsz hg : w.heap.size ≤ gb112)); have NB101_112 := Aside0.mk ((nlt hg (bw BK101.out) : gb101 ≠ gb112)); have NB112_101 := Aside0.mk ((ngt hg (bw BK101.out) : gb112 ≠ gb101)); replace BK101 := Aside0.mk (blk_below (g := gb101) (bw BK101.out) hb); have NB108_112 := Aside0.mk ((nlt hg (bw BK108.out) : gb108 ≠ gb112)); have NB112_108 := Aside0.mk ((ngt hg (bw BK108.out) : gb112 ≠ gb108)); replace BK108 := Aside0.mk (blk_below (g := gb108) (bw BK108.out) hb); replace HB := Aside0.mk (below_step bel hb); clear hb hbox hg; have hnb95 := NB112_101.out; have hnc95 := NB101_112.out; have hnb96 := NB112_108.out; have hnc96 := NB108_112.out; obtain ⟨hcz97_0, hcz97_1, hfz97_0, hfz97_1⟩ := cz2 BK112.out; obtain ⟨hcz98_0, hcz98_1, hcz98_2, hfz98_0, hfz98_1, hfz98_2⟩ := cz3 BK108.out)
                go_wp2_with (fail)
                go_ret
                exact ⟨ers, bel⟩
            · rw [if_neg c69] at H
              have c69b0 : decide (4 ≤ a2) = false := decide_eq_false c69
              clear c69
              obtain rfl := Option.some.inj H
              refine Aside0.mk ?_
              (refine box_event ?hg (N := 9) ?hd (cs := #[.string (⟨#[]⟩ : ByteArray), .int .i64 0]) (t := 151) ?hr ?_; (case hd => rfl); (case hg => rfl); (case hr => first | (go_simp; done) | (go_simp; rfl)); intro gb112 hg w108 hbox hb; replace HO106 := Aside0.mk (Kd.V_below (Kd.V_elderB (kv HO106.out) gb112 (Nat.le_of_eq hg.symm)) hb); have BK112 := Aside0.mk (hbox); have GW112 := Aside0.mk ((gsz hg : w.heap.size ≤ gb112)); have GE112 := Aside0.mk ((gsz hg : w.heap.size ≤ gb112)); have NB101_112 := Aside0.mk ((nlt hg (bw BK101.out) : gb101 ≠ gb112)); have NB112_101 := Aside0.mk ((ngt hg (bw BK101.out) : gb112 ≠ gb101)); replace BK101 := Aside0.mk (blk_below (g := gb101) (bw BK101.out) hb); have NB108_112 := Aside0.mk ((nlt hg (bw BK108.out) : gb108 ≠ gb112)); have NB112_108 := Aside0.mk ((ngt hg (bw BK108.out) : gb112 ≠ gb108)); replace BK108 := Aside0.mk (blk_below (g := gb108) (bw BK108.out) hb); replace HB := Aside0.mk (below_step bel hb); clear hb hbox hg; have hnb109 := NB112_101.out; have hnc109 := NB101_112.out; have hnb110 := NB112_108.out; have hnc110 := NB108_112.out; obtain ⟨hcz111_0, hcz111_1, hfz111_0, hfz111_1⟩ := cz2 BK112.out; obtain ⟨hcz112_0, hcz112_1, hcz112_2, hfz112_0, hfz112_1, hfz112_2⟩ := cz3 BK108.out)
              go_wp2_with (fail)
              go_ret
              exact ⟨ers, bel⟩
          · rw [if_neg c68] at H
            have c68b0 : (t103 == 3) = false := beq_eq_false_iff_ne.mpr c68
            have c68b1 : (t103 != 3) = true := bne_iff_ne.mpr c68
            obtain rfl := Option.some.inj H
            refine Aside0.mk ?_
            (refine box_event ?hg (N := 9) ?hd (cs := #[.string (⟨#[]⟩ : ByteArray), .int .i64 0]) (t := 151) ?hr ?_; (case hd => rfl); (case hg => rfl); (case hr => first | (go_simp; done) | (go_simp; rfl)); intro gb112 hg w122 hbox hb; replace HO106 := Aside0.mk (Kd.V_below (Kd.V_elderB (kv HO106.out) gb112 (Nat.le_of_eq hg.symm)) hb); have BK112 := Aside0.mk (hbox); have GW112 := Aside0.mk ((gsz hg : w.heap.size ≤ gb112)); have GE112 := Aside0.mk ((gsz hg : w.heap.size ≤ gb112)); have NB101_112 := Aside0.mk ((nlt hg (bw BK101.out) : gb101 ≠ gb112)); have NB112_101 := Aside0.mk ((ngt hg (bw BK101.out) : gb112 ≠ gb101)); replace BK101 := Aside0.mk (blk_below (g := gb101) (bw BK101.out) hb); have NB108_112 := Aside0.mk ((nlt hg (bw BK108.out) : gb108 ≠ gb112)); have NB112_108 := Aside0.mk ((ngt hg (bw BK108.out) : gb112 ≠ gb108)); replace BK108 := Aside0.mk (blk_below (g := gb108) (bw BK108.out) hb); replace HB := Aside0.mk (below_step bel hb); clear hb hbox hg; have hnb123 := NB112_101.out; have hnc123 := NB101_112.out; have hnb124 := NB112_108.out; have hnc124 := NB108_112.out; obtain ⟨hcz125_0, hcz125_1, hfz125_0, hfz125_1⟩ := cz2 BK112.out; obtain ⟨hcz126_0, hcz126_1, hcz126_2, hfz126_0, hfz126_1, hfz126_2⟩ := cz3 BK108.out)
            go_wp2_with (fail)
            go_ret
            exact ⟨ers, bel⟩
    · replace c7 := Bool.eq_false_iff.mpr c7
      subst c7
      rw [if_neg (show ¬ (false = true) by decide)] at H
      obtain rfl := Option.some.inj H
      refine Aside0.mk ?_
      (refine box_event ?hg (N := 7) ?hd (cs := #[.string (⟨#[]⟩ : ByteArray), .int .i64 0, .slice none 0 0]) (t := 148) ?hr ?_; (case hd => rfl); (case hg => rfl); (case hr => first | (go_simp; done) | (go_simp; rfl)); intro gb108 hg w130 hbox hb; replace HO106 := Aside0.mk (Kd.V_below (Kd.V_elderB (kv HO106.out) gb108 (Nat.le_of_eq hg.symm)) hb); have BK108 := Aside0.mk (hbox); have GW108 := Aside0.mk ((gsz hg : w.heap.size ≤ gb108)); have GE108 := Aside0.mk ((gsz hg : w.heap.size ≤ gb108)); have NB101_108 := Aside0.mk ((nlt hg (bw BK101.out) : gb101 ≠ gb108)); have NB108_101 := Aside0.mk ((ngt hg (bw BK101.out) : gb108 ≠ gb101)); replace BK101 := Aside0.mk (blk_below (g := gb101) (bw BK101.out) hb); replace HB := Aside0.mk (below_step bel hb); clear hb hbox hg; have hnb131 := NB108_101.out; have hnc131 := NB101_108.out; obtain ⟨hcz132_0, hcz132_1, hcz132_2, hfz132_0, hfz132_1, hfz132_2⟩ := cz3 BK108.out; obtain ⟨Ao133, co133, eo133⟩ := Kd.V_slice HO106.out; subst eo133; obtain ⟨hcz134_0, hcz134_1, hfz134_0, hfz134_1⟩ := cz2 BK101.out)
      go_wp2_with (first | ((with_reducible refine gate_callee (f := 98) rfl ?_); refine goesL_ (some 23) rfl rfl Tryz.func98 (by kernel_rfl) rfl #[.slice A0 l0.length c0, .agg #[.string a1_0, .string a1_1]] rfl arg ?_; (with_reducible refine (contangoref11_Account.calls k _ _ l0 a1_0 a1_1 t109 t110 false _ ?side1 ?side2 A6.out).mono ?_); (case side1 => exact Kd.C_below HR0.out bel); (case side2 => exact HC0.out); rintro e w135 ⟨rfl, hb⟩; refine ⟨_, rfl, ?_⟩; replace HO106 := Aside0.mk (Kd.V_below (by (with_reducible repeat (first | apply Kd.V_alloc | apply Kd.V_drewN | apply Kd.V_drew)); exact (Kd.V_mono (Kd.V_far (p := ⟨gb108, 2, none⟩) (Kd.V_far (p := ⟨gb108, 1, none⟩) (Kd.V_far (p := ⟨gb108, 0, none⟩) (Kd.V_mono HO106.out (fun k_ hk => (⟨hk, hk.2⟩ : _ ∧ k_ ≠ gb108))) (fun _ hk => hk.2) (.string t102)) (fun _ hk => hk.2) (.int .i64 t103)) (fun _ hk => hk.2) (.slice Ao133 t104.length co133)) (fun _ h_ => h_.1))) hb); replace BK101 := Aside0.mk (blk_below (g := gb101) (o := .cells #[.string a1_0, .string a1_1] 25 (0, 0)) (bs BK101.out) hb); replace BK108 := Aside0.mk (blk_below (g := gb108) (o := .cells #[.string t102, .int .i64 t103, .slice Ao133 t104.length co133] 148 (0, 0)) (bs BK108.out) hb); replace HB := Aside0.mk (below_step bel hb); (try clear hb); (try clear hb2); (try clear hk); (try clear hi)) | ((with_reducible refine gate_dst (N := 9) rfl ?_); refine box_event ?hg (N := 9) ?hd (cs := #[.string (⟨#[]⟩ : ByteArray), .int .i64 0]) (t := 151) ?hr ?_; (case hd => rfl); (case hg => rfl); (case hr => first | (go_simp; done) | (go_simp; rfl)); intro gb112 hg w136 hbox hb; replace HO106 := Aside0.mk (Kd.V_below (Kd.V_elderB (kv HO106.out) gb112 (Nat.le_of_eq hg.symm)) hb); have BK112 := Aside0.mk (hbox); have GW112 := Aside0.mk ((gsz hg : w.heap.size ≤ gb112)); have GE112 := Aside0.mk ((gsz hg : w.heap.size ≤ gb112)); have NB101_112 := Aside0.mk ((nlt hg (bw BK101.out) : gb101 ≠ gb112)); have NB112_101 := Aside0.mk ((ngt hg (bw BK101.out) : gb112 ≠ gb101)); replace BK101 := Aside0.mk (blk_below (g := gb101) (bw BK101.out) hb); have NB108_112 := Aside0.mk ((nlt hg (bw BK108.out) : gb108 ≠ gb112)); have NB112_108 := Aside0.mk ((ngt hg (bw BK108.out) : gb112 ≠ gb108)); replace BK108 := Aside0.mk (blk_below (g := gb108) (bw BK108.out) hb); replace HB := Aside0.mk (below_step bel hb); clear hb hbox hg; have hnb137 := NB112_101.out; have hnc137 := NB101_112.out; have hnb138 := NB112_108.out; have hnc138 := NB108_112.out; obtain ⟨hcz139_0, hcz139_1, hfz139_0, hfz139_1⟩ := cz2 BK112.out))
      go_ret
      exact ⟨ers, bel⟩
  · replace c5 := Bool.eq_false_iff.mpr c5
    subst c5
    rw [if_neg (show ¬ (false = true) by decide)] at H
    obtain rfl := Option.some.inj H
    go_enter Tryz.func42, Tryz.ntmps42
    go_wp2_with (first | ((with_reducible refine gate_dst (N := 4) rfl ?_); refine box_event ?hg (N := 4) ?hd (cs := #[.string a1_0, .string a1_1]) (t := 25) ?hr ?_; (case hd => rfl); (case hg => rfl); (case hr => first | (go_simp; done) | (go_simp; rfl)); intro gb101 hg w140 hbox hb; have BK101 := Aside0.mk (hbox); have GW101 := Aside0.mk ((gsz hg : w.heap.size ≤ gb101)); have GE101 := Aside0.mk ((gsz hg : w.heap.size ≤ gb101)); replace HB := Aside0.mk (below_step bel hb); clear hb hbox hg; obtain ⟨hcz141_0, hcz141_1, hfz141_0, hfz141_1⟩ := cz2 BK101.out) | ((with_reducible refine gate_callee (f := 97) rfl ?_); refine goesL_ (some 15) rfl rfl Tryz.func97 (by kernel_rfl) rfl #[.slice A0 l0.length c0, .string a1_0] rfl arg ?_; (with_reducible refine (contangoref11_Find.calls k (fun k_ => k_ < w.heap.size) _ _ l0 a1_0 t102 t103 t104 false _ ?side1 A4.out).mono ?_); (case side1 => exact Kd.V_mk HC0.out (Kd.F_below (Kd.C_F k148_heap HR0.out) bel)); rintro e w142 ⟨v105, rfl, ho0, hb⟩; refine ⟨_, rfl, ?_⟩; have HO106 := Aside0.mk (Kd.V_lower (Kd.V_mono (ok' := fun k_ => k_ ≠ gb101) ho0 (fun k_ hk_ => Or.elim hk_ (fun hs_ => fun e_ => Nat.not_le.2 hs_ (by rw [e_]; exact GW101.out)) (fun hn_ => (Kd.freshB (g := gb101) (o := .cells #[.string a1_0, .string a1_1] 25 (0, 0)) (bw BK101.out) k_ hn_)))) (below_size bel)); replace BK101 := Aside0.mk (blk_below (g := gb101) (bw BK101.out) hb); replace HB := Aside0.mk (below_step bel hb); (try clear hb); (try clear hb2); (try clear hk); (try clear hi); (try clear ho0)) | ((with_reducible refine gate_dst (N := 7) rfl ?_); refine box_event ?hg (N := 7) ?hd (cs := #[.string (⟨#[]⟩ : ByteArray), .int .i64 0, .slice none 0 0]) (t := 148) ?hr ?_; (case hd => rfl); (case hg => rfl); (case hr => first | (go_simp; done) | (go_simp; rfl)); intro gb108 hg w143 hbox hb; replace HO106 := Aside0.mk (Kd.V_below (Kd.V_elderB (kv HO106.out) gb108 (Nat.le_of_eq hg.symm)) hb); have BK108 := Aside0.mk (hbox); have GW108 := Aside0.mk ((gsz hg : w.heap.size ≤ gb108)); have GE108 := Aside0.mk ((gsz hg : w.heap.size ≤ gb108)); have NB101_108 := Aside0.mk ((nlt hg (bw BK101.out) : gb101 ≠ gb108)); have NB108_101 := Aside0.mk ((ngt hg (bw BK101.out) : gb108 ≠ gb101)); replace BK101 := Aside0.mk (blk_below (g := gb101) (bw BK101.out) hb); replace HB := Aside0.mk (below_step bel hb); clear hb hbox hg; have hnb144 := NB108_101.out; have hnc144 := NB101_108.out; obtain ⟨hcz145_0, hcz145_1, hcz145_2, hfz145_0, hfz145_1, hfz145_2⟩ := cz3 BK108.out; obtain ⟨Ao146, co146, eo146⟩ := Kd.V_slice HO106.out; subst eo146))
    go_ret
    exact ⟨ers, bel⟩
end Go.Proofs.YthpmmofleddpnaaGreatDoor.X
end
section
namespace Go.Proofs.YthpmmofleddpnaaGreatDoor.X
open Go.RowKit Go.Proofs.YthpmmofleddpnaaGreatDoorW.PrintWords Go.Proofs.YthpmmofleddpnaaGreatDoorW.PrintLast Go.Proofs.YthpmmofleddpnaaGreatDoorW.PrintMore
attribute [local go_sem] max2_int min2_int max_two min_two max_three min_three max_four min_four
set_option linter.unusedVariables false
set_option linter.unusedSimpArgs false
attribute [local go_sem high] eqA25
mutual
def contangoref12_Check.j0 : Nat → List (S69) → List (S148) → Bool → Int → Int → Int → ByteArray → Int → Int → Int → Int → Int → ByteArray → ByteArray → ByteArray → ByteArray → Option (Int)
  | 0, _, _, _, _, _, _, _, _, _, _, _, _, _, _, _, _ => none
  | k + 1, x1, x2, x36, x102000, x102001, x102002, x102003, x102004, x102005, x102006, x102007, x102008, x102009, x102010, x102011, x102012 => if x36 = true then (some 15) else (if x102000 < 1 then (contangoref12_Check.j1 k x1 x2 true x102000 x102001 x102002 x102003 x102004 x102005 x102006 x102007 x102008 x102009 x102010 x102011 x102012) else (if x102000 > 1152921504606846976 then (contangoref12_Check.j1 k x1 x2 true x102000 x102001 x102002 x102003 x102004 x102005 x102006 x102007 x102008 x102009 x102010 x102011 x102012) else (if x102002 < 0 then (contangoref12_Check.j1 k x1 x2 true x102000 x102001 x102002 x102003 x102004 x102005 x102006 x102007 x102008 x102009 x102010 x102011 x102012) else (contangoref12_Check.j1 k x1 x2 (decide (x102002 > 86399)) x102000 x102001 x102002 x102003 x102004 x102005 x102006 x102007 x102008 x102009 x102010 x102011 x102012))))
def contangoref12_Check.j1 : Nat → List (S69) → List (S148) → Bool → Int → Int → Int → ByteArray → Int → Int → Int → Int → Int → ByteArray → ByteArray → ByteArray → ByteArray → Option (Int)
  | 0, _, _, _, _, _, _, _, _, _, _, _, _, _, _, _, _ => none
  | k + 1, x1, x2, x54, x102000, x102001, x102002, x102003, x102004, x102005, x102006, x102007, x102008, x102009, x102010, x102011, x102012 => if x54 = true then (some 2) else (if x102007 < 1 then (contangoref12_Check.j2 k x1 x2 true x102000 x102001 x102002 x102003 x102004 x102005 x102006 x102007 x102008 x102009 x102010 x102011 x102012) else (contangoref12_Check.j2 k x1 x2 (decide (x102007 > 1048576)) x102000 x102001 x102002 x102003 x102004 x102005 x102006 x102007 x102008 x102009 x102010 x102011 x102012))
def contangoref12_Check.j2 : Nat → List (S69) → List (S148) → Bool → Int → Int → Int → ByteArray → Int → Int → Int → Int → Int → ByteArray → ByteArray → ByteArray → ByteArray → Option (Int)
  | 0, _, _, _, _, _, _, _, _, _, _, _, _, _, _, _, _ => none
  | k + 1, x1, x2, x62, x102000, x102001, x102002, x102003, x102004, x102005, x102006, x102007, x102008, x102009, x102010, x102011, x102012 => if x62 = true then (some 18) else ((contangoref09_Find.f k x1 x102003).bind fun bt104 => ((contangoref09_Price.f k bt104.1 bt104.2.1 bt104.2.2.1 bt104.2.2.2.1 bt104.2.2.2.2.1 bt104.2.2.2.2.2.1 bt104.2.2.2.2.2.2.1 x102008).bind fun t113 => (if t113 = 0 then ((contangoref11_Check.f k x2).bind fun t114 => (if t114 = 0 then ((contangoref11_May.f k x2 x102009 x102010 1).bind fun t115 => (if t115 = 0 then ((contangoref11_May.f k x2 x102011 x102012 1).bind fun t116 => (if t116 = 0 then (if (x102009.toList == x102011.toList && (x102010.toList == x102012.toList)) = true then (some 21) else (some 0)) else (some t116))) else (some t115))) else (some t114))) else (some t113))))
end
def contangoref12_Check.f (k : Nat) (a0_0 : Int) (a0_1 : Int) (a0_2 : Int) (a0_3 : ByteArray) (a0_4 : Int) (a0_5 : Int) (a0_6 : Int) (a0_7 : Int) (a0_8 : Int) (a0_9 : ByteArray) (a0_10 : ByteArray) (a0_11 : ByteArray) (a0_12 : ByteArray) (l1 : List (S69)) (l2 : List (S148)) : Option (Int) := (contangoref10_Check.f k l1 a0_3 a0_4 a0_5 a0_6).bind fun t102 => (if t102 = 0 then (if a0_1 < 0 then (contangoref12_Check.j0 k l1 l2 true a0_0 a0_1 a0_2 a0_3 a0_4 a0_5 a0_6 a0_7 a0_8 a0_9 a0_10 a0_11 a0_12) else (if a0_1 > 73048 then (contangoref12_Check.j0 k l1 l2 true a0_0 a0_1 a0_2 a0_3 a0_4 a0_5 a0_6 a0_7 a0_8 a0_9 a0_10 a0_11 a0_12) else ((contangoref10_Live.f a0_3 a0_4 a0_5 a0_6 a0_1).bind fun t103 => (contangoref12_Check.j0 k l1 l2 (!t103) a0_0 a0_1 a0_2 a0_3 a0_4 a0_5 a0_6 a0_7 a0_8 a0_9 a0_10 a0_11 a0_12)))) else (some t102))
set_option maxHeartbeats 8000000 in
set_option maxRecDepth 100000 in
theorem contangoref12_Check.calls (k : Nat) (a0_0 : Int) (a0_1 : Int) (a0_2 : Int) (a0_3 : ByteArray) (a0_4 : Int) (a0_5 : Int) (a0_6 : Int) (a0_7 : Int) (a0_8 : Int) (a0_9 : ByteArray) (a0_10 : ByteArray) (a0_11 : ByteArray) (a0_12 : ByteArray) (A1 : Option Addr) (c1 : Nat) (l1 : List (S69)) (A2 : Option Addr) (c2 : Nat) (l2 : List (S148)) (r : Int) (w : World) (hr1 : Kd.C k69 w A1 l1.length l1) (hc1 : l1.length ≤ c1) (hr2 : Kd.C k148 w A2 l2.length l2) (hc2 : l2.length ≤ c2) (h : contangoref12_Check.f k a0_0 a0_1 a0_2 a0_3 a0_4 a0_5 a0_6 a0_7 a0_8 a0_9 a0_10 a0_11 a0_12 l1 l2 = some r) :
    Calls Tryz.prog 11 #[.agg #[.int .i64 a0_0, .int .i64 a0_1, .int .i64 a0_2, .string a0_3, .int .i64 a0_4, .int .i64 a0_5, .int .i64 a0_6, .int .i64 a0_7, .int .i64 a0_8, .string a0_9, .string a0_10, .string a0_11, .string a0_12], .slice A1 l1.length c1, .slice A2 l2.length c2] w fun e w' => e = .returned (.int .i64 r) ∧ Below w.heap.size w w' := by
  have hu27 := Tryz.underlying27
  have hu23 := Tryz.underlying23
  have hu69 := Tryz.underlying69
  have hu25 := Tryz.underlying25
  have HR1 := Aside0.mk hr1
  have HC1 := Aside0.mk hc1
  clear hr1 hc1
  have HR2 := Aside0.mk hr2
  have HC2 := Aside0.mk hc2
  clear hr2 hc2
  have HB := Aside0.mk (Below.refl w.heap.size w)
  have H : ((contangoref10_Check.f k l1 a0_3 a0_4 a0_5 a0_6).bind fun t102 => (if t102 = 0 then (if a0_1 < 0 then (contangoref12_Check.j0 k l1 l2 true a0_0 a0_1 a0_2 a0_3 a0_4 a0_5 a0_6 a0_7 a0_8 a0_9 a0_10 a0_11 a0_12) else (if a0_1 > 73048 then (contangoref12_Check.j0 k l1 l2 true a0_0 a0_1 a0_2 a0_3 a0_4 a0_5 a0_6 a0_7 a0_8 a0_9 a0_10 a0_11 a0_12) else ((contangoref10_Live.f a0_3 a0_4 a0_5 a0_6 a0_1).bind fun t103 => (contangoref12_Check.j0 k l1 l2 (!t103) a0_0 a0_1 a0_2 a0_3 a0_4 a0_5 a0_6 a0_7 a0_8 a0_9 a0_10 a0_11 a0_12)))) else (some t102))) = some r := h
  clear h
  replace H := bnd H
  obtain ⟨t102, A40, H⟩ := H
  have A4 := Aside0.mk A40
  clear A40
  go_enter Tryz.func11, Tryz.ntmps11
  go_wp2_with (first | ((with_reducible refine gate_dst (N := 3) rfl ?_); refine box_event ?hg (N := 3) ?hd (cs := #[.int .i64 a0_0, .int .i64 a0_1, .int .i64 a0_2, .string a0_3, .int .i64 a0_4, .int .i64 a0_5, .int .i64 a0_6, .int .i64 a0_7, .int .i64 a0_8, .string a0_9, .string a0_10, .string a0_11, .string a0_12]) (t := 27) ?hr ?_; (case hd => rfl); (case hg => rfl); (case hr => first | (go_simp; done) | (go_simp; rfl)); intro gb101 hg w7 hbox hb; have BK101 := Aside0.mk (hbox); have GW101 := Aside0.mk ((gsz hg : w.heap.size ≤ gb101)); have GE101 := Aside0.mk ((gsz hg : w.heap.size ≤ gb101)); replace HB := Aside0.mk (below_step bel hb); clear hb hbox hg; obtain ⟨hcz8_0, hcz8_1, hcz8_2, hcz8_3, hcz8_4, hcz8_5, hcz8_6, hcz8_7, hcz8_8, hcz8_9, hcz8_10, hcz8_11, hcz8_12, hfz8_0, hfz8_1, hfz8_2, hfz8_3, hfz8_4, hfz8_5, hfz8_6, hfz8_7, hfz8_8, hfz8_9, hfz8_10, hfz8_11, hfz8_12⟩ := cz13 BK101.out) | ((with_reducible refine gate_callee (f := 37) rfl ?_); refine Aside0.out ?_))
  by_cases c5 : t102 = 0
  · rw [if_pos c5] at H
    have c5b0 : (t102 == 0) = true := beq_iff_eq.mpr c5
    have c5b1 : (t102 != 0) = false := bne_eq_false_iff_eq.mpr c5
    clear c5
    have HC6 := Aside0.mk H
    clear H
    refine Aside0.mk ?_
    (refine goesL_ (some 17) rfl rfl Tryz.func37 (by kernel_rfl) rfl #[.slice A1 l1.length c1, .agg #[.string a0_3, .int .i64 a0_4, .int .i64 a0_5, .int .i64 a0_6]] rfl arg ?_; (with_reducible refine (contangoref10_Check.calls k _ _ l1 a0_3 a0_4 a0_5 a0_6 t102 _ ?side1 ?side2 A4.out).mono ?_); (case side1 => repeat (first | exact (Kd.C_below HR1.out HB.out) | (with_reducible refine Kd.C_alloc ?_ _) | (with_reducible refine Kd.C_drewN ?_ _) | (with_reducible refine Kd.C_drew ?_))); (case side2 => exact HC1.out); rintro e w9 ⟨rfl, hb⟩; refine ⟨_, rfl, ?_⟩; replace BK101 := Aside0.mk (blk_below (g := gb101) (o := .cells #[.int .i64 a0_0, .int .i64 a0_1, .int .i64 a0_2, .string a0_3, .int .i64 a0_4, .int .i64 a0_5, .int .i64 a0_6, .int .i64 a0_7, .int .i64 a0_8, .string a0_9, .string a0_10, .string a0_11, .string a0_12] 27 (0, 0)) (bw BK101.out) hb); replace HB := Aside0.mk (below_step bel hb); (try clear hb); (try clear hb2); (try clear hk); (try clear hi))
    go_upto_region 4 with (fail)
    (try simp only [Act.put, List.setIfInBounds_toArray, List.set_cons_zero, List.set_cons_succ])
    go_cut [36] (fun v36 wc => ∃ (kq : Nat) (x36_5 : Bool), v36 = .bool x36_5 ∧ Aside0 (contangoref12_Check.j0 kq l1 l2 x36_5 a0_0 a0_1 a0_2 a0_3 a0_4 a0_5 a0_6 a0_7 a0_8 a0_9 a0_10 a0_11 a0_12 = some r) ∧ Aside0 (kq ≤ k) ∧ Aside0 (wc.heap[gb101]? = some (.cells #[.int .i64 a0_0, .int .i64 a0_1, .int .i64 a0_2, .string a0_3, .int .i64 a0_4, .int .i64 a0_5, .int .i64 a0_6, .int .i64 a0_7, .int .i64 a0_8, .string a0_9, .string a0_10, .string a0_11, .string a0_12] 27 (0, 0))) ∧ Aside0 (Below w.heap.size w wc))
    case first =>
      have H := HC6.out
      clear HC6
      by_cases c10 : a0_1 < 0
      · rw [if_pos c10] at H
        have c10b0 := decide_eq_true c10
        clear c10
        (first | rw [c10b0] | (simp only [i64_w, i32_w]; rw [c10b0]) | skip)
        have H' := Aside0.mk H
        clear H
        obtain ⟨hcz11_0, hcz11_1, hcz11_2, hcz11_3, hcz11_4, hcz11_5, hcz11_6, hcz11_7, hcz11_8, hcz11_9, hcz11_10, hcz11_11, hcz11_12, hfz11_0, hfz11_1, hfz11_2, hfz11_3, hfz11_4, hfz11_5, hfz11_6, hfz11_7, hfz11_8, hfz11_9, hfz11_10, hfz11_11, hfz11_12⟩ := cz13 BK101.out
        go_wp2
        go_meet
        case rel => exact ⟨_, (true), eqs, H', ⟨by first | omega | exact Nat.le_refl _⟩, ⟨bw BK101.out⟩, ⟨bel⟩⟩
      · rw [if_neg c10] at H
        have c10b0 := decide_eq_false c10
        clear c10
        (first | rw [c10b0] | (simp only [i64_w, i32_w]; rw [c10b0]) | skip)
        by_cases c12 : a0_1 > 73048
        · rw [if_pos c12] at H
          have c12b0 : decide (73048 < a0_1) = true := decide_eq_true c12
          clear c12
          have H' := Aside0.mk H
          clear H
          obtain ⟨hcz13_0, hcz13_1, hcz13_2, hcz13_3, hcz13_4, hcz13_5, hcz13_6, hcz13_7, hcz13_8, hcz13_9, hcz13_10, hcz13_11, hcz13_12, hfz13_0, hfz13_1, hfz13_2, hfz13_3, hfz13_4, hfz13_5, hfz13_6, hfz13_7, hfz13_8, hfz13_9, hfz13_10, hfz13_11, hfz13_12⟩ := cz13 BK101.out
          go_wp2
          go_meet
          case rel => exact ⟨_, (true), eqs, H', ⟨by first | omega | exact Nat.le_refl _⟩, ⟨bw BK101.out⟩, ⟨bel⟩⟩
        · rw [if_neg c12] at H
          have c12b0 : decide (73048 < a0_1) = false := decide_eq_false c12
          clear c12
          replace H := bnd H
          obtain ⟨t103, A140, H⟩ := H
          have A14 := Aside0.mk A140
          clear A140
          have H' := Aside0.mk H
          clear H
          obtain ⟨hcz15_0, hcz15_1, hcz15_2, hcz15_3, hcz15_4, hcz15_5, hcz15_6, hcz15_7, hcz15_8, hcz15_9, hcz15_10, hcz15_11, hcz15_12, hfz15_0, hfz15_1, hfz15_2, hfz15_3, hfz15_4, hfz15_5, hfz15_6, hfz15_7, hfz15_8, hfz15_9, hfz15_10, hfz15_11, hfz15_12⟩ := cz13 BK101.out
          go_wp2_with (first | (go_at_call 38; (with_reducible refine (contangoref10_Live.calls a0_3 a0_4 a0_5 a0_6 a0_1 t103 _ A14.out).mono ?_); rintro e w16 ⟨rfl, hb⟩; replace BK101 := Aside0.mk (blk_below (g := gb101) (o := .cells #[.int .i64 a0_0, .int .i64 a0_1, .int .i64 a0_2, .string a0_3, .int .i64 a0_4, .int .i64 a0_5, .int .i64 a0_6, .int .i64 a0_7, .int .i64 a0_8, .string a0_9, .string a0_10, .string a0_11, .string a0_12] 27 (0, 0)) (bw BK101.out) hb); replace HB := Aside0.mk (below_step bel hb); (try clear hb); (try clear hb2); (try clear hk); (try clear hi)))
          go_meet
          case rel => exact ⟨_, (!t103), eqs, H', ⟨by first | omega | exact Nat.le_refl _⟩, ⟨bw BK101.out⟩, ⟨bel⟩⟩
    case rest =>
      clear HC6
      try clear c1
      try clear c2
      try clear p2
      try clear c3
      try clear c5
      try clear c5b0
      try clear c5b1
      try clear c10
      try clear c10b0
      try clear c11
      try clear c12
      try clear c12b0
      try clear hcz11_0 hcz11_1 hcz11_10 hcz11_11 hcz11_12 hcz11_2 hcz11_3 hcz11_4 hcz11_5 hcz11_6 hcz11_7 hcz11_8 hcz11_9
      try clear hcz13_0 hcz13_1 hcz13_10 hcz13_11 hcz13_12 hcz13_2 hcz13_3 hcz13_4 hcz13_5 hcz13_6 hcz13_7 hcz13_8 hcz13_9
      try clear hcz15_0 hcz15_1 hcz15_10 hcz15_11 hcz15_12 hcz15_2 hcz15_3 hcz15_4 hcz15_5 hcz15_6 hcz15_7 hcz15_8 hcz15_9
      try clear hcz8_0 hcz8_1 hcz8_10 hcz8_11 hcz8_12 hcz8_2 hcz8_3 hcz8_4 hcz8_5 hcz8_6 hcz8_7 hcz8_8 hcz8_9
      try clear hfz11_0 hfz11_1 hfz11_10 hfz11_11 hfz11_12 hfz11_2 hfz11_3 hfz11_4 hfz11_5 hfz11_6 hfz11_7 hfz11_8 hfz11_9
      try clear hfz13_0 hfz13_1 hfz13_10 hfz13_11 hfz13_12 hfz13_2 hfz13_3 hfz13_4 hfz13_5 hfz13_6 hfz13_7 hfz13_8 hfz13_9
      try clear hfz15_0 hfz15_1 hfz15_10 hfz15_11 hfz15_12 hfz15_2 hfz15_3 hfz15_4 hfz15_5 hfz15_6 hfz15_7 hfz15_8 hfz15_9
      try clear hfz8_0 hfz8_1 hfz8_10 hfz8_11 hfz8_12 hfz8_2 hfz8_3 hfz8_4 hfz8_5 hfz8_6 hfz8_7 hfz8_8 hfz8_9
      obtain ⟨kq, x36_5, rfl, HA, HJ5, BK101, HB⟩ := hcut
      cases kq with
      | zero => exact absurd HA.out (by simp [contangoref12_Check.j0])
      | succ kj5 =>
        have H := HA.out
        clear HA
        simp only [contangoref12_Check.j0] at H
        by_cases c17 : x36_5 = true
        · subst c17
          rw [if_pos rfl] at H
          obtain rfl := Option.some.inj H
          go_wp2
          go_ret
          exact ⟨ers, bel⟩
        · replace c17 := Bool.eq_false_iff.mpr c17
          subst c17
          rw [if_neg (show ¬ (false = true) by decide)] at H
          have HC18 := Aside0.mk H
          clear H
          go_upto_region 6 with (fail)
          go_cut [54] (fun v54 wc => ∃ (kq : Nat) (x54_17 : Bool), v54 = .bool x54_17 ∧ Aside0 (contangoref12_Check.j1 kq l1 l2 x54_17 a0_0 a0_1 a0_2 a0_3 a0_4 a0_5 a0_6 a0_7 a0_8 a0_9 a0_10 a0_11 a0_12 = some r) ∧ Aside0 (kq ≤ kj5) ∧ Aside0 (wc.heap[gb101]? = some (.cells #[.int .i64 a0_0, .int .i64 a0_1, .int .i64 a0_2, .string a0_3, .int .i64 a0_4, .int .i64 a0_5, .int .i64 a0_6, .int .i64 a0_7, .int .i64 a0_8, .string a0_9, .string a0_10, .string a0_11, .string a0_12] 27 (0, 0))) ∧ Aside0 (Below w.heap.size w wc))
          case first =>
            have H := HC18.out
            clear HC18
            by_cases c19 : a0_0 < 1
            · rw [if_pos c19] at H
              have c19b0 := decide_eq_true c19
              clear c19
              (first | rw [c19b0] | (simp only [i64_w, i32_w]; rw [c19b0]) | skip)
              have H' := Aside0.mk H
              clear H
              obtain ⟨hcz20_0, hcz20_1, hcz20_2, hcz20_3, hcz20_4, hcz20_5, hcz20_6, hcz20_7, hcz20_8, hcz20_9, hcz20_10, hcz20_11, hcz20_12, hfz20_0, hfz20_1, hfz20_2, hfz20_3, hfz20_4, hfz20_5, hfz20_6, hfz20_7, hfz20_8, hfz20_9, hfz20_10, hfz20_11, hfz20_12⟩ := cz13 BK101.out
              go_wp2
              go_meet
              case rel => exact ⟨_, (true), eqs, H', ⟨by have := HJ5.out; first | omega | exact Nat.le_refl _⟩, ⟨bw BK101.out⟩, ⟨bel⟩⟩
            · rw [if_neg c19] at H
              have c19b0 := decide_eq_false c19
              clear c19
              (first | rw [c19b0] | (simp only [i64_w, i32_w]; rw [c19b0]) | skip)
              by_cases c21 : a0_0 > 1152921504606846976
              · rw [if_pos c21] at H
                have c21b0 : decide (1152921504606846976 < a0_0) = true := decide_eq_true c21
                clear c21
                have H' := Aside0.mk H
                clear H
                obtain ⟨hcz22_0, hcz22_1, hcz22_2, hcz22_3, hcz22_4, hcz22_5, hcz22_6, hcz22_7, hcz22_8, hcz22_9, hcz22_10, hcz22_11, hcz22_12, hfz22_0, hfz22_1, hfz22_2, hfz22_3, hfz22_4, hfz22_5, hfz22_6, hfz22_7, hfz22_8, hfz22_9, hfz22_10, hfz22_11, hfz22_12⟩ := cz13 BK101.out
                go_wp2
                go_meet
                case rel => exact ⟨_, (true), eqs, H', ⟨by have := HJ5.out; first | omega | exact Nat.le_refl _⟩, ⟨bw BK101.out⟩, ⟨bel⟩⟩
              · rw [if_neg c21] at H
                have c21b0 : decide (1152921504606846976 < a0_0) = false := decide_eq_false c21
                clear c21
                by_cases c23 : a0_2 < 0
                · rw [if_pos c23] at H
                  have c23b0 := decide_eq_true c23
                  clear c23
                  have H' := Aside0.mk H
                  clear H
                  obtain ⟨hcz24_0, hcz24_1, hcz24_2, hcz24_3, hcz24_4, hcz24_5, hcz24_6, hcz24_7, hcz24_8, hcz24_9, hcz24_10, hcz24_11, hcz24_12, hfz24_0, hfz24_1, hfz24_2, hfz24_3, hfz24_4, hfz24_5, hfz24_6, hfz24_7, hfz24_8, hfz24_9, hfz24_10, hfz24_11, hfz24_12⟩ := cz13 BK101.out
                  go_wp2
                  go_meet
                  case rel => exact ⟨_, (true), eqs, H', ⟨by have := HJ5.out; first | omega | exact Nat.le_refl _⟩, ⟨bw BK101.out⟩, ⟨bel⟩⟩
                · rw [if_neg c23] at H
                  have c23b0 := decide_eq_false c23
                  clear c23
                  have H' := Aside0.mk H
                  clear H
                  obtain ⟨hcz25_0, hcz25_1, hcz25_2, hcz25_3, hcz25_4, hcz25_5, hcz25_6, hcz25_7, hcz25_8, hcz25_9, hcz25_10, hcz25_11, hcz25_12, hfz25_0, hfz25_1, hfz25_2, hfz25_3, hfz25_4, hfz25_5, hfz25_6, hfz25_7, hfz25_8, hfz25_9, hfz25_10, hfz25_11, hfz25_12⟩ := cz13 BK101.out
                  go_wp2
                  go_meet
                  case rel => exact ⟨_, (decide (a0_2 > 86399)), eqs, H', ⟨by have := HJ5.out; first | omega | exact Nat.le_refl _⟩, ⟨bw BK101.out⟩, ⟨bel⟩⟩
          case rest =>
            clear HC18
            try clear c1
            try clear c2
            try clear p2
            try clear c3
            try clear c5
            try clear c5b0
            try clear c5b1
            try clear c10
            try clear c10b0
            try clear c11
            try clear c12
            try clear c12b0
            try clear c17
            try clear c19
            try clear c19b0
            try clear c21
            try clear c21b0
            try clear c23
            try clear c23b0
            try clear hcz11_0 hcz11_1 hcz11_10 hcz11_11 hcz11_12 hcz11_2 hcz11_3 hcz11_4 hcz11_5 hcz11_6 hcz11_7 hcz11_8 hcz11_9
            try clear hcz13_0 hcz13_1 hcz13_10 hcz13_11 hcz13_12 hcz13_2 hcz13_3 hcz13_4 hcz13_5 hcz13_6 hcz13_7 hcz13_8 hcz13_9
            try clear hcz15_0 hcz15_1 hcz15_10 hcz15_11 hcz15_12 hcz15_2 hcz15_3 hcz15_4 hcz15_5 hcz15_6 hcz15_7 hcz15_8 hcz15_9
            try clear hcz20_0 hcz20_1 hcz20_10 hcz20_11 hcz20_12 hcz20_2 hcz20_3 hcz20_4 hcz20_5 hcz20_6 hcz20_7 hcz20_8 hcz20_9
            try clear hcz22_0 hcz22_1 hcz22_10 hcz22_11 hcz22_12 hcz22_2 hcz22_3 hcz22_4 hcz22_5 hcz22_6 hcz22_7 hcz22_8 hcz22_9
            try clear hcz24_0 hcz24_1 hcz24_10 hcz24_11 hcz24_12 hcz24_2 hcz24_3 hcz24_4 hcz24_5 hcz24_6 hcz24_7 hcz24_8 hcz24_9
            try clear hcz25_0 hcz25_1 hcz25_10 hcz25_11 hcz25_12 hcz25_2 hcz25_3 hcz25_4 hcz25_5 hcz25_6 hcz25_7 hcz25_8 hcz25_9
            try clear hcz8_0 hcz8_1 hcz8_10 hcz8_11 hcz8_12 hcz8_2 hcz8_3 hcz8_4 hcz8_5 hcz8_6 hcz8_7 hcz8_8 hcz8_9
            try clear hfz11_0 hfz11_1 hfz11_10 hfz11_11 hfz11_12 hfz11_2 hfz11_3 hfz11_4 hfz11_5 hfz11_6 hfz11_7 hfz11_8 hfz11_9
            try clear hfz13_0 hfz13_1 hfz13_10 hfz13_11 hfz13_12 hfz13_2 hfz13_3 hfz13_4 hfz13_5 hfz13_6 hfz13_7 hfz13_8 hfz13_9
            try clear hfz15_0 hfz15_1 hfz15_10 hfz15_11 hfz15_12 hfz15_2 hfz15_3 hfz15_4 hfz15_5 hfz15_6 hfz15_7 hfz15_8 hfz15_9
            try clear hfz20_0 hfz20_1 hfz20_10 hfz20_11 hfz20_12 hfz20_2 hfz20_3 hfz20_4 hfz20_5 hfz20_6 hfz20_7 hfz20_8 hfz20_9
            try clear hfz22_0 hfz22_1 hfz22_10 hfz22_11 hfz22_12 hfz22_2 hfz22_3 hfz22_4 hfz22_5 hfz22_6 hfz22_7 hfz22_8 hfz22_9
            try clear hfz24_0 hfz24_1 hfz24_10 hfz24_11 hfz24_12 hfz24_2 hfz24_3 hfz24_4 hfz24_5 hfz24_6 hfz24_7 hfz24_8 hfz24_9
            try clear hfz25_0 hfz25_1 hfz25_10 hfz25_11 hfz25_12 hfz25_2 hfz25_3 hfz25_4 hfz25_5 hfz25_6 hfz25_7 hfz25_8 hfz25_9
            try clear hfz8_0 hfz8_1 hfz8_10 hfz8_11 hfz8_12 hfz8_2 hfz8_3 hfz8_4 hfz8_5 hfz8_6 hfz8_7 hfz8_8 hfz8_9
            try clear p2
            obtain ⟨kq, x54_17, rfl, HA, HJ17, BK101, HB⟩ := hcut
            cases kq with
            | zero => exact absurd HA.out (by simp [contangoref12_Check.j1])
            | succ kj17 =>
              have H := HA.out
              clear HA
              simp only [contangoref12_Check.j1] at H
              by_cases c26 : x54_17 = true
              · subst c26
                rw [if_pos rfl] at H
                obtain rfl := Option.some.inj H
                go_wp2
                go_ret
                exact ⟨ers, bel⟩
              · replace c26 := Bool.eq_false_iff.mpr c26
                subst c26
                rw [if_neg (show ¬ (false = true) by decide)] at H
                have HC27 := Aside0.mk H
                clear H
                go_upto_region 8 with (fail)
                go_cut [62] (fun v62 wc => ∃ (kq : Nat) (x62_26 : Bool), v62 = .bool x62_26 ∧ Aside0 (contangoref12_Check.j2 kq l1 l2 x62_26 a0_0 a0_1 a0_2 a0_3 a0_4 a0_5 a0_6 a0_7 a0_8 a0_9 a0_10 a0_11 a0_12 = some r) ∧ Aside0 (kq ≤ kj17) ∧ Aside0 (wc.heap[gb101]? = some (.cells #[.int .i64 a0_0, .int .i64 a0_1, .int .i64 a0_2, .string a0_3, .int .i64 a0_4, .int .i64 a0_5, .int .i64 a0_6, .int .i64 a0_7, .int .i64 a0_8, .string a0_9, .string a0_10, .string a0_11, .string a0_12] 27 (0, 0))) ∧ Aside0 (Below w.heap.size w wc))
                case first =>
                  have H := HC27.out
                  clear HC27
                  by_cases c28 : a0_7 < 1
                  · rw [if_pos c28] at H
                    have c28b0 := decide_eq_true c28
                    clear c28
                    (first | rw [c28b0] | (simp only [i64_w, i32_w]; rw [c28b0]) | skip)
                    have H' := Aside0.mk H
                    clear H
                    obtain ⟨hcz29_0, hcz29_1, hcz29_2, hcz29_3, hcz29_4, hcz29_5, hcz29_6, hcz29_7, hcz29_8, hcz29_9, hcz29_10, hcz29_11, hcz29_12, hfz29_0, hfz29_1, hfz29_2, hfz29_3, hfz29_4, hfz29_5, hfz29_6, hfz29_7, hfz29_8, hfz29_9, hfz29_10, hfz29_11, hfz29_12⟩ := cz13 BK101.out
                    go_wp2
                    go_meet
                    case rel => exact ⟨_, (true), eqs, H', ⟨by have := HJ5.out; have := HJ17.out; first | omega | exact Nat.le_refl _⟩, ⟨bw BK101.out⟩, ⟨bel⟩⟩
                  · rw [if_neg c28] at H
                    have c28b0 := decide_eq_false c28
                    clear c28
                    (first | rw [c28b0] | (simp only [i64_w, i32_w]; rw [c28b0]) | skip)
                    have H' := Aside0.mk H
                    clear H
                    obtain ⟨hcz30_0, hcz30_1, hcz30_2, hcz30_3, hcz30_4, hcz30_5, hcz30_6, hcz30_7, hcz30_8, hcz30_9, hcz30_10, hcz30_11, hcz30_12, hfz30_0, hfz30_1, hfz30_2, hfz30_3, hfz30_4, hfz30_5, hfz30_6, hfz30_7, hfz30_8, hfz30_9, hfz30_10, hfz30_11, hfz30_12⟩ := cz13 BK101.out
                    go_wp2
                    go_meet
                    case rel => exact ⟨_, (decide (a0_7 > 1048576)), eqs, H', ⟨by have := HJ5.out; have := HJ17.out; first | omega | exact Nat.le_refl _⟩, ⟨bw BK101.out⟩, ⟨bel⟩⟩
                case rest =>
                  clear HC27
                  try clear c1
                  try clear c2
                  try clear p2
                  try clear c3
                  try clear c5
                  try clear c5b0
                  try clear c5b1
                  try clear c10
                  try clear c10b0
                  try clear c11
                  try clear c12
                  try clear c12b0
                  try clear c17
                  try clear c19
                  try clear c19b0
                  try clear c21
                  try clear c21b0
                  try clear c23
                  try clear c23b0
                  try clear c26
                  try clear c28
                  try clear c28b0
                  try clear hcz11_0 hcz11_1 hcz11_10 hcz11_11 hcz11_12 hcz11_2 hcz11_3 hcz11_4 hcz11_5 hcz11_6 hcz11_7 hcz11_8 hcz11_9
                  try clear hcz13_0 hcz13_1 hcz13_10 hcz13_11 hcz13_12 hcz13_2 hcz13_3 hcz13_4 hcz13_5 hcz13_6 hcz13_7 hcz13_8 hcz13_9
                  try clear hcz15_0 hcz15_1 hcz15_10 hcz15_11 hcz15_12 hcz15_2 hcz15_3 hcz15_4 hcz15_5 hcz15_6 hcz15_7 hcz15_8 hcz15_9
                  try clear hcz20_0 hcz20_1 hcz20_10 hcz20_11 hcz20_12 hcz20_2 hcz20_3 hcz20_4 hcz20_5 hcz20_6 hcz20_7 hcz20_8 hcz20_9
                  try clear hcz22_0 hcz22_1 hcz22_10 hcz22_11 hcz22_12 hcz22_2 hcz22_3 hcz22_4 hcz22_5 hcz22_6 hcz22_7 hcz22_8 hcz22_9
                  try clear hcz24_0 hcz24_1 hcz24_10 hcz24_11 hcz24_12 hcz24_2 hcz24_3 hcz24_4 hcz24_5 hcz24_6 hcz24_7 hcz24_8 hcz24_9
                  try clear hcz25_0 hcz25_1 hcz25_10 hcz25_11 hcz25_12 hcz25_2 hcz25_3 hcz25_4 hcz25_5 hcz25_6 hcz25_7 hcz25_8 hcz25_9
                  try clear hcz29_0 hcz29_1 hcz29_10 hcz29_11 hcz29_12 hcz29_2 hcz29_3 hcz29_4 hcz29_5 hcz29_6 hcz29_7 hcz29_8 hcz29_9
                  try clear hcz30_0 hcz30_1 hcz30_10 hcz30_11 hcz30_12 hcz30_2 hcz30_3 hcz30_4 hcz30_5 hcz30_6 hcz30_7 hcz30_8 hcz30_9
                  try clear hcz8_0 hcz8_1 hcz8_10 hcz8_11 hcz8_12 hcz8_2 hcz8_3 hcz8_4 hcz8_5 hcz8_6 hcz8_7 hcz8_8 hcz8_9
                  try clear hfz11_0 hfz11_1 hfz11_10 hfz11_11 hfz11_12 hfz11_2 hfz11_3 hfz11_4 hfz11_5 hfz11_6 hfz11_7 hfz11_8 hfz11_9
                  try clear hfz13_0 hfz13_1 hfz13_10 hfz13_11 hfz13_12 hfz13_2 hfz13_3 hfz13_4 hfz13_5 hfz13_6 hfz13_7 hfz13_8 hfz13_9
                  try clear hfz15_0 hfz15_1 hfz15_10 hfz15_11 hfz15_12 hfz15_2 hfz15_3 hfz15_4 hfz15_5 hfz15_6 hfz15_7 hfz15_8 hfz15_9
                  try clear hfz20_0 hfz20_1 hfz20_10 hfz20_11 hfz20_12 hfz20_2 hfz20_3 hfz20_4 hfz20_5 hfz20_6 hfz20_7 hfz20_8 hfz20_9
                  try clear hfz22_0 hfz22_1 hfz22_10 hfz22_11 hfz22_12 hfz22_2 hfz22_3 hfz22_4 hfz22_5 hfz22_6 hfz22_7 hfz22_8 hfz22_9
                  try clear hfz24_0 hfz24_1 hfz24_10 hfz24_11 hfz24_12 hfz24_2 hfz24_3 hfz24_4 hfz24_5 hfz24_6 hfz24_7 hfz24_8 hfz24_9
                  try clear hfz25_0 hfz25_1 hfz25_10 hfz25_11 hfz25_12 hfz25_2 hfz25_3 hfz25_4 hfz25_5 hfz25_6 hfz25_7 hfz25_8 hfz25_9
                  try clear hfz29_0 hfz29_1 hfz29_10 hfz29_11 hfz29_12 hfz29_2 hfz29_3 hfz29_4 hfz29_5 hfz29_6 hfz29_7 hfz29_8 hfz29_9
                  try clear hfz30_0 hfz30_1 hfz30_10 hfz30_11 hfz30_12 hfz30_2 hfz30_3 hfz30_4 hfz30_5 hfz30_6 hfz30_7 hfz30_8 hfz30_9
                  try clear hfz8_0 hfz8_1 hfz8_10 hfz8_11 hfz8_12 hfz8_2 hfz8_3 hfz8_4 hfz8_5 hfz8_6 hfz8_7 hfz8_8 hfz8_9
                  try clear p2
                  obtain ⟨kq, x62_26, rfl, HA, HJ26, BK101, HB⟩ := hcut
                  cases kq with
                  | zero => exact absurd HA.out (by simp [contangoref12_Check.j2])
                  | succ kj26 =>
                    have H := HA.out
                    clear HA
                    simp only [contangoref12_Check.j2] at H
                    by_cases c31 : x62_26 = true
                    · subst c31
                      rw [if_pos rfl] at H
                      obtain rfl := Option.some.inj H
                      go_wp2
                      go_ret
                      exact ⟨ers, bel⟩
                    · replace c31 := Bool.eq_false_iff.mpr c31
                      subst c31
                      rw [if_neg (show ¬ (false = true) by decide)] at H
                      replace H := bnd H
                      obtain ⟨⟨t104, t105, t106, t107, t108, t109, t110, t111⟩, A320, H⟩ := H
                      replace H : ((contangoref09_Price.f kj26 t104 t105 t106 t107 t108 t109 t110 a0_8).bind fun t113 => (if t113 = 0 then ((contangoref11_Check.f kj26 l2).bind fun t114 => (if t114 = 0 then ((contangoref11_May.f kj26 l2 a0_9 a0_10 1).bind fun t115 => (if t115 = 0 then ((contangoref11_May.f kj26 l2 a0_11 a0_12 1).bind fun t116 => (if t116 = 0 then (if (a0_9.toList == a0_11.toList && (a0_10.toList == a0_12.toList)) = true then (some 21) else (some 0)) else (some t116))) else (some t115))) else (some t114))) else (some t113))) = some r := H
                      have A32 := Aside0.mk A320
                      clear A320
                      replace H := bnd H
                      obtain ⟨t113, A330, H⟩ := H
                      have A33 := Aside0.mk A330
                      clear A330
                      by_cases c34 : t113 = 0
                      · rw [if_pos c34] at H
                        have c34b0 : (t113 == 0) = true := beq_iff_eq.mpr c34
                        have c34b1 : (t113 != 0) = false := bne_eq_false_iff_eq.mpr c34
                        clear c34
                        replace H := bnd H
                        obtain ⟨t114, A350, H⟩ := H
                        have A35 := Aside0.mk A350
                        clear A350
                        by_cases c36 : t114 = 0
                        · rw [if_pos c36] at H
                          have c36b0 : (t114 == 0) = true := beq_iff_eq.mpr c36
                          have c36b1 : (t114 != 0) = false := bne_eq_false_iff_eq.mpr c36
                          clear c36
                          replace H := bnd H
                          obtain ⟨t115, A370, H⟩ := H
                          have A37 := Aside0.mk A370
                          clear A370
                          by_cases c38 : t115 = 0
                          · rw [if_pos c38] at H
                            have c38b0 : (t115 == 0) = true := beq_iff_eq.mpr c38
                            have c38b1 : (t115 != 0) = false := bne_eq_false_iff_eq.mpr c38
                            clear c38
                            replace H := bnd H
                            obtain ⟨t116, A390, H⟩ := H
                            have A39 := Aside0.mk A390
                            clear A390
                            by_cases c40 : t116 = 0
                            · rw [if_pos c40] at H
                              have c40b0 : (t116 == 0) = true := beq_iff_eq.mpr c40
                              have c40b1 : (t116 != 0) = false := bne_eq_false_iff_eq.mpr c40
                              clear c40
                              by_cases c41 : (a0_9.toList == a0_11.toList && (a0_10.toList == a0_12.toList)) = true
                              · rw [if_pos c41] at H
                                have c41b0 : (a0_9.toList == a0_11.toList && (a0_10.toList == a0_12.toList)) = true := c41
                                (try (have c41b1 : decide (a0_9.toList = a0_11.toList && (a0_10.toList == a0_12.toList)) = true := by simpa using c41))
                                (try (have c41b2 : (a0_9.toList == a0_11.toList && (a0_10.toList == a0_12.toList)) = true := by simpa using c41))
                                clear c41
                                obtain rfl := Option.some.inj H
                                obtain ⟨hcz42_0, hcz42_1, hcz42_2, hcz42_3, hcz42_4, hcz42_5, hcz42_6, hcz42_7, hcz42_8, hcz42_9, hcz42_10, hcz42_11, hcz42_12, hfz42_0, hfz42_1, hfz42_2, hfz42_3, hfz42_4, hfz42_5, hfz42_6, hfz42_7, hfz42_8, hfz42_9, hfz42_10, hfz42_11, hfz42_12⟩ := cz13 BK101.out
                                go_wp2_with (first | ((with_reducible refine gate_callee (f := 39) rfl ?_); refine goesL_ (some 68) rfl rfl Tryz.func39 (by kernel_rfl) rfl #[.slice A1 l1.length c1, .string a0_3] rfl arg ?_; (with_reducible refine (contangoref09_Find.calls kj26 _ _ l1 a0_3 t104 t105 t106 t107 t108 t109 t110 t111 _ ?side1 ?side2 A32.out).mono ?_); (case side1 => repeat (first | exact (Kd.C_below HR1.out HB.out) | (with_reducible refine Kd.C_alloc ?_ _) | (with_reducible refine Kd.C_drewN ?_ _) | (with_reducible refine Kd.C_drew ?_))); (case side2 => exact HC1.out); rintro e w43 ⟨rfl, hb⟩; refine ⟨_, rfl, ?_⟩; replace BK101 := Aside0.mk (blk_below (g := gb101) (o := .cells #[.int .i64 a0_0, .int .i64 a0_1, .int .i64 a0_2, .string a0_3, .int .i64 a0_4, .int .i64 a0_5, .int .i64 a0_6, .int .i64 a0_7, .int .i64 a0_8, .string a0_9, .string a0_10, .string a0_11, .string a0_12] 27 (0, 0)) (bw BK101.out) hb); replace HB := Aside0.mk (below_step bel hb); (try clear hb); (try clear hb2); (try clear hk); (try clear hi)) | ((with_reducible refine gate_dst (N := 8) rfl ?_); refine box_event ?hg (N := 8) ?hd (cs := #[.string (⟨#[]⟩ : ByteArray), .int .i64 0, .int .i64 0, .int .i64 0, .int .i64 0, .int .i64 0, .bool false]) (t := 69) ?hr ?_; (case hd => rfl); (case hg => rfl); (case hr => first | (go_simp; done) | (go_simp; rfl)); intro gb112 hg w44 hbox hb; have BK112 := Aside0.mk (hbox); have GW112 := Aside0.mk ((gsz hg : w.heap.size ≤ gb112)); have GE112 := Aside0.mk ((gsz hg : w.heap.size ≤ gb112)); have NB101_112 := Aside0.mk ((by rw [hg]; exact Nat.ne_of_lt (blk_lt (g := gb101) (o := .cells #[.int .i64 a0_0, .int .i64 a0_1, .int .i64 a0_2, .string a0_3, .int .i64 a0_4, .int .i64 a0_5, .int .i64 a0_6, .int .i64 a0_7, .int .i64 a0_8, .string a0_9, .string a0_10, .string a0_11, .string a0_12] 27 (0, 0)) (bw BK101.out)) : gb101 ≠ gb112)); have NB112_101 := Aside0.mk ((by rw [hg]; exact Nat.ne_of_gt (blk_lt (g := gb101) (o := .cells #[.int .i64 a0_0, .int .i64 a0_1, .int .i64 a0_2, .string a0_3, .int .i64 a0_4, .int .i64 a0_5, .int .i64 a0_6, .int .i64 a0_7, .int .i64 a0_8, .string a0_9, .string a0_10, .string a0_11, .string a0_12] 27 (0, 0)) (bw BK101.out)) : gb112 ≠ gb101)); replace BK101 := Aside0.mk (blk_below (g := gb101) (o := .cells #[.int .i64 a0_0, .int .i64 a0_1, .int .i64 a0_2, .string a0_3, .int .i64 a0_4, .int .i64 a0_5, .int .i64 a0_6, .int .i64 a0_7, .int .i64 a0_8, .string a0_9, .string a0_10, .string a0_11, .string a0_12] 27 (0, 0)) (bw BK101.out) hb); replace HB := Aside0.mk (below_step bel hb); clear hb hbox hg; have hnb45 := NB112_101.out; have hnc45 := NB101_112.out; obtain ⟨hcz46_0, hcz46_1, hcz46_2, hcz46_3, hcz46_4, hcz46_5, hcz46_6, hfz46_0, hfz46_1, hfz46_2, hfz46_3, hfz46_4, hfz46_5, hfz46_6⟩ := cz7 BK112.out; obtain ⟨hcz47_0, hcz47_1, hcz47_2, hcz47_3, hcz47_4, hcz47_5, hcz47_6, hcz47_7, hcz47_8, hcz47_9, hcz47_10, hcz47_11, hcz47_12, hfz47_0, hfz47_1, hfz47_2, hfz47_3, hfz47_4, hfz47_5, hfz47_6, hfz47_7, hfz47_8, hfz47_9, hfz47_10, hfz47_11, hfz47_12⟩ := cz13 BK101.out) | ((with_reducible refine gate_callee (f := 40) rfl ?_); refine goesL_ (some 74) rfl rfl Tryz.func40 (by kernel_rfl) rfl #[.agg #[.string t104, .int .i64 t105, .int .i64 t106, .int .i64 t107, .int .i64 t108, .int .i64 t109, .bool t110], .int .i64 a0_8] rfl arg ?_; (with_reducible refine (contangoref09_Price.calls kj26 t104 t105 t106 t107 t108 t109 t110 a0_8 t113 _ A33.out).mono ?_); rintro e w48 ⟨rfl, hb⟩; refine ⟨_, rfl, ?_⟩; replace BK101 := Aside0.mk (blk_below (g := gb101) (o := .cells #[.int .i64 a0_0, .int .i64 a0_1, .int .i64 a0_2, .string a0_3, .int .i64 a0_4, .int .i64 a0_5, .int .i64 a0_6, .int .i64 a0_7, .int .i64 a0_8, .string a0_9, .string a0_10, .string a0_11, .string a0_12] 27 (0, 0)) (bs BK101.out) hb); replace BK112 := Aside0.mk (blk_below (g := gb112) (o := .cells #[.string t104, .int .i64 t105, .int .i64 t106, .int .i64 t107, .int .i64 t108, .int .i64 t109, .bool t110] 69 (0, 0)) (bs BK112.out) hb); replace HB := Aside0.mk (below_step bel hb); (try clear hb); (try clear hb2); (try clear hk); (try clear hi)) | ((with_reducible refine gate_callee (f := 41) rfl ?_); refine goesL_ (some 79) rfl rfl Tryz.func41 (by kernel_rfl) rfl #[.slice A2 l2.length c2] rfl arg ?_; (with_reducible refine (contangoref11_Check.calls kj26 _ _ l2 t114 _ ?side1 ?side2 A35.out).mono ?_); (case side1 => repeat (first | exact (Kd.C_below HR2.out HB.out) | (with_reducible refine Kd.C_alloc ?_ _) | (with_reducible refine Kd.C_drewN ?_ _) | (with_reducible refine Kd.C_drew ?_))); (case side2 => exact HC2.out); rintro e w' ⟨rfl, ⟨nd, rfl⟩⟩; refine ⟨_, rfl, ?_⟩; obtain ⟨hcz49_0, hcz49_1, hcz49_2, hcz49_3, hcz49_4, hcz49_5, hcz49_6, hcz49_7, hcz49_8, hcz49_9, hcz49_10, hcz49_11, hcz49_12, hfz49_0, hfz49_1, hfz49_2, hfz49_3, hfz49_4, hfz49_5, hfz49_6, hfz49_7, hfz49_8, hfz49_9, hfz49_10, hfz49_11, hfz49_12⟩ := cz13 BK101.out) | ((with_reducible refine gate_callee (f := 42) rfl ?_); refine goesL_ (some 86) rfl rfl Tryz.func42 (by kernel_rfl) rfl #[.slice A2 l2.length c2, .agg #[.string a0_9, .string a0_10], .int .i64 1] rfl arg ?_; (with_reducible refine (contangoref11_May.calls kj26 _ _ l2 a0_9 a0_10 1 t115 _ ?side1 ?side2 A37.out).mono ?_); (case side1 => repeat (first | exact (Kd.C_below HR2.out bel) | (with_reducible refine Kd.C_alloc ?_ _) | (with_reducible refine Kd.C_drewN ?_ _) | (with_reducible refine Kd.C_drew ?_))); (case side2 => exact HC2.out); rintro e w50 ⟨rfl, hb⟩; refine ⟨_, rfl, ?_⟩; replace BK101 := Aside0.mk (blk_below (g := gb101) (o := .cells #[.int .i64 a0_0, .int .i64 a0_1, .int .i64 a0_2, .string a0_3, .int .i64 a0_4, .int .i64 a0_5, .int .i64 a0_6, .int .i64 a0_7, .int .i64 a0_8, .string a0_9, .string a0_10, .string a0_11, .string a0_12] 27 (0, 0)) (bw BK101.out) hb); replace BK112 := Aside0.mk (blk_below (g := gb112) (o := .cells #[.string t104, .int .i64 t105, .int .i64 t106, .int .i64 t107, .int .i64 t108, .int .i64 t109, .bool t110] 69 (0, 0)) (bw BK112.out) hb); replace HB := Aside0.mk (below_step bel hb); (try clear hb); (try clear hb2); (try clear hk); (try clear hi); obtain ⟨hcz51_0, hcz51_1, hcz51_2, hcz51_3, hcz51_4, hcz51_5, hcz51_6, hcz51_7, hcz51_8, hcz51_9, hcz51_10, hcz51_11, hcz51_12, hfz51_0, hfz51_1, hfz51_2, hfz51_3, hfz51_4, hfz51_5, hfz51_6, hfz51_7, hfz51_8, hfz51_9, hfz51_10, hfz51_11, hfz51_12⟩ := cz13 BK101.out) | ((with_reducible refine gate_callee (f := 42) rfl ?_); refine goesL_ (some 93) rfl rfl Tryz.func42 (by kernel_rfl) rfl #[.slice A2 l2.length c2, .agg #[.string a0_11, .string a0_12], .int .i64 1] rfl arg ?_; (with_reducible refine (contangoref11_May.calls kj26 _ _ l2 a0_11 a0_12 1 t116 _ ?side1 ?side2 A39.out).mono ?_); (case side1 => repeat (first | exact (Kd.C_below HR2.out HB.out) | (with_reducible refine Kd.C_alloc ?_ _) | (with_reducible refine Kd.C_drewN ?_ _) | (with_reducible refine Kd.C_drew ?_))); (case side2 => exact HC2.out); rintro e w52 ⟨rfl, hb⟩; refine ⟨_, rfl, ?_⟩; replace BK101 := Aside0.mk (blk_below (g := gb101) (o := .cells #[.int .i64 a0_0, .int .i64 a0_1, .int .i64 a0_2, .string a0_3, .int .i64 a0_4, .int .i64 a0_5, .int .i64 a0_6, .int .i64 a0_7, .int .i64 a0_8, .string a0_9, .string a0_10, .string a0_11, .string a0_12] 27 (0, 0)) (bw BK101.out) hb); replace BK112 := Aside0.mk (blk_below (g := gb112) (o := .cells #[.string t104, .int .i64 t105, .int .i64 t106, .int .i64 t107, .int .i64 t108, .int .i64 t109, .bool t110] 69 (0, 0)) (bw BK112.out) hb); replace HB := Aside0.mk (below_step bel hb); (try clear hb); (try clear hb2); (try clear hk); (try clear hi); obtain ⟨hcz53_0, hcz53_1, hcz53_2, hcz53_3, hcz53_4, hcz53_5, hcz53_6, hcz53_7, hcz53_8, hcz53_9, hcz53_10, hcz53_11, hcz53_12, hfz53_0, hfz53_1, hfz53_2, hfz53_3, hfz53_4, hfz53_5, hfz53_6, hfz53_7, hfz53_8, hfz53_9, hfz53_10, hfz53_11, hfz53_12⟩ := cz13 BK101.out))
                                go_ret
                                exact ⟨ers, bel⟩
                              · rw [if_neg c41] at H
                                have c41b0 : (a0_9.toList == a0_11.toList && (a0_10.toList == a0_12.toList)) = false := by simpa using c41
                                (try (have c41b1 : decide (a0_9.toList = a0_11.toList && (a0_10.toList == a0_12.toList)) = false := by simpa using c41))
                                (try (have c41b2 : (a0_9.toList == a0_11.toList && (a0_10.toList == a0_12.toList)) = false := by simpa using c41))
                                (try (have c41b3 : ¬ (a0_9.toList = a0_11.toList && (a0_10.toList == a0_12.toList)) := by simpa using c41))
                                clear c41
                                obtain rfl := Option.some.inj H
                                obtain ⟨hcz54_0, hcz54_1, hcz54_2, hcz54_3, hcz54_4, hcz54_5, hcz54_6, hcz54_7, hcz54_8, hcz54_9, hcz54_10, hcz54_11, hcz54_12, hfz54_0, hfz54_1, hfz54_2, hfz54_3, hfz54_4, hfz54_5, hfz54_6, hfz54_7, hfz54_8, hfz54_9, hfz54_10, hfz54_11, hfz54_12⟩ := cz13 BK101.out
                                go_wp2_with (first | ((with_reducible refine gate_callee (f := 39) rfl ?_); refine goesL_ (some 68) rfl rfl Tryz.func39 (by kernel_rfl) rfl #[.slice A1 l1.length c1, .string a0_3] rfl arg ?_; (with_reducible refine (contangoref09_Find.calls kj26 _ _ l1 a0_3 t104 t105 t106 t107 t108 t109 t110 t111 _ ?side1 ?side2 A32.out).mono ?_); (case side1 => repeat (first | exact (Kd.C_below HR1.out HB.out) | (with_reducible refine Kd.C_alloc ?_ _) | (with_reducible refine Kd.C_drewN ?_ _) | (with_reducible refine Kd.C_drew ?_))); (case side2 => exact HC1.out); rintro e w55 ⟨rfl, hb⟩; refine ⟨_, rfl, ?_⟩; replace BK101 := Aside0.mk (blk_below (g := gb101) (o := .cells #[.int .i64 a0_0, .int .i64 a0_1, .int .i64 a0_2, .string a0_3, .int .i64 a0_4, .int .i64 a0_5, .int .i64 a0_6, .int .i64 a0_7, .int .i64 a0_8, .string a0_9, .string a0_10, .string a0_11, .string a0_12] 27 (0, 0)) (bw BK101.out) hb); replace HB := Aside0.mk (below_step bel hb); (try clear hb); (try clear hb2); (try clear hk); (try clear hi)) | ((with_reducible refine gate_dst (N := 8) rfl ?_); refine box_event ?hg (N := 8) ?hd (cs := #[.string (⟨#[]⟩ : ByteArray), .int .i64 0, .int .i64 0, .int .i64 0, .int .i64 0, .int .i64 0, .bool false]) (t := 69) ?hr ?_; (case hd => rfl); (case hg => rfl); (case hr => first | (go_simp; done) | (go_simp; rfl)); intro gb112 hg w56 hbox hb; have BK112 := Aside0.mk (hbox); have GW112 := Aside0.mk ((gsz hg : w.heap.size ≤ gb112)); have GE112 := Aside0.mk ((gsz hg : w.heap.size ≤ gb112)); have NB101_112 := Aside0.mk ((by rw [hg]; exact Nat.ne_of_lt (blk_lt (g := gb101) (o := .cells #[.int .i64 a0_0, .int .i64 a0_1, .int .i64 a0_2, .string a0_3, .int .i64 a0_4, .int .i64 a0_5, .int .i64 a0_6, .int .i64 a0_7, .int .i64 a0_8, .string a0_9, .string a0_10, .string a0_11, .string a0_12] 27 (0, 0)) (bw BK101.out)) : gb101 ≠ gb112)); have NB112_101 := Aside0.mk ((by rw [hg]; exact Nat.ne_of_gt (blk_lt (g := gb101) (o := .cells #[.int .i64 a0_0, .int .i64 a0_1, .int .i64 a0_2, .string a0_3, .int .i64 a0_4, .int .i64 a0_5, .int .i64 a0_6, .int .i64 a0_7, .int .i64 a0_8, .string a0_9, .string a0_10, .string a0_11, .string a0_12] 27 (0, 0)) (bw BK101.out)) : gb112 ≠ gb101)); replace BK101 := Aside0.mk (blk_below (g := gb101) (o := .cells #[.int .i64 a0_0, .int .i64 a0_1, .int .i64 a0_2, .string a0_3, .int .i64 a0_4, .int .i64 a0_5, .int .i64 a0_6, .int .i64 a0_7, .int .i64 a0_8, .string a0_9, .string a0_10, .string a0_11, .string a0_12] 27 (0, 0)) (bw BK101.out) hb); replace HB := Aside0.mk (below_step bel hb); clear hb hbox hg; have hnb57 := NB112_101.out; have hnc57 := NB101_112.out; obtain ⟨hcz58_0, hcz58_1, hcz58_2, hcz58_3, hcz58_4, hcz58_5, hcz58_6, hfz58_0, hfz58_1, hfz58_2, hfz58_3, hfz58_4, hfz58_5, hfz58_6⟩ := cz7 BK112.out; obtain ⟨hcz59_0, hcz59_1, hcz59_2, hcz59_3, hcz59_4, hcz59_5, hcz59_6, hcz59_7, hcz59_8, hcz59_9, hcz59_10, hcz59_11, hcz59_12, hfz59_0, hfz59_1, hfz59_2, hfz59_3, hfz59_4, hfz59_5, hfz59_6, hfz59_7, hfz59_8, hfz59_9, hfz59_10, hfz59_11, hfz59_12⟩ := cz13 BK101.out) | ((with_reducible refine gate_callee (f := 40) rfl ?_); refine goesL_ (some 74) rfl rfl Tryz.func40 (by kernel_rfl) rfl #[.agg #[.string t104, .int .i64 t105, .int .i64 t106, .int .i64 t107, .int .i64 t108, .int .i64 t109, .bool t110], .int .i64 a0_8] rfl arg ?_; (with_reducible refine (contangoref09_Price.calls kj26 t104 t105 t106 t107 t108 t109 t110 a0_8 t113 _ A33.out).mono ?_); rintro e w60 ⟨rfl, hb⟩; refine ⟨_, rfl, ?_⟩; replace BK101 := Aside0.mk (blk_below (g := gb101) (o := .cells #[.int .i64 a0_0, .int .i64 a0_1, .int .i64 a0_2, .string a0_3, .int .i64 a0_4, .int .i64 a0_5, .int .i64 a0_6, .int .i64 a0_7, .int .i64 a0_8, .string a0_9, .string a0_10, .string a0_11, .string a0_12] 27 (0, 0)) (bs BK101.out) hb); replace BK112 := Aside0.mk (blk_below (g := gb112) (o := .cells #[.string t104, .int .i64 t105, .int .i64 t106, .int .i64 t107, .int .i64 t108, .int .i64 t109, .bool t110] 69 (0, 0)) (bs BK112.out) hb); replace HB := Aside0.mk (below_step bel hb); (try clear hb); (try clear hb2); (try clear hk); (try clear hi)) | ((with_reducible refine gate_callee (f := 41) rfl ?_); refine goesL_ (some 79) rfl rfl Tryz.func41 (by kernel_rfl) rfl #[.slice A2 l2.length c2] rfl arg ?_; (with_reducible refine (contangoref11_Check.calls kj26 _ _ l2 t114 _ ?side1 ?side2 A35.out).mono ?_); (case side1 => repeat (first | exact (Kd.C_below HR2.out HB.out) | (with_reducible refine Kd.C_alloc ?_ _) | (with_reducible refine Kd.C_drewN ?_ _) | (with_reducible refine Kd.C_drew ?_))); (case side2 => exact HC2.out); rintro e w' ⟨rfl, ⟨nd, rfl⟩⟩; refine ⟨_, rfl, ?_⟩; obtain ⟨hcz61_0, hcz61_1, hcz61_2, hcz61_3, hcz61_4, hcz61_5, hcz61_6, hcz61_7, hcz61_8, hcz61_9, hcz61_10, hcz61_11, hcz61_12, hfz61_0, hfz61_1, hfz61_2, hfz61_3, hfz61_4, hfz61_5, hfz61_6, hfz61_7, hfz61_8, hfz61_9, hfz61_10, hfz61_11, hfz61_12⟩ := cz13 BK101.out) | ((with_reducible refine gate_callee (f := 42) rfl ?_); refine goesL_ (some 86) rfl rfl Tryz.func42 (by kernel_rfl) rfl #[.slice A2 l2.length c2, .agg #[.string a0_9, .string a0_10], .int .i64 1] rfl arg ?_; (with_reducible refine (contangoref11_May.calls kj26 _ _ l2 a0_9 a0_10 1 t115 _ ?side1 ?side2 A37.out).mono ?_); (case side1 => repeat (first | exact (Kd.C_below HR2.out bel) | (with_reducible refine Kd.C_alloc ?_ _) | (with_reducible refine Kd.C_drewN ?_ _) | (with_reducible refine Kd.C_drew ?_))); (case side2 => exact HC2.out); rintro e w62 ⟨rfl, hb⟩; refine ⟨_, rfl, ?_⟩; replace BK101 := Aside0.mk (blk_below (g := gb101) (o := .cells #[.int .i64 a0_0, .int .i64 a0_1, .int .i64 a0_2, .string a0_3, .int .i64 a0_4, .int .i64 a0_5, .int .i64 a0_6, .int .i64 a0_7, .int .i64 a0_8, .string a0_9, .string a0_10, .string a0_11, .string a0_12] 27 (0, 0)) (bw BK101.out) hb); replace BK112 := Aside0.mk (blk_below (g := gb112) (o := .cells #[.string t104, .int .i64 t105, .int .i64 t106, .int .i64 t107, .int .i64 t108, .int .i64 t109, .bool t110] 69 (0, 0)) (bw BK112.out) hb); replace HB := Aside0.mk (below_step bel hb); (try clear hb); (try clear hb2); (try clear hk); (try clear hi); obtain ⟨hcz63_0, hcz63_1, hcz63_2, hcz63_3, hcz63_4, hcz63_5, hcz63_6, hcz63_7, hcz63_8, hcz63_9, hcz63_10, hcz63_11, hcz63_12, hfz63_0, hfz63_1, hfz63_2, hfz63_3, hfz63_4, hfz63_5, hfz63_6, hfz63_7, hfz63_8, hfz63_9, hfz63_10, hfz63_11, hfz63_12⟩ := cz13 BK101.out) | ((with_reducible refine gate_callee (f := 42) rfl ?_); refine goesL_ (some 93) rfl rfl Tryz.func42 (by kernel_rfl) rfl #[.slice A2 l2.length c2, .agg #[.string a0_11, .string a0_12], .int .i64 1] rfl arg ?_; (with_reducible refine (contangoref11_May.calls kj26 _ _ l2 a0_11 a0_12 1 t116 _ ?side1 ?side2 A39.out).mono ?_); (case side1 => repeat (first | exact (Kd.C_below HR2.out HB.out) | (with_reducible refine Kd.C_alloc ?_ _) | (with_reducible refine Kd.C_drewN ?_ _) | (with_reducible refine Kd.C_drew ?_))); (case side2 => exact HC2.out); rintro e w64 ⟨rfl, hb⟩; refine ⟨_, rfl, ?_⟩; replace BK101 := Aside0.mk (blk_below (g := gb101) (o := .cells #[.int .i64 a0_0, .int .i64 a0_1, .int .i64 a0_2, .string a0_3, .int .i64 a0_4, .int .i64 a0_5, .int .i64 a0_6, .int .i64 a0_7, .int .i64 a0_8, .string a0_9, .string a0_10, .string a0_11, .string a0_12] 27 (0, 0)) (bw BK101.out) hb); replace BK112 := Aside0.mk (blk_below (g := gb112) (o := .cells #[.string t104, .int .i64 t105, .int .i64 t106, .int .i64 t107, .int .i64 t108, .int .i64 t109, .bool t110] 69 (0, 0)) (bw BK112.out) hb); replace HB := Aside0.mk (below_step bel hb); (try clear hb); (try clear hb2); (try clear hk); (try clear hi); obtain ⟨hcz65_0, hcz65_1, hcz65_2, hcz65_3, hcz65_4, hcz65_5, hcz65_6, hcz65_7, hcz65_8, hcz65_9, hcz65_10, hcz65_11, hcz65_12, hfz65_0, hfz65_1, hfz65_2, hfz65_3, hfz65_4, hfz65_5, hfz65_6, hfz65_7, hfz65_8, hfz65_9, hfz65_10, hfz65_11, hfz65_12⟩ := cz13 BK101.out))
                                go_ret
                                exact ⟨ers, bel⟩
                            · rw [if_neg c40] at H
                              have c40b0 : (t116 == 0) = false := beq_eq_false_iff_ne.mpr c40
                              have c40b1 : (t116 != 0) = true := bne_iff_ne.mpr c40
                              obtain rfl := Option.some.inj H
                              obtain ⟨hcz66_0, hcz66_1, hcz66_2, hcz66_3, hcz66_4, hcz66_5, hcz66_6, hcz66_7, hcz66_8, hcz66_9, hcz66_10, hcz66_11, hcz66_12, hfz66_0, hfz66_1, hfz66_2, hfz66_3, hfz66_4, hfz66_5, hfz66_6, hfz66_7, hfz66_8, hfz66_9, hfz66_10, hfz66_11, hfz66_12⟩ := cz13 BK101.out
                              go_wp2_with (first | ((with_reducible refine gate_callee (f := 39) rfl ?_); refine goesL_ (some 68) rfl rfl Tryz.func39 (by kernel_rfl) rfl #[.slice A1 l1.length c1, .string a0_3] rfl arg ?_; (with_reducible refine (contangoref09_Find.calls kj26 _ _ l1 a0_3 t104 t105 t106 t107 t108 t109 t110 t111 _ ?side1 ?side2 A32.out).mono ?_); (case side1 => repeat (first | exact (Kd.C_below HR1.out HB.out) | (with_reducible refine Kd.C_alloc ?_ _) | (with_reducible refine Kd.C_drewN ?_ _) | (with_reducible refine Kd.C_drew ?_))); (case side2 => exact HC1.out); rintro e w67 ⟨rfl, hb⟩; refine ⟨_, rfl, ?_⟩; replace BK101 := Aside0.mk (blk_below (g := gb101) (o := .cells #[.int .i64 a0_0, .int .i64 a0_1, .int .i64 a0_2, .string a0_3, .int .i64 a0_4, .int .i64 a0_5, .int .i64 a0_6, .int .i64 a0_7, .int .i64 a0_8, .string a0_9, .string a0_10, .string a0_11, .string a0_12] 27 (0, 0)) (bw BK101.out) hb); replace HB := Aside0.mk (below_step bel hb); (try clear hb); (try clear hb2); (try clear hk); (try clear hi)) | ((with_reducible refine gate_dst (N := 8) rfl ?_); refine box_event ?hg (N := 8) ?hd (cs := #[.string (⟨#[]⟩ : ByteArray), .int .i64 0, .int .i64 0, .int .i64 0, .int .i64 0, .int .i64 0, .bool false]) (t := 69) ?hr ?_; (case hd => rfl); (case hg => rfl); (case hr => first | (go_simp; done) | (go_simp; rfl)); intro gb112 hg w68 hbox hb; have BK112 := Aside0.mk (hbox); have GW112 := Aside0.mk ((gsz hg : w.heap.size ≤ gb112)); have GE112 := Aside0.mk ((gsz hg : w.heap.size ≤ gb112)); have NB101_112 := Aside0.mk ((by rw [hg]; exact Nat.ne_of_lt (blk_lt (g := gb101) (o := .cells #[.int .i64 a0_0, .int .i64 a0_1, .int .i64 a0_2, .string a0_3, .int .i64 a0_4, .int .i64 a0_5, .int .i64 a0_6, .int .i64 a0_7, .int .i64 a0_8, .string a0_9, .string a0_10, .string a0_11, .string a0_12] 27 (0, 0)) (bw BK101.out)) : gb101 ≠ gb112)); have NB112_101 := Aside0.mk ((by rw [hg]; exact Nat.ne_of_gt (blk_lt (g := gb101) (o := .cells #[.int .i64 a0_0, .int .i64 a0_1, .int .i64 a0_2, .string a0_3, .int .i64 a0_4, .int .i64 a0_5, .int .i64 a0_6, .int .i64 a0_7, .int .i64 a0_8, .string a0_9, .string a0_10, .string a0_11, .string a0_12] 27 (0, 0)) (bw BK101.out)) : gb112 ≠ gb101)); replace BK101 := Aside0.mk (blk_below (g := gb101) (o := .cells #[.int .i64 a0_0, .int .i64 a0_1, .int .i64 a0_2, .string a0_3, .int .i64 a0_4, .int .i64 a0_5, .int .i64 a0_6, .int .i64 a0_7, .int .i64 a0_8, .string a0_9, .string a0_10, .string a0_11, .string a0_12] 27 (0, 0)) (bw BK101.out) hb); replace HB := Aside0.mk (below_step bel hb); clear hb hbox hg; have hnb69 := NB112_101.out; have hnc69 := NB101_112.out; obtain ⟨hcz70_0, hcz70_1, hcz70_2, hcz70_3, hcz70_4, hcz70_5, hcz70_6, hfz70_0, hfz70_1, hfz70_2, hfz70_3, hfz70_4, hfz70_5, hfz70_6⟩ := cz7 BK112.out; obtain ⟨hcz71_0, hcz71_1, hcz71_2, hcz71_3, hcz71_4, hcz71_5, hcz71_6, hcz71_7, hcz71_8, hcz71_9, hcz71_10, hcz71_11, hcz71_12, hfz71_0, hfz71_1, hfz71_2, hfz71_3, hfz71_4, hfz71_5, hfz71_6, hfz71_7, hfz71_8, hfz71_9, hfz71_10, hfz71_11, hfz71_12⟩ := cz13 BK101.out) | ((with_reducible refine gate_callee (f := 40) rfl ?_); refine goesL_ (some 74) rfl rfl Tryz.func40 (by kernel_rfl) rfl #[.agg #[.string t104, .int .i64 t105, .int .i64 t106, .int .i64 t107, .int .i64 t108, .int .i64 t109, .bool t110], .int .i64 a0_8] rfl arg ?_; (with_reducible refine (contangoref09_Price.calls kj26 t104 t105 t106 t107 t108 t109 t110 a0_8 t113 _ A33.out).mono ?_); rintro e w72 ⟨rfl, hb⟩; refine ⟨_, rfl, ?_⟩; replace BK101 := Aside0.mk (blk_below (g := gb101) (o := .cells #[.int .i64 a0_0, .int .i64 a0_1, .int .i64 a0_2, .string a0_3, .int .i64 a0_4, .int .i64 a0_5, .int .i64 a0_6, .int .i64 a0_7, .int .i64 a0_8, .string a0_9, .string a0_10, .string a0_11, .string a0_12] 27 (0, 0)) (bs BK101.out) hb); replace BK112 := Aside0.mk (blk_below (g := gb112) (o := .cells #[.string t104, .int .i64 t105, .int .i64 t106, .int .i64 t107, .int .i64 t108, .int .i64 t109, .bool t110] 69 (0, 0)) (bs BK112.out) hb); replace HB := Aside0.mk (below_step bel hb); (try clear hb); (try clear hb2); (try clear hk); (try clear hi)) | ((with_reducible refine gate_callee (f := 41) rfl ?_); refine goesL_ (some 79) rfl rfl Tryz.func41 (by kernel_rfl) rfl #[.slice A2 l2.length c2] rfl arg ?_; (with_reducible refine (contangoref11_Check.calls kj26 _ _ l2 t114 _ ?side1 ?side2 A35.out).mono ?_); (case side1 => repeat (first | exact (Kd.C_below HR2.out HB.out) | (with_reducible refine Kd.C_alloc ?_ _) | (with_reducible refine Kd.C_drewN ?_ _) | (with_reducible refine Kd.C_drew ?_))); (case side2 => exact HC2.out); rintro e w' ⟨rfl, ⟨nd, rfl⟩⟩; refine ⟨_, rfl, ?_⟩; obtain ⟨hcz73_0, hcz73_1, hcz73_2, hcz73_3, hcz73_4, hcz73_5, hcz73_6, hcz73_7, hcz73_8, hcz73_9, hcz73_10, hcz73_11, hcz73_12, hfz73_0, hfz73_1, hfz73_2, hfz73_3, hfz73_4, hfz73_5, hfz73_6, hfz73_7, hfz73_8, hfz73_9, hfz73_10, hfz73_11, hfz73_12⟩ := cz13 BK101.out) | ((with_reducible refine gate_callee (f := 42) rfl ?_); refine goesL_ (some 86) rfl rfl Tryz.func42 (by kernel_rfl) rfl #[.slice A2 l2.length c2, .agg #[.string a0_9, .string a0_10], .int .i64 1] rfl arg ?_; (with_reducible refine (contangoref11_May.calls kj26 _ _ l2 a0_9 a0_10 1 t115 _ ?side1 ?side2 A37.out).mono ?_); (case side1 => repeat (first | exact (Kd.C_below HR2.out bel) | (with_reducible refine Kd.C_alloc ?_ _) | (with_reducible refine Kd.C_drewN ?_ _) | (with_reducible refine Kd.C_drew ?_))); (case side2 => exact HC2.out); rintro e w74 ⟨rfl, hb⟩; refine ⟨_, rfl, ?_⟩; replace BK101 := Aside0.mk (blk_below (g := gb101) (o := .cells #[.int .i64 a0_0, .int .i64 a0_1, .int .i64 a0_2, .string a0_3, .int .i64 a0_4, .int .i64 a0_5, .int .i64 a0_6, .int .i64 a0_7, .int .i64 a0_8, .string a0_9, .string a0_10, .string a0_11, .string a0_12] 27 (0, 0)) (bw BK101.out) hb); replace BK112 := Aside0.mk (blk_below (g := gb112) (o := .cells #[.string t104, .int .i64 t105, .int .i64 t106, .int .i64 t107, .int .i64 t108, .int .i64 t109, .bool t110] 69 (0, 0)) (bw BK112.out) hb); replace HB := Aside0.mk (below_step bel hb); (try clear hb); (try clear hb2); (try clear hk); (try clear hi); obtain ⟨hcz75_0, hcz75_1, hcz75_2, hcz75_3, hcz75_4, hcz75_5, hcz75_6, hcz75_7, hcz75_8, hcz75_9, hcz75_10, hcz75_11, hcz75_12, hfz75_0, hfz75_1, hfz75_2, hfz75_3, hfz75_4, hfz75_5, hfz75_6, hfz75_7, hfz75_8, hfz75_9, hfz75_10, hfz75_11, hfz75_12⟩ := cz13 BK101.out) | ((with_reducible refine gate_callee (f := 42) rfl ?_); refine goesL_ (some 93) rfl rfl Tryz.func42 (by kernel_rfl) rfl #[.slice A2 l2.length c2, .agg #[.string a0_11, .string a0_12], .int .i64 1] rfl arg ?_; (with_reducible refine (contangoref11_May.calls kj26 _ _ l2 a0_11 a0_12 1 t116 _ ?side1 ?side2 A39.out).mono ?_); (case side1 => repeat (first | exact (Kd.C_below HR2.out HB.out) | (with_reducible refine Kd.C_alloc ?_ _) | (with_reducible refine Kd.C_drewN ?_ _) | (with_reducible refine Kd.C_drew ?_))); (case side2 => exact HC2.out); rintro e w76 ⟨rfl, hb⟩; refine ⟨_, rfl, ?_⟩; replace BK101 := Aside0.mk (blk_below (g := gb101) (o := .cells #[.int .i64 a0_0, .int .i64 a0_1, .int .i64 a0_2, .string a0_3, .int .i64 a0_4, .int .i64 a0_5, .int .i64 a0_6, .int .i64 a0_7, .int .i64 a0_8, .string a0_9, .string a0_10, .string a0_11, .string a0_12] 27 (0, 0)) (bw BK101.out) hb); replace BK112 := Aside0.mk (blk_below (g := gb112) (o := .cells #[.string t104, .int .i64 t105, .int .i64 t106, .int .i64 t107, .int .i64 t108, .int .i64 t109, .bool t110] 69 (0, 0)) (bw BK112.out) hb); replace HB := Aside0.mk (below_step bel hb); (try clear hb); (try clear hb2); (try clear hk); (try clear hi)))
                              go_ret
                              exact ⟨ers, bel⟩
                          · rw [if_neg c38] at H
                            have c38b0 : (t115 == 0) = false := beq_eq_false_iff_ne.mpr c38
                            have c38b1 : (t115 != 0) = true := bne_iff_ne.mpr c38
                            obtain rfl := Option.some.inj H
                            obtain ⟨hcz77_0, hcz77_1, hcz77_2, hcz77_3, hcz77_4, hcz77_5, hcz77_6, hcz77_7, hcz77_8, hcz77_9, hcz77_10, hcz77_11, hcz77_12, hfz77_0, hfz77_1, hfz77_2, hfz77_3, hfz77_4, hfz77_5, hfz77_6, hfz77_7, hfz77_8, hfz77_9, hfz77_10, hfz77_11, hfz77_12⟩ := cz13 BK101.out
                            go_wp2_with (first | ((with_reducible refine gate_callee (f := 39) rfl ?_); refine goesL_ (some 68) rfl rfl Tryz.func39 (by kernel_rfl) rfl #[.slice A1 l1.length c1, .string a0_3] rfl arg ?_; (with_reducible refine (contangoref09_Find.calls kj26 _ _ l1 a0_3 t104 t105 t106 t107 t108 t109 t110 t111 _ ?side1 ?side2 A32.out).mono ?_); (case side1 => repeat (first | exact (Kd.C_below HR1.out HB.out) | (with_reducible refine Kd.C_alloc ?_ _) | (with_reducible refine Kd.C_drewN ?_ _) | (with_reducible refine Kd.C_drew ?_))); (case side2 => exact HC1.out); rintro e w78 ⟨rfl, hb⟩; refine ⟨_, rfl, ?_⟩; replace BK101 := Aside0.mk (blk_below (g := gb101) (o := .cells #[.int .i64 a0_0, .int .i64 a0_1, .int .i64 a0_2, .string a0_3, .int .i64 a0_4, .int .i64 a0_5, .int .i64 a0_6, .int .i64 a0_7, .int .i64 a0_8, .string a0_9, .string a0_10, .string a0_11, .string a0_12] 27 (0, 0)) (bw BK101.out) hb); replace HB := Aside0.mk (below_step bel hb); (try clear hb); (try clear hb2); (try clear hk); (try clear hi)) | ((with_reducible refine gate_dst (N := 8) rfl ?_); refine box_event ?hg (N := 8) ?hd (cs := #[.string (⟨#[]⟩ : ByteArray), .int .i64 0, .int .i64 0, .int .i64 0, .int .i64 0, .int .i64 0, .bool false]) (t := 69) ?hr ?_; (case hd => rfl); (case hg => rfl); (case hr => first | (go_simp; done) | (go_simp; rfl)); intro gb112 hg w79 hbox hb; have BK112 := Aside0.mk (hbox); have GW112 := Aside0.mk ((gsz hg : w.heap.size ≤ gb112)); have GE112 := Aside0.mk ((gsz hg : w.heap.size ≤ gb112)); have NB101_112 := Aside0.mk ((by rw [hg]; exact Nat.ne_of_lt (blk_lt (g := gb101) (o := .cells #[.int .i64 a0_0, .int .i64 a0_1, .int .i64 a0_2, .string a0_3, .int .i64 a0_4, .int .i64 a0_5, .int .i64 a0_6, .int .i64 a0_7, .int .i64 a0_8, .string a0_9, .string a0_10, .string a0_11, .string a0_12] 27 (0, 0)) (bw BK101.out)) : gb101 ≠ gb112)); have NB112_101 := Aside0.mk ((by rw [hg]; exact Nat.ne_of_gt (blk_lt (g := gb101) (o := .cells #[.int .i64 a0_0, .int .i64 a0_1, .int .i64 a0_2, .string a0_3, .int .i64 a0_4, .int .i64 a0_5, .int .i64 a0_6, .int .i64 a0_7, .int .i64 a0_8, .string a0_9, .string a0_10, .string a0_11, .string a0_12] 27 (0, 0)) (bw BK101.out)) : gb112 ≠ gb101)); replace BK101 := Aside0.mk (blk_below (g := gb101) (o := .cells #[.int .i64 a0_0, .int .i64 a0_1, .int .i64 a0_2, .string a0_3, .int .i64 a0_4, .int .i64 a0_5, .int .i64 a0_6, .int .i64 a0_7, .int .i64 a0_8, .string a0_9, .string a0_10, .string a0_11, .string a0_12] 27 (0, 0)) (bw BK101.out) hb); replace HB := Aside0.mk (below_step bel hb); clear hb hbox hg; have hnb80 := NB112_101.out; have hnc80 := NB101_112.out; obtain ⟨hcz81_0, hcz81_1, hcz81_2, hcz81_3, hcz81_4, hcz81_5, hcz81_6, hfz81_0, hfz81_1, hfz81_2, hfz81_3, hfz81_4, hfz81_5, hfz81_6⟩ := cz7 BK112.out; obtain ⟨hcz82_0, hcz82_1, hcz82_2, hcz82_3, hcz82_4, hcz82_5, hcz82_6, hcz82_7, hcz82_8, hcz82_9, hcz82_10, hcz82_11, hcz82_12, hfz82_0, hfz82_1, hfz82_2, hfz82_3, hfz82_4, hfz82_5, hfz82_6, hfz82_7, hfz82_8, hfz82_9, hfz82_10, hfz82_11, hfz82_12⟩ := cz13 BK101.out) | ((with_reducible refine gate_callee (f := 40) rfl ?_); refine goesL_ (some 74) rfl rfl Tryz.func40 (by kernel_rfl) rfl #[.agg #[.string t104, .int .i64 t105, .int .i64 t106, .int .i64 t107, .int .i64 t108, .int .i64 t109, .bool t110], .int .i64 a0_8] rfl arg ?_; (with_reducible refine (contangoref09_Price.calls kj26 t104 t105 t106 t107 t108 t109 t110 a0_8 t113 _ A33.out).mono ?_); rintro e w83 ⟨rfl, hb⟩; refine ⟨_, rfl, ?_⟩; replace BK101 := Aside0.mk (blk_below (g := gb101) (o := .cells #[.int .i64 a0_0, .int .i64 a0_1, .int .i64 a0_2, .string a0_3, .int .i64 a0_4, .int .i64 a0_5, .int .i64 a0_6, .int .i64 a0_7, .int .i64 a0_8, .string a0_9, .string a0_10, .string a0_11, .string a0_12] 27 (0, 0)) (bs BK101.out) hb); replace BK112 := Aside0.mk (blk_below (g := gb112) (o := .cells #[.string t104, .int .i64 t105, .int .i64 t106, .int .i64 t107, .int .i64 t108, .int .i64 t109, .bool t110] 69 (0, 0)) (bs BK112.out) hb); replace HB := Aside0.mk (below_step bel hb); (try clear hb); (try clear hb2); (try clear hk); (try clear hi)) | ((with_reducible refine gate_callee (f := 41) rfl ?_); refine goesL_ (some 79) rfl rfl Tryz.func41 (by kernel_rfl) rfl #[.slice A2 l2.length c2] rfl arg ?_; (with_reducible refine (contangoref11_Check.calls kj26 _ _ l2 t114 _ ?side1 ?side2 A35.out).mono ?_); (case side1 => repeat (first | exact (Kd.C_below HR2.out HB.out) | (with_reducible refine Kd.C_alloc ?_ _) | (with_reducible refine Kd.C_drewN ?_ _) | (with_reducible refine Kd.C_drew ?_))); (case side2 => exact HC2.out); rintro e w' ⟨rfl, ⟨nd, rfl⟩⟩; refine ⟨_, rfl, ?_⟩; obtain ⟨hcz84_0, hcz84_1, hcz84_2, hcz84_3, hcz84_4, hcz84_5, hcz84_6, hcz84_7, hcz84_8, hcz84_9, hcz84_10, hcz84_11, hcz84_12, hfz84_0, hfz84_1, hfz84_2, hfz84_3, hfz84_4, hfz84_5, hfz84_6, hfz84_7, hfz84_8, hfz84_9, hfz84_10, hfz84_11, hfz84_12⟩ := cz13 BK101.out) | ((with_reducible refine gate_callee (f := 42) rfl ?_); refine goesL_ (some 86) rfl rfl Tryz.func42 (by kernel_rfl) rfl #[.slice A2 l2.length c2, .agg #[.string a0_9, .string a0_10], .int .i64 1] rfl arg ?_; (with_reducible refine (contangoref11_May.calls kj26 _ _ l2 a0_9 a0_10 1 t115 _ ?side1 ?side2 A37.out).mono ?_); (case side1 => repeat (first | exact (Kd.C_below HR2.out bel) | (with_reducible refine Kd.C_alloc ?_ _) | (with_reducible refine Kd.C_drewN ?_ _) | (with_reducible refine Kd.C_drew ?_))); (case side2 => exact HC2.out); rintro e w85 ⟨rfl, hb⟩; refine ⟨_, rfl, ?_⟩; replace BK101 := Aside0.mk (blk_below (g := gb101) (o := .cells #[.int .i64 a0_0, .int .i64 a0_1, .int .i64 a0_2, .string a0_3, .int .i64 a0_4, .int .i64 a0_5, .int .i64 a0_6, .int .i64 a0_7, .int .i64 a0_8, .string a0_9, .string a0_10, .string a0_11, .string a0_12] 27 (0, 0)) (bw BK101.out) hb); replace BK112 := Aside0.mk (blk_below (g := gb112) (o := .cells #[.string t104, .int .i64 t105, .int .i64 t106, .int .i64 t107, .int .i64 t108, .int .i64 t109, .bool t110] 69 (0, 0)) (bw BK112.out) hb); replace HB := Aside0.mk (below_step bel hb); (try clear hb); (try clear hb2); (try clear hk); (try clear hi)))
                            go_ret
                            exact ⟨ers, bel⟩
                        · rw [if_neg c36] at H
                          have c36b0 : (t114 == 0) = false := beq_eq_false_iff_ne.mpr c36
                          have c36b1 : (t114 != 0) = true := bne_iff_ne.mpr c36
                          obtain rfl := Option.some.inj H
                          obtain ⟨hcz86_0, hcz86_1, hcz86_2, hcz86_3, hcz86_4, hcz86_5, hcz86_6, hcz86_7, hcz86_8, hcz86_9, hcz86_10, hcz86_11, hcz86_12, hfz86_0, hfz86_1, hfz86_2, hfz86_3, hfz86_4, hfz86_5, hfz86_6, hfz86_7, hfz86_8, hfz86_9, hfz86_10, hfz86_11, hfz86_12⟩ := cz13 BK101.out
                          go_wp2_with (first | ((with_reducible refine gate_callee (f := 39) rfl ?_); refine goesL_ (some 68) rfl rfl Tryz.func39 (by kernel_rfl) rfl #[.slice A1 l1.length c1, .string a0_3] rfl arg ?_; (with_reducible refine (contangoref09_Find.calls kj26 _ _ l1 a0_3 t104 t105 t106 t107 t108 t109 t110 t111 _ ?side1 ?side2 A32.out).mono ?_); (case side1 => repeat (first | exact (Kd.C_below HR1.out HB.out) | (with_reducible refine Kd.C_alloc ?_ _) | (with_reducible refine Kd.C_drewN ?_ _) | (with_reducible refine Kd.C_drew ?_))); (case side2 => exact HC1.out); rintro e w87 ⟨rfl, hb⟩; refine ⟨_, rfl, ?_⟩; replace BK101 := Aside0.mk (blk_below (g := gb101) (o := .cells #[.int .i64 a0_0, .int .i64 a0_1, .int .i64 a0_2, .string a0_3, .int .i64 a0_4, .int .i64 a0_5, .int .i64 a0_6, .int .i64 a0_7, .int .i64 a0_8, .string a0_9, .string a0_10, .string a0_11, .string a0_12] 27 (0, 0)) (bw BK101.out) hb); replace HB := Aside0.mk (below_step bel hb); (try clear hb); (try clear hb2); (try clear hk); (try clear hi)) | ((with_reducible refine gate_dst (N := 8) rfl ?_); refine box_event ?hg (N := 8) ?hd (cs := #[.string (⟨#[]⟩ : ByteArray), .int .i64 0, .int .i64 0, .int .i64 0, .int .i64 0, .int .i64 0, .bool false]) (t := 69) ?hr ?_; (case hd => rfl); (case hg => rfl); (case hr => first | (go_simp; done) | (go_simp; rfl)); intro gb112 hg w88 hbox hb; have BK112 := Aside0.mk (hbox); have GW112 := Aside0.mk ((gsz hg : w.heap.size ≤ gb112)); have GE112 := Aside0.mk ((gsz hg : w.heap.size ≤ gb112)); have NB101_112 := Aside0.mk ((by rw [hg]; exact Nat.ne_of_lt (blk_lt (g := gb101) (o := .cells #[.int .i64 a0_0, .int .i64 a0_1, .int .i64 a0_2, .string a0_3, .int .i64 a0_4, .int .i64 a0_5, .int .i64 a0_6, .int .i64 a0_7, .int .i64 a0_8, .string a0_9, .string a0_10, .string a0_11, .string a0_12] 27 (0, 0)) (bw BK101.out)) : gb101 ≠ gb112)); have NB112_101 := Aside0.mk ((by rw [hg]; exact Nat.ne_of_gt (blk_lt (g := gb101) (o := .cells #[.int .i64 a0_0, .int .i64 a0_1, .int .i64 a0_2, .string a0_3, .int .i64 a0_4, .int .i64 a0_5, .int .i64 a0_6, .int .i64 a0_7, .int .i64 a0_8, .string a0_9, .string a0_10, .string a0_11, .string a0_12] 27 (0, 0)) (bw BK101.out)) : gb112 ≠ gb101)); replace BK101 := Aside0.mk (blk_below (g := gb101) (o := .cells #[.int .i64 a0_0, .int .i64 a0_1, .int .i64 a0_2, .string a0_3, .int .i64 a0_4, .int .i64 a0_5, .int .i64 a0_6, .int .i64 a0_7, .int .i64 a0_8, .string a0_9, .string a0_10, .string a0_11, .string a0_12] 27 (0, 0)) (bw BK101.out) hb); replace HB := Aside0.mk (below_step bel hb); clear hb hbox hg; have hnb89 := NB112_101.out; have hnc89 := NB101_112.out; obtain ⟨hcz90_0, hcz90_1, hcz90_2, hcz90_3, hcz90_4, hcz90_5, hcz90_6, hfz90_0, hfz90_1, hfz90_2, hfz90_3, hfz90_4, hfz90_5, hfz90_6⟩ := cz7 BK112.out; obtain ⟨hcz91_0, hcz91_1, hcz91_2, hcz91_3, hcz91_4, hcz91_5, hcz91_6, hcz91_7, hcz91_8, hcz91_9, hcz91_10, hcz91_11, hcz91_12, hfz91_0, hfz91_1, hfz91_2, hfz91_3, hfz91_4, hfz91_5, hfz91_6, hfz91_7, hfz91_8, hfz91_9, hfz91_10, hfz91_11, hfz91_12⟩ := cz13 BK101.out) | ((with_reducible refine gate_callee (f := 40) rfl ?_); refine goesL_ (some 74) rfl rfl Tryz.func40 (by kernel_rfl) rfl #[.agg #[.string t104, .int .i64 t105, .int .i64 t106, .int .i64 t107, .int .i64 t108, .int .i64 t109, .bool t110], .int .i64 a0_8] rfl arg ?_; (with_reducible refine (contangoref09_Price.calls kj26 t104 t105 t106 t107 t108 t109 t110 a0_8 t113 _ A33.out).mono ?_); rintro e w92 ⟨rfl, hb⟩; refine ⟨_, rfl, ?_⟩; replace BK101 := Aside0.mk (blk_below (g := gb101) (o := .cells #[.int .i64 a0_0, .int .i64 a0_1, .int .i64 a0_2, .string a0_3, .int .i64 a0_4, .int .i64 a0_5, .int .i64 a0_6, .int .i64 a0_7, .int .i64 a0_8, .string a0_9, .string a0_10, .string a0_11, .string a0_12] 27 (0, 0)) (bs BK101.out) hb); replace BK112 := Aside0.mk (blk_below (g := gb112) (o := .cells #[.string t104, .int .i64 t105, .int .i64 t106, .int .i64 t107, .int .i64 t108, .int .i64 t109, .bool t110] 69 (0, 0)) (bs BK112.out) hb); replace HB := Aside0.mk (below_step bel hb); (try clear hb); (try clear hb2); (try clear hk); (try clear hi)) | ((with_reducible refine gate_callee (f := 41) rfl ?_); refine goesL_ (some 79) rfl rfl Tryz.func41 (by kernel_rfl) rfl #[.slice A2 l2.length c2] rfl arg ?_; (with_reducible refine (contangoref11_Check.calls kj26 _ _ l2 t114 _ ?side1 ?side2 A35.out).mono ?_); (case side1 => repeat (first | exact (Kd.C_below HR2.out HB.out) | (with_reducible refine Kd.C_alloc ?_ _) | (with_reducible refine Kd.C_drewN ?_ _) | (with_reducible refine Kd.C_drew ?_))); (case side2 => exact HC2.out); rintro e w' ⟨rfl, ⟨nd, rfl⟩⟩; refine ⟨_, rfl, ?_⟩))
                          go_ret
                          exact ⟨ers, bel⟩
                      · rw [if_neg c34] at H
                        have c34b0 : (t113 == 0) = false := beq_eq_false_iff_ne.mpr c34
                        have c34b1 : (t113 != 0) = true := bne_iff_ne.mpr c34
                        obtain rfl := Option.some.inj H
                        obtain ⟨hcz93_0, hcz93_1, hcz93_2, hcz93_3, hcz93_4, hcz93_5, hcz93_6, hcz93_7, hcz93_8, hcz93_9, hcz93_10, hcz93_11, hcz93_12, hfz93_0, hfz93_1, hfz93_2, hfz93_3, hfz93_4, hfz93_5, hfz93_6, hfz93_7, hfz93_8, hfz93_9, hfz93_10, hfz93_11, hfz93_12⟩ := cz13 BK101.out
                        go_wp2_with (first | ((with_reducible refine gate_callee (f := 39) rfl ?_); refine goesL_ (some 68) rfl rfl Tryz.func39 (by kernel_rfl) rfl #[.slice A1 l1.length c1, .string a0_3] rfl arg ?_; (with_reducible refine (contangoref09_Find.calls kj26 _ _ l1 a0_3 t104 t105 t106 t107 t108 t109 t110 t111 _ ?side1 ?side2 A32.out).mono ?_); (case side1 => repeat (first | exact (Kd.C_below HR1.out HB.out) | (with_reducible refine Kd.C_alloc ?_ _) | (with_reducible refine Kd.C_drewN ?_ _) | (with_reducible refine Kd.C_drew ?_))); (case side2 => exact HC1.out); rintro e w94 ⟨rfl, hb⟩; refine ⟨_, rfl, ?_⟩; replace BK101 := Aside0.mk (blk_below (g := gb101) (o := .cells #[.int .i64 a0_0, .int .i64 a0_1, .int .i64 a0_2, .string a0_3, .int .i64 a0_4, .int .i64 a0_5, .int .i64 a0_6, .int .i64 a0_7, .int .i64 a0_8, .string a0_9, .string a0_10, .string a0_11, .string a0_12] 27 (0, 0)) (bw BK101.out) hb); replace HB := Aside0.mk (below_step bel hb); (try clear hb); (try clear hb2); (try clear hk); (try clear hi)) | ((with_reducible refine gate_dst (N := 8) rfl ?_); refine box_event ?hg (N := 8) ?hd (cs := #[.string (⟨#[]⟩ : ByteArray), .int .i64 0, .int .i64 0, .int .i64 0, .int .i64 0, .int .i64 0, .bool false]) (t := 69) ?hr ?_; (case hd => rfl); (case hg => rfl); (case hr => first | (go_simp; done) | (go_simp; rfl)); intro gb112 hg w95 hbox hb; have BK112 := Aside0.mk (hbox); have GW112 := Aside0.mk ((gsz hg : w.heap.size ≤ gb112)); have GE112 := Aside0.mk ((gsz hg : w.heap.size ≤ gb112)); have NB101_112 := Aside0.mk ((by rw [hg]; exact Nat.ne_of_lt (blk_lt (g := gb101) (o := .cells #[.int .i64 a0_0, .int .i64 a0_1, .int .i64 a0_2, .string a0_3, .int .i64 a0_4, .int .i64 a0_5, .int .i64 a0_6, .int .i64 a0_7, .int .i64 a0_8, .string a0_9, .string a0_10, .string a0_11, .string a0_12] 27 (0, 0)) (bw BK101.out)) : gb101 ≠ gb112)); have NB112_101 := Aside0.mk ((by rw [hg]; exact Nat.ne_of_gt (blk_lt (g := gb101) (o := .cells #[.int .i64 a0_0, .int .i64 a0_1, .int .i64 a0_2, .string a0_3, .int .i64 a0_4, .int .i64 a0_5, .int .i64 a0_6, .int .i64 a0_7, .int .i64 a0_8, .string a0_9, .string a0_10, .string a0_11, .string a0_12] 27 (0, 0)) (bw BK101.out)) : gb112 ≠ gb101)); replace BK101 := Aside0.mk (blk_below (g := gb101) (o := .cells #[.int .i64 a0_0, .int .i64 a0_1, .int .i64 a0_2, .string a0_3, .int .i64 a0_4, .int .i64 a0_5, .int .i64 a0_6, .int .i64 a0_7, .int .i64 a0_8, .string a0_9, .string a0_10, .string a0_11, .string a0_12] 27 (0, 0)) (bw BK101.out) hb); replace HB := Aside0.mk (below_step bel hb); clear hb hbox hg; have hnb96 := NB112_101.out; have hnc96 := NB101_112.out; obtain ⟨hcz97_0, hcz97_1, hcz97_2, hcz97_3, hcz97_4, hcz97_5, hcz97_6, hfz97_0, hfz97_1, hfz97_2, hfz97_3, hfz97_4, hfz97_5, hfz97_6⟩ := cz7 BK112.out; obtain ⟨hcz98_0, hcz98_1, hcz98_2, hcz98_3, hcz98_4, hcz98_5, hcz98_6, hcz98_7, hcz98_8, hcz98_9, hcz98_10, hcz98_11, hcz98_12, hfz98_0, hfz98_1, hfz98_2, hfz98_3, hfz98_4, hfz98_5, hfz98_6, hfz98_7, hfz98_8, hfz98_9, hfz98_10, hfz98_11, hfz98_12⟩ := cz13 BK101.out) | ((with_reducible refine gate_callee (f := 40) rfl ?_); refine goesL_ (some 74) rfl rfl Tryz.func40 (by kernel_rfl) rfl #[.agg #[.string t104, .int .i64 t105, .int .i64 t106, .int .i64 t107, .int .i64 t108, .int .i64 t109, .bool t110], .int .i64 a0_8] rfl arg ?_; (with_reducible refine (contangoref09_Price.calls kj26 t104 t105 t106 t107 t108 t109 t110 a0_8 t113 _ A33.out).mono ?_); rintro e w99 ⟨rfl, hb⟩; refine ⟨_, rfl, ?_⟩; replace BK101 := Aside0.mk (blk_below (g := gb101) (o := .cells #[.int .i64 a0_0, .int .i64 a0_1, .int .i64 a0_2, .string a0_3, .int .i64 a0_4, .int .i64 a0_5, .int .i64 a0_6, .int .i64 a0_7, .int .i64 a0_8, .string a0_9, .string a0_10, .string a0_11, .string a0_12] 27 (0, 0)) (bs BK101.out) hb); replace BK112 := Aside0.mk (blk_below (g := gb112) (o := .cells #[.string t104, .int .i64 t105, .int .i64 t106, .int .i64 t107, .int .i64 t108, .int .i64 t109, .bool t110] 69 (0, 0)) (bs BK112.out) hb); replace HB := Aside0.mk (below_step bel hb); (try clear hb); (try clear hb2); (try clear hk); (try clear hi)))
                        go_ret
                        exact ⟨ers, bel⟩
  · rw [if_neg c5] at H
    have c5b0 : (t102 == 0) = false := beq_eq_false_iff_ne.mpr c5
    have c5b1 : (t102 != 0) = true := bne_iff_ne.mpr c5
    obtain rfl := Option.some.inj H
    refine Aside0.mk ?_
    (refine goesL_ (some 17) rfl rfl Tryz.func37 (by kernel_rfl) rfl #[.slice A1 l1.length c1, .agg #[.string a0_3, .int .i64 a0_4, .int .i64 a0_5, .int .i64 a0_6]] rfl arg ?_; (with_reducible refine (contangoref10_Check.calls k _ _ l1 a0_3 a0_4 a0_5 a0_6 t102 _ ?side1 ?side2 A4.out).mono ?_); (case side1 => repeat (first | exact (Kd.C_below HR1.out HB.out) | (with_reducible refine Kd.C_alloc ?_ _) | (with_reducible refine Kd.C_drewN ?_ _) | (with_reducible refine Kd.C_drew ?_))); (case side2 => exact HC1.out); rintro e w102 ⟨rfl, hb⟩; refine ⟨_, rfl, ?_⟩; replace BK101 := Aside0.mk (blk_below (g := gb101) (o := .cells #[.int .i64 a0_0, .int .i64 a0_1, .int .i64 a0_2, .string a0_3, .int .i64 a0_4, .int .i64 a0_5, .int .i64 a0_6, .int .i64 a0_7, .int .i64 a0_8, .string a0_9, .string a0_10, .string a0_11, .string a0_12] 27 (0, 0)) (bw BK101.out) hb); replace HB := Aside0.mk (below_step bel hb); (try clear hb); (try clear hb2); (try clear hk); (try clear hi))
    go_wp2_with (fail)
    go_ret
    exact ⟨ers, bel⟩
end Go.Proofs.YthpmmofleddpnaaGreatDoor.X
end
