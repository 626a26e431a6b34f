/- For TradeChecks: contracts, and facts on lists and numbers, that it uses (part 6). -/
import Derived.ChangeArms
import Derived.Deep.Slices
import Derived.Laws.BitsLemmas
import Derived.Laws.Strings
import Derived.OpenShut
import Derived.SizedLaws
import Derived.Test.YthpmmofleddpnaaGreatDoorTradeChecksc5
import Derived.WideShapes
section
namespace Go.Proofs.YthpmmofleddpnaaGreatDoor.X
open Go.RowKit Go.Proofs.YthpmmofleddpnaaGreatDoorW.PrintWords Go.Proofs.YthpmmofleddpnaaGreatDoorW.PrintLast Go.Proofs.YthpmmofleddpnaaGreatDoorW.PrintMore
attribute [local go_sem] max2_int min2_int max_two min_two max_three min_three max_four min_four
set_option linter.unusedVariables false
set_option linter.unusedSimpArgs false
attribute [local go_sem high] eqA25
mutual
def trade_Check.j0 : Nat → List (S69) → List (S148) → Bool → Int → Int → Int → ByteArray → Int → Int → Int → Int → Int → ByteArray → ByteArray → ByteArray → ByteArray → Option (Int)
  | 0, _, _, _, _, _, _, _, _, _, _, _, _, _, _, _, _ => none
  | k + 1, x1, x2, x22, x102000, x102001, x102002, x102003, x102004, x102005, x102006, x102007, x102008, x102009, x102010, x102011, x102012 => if x22 = true then (some 15) else (if x102000 < 1 then (trade_Check.j1 k x1 x2 true x102000 x102001 x102002 x102003 x102004 x102005 x102006 x102007 x102008 x102009 x102010 x102011 x102012) else (if x102000 > 1152921504606846976 then (trade_Check.j1 k x1 x2 true x102000 x102001 x102002 x102003 x102004 x102005 x102006 x102007 x102008 x102009 x102010 x102011 x102012) else (if x102002 < 0 then (trade_Check.j1 k x1 x2 true x102000 x102001 x102002 x102003 x102004 x102005 x102006 x102007 x102008 x102009 x102010 x102011 x102012) else (trade_Check.j1 k x1 x2 (decide (x102002 > 86399)) x102000 x102001 x102002 x102003 x102004 x102005 x102006 x102007 x102008 x102009 x102010 x102011 x102012))))
def trade_Check.j1 : Nat → List (S69) → List (S148) → Bool → Int → Int → Int → ByteArray → Int → Int → Int → Int → Int → ByteArray → ByteArray → ByteArray → ByteArray → Option (Int)
  | 0, _, _, _, _, _, _, _, _, _, _, _, _, _, _, _, _ => none
  | k + 1, x1, x2, x39, x102000, x102001, x102002, x102003, x102004, x102005, x102006, x102007, x102008, x102009, x102010, x102011, x102012 => if x39 = true then (some 2) else (if x102007 < 1 then (some 18) else (if x102007 > 1048576 then (some 18) else ((product_Find.f x1 x102003).bind fun bt104 => ((product_Price.f k bt104.1 bt104.2.1 bt104.2.2.1 bt104.2.2.2.1 bt104.2.2.2.2.1 bt104.2.2.2.2.2.1 bt104.2.2.2.2.2.2.1 x102008).bind fun t113 => (if t113 = 0 then ((member_Check.f k x2).bind fun t114 => (if t114 = 0 then ((some (([(⟨x102009, x102010⟩ : S25), (⟨x102011, x102012⟩ : S25)] : List (S25)) : List (S25))).bind fun y115 => (trade_Check.l0 k x2 y115 (y115.length : Int) 0 x102000 x102001 x102002 x102003 x102004 x102005 x102006 x102007 x102008 x102009 x102010 x102011 x102012)) else (some t114))) else (some t113))))))
def trade_Check.l0 : Nat → List (S148) → List (S25) → Int → Int → Int → Int → Int → ByteArray → Int → Int → Int → Int → Int → ByteArray → ByteArray → ByteArray → ByteArray → Option (Int)
  | 0, _, _, _, _, _, _, _, _, _, _, _, _, _, _, _, _, _ => none
  | k + 1, x2, x91, x92, x93, x102000, x102001, x102002, x102003, x102004, x102005, x102006, x102007, x102008, x102009, x102010, x102011, x102012 => if x93 < x92 then (if 0 ≤ x93 then (if x93 < (x91.length : Int) then ((member_May.f k x2 ((rd_T25 x91 x93).f0) ((rd_T25 x91 x93).f1) 1).bind fun t120 => (if t120 = 0 then (trade_Check.l0 k x2 x91 x92 (wrap64 (x93 + 1)) x102000 x102001 x102002 x102003 x102004 x102005 x102006 x102007 x102008 x102009 x102010 x102011 x102012) else (some t120))) else (none)) else (none)) else (if (x102009.toList == x102011.toList && (x102010.toList == x102012.toList)) = true then (some 21) else (some 0))
end
def trade_Check.f (k : Nat) (a0_0 : Int) (a0_1 : Int) (a0_2 : Int) (a0_3 : ByteArray) (a0_4 : Int) (a0_5 : Int) (a0_6 : Int) (a0_7 : Int) (a0_8 : Int) (a0_9 : ByteArray) (a0_10 : ByteArray) (a0_11 : ByteArray) (a0_12 : ByteArray) (l1 : List (S69)) (l2 : List (S148)) : Option (Int) := (series_Check.f k l1 a0_3 a0_4 a0_5 a0_6).bind fun t102 => (if t102 = 0 then (if a0_1 < 0 then (trade_Check.j0 k l1 l2 true a0_0 a0_1 a0_2 a0_3 a0_4 a0_5 a0_6 a0_7 a0_8 a0_9 a0_10 a0_11 a0_12) else (if a0_1 > 73048 then (trade_Check.j0 k l1 l2 true a0_0 a0_1 a0_2 a0_3 a0_4 a0_5 a0_6 a0_7 a0_8 a0_9 a0_10 a0_11 a0_12) else ((series_Live.f a0_3 a0_4 a0_5 a0_6 a0_1).bind fun t103 => (trade_Check.j0 k l1 l2 (!t103) a0_0 a0_1 a0_2 a0_3 a0_4 a0_5 a0_6 a0_7 a0_8 a0_9 a0_10 a0_11 a0_12)))) else (some t102))
set_option maxHeartbeats 8000000 in
set_option maxRecDepth 100000 in
theorem trade_Check.calls (k : Nat) (a0_0 : Int) (a0_1 : Int) (a0_2 : Int) (a0_3 : ByteArray) (a0_4 : Int) (a0_5 : Int) (a0_6 : Int) (a0_7 : Int) (a0_8 : Int) (a0_9 : ByteArray) (a0_10 : ByteArray) (a0_11 : ByteArray) (a0_12 : ByteArray) (A1 : Option Addr) (c1 : Nat) (l1 : List (S69)) (A2 : Option Addr) (c2 : Nat) (l2 : List (S148)) (r : Int) (w : World) (hr1 : Kd.C k69 w A1 l1.length l1) (hc1 : l1.length ≤ c1) (hr2 : Kd.C k148 w A2 l2.length l2) (hc2 : l2.length ≤ c2) (h : trade_Check.f k a0_0 a0_1 a0_2 a0_3 a0_4 a0_5 a0_6 a0_7 a0_8 a0_9 a0_10 a0_11 a0_12 l1 l2 = some r) :
    Calls Tryz.prog 10 #[.agg #[.int .i64 a0_0, .int .i64 a0_1, .int .i64 a0_2, .string a0_3, .int .i64 a0_4, .int .i64 a0_5, .int .i64 a0_6, .int .i64 a0_7, .int .i64 a0_8, .string a0_9, .string a0_10, .string a0_11, .string a0_12], .slice A1 l1.length c1, .slice A2 l2.length c2] w fun e w' => e = .returned (.int .i64 r) ∧ Below w.heap.size w w' := by
  have hu27 := Tryz.underlying27
  have hu23 := Tryz.underlying23
  have hu69 := Tryz.underlying69
  have hu25 := Tryz.underlying25
  have HR1 := Aside0.mk hr1
  have HC1 := Aside0.mk hc1
  clear hr1 hc1
  have HR2 := Aside0.mk hr2
  have HC2 := Aside0.mk hc2
  clear hr2 hc2
  have HB := Aside0.mk (Below.refl w.heap.size w)
  have H : ((series_Check.f k l1 a0_3 a0_4 a0_5 a0_6).bind fun t102 => (if t102 = 0 then (if a0_1 < 0 then (trade_Check.j0 k l1 l2 true a0_0 a0_1 a0_2 a0_3 a0_4 a0_5 a0_6 a0_7 a0_8 a0_9 a0_10 a0_11 a0_12) else (if a0_1 > 73048 then (trade_Check.j0 k l1 l2 true a0_0 a0_1 a0_2 a0_3 a0_4 a0_5 a0_6 a0_7 a0_8 a0_9 a0_10 a0_11 a0_12) else ((series_Live.f a0_3 a0_4 a0_5 a0_6 a0_1).bind fun t103 => (trade_Check.j0 k l1 l2 (!t103) a0_0 a0_1 a0_2 a0_3 a0_4 a0_5 a0_6 a0_7 a0_8 a0_9 a0_10 a0_11 a0_12)))) else (some t102))) = some r := h
  clear h
  replace H := bnd H
  obtain ⟨t102, A40, H⟩ := H
  have A4 := Aside0.mk A40
  clear A40
  go_enter Tryz.func10, Tryz.ntmps10
  go_wp2_with (first | ((with_reducible refine gate_dst (N := 3) rfl ?_); refine box_event ?hg (N := 3) ?hd (cs := #[.int .i64 a0_0, .int .i64 a0_1, .int .i64 a0_2, .string a0_3, .int .i64 a0_4, .int .i64 a0_5, .int .i64 a0_6, .int .i64 a0_7, .int .i64 a0_8, .string a0_9, .string a0_10, .string a0_11, .string a0_12]) (t := 27) ?hr ?_; (case hd => rfl); (case hg => rfl); (case hr => first | (go_simp; done) | (go_simp; rfl)); intro gb101 hg w7 hbox hb; have BK101 := Aside0.mk (hbox); have GW101 := Aside0.mk ((gsz hg : w.heap.size ≤ gb101)); have GE101 := Aside0.mk ((gsz hg : w.heap.size ≤ gb101)); replace HB := Aside0.mk (below_step bel hb); clear hb hbox hg; obtain ⟨hcz8_0, hcz8_1, hcz8_2, hcz8_3, hcz8_4, hcz8_5, hcz8_6, hcz8_7, hcz8_8, hcz8_9, hcz8_10, hcz8_11, hcz8_12, hfz8_0, hfz8_1, hfz8_2, hfz8_3, hfz8_4, hfz8_5, hfz8_6, hfz8_7, hfz8_8, hfz8_9, hfz8_10, hfz8_11, hfz8_12⟩ := cz13 BK101.out) | ((with_reducible refine gate_callee (f := 31) rfl ?_); refine Aside0.out ?_))
  by_cases c5 : t102 = 0
  · rw [if_pos c5] at H
    have c5b0 : (t102 == 0) = true := beq_iff_eq.mpr c5
    have c5b1 : (t102 != 0) = false := bne_eq_false_iff_eq.mpr c5
    clear c5
    have HC6 := Aside0.mk H
    clear H
    refine Aside0.mk ?_
    (refine goesL_ (some 18) rfl rfl Tryz.func31 (by kernel_rfl) rfl #[.slice A1 l1.length c1, .agg #[.string a0_3, .int .i64 a0_4, .int .i64 a0_5, .int .i64 a0_6]] rfl arg ?_; (with_reducible refine (series_Check.calls k _ _ l1 a0_3 a0_4 a0_5 a0_6 t102 _ ?side1 ?side2 A4.out).mono ?_); (case side1 => repeat (first | exact (Kd.C_below HR1.out HB.out) | (with_reducible refine Kd.C_alloc ?_ _) | (with_reducible refine Kd.C_drewN ?_ _) | (with_reducible refine Kd.C_drew ?_))); (case side2 => exact HC1.out); rintro e w9 ⟨rfl, hb⟩; refine ⟨_, rfl, ?_⟩; replace BK101 := Aside0.mk (blk_below (g := gb101) (bw BK101.out) hb); replace HB := Aside0.mk (below_step bel hb); (try clear hb); (try clear hb2); (try clear hk); (try clear hi))
    go_upto_region 4 with (fail)
    (try simp only [Act.put, List.setIfInBounds_toArray, List.set_cons_zero, List.set_cons_succ])
    go_cut [22] (fun v22 wc => ∃ (kq : Nat) (x22_5 : Bool), v22 = .bool x22_5 ∧ Aside0 (trade_Check.j0 kq l1 l2 x22_5 a0_0 a0_1 a0_2 a0_3 a0_4 a0_5 a0_6 a0_7 a0_8 a0_9 a0_10 a0_11 a0_12 = some r) ∧ Aside0 (kq ≤ k) ∧ Aside0 (wc.heap[gb101]? = some (.cells #[.int .i64 a0_0, .int .i64 a0_1, .int .i64 a0_2, .string a0_3, .int .i64 a0_4, .int .i64 a0_5, .int .i64 a0_6, .int .i64 a0_7, .int .i64 a0_8, .string a0_9, .string a0_10, .string a0_11, .string a0_12] 27 (0, 0))) ∧ Aside0 (Below w.heap.size w wc))
    case first =>
      have H := HC6.out
      clear HC6
      by_cases c10 : a0_1 < 0
      · rw [if_pos c10] at H
        have c10b0 := decide_eq_true c10
        clear c10
        (first | rw [c10b0] | (simp only [i64_w, i32_w]; rw [c10b0]) | skip)
        have H' := Aside0.mk H
        clear H
        obtain ⟨hcz11_0, hcz11_1, hcz11_2, hcz11_3, hcz11_4, hcz11_5, hcz11_6, hcz11_7, hcz11_8, hcz11_9, hcz11_10, hcz11_11, hcz11_12, hfz11_0, hfz11_1, hfz11_2, hfz11_3, hfz11_4, hfz11_5, hfz11_6, hfz11_7, hfz11_8, hfz11_9, hfz11_10, hfz11_11, hfz11_12⟩ := cz13 BK101.out
        go_wp2
        go_meet
        case rel => exact ⟨_, (true), eqs, H', ⟨by first | omega | exact Nat.le_refl _⟩, ⟨bw BK101.out⟩, ⟨bel⟩⟩
      · rw [if_neg c10] at H
        have c10b0 := decide_eq_false c10
        clear c10
        (first | rw [c10b0] | (simp only [i64_w, i32_w]; rw [c10b0]) | skip)
        by_cases c12 : a0_1 > 73048
        · rw [if_pos c12] at H
          have c12b0 : decide (73048 < a0_1) = true := decide_eq_true c12
          clear c12
          have H' := Aside0.mk H
          clear H
          obtain ⟨hcz13_0, hcz13_1, hcz13_2, hcz13_3, hcz13_4, hcz13_5, hcz13_6, hcz13_7, hcz13_8, hcz13_9, hcz13_10, hcz13_11, hcz13_12, hfz13_0, hfz13_1, hfz13_2, hfz13_3, hfz13_4, hfz13_5, hfz13_6, hfz13_7, hfz13_8, hfz13_9, hfz13_10, hfz13_11, hfz13_12⟩ := cz13 BK101.out
          go_wp2
          go_meet
          case rel => exact ⟨_, (true), eqs, H', ⟨by first | omega | exact Nat.le_refl _⟩, ⟨bw BK101.out⟩, ⟨bel⟩⟩
        · rw [if_neg c12] at H
          have c12b0 : decide (73048 < a0_1) = false := decide_eq_false c12
          clear c12
          replace H := bnd H
          obtain ⟨t103, A140, H⟩ := H
          have A14 := Aside0.mk A140
          clear A140
          have H' := Aside0.mk H
          clear H
          obtain ⟨hcz15_0, hcz15_1, hcz15_2, hcz15_3, hcz15_4, hcz15_5, hcz15_6, hcz15_7, hcz15_8, hcz15_9, hcz15_10, hcz15_11, hcz15_12, hfz15_0, hfz15_1, hfz15_2, hfz15_3, hfz15_4, hfz15_5, hfz15_6, hfz15_7, hfz15_8, hfz15_9, hfz15_10, hfz15_11, hfz15_12⟩ := cz13 BK101.out
          go_wp2_with (first | (go_at_call 32; (with_reducible refine (series_Live.calls a0_3 a0_4 a0_5 a0_6 a0_1 t103 _ A14.out).mono ?_); rintro e w16 ⟨rfl, hb⟩; replace BK101 := Aside0.mk (blk_below (g := gb101) (bw BK101.out) hb); replace HB := Aside0.mk (below_step bel hb); (try clear hb); (try clear hb2); (try clear hk); (try clear hi)))
          go_meet
          case rel => exact ⟨_, (!t103), eqs, H', ⟨by first | omega | exact Nat.le_refl _⟩, ⟨bw BK101.out⟩, ⟨bel⟩⟩
    case rest =>
      clear HC6
      try clear c1
      try clear c2
      try clear p2
      try clear c3
      try clear c5
      try clear c5b0
      try clear c5b1
      try clear c10
      try clear c10b0
      try clear c12
      try clear c12b0
      try clear hcz11_0 hcz11_1 hcz11_10 hcz11_11 hcz11_12 hcz11_2 hcz11_3 hcz11_4 hcz11_5 hcz11_6 hcz11_7 hcz11_8 hcz11_9
      try clear hcz13_0 hcz13_1 hcz13_10 hcz13_11 hcz13_12 hcz13_2 hcz13_3 hcz13_4 hcz13_5 hcz13_6 hcz13_7 hcz13_8 hcz13_9
      try clear hcz15_0 hcz15_1 hcz15_10 hcz15_11 hcz15_12 hcz15_2 hcz15_3 hcz15_4 hcz15_5 hcz15_6 hcz15_7 hcz15_8 hcz15_9
      try clear hcz8_0 hcz8_1 hcz8_10 hcz8_11 hcz8_12 hcz8_2 hcz8_3 hcz8_4 hcz8_5 hcz8_6 hcz8_7 hcz8_8 hcz8_9
      try clear hfz11_0 hfz11_1 hfz11_10 hfz11_11 hfz11_12 hfz11_2 hfz11_3 hfz11_4 hfz11_5 hfz11_6 hfz11_7 hfz11_8 hfz11_9
      try clear hfz13_0 hfz13_1 hfz13_10 hfz13_11 hfz13_12 hfz13_2 hfz13_3 hfz13_4 hfz13_5 hfz13_6 hfz13_7 hfz13_8 hfz13_9
      try clear hfz15_0 hfz15_1 hfz15_10 hfz15_11 hfz15_12 hfz15_2 hfz15_3 hfz15_4 hfz15_5 hfz15_6 hfz15_7 hfz15_8 hfz15_9
      try clear hfz8_0 hfz8_1 hfz8_10 hfz8_11 hfz8_12 hfz8_2 hfz8_3 hfz8_4 hfz8_5 hfz8_6 hfz8_7 hfz8_8 hfz8_9
      obtain ⟨kq, x22_5, rfl, HA, HJ5, BK101, HB⟩ := hcut
      cases kq with
      | zero => exact absurd HA.out (by simp [trade_Check.j0])
      | succ kj5 =>
        have H := HA.out
        clear HA
        simp only [trade_Check.j0] at H
        by_cases c17 : x22_5 = true
        · subst c17
          rw [if_pos rfl] at H
          obtain rfl := Option.some.inj H
          go_wp2
          go_ret
          exact ⟨ers, bel⟩
        · replace c17 := Bool.eq_false_iff.mpr c17
          subst c17
          rw [if_neg (show ¬ (false = true) by decide)] at H
          have HC18 := Aside0.mk H
          clear H
          go_upto_region 6 with (fail)
          go_cut [39] (fun v39 wc => ∃ (kq : Nat) (x39_17 : Bool), v39 = .bool x39_17 ∧ Aside0 (trade_Check.j1 kq l1 l2 x39_17 a0_0 a0_1 a0_2 a0_3 a0_4 a0_5 a0_6 a0_7 a0_8 a0_9 a0_10 a0_11 a0_12 = some r) ∧ Aside0 (kq ≤ kj5) ∧ Aside0 (wc.heap[gb101]? = some (.cells #[.int .i64 a0_0, .int .i64 a0_1, .int .i64 a0_2, .string a0_3, .int .i64 a0_4, .int .i64 a0_5, .int .i64 a0_6, .int .i64 a0_7, .int .i64 a0_8, .string a0_9, .string a0_10, .string a0_11, .string a0_12] 27 (0, 0))) ∧ Aside0 (Below w.heap.size w wc))
          case first =>
            have H := HC18.out
            clear HC18
            by_cases c19 : a0_0 < 1
            · rw [if_pos c19] at H
              have c19b0 := decide_eq_true c19
              clear c19
              (first | rw [c19b0] | (simp only [i64_w, i32_w]; rw [c19b0]) | skip)
              have H' := Aside0.mk H
              clear H
              obtain ⟨hcz20_0, hcz20_1, hcz20_2, hcz20_3, hcz20_4, hcz20_5, hcz20_6, hcz20_7, hcz20_8, hcz20_9, hcz20_10, hcz20_11, hcz20_12, hfz20_0, hfz20_1, hfz20_2, hfz20_3, hfz20_4, hfz20_5, hfz20_6, hfz20_7, hfz20_8, hfz20_9, hfz20_10, hfz20_11, hfz20_12⟩ := cz13 BK101.out
              go_wp2
              go_meet
              case rel => exact ⟨_, (true), eqs, H', ⟨by have := HJ5.out; first | omega | exact Nat.le_refl _⟩, ⟨bw BK101.out⟩, ⟨bel⟩⟩
            · rw [if_neg c19] at H
              have c19b0 := decide_eq_false c19
              clear c19
              (first | rw [c19b0] | (simp only [i64_w, i32_w]; rw [c19b0]) | skip)
              by_cases c21 : a0_0 > 1152921504606846976
              · rw [if_pos c21] at H
                have c21b0 : decide (1152921504606846976 < a0_0) = true := decide_eq_true c21
                clear c21
                have H' := Aside0.mk H
                clear H
                obtain ⟨hcz22_0, hcz22_1, hcz22_2, hcz22_3, hcz22_4, hcz22_5, hcz22_6, hcz22_7, hcz22_8, hcz22_9, hcz22_10, hcz22_11, hcz22_12, hfz22_0, hfz22_1, hfz22_2, hfz22_3, hfz22_4, hfz22_5, hfz22_6, hfz22_7, hfz22_8, hfz22_9, hfz22_10, hfz22_11, hfz22_12⟩ := cz13 BK101.out
                go_wp2
                go_meet
                case rel => exact ⟨_, (true), eqs, H', ⟨by have := HJ5.out; first | omega | exact Nat.le_refl _⟩, ⟨bw BK101.out⟩, ⟨bel⟩⟩
              · rw [if_neg c21] at H
                have c21b0 : decide (1152921504606846976 < a0_0) = false := decide_eq_false c21
                clear c21
                by_cases c23 : a0_2 < 0
                · rw [if_pos c23] at H
                  have c23b0 := decide_eq_true c23
                  clear c23
                  have H' := Aside0.mk H
                  clear H
                  obtain ⟨hcz24_0, hcz24_1, hcz24_2, hcz24_3, hcz24_4, hcz24_5, hcz24_6, hcz24_7, hcz24_8, hcz24_9, hcz24_10, hcz24_11, hcz24_12, hfz24_0, hfz24_1, hfz24_2, hfz24_3, hfz24_4, hfz24_5, hfz24_6, hfz24_7, hfz24_8, hfz24_9, hfz24_10, hfz24_11, hfz24_12⟩ := cz13 BK101.out
                  go_wp2
                  go_meet
                  case rel => exact ⟨_, (true), eqs, H', ⟨by have := HJ5.out; first | omega | exact Nat.le_refl _⟩, ⟨bw BK101.out⟩, ⟨bel⟩⟩
                · rw [if_neg c23] at H
                  have c23b0 := decide_eq_false c23
                  clear c23
                  have H' := Aside0.mk H
                  clear H
                  obtain ⟨hcz25_0, hcz25_1, hcz25_2, hcz25_3, hcz25_4, hcz25_5, hcz25_6, hcz25_7, hcz25_8, hcz25_9, hcz25_10, hcz25_11, hcz25_12, hfz25_0, hfz25_1, hfz25_2, hfz25_3, hfz25_4, hfz25_5, hfz25_6, hfz25_7, hfz25_8, hfz25_9, hfz25_10, hfz25_11, hfz25_12⟩ := cz13 BK101.out
                  go_wp2
                  go_meet
                  case rel => exact ⟨_, (decide (a0_2 > 86399)), eqs, H', ⟨by have := HJ5.out; first | omega | exact Nat.le_refl _⟩, ⟨bw BK101.out⟩, ⟨bel⟩⟩
          case rest =>
            clear HC18
            try clear c1
            try clear c2
            try clear p2
            try clear c3
            try clear c5
            try clear c5b0
            try clear c5b1
            try clear c10
            try clear c10b0
            try clear c12
            try clear c12b0
            try clear c17
            try clear c19
            try clear c19b0
            try clear c21
            try clear c21b0
            try clear c23
            try clear c23b0
            try clear hcz11_0 hcz11_1 hcz11_10 hcz11_11 hcz11_12 hcz11_2 hcz11_3 hcz11_4 hcz11_5 hcz11_6 hcz11_7 hcz11_8 hcz11_9
            try clear hcz13_0 hcz13_1 hcz13_10 hcz13_11 hcz13_12 hcz13_2 hcz13_3 hcz13_4 hcz13_5 hcz13_6 hcz13_7 hcz13_8 hcz13_9
            try clear hcz15_0 hcz15_1 hcz15_10 hcz15_11 hcz15_12 hcz15_2 hcz15_3 hcz15_4 hcz15_5 hcz15_6 hcz15_7 hcz15_8 hcz15_9
            try clear hcz20_0 hcz20_1 hcz20_10 hcz20_11 hcz20_12 hcz20_2 hcz20_3 hcz20_4 hcz20_5 hcz20_6 hcz20_7 hcz20_8 hcz20_9
            try clear hcz22_0 hcz22_1 hcz22_10 hcz22_11 hcz22_12 hcz22_2 hcz22_3 hcz22_4 hcz22_5 hcz22_6 hcz22_7 hcz22_8 hcz22_9
            try clear hcz24_0 hcz24_1 hcz24_10 hcz24_11 hcz24_12 hcz24_2 hcz24_3 hcz24_4 hcz24_5 hcz24_6 hcz24_7 hcz24_8 hcz24_9
            try clear hcz25_0 hcz25_1 hcz25_10 hcz25_11 hcz25_12 hcz25_2 hcz25_3 hcz25_4 hcz25_5 hcz25_6 hcz25_7 hcz25_8 hcz25_9
            try clear hcz8_0 hcz8_1 hcz8_10 hcz8_11 hcz8_12 hcz8_2 hcz8_3 hcz8_4 hcz8_5 hcz8_6 hcz8_7 hcz8_8 hcz8_9
            try clear hfz11_0 hfz11_1 hfz11_10 hfz11_11 hfz11_12 hfz11_2 hfz11_3 hfz11_4 hfz11_5 hfz11_6 hfz11_7 hfz11_8 hfz11_9
            try clear hfz13_0 hfz13_1 hfz13_10 hfz13_11 hfz13_12 hfz13_2 hfz13_3 hfz13_4 hfz13_5 hfz13_6 hfz13_7 hfz13_8 hfz13_9
            try clear hfz15_0 hfz15_1 hfz15_10 hfz15_11 hfz15_12 hfz15_2 hfz15_3 hfz15_4 hfz15_5 hfz15_6 hfz15_7 hfz15_8 hfz15_9
            try clear hfz20_0 hfz20_1 hfz20_10 hfz20_11 hfz20_12 hfz20_2 hfz20_3 hfz20_4 hfz20_5 hfz20_6 hfz20_7 hfz20_8 hfz20_9
            try clear hfz22_0 hfz22_1 hfz22_10 hfz22_11 hfz22_12 hfz22_2 hfz22_3 hfz22_4 hfz22_5 hfz22_6 hfz22_7 hfz22_8 hfz22_9
            try clear hfz24_0 hfz24_1 hfz24_10 hfz24_11 hfz24_12 hfz24_2 hfz24_3 hfz24_4 hfz24_5 hfz24_6 hfz24_7 hfz24_8 hfz24_9
            try clear hfz25_0 hfz25_1 hfz25_10 hfz25_11 hfz25_12 hfz25_2 hfz25_3 hfz25_4 hfz25_5 hfz25_6 hfz25_7 hfz25_8 hfz25_9
            try clear hfz8_0 hfz8_1 hfz8_10 hfz8_11 hfz8_12 hfz8_2 hfz8_3 hfz8_4 hfz8_5 hfz8_6 hfz8_7 hfz8_8 hfz8_9
            try clear p2
            obtain ⟨kq, x39_17, rfl, HA, HJ17, BK101, HB⟩ := hcut
            cases kq with
            | zero => exact absurd HA.out (by simp [trade_Check.j1])
            | succ kj17 =>
              have H := HA.out
              clear HA
              simp only [trade_Check.j1] at H
              by_cases c26 : x39_17 = true
              · subst c26
                rw [if_pos rfl] at H
                obtain rfl := Option.some.inj H
                go_wp2
                go_ret
                exact ⟨ers, bel⟩
              · replace c26 := Bool.eq_false_iff.mpr c26
                subst c26
                rw [if_neg (show ¬ (false = true) by decide)] at H
                by_cases c27 : a0_7 < 1
                · rw [if_pos c27] at H
                  have c27b0 := decide_eq_true c27
                  clear c27
                  obtain rfl := Option.some.inj H
                  obtain ⟨hcz28_0, hcz28_1, hcz28_2, hcz28_3, hcz28_4, hcz28_5, hcz28_6, hcz28_7, hcz28_8, hcz28_9, hcz28_10, hcz28_11, hcz28_12, hfz28_0, hfz28_1, hfz28_2, hfz28_3, hfz28_4, hfz28_5, hfz28_6, hfz28_7, hfz28_8, hfz28_9, hfz28_10, hfz28_11, hfz28_12⟩ := cz13 BK101.out
                  go_wp2
                  go_ret
                  exact ⟨ers, bel⟩
                · rw [if_neg c27] at H
                  have c27b0 := decide_eq_false c27
                  clear c27
                  by_cases c29 : a0_7 > 1048576
                  · rw [if_pos c29] at H
                    have c29b0 : decide (1048576 < a0_7) = true := decide_eq_true c29
                    clear c29
                    obtain rfl := Option.some.inj H
                    obtain ⟨hcz30_0, hcz30_1, hcz30_2, hcz30_3, hcz30_4, hcz30_5, hcz30_6, hcz30_7, hcz30_8, hcz30_9, hcz30_10, hcz30_11, hcz30_12, hfz30_0, hfz30_1, hfz30_2, hfz30_3, hfz30_4, hfz30_5, hfz30_6, hfz30_7, hfz30_8, hfz30_9, hfz30_10, hfz30_11, hfz30_12⟩ := cz13 BK101.out
                    go_wp2
                    go_ret
                    exact ⟨ers, bel⟩
                  · rw [if_neg c29] at H
                    have c29b0 : decide (1048576 < a0_7) = false := decide_eq_false c29
                    clear c29
                    replace H := bnd H
                    obtain ⟨⟨t104, t105, t106, t107, t108, t109, t110, t111⟩, A310, H⟩ := H
                    replace H : ((product_Price.f kj17 t104 t105 t106 t107 t108 t109 t110 a0_8).bind fun t113 => (if t113 = 0 then ((member_Check.f kj17 l2).bind fun t114 => (if t114 = 0 then ((some (([(⟨a0_9, a0_10⟩ : S25), (⟨a0_11, a0_12⟩ : S25)] : List (S25)) : List (S25))).bind fun y115 => (trade_Check.l0 kj17 l2 y115 (y115.length : Int) 0 a0_0 a0_1 a0_2 a0_3 a0_4 a0_5 a0_6 a0_7 a0_8 a0_9 a0_10 a0_11 a0_12)) else (some t114))) else (some t113))) = some r := H
                    have A31 := Aside0.mk A310
                    clear A310
                    replace H := bnd H
                    obtain ⟨t113, A320, H⟩ := H
                    have A32 := Aside0.mk A320
                    clear A320
                    by_cases c33 : t113 = 0
                    · rw [if_pos c33] at H
                      have c33b0 : (t113 == 0) = true := beq_iff_eq.mpr c33
                      have c33b1 : (t113 != 0) = false := bne_eq_false_iff_eq.mpr c33
                      clear c33
                      replace H := bnd H
                      obtain ⟨t114, A340, H⟩ := H
                      have A34 := Aside0.mk A340
                      clear A340
                      by_cases c35 : t114 = 0
                      · rw [if_pos c35] at H
                        have c35b0 : (t114 == 0) = true := beq_iff_eq.mpr c35
                        have c35b1 : (t114 != 0) = false := bne_eq_false_iff_eq.mpr c35
                        clear c35
                        obtain ⟨y115, hy115⟩ : ∃ y_ : List (S25), y_ = (([(⟨a0_9, a0_10⟩ : S25), (⟨a0_11, a0_12⟩ : S25)] : List (S25))) := ⟨_, rfl⟩
                        replace H : (trade_Check.l0 kj17 l2 y115 (y115.length : Int) 0 a0_0 a0_1 a0_2 a0_3 a0_4 a0_5 a0_6 a0_7 a0_8 a0_9 a0_10 a0_11 a0_12) = some r := by first | (rw [hy115]; with_reducible exact H) | (have H2_ := (Option.bind_some _ _).symm.trans H; rw [hy115]; with_reducible exact H2_) | (have H2_ := (Option.bind_some _ _).symm.trans H; with_reducible exact H2_) | with_reducible exact H | (rw [hy115]; exact H) | exact H
                        have Ny115 := Aside0.mk hy115
                        clear hy115
                        have H' := Aside0.mk H
                        clear H
                        obtain ⟨hcz36_0, hcz36_1, hcz36_2, hcz36_3, hcz36_4, hcz36_5, hcz36_6, hcz36_7, hcz36_8, hcz36_9, hcz36_10, hcz36_11, hcz36_12, hfz36_0, hfz36_1, hfz36_2, hfz36_3, hfz36_4, hfz36_5, hfz36_6, hfz36_7, hfz36_8, hfz36_9, hfz36_10, hfz36_11, hfz36_12⟩ := cz13 BK101.out
                        go_wp2_with (first | ((with_reducible refine gate_callee (f := 33) rfl ?_); refine goesL_ (some 72) rfl rfl Tryz.func33 (by kernel_rfl) rfl #[.slice A1 l1.length c1, .string a0_3] rfl arg ?_; (with_reducible refine (product_Find.calls _ _ l1 a0_3 t104 t105 t106 t107 t108 t109 t110 t111 _ ?side1 ?side2 A31.out).mono ?_); (case side1 => repeat (first | exact (Kd.C_below HR1.out HB.out) | (with_reducible refine Kd.C_alloc ?_ _) | (with_reducible refine Kd.C_drewN ?_ _) | (with_reducible refine Kd.C_drew ?_))); (case side2 => exact HC1.out); rintro e w37 ⟨rfl, hb⟩; refine ⟨_, rfl, ?_⟩; replace BK101 := Aside0.mk (blk_below (g := gb101) (bw BK101.out) hb); replace HB := Aside0.mk (below_step bel hb); (try clear hb); (try clear hb2); (try clear hk); (try clear hi)) | ((with_reducible refine gate_dst (N := 8) rfl ?_); refine box_event ?hg (N := 8) ?hd (cs := #[.string (⟨#[]⟩ : ByteArray), .int .i64 0, .int .i64 0, .int .i64 0, .int .i64 0, .int .i64 0, .bool false]) (t := 69) ?hr ?_; (case hd => rfl); (case hg => rfl); (case hr => first | (go_simp; done) | (go_simp; rfl)); intro gb112 hg w38 hbox hb; have BK112 := Aside0.mk (hbox); have GW112 := Aside0.mk ((gsz hg : w.heap.size ≤ gb112)); have GE112 := Aside0.mk ((gsz hg : w.heap.size ≤ gb112)); have NB101_112 := Aside0.mk ((nlt hg (bw BK101.out) : gb101 ≠ gb112)); have NB112_101 := Aside0.mk ((ngt hg (bw BK101.out) : gb112 ≠ gb101)); replace BK101 := Aside0.mk (blk_below (g := gb101) (bw BK101.out) hb); replace HB := Aside0.mk (below_step bel hb); clear hb hbox hg; have hnb39 := NB112_101.out; have hnc39 := NB101_112.out; obtain ⟨hcz40_0, hcz40_1, hcz40_2, hcz40_3, hcz40_4, hcz40_5, hcz40_6, hfz40_0, hfz40_1, hfz40_2, hfz40_3, hfz40_4, hfz40_5, hfz40_6⟩ := cz7 BK112.out; obtain ⟨hcz41_0, hcz41_1, hcz41_2, hcz41_3, hcz41_4, hcz41_5, hcz41_6, hcz41_7, hcz41_8, hcz41_9, hcz41_10, hcz41_11, hcz41_12, hfz41_0, hfz41_1, hfz41_2, hfz41_3, hfz41_4, hfz41_5, hfz41_6, hfz41_7, hfz41_8, hfz41_9, hfz41_10, hfz41_11, hfz41_12⟩ := cz13 BK101.out) | ((with_reducible refine gate_callee (f := 34) rfl ?_); refine goesL_ (some 78) rfl rfl Tryz.func34 (by kernel_rfl) rfl #[.agg #[.string t104, .int .i64 t105, .int .i64 t106, .int .i64 t107, .int .i64 t108, .int .i64 t109, .bool t110], .int .i64 a0_8] rfl arg ?_; (with_reducible refine (product_Price.calls kj17 t104 t105 t106 t107 t108 t109 t110 a0_8 t113 _ A32.out).mono ?_); rintro e w42 ⟨rfl, hb⟩; refine ⟨_, rfl, ?_⟩; replace BK101 := Aside0.mk (blk_below (g := gb101) (o := .cells #[.int .i64 a0_0, .int .i64 a0_1, .int .i64 a0_2, .string a0_3, .int .i64 a0_4, .int .i64 a0_5, .int .i64 a0_6, .int .i64 a0_7, .int .i64 a0_8, .string a0_9, .string a0_10, .string a0_11, .string a0_12] 27 (0, 0)) (bs BK101.out) hb); replace BK112 := Aside0.mk (blk_below (g := gb112) (o := .cells #[.string t104, .int .i64 t105, .int .i64 t106, .int .i64 t107, .int .i64 t108, .int .i64 t109, .bool t110] 69 (0, 0)) (bs BK112.out) hb); replace HB := Aside0.mk (below_step bel hb); (try clear hb); (try clear hb2); (try clear hk); (try clear hi)) | ((with_reducible refine gate_callee (f := 35) rfl ?_); refine goesL_ (some 83) rfl rfl Tryz.func35 (by kernel_rfl) rfl #[.slice A2 l2.length c2] rfl arg ?_; (with_reducible refine (member_Check.calls kj17 _ _ l2 t114 _ ?side1 ?side2 A34.out).mono ?_); (case side1 => repeat (first | exact (Kd.C_below HR2.out HB.out) | (with_reducible refine Kd.C_alloc ?_ _) | (with_reducible refine Kd.C_drewN ?_ _) | (with_reducible refine Kd.C_drew ?_))); (case side2 => exact HC2.out); rintro e w43 ⟨rfl, hb⟩; refine ⟨_, rfl, ?_⟩; replace BK101 := Aside0.mk (blk_below (g := gb101) (bw BK101.out) hb); replace BK112 := Aside0.mk (blk_below (g := gb112) (bw BK112.out) hb); replace HB := Aside0.mk (below_step bel hb); (try clear hb); (try clear hb2); (try clear hk); (try clear hi); obtain ⟨hcz44_0, hcz44_1, hcz44_2, hcz44_3, hcz44_4, hcz44_5, hcz44_6, hcz44_7, hcz44_8, hcz44_9, hcz44_10, hcz44_11, hcz44_12, hfz44_0, hfz44_1, hfz44_2, hfz44_3, hfz44_4, hfz44_5, hfz44_6, hfz44_7, hfz44_8, hfz44_9, hfz44_10, hfz44_11, hfz44_12⟩ := cz13 BK101.out) | ((with_reducible refine gate_dst (N := 91) rfl ?_); refine Kd.R_lit k25 _ 25 ?hg (N := 91) ?hd (xs := ([(⟨a0_9, a0_10⟩ : S25), (⟨a0_11, a0_12⟩ : S25)] : List (S25))) (inner := [.string a0_9, .string a0_10, .string a0_11, .string a0_12]) (ok := fun _ => True) (okp := fun _ => True) ?hr ?hp (fun _ hk => hk) trivial (Below.refl _ _) (Nat.le_refl _) (by simp) ?_; (case hd => rfl); (case hg => rfl); (case hr => first | (go_simp; done) | (go_simp; rfl)); (case hp => exact (Reps.c2 (show Kd.M k25 _ _ _ (⟨a0_9, a0_10⟩ : S25) [.string a0_9, .string a0_10] from (k25_mkM _ _ _ (⟨a0_9, a0_10⟩ : S25) )) (Reps.c2 (show Kd.M k25 _ _ _ (⟨a0_11, a0_12⟩ : S25) [.string a0_11, .string a0_12] from (k25_mkM _ _ _ (⟨a0_11, a0_12⟩ : S25) )) (Reps.none _ _)))); intro v116 w45 ho46 hb hg_ hnew_; clear hg_ hnew_; (first | rw [← Ny115.out] at ho46 | (simp only [Int.reduceToNat] at ho46; rw [← Ny115.out] at ho46)); have HO117 := Aside0.mk (Kd.R_lower ho46 (below_size bel)); replace BK101 := Aside0.mk (blk_below (g := gb101) (bw BK101.out) hb); replace BK112 := Aside0.mk (blk_below (g := gb112) (bw BK112.out) hb); replace HB := Aside0.mk (below_step bel hb); clear hb ho46; obtain ⟨Ao47, co47, eo47⟩ := Kd.R_slice HO117.out; subst eo47))
                        go_loopg [93] kj17 (fun kq v93 w' => ∃ (x93_3 : Int), v93 = .int .i64 x93_3 ∧ Aside0 (trade_Check.l0 kq l2 y115 (y115.length : Int) x93_3 a0_0 a0_1 a0_2 a0_3 a0_4 a0_5 a0_6 a0_7 a0_8 a0_9 a0_10 a0_11 a0_12 = some r) ∧ Aside0 (kq ≤ kj17) ∧ Aside0 (Kd.R k25 25 w' w.heap.size (fun _ => True) (.slice Ao47 y115.length co47) y115) ∧ Aside0 (w'.heap[gb101]? = some (.cells #[.int .i64 a0_0, .int .i64 a0_1, .int .i64 a0_2, .string a0_3, .int .i64 a0_4, .int .i64 a0_5, .int .i64 a0_6, .int .i64 a0_7, .int .i64 a0_8, .string a0_9, .string a0_10, .string a0_11, .string a0_12] 27 (0, 0))) ∧ Aside0 (w'.heap[gb112]? = some (.cells #[.string t104, .int .i64 t105, .int .i64 t106, .int .i64 t107, .int .i64 t108, .int .i64 t109, .bool t110] 69 (0, 0))) ∧ Aside0 (Below w.heap.size w w'))
                        case atStart => exact ⟨(0), eqs, H', ⟨Nat.le_refl _⟩, ⟨kr HO117.out⟩, ⟨bw BK101.out⟩, ⟨bw BK112.out⟩, ⟨bel⟩⟩
                        case round =>
                          clear H'
                          try clear c1
                          try clear c2
                          try clear p2
                          try clear c3
                          try clear c5
                          try clear c5b0
                          try clear c5b1
                          try clear c10
                          try clear c10b0
                          try clear c12
                          try clear c12b0
                          try clear c17
                          try clear c19
                          try clear c19b0
                          try clear c21
                          try clear c21b0
                          try clear c23
                          try clear c23b0
                          try clear c26
                          try clear c27
                          try clear c27b0
                          try clear c29
                          try clear c29b0
                          try clear c33
                          try clear c33b0
                          try clear c33b1
                          try clear c34
                          try clear c35
                          try clear c35b0
                          try clear c35b1
                          try clear c39
                          try clear hcz11_0 hcz11_1 hcz11_10 hcz11_11 hcz11_12 hcz11_2 hcz11_3 hcz11_4 hcz11_5 hcz11_6 hcz11_7 hcz11_8 hcz11_9
                          try clear hcz13_0 hcz13_1 hcz13_10 hcz13_11 hcz13_12 hcz13_2 hcz13_3 hcz13_4 hcz13_5 hcz13_6 hcz13_7 hcz13_8 hcz13_9
                          try clear hcz15_0 hcz15_1 hcz15_10 hcz15_11 hcz15_12 hcz15_2 hcz15_3 hcz15_4 hcz15_5 hcz15_6 hcz15_7 hcz15_8 hcz15_9
                          try clear hcz20_0 hcz20_1 hcz20_10 hcz20_11 hcz20_12 hcz20_2 hcz20_3 hcz20_4 hcz20_5 hcz20_6 hcz20_7 hcz20_8 hcz20_9
                          try clear hcz22_0 hcz22_1 hcz22_10 hcz22_11 hcz22_12 hcz22_2 hcz22_3 hcz22_4 hcz22_5 hcz22_6 hcz22_7 hcz22_8 hcz22_9
                          try clear hcz24_0 hcz24_1 hcz24_10 hcz24_11 hcz24_12 hcz24_2 hcz24_3 hcz24_4 hcz24_5 hcz24_6 hcz24_7 hcz24_8 hcz24_9
                          try clear hcz25_0 hcz25_1 hcz25_10 hcz25_11 hcz25_12 hcz25_2 hcz25_3 hcz25_4 hcz25_5 hcz25_6 hcz25_7 hcz25_8 hcz25_9
                          try clear hcz28_0 hcz28_1 hcz28_10 hcz28_11 hcz28_12 hcz28_2 hcz28_3 hcz28_4 hcz28_5 hcz28_6 hcz28_7 hcz28_8 hcz28_9
                          try clear hcz30_0 hcz30_1 hcz30_10 hcz30_11 hcz30_12 hcz30_2 hcz30_3 hcz30_4 hcz30_5 hcz30_6 hcz30_7 hcz30_8 hcz30_9
                          try clear hcz36_0 hcz36_1 hcz36_10 hcz36_11 hcz36_12 hcz36_2 hcz36_3 hcz36_4 hcz36_5 hcz36_6 hcz36_7 hcz36_8 hcz36_9
                          try clear hcz40_0 hcz40_1 hcz40_2 hcz40_3 hcz40_4 hcz40_5 hcz40_6
                          try clear hcz41_0 hcz41_1 hcz41_10 hcz41_11 hcz41_12 hcz41_2 hcz41_3 hcz41_4 hcz41_5 hcz41_6 hcz41_7 hcz41_8 hcz41_9
                          try clear hcz44_0 hcz44_1 hcz44_10 hcz44_11 hcz44_12 hcz44_2 hcz44_3 hcz44_4 hcz44_5 hcz44_6 hcz44_7 hcz44_8 hcz44_9
                          try clear hcz8_0 hcz8_1 hcz8_10 hcz8_11 hcz8_12 hcz8_2 hcz8_3 hcz8_4 hcz8_5 hcz8_6 hcz8_7 hcz8_8 hcz8_9
                          try clear hfz11_0 hfz11_1 hfz11_10 hfz11_11 hfz11_12 hfz11_2 hfz11_3 hfz11_4 hfz11_5 hfz11_6 hfz11_7 hfz11_8 hfz11_9
                          try clear hfz13_0 hfz13_1 hfz13_10 hfz13_11 hfz13_12 hfz13_2 hfz13_3 hfz13_4 hfz13_5 hfz13_6 hfz13_7 hfz13_8 hfz13_9
                          try clear hfz15_0 hfz15_1 hfz15_10 hfz15_11 hfz15_12 hfz15_2 hfz15_3 hfz15_4 hfz15_5 hfz15_6 hfz15_7 hfz15_8 hfz15_9
                          try clear hfz20_0 hfz20_1 hfz20_10 hfz20_11 hfz20_12 hfz20_2 hfz20_3 hfz20_4 hfz20_5 hfz20_6 hfz20_7 hfz20_8 hfz20_9
                          try clear hfz22_0 hfz22_1 hfz22_10 hfz22_11 hfz22_12 hfz22_2 hfz22_3 hfz22_4 hfz22_5 hfz22_6 hfz22_7 hfz22_8 hfz22_9
                          try clear hfz24_0 hfz24_1 hfz24_10 hfz24_11 hfz24_12 hfz24_2 hfz24_3 hfz24_4 hfz24_5 hfz24_6 hfz24_7 hfz24_8 hfz24_9
                          try clear hfz25_0 hfz25_1 hfz25_10 hfz25_11 hfz25_12 hfz25_2 hfz25_3 hfz25_4 hfz25_5 hfz25_6 hfz25_7 hfz25_8 hfz25_9
                          try clear hfz28_0 hfz28_1 hfz28_10 hfz28_11 hfz28_12 hfz28_2 hfz28_3 hfz28_4 hfz28_5 hfz28_6 hfz28_7 hfz28_8 hfz28_9
                          try clear hfz30_0 hfz30_1 hfz30_10 hfz30_11 hfz30_12 hfz30_2 hfz30_3 hfz30_4 hfz30_5 hfz30_6 hfz30_7 hfz30_8 hfz30_9
                          try clear hfz36_0 hfz36_1 hfz36_10 hfz36_11 hfz36_12 hfz36_2 hfz36_3 hfz36_4 hfz36_5 hfz36_6 hfz36_7 hfz36_8 hfz36_9
                          try clear hfz40_0 hfz40_1 hfz40_2 hfz40_3 hfz40_4 hfz40_5 hfz40_6
                          try clear hfz41_0 hfz41_1 hfz41_10 hfz41_11 hfz41_12 hfz41_2 hfz41_3 hfz41_4 hfz41_5 hfz41_6 hfz41_7 hfz41_8 hfz41_9
                          try clear hfz44_0 hfz44_1 hfz44_10 hfz44_11 hfz44_12 hfz44_2 hfz44_3 hfz44_4 hfz44_5 hfz44_6 hfz44_7 hfz44_8 hfz44_9
                          try clear hfz8_0 hfz8_1 hfz8_10 hfz8_11 hfz8_12 hfz8_2 hfz8_3 hfz8_4 hfz8_5 hfz8_6 hfz8_7 hfz8_8 hfz8_9
                          try clear p2
                          obtain ⟨x93_3, rfl, HA, HK3, HO_91, BK101, BK112, HB⟩ := hrel
                          cases gk with
                          | zero => exact absurd HA.out (by simp [trade_Check.l0])
                          | succ k3 =>
                            have H := HA.out
                            clear HA
                            simp only [trade_Check.l0] at H
                            by_cases c48 : x93_3 < (y115.length : Int)
                            · rw [if_pos c48] at H
                              have c48b0 := decide_eq_true c48
                              clear c48
                              by_cases c49 : 0 ≤ x93_3
                              · rw [if_pos c49] at H
                                have c49b0 := decide_eq_true c49
                                clear c49
                                by_cases c50 : x93_3 < (y115.length : Int)
                                · rw [if_pos c50] at H
                                  have c50b0 := decide_eq_true c50
                                  clear c50
                                  replace H := bnd H
                                  obtain ⟨t120, A510, H⟩ := H
                                  have A51 := Aside0.mk A510
                                  clear A510
                                  have p118 : 0 ≤ (x93_3 : Int) := dt
                                  have q118 : x93_3 < (y115.length : Int) := dt
                                  obtain ⟨ad118, e118, hx118_0, hx118_1⟩ := at_T25 (Kd.R_reads' HO_91.out).2.2 x93_3 p118 q118
                                  cases e118
                                  replace p118 := eq_true p118
                                  replace q118 := eq_true q118
                                  go_wp2_with (first | ((with_reducible refine gate_dst (N := 13) rfl ?_); refine box_event ?hg (N := 13) ?hd (cs := #[.string (⟨#[]⟩ : ByteArray), .string (⟨#[]⟩ : ByteArray)]) (t := 25) ?hr ?_; (case hd => rfl); (case hg => rfl); (case hr => first | (go_simp; done) | (go_simp; rfl)); intro gb119 hg w53 hbox hb; replace HO_91 := Aside0.mk (Kd.R_below (Kd.R_elderB (kr HO_91.out) gb119 (Nat.le_of_eq hg.symm)) hb); have BK119 := Aside0.mk (hbox); have GW119 := Aside0.mk ((gsz hg : w.heap.size ≤ gb119)); have GE119 := Aside0.mk ((gsz hg : w.heap.size ≤ gb119)); have NB101_119 := Aside0.mk ((nlt hg (bw BK101.out) : gb101 ≠ gb119)); have NB119_101 := Aside0.mk ((ngt hg (bw BK101.out) : gb119 ≠ gb101)); replace BK101 := Aside0.mk (blk_below (g := gb101) (bw BK101.out) hb); have NB112_119 := Aside0.mk ((nlt hg (bw BK112.out) : gb112 ≠ gb119)); have NB119_112 := Aside0.mk ((ngt hg (bw BK112.out) : gb119 ≠ gb112)); replace BK112 := Aside0.mk (blk_below (g := gb112) (bw BK112.out) hb); replace HB := Aside0.mk (below_step bel hb); clear hb hbox hg; have hnb54 := NB119_101.out; have hnc54 := NB101_119.out; have hnb55 := NB119_112.out; have hnc55 := NB112_119.out; obtain ⟨hcz56_0, hcz56_1, hfz56_0, hfz56_1⟩ := cz2 BK119.out) | ((with_reducible refine gate_callee (f := 36) rfl ?_); refine Aside0.out ?_))
                                  by_cases c52 : t120 = 0
                                  · rw [if_pos c52] at H
                                    have c52b0 : (t120 == 0) = true := beq_iff_eq.mpr c52
                                    have c52b1 : (t120 != 0) = false := bne_eq_false_iff_eq.mpr c52
                                    clear c52
                                    have H' := Aside0.mk H
                                    clear H
                                    refine Aside0.mk ?_
                                    (refine goesL_ (some 99) rfl rfl Tryz.func36 (by kernel_rfl) rfl #[.slice A2 l2.length c2, .agg #[.string ((rd_T25 y115 x93_3).f0), .string ((rd_T25 y115 x93_3).f1)], .int .i64 1] rfl arg ?_; (with_reducible refine (member_May.calls k3 _ _ l2 ((rd_T25 y115 x93_3).f0) ((rd_T25 y115 x93_3).f1) 1 t120 _ ?side1 ?side2 A51.out).mono ?_); (case side1 => exact Kd.C_below HR2.out bel); (case side2 => exact HC2.out); rintro e w57 ⟨rfl, hb⟩; refine ⟨_, rfl, ?_⟩; replace HO_91 := Aside0.mk (Kd.R_below (by (with_reducible repeat (first | apply Kd.R_alloc | apply Kd.R_drewN | apply Kd.R_drew)); exact (Kd.R_mono (Kd.R_far (p := ⟨gb119, 1, none⟩) (Kd.R_far (p := ⟨gb119, 0, none⟩) (Kd.R_mono HO_91.out (fun k_ hk => (⟨hk, hk.2⟩ : _ ∧ k_ ≠ gb119))) (fun _ hk => hk.2) (.string ((rd_T25 y115 x93_3).f0))) (fun _ hk => hk.2) (.string ((rd_T25 y115 x93_3).f1))) (fun _ h_ => h_.1))) hb); replace BK101 := Aside0.mk (blk_below (g := gb101) (o := .cells #[.int .i64 a0_0, .int .i64 a0_1, .int .i64 a0_2, .string a0_3, .int .i64 a0_4, .int .i64 a0_5, .int .i64 a0_6, .int .i64 a0_7, .int .i64 a0_8, .string a0_9, .string a0_10, .string a0_11, .string a0_12] 27 (0, 0)) (bs BK101.out) hb); replace BK112 := Aside0.mk (blk_below (g := gb112) (o := .cells #[.string t104, .int .i64 t105, .int .i64 t106, .int .i64 t107, .int .i64 t108, .int .i64 t109, .bool t110] 69 (0, 0)) (bs BK112.out) hb); replace BK119 := Aside0.mk (blk_below (g := gb119) (o := .cells #[.string ((rd_T25 y115 x93_3).f0), .string ((rd_T25 y115 x93_3).f1)] 25 (0, 0)) (bs BK119.out) hb); replace HB := Aside0.mk (below_step bel hb); (try clear hb); (try clear hb2); (try clear hk); (try clear hi))
                                    go_wp2_with (fail)
                                    go_roundg k3
                                    case measure => have := HJ5.out; have := HJ17.out; have := HK3.out; omega
                                    case rel => exact ⟨(wrap64 (x93_3 + 1)), eqs, H', ⟨by have := HJ5.out; have := HJ17.out; have := HK3.out; omega⟩, ⟨by (with_reducible repeat (first | apply Kd.R_alloc | apply Kd.R_drewN | apply Kd.R_drew)); exact Kd.R_mono HO_91.out (fun _ hk => trivial)⟩, ⟨bw BK101.out⟩, ⟨bw BK112.out⟩, ⟨bel⟩⟩
                                  · rw [if_neg c52] at H
                                    have c52b0 : (t120 == 0) = false := beq_eq_false_iff_ne.mpr c52
                                    have c52b1 : (t120 != 0) = true := bne_iff_ne.mpr c52
                                    obtain rfl := Option.some.inj H
                                    refine Aside0.mk ?_
                                    (refine goesL_ (some 99) rfl rfl Tryz.func36 (by kernel_rfl) rfl #[.slice A2 l2.length c2, .agg #[.string ((rd_T25 y115 x93_3).f0), .string ((rd_T25 y115 x93_3).f1)], .int .i64 1] rfl arg ?_; (with_reducible refine (member_May.calls k3 _ _ l2 ((rd_T25 y115 x93_3).f0) ((rd_T25 y115 x93_3).f1) 1 t120 _ ?side1 ?side2 A51.out).mono ?_); (case side1 => exact Kd.C_below HR2.out bel); (case side2 => exact HC2.out); rintro e w62 ⟨rfl, hb⟩; refine ⟨_, rfl, ?_⟩; replace HO_91 := Aside0.mk (Kd.R_below (by (with_reducible repeat (first | apply Kd.R_alloc | apply Kd.R_drewN | apply Kd.R_drew)); exact (Kd.R_mono (Kd.R_far (p := ⟨gb119, 1, none⟩) (Kd.R_far (p := ⟨gb119, 0, none⟩) (Kd.R_mono HO_91.out (fun k_ hk => (⟨hk, hk.2⟩ : _ ∧ k_ ≠ gb119))) (fun _ hk => hk.2) (.string ((rd_T25 y115 x93_3).f0))) (fun _ hk => hk.2) (.string ((rd_T25 y115 x93_3).f1))) (fun _ h_ => h_.1))) hb); replace BK101 := Aside0.mk (blk_below (g := gb101) (o := .cells #[.int .i64 a0_0, .int .i64 a0_1, .int .i64 a0_2, .string a0_3, .int .i64 a0_4, .int .i64 a0_5, .int .i64 a0_6, .int .i64 a0_7, .int .i64 a0_8, .string a0_9, .string a0_10, .string a0_11, .string a0_12] 27 (0, 0)) (bs BK101.out) hb); replace BK112 := Aside0.mk (blk_below (g := gb112) (o := .cells #[.string t104, .int .i64 t105, .int .i64 t106, .int .i64 t107, .int .i64 t108, .int .i64 t109, .bool t110] 69 (0, 0)) (bs BK112.out) hb); replace BK119 := Aside0.mk (blk_below (g := gb119) (o := .cells #[.string ((rd_T25 y115 x93_3).f0), .string ((rd_T25 y115 x93_3).f1)] 25 (0, 0)) (bs BK119.out) hb); replace HB := Aside0.mk (below_step bel hb); (try clear hb); (try clear hb2); (try clear hk); (try clear hi))
                                    go_wp2_with (fail)
                                    go_ret
                                    exact ⟨ers, bel⟩
                                · rw [if_neg c50] at H
                                  exact absurd H (by simp)
                              · rw [if_neg c49] at H
                                exact absurd H (by simp)
                            · rw [if_neg c48] at H
                              have c48b0 := decide_eq_false c48
                              clear c48
                              by_cases c63 : (a0_9.toList == a0_11.toList && (a0_10.toList == a0_12.toList)) = true
                              · rw [if_pos c63] at H
                                have c63b0 : (a0_9.toList == a0_11.toList && (a0_10.toList == a0_12.toList)) = true := c63
                                (try (have c63b1 : decide (a0_9.toList = a0_11.toList && (a0_10.toList == a0_12.toList)) = true := by simpa using c63))
                                (try (have c63b2 : (a0_9.toList == a0_11.toList && (a0_10.toList == a0_12.toList)) = true := by simpa using c63))
                                clear c63
                                obtain rfl := Option.some.inj H
                                have hnb64 := NB101_112.out
                                have hnc64 := NB112_101.out
                                obtain ⟨hcz65_0, hcz65_1, hcz65_2, hcz65_3, hcz65_4, hcz65_5, hcz65_6, hcz65_7, hcz65_8, hcz65_9, hcz65_10, hcz65_11, hcz65_12, hfz65_0, hfz65_1, hfz65_2, hfz65_3, hfz65_4, hfz65_5, hfz65_6, hfz65_7, hfz65_8, hfz65_9, hfz65_10, hfz65_11, hfz65_12⟩ := cz13 BK101.out
                                go_wp2
                                go_ret
                                exact ⟨ers, bel⟩
                              · rw [if_neg c63] at H
                                have c63b0 : (a0_9.toList == a0_11.toList && (a0_10.toList == a0_12.toList)) = false := by simpa using c63
                                (try (have c63b1 : decide (a0_9.toList = a0_11.toList && (a0_10.toList == a0_12.toList)) = false := by simpa using c63))
                                (try (have c63b2 : (a0_9.toList == a0_11.toList && (a0_10.toList == a0_12.toList)) = false := by simpa using c63))
                                (try (have c63b3 : ¬ (a0_9.toList = a0_11.toList && (a0_10.toList == a0_12.toList)) := by simpa using c63))
                                clear c63
                                obtain rfl := Option.some.inj H
                                have hnb66 := NB101_112.out
                                have hnc66 := NB112_101.out
                                obtain ⟨hcz67_0, hcz67_1, hcz67_2, hcz67_3, hcz67_4, hcz67_5, hcz67_6, hcz67_7, hcz67_8, hcz67_9, hcz67_10, hcz67_11, hcz67_12, hfz67_0, hfz67_1, hfz67_2, hfz67_3, hfz67_4, hfz67_5, hfz67_6, hfz67_7, hfz67_8, hfz67_9, hfz67_10, hfz67_11, hfz67_12⟩ := cz13 BK101.out
                                go_wp2
                                go_ret
                                exact ⟨ers, bel⟩
                      · rw [if_neg c35] at H
                        have c35b0 : (t114 == 0) = false := beq_eq_false_iff_ne.mpr c35
                        have c35b1 : (t114 != 0) = true := bne_iff_ne.mpr c35
                        obtain rfl := Option.some.inj H
                        obtain ⟨hcz68_0, hcz68_1, hcz68_2, hcz68_3, hcz68_4, hcz68_5, hcz68_6, hcz68_7, hcz68_8, hcz68_9, hcz68_10, hcz68_11, hcz68_12, hfz68_0, hfz68_1, hfz68_2, hfz68_3, hfz68_4, hfz68_5, hfz68_6, hfz68_7, hfz68_8, hfz68_9, hfz68_10, hfz68_11, hfz68_12⟩ := cz13 BK101.out
                        go_wp2_with (first | ((with_reducible refine gate_callee (f := 33) rfl ?_); refine goesL_ (some 72) rfl rfl Tryz.func33 (by kernel_rfl) rfl #[.slice A1 l1.length c1, .string a0_3] rfl arg ?_; (with_reducible refine (product_Find.calls _ _ l1 a0_3 t104 t105 t106 t107 t108 t109 t110 t111 _ ?side1 ?side2 A31.out).mono ?_); (case side1 => repeat (first | exact (Kd.C_below HR1.out HB.out) | (with_reducible refine Kd.C_alloc ?_ _) | (with_reducible refine Kd.C_drewN ?_ _) | (with_reducible refine Kd.C_drew ?_))); (case side2 => exact HC1.out); rintro e w69 ⟨rfl, hb⟩; refine ⟨_, rfl, ?_⟩; replace BK101 := Aside0.mk (blk_below (g := gb101) (bw BK101.out) hb); replace HB := Aside0.mk (below_step bel hb); (try clear hb); (try clear hb2); (try clear hk); (try clear hi)) | ((with_reducible refine gate_dst (N := 8) rfl ?_); refine box_event ?hg (N := 8) ?hd (cs := #[.string (⟨#[]⟩ : ByteArray), .int .i64 0, .int .i64 0, .int .i64 0, .int .i64 0, .int .i64 0, .bool false]) (t := 69) ?hr ?_; (case hd => rfl); (case hg => rfl); (case hr => first | (go_simp; done) | (go_simp; rfl)); intro gb112 hg w70 hbox hb; have BK112 := Aside0.mk (hbox); have GW112 := Aside0.mk ((gsz hg : w.heap.size ≤ gb112)); have GE112 := Aside0.mk ((gsz hg : w.heap.size ≤ gb112)); have NB101_112 := Aside0.mk ((nlt hg (bw BK101.out) : gb101 ≠ gb112)); have NB112_101 := Aside0.mk ((ngt hg (bw BK101.out) : gb112 ≠ gb101)); replace BK101 := Aside0.mk (blk_below (g := gb101) (bw BK101.out) hb); replace HB := Aside0.mk (below_step bel hb); clear hb hbox hg; have hnb71 := NB112_101.out; have hnc71 := NB101_112.out; obtain ⟨hcz72_0, hcz72_1, hcz72_2, hcz72_3, hcz72_4, hcz72_5, hcz72_6, hfz72_0, hfz72_1, hfz72_2, hfz72_3, hfz72_4, hfz72_5, hfz72_6⟩ := cz7 BK112.out; obtain ⟨hcz73_0, hcz73_1, hcz73_2, hcz73_3, hcz73_4, hcz73_5, hcz73_6, hcz73_7, hcz73_8, hcz73_9, hcz73_10, hcz73_11, hcz73_12, hfz73_0, hfz73_1, hfz73_2, hfz73_3, hfz73_4, hfz73_5, hfz73_6, hfz73_7, hfz73_8, hfz73_9, hfz73_10, hfz73_11, hfz73_12⟩ := cz13 BK101.out) | ((with_reducible refine gate_callee (f := 34) rfl ?_); refine goesL_ (some 78) rfl rfl Tryz.func34 (by kernel_rfl) rfl #[.agg #[.string t104, .int .i64 t105, .int .i64 t106, .int .i64 t107, .int .i64 t108, .int .i64 t109, .bool t110], .int .i64 a0_8] rfl arg ?_; (with_reducible refine (product_Price.calls kj17 t104 t105 t106 t107 t108 t109 t110 a0_8 t113 _ A32.out).mono ?_); rintro e w74 ⟨rfl, hb⟩; refine ⟨_, rfl, ?_⟩; replace BK101 := Aside0.mk (blk_below (g := gb101) (o := .cells #[.int .i64 a0_0, .int .i64 a0_1, .int .i64 a0_2, .string a0_3, .int .i64 a0_4, .int .i64 a0_5, .int .i64 a0_6, .int .i64 a0_7, .int .i64 a0_8, .string a0_9, .string a0_10, .string a0_11, .string a0_12] 27 (0, 0)) (bs BK101.out) hb); replace BK112 := Aside0.mk (blk_below (g := gb112) (o := .cells #[.string t104, .int .i64 t105, .int .i64 t106, .int .i64 t107, .int .i64 t108, .int .i64 t109, .bool t110] 69 (0, 0)) (bs BK112.out) hb); replace HB := Aside0.mk (below_step bel hb); (try clear hb); (try clear hb2); (try clear hk); (try clear hi)) | ((with_reducible refine gate_callee (f := 35) rfl ?_); refine goesL_ (some 83) rfl rfl Tryz.func35 (by kernel_rfl) rfl #[.slice A2 l2.length c2] rfl arg ?_; (with_reducible refine (member_Check.calls kj17 _ _ l2 t114 _ ?side1 ?side2 A34.out).mono ?_); (case side1 => repeat (first | exact (Kd.C_below HR2.out HB.out) | (with_reducible refine Kd.C_alloc ?_ _) | (with_reducible refine Kd.C_drewN ?_ _) | (with_reducible refine Kd.C_drew ?_))); (case side2 => exact HC2.out); rintro e w75 ⟨rfl, hb⟩; refine ⟨_, rfl, ?_⟩; replace BK101 := Aside0.mk (blk_below (g := gb101) (bw BK101.out) hb); replace BK112 := Aside0.mk (blk_below (g := gb112) (bw BK112.out) hb); replace HB := Aside0.mk (below_step bel hb); (try clear hb); (try clear hb2); (try clear hk); (try clear hi)))
                        go_ret
                        exact ⟨ers, bel⟩
                    · rw [if_neg c33] at H
                      have c33b0 : (t113 == 0) = false := beq_eq_false_iff_ne.mpr c33
                      have c33b1 : (t113 != 0) = true := bne_iff_ne.mpr c33
                      obtain rfl := Option.some.inj H
                      obtain ⟨hcz76_0, hcz76_1, hcz76_2, hcz76_3, hcz76_4, hcz76_5, hcz76_6, hcz76_7, hcz76_8, hcz76_9, hcz76_10, hcz76_11, hcz76_12, hfz76_0, hfz76_1, hfz76_2, hfz76_3, hfz76_4, hfz76_5, hfz76_6, hfz76_7, hfz76_8, hfz76_9, hfz76_10, hfz76_11, hfz76_12⟩ := cz13 BK101.out
                      go_wp2_with (first | ((with_reducible refine gate_callee (f := 33) rfl ?_); refine goesL_ (some 72) rfl rfl Tryz.func33 (by kernel_rfl) rfl #[.slice A1 l1.length c1, .string a0_3] rfl arg ?_; (with_reducible refine (product_Find.calls _ _ l1 a0_3 t104 t105 t106 t107 t108 t109 t110 t111 _ ?side1 ?side2 A31.out).mono ?_); (case side1 => repeat (first | exact (Kd.C_below HR1.out HB.out) | (with_reducible refine Kd.C_alloc ?_ _) | (with_reducible refine Kd.C_drewN ?_ _) | (with_reducible refine Kd.C_drew ?_))); (case side2 => exact HC1.out); rintro e w77 ⟨rfl, hb⟩; refine ⟨_, rfl, ?_⟩; replace BK101 := Aside0.mk (blk_below (g := gb101) (bw BK101.out) hb); replace HB := Aside0.mk (below_step bel hb); (try clear hb); (try clear hb2); (try clear hk); (try clear hi)) | ((with_reducible refine gate_dst (N := 8) rfl ?_); refine box_event ?hg (N := 8) ?hd (cs := #[.string (⟨#[]⟩ : ByteArray), .int .i64 0, .int .i64 0, .int .i64 0, .int .i64 0, .int .i64 0, .bool false]) (t := 69) ?hr ?_; (case hd => rfl); (case hg => rfl); (case hr => first | (go_simp; done) | (go_simp; rfl)); intro gb112 hg w78 hbox hb; have BK112 := Aside0.mk (hbox); have GW112 := Aside0.mk ((gsz hg : w.heap.size ≤ gb112)); have GE112 := Aside0.mk ((gsz hg : w.heap.size ≤ gb112)); have NB101_112 := Aside0.mk ((nlt hg (bw BK101.out) : gb101 ≠ gb112)); have NB112_101 := Aside0.mk ((ngt hg (bw BK101.out) : gb112 ≠ gb101)); replace BK101 := Aside0.mk (blk_below (g := gb101) (bw BK101.out) hb); replace HB := Aside0.mk (below_step bel hb); clear hb hbox hg; have hnb79 := NB112_101.out; have hnc79 := NB101_112.out; obtain ⟨hcz80_0, hcz80_1, hcz80_2, hcz80_3, hcz80_4, hcz80_5, hcz80_6, hfz80_0, hfz80_1, hfz80_2, hfz80_3, hfz80_4, hfz80_5, hfz80_6⟩ := cz7 BK112.out; obtain ⟨hcz81_0, hcz81_1, hcz81_2, hcz81_3, hcz81_4, hcz81_5, hcz81_6, hcz81_7, hcz81_8, hcz81_9, hcz81_10, hcz81_11, hcz81_12, hfz81_0, hfz81_1, hfz81_2, hfz81_3, hfz81_4, hfz81_5, hfz81_6, hfz81_7, hfz81_8, hfz81_9, hfz81_10, hfz81_11, hfz81_12⟩ := cz13 BK101.out) | ((with_reducible refine gate_callee (f := 34) rfl ?_); refine goesL_ (some 78) rfl rfl Tryz.func34 (by kernel_rfl) rfl #[.agg #[.string t104, .int .i64 t105, .int .i64 t106, .int .i64 t107, .int .i64 t108, .int .i64 t109, .bool t110], .int .i64 a0_8] rfl arg ?_; (with_reducible refine (product_Price.calls kj17 t104 t105 t106 t107 t108 t109 t110 a0_8 t113 _ A32.out).mono ?_); rintro e w82 ⟨rfl, hb⟩; refine ⟨_, rfl, ?_⟩; replace BK101 := Aside0.mk (blk_below (g := gb101) (o := .cells #[.int .i64 a0_0, .int .i64 a0_1, .int .i64 a0_2, .string a0_3, .int .i64 a0_4, .int .i64 a0_5, .int .i64 a0_6, .int .i64 a0_7, .int .i64 a0_8, .string a0_9, .string a0_10, .string a0_11, .string a0_12] 27 (0, 0)) (bs BK101.out) hb); replace BK112 := Aside0.mk (blk_below (g := gb112) (o := .cells #[.string t104, .int .i64 t105, .int .i64 t106, .int .i64 t107, .int .i64 t108, .int .i64 t109, .bool t110] 69 (0, 0)) (bs BK112.out) hb); replace HB := Aside0.mk (below_step bel hb); (try clear hb); (try clear hb2); (try clear hk); (try clear hi)))
                      go_ret
                      exact ⟨ers, bel⟩
  · rw [if_neg c5] at H
    have c5b0 : (t102 == 0) = false := beq_eq_false_iff_ne.mpr c5
    have c5b1 : (t102 != 0) = true := bne_iff_ne.mpr c5
    obtain rfl := Option.some.inj H
    refine Aside0.mk ?_
    (refine goesL_ (some 18) rfl rfl Tryz.func31 (by kernel_rfl) rfl #[.slice A1 l1.length c1, .agg #[.string a0_3, .int .i64 a0_4, .int .i64 a0_5, .int .i64 a0_6]] rfl arg ?_; (with_reducible refine (series_Check.calls k _ _ l1 a0_3 a0_4 a0_5 a0_6 t102 _ ?side1 ?side2 A4.out).mono ?_); (case side1 => repeat (first | exact (Kd.C_below HR1.out HB.out) | (with_reducible refine Kd.C_alloc ?_ _) | (with_reducible refine Kd.C_drewN ?_ _) | (with_reducible refine Kd.C_drew ?_))); (case side2 => exact HC1.out); rintro e w85 ⟨rfl, hb⟩; refine ⟨_, rfl, ?_⟩; replace BK101 := Aside0.mk (blk_below (g := gb101) (bw BK101.out) hb); replace HB := Aside0.mk (below_step bel hb); (try clear hb); (try clear hb2); (try clear hk); (try clear hi))
    go_wp2_with (fail)
    go_ret
    exact ⟨ers, bel⟩
end Go.Proofs.YthpmmofleddpnaaGreatDoor.X
end
section
namespace Go.Proofs.YthpmmofleddpnaaGreatDoor.X
open Go.RowKit Go.Proofs.YthpmmofleddpnaaGreatDoorW.PrintWords Go.Proofs.YthpmmofleddpnaaGreatDoorW.PrintLast Go.Proofs.YthpmmofleddpnaaGreatDoorW.PrintMore
attribute [local go_sem] max2_int min2_int max_two min_two max_three min_three max_four min_four
set_option linter.unusedVariables false
set_option linter.unusedSimpArgs false
attribute [local go_sem high] eqA25
def contangolaw12_TradeChecks.f (k : Nat) (a0_0 : Int) (a0_1 : Int) (a0_2 : Int) (a0_3 : ByteArray) (a0_4 : Int) (a0_5 : Int) (a0_6 : Int) (a0_7 : Int) (a0_8 : Int) (a0_9 : ByteArray) (a0_10 : ByteArray) (a0_11 : ByteArray) (a0_12 : ByteArray) (l1 : List (S69)) (l2 : List (S148)) : Option (Bool) := (trade_Check.f k a0_0 a0_1 a0_2 a0_3 a0_4 a0_5 a0_6 a0_7 a0_8 a0_9 a0_10 a0_11 a0_12 l1 l2).bind fun t102 => ((contangoref12_Check.f k a0_0 a0_1 a0_2 a0_3 a0_4 a0_5 a0_6 a0_7 a0_8 a0_9 a0_10 a0_11 a0_12 l1 l2).bind fun t103 => (if t102 = t103 then (if t102 = 0 then (if (!(a0_9.toList == a0_11.toList) || (!(a0_10.toList == a0_12.toList))) = true then (if a0_7 > 0 then ((contangolaw12_goes.f k).bind fun t104 => (some t104)) else (none)) else (none)) else ((contangolaw12_goes.f k).bind fun t105 => (some t105))) else (none)))
set_option maxHeartbeats 8000000 in
set_option maxRecDepth 100000 in
theorem contangolaw12_TradeChecks.calls (k : Nat) (a0_0 : Int) (a0_1 : Int) (a0_2 : Int) (a0_3 : ByteArray) (a0_4 : Int) (a0_5 : Int) (a0_6 : Int) (a0_7 : Int) (a0_8 : Int) (a0_9 : ByteArray) (a0_10 : ByteArray) (a0_11 : ByteArray) (a0_12 : ByteArray) (A1 : Option Addr) (c1 : Nat) (l1 : List (S69)) (A2 : Option Addr) (c2 : Nat) (l2 : List (S148)) (r : Bool) (w : World) (hr1 : Kd.C k69 w A1 l1.length l1) (hc1 : l1.length ≤ c1) (hr2 : Kd.C k148 w A2 l2.length l2) (hc2 : l2.length ≤ c2) (h : contangolaw12_TradeChecks.f k a0_0 a0_1 a0_2 a0_3 a0_4 a0_5 a0_6 a0_7 a0_8 a0_9 a0_10 a0_11 a0_12 l1 l2 = some r) (hGL : GlobD w) :
    Calls Tryz.prog 3 #[.agg #[.int .i64 a0_0, .int .i64 a0_1, .int .i64 a0_2, .string a0_3, .int .i64 a0_4, .int .i64 a0_5, .int .i64 a0_6, .int .i64 a0_7, .int .i64 a0_8, .string a0_9, .string a0_10, .string a0_11, .string a0_12], .slice A1 l1.length c1, .slice A2 l2.length c2] w fun e w' => e = .returned (.bool r) ∧ Below w.heap.size w w' := by
  have hu27 := Tryz.underlying27
  have hu25 := Tryz.underlying25
  have HR1 := Aside0.mk hr1
  have HC1 := Aside0.mk hc1
  clear hr1 hc1
  have HR2 := Aside0.mk hr2
  have HC2 := Aside0.mk hc2
  clear hr2 hc2
  have HB := Aside0.mk (Below.refl w.heap.size w)
  have HGL := Aside0.mk hGL
  clear hGL
  have H : ((trade_Check.f k a0_0 a0_1 a0_2 a0_3 a0_4 a0_5 a0_6 a0_7 a0_8 a0_9 a0_10 a0_11 a0_12 l1 l2).bind fun t102 => ((contangoref12_Check.f k a0_0 a0_1 a0_2 a0_3 a0_4 a0_5 a0_6 a0_7 a0_8 a0_9 a0_10 a0_11 a0_12 l1 l2).bind fun t103 => (if t102 = t103 then (if t102 = 0 then (if (!(a0_9.toList == a0_11.toList) || (!(a0_10.toList == a0_12.toList))) = true then (if a0_7 > 0 then ((contangolaw12_goes.f k).bind fun t104 => (some t104)) else (none)) else (none)) else ((contangolaw12_goes.f k).bind fun t105 => (some t105))) else (none)))) = some r := h
  clear h
  replace H := bnd H
  obtain ⟨t102, A40, H⟩ := H
  have A4 := Aside0.mk A40
  clear A40
  replace H := bnd H
  obtain ⟨t103, A50, H⟩ := H
  have A5 := Aside0.mk A50
  clear A50
  go_enter Tryz.func3, Tryz.ntmps3
  go_wp2_with (first | ((with_reducible refine gate_dst (N := 3) rfl ?_); refine box_event ?hg (N := 3) ?hd (cs := #[.int .i64 a0_0, .int .i64 a0_1, .int .i64 a0_2, .string a0_3, .int .i64 a0_4, .int .i64 a0_5, .int .i64 a0_6, .int .i64 a0_7, .int .i64 a0_8, .string a0_9, .string a0_10, .string a0_11, .string a0_12]) (t := 27) ?hr ?_; (case hd => rfl); (case hg => rfl); (case hr => first | (go_simp; done) | (go_simp; rfl)); intro gb101 hg w11 hbox hb; have BK101 := Aside0.mk (hbox); have GW101 := Aside0.mk ((gsz hg : w.heap.size ≤ gb101)); have GE101 := Aside0.mk ((gsz hg : w.heap.size ≤ gb101)); replace HB := Aside0.mk (below_step bel hb); clear hb hbox hg; obtain ⟨hcz12_0, hcz12_1, hcz12_2, hcz12_3, hcz12_4, hcz12_5, hcz12_6, hcz12_7, hcz12_8, hcz12_9, hcz12_10, hcz12_11, hcz12_12, hfz12_0, hfz12_1, hfz12_2, hfz12_3, hfz12_4, hfz12_5, hfz12_6, hfz12_7, hfz12_8, hfz12_9, hfz12_10, hfz12_11, hfz12_12⟩ := cz13 BK101.out) | ((with_reducible refine gate_callee (f := 10) rfl ?_); refine Aside0.out ?_))
  by_cases c6 : t102 = t103
  · rw [if_pos c6] at H
    have c6b0 : (t102 == t103) = true := beq_iff_eq.mpr c6
    have c6b1 : (t102 != t103) = false := bne_eq_false_iff_eq.mpr c6
    clear c6
    by_cases c7 : t102 = 0
    · rw [if_pos c7] at H
      have c7b0 : (t102 == 0) = true := beq_iff_eq.mpr c7
      have c7b1 : (t102 != 0) = false := bne_eq_false_iff_eq.mpr c7
      clear c7
      by_cases c8 : (!(a0_9.toList == a0_11.toList) || (!(a0_10.toList == a0_12.toList))) = true
      · rw [if_pos c8] at H
        have c8b0 : (!(a0_9.toList == a0_11.toList) || (!(a0_10.toList == a0_12.toList))) = true := c8
        clear c8
        by_cases c9 : a0_7 > 0
        · rw [if_pos c9] at H
          have c9b0 : decide (0 < a0_7) = true := decide_eq_true c9
          clear c9
          replace H := bnd H
          obtain ⟨t104, A100, H⟩ := H
          have A10 := Aside0.mk A100
          clear A100
          obtain rfl := Option.some.inj H
          refine Aside0.mk ?_
          (refine goesL_ (some 11) rfl rfl Tryz.func10 (by kernel_rfl) rfl #[.agg #[.int .i64 a0_0, .int .i64 a0_1, .int .i64 a0_2, .string a0_3, .int .i64 a0_4, .int .i64 a0_5, .int .i64 a0_6, .int .i64 a0_7, .int .i64 a0_8, .string a0_9, .string a0_10, .string a0_11, .string a0_12], .slice A1 l1.length c1, .slice A2 l2.length c2] rfl arg ?_; (with_reducible refine (trade_Check.calls k a0_0 a0_1 a0_2 a0_3 a0_4 a0_5 a0_6 a0_7 a0_8 a0_9 a0_10 a0_11 a0_12 _ _ l1 _ _ l2 t102 _ ?side1 ?side2 ?side3 ?side4 A4.out).mono ?_); (case side1 => repeat (first | exact (Kd.C_below HR1.out HB.out) | (with_reducible refine Kd.C_alloc ?_ _) | (with_reducible refine Kd.C_drewN ?_ _) | (with_reducible refine Kd.C_drew ?_))); (case side2 => exact HC1.out); (case side3 => repeat (first | exact (Kd.C_below HR2.out HB.out) | (with_reducible refine Kd.C_alloc ?_ _) | (with_reducible refine Kd.C_drewN ?_ _) | (with_reducible refine Kd.C_drew ?_))); (case side4 => exact HC2.out); rintro e w13 ⟨rfl, hb⟩; refine ⟨_, rfl, ?_⟩; replace BK101 := Aside0.mk (blk_below (g := gb101) (bw BK101.out) hb); replace HB := Aside0.mk (below_step bel hb); (try clear hb); (try clear hb2); (try clear hk); (try clear hi); obtain ⟨hcz14_0, hcz14_1, hcz14_2, hcz14_3, hcz14_4, hcz14_5, hcz14_6, hcz14_7, hcz14_8, hcz14_9, hcz14_10, hcz14_11, hcz14_12, hfz14_0, hfz14_1, hfz14_2, hfz14_3, hfz14_4, hfz14_5, hfz14_6, hfz14_7, hfz14_8, hfz14_9, hfz14_10, hfz14_11, hfz14_12⟩ := cz13 BK101.out)
          go_wp2_with (first | ((with_reducible refine gate_callee (f := 11) rfl ?_); refine goesL_ (some 16) rfl rfl Tryz.func11 (by kernel_rfl) rfl #[.agg #[.int .i64 a0_0, .int .i64 a0_1, .int .i64 a0_2, .string a0_3, .int .i64 a0_4, .int .i64 a0_5, .int .i64 a0_6, .int .i64 a0_7, .int .i64 a0_8, .string a0_9, .string a0_10, .string a0_11, .string a0_12], .slice A1 l1.length c1, .slice A2 l2.length c2] rfl arg ?_; (with_reducible refine (contangoref12_Check.calls k a0_0 a0_1 a0_2 a0_3 a0_4 a0_5 a0_6 a0_7 a0_8 a0_9 a0_10 a0_11 a0_12 _ _ l1 _ _ l2 t103 _ ?side1 ?side2 ?side3 ?side4 A5.out).mono ?_); (case side1 => repeat (first | exact (Kd.C_below HR1.out HB.out) | (with_reducible refine Kd.C_alloc ?_ _) | (with_reducible refine Kd.C_drewN ?_ _) | (with_reducible refine Kd.C_drew ?_))); (case side2 => exact HC1.out); (case side3 => repeat (first | exact (Kd.C_below HR2.out HB.out) | (with_reducible refine Kd.C_alloc ?_ _) | (with_reducible refine Kd.C_drewN ?_ _) | (with_reducible refine Kd.C_drew ?_))); (case side4 => exact HC2.out); rintro e w15 ⟨rfl, hb⟩; refine ⟨_, rfl, ?_⟩; replace BK101 := Aside0.mk (blk_below (g := gb101) (bw BK101.out) hb); replace HB := Aside0.mk (below_step bel hb); (try clear hb); (try clear hb2); (try clear hk); (try clear hi); obtain ⟨hcz16_0, hcz16_1, hcz16_2, hcz16_3, hcz16_4, hcz16_5, hcz16_6, hcz16_7, hcz16_8, hcz16_9, hcz16_10, hcz16_11, hcz16_12, hfz16_0, hfz16_1, hfz16_2, hfz16_3, hfz16_4, hfz16_5, hfz16_6, hfz16_7, hfz16_8, hfz16_9, hfz16_10, hfz16_11, hfz16_12⟩ := cz13 BK101.out) | (go_at_call 12; (with_reducible refine (contangolaw12_goes.calls k  t104 _ A10.out (glob_of HGL.out bel)).mono ?_); rintro e w17 ⟨rfl, hb⟩; replace BK101 := Aside0.mk (blk_below (g := gb101) (bw BK101.out) hb); replace HB := Aside0.mk (below_step bel hb); (try clear hb); (try clear hb2); (try clear hk); (try clear hi)))
          go_ret
          exact ⟨ers, bel⟩
        · rw [if_neg c9] at H
          exact absurd H (by simp)
      · rw [if_neg c8] at H
        exact absurd H (by simp)
    · rw [if_neg c7] at H
      have c7b0 : (t102 == 0) = false := beq_eq_false_iff_ne.mpr c7
      have c7b1 : (t102 != 0) = true := bne_iff_ne.mpr c7
      replace H := bnd H
      obtain ⟨t105, A180, H⟩ := H
      have A18 := Aside0.mk A180
      clear A180
      obtain rfl := Option.some.inj H
      refine Aside0.mk ?_
      (refine goesL_ (some 11) rfl rfl Tryz.func10 (by kernel_rfl) rfl #[.agg #[.int .i64 a0_0, .int .i64 a0_1, .int .i64 a0_2, .string a0_3, .int .i64 a0_4, .int .i64 a0_5, .int .i64 a0_6, .int .i64 a0_7, .int .i64 a0_8, .string a0_9, .string a0_10, .string a0_11, .string a0_12], .slice A1 l1.length c1, .slice A2 l2.length c2] rfl arg ?_; (with_reducible refine (trade_Check.calls k a0_0 a0_1 a0_2 a0_3 a0_4 a0_5 a0_6 a0_7 a0_8 a0_9 a0_10 a0_11 a0_12 _ _ l1 _ _ l2 t102 _ ?side1 ?side2 ?side3 ?side4 A4.out).mono ?_); (case side1 => repeat (first | exact (Kd.C_below HR1.out HB.out) | (with_reducible refine Kd.C_alloc ?_ _) | (with_reducible refine Kd.C_drewN ?_ _) | (with_reducible refine Kd.C_drew ?_))); (case side2 => exact HC1.out); (case side3 => repeat (first | exact (Kd.C_below HR2.out HB.out) | (with_reducible refine Kd.C_alloc ?_ _) | (with_reducible refine Kd.C_drewN ?_ _) | (with_reducible refine Kd.C_drew ?_))); (case side4 => exact HC2.out); rintro e w21 ⟨rfl, hb⟩; refine ⟨_, rfl, ?_⟩; replace BK101 := Aside0.mk (blk_below (g := gb101) (bw BK101.out) hb); replace HB := Aside0.mk (below_step bel hb); (try clear hb); (try clear hb2); (try clear hk); (try clear hi); obtain ⟨hcz22_0, hcz22_1, hcz22_2, hcz22_3, hcz22_4, hcz22_5, hcz22_6, hcz22_7, hcz22_8, hcz22_9, hcz22_10, hcz22_11, hcz22_12, hfz22_0, hfz22_1, hfz22_2, hfz22_3, hfz22_4, hfz22_5, hfz22_6, hfz22_7, hfz22_8, hfz22_9, hfz22_10, hfz22_11, hfz22_12⟩ := cz13 BK101.out)
      go_wp2_with (first | ((with_reducible refine gate_callee (f := 11) rfl ?_); refine goesL_ (some 16) rfl rfl Tryz.func11 (by kernel_rfl) rfl #[.agg #[.int .i64 a0_0, .int .i64 a0_1, .int .i64 a0_2, .string a0_3, .int .i64 a0_4, .int .i64 a0_5, .int .i64 a0_6, .int .i64 a0_7, .int .i64 a0_8, .string a0_9, .string a0_10, .string a0_11, .string a0_12], .slice A1 l1.length c1, .slice A2 l2.length c2] rfl arg ?_; (with_reducible refine (contangoref12_Check.calls k a0_0 a0_1 a0_2 a0_3 a0_4 a0_5 a0_6 a0_7 a0_8 a0_9 a0_10 a0_11 a0_12 _ _ l1 _ _ l2 t103 _ ?side1 ?side2 ?side3 ?side4 A5.out).mono ?_); (case side1 => repeat (first | exact (Kd.C_below HR1.out HB.out) | (with_reducible refine Kd.C_alloc ?_ _) | (with_reducible refine Kd.C_drewN ?_ _) | (with_reducible refine Kd.C_drew ?_))); (case side2 => exact HC1.out); (case side3 => repeat (first | exact (Kd.C_below HR2.out HB.out) | (with_reducible refine Kd.C_alloc ?_ _) | (with_reducible refine Kd.C_drewN ?_ _) | (with_reducible refine Kd.C_drew ?_))); (case side4 => exact HC2.out); rintro e w23 ⟨rfl, hb⟩; refine ⟨_, rfl, ?_⟩; replace BK101 := Aside0.mk (blk_below (g := gb101) (bw BK101.out) hb); replace HB := Aside0.mk (below_step bel hb); (try clear hb); (try clear hb2); (try clear hk); (try clear hi)) | (go_at_call 12; (with_reducible refine (contangolaw12_goes.calls k  t105 _ A18.out (glob_of HGL.out bel)).mono ?_); rintro e w24 ⟨rfl, hb⟩; replace BK101 := Aside0.mk (blk_below (g := gb101) (bw BK101.out) hb); replace HB := Aside0.mk (below_step bel hb); (try clear hb); (try clear hb2); (try clear hk); (try clear hi)))
      go_ret
      exact ⟨ers, bel⟩
  · rw [if_neg c6] at H
    exact absurd H (by simp)
end Go.Proofs.YthpmmofleddpnaaGreatDoor.X
end
section
namespace Go.Proofs.YthpmmofleddpnaaGreatDoor.Opn
open Go.ChangeShapes Go.WideShapes Go.Proofs.YthpmmofleddpnaaGreatDoorW.PrintWords
set_option linter.unusedVariables false
set_option linter.unusedSimpArgs false
structure Opens (P : Program) (t : TypeId) {α : Type} (d : Kd α) (Ok : α → Prop) : Prop where
  sz : d.sz = P.cellsOf t
  opens : ∀ {H : Type} {enc : TypeId × Value → H} {w : World} {base : Nat} {spare : Nat → Bool} {held : Bool} {fuel : Nat} {cs : List Value} {x : DataW H × List MemPlace},
    DataW.trod enc P w base spare held fuel t cs = some x → (∀ n ∈ x.1.weights P t, n ≤ reachBytes) → ∃ v, d.K w v cs ∧ Ok v
theorem opens_int {P : Program} {t : TypeId} {k : IntKind} (ht : P.underlying t = some (.int k)) (hc : P.cellsOf t = 1) : Opens P t (Kd.int k) (fun n => (Lit.int k n).wf = true) := by
  refine ⟨hc.symm, fun h _ => ?_⟩
  obtain ⟨n, rfl, _, hw⟩ := DataW.trod_int ht h
  exact ⟨n, rfl, hw⟩
theorem opens_bool {P : Program} {t : TypeId} (ht : P.underlying t = some .bool) (hc : P.cellsOf t = 1) : Opens P t Kd.bool (fun _ => True) := by
  refine ⟨hc.symm, fun h _ => ?_⟩
  obtain ⟨n, rfl, _⟩ := DataW.trod_bool ht h
  exact ⟨n, rfl, trivial⟩
theorem opens_string {P : Program} {t : TypeId} (ht : P.underlying t = some .string) (hc : P.cellsOf t = 1) : Opens P t Kd.string (fun s => s.size ≤ 140737488351232) := by
  refine ⟨hc.symm, fun h hw => ?_⟩
  obtain ⟨s, rfl, rfl, hs⟩ := DataW.trod_string ht h
  refine ⟨s, rfl, ?_⟩
  have := hw s.data.toList.length (by simp [DataW.weights])
  rw [Array.length_toList] at this
  exact this
theorem weights_all {H : Type} {P : Program} {e : TypeId} : ∀ {ds : List (DataW H)} {j : Nat} {d : DataW H}, ds[j]? = some d → ∀ n ∈ d.weights P e, n ∈ DataW.weightsAll P e ds
  | d0 :: ds, 0, d, hd, n, hn => by
    simp only [List.getElem?_cons_zero, Option.some.injEq] at hd
    subst hd
    simp only [DataW.weightsAll, List.mem_append]
    exact Or.inl hn
  | d0 :: ds, j + 1, d, hd, n, hn => by
    simp only [List.getElem?_cons_succ] at hd
    simp only [DataW.weightsAll, List.mem_append]
    exact Or.inr (weights_all hd n hn)
  | [], _, _, hd, _, _ => by simp at hd
theorem list_of {α : Type} {n : Nat} {p : Nat → α → Prop} (h : ∀ i, i < n → ∃ x, p i x) : ∃ l : List α, l.length = n ∧ ∀ i x, l[i]? = some x → p i x := by
  induction n with
  | zero => exact ⟨[], rfl, fun i x hx => by simp at hx⟩
  | succ n ih =>
    obtain ⟨l, hl, hp⟩ := ih (fun i hi => h i (by omega))
    obtain ⟨x, hx⟩ := h n (by omega)
    refine ⟨l ++ [x], by simp [hl], fun i y hy => ?_⟩
    by_cases hi : i < l.length
    · rw [List.getElem?_append_left hi] at hy
      exact hp i y hy
    · rw [List.getElem?_append_right (by omega)] at hy
      have : i - l.length = 0 := by
        cases hk : i - l.length with
        | zero => rfl
        | succ m => rw [hk] at hy; simp at hy
      rw [this] at hy
      simp at hy
      subst hy
      have : i = n := by omega
      subst this
      exact hx
theorem opens_slice {P : Program} {t e : TypeId} {α : Type} {d : Kd α} {Ok : α → Prop} (h : Opens P e d Ok) (ht : P.underlying t = some (.slice e)) (hc : P.cellsOf t = 1) {B : Nat} (hB : P.bytesOf e = B) :
    Opens P t (Kd.slice e d) (fun l => l.length ≤ maxLen ∧ l.length * B ≤ 140737488351232 ∧ ∀ x ∈ l, Ok x) := by
  subst hB
  refine ⟨hc.symm, fun {H enc w base spare held fuel cs x} hx hw => ?_⟩
  rcases DataW.trod_slice ht hx with ⟨rfl, rfl⟩ | ⟨a, len, cap, elems, rest, n, _, rfl, rfl, hb, hl, hm, hlen, hel, hsp, hns⟩
  · exact ⟨[], ⟨none, 0, rfl, Nat.le_refl _, Kd.C_nil _ _⟩, by simp⟩
  simp only [DataW.weights, ht] at hw
  have hw1 : (elems.length + rest.length) * P.bytesOf e ≤ reachBytes := by
    have := hw ((elems.length + rest.length) * P.bytesOf e) (by simp)
    exact this
  have hone : ∀ i, i < len → ∃ v : α, ∃ c, w.cells? base (a.add (i * P.cellsOf e)) (P.cellsOf e) = some c ∧ d.K w v c ∧ Ok v := by
    intro i hi
    have h1 := hel i hi
    rw [List.getElem?_eq_getElem (by omega)] at h1
    obtain ⟨c, hc1, hc2⟩ := Option.bind_eq_some_iff.1 h1
    obtain ⟨v, hv, hok⟩ := h.opens hc2 (fun n hn => hw n (by
      simp only [List.mem_cons, List.mem_append]
      right; left
      refine weights_all (j := i) ?_ n hn
      rw [List.getElem?_map, List.getElem?_eq_getElem (by omega)]
      rfl))
    exact ⟨v, c, hc1, hv, hok⟩
  obtain ⟨l, hl1, hl2⟩ := list_of hone
  subst hl1
  refine ⟨l, ⟨some a, cap, rfl, hl, rfl, ?_, fun _ => ⟨a, rfl, fun j p hj => ?_⟩⟩, ?_, ?_, ?_⟩
  · unfold maxLen at hm; omega
  · obtain ⟨c, hc1, hc2, _⟩ := hl2 j p hj
    obtain ⟨_, hlen2, hcell⟩ := World.cells?_some hc1
    refine ⟨c, by rw [h.sz]; exact hlen2, hc2, fun i u hu => ?_⟩
    have hi : i < P.cellsOf e := by
      have := (List.getElem?_eq_some_iff.1 hu).1
      omega
    have := hcell i hi
    rw [hu, ← Deep.add_add, h.sz] at *
    exact this
  · exact Nat.le_trans hl hm
  · have h2 : l.length * P.bytesOf e ≤ (elems.length + rest.length) * P.bytesOf e := Nat.mul_le_mul_right _ (by omega)
    exact Nat.le_trans h2 hw1
  · intro x hx
    obtain ⟨j, hj⟩ := List.getElem?_of_mem hx
    obtain ⟨c, _, _, ho⟩ := hl2 j x hj
    exact ho
structure OpensF (P : Program) (fs : List Field) (off : Nat) {α : Type} (d : Kd α) (Ok : α → Prop) : Prop where
  opens : ∀ {H : Type} {enc : TypeId × Value → H} {w : World} {base : Nat} {spare : Nat → Bool} {held : Bool} {n : Nat} {cs : List Value} {xs : List (DataW H × List MemPlace)},
    xs.length = fs.length → (∀ (i : Nat) (f : Field), fs[i]? = some f → DataW.trod enc P w base spare held n f.type ((cs.drop f.offset).take (P.cellsOf f.type)) = xs[i]?) →
    (∀ m ∈ DataW.weightsEach P (fs.map (·.type)) (xs.map (·.1)), m ≤ reachBytes) → ∃ v, d.K w v ((cs.drop off).take d.sz) ∧ Ok v
theorem opensF_one {P : Program} {f : Field} {off : Nat} {α : Type} {d : Kd α} {Ok : α → Prop} (h : Opens P f.type d Ok) (ho : f.offset = off) : OpensF P [f] off d Ok := by
  refine ⟨fun {H enc w base spare held n cs xs} hl hx hw => ?_⟩
  match xs, hl with
  | [x], _ =>
    have h1 := hx 0 f rfl
    obtain ⟨v, hv, hok⟩ := h.opens h1 (fun n hn => hw n (by simpa [DataW.weightsEach] using hn))
    refine ⟨v, ?_, hok⟩
    rw [h.sz, ← ho]
    exact hv
theorem opensF_cons {P : Program} {f : Field} {fs : List Field} {off : Nat} {α β : Type} {d : Kd α} {d' : Kd β} {Ok : α → Prop} {Ok' : β → Prop} (h : Opens P f.type d Ok) (ho : f.offset = off) (h' : OpensF P fs (off + d.sz) d' Ok') :
    OpensF P (f :: fs) off (Kd.pair d d') (fun p => Ok p.1 ∧ Ok' p.2) := by
  refine ⟨fun {H enc w base spare held n cs xs} hl hx hw => ?_⟩
  match xs, hl with
  | x :: xs, hl =>
    have h1 := hx 0 f rfl
    obtain ⟨v, hv, hok⟩ := h.opens h1 (fun n hn => hw n (by
      simp only [List.map_cons, DataW.weightsEach, List.mem_append]; exact Or.inl hn))
    obtain ⟨v', hv', hok'⟩ := h'.opens (cs := cs) (xs := xs) (by simpa using hl) (fun i g hg => by
      have := hx (i + 1) g (by simpa using hg)
      simpa using this) (fun m hm => hw m (by simp only [List.map_cons, DataW.weightsEach, List.mem_append]; exact Or.inr hm))
    refine ⟨(v, v'), ⟨(cs.drop off).take d.sz, (cs.drop (off + d.sz)).take d'.sz, ?_, ?_, hv'⟩, hok, hok'⟩
    · show (cs.drop off).take (d.sz + d'.sz) = _
      rw [List.take_add, List.drop_drop]
    · rw [h.sz, ← ho]; exact hv
theorem opens_struct {P : Program} {t : TypeId} {fs : Array Field} {α β : Type} {d : Kd α} {Ok : α → Prop} (h : OpensF P fs.toList 0 d Ok) (ht : P.underlying t = some (.struct fs)) (hc : d.sz = P.cellsOf t) (f : β → α) (mk : α → β) (hf : ∀ a, f (mk a) = a) :
    Opens P t (Kd.iso d f) (fun b => Ok (f b)) := by
  refine ⟨hc, fun {H enc w base spare held fuel cs x} hx hw => ?_⟩
  obtain ⟨xs, n, _, rfl, hlen, hsz, hall⟩ := DataW.trod_struct ht hx
  simp only [DataW.weights, ht] at hw
  obtain ⟨v, hv, hok⟩ := h.opens (cs := cs) (xs := xs) (by simpa using hsz) (fun i f hf => hall i f (by simpa using hf)) hw
  refine ⟨mk v, ?_, by rw [hf]; exact hok⟩
  show d.K w (f (mk v)) cs
  rw [hf]
  rw [List.drop_zero, hc, ← hlen, List.take_length] at hv
  exact hv
theorem opens_imp {P : Program} {t : TypeId} {α : Type} {d : Kd α} {Ok Ok' : α → Prop} (h : Opens P t d Ok) (hi : ∀ v, Ok v → Ok' v) : Opens P t d Ok' :=
  ⟨h.sz, fun hx hw => let ⟨v, hv, ho⟩ := h.opens hx hw; ⟨v, hv, hi v ho⟩⟩
end Go.Proofs.YthpmmofleddpnaaGreatDoor.Opn
end
section
namespace Go.Proofs.YthpmmofleddpnaaGreatDoor.X
open Go.RowKit Go.Proofs.YthpmmofleddpnaaGreatDoorW.PrintWords Go.Proofs.YthpmmofleddpnaaGreatDoorW.PrintLast Go.Proofs.YthpmmofleddpnaaGreatDoorW.PrintMore
attribute [local go_sem] max2_int min2_int max_two min_two max_three min_three max_four min_four
set_option linter.unusedVariables false
set_option linter.unusedSimpArgs false
def ok151 (v : S151) : Prop := v.f0.size ≤ 140737488351232 ∧ ((Lit.int .i64 v.f1).wf = true)
theorem opens151 : Opn.Opens Tryz.prog 151 k151 ok151 := by
  have hu := Tryz.underlying151
  refine Opn.opens_imp (Opn.opens_struct (Ok := fun (p : ByteArray × (Int)) => p.1.size ≤ 140737488351232 ∧ ((Lit.int .i64 p.2).wf = true)) ?hF hu (by kernel_rfl) (fun x : S151 => (x.f0, x.f1)) (fun a => ⟨a.1, a.2⟩) (fun _ => rfl)) ?hI
  case hF =>
    refine Opn.opensF_cons (Ok := fun (p : ByteArray) => p.size ≤ 140737488351232) (Ok' := fun (p : Int) => (Lit.int .i64 p).wf = true) (h := ?_) (ho := ?_) (h' := ?_)
    · exact Opn.opens_string Tryz.underlying9 (by kernel_rfl)
    · rfl
    · skip
      refine Opn.opensF_one (Ok := fun (p : Int) => (Lit.int .i64 p).wf = true) (h := ?_) (ho := ?_)
      · exact Opn.opens_int Tryz.underlying3 (by kernel_rfl)
      · rfl
  case hI => exact fun v h => h
def ok148 (v : S148) : Prop := v.f0.size ≤ 140737488351232 ∧ ((Lit.int .i64 v.f1).wf = true ∧ ((v.f2.length ≤ maxLen ∧ v.f2.length * 24 ≤ 140737488351232 ∧ ∀ x ∈ v.f2, ok151 x)))
theorem opens148 : Opn.Opens Tryz.prog 148 k148 ok148 := by
  have hu := Tryz.underlying148
  refine Opn.opens_imp (Opn.opens_struct (Ok := fun (p : ByteArray × (Int × (List (S151)))) => p.1.size ≤ 140737488351232 ∧ ((Lit.int .i64 p.2.1).wf = true ∧ ((p.2.2.length ≤ maxLen ∧ p.2.2.length * 24 ≤ 140737488351232 ∧ ∀ x ∈ p.2.2, ok151 x)))) ?hF hu (by kernel_rfl) (fun x : S148 => (x.f0, x.f1, x.f2)) (fun a => ⟨a.1, a.2.1, a.2.2⟩) (fun _ => rfl)) ?hI
  case hF =>
    refine Opn.opensF_cons (Ok := fun (p : ByteArray) => p.size ≤ 140737488351232) (Ok' := fun (p : Int × (List (S151))) => (Lit.int .i64 p.1).wf = true ∧ ((p.2.length ≤ maxLen ∧ p.2.length * 24 ≤ 140737488351232 ∧ ∀ x ∈ p.2, ok151 x))) (h := ?_) (ho := ?_) (h' := ?_)
    · exact Opn.opens_string Tryz.underlying9 (by kernel_rfl)
    · rfl
    · skip
      refine Opn.opensF_cons (Ok := fun (p : Int) => (Lit.int .i64 p).wf = true) (Ok' := fun (p : List (S151)) => (p.length ≤ maxLen ∧ p.length * 24 ≤ 140737488351232 ∧ ∀ x ∈ p, ok151 x)) (h := ?_) (ho := ?_) (h' := ?_)
      · exact Opn.opens_int Tryz.underlying3 (by kernel_rfl)
      · rfl
      · skip
        refine Opn.opensF_one (Ok := fun (p : List (S151)) => (p.length ≤ maxLen ∧ p.length * 24 ≤ 140737488351232 ∧ ∀ x ∈ p, ok151 x)) (h := ?_) (ho := ?_)
        · exact Opn.opens_slice (opens151) Tryz.underlying146 (by kernel_rfl) (B := 24) (by kernel_rfl)
        · rfl
  case hI => exact fun v h => h
def ok69 (v : S69) : Prop := v.f0.size ≤ 140737488351232 ∧ ((Lit.int .i64 v.f1).wf = true ∧ ((Lit.int .i64 v.f2).wf = true ∧ ((Lit.int .i64 v.f3).wf = true ∧ ((Lit.int .i64 v.f4).wf = true ∧ ((Lit.int .i64 v.f5).wf = true ∧ (True))))))
theorem opens69 : Opn.Opens Tryz.prog 69 k69 ok69 := by
  have hu := Tryz.underlying69
  refine Opn.opens_imp (Opn.opens_struct (Ok := fun (p : ByteArray × (Int × (Int × (Int × (Int × (Int × (Bool))))))) => p.1.size ≤ 140737488351232 ∧ ((Lit.int .i64 p.2.1).wf = true ∧ ((Lit.int .i64 p.2.2.1).wf = true ∧ ((Lit.int .i64 p.2.2.2.1).wf = true ∧ ((Lit.int .i64 p.2.2.2.2.1).wf = true ∧ ((Lit.int .i64 p.2.2.2.2.2.1).wf = true ∧ (True))))))) ?hF hu (by kernel_rfl) (fun x : S69 => (x.f0, x.f1, x.f2, x.f3, x.f4, x.f5, x.f6)) (fun a => ⟨a.1, a.2.1, a.2.2.1, a.2.2.2.1, a.2.2.2.2.1, a.2.2.2.2.2.1, a.2.2.2.2.2.2⟩) (fun _ => rfl)) ?hI
  case hF =>
    refine Opn.opensF_cons (Ok := fun (p : ByteArray) => p.size ≤ 140737488351232) (Ok' := fun (p : Int × (Int × (Int × (Int × (Int × (Bool)))))) => (Lit.int .i64 p.1).wf = true ∧ ((Lit.int .i64 p.2.1).wf = true ∧ ((Lit.int .i64 p.2.2.1).wf = true ∧ ((Lit.int .i64 p.2.2.2.1).wf = true ∧ ((Lit.int .i64 p.2.2.2.2.1).wf = true ∧ (True)))))) (h := ?_) (ho := ?_) (h' := ?_)
    · exact Opn.opens_string Tryz.underlying9 (by kernel_rfl)
    · rfl
    · skip
      refine Opn.opensF_cons (Ok := fun (p : Int) => (Lit.int .i64 p).wf = true) (Ok' := fun (p : Int × (Int × (Int × (Int × (Bool))))) => (Lit.int .i64 p.1).wf = true ∧ ((Lit.int .i64 p.2.1).wf = true ∧ ((Lit.int .i64 p.2.2.1).wf = true ∧ ((Lit.int .i64 p.2.2.2.1).wf = true ∧ (True))))) (h := ?_) (ho := ?_) (h' := ?_)
      · exact Opn.opens_int Tryz.underlying3 (by kernel_rfl)
      · rfl
      · skip
        refine Opn.opensF_cons (Ok := fun (p : Int) => (Lit.int .i64 p).wf = true) (Ok' := fun (p : Int × (Int × (Int × (Bool)))) => (Lit.int .i64 p.1).wf = true ∧ ((Lit.int .i64 p.2.1).wf = true ∧ ((Lit.int .i64 p.2.2.1).wf = true ∧ (True)))) (h := ?_) (ho := ?_) (h' := ?_)
        · exact Opn.opens_int Tryz.underlying3 (by kernel_rfl)
        · rfl
        · skip
          refine Opn.opensF_cons (Ok := fun (p : Int) => (Lit.int .i64 p).wf = true) (Ok' := fun (p : Int × (Int × (Bool))) => (Lit.int .i64 p.1).wf = true ∧ ((Lit.int .i64 p.2.1).wf = true ∧ (True))) (h := ?_) (ho := ?_) (h' := ?_)
          · exact Opn.opens_int Tryz.underlying3 (by kernel_rfl)
          · rfl
          · skip
            refine Opn.opensF_cons (Ok := fun (p : Int) => (Lit.int .i64 p).wf = true) (Ok' := fun (p : Int × (Bool)) => (Lit.int .i64 p.1).wf = true ∧ (True)) (h := ?_) (ho := ?_) (h' := ?_)
            · exact Opn.opens_int Tryz.underlying3 (by kernel_rfl)
            · rfl
            · skip
              refine Opn.opensF_cons (Ok := fun (p : Int) => (Lit.int .i64 p).wf = true) (Ok' := fun (p : Bool) => True) (h := ?_) (ho := ?_) (h' := ?_)
              · exact Opn.opens_int Tryz.underlying3 (by kernel_rfl)
              · rfl
              · skip
                refine Opn.opensF_one (Ok := fun (p : Bool) => True) (h := ?_) (ho := ?_)
                · exact Opn.opens_bool Tryz.underlying4 (by kernel_rfl)
                · rfl
  case hI => exact fun v h => h
def ok25 (v : S25) : Prop := v.f0.size ≤ 140737488351232 ∧ (v.f1.size ≤ 140737488351232)
theorem opens25 : Opn.Opens Tryz.prog 25 k25 ok25 := by
  have hu := Tryz.underlying25
  refine Opn.opens_imp (Opn.opens_struct (Ok := fun (p : ByteArray × (ByteArray)) => p.1.size ≤ 140737488351232 ∧ (p.2.size ≤ 140737488351232)) ?hF hu (by kernel_rfl) (fun x : S25 => (x.f0, x.f1)) (fun a => ⟨a.1, a.2⟩) (fun _ => rfl)) ?hI
  case hF =>
    refine Opn.opensF_cons (Ok := fun (p : ByteArray) => p.size ≤ 140737488351232) (Ok' := fun (p : ByteArray) => p.size ≤ 140737488351232) (h := ?_) (ho := ?_) (h' := ?_)
    · exact Opn.opens_string Tryz.underlying9 (by kernel_rfl)
    · rfl
    · skip
      refine Opn.opensF_one (Ok := fun (p : ByteArray) => p.size ≤ 140737488351232) (h := ?_) (ho := ?_)
      · exact Opn.opens_string Tryz.underlying9 (by kernel_rfl)
      · rfl
  case hI => exact fun v h => h
def ok23 (v : S23) : Prop := v.f0.size ≤ 140737488351232 ∧ ((Lit.int .i64 v.f1).wf = true ∧ ((Lit.int .i64 v.f2).wf = true ∧ ((Lit.int .i64 v.f3).wf = true)))
theorem opens23 : Opn.Opens Tryz.prog 23 k23 ok23 := by
  have hu := Tryz.underlying23
  refine Opn.opens_imp (Opn.opens_struct (Ok := fun (p : ByteArray × (Int × (Int × (Int)))) => p.1.size ≤ 140737488351232 ∧ ((Lit.int .i64 p.2.1).wf = true ∧ ((Lit.int .i64 p.2.2.1).wf = true ∧ ((Lit.int .i64 p.2.2.2).wf = true)))) ?hF hu (by kernel_rfl) (fun x : S23 => (x.f0, x.f1, x.f2, x.f3)) (fun a => ⟨a.1, a.2.1, a.2.2.1, a.2.2.2⟩) (fun _ => rfl)) ?hI
  case hF =>
    refine Opn.opensF_cons (Ok := fun (p : ByteArray) => p.size ≤ 140737488351232) (Ok' := fun (p : Int × (Int × (Int))) => (Lit.int .i64 p.1).wf = true ∧ ((Lit.int .i64 p.2.1).wf = true ∧ ((Lit.int .i64 p.2.2).wf = true))) (h := ?_) (ho := ?_) (h' := ?_)
    · exact Opn.opens_string Tryz.underlying9 (by kernel_rfl)
    · rfl
    · skip
      refine Opn.opensF_cons (Ok := fun (p : Int) => (Lit.int .i64 p).wf = true) (Ok' := fun (p : Int × (Int)) => (Lit.int .i64 p.1).wf = true ∧ ((Lit.int .i64 p.2).wf = true)) (h := ?_) (ho := ?_) (h' := ?_)
      · exact Opn.opens_int Tryz.underlying3 (by kernel_rfl)
      · rfl
      · skip
        refine Opn.opensF_cons (Ok := fun (p : Int) => (Lit.int .i64 p).wf = true) (Ok' := fun (p : Int) => (Lit.int .i64 p).wf = true) (h := ?_) (ho := ?_) (h' := ?_)
        · exact Opn.opens_int Tryz.underlying3 (by kernel_rfl)
        · rfl
        · skip
          refine Opn.opensF_one (Ok := fun (p : Int) => (Lit.int .i64 p).wf = true) (h := ?_) (ho := ?_)
          · exact Opn.opens_int Tryz.underlying3 (by kernel_rfl)
          · rfl
  case hI => exact fun v h => h
def ok27 (v : S27) : Prop := (Lit.int .i64 v.f0).wf = true ∧ ((Lit.int .i64 v.f1).wf = true ∧ ((Lit.int .i64 v.f2).wf = true ∧ (ok23 v.f3 ∧ ((Lit.int .i64 v.f4).wf = true ∧ ((Lit.int .i64 v.f5).wf = true ∧ (ok25 v.f6 ∧ (ok25 v.f7)))))))
theorem opens27 : Opn.Opens Tryz.prog 27 k27 ok27 := by
  have hu := Tryz.underlying27
  refine Opn.opens_imp (Opn.opens_struct (Ok := fun (p : Int × (Int × (Int × (S23 × (Int × (Int × (S25 × (S25)))))))) => (Lit.int .i64 p.1).wf = true ∧ ((Lit.int .i64 p.2.1).wf = true ∧ ((Lit.int .i64 p.2.2.1).wf = true ∧ (ok23 p.2.2.2.1 ∧ ((Lit.int .i64 p.2.2.2.2.1).wf = true ∧ ((Lit.int .i64 p.2.2.2.2.2.1).wf = true ∧ (ok25 p.2.2.2.2.2.2.1 ∧ (ok25 p.2.2.2.2.2.2.2)))))))) ?hF hu (by kernel_rfl) (fun x : S27 => (x.f0, x.f1, x.f2, x.f3, x.f4, x.f5, x.f6, x.f7)) (fun a => ⟨a.1, a.2.1, a.2.2.1, a.2.2.2.1, a.2.2.2.2.1, a.2.2.2.2.2.1, a.2.2.2.2.2.2.1, a.2.2.2.2.2.2.2⟩) (fun _ => rfl)) ?hI
  case hF =>
    refine Opn.opensF_cons (Ok := fun (p : Int) => (Lit.int .i64 p).wf = true) (Ok' := fun (p : Int × (Int × (S23 × (Int × (Int × (S25 × (S25))))))) => (Lit.int .i64 p.1).wf = true ∧ ((Lit.int .i64 p.2.1).wf = true ∧ (ok23 p.2.2.1 ∧ ((Lit.int .i64 p.2.2.2.1).wf = true ∧ ((Lit.int .i64 p.2.2.2.2.1).wf = true ∧ (ok25 p.2.2.2.2.2.1 ∧ (ok25 p.2.2.2.2.2.2))))))) (h := ?_) (ho := ?_) (h' := ?_)
    · exact Opn.opens_int Tryz.underlying3 (by kernel_rfl)
    · rfl
    · skip
      refine Opn.opensF_cons (Ok := fun (p : Int) => (Lit.int .i64 p).wf = true) (Ok' := fun (p : Int × (S23 × (Int × (Int × (S25 × (S25)))))) => (Lit.int .i64 p.1).wf = true ∧ (ok23 p.2.1 ∧ ((Lit.int .i64 p.2.2.1).wf = true ∧ ((Lit.int .i64 p.2.2.2.1).wf = true ∧ (ok25 p.2.2.2.2.1 ∧ (ok25 p.2.2.2.2.2)))))) (h := ?_) (ho := ?_) (h' := ?_)
      · exact Opn.opens_int Tryz.underlying3 (by kernel_rfl)
      · rfl
      · skip
        refine Opn.opensF_cons (Ok := fun (p : Int) => (Lit.int .i64 p).wf = true) (Ok' := fun (p : S23 × (Int × (Int × (S25 × (S25))))) => ok23 p.1 ∧ ((Lit.int .i64 p.2.1).wf = true ∧ ((Lit.int .i64 p.2.2.1).wf = true ∧ (ok25 p.2.2.2.1 ∧ (ok25 p.2.2.2.2))))) (h := ?_) (ho := ?_) (h' := ?_)
        · exact Opn.opens_int Tryz.underlying3 (by kernel_rfl)
        · rfl
        · skip
          refine Opn.opensF_cons (Ok := fun (p : S23) => ok23 p) (Ok' := fun (p : Int × (Int × (S25 × (S25)))) => (Lit.int .i64 p.1).wf = true ∧ ((Lit.int .i64 p.2.1).wf = true ∧ (ok25 p.2.2.1 ∧ (ok25 p.2.2.2)))) (h := ?_) (ho := ?_) (h' := ?_)
          · exact opens23
          · rfl
          · skip
            refine Opn.opensF_cons (Ok := fun (p : Int) => (Lit.int .i64 p).wf = true) (Ok' := fun (p : Int × (S25 × (S25))) => (Lit.int .i64 p.1).wf = true ∧ (ok25 p.2.1 ∧ (ok25 p.2.2))) (h := ?_) (ho := ?_) (h' := ?_)
            · exact Opn.opens_int Tryz.underlying3 (by kernel_rfl)
            · rfl
            · skip
              refine Opn.opensF_cons (Ok := fun (p : Int) => (Lit.int .i64 p).wf = true) (Ok' := fun (p : S25 × (S25)) => ok25 p.1 ∧ (ok25 p.2)) (h := ?_) (ho := ?_) (h' := ?_)
              · exact Opn.opens_int Tryz.underlying3 (by kernel_rfl)
              · rfl
              · skip
                refine Opn.opensF_cons (Ok := fun (p : S25) => ok25 p) (Ok' := fun (p : S25) => ok25 p) (h := ?_) (ho := ?_) (h' := ?_)
                · exact opens25
                · rfl
                · skip
                  refine Opn.opensF_one (Ok := fun (p : S25) => ok25 p) (h := ?_) (ho := ?_)
                  · exact opens25
                  · rfl
  case hI => exact fun v h => h
end Go.Proofs.YthpmmofleddpnaaGreatDoor.X
end
section
namespace Go.Proofs.YthpmmofleddpnaaGreatDoor.P
open Go.RowKit Go.Proofs.YthpmmofleddpnaaGreatDoorW.PrintWords Go.Proofs.YthpmmofleddpnaaGreatDoorW.PrintMore Go.Proofs.YthpmmofleddpnaaGreatDoor.X
theorem Ev_succ {α : Type} {g : Nat → Option α} {r : α} (h : Ev (fun k => g (k + 1)) r) : Ev g r := Ev.step (fun _ => rfl) h
theorem Ev_bind {α β : Type} {g : Nat → Option α} {f : Nat → α → Option β} {a : α} {r : β} (h : Ev g a) (k : Ev (fun n => f n a) r) : Ev (fun n => (g n).bind (f n)) r := Ev.bind h k
theorem Ev_id {α : Type} {g : Nat → Option α} {r : α} (h : Ev g r) : Ev (fun n => (g n).bind fun x => some x) r := Ev.bind h (Ev.now _)
theorem w_id {x : Int} (h1 : -9223372036854775808 ≤ x) (h2 : x ≤ 9223372036854775807) : wrap64 x = x := by unfold wrap64; omega
theorem w_succ {i n : Nat} (h : i < n) (hn : n ≤ 9223372036854775807) : wrap64 ((i : Int) + 1) = ((i + 1 : Nat) : Int) := by rw [w_id (by omega) (by omega)]; omega
theorem w_pred {i : Nat} (h : 0 < i) (hn : i ≤ 9223372036854775807) : wrap64 ((i : Int) - 1) = ((i - 1 : Nat) : Int) := by rw [w_id (by omega) (by omega)]; omega
theorem drop_cons {α : Type} (l : List α) (i : Nat) (h : i < l.length) : l.drop i = l[i] :: l.drop (i + 1) := (List.getElem_cons_drop h).symm
end Go.Proofs.YthpmmofleddpnaaGreatDoor.P
end
section
namespace Go.Proofs.YthpmmofleddpnaaGreatDoor.P
set_option linter.unusedVariables false
set_option linter.unusedSimpArgs false
open Go.RowKit Go.Proofs.YthpmmofleddpnaaGreatDoorW.PrintWords Go.Proofs.YthpmmofleddpnaaGreatDoorW.PrintMore Go.Proofs.YthpmmofleddpnaaGreatDoor.X
def letterB (n : Int) : Bool := decide (97 ≤ n) && decide (n ≤ 122)
def digitB (n : Int) : Bool := decide (48 ≤ n) && decide (n ≤ 57)
theorem letter_f (n : Int) : words_letter.f n = some (letterB n) := by
  unfold words_letter.f letterB
  by_cases h : 97 ≤ n
  · rw [if_pos h, decide_eq_true h, Bool.true_and]
  · rw [if_neg h, decide_eq_false h, Bool.false_and]
theorem digit_f (n : Int) : words_digit.f n = some (digitB n) := by
  unfold words_digit.f digitB
  by_cases h : 48 ≤ n
  · rw [if_pos h, decide_eq_true h, Bool.true_and]
  · rw [if_neg h, decide_eq_false h, Bool.false_and]
def chB (s : ByteArray) (i : Nat) : Bool := letterB (bt s (i : Int)) || (!(i == 0) && digitB (bt s (i : Int)))
def nameFrom (s : ByteArray) : Nat → Nat → Bool
  | 0, _ => true
  | d + 1, i => chB s i && nameFrom s d (i + 1)
def nameB (s : ByteArray) : Bool := decide (0 < s.size) && decide (s.size ≤ 12) && nameFrom s s.size 0
theorem nameLoop (s : ByteArray) (hs : s.size ≤ 12) (h0 : letterB (bt s 0) = true) : ∀ (d i : Nat), i + d = s.size → Ev (fun k => words_Name.l0 k s s.size i) (nameFrom s d i)
  | 0, i, hd => by
    refine Ev_succ ?_
    simp only [words_Name.l0, if_neg (show ¬ ((i : Int) < (s.size : Int)) by omega)]
    exact Ev.now _
  | d + 1, i, hd => by
    have hi : i < s.size := by omega
    have ih := nameLoop s hs h0 d (i + 1) (by omega)
    refine Ev_succ ?_
    simp only [words_Name.l0, if_pos (show (i : Int) < (s.size : Int) by omega), if_pos (show 0 ≤ (i : Int) by omega), letter_f, digit_f, Option.bind_some, w_succ hi (by omega), nameFrom, chB]
    cases h1 : letterB (bt s (i : Int)) with
    | true => simp only [if_true, Bool.true_or, Bool.true_and]; exact ih
    | false =>
      simp only [Bool.false_eq_true, if_false, Bool.false_or]
      have hi0 : (i == 0) = false := by
        rw [← Bool.not_eq_true, beq_iff_eq]
        rintro rfl
        rw [show ((0 : Nat) : Int) = 0 from rfl, h0] at h1
        cases h1
      simp only [hi0, Bool.not_false, Bool.true_and]
      cases h2 : digitB (bt s (i : Int)) with
      | true => simp only [if_true, Bool.true_and]; exact ih
      | false => simp only [Bool.false_eq_true, if_false, Bool.false_and]; exact Ev.now _
theorem name_f (s : ByteArray) : Ev (fun k => words_Name.f k s) (nameB s) := by
  have hj : nameB s = false → Ev (fun k => words_Name.j0 k s true) (nameB s) := by
    intro h
    rw [h]
    refine Ev_succ ?_
    simp only [words_Name.j0, if_true]
    exact Ev.now _
  unfold words_Name.f
  by_cases c0 : s.toList = []
  · simp only [if_pos c0]
    refine hj ?_
    have : s.size = 0 := by
      have e : s.toList = s.data.toList := ByteArray.toList_eq s
      rw [e] at c0
      have := congrArg List.length c0
      simpa using this
    simp [nameB, this]
  · simp only [if_neg c0]
    by_cases c1 : (s.size : Int) > 12
    · simp only [if_pos c1]
      exact hj (by simp [nameB]; omega)
    · have hp : 0 < s.size := by
        rcases Nat.eq_zero_or_pos s.size with h | h
        · exfalso
          apply c0
          have e : s.toList = s.data.toList := ByteArray.toList_eq s
          rw [e]
          exact List.length_eq_zero_iff.1 (by simpa using h)
        · exact h
      simp only [if_neg c1, if_pos (show 0 < (s.size : Int) by omega), letter_f, Option.bind_some]
      have hn : nameB s = nameFrom s s.size 0 := by
        unfold nameB
        rw [decide_eq_true hp, decide_eq_true (show s.size ≤ 12 by omega)]
        simp
      cases h1 : letterB (bt s 0) with
      | false =>
        refine hj ?_
        rw [hn]
        obtain ⟨d, hd⟩ : ∃ d, s.size = d + 1 := ⟨s.size - 1, by omega⟩
        rw [hd]
        simp [nameFrom, chB, h1]
      | true =>
        refine Ev_succ ?_
        simp only [words_Name.j0, Bool.not_true, Bool.false_eq_true, if_false]
        rw [hn]
        exact nameLoop s (by omega) h1 s.size 0 (by omega)
theorem nameRLoop (s : ByteArray) (hs : s.size ≤ 4611686018427387904) : ∀ (d i : Nat), i + d = s.size → Ev (fun k => contangoref03_Name.l0 k s i) (nameFrom s d i && (decide (0 < s.size) && decide (s.size ≤ 12)))
  | 0, i, hd => by
    refine Ev_succ ?_
    simp only [contangoref03_Name.l0, if_neg (show ¬ ((i : Int) < (s.size : Int)) by omega), nameFrom, Bool.true_and]
    by_cases c : (s.size : Int) > 0
    · simp only [if_pos c, decide_eq_true (show 0 < s.size by omega), Bool.true_and]
      have : decide ((s.size : Int) ≤ 12) = decide (s.size ≤ 12) := by rw [decide_eq_decide]; omega
      rw [this]
      exact Ev.now _
    · simp only [if_neg c, decide_eq_false (show ¬ 0 < s.size by omega), Bool.false_and]
      exact Ev.now _
  | d + 1, i, hd => by
    have hi : i < s.size := by omega
    have ih := nameRLoop s hs d (i + 1) (by omega)
    rw [← w_succ hi (by omega)] at ih
    refine Ev_succ ?_
    simp only [contangoref03_Name.l0, if_pos (show (i : Int) < (s.size : Int) by omega), if_pos (show 0 ≤ (i : Int) by omega), nameFrom]
    have step : chB s i = true → Ev (fun k => contangoref03_Name.l0 k s (wrap64 ((i : Int) + 1))) (chB s i && nameFrom s d (i + 1) && (decide (0 < s.size) && decide (s.size ≤ 12))) := by
      intro h
      rw [h, Bool.true_and]
      exact ih
    have stop : chB s i = false → Ev (fun _ => (some false : Option Bool)) (chB s i && nameFrom s d (i + 1) && (decide (0 < s.size) && decide (s.size ≤ 12))) := by
      intro h
      rw [h, Bool.false_and, Bool.false_and]
      exact Ev.now _
    have rest : letterB (bt s (i : Int)) = false → Ev (fun k => if (i : Int) = 0 then some false else if bt s (i : Int) < 48 then some false else if bt s (i : Int) > 57 then some false else contangoref03_Name.l0 k s (wrap64 ((i : Int) + 1))) (chB s i && nameFrom s d (i + 1) && (decide (0 < s.size) && decide (s.size ≤ 12))) := by
      intro hl
      by_cases c0 : (i : Int) = 0
      · have hi0 : (i == 0) = true := by rw [beq_iff_eq]; omega
        simp only [if_pos c0]
        exact stop (by unfold chB; rw [hl, hi0]; rfl)
      · by_cases c1 : bt s (i : Int) < 48
        · simp only [if_neg c0, if_pos c1]; exact stop (by simp [chB, hl, digitB]; omega)
        · by_cases c2 : bt s (i : Int) > 57
          · simp only [if_neg c0, if_neg c1, if_pos c2]; exact stop (by simp [chB, hl, digitB]; omega)
          · simp only [if_neg c0, if_neg c1, if_neg c2]; exact step (by simp [chB, hl, digitB]; omega)
    by_cases g1 : bt s (i : Int) ≥ 97
    · by_cases g2 : bt s (i : Int) ≤ 122
      · simp only [if_pos g1, if_pos g2]; exact step (by simp [chB, letterB]; omega)
      · simp only [if_pos g1, if_neg g2]; exact rest (by simp [letterB]; omega)
    · simp only [if_neg g1]; exact rest (by simp [letterB]; omega)
theorem nameR_f (s : ByteArray) (hs : s.size ≤ 4611686018427387904) : Ev (fun k => contangoref03_Name.f k s) (nameB s) := by
  have h := nameRLoop s hs s.size 0 (by omega)
  have e : nameB s = (nameFrom s s.size 0 && (decide (0 < s.size) && decide (s.size ≤ 12))) := by
    unfold nameB
    rw [Bool.and_comm]
  rw [e]
  exact h
abbrev Mem := S148
abbrev Act11 := S151
theorem rdM (l : List Mem) (i : Nat) (h : i < l.length) : rd_T148 l (i : Int) = l[i] := by simp [rd_T148, h]
theorem rdA (l : List Act11) (i : Nat) (h : i < l.length) : rd_T151 l (i : Int) = l[i] := by simp [rd_T151, h]
def fndM (q : ByteArray) : List Mem → Mem × Bool
  | [] => (z148, false)
  | x :: r => if x.f0.toList = q.toList then (x, true) else fndM q r
def fndA (q : ByteArray) : List Act11 → ByteArray × Int × Bool
  | [] => ((⟨#[]⟩ : ByteArray), 0, false)
  | x :: r => if x.f0.toList = q.toList then (x.f0, x.f1, true) else fndA q r
theorem idxM_fnd (q : ByteArray) : ∀ (l : List Mem) (i : Nat), (idxM (fun t => t.f0.toList == q.toList) l (i : Int) = -1 ∧ fndM q l = (z148, false)) ∨ ∃ j : Nat, ∃ h : j < l.length, idxM (fun t => t.f0.toList == q.toList) l (i : Int) = ((i + j : Nat) : Int) ∧ fndM q l = (l[j], true)
  | [], i => Or.inl ⟨rfl, rfl⟩
  | x :: r, i => by
    unfold idxM fndM
    by_cases c : x.f0.toList = q.toList
    · rw [if_pos (by simpa using c), if_pos c]
      exact Or.inr ⟨0, by simp, by simp, rfl⟩
    · rw [if_neg (by simpa using c), if_neg c, show (i : Int) + 1 = ((i + 1 : Nat) : Int) by omega]
      rcases idxM_fnd q r (i + 1) with ⟨h1, h2⟩ | ⟨j, hj, h1, h2⟩
      · exact Or.inl ⟨h1, h2⟩
      · exact Or.inr ⟨j + 1, by simp; omega, by rw [h1]; congr 1; omega, by rw [h2]; rfl⟩
theorem idxA_fnd (q : ByteArray) : ∀ (l : List Act11) (i : Nat), (idxA (fun t => t.f0.toList == q.toList) l (i : Int) = -1 ∧ fndA q l = ((⟨#[]⟩ : ByteArray), 0, false)) ∨ ∃ j : Nat, ∃ h : j < l.length, idxA (fun t => t.f0.toList == q.toList) l (i : Int) = ((i + j : Nat) : Int) ∧ fndA q l = (l[j].f0, l[j].f1, true)
  | [], i => Or.inl ⟨rfl, rfl⟩
  | x :: r, i => by
    unfold idxA fndA
    by_cases c : x.f0.toList = q.toList
    · rw [if_pos (by simpa using c), if_pos c]
      exact Or.inr ⟨0, by simp, by simp, rfl⟩
    · rw [if_neg (by simpa using c), if_neg c, show (i : Int) + 1 = ((i + 1 : Nat) : Int) by omega]
      rcases idxA_fnd q r (i + 1) with ⟨h1, h2⟩ | ⟨j, hj, h1, h2⟩
      · exact Or.inl ⟨h1, h2⟩
      · exact Or.inr ⟨j + 1, by simp; omega, by rw [h1]; congr 1; omega, by rw [h2]; rfl⟩
theorem accM_eq (q : ByteArray) (l : List Act11) : accM q l = fndA q l := by
  unfold accM
  rcases idxA_fnd q l 0 with ⟨h1, h2⟩ | ⟨j, hj, h1, h2⟩
  · rw [show ((0 : Nat) : Int) = 0 from rfl] at h1
    rw [h1, h2, if_pos (by decide)]
  · rw [Nat.zero_add, show ((0 : Nat) : Int) = 0 from rfl] at h1
    rw [h1, h2, if_neg (by omega), rdA l j hj]
def tupM (q : Mem × Bool) : ByteArray × Int × List Act11 × Bool := (q.1.f0, q.1.f1, q.1.f2, q.2)
theorem mfind_f (l : List Mem) (q : ByteArray) (hs : ∀ m ∈ l, m.f2.length < 137438953472) : member_Find.f l q = some (tupM (fndM q l)) := by
  unfold member_Find.f member_at.f
  simp only [Option.bind_some]
  rcases idxM_fnd q l 0 with ⟨h1, h2⟩ | ⟨j, hj, h1, h2⟩
  · rw [show ((0 : Nat) : Int) = 0 from rfl] at h1
    rw [h1, h2, if_pos (by decide)]; rfl
  · rw [Nat.zero_add, show ((0 : Nat) : Int) = 0 from rfl] at h1
    have e : api_Account_130.f l[j].f2 = some l[j].f2 := by
      unfold api_Account_130.f
      exact if_pos (hs _ (List.getElem_mem hj))
    rw [h1, h2, if_neg (by omega), if_pos (by omega), if_pos (by omega), rdM l j hj, e]
    rfl
theorem macc_f (l : List Mem) (p q : ByteArray) (hs : ∀ m ∈ l, m.f2.length < 137438953472) : member_Account.f l p q = some (fndA q (fndM p l).1.f2) := by
  unfold member_Account.f
  rw [mfind_f l p hs]
  simp only [Option.bind_some, accM_eq]
  rfl
theorem rplace_loop (l : List Mem) (q : ByteArray) (hl : l.length ≤ 4611686018427387904) : ∀ (d i : Nat), i + d = l.length → Ev (fun k => contangoref11_place.l0 k l q (i : Int)) (idxM (fun t => t.f0.toList == q.toList) (l.drop i) (i : Int))
  | 0, i, hd => by
    refine Ev_succ ?_
    simp only [contangoref11_place.l0, if_neg (show ¬ (i : Int) < (l.length : Int) by omega)]
    rw [List.drop_of_length_le (by omega)]
    exact Ev.now _
  | d + 1, i, hd => by
    refine Ev_succ ?_
    have hi : i < l.length := by omega
    rw [drop_cons l i hi]
    simp only [contangoref11_place.l0, if_pos (show (i : Int) < (l.length : Int) by omega), if_pos (show 0 ≤ (i : Int) by omega), rdM l i hi, idxM, beq_iff_eq]
    by_cases c : (l[i]).f0.toList = q.toList
    · simp only [if_pos c]; exact Ev.now _
    · simp only [if_neg c, w_succ hi (by omega)]
      have := rplace_loop l q hl d (i + 1) (by omega)
      rwa [show ((i + 1 : Nat) : Int) = (i : Int) + 1 by omega] at this ⊢
theorem rfind_fM (l : List Mem) (q : ByteArray) (hl : l.length ≤ 4611686018427387904) : Ev (fun k => contangoref11_Find.f k l q) (tupM (fndM q l)) := by
  unfold contangoref11_Find.f contangoref11_place.f
  have h := rplace_loop l q hl l.length 0 (by omega)
  rw [List.drop_zero] at h
  refine Ev_bind h ?_
  rcases idxM_fnd q l 0 with ⟨h1, h2⟩ | ⟨j, hj, h1, h2⟩
  · rw [h1, h2]
    simp only [if_pos (show (-1 : Int) < 0 by decide)]
    exact Ev.now _
  · rw [Nat.zero_add] at h1
    rw [h1, h2]
    simp only [if_neg (show ¬ (j : Int) < 0 by omega), if_pos (show 0 ≤ (j : Int) by omega), if_pos (show (j : Int) < (l.length : Int) by omega), rdM l j hj]
    exact Ev.now _
theorem racc_loop (l : List Act11) (p q m0 : ByteArray) (m1 : Int) (hl : l.length ≤ 4611686018427387904) : ∀ (d i : Nat), i + d = l.length → Ev (fun k => contangoref11_Account.l0 k (i : Int) p q m0 m1 l) (fndA q (l.drop i))
  | 0, i, hd => by
    refine Ev_succ ?_
    simp only [contangoref11_Account.l0, if_neg (show ¬ (i : Int) < (l.length : Int) by omega)]
    rw [List.drop_of_length_le (by omega)]
    exact Ev.now _
  | d + 1, i, hd => by
    refine Ev_succ ?_
    have hi : i < l.length := by omega
    rw [drop_cons l i hi]
    simp only [contangoref11_Account.l0, if_pos (show (i : Int) < (l.length : Int) by omega), if_pos (show 0 ≤ (i : Int) by omega), rdA l i hi, fndA]
    by_cases c : (l[i]).f0.toList = q.toList
    · simp only [if_pos c]; exact Ev.now _
    · simp only [if_neg c, w_succ hi (by omega)]
      exact racc_loop l p q m0 m1 hl d (i + 1) (by omega)
theorem fndM_len (q : ByteArray) {N : Nat} : ∀ l : List Mem, (∀ m ∈ l, m.f2.length ≤ N) → (fndM q l).1.f2.length ≤ N
  | [], _ => Nat.zero_le _
  | x :: r, h => by
    unfold fndM
    split
    · exact h x (by simp)
    · exact fndM_len q r fun m hm => h m (by simp [hm])
theorem racc_f (l : List Mem) (p q : ByteArray) (hl : l.length ≤ 4611686018427387904) (hs : ∀ m ∈ l, m.f2.length ≤ 4611686018427387904) : Ev (fun k => contangoref11_Account.f k l p q) (fndA q (fndM p l).1.f2) := by
  unfold contangoref11_Account.f
  refine Ev_bind (rfind_fM l p hl) ?_
  have h := racc_loop (fndM p l).1.f2 p q (fndM p l).1.f0 (fndM p l).1.f1 (fndM_len p l hs) (fndM p l).1.f2.length 0 (by omega)
  rw [List.drop_zero] at h
  exact h
def mayT (l : List Mem) (p q : ByteArray) : Int := if (fndM p l).2 = true then (if (fndA q (fndM p l).1.f2).2.2 = true then (if (fndM p l).1.f1 = 1 then 0 else 13) else 21) else 20
theorem may_f (l : List Mem) (p q : ByteArray) (hs : ∀ m ∈ l, m.f2.length < 137438953472) : Ev (fun k => member_May.f k l p q 1) (mayT l p q) := by
  unfold member_May.f mayT
  simp only [mfind_f l p hs, macc_f l p q hs, Option.bind_some, tupM, if_true]
  by_cases c1 : (fndM p l).2 = true
  case neg => simp only [if_neg c1]; exact Ev.now _
  by_cases c2 : (fndA q (fndM p l).1.f2).2.2 = true
  case neg => simp only [if_pos c1, if_neg c2]; exact Ev.now _
  by_cases c3 : (fndM p l).1.f1 = 1
  · simp only [if_pos c1, if_pos c2, if_pos c3]; exact Ev.now _
  by_cases c4 : (fndM p l).1.f1 = 2
  · simp only [if_pos c1, if_pos c2, if_neg c3, if_pos c4]; exact Ev.now _
  by_cases c5 : (fndM p l).1.f1 = 3
  · simp only [if_pos c1, if_pos c2, if_neg c3, if_neg c4, if_pos c5]
    refine Ev_bind (a := false) (Ev.of (k := 10) (slices_Contains_int_int.mono _ _) (by decide +kernel)) ?_
    simp only [Bool.false_eq_true, if_false]
    exact Ev.now _
  · simp only [if_pos c1, if_pos c2, if_neg c3, if_neg c4, if_neg c5]; exact Ev.now _
theorem rmay_f (l : List Mem) (p q : ByteArray) (hl : l.length ≤ 4611686018427387904) (hs : ∀ m ∈ l, m.f2.length ≤ 4611686018427387904) : Ev (fun k => contangoref11_May.f k l p q 1) (mayT l p q) := by
  unfold contangoref11_May.f mayT
  refine Ev_bind (rfind_fM l p hl) ?_
  simp only [tupM]
  by_cases c1 : (fndM p l).2 = true
  case neg => simp only [if_neg c1]; exact Ev.now _
  simp only [if_pos c1]
  refine Ev_bind (racc_f l p q hl hs) ?_
  by_cases c2 : (fndA q (fndM p l).1.f2).2.2 = true
  case neg => simp only [if_neg c2]; exact Ev.now _
  by_cases c3 : (fndM p l).1.f1 = 1
  · simp only [if_pos c2, if_pos c3]; exact Ev.now _
  by_cases c4 : (fndM p l).1.f1 = 2
  · simp only [if_pos c2, if_neg c3, if_pos c4, if_true]; exact Ev.now _
  by_cases c5 : (fndM p l).1.f1 = 3
  · simp only [if_pos c2, if_neg c3, if_neg c4, c5, if_true, if_neg (show ¬ (1 : Int) ≥ 4 by decide)]; exact Ev.now _
  · simp only [if_pos c2, if_neg c3, if_neg c4, c5, if_false]; exact Ev.now _
def accV (l : List Act11) : List Act11 → Nat → Int
  | [], _ => 0
  | a :: r, i => if nameE (nameB a.f0) i (rd_T151 l ((i : Int) - 1)).f0 a.f0 = 0 then (if 1 ≤ a.f1 ∧ a.f1 ≤ 3 then accV l r (i + 1) else 21) else nameE (nameB a.f0) i (rd_T151 l ((i : Int) - 1)).f0 a.f0
def memV (l : List Mem) : List Mem → Nat → Int
  | [], _ => 0
  | m :: r, i => if nameE (nameB m.f0) i (rd_T148 l ((i : Int) - 1)).f0 m.f0 = 0 then (if 1 ≤ m.f1 ∧ m.f1 ≤ 4 then (if m.f2.length ≤ 16 then (if accV m.f2 m.f2 0 = 0 then memV l r (i + 1) else accV m.f2 m.f2 0) else 8) else 13) else nameE (nameB m.f0) i (rd_T148 l ((i : Int) - 1)).f0 m.f0
def memC (l : List Mem) : Int := if 32 < l.length then 8 else memV l l 0
theorem accE_f (l : List Act11) : ∀ (r : List Act11) (i : Nat), Ev (fun k => accE k l r i) (accV l r i)
  | [], i => Ev.now _
  | a :: r, i => by
    unfold accE accV
    refine Ev_bind (name_f a.f0) ?_
    split
    · split
      · exact accE_f l r (i + 1)
      · exact Ev.now _
    · exact Ev.now _
theorem memE_f (l : List Mem) : ∀ (r : List Mem) (i : Nat), Ev (fun k => memE k l r i) (memV l r i)
  | [], i => Ev.now _
  | a :: r, i => by
    unfold memE memV
    refine Ev_bind (name_f a.f0) ?_
    split
    · split
      · split
        · refine Ev_bind (accE_f a.f2 a.f2 0) ?_
          by_cases c : accV a.f2 a.f2 0 = 0
          · simp only [if_pos c]; exact memE_f l r (i + 1)
          · simp only [if_neg c]; exact Ev.now _
        · exact Ev.now _
      · exact Ev.now _
    · exact Ev.now _
theorem mcheck_f (l : List Mem) : Ev (fun k => member_Check.f k l) (memC l) := by
  unfold member_Check.f memC
  split
  · exact Ev.now _
  · exact memE_f l l 0
theorem nameE_false (i : Nat) (p x : ByteArray) : nameE false i p x = 10 := rfl
theorem nameE_zero (p x : ByteArray) : nameE true 0 p x = 0 := rfl
theorem nameE_succ (i : Nat) (h : 0 < i) (p x : ByteArray) : nameE true i p x = if (!(Op.bytesLess p.toList x.toList)) = true then 12 else 0 := by
  unfold nameE
  rw [if_pos rfl]
  cases Op.bytesLess p.toList x.toList <;> simp [h]
theorem raccs_loop (l : List Act11) (hl : l.length ≤ 4611686018427387904) (hs : ∀ a ∈ l, a.f0.size ≤ 4611686018427387904) : ∀ (d i : Nat), i + d = l.length → Ev (fun k => contangoref11_accounts.l0 k l (i : Int)) (accV l (l.drop i) i)
  | 0, i, hd => by
    refine Ev_succ ?_
    simp only [contangoref11_accounts.l0, if_neg (show ¬ (i : Int) < (l.length : Int) by omega)]
    rw [List.drop_of_length_le (by omega)]
    exact Ev.now _
  | d + 1, i, hd => by
    refine Ev_succ ?_
    have hi : i < l.length := by omega
    rw [drop_cons l i hi]
    simp only [contangoref11_accounts.l0, if_pos (show (i : Int) < (l.length : Int) by omega), if_pos (show 0 ≤ (i : Int) by omega), rdA l i hi, accV]
    refine Ev_bind (nameR_f l[i].f0 (hs _ (List.getElem_mem hi))) ?_
    have good : Ev (fun k => contangoref11_accounts.j1 k l (i : Int) false) (if 1 ≤ l[i].f1 ∧ l[i].f1 ≤ 3 then accV l (l.drop (i + 1)) (i + 1) else 21) := by
      refine Ev_succ ?_
      simp only [contangoref11_accounts.j1, Bool.false_eq_true, if_false, if_pos (show (i : Int) < (l.length : Int) by omega), if_pos (show 0 ≤ (i : Int) by omega), rdA l i hi]
      by_cases c1 : l[i].f1 < 1
      · rw [if_neg (by omega)]; simp only [if_pos c1]; exact Ev.now _
      by_cases c2 : l[i].f1 > 3
      · rw [if_neg (by omega)]; simp only [if_neg c1, if_pos c2]; exact Ev.now _
      rw [if_pos (by omega)]
      simp only [if_neg c1, if_neg c2, w_succ hi (by omega)]
      exact raccs_loop l hl hs d (i + 1) (by omega)
    cases hb : nameB l[i].f0 with
    | false =>
      simp only [nameE_false, Bool.false_eq_true, if_false, if_neg (show ¬ (10 : Int) = 0 by decide)]
      exact Ev.now _
    | true =>
      simp only [if_true]
      by_cases c0 : 0 < i
      · have hw : wrap64 ((i : Int) - 1) = (i : Int) - 1 := w_id (by omega) (by omega)
        simp only [if_pos (show (i : Int) > 0 by omega), hw, if_pos (show 0 ≤ (i : Int) - 1 by omega), if_pos (show (i : Int) - 1 < (l.length : Int) by omega), nameE_succ i c0]
        cases Op.bytesLess (rd_T151 l ((i : Int) - 1)).f0.toList l[i].f0.toList with
        | false =>
          simp only [Bool.not_false, if_true, if_neg (show ¬ (12 : Int) = 0 by decide)]
          refine Ev_succ ?_
          simp only [contangoref11_accounts.j1, if_true]
          exact Ev.now _
        | true =>
          simp only [Bool.not_true, Bool.false_eq_true, if_false, if_true]
          exact good
      · obtain rfl : i = 0 := by omega
        simp only [if_neg (show ¬ ((0 : Nat) : Int) > 0 by omega), nameE_zero, if_true]
        exact good
theorem rmem_loop (l : List Mem) (hl : l.length ≤ 4611686018427387904) (hs : ∀ a ∈ l, a.f0.size ≤ 4611686018427387904 ∧ a.f2.length ≤ 4611686018427387904 ∧ ∀ b ∈ a.f2, b.f0.size ≤ 4611686018427387904) : ∀ (d i : Nat), i + d = l.length → Ev (fun k => contangoref11_Check.l0 k l (i : Int)) (memV l (l.drop i) i)
  | 0, i, hd => by
    refine Ev_succ ?_
    simp only [contangoref11_Check.l0, if_neg (show ¬ (i : Int) < (l.length : Int) by omega)]
    rw [List.drop_of_length_le (by omega)]
    exact Ev.now _
  | d + 1, i, hd => by
    refine Ev_succ ?_
    have hi : i < l.length := by omega
    obtain ⟨s1, s2, s3⟩ := hs _ (List.getElem_mem hi)
    rw [drop_cons l i hi]
    simp only [contangoref11_Check.l0, if_pos (show (i : Int) < (l.length : Int) by omega), if_pos (show 0 ≤ (i : Int) by omega), rdM l i hi, memV]
    refine Ev_bind (nameR_f l[i].f0 s1) ?_
    have bad : Ev (fun k => contangoref11_Check.j2 k l (i : Int) true) (13 : Int) := by
      refine Ev_succ ?_
      simp only [contangoref11_Check.j2, if_true]
      exact Ev.now _
    have good2 : Ev (fun k => contangoref11_Check.j2 k l (i : Int) false) (if l[i].f2.length ≤ 16 then (if accV l[i].f2 l[i].f2 0 = 0 then memV l (l.drop (i + 1)) (i + 1) else accV l[i].f2 l[i].f2 0) else 8) := by
      refine Ev_succ ?_
      simp only [contangoref11_Check.j2, Bool.false_eq_true, if_false, if_pos (show (i : Int) < (l.length : Int) by omega), if_pos (show 0 ≤ (i : Int) by omega), rdM l i hi]
      by_cases c : l[i].f2.length ≤ 16
      · rw [if_pos c]
        have h := raccs_loop l[i].f2 s2 s3 l[i].f2.length 0 (by omega)
        rw [List.drop_zero] at h
        refine Ev_bind (a := accV l[i].f2 l[i].f2 0) ?_ ?_
        · unfold contangoref11_accounts.f
          simp only [if_neg (show ¬ (l[i].f2.length : Int) > 16 by omega)]
          exact h
        · by_cases c2 : accV l[i].f2 l[i].f2 0 = 0
          · simp only [if_pos c2, w_succ hi (by omega)]
            exact rmem_loop l hl hs d (i + 1) (by omega)
          · simp only [if_neg c2]; exact Ev.now _
      · rw [if_neg c]
        refine Ev_bind (a := (8 : Int)) ?_ ?_
        · unfold contangoref11_accounts.f
          simp only [if_pos (show (l[i].f2.length : Int) > 16 by omega)]
          exact Ev.now _
        · simp only [if_neg (show ¬ (8 : Int) = 0 by decide)]
          exact Ev.now _
    have good : Ev (fun k => contangoref11_Check.j1 k l (i : Int) false) (if 1 ≤ l[i].f1 ∧ l[i].f1 ≤ 4 then (if l[i].f2.length ≤ 16 then (if accV l[i].f2 l[i].f2 0 = 0 then memV l (l.drop (i + 1)) (i + 1) else accV l[i].f2 l[i].f2 0) else 8) else 13) := by
      refine Ev_succ ?_
      simp only [contangoref11_Check.j1, Bool.false_eq_true, if_false, if_pos (show (i : Int) < (l.length : Int) by omega), if_pos (show 0 ≤ (i : Int) by omega), rdM l i hi]
      by_cases c1 : l[i].f1 < 1
      · rw [if_neg (by omega)]; simp only [if_pos c1]; exact bad
      by_cases c2 : l[i].f1 > 4
      · rw [if_neg (by omega)]; simp only [if_neg c1, decide_eq_true c2]; exact bad
      rw [if_pos (by omega)]
      simp only [if_neg c1, decide_eq_false c2]
      exact good2
    cases hb : nameB l[i].f0 with
    | false =>
      simp only [nameE_false, Bool.false_eq_true, if_false, if_neg (show ¬ (10 : Int) = 0 by decide)]
      exact Ev.now _
    | true =>
      simp only [if_true]
      by_cases c0 : 0 < i
      · have hw : wrap64 ((i : Int) - 1) = (i : Int) - 1 := w_id (by omega) (by omega)
        simp only [if_pos (show (i : Int) > 0 by omega), hw, if_pos (show 0 ≤ (i : Int) - 1 by omega), if_pos (show (i : Int) - 1 < (l.length : Int) by omega), nameE_succ i c0]
        cases Op.bytesLess (rd_T148 l ((i : Int) - 1)).f0.toList l[i].f0.toList with
        | false =>
          simp only [Bool.not_false, if_true, if_neg (show ¬ (12 : Int) = 0 by decide)]
          refine Ev_succ ?_
          simp only [contangoref11_Check.j1, if_true]
          exact Ev.now _
        | true =>
          simp only [Bool.not_true, Bool.false_eq_true, if_false, if_true]
          exact good
      · obtain rfl : i = 0 := by omega
        simp only [if_neg (show ¬ ((0 : Nat) : Int) > 0 by omega), nameE_zero, if_true]
        exact good
theorem mcheckR_f (l : List Mem) (hl : l.length ≤ 4611686018427387904) (hs : ∀ a ∈ l, a.f0.size ≤ 4611686018427387904 ∧ a.f2.length ≤ 4611686018427387904 ∧ ∀ b ∈ a.f2, b.f0.size ≤ 4611686018427387904) : Ev (fun k => contangoref11_Check.f k l) (memC l) := by
  unfold contangoref11_Check.f memC
  by_cases c : 32 < l.length
  · rw [if_pos c]; simp only [if_pos (show (l.length : Int) > 32 by omega)]; exact Ev.now _
  · rw [if_neg c]; simp only [if_neg (show ¬ (l.length : Int) > 32 by omega)]
    have h := rmem_loop l hl hs l.length 0 (by omega)
    rw [List.drop_zero] at h
    exact h
abbrev Prod9 := S69
theorem Ev_or {α : Type} {g : Nat → Bool → Option α} {a b : Prop} [Decidable a] [Decidable b] {r : α} (ht : (a ∨ b) → Ev (fun k => g k true) r) (hf : ¬ (a ∨ b) → Ev (fun k => g k false) r) : Ev (fun k => if a then g k true else g k (decide b)) r := by
  by_cases ca : a
  · simp only [if_pos ca]; exact ht (Or.inl ca)
  · simp only [if_neg ca]
    by_cases cb : b
    · rw [decide_eq_true cb]; exact ht (Or.inr cb)
    · rw [decide_eq_false cb]; exact hf (fun h => h.elim ca cb)
theorem Ev_if {α : Type} {c : Prop} [Decidable c] {f g : Nat → Option α} {r : α} (h1 : c → Ev f r) (h2 : ¬ c → Ev g r) : Ev (fun k => if c then f k else g k) r := by
  by_cases h : c
  · simp only [if_pos h]; exact h1 h
  · simp only [if_neg h]; exact h2 h
def prodT (p : Prod9) : Int := if -16777216 ≤ p.f4 ∧ p.f4 ≤ 16777216 ∧ -16777216 ≤ p.f5 ∧ p.f5 ≤ 16777216 ∧ p.f4 ≤ p.f5 ∧ Int.tmod p.f4 p.f3 = 0 ∧ Int.tmod p.f5 p.f3 = 0 then 0 else 17
def prodE (p : Prod9) : Int := if nameB p.f0 = true then (if p.f1 < 0 ∨ p.f1 ≥ 8 then 25 else if p.f2 < 1 ∨ p.f2 > 4096 then 2 else if p.f3 < 1 ∨ p.f3 > 16777216 then 16 else prodT p) else 10
theorem pwithin_f (n : Int) : product_within.f n 16777216 = some (decide (-16777216 ≤ n) && decide (n ≤ 16777216)) := by
  unfold product_within.f
  have e : wrap64 (-16777216) = -16777216 := w_id (by omega) (by omega)
  rw [e]
  by_cases h : n ≥ -16777216
  · rw [if_pos h, decide_eq_true (show -16777216 ≤ n from h), Bool.true_and]
  · rw [if_neg h, decide_eq_false (show ¬ -16777216 ≤ n from h), Bool.false_and]
theorem within9_f (n a b : Int) : contangoref09_within.f n a b = some (decide (a ≤ n) && decide (n ≤ b)) := by
  unfold contangoref09_within.f
  by_cases h : n ≥ a
  · rw [if_pos h, decide_eq_true (show a ≤ n from h), Bool.true_and]
  · rw [if_neg h, decide_eq_false (show ¬ a ≤ n from h), Bool.false_and]
theorem and_iff (a b : Prop) [Decidable a] [Decidable b] : (decide a && decide b) = true ↔ a ∧ b := by simp
theorem prodT_of {p : Prod9} (h : ¬ (-16777216 ≤ p.f4 ∧ p.f4 ≤ 16777216 ∧ -16777216 ≤ p.f5 ∧ p.f5 ≤ 16777216 ∧ p.f4 ≤ p.f5 ∧ Int.tmod p.f4 p.f3 = 0 ∧ Int.tmod p.f5 p.f3 = 0)) : prodT p = 17 := if_neg h
theorem prod_f (p : Prod9) : Ev (fun k => product_Check.f k p.f0 p.f1 p.f2 p.f3 p.f4 p.f5 p.f6) (prodE p) := by
  have h3 : ¬ (p.f3 < 1 ∨ p.f3 > 16777216) → Ev (fun k => product_Check.j3 k false p.f0 p.f1 p.f2 p.f3 p.f4 p.f5 p.f6) (prodT p) := by
    intro c
    refine Ev_succ ?_
    simp only [product_Check.j3, Bool.false_eq_true, if_false, pwithin_f, Option.bind_some, and_iff]
    refine Ev_if (fun c1 => Ev_if (fun c2 => Ev_if (fun c3 => ?_) fun c3 => Ev_if (fun c4 => by omega) fun c4 => Ev_if (fun c5 => Ev_if (fun c6 => ?_) fun c6 => ?_) fun c5 => ?_) fun c2 => ?_) fun c1 => ?_
    · rw [prodT_of (by omega)]; exact Ev.now _
    · have : prodT p = 0 := if_pos ⟨c1.1, c1.2, c2.1, c2.2, by omega, c5, c6⟩
      rw [this]; exact Ev.now _
    · rw [prodT_of (fun h => c6 h.2.2.2.2.2.2)]; exact Ev.now _
    · rw [prodT_of (fun h => c5 h.2.2.2.2.2.1)]; exact Ev.now _
    · rw [prodT_of (by omega)]; exact Ev.now _
    · rw [prodT_of (by omega)]; exact Ev.now _
  have h0 : nameB p.f0 = true → Ev (fun k => product_Check.j0 k false p.f0 p.f1 p.f2 p.f3 p.f4 p.f5 p.f6) (prodE p) := by
    intro hn
    refine Ev_succ ?_
    unfold prodE
    rw [if_pos hn]
    simp only [product_Check.j0, Bool.false_eq_true, if_false]
    refine Ev_or (g := fun k b => product_Check.j1 k b p.f0 p.f1 p.f2 p.f3 p.f4 p.f5 p.f6) (fun c => ?_) (fun c => ?_)
    · rw [if_pos c]; refine Ev_succ ?_; simp only [product_Check.j1, if_true]; exact Ev.now _
    rw [if_neg c]
    refine Ev_succ ?_
    simp only [product_Check.j1, Bool.false_eq_true, if_false]
    refine Ev_or (g := fun k b => product_Check.j2 k b p.f0 p.f1 p.f2 p.f3 p.f4 p.f5 p.f6) (fun c => ?_) (fun c => ?_)
    · rw [if_pos c]; refine Ev_succ ?_; simp only [product_Check.j2, if_true]; exact Ev.now _
    rw [if_neg c]
    refine Ev_succ ?_
    simp only [product_Check.j2, Bool.false_eq_true, if_false]
    refine Ev_or (g := fun k b => product_Check.j3 k b p.f0 p.f1 p.f2 p.f3 p.f4 p.f5 p.f6) (fun c => ?_) (fun c => ?_)
    · rw [if_pos c]; refine Ev_succ ?_; simp only [product_Check.j3, if_true]; exact Ev.now _
    rw [if_neg c]
    exact h3 c
  have h1 : nameB p.f0 = false → Ev (fun k => product_Check.j0 k true p.f0 p.f1 p.f2 p.f3 p.f4 p.f5 p.f6) (prodE p) := by
    intro hn
    refine Ev_succ ?_
    unfold prodE
    rw [if_neg (by rw [hn]; decide)]
    simp only [product_Check.j0, if_true]
    exact Ev.now _
  unfold product_Check.f
  refine Ev_if (fun c => ?_) (fun c => ?_)
  · refine h1 ?_
    simp only [Bool.and_eq_true, beq_iff_eq] at c
    have e : p.f0.size = 0 := by
      have : p.f0.data.toList = [] := by rw [← ByteArray.toList_eq]; exact c.1
      have h2 : p.f0.data.toList.length = 0 := by rw [this]; rfl
      simpa using h2
    unfold nameB
    rw [e]; rfl
  · refine Ev_bind (name_f p.f0) ?_
    cases hn : nameB p.f0 with
    | true => exact h0 hn
    | false => exact h1 hn
theorem prodR_f (p : Prod9) (hs : p.f0.size ≤ 4611686018427387904) : Ev (fun k => contangoref09_Check.f k p.f0 p.f1 p.f2 p.f3 p.f4 p.f5 p.f6) (prodE p) := by
  unfold contangoref09_Check.f
  refine Ev_bind (nameR_f p.f0 hs) ?_
  unfold prodE
  simp only [within9_f, Option.bind_some, and_iff]
  refine Ev_if (fun c => ?_) (fun c => ?_)
  case refine_2 => rw [if_neg c]; exact Ev.now _
  rw [if_pos c]
  refine Ev_if (fun c => ?_) (fun c => ?_)
  case refine_2 => rw [if_pos (show p.f1 < 0 ∨ p.f1 ≥ 8 by omega)]; exact Ev.now _
  rw [if_neg (show ¬ (p.f1 < 0 ∨ p.f1 ≥ 8) by omega)]
  refine Ev_if (fun c => ?_) (fun c => ?_)
  case refine_2 => rw [if_pos (show p.f2 < 1 ∨ p.f2 > 4096 by omega)]; exact Ev.now _
  rw [if_neg (show ¬ (p.f2 < 1 ∨ p.f2 > 4096) by omega)]
  refine Ev_if (fun c => ?_) (fun c => ?_)
  case refine_2 => rw [if_pos (show p.f3 < 1 ∨ p.f3 > 16777216 by omega)]; exact Ev.now _
  rw [if_neg (show ¬ (p.f3 < 1 ∨ p.f3 > 16777216) by omega)]
  refine Ev_if (fun c1 => Ev_if (fun c2 => Ev_if (fun c3 => ?_) fun c3 => Ev_if (fun c4 => by omega) fun c4 => Ev_if (fun c5 => Ev_if (fun c6 => ?_) fun c6 => ?_) fun c5 => ?_) fun c2 => ?_) fun c1 => ?_
  · rw [prodT_of (by omega)]; exact Ev.now _
  · have : prodT p = 0 := if_pos ⟨c1.1, c1.2, c2.1, c2.2, by omega, c5, c6⟩
    rw [this]; exact Ev.now _
  · rw [prodT_of (fun h => c6 h.2.2.2.2.2.2)]; exact Ev.now _
  · rw [prodT_of (fun h => c5 h.2.2.2.2.2.1)]; exact Ev.now _
  · rw [prodT_of (by omega)]; exact Ev.now _
  · rw [prodT_of (by omega)]; exact Ev.now _
def ProdOk (p : Prod9) : Prop := 1 ≤ p.f3 ∧ p.f3 ≤ 16777216 ∧ -16777216 ≤ p.f4 ∧ p.f4 ≤ 16777216 ∧ -16777216 ≤ p.f5 ∧ p.f5 ≤ 16777216 ∧ p.f4 ≤ p.f5 ∧ Int.tmod p.f4 p.f3 = 0 ∧ Int.tmod p.f5 p.f3 = 0
theorem prodE_zero {p : Prod9} (h : prodE p = 0) : ProdOk p := by
  unfold prodE at h
  by_cases c0 : nameB p.f0 = true
  case neg => rw [if_neg c0] at h; omega
  rw [if_pos c0] at h
  by_cases c1 : p.f1 < 0 ∨ p.f1 ≥ 8
  · rw [if_pos c1] at h; omega
  rw [if_neg c1] at h
  by_cases c2 : p.f2 < 1 ∨ p.f2 > 4096
  · rw [if_pos c2] at h; omega
  rw [if_neg c2] at h
  by_cases c3 : p.f3 < 1 ∨ p.f3 > 16777216
  · rw [if_pos c3] at h; omega
  rw [if_neg c3] at h
  unfold prodT at h
  split at h
  · rename_i c
    unfold ProdOk
    exact ⟨by omega, by omega, c.1, c.2.1, c.2.2.1, c.2.2.2.1, c.2.2.2.2.1, c.2.2.2.2.2.1, c.2.2.2.2.2.2⟩
  · omega
def prodPrice (p : Prod9) (n : Int) : Int := if prodE p = 0 then (if n < p.f4 ∨ n > p.f5 then 17 else if Int.tmod n p.f3 = 0 then 0 else 16) else prodE p
theorem prodPrice_f (p : Prod9) (n : Int) : Ev (fun k => product_Price.f k p.f0 p.f1 p.f2 p.f3 p.f4 p.f5 p.f6 n) (prodPrice p n) := by
  unfold product_Price.f prodPrice
  refine Ev_bind (prod_f p) ?_
  refine Ev_if (fun h => ?_) (fun h => by rw [if_neg h]; exact Ev.now _)
  rw [if_pos h]
  have hok := prodE_zero h
  unfold ProdOk at hok
  refine Ev_or (g := fun k b => product_Price.j0 k n b p.f0 p.f1 p.f2 p.f3 p.f4 p.f5 p.f6) (fun c => ?_) (fun c => ?_)
  · rw [if_pos c]; refine Ev_succ ?_; simp only [product_Price.j0, if_true]; exact Ev.now _
  rw [if_neg c]
  refine Ev_succ ?_
  simp only [product_Price.j0, Bool.false_eq_true, if_false, if_neg (show ¬ p.f3 = 0 by omega)]
  refine Ev_if (fun h => ?_) (fun h => ?_)
  · rw [if_pos h]; exact Ev.now _
  · rw [if_neg h]; exact Ev.now _
theorem prodPriceR_f (p : Prod9) (n : Int) (hs : p.f0.size ≤ 4611686018427387904) : Ev (fun k => contangoref09_Price.f k p.f0 p.f1 p.f2 p.f3 p.f4 p.f5 p.f6 n) (prodPrice p n) := by
  unfold contangoref09_Price.f prodPrice
  refine Ev_bind (prodR_f p hs) ?_
  refine Ev_if (fun h => ?_) (fun h => by rw [if_neg h]; exact Ev.now _)
  rw [if_pos h]
  have hok := prodE_zero h
  unfold ProdOk at hok
  simp only [within9_f, Option.bind_some, and_iff, if_neg (show ¬ p.f3 = 0 by omega)]
  refine Ev_if (fun c => ?_) (fun c => by rw [if_pos (show n < p.f4 ∨ n > p.f5 by omega)]; exact Ev.now _)
  rw [if_neg (show ¬ (n < p.f4 ∨ n > p.f5) by omega)]
  refine Ev_if (fun h => ?_) (fun h => ?_)
  · rw [if_pos h]; exact Ev.now _
  · rw [if_neg h]; exact Ev.now _
theorem rdP (l : List Prod9) (i : Nat) (h : i < l.length) : rd_T69 l (i : Int) = l[i] := by simp [rd_T69, h]
def fstT (q : Prod9 × Bool) : ByteArray × Int × Int × Int × Int × Int × Bool × Bool := (q.1.f0, q.1.f1, q.1.f2, q.1.f3, q.1.f4, q.1.f5, q.1.f6, q.2)
theorem findR_loop (l : List Prod9) (s : ByteArray) (hl : l.length ≤ 4611686018427387904) : ∀ (d i : Nat), i + d = l.length → Ev (fun k => contangoref09_Find.l0 k l s i) (fstT (fstP s (l.drop i)))
  | 0, i, hd => by
    refine Ev_succ ?_
    simp only [contangoref09_Find.l0, if_neg (show ¬ ((i : Int) < (l.length : Int)) by omega)]
    rw [List.drop_of_length_le (by omega)]
    exact Ev.now _
  | d + 1, i, hd => by
    have hi : i < l.length := by omega
    have ih := findR_loop l s hl d (i + 1) (by omega)
    refine Ev_succ ?_
    simp only [contangoref09_Find.l0, if_pos (show (i : Int) < (l.length : Int) by omega), if_pos (show 0 ≤ (i : Int) by omega), w_succ hi (by omega), rdP l i hi]
    rw [drop_cons l i hi, fstP]
    by_cases c : l[i].f0.toList = s.toList
    · simp only [if_pos c]
      exact Ev.now _
    · simp only [if_neg c]
      exact ih
def allE (l : List Prod9) : Nat → Nat → Int
  | 0, _ => 0
  | d + 1, i => if prodE (l.getD i z69) = 0 then (if i > 0 then (if Op.bytesLess (l.getD (i - 1) z69).f0.toList (l.getD i z69).f0.toList = true then allE l d (i + 1) else 12) else allE l d (i + 1)) else prodE (l.getD i z69)
theorem rdG (l : List Prod9) (i : Nat) : rd_T69 l (i : Int) = l.getD i z69 := by unfold rd_T69; rw [Int.toNat_natCast]
theorem all_loop (l : List Prod9) (hl : l.length ≤ 4611686018427387904) : ∀ (d i : Nat), i + d = l.length → Ev (fun k => product_CheckAll.l0 k l l l.length i) (allE l d i)
  | 0, i, hd => by
    refine Ev_succ ?_
    simp only [product_CheckAll.l0, if_neg (show ¬ ((i : Int) < (l.length : Int)) by omega)]
    exact Ev.now _
  | d + 1, i, hd => by
    have hi : i < l.length := by omega
    have ih := all_loop l hl d (i + 1) (by omega)
    refine Ev_succ ?_
    simp only [product_CheckAll.l0, if_pos (show (i : Int) < (l.length : Int) by omega), if_pos (show 0 ≤ (i : Int) by omega), w_succ hi (by omega), rdG]
    refine Ev_bind (prod_f (l.getD i z69)) ?_
    unfold allE
    by_cases c : prodE (l.getD i z69) = 0
    · simp only [if_pos c]
      by_cases c2 : i > 0
      · simp only [if_pos c2, if_pos (show (i : Int) > 0 by omega), w_pred c2 (by omega), if_pos (show 0 ≤ ((i - 1 : Nat) : Int) by omega), if_pos (show ((i - 1 : Nat) : Int) < (l.length : Int) by omega), rdG]
        by_cases c3 : Op.bytesLess (l.getD (i - 1) z69).f0.toList (l.getD i z69).f0.toList = true
        · simp only [if_pos c3]; exact ih
        · simp only [if_neg c3]; exact Ev.now _
      · simp only [if_neg c2, if_neg (show ¬ (i : Int) > 0 by omega)]; exact ih
    · simp only [if_neg c]; exact Ev.now _
theorem allR_loop (l : List Prod9) (hl : l.length ≤ 4611686018427387904) (hs : ∀ p ∈ l, p.f0.size ≤ 4611686018427387904) : ∀ (d i : Nat), i + d = l.length → Ev (fun k => contangoref09_CheckAll.l0 k l i) (allE l d i)
  | 0, i, hd => by
    refine Ev_succ ?_
    simp only [contangoref09_CheckAll.l0, if_neg (show ¬ ((i : Int) < (l.length : Int)) by omega)]
    exact Ev.now _
  | d + 1, i, hd => by
    have hi : i < l.length := by omega
    have ih := allR_loop l hl hs d (i + 1) (by omega)
    have hg : (l.getD i z69).f0.size ≤ 4611686018427387904 := by
      have : l.getD i z69 = l[i] := by simp [hi]
      rw [this]
      exact hs _ (List.getElem_mem hi)
    refine Ev_succ ?_
    simp only [contangoref09_CheckAll.l0, if_pos (show (i : Int) < (l.length : Int) by omega), if_pos (show 0 ≤ (i : Int) by omega), w_succ hi (by omega), rdG]
    refine Ev_bind (prodR_f (l.getD i z69) hg) ?_
    unfold allE
    by_cases c : prodE (l.getD i z69) = 0
    · simp only [if_pos c]
      by_cases c2 : i > 0
      · simp only [if_pos c2, if_pos (show (i : Int) > 0 by omega), w_pred c2 (by omega), if_pos (show 0 ≤ ((i - 1 : Nat) : Int) by omega), if_pos (show ((i - 1 : Nat) : Int) < (l.length : Int) by omega), rdG]
        by_cases c3 : Op.bytesLess (l.getD (i - 1) z69).f0.toList (l.getD i z69).f0.toList = true
        · simp only [if_pos c3]; exact ih
        · simp only [if_neg c3]; exact Ev.now _
      · simp only [if_neg c2, if_neg (show ¬ (i : Int) > 0 by omega)]; exact ih
    · simp only [if_neg c]; exact Ev.now _
def allC (l : List Prod9) : Int := if (l.length : Int) > 32 then 8 else allE l l.length 0
theorem allC_f (l : List Prod9) (hl : l.length ≤ 4611686018427387904) : Ev (fun k => product_CheckAll.f k l) (allC l) := by
  unfold product_CheckAll.f allC
  by_cases c : (l.length : Int) > 32
  · simp only [if_pos c]; exact Ev.now _
  · simp only [if_neg c]; exact all_loop l hl l.length 0 (by omega)
theorem allCR_f (l : List Prod9) (hl : l.length ≤ 4611686018427387904) (hs : ∀ p ∈ l, p.f0.size ≤ 4611686018427387904) : Ev (fun k => contangoref09_CheckAll.f k l) (allC l) := by
  unfold contangoref09_CheckAll.f allC
  by_cases c : (l.length : Int) > 32
  · simp only [if_pos c]; exact Ev.now _
  · simp only [if_neg c]; exact allR_loop l hl hs l.length 0 (by omega)
def tailC (s : S23) (p : Prod9) : Int := if s.f2 < 0 ∨ s.f2 > 73048 then 15 else if s.f1 = 1 then (if s.f3 = 0 then 0 else 17) else (if prodPrice p s.f3 = 0 then 0 else 17)
def chkE (l : List Prod9) (s : S23) : Int := if allC l = 0 then (if (fstP s.f0 l).2 = true ∧ 1 ≤ s.f1 ∧ s.f1 ≤ 3 then tailC s (fstP s.f0 l).1 else 19) else allC l
theorem chk_j0 (s : S23) (p : Prod9) (h1 : 1 ≤ s.f1) : Ev (fun k => series_Check.j0 k false s.f0 s.f1 s.f2 s.f3 p.f0 p.f1 p.f2 p.f3 p.f4 p.f5 p.f6) (tailC s p) := by
  refine Ev_succ ?_
  simp only [series_Check.j0, Bool.false_eq_true, if_false]
  unfold tailC
  have bad : Ev (fun k => series_Check.j1 k true s.f0 s.f1 s.f2 s.f3 p.f0 p.f1 p.f2 p.f3 p.f4 p.f5 p.f6) (15 : Int) := Ev_succ (by simp only [series_Check.j1, if_true]; exact Ev.now _)
  by_cases c1 : s.f2 < 0
  · rw [if_pos (Or.inl c1)]; simp only [if_pos c1]; exact bad
  by_cases c2 : s.f2 > 73048
  · rw [if_pos (Or.inr c2)]; simp only [if_neg c1, decide_eq_true c2]; exact bad
  rw [if_neg (by omega)]
  simp only [if_neg c1, decide_eq_false c2]
  refine Ev_succ ?_
  simp only [series_Check.j1, Bool.false_eq_true, if_false]
  by_cases c3 : s.f1 = 1
  · simp only [if_pos c3]
    refine Ev_succ ?_
    by_cases c4 : s.f3 = 0
    · have e : (s.f3 != 0) = false := by rw [bne_eq_false_iff_eq]; exact c4
      simp only [series_Check.j2, e, Bool.false_eq_true, if_false, if_pos c3, if_pos c4]
      exact Ev.now _
    · have e : (s.f3 != 0) = true := by rw [bne_iff_ne]; exact c4
      simp only [series_Check.j2, e, if_true, if_neg c4]
      exact Ev.now _
  · simp only [if_neg c3]
    refine Ev_succ ?_
    simp only [series_Check.j2, Bool.false_eq_true, if_false, if_neg c3]
    refine Ev_bind (prodPrice_f p s.f3) ?_
    by_cases c4 : prodPrice p s.f3 = 0
    · simp only [if_pos c4]; exact Ev.now _
    · simp only [if_neg c4]; exact Ev.now _
theorem chkR_j0 (s : S23) (p : Prod9) (h1 : 1 ≤ s.f1) (hs : p.f0.size ≤ 4611686018427387904) : Ev (fun k => contangoref10_Check.j0 k false s.f0 s.f1 s.f2 s.f3 p.f0 p.f1 p.f2 p.f3 p.f4 p.f5 p.f6) (tailC s p) := by
  refine Ev_succ ?_
  simp only [contangoref10_Check.j0, Bool.false_eq_true, if_false]
  unfold tailC
  have bad : Ev (fun k => contangoref10_Check.j1 k true s.f0 s.f1 s.f2 s.f3 p.f0 p.f1 p.f2 p.f3 p.f4 p.f5 p.f6) (15 : Int) := Ev_succ (by simp only [contangoref10_Check.j1, if_true]; exact Ev.now _)
  by_cases c1 : s.f2 < 0
  · rw [if_pos (Or.inl c1)]; simp only [if_pos c1]; exact bad
  by_cases c2 : s.f2 > 73048
  · rw [if_pos (Or.inr c2)]; simp only [if_neg c1, decide_eq_true c2]; exact bad
  rw [if_neg (by omega)]
  simp only [if_neg c1, decide_eq_false c2]
  refine Ev_succ ?_
  simp only [contangoref10_Check.j1, Bool.false_eq_true, if_false]
  by_cases c3 : s.f1 = 1
  · have c5 : ¬ s.f1 > 1 := by omega
    by_cases c4 : s.f3 = 0
    · simp only [if_pos c3, if_pos c4, if_neg c5]
      exact Ev.now _
    · simp only [if_pos c3, if_neg c4]
      exact Ev.now _
  · have c5 : s.f1 > 1 := by omega
    simp only [if_neg c3, if_pos c5]
    refine Ev_bind (prodPriceR_f p s.f3 hs) ?_
    by_cases c4 : prodPrice p s.f3 = 0
    · simp only [if_pos c4]; exact Ev.now _
    · simp only [if_neg c4]; exact Ev.now _
theorem fst_sz (name : ByteArray) : ∀ l : List Prod9, (∀ p ∈ l, p.f0.size ≤ 4611686018427387904) → (fstP name l).1.f0.size ≤ 4611686018427387904
  | [], _ => by show (0 : Nat) ≤ _; omega
  | p :: r, h => by
    unfold fstP
    split
    · exact h p (by simp)
    · exact fst_sz name r fun q hq => h q (by simp [hq])
theorem chk_f (l : List Prod9) (s : S23) (hl : l.length ≤ 4611686018427387904) : Ev (fun k => series_Check.f k l s.f0 s.f1 s.f2 s.f3) (chkE l s) := by
  unfold series_Check.f chkE
  refine Ev_bind (allC_f l hl) ?_
  by_cases c0 : allC l = 0
  case neg => simp only [if_neg c0]; exact Ev.now _
  simp only [if_pos c0]
  have e1 : product_Find.f l s.f0 = some (fstT (fstP s.f0 l)) := rfl
  rw [e1]
  simp only [Option.bind_some]
  have bad : ∀ p : Prod9, Ev (fun k => series_Check.j0 k true s.f0 s.f1 s.f2 s.f3 p.f0 p.f1 p.f2 p.f3 p.f4 p.f5 p.f6) (19 : Int) := fun p => Ev_succ (by simp only [series_Check.j0, if_true]; exact Ev.now _)
  by_cases c1 : (fstP s.f0 l).2 = true
  case neg => rw [if_neg (fun h => c1 h.1)]; simp only [if_neg (show ¬ (fstT (fstP s.f0 l)).2.2.2.2.2.2.2 = true from c1)]; exact bad (fstP s.f0 l).1
  by_cases c2 : s.f1 < 1
  · rw [if_neg (by omega)]; simp only [if_pos (show (fstT (fstP s.f0 l)).2.2.2.2.2.2.2 = true from c1), if_pos c2]; exact bad (fstP s.f0 l).1
  by_cases c3 : s.f1 > 3
  · rw [if_neg (by omega)]; simp only [if_pos (show (fstT (fstP s.f0 l)).2.2.2.2.2.2.2 = true from c1), if_neg c2, decide_eq_true c3]; exact bad (fstP s.f0 l).1
  rw [if_pos ⟨c1, by omega, by omega⟩]
  simp only [if_pos (show (fstT (fstP s.f0 l)).2.2.2.2.2.2.2 = true from c1), if_neg c2, decide_eq_false c3]
  exact chk_j0 s (fstP s.f0 l).1 (by omega)
theorem chkR_f (l : List Prod9) (s : S23) (hl : l.length ≤ 4611686018427387904) (hs : ∀ p ∈ l, p.f0.size ≤ 4611686018427387904) : Ev (fun k => contangoref10_Check.f k l s.f0 s.f1 s.f2 s.f3) (chkE l s) := by
  unfold contangoref10_Check.f chkE
  refine Ev_bind (allCR_f l hl hs) ?_
  by_cases c0 : allC l = 0
  case neg => simp only [if_neg c0]; exact Ev.now _
  simp only [if_pos c0]
  have hf := findR_loop l s.f0 hl l.length 0 (by omega)
  rw [List.drop_zero] at hf
  refine Ev_bind (g := fun k => contangoref09_Find.f k l s.f0) hf ?_
  have bad : ∀ p : Prod9, Ev (fun k => contangoref10_Check.j0 k true s.f0 s.f1 s.f2 s.f3 p.f0 p.f1 p.f2 p.f3 p.f4 p.f5 p.f6) (19 : Int) := fun p => Ev_succ (by simp only [contangoref10_Check.j0, if_true]; exact Ev.now _)
  by_cases c1 : (fstP s.f0 l).2 = true
  case neg => rw [if_neg (fun h => c1 h.1)]; simp only [if_neg (show ¬ (fstT (fstP s.f0 l)).2.2.2.2.2.2.2 = true from c1)]; exact bad (fstP s.f0 l).1
  by_cases c2 : s.f1 < 1
  · rw [if_neg (by omega)]; simp only [if_pos (show (fstT (fstP s.f0 l)).2.2.2.2.2.2.2 = true from c1), if_pos c2]; exact bad (fstP s.f0 l).1
  by_cases c3 : s.f1 > 3
  · rw [if_neg (by omega)]; simp only [if_pos (show (fstT (fstP s.f0 l)).2.2.2.2.2.2.2 = true from c1), if_neg c2, decide_eq_true c3]; exact bad (fstP s.f0 l).1
  rw [if_pos ⟨c1, by omega, by omega⟩]
  simp only [if_pos (show (fstT (fstP s.f0 l)).2.2.2.2.2.2.2 = true from c1), if_neg c2, decide_eq_false c3]
  exact chkR_j0 s (fstP s.f0 l).1 (by omega) (fst_sz s.f0 l hs)
end Go.Proofs.YthpmmofleddpnaaGreatDoor.P
end
section
namespace Go.Proofs.YthpmmofleddpnaaGreatDoor.P
set_option linter.unusedVariables false
open Go.RowKit Go.Proofs.YthpmmofleddpnaaGreatDoorW.PrintWords Go.Proofs.YthpmmofleddpnaaGreatDoorW.PrintMore Go.Proofs.YthpmmofleddpnaaGreatDoor.X
abbrev Trd := S27
end Go.Proofs.YthpmmofleddpnaaGreatDoor.P
end
section
namespace Go.Proofs.YthpmmofleddpnaaGreatDoor.P
set_option linter.unusedVariables false
set_option linter.unusedSimpArgs false
open Go.RowKit Go.Proofs.YthpmmofleddpnaaGreatDoorW.PrintWords Go.Proofs.YthpmmofleddpnaaGreatDoorW.PrintMore Go.Proofs.YthpmmofleddpnaaGreatDoor.X
def chkM (t : Trd) (ms : List Mem) : Int := if memC ms = 0 then (if mayT ms t.f6.f0 t.f6.f1 = 0 then (if mayT ms t.f7.f0 t.f7.f1 = 0 then (if t.f6.f0.toList = t.f7.f0.toList ∧ t.f6.f1.toList = t.f7.f1.toList then 21 else 0) else mayT ms t.f7.f0 t.f7.f1) else mayT ms t.f6.f0 t.f6.f1) else memC ms
def chkP (t : Trd) (ps : List Prod9) (ms : List Mem) : Int := if prodPrice (fstP t.f3.f0 ps).1 t.f5 = 0 then chkM t ms else prodPrice (fstP t.f3.f0 ps).1 t.f5
def chkQ (t : Trd) (ps : List Prod9) (ms : List Mem) : Int := if t.f4 < 1 ∨ t.f4 > 1048576 then 18 else chkP t ps ms
def chkI (t : Trd) (ps : List Prod9) (ms : List Mem) : Int := if (t.f0 < 1 ∨ t.f0 > 1152921504606846976) ∨ (t.f2 < 0 ∨ t.f2 > 86399) then 2 else chkQ t ps ms
def chkT (t : Trd) (ps : List Prod9) (ms : List Mem) : Int := if chkE ps t.f3 = 0 then (if (t.f1 < 0 ∨ t.f1 > 73048) ∨ t.f3.f2 < t.f1 then 15 else chkI t ps ms) else chkE ps t.f3
theorem sameAcc (t : Trd) : (t.f6.f0.toList == t.f7.f0.toList && (t.f6.f1.toList == t.f7.f1.toList)) = true ↔ t.f6.f0.toList = t.f7.f0.toList ∧ t.f6.f1.toList = t.f7.f1.toList := by simp
theorem chk_l0 (t : Trd) (ms : List Mem) (hs : ∀ m ∈ ms, m.f2.length < 137438953472) (i : Nat) (hi : i ≤ 2) : Ev (fun k => trade_Check.l0 k ms ([⟨t.f6.f0, t.f6.f1⟩, ⟨t.f7.f0, t.f7.f1⟩] : List S25) 2 (i : Int) t.f0 t.f1 t.f2 t.f3.f0 t.f3.f1 t.f3.f2 t.f3.f3 t.f4 t.f5 t.f6.f0 t.f6.f1 t.f7.f0 t.f7.f1)
    (if i = 0 then (if mayT ms t.f6.f0 t.f6.f1 = 0 then (if mayT ms t.f7.f0 t.f7.f1 = 0 then (if t.f6.f0.toList = t.f7.f0.toList ∧ t.f6.f1.toList = t.f7.f1.toList then 21 else 0) else mayT ms t.f7.f0 t.f7.f1) else mayT ms t.f6.f0 t.f6.f1) else if i = 1 then (if mayT ms t.f7.f0 t.f7.f1 = 0 then (if t.f6.f0.toList = t.f7.f0.toList ∧ t.f6.f1.toList = t.f7.f1.toList then 21 else 0) else mayT ms t.f7.f0 t.f7.f1) else (if t.f6.f0.toList = t.f7.f0.toList ∧ t.f6.f1.toList = t.f7.f1.toList then 21 else 0)) := by
  have s2 : Ev (fun k => trade_Check.l0 k ms ([⟨t.f6.f0, t.f6.f1⟩, ⟨t.f7.f0, t.f7.f1⟩] : List S25) 2 2 t.f0 t.f1 t.f2 t.f3.f0 t.f3.f1 t.f3.f2 t.f3.f3 t.f4 t.f5 t.f6.f0 t.f6.f1 t.f7.f0 t.f7.f1) (if t.f6.f0.toList = t.f7.f0.toList ∧ t.f6.f1.toList = t.f7.f1.toList then 21 else 0) := by
    refine Ev_succ ?_
    simp only [trade_Check.l0, if_neg (show ¬ (2 : Int) < 2 by decide), sameAcc]
    split
    · exact Ev.now _
    · exact Ev.now _
  have s1 : Ev (fun k => trade_Check.l0 k ms ([⟨t.f6.f0, t.f6.f1⟩, ⟨t.f7.f0, t.f7.f1⟩] : List S25) 2 1 t.f0 t.f1 t.f2 t.f3.f0 t.f3.f1 t.f3.f2 t.f3.f3 t.f4 t.f5 t.f6.f0 t.f6.f1 t.f7.f0 t.f7.f1) (if mayT ms t.f7.f0 t.f7.f1 = 0 then (if t.f6.f0.toList = t.f7.f0.toList ∧ t.f6.f1.toList = t.f7.f1.toList then 21 else 0) else mayT ms t.f7.f0 t.f7.f1) := by
    refine Ev_succ ?_
    have e1 : rd_T25 ([⟨t.f6.f0, t.f6.f1⟩, ⟨t.f7.f0, t.f7.f1⟩] : List S25) 1 = ⟨t.f7.f0, t.f7.f1⟩ := rfl
    have e2 : wrap64 ((1 : Int) + 1) = 2 := w_id (by decide) (by decide)
    simp only [trade_Check.l0, if_pos (show (1 : Int) < 2 by decide), if_pos (show 0 ≤ (1 : Int) by decide), e1, e2, List.length_cons, List.length_nil, if_pos (show (1 : Int) < ((0 + 1 + 1 : Nat) : Int) by decide)]
    refine Ev_bind (may_f ms t.f7.f0 t.f7.f1 hs) ?_
    by_cases c : mayT ms t.f7.f0 t.f7.f1 = 0
    · simp only [if_pos c]; exact s2
    · simp only [if_neg c]; exact Ev.now _
  have s0 : Ev (fun k => trade_Check.l0 k ms ([⟨t.f6.f0, t.f6.f1⟩, ⟨t.f7.f0, t.f7.f1⟩] : List S25) 2 0 t.f0 t.f1 t.f2 t.f3.f0 t.f3.f1 t.f3.f2 t.f3.f3 t.f4 t.f5 t.f6.f0 t.f6.f1 t.f7.f0 t.f7.f1) (if mayT ms t.f6.f0 t.f6.f1 = 0 then (if mayT ms t.f7.f0 t.f7.f1 = 0 then (if t.f6.f0.toList = t.f7.f0.toList ∧ t.f6.f1.toList = t.f7.f1.toList then 21 else 0) else mayT ms t.f7.f0 t.f7.f1) else mayT ms t.f6.f0 t.f6.f1) := by
    refine Ev_succ ?_
    have e1 : rd_T25 ([⟨t.f6.f0, t.f6.f1⟩, ⟨t.f7.f0, t.f7.f1⟩] : List S25) 0 = ⟨t.f6.f0, t.f6.f1⟩ := rfl
    have e2 : wrap64 ((0 : Int) + 1) = 1 := w_id (by decide) (by decide)
    simp only [trade_Check.l0, if_pos (show (0 : Int) < 2 by decide), if_pos (show 0 ≤ (0 : Int) by decide), e1, e2, List.length_cons, List.length_nil, if_pos (show (0 : Int) < ((0 + 1 + 1 : Nat) : Int) by decide)]
    refine Ev_bind (may_f ms t.f6.f0 t.f6.f1 hs) ?_
    by_cases c : mayT ms t.f6.f0 t.f6.f1 = 0
    · simp only [if_pos c]; exact s1
    · simp only [if_neg c]; exact Ev.now _
  match i, hi with
  | 0, _ => exact s0
  | 1, _ => exact s1
  | 2, _ => exact s2
theorem nameE_ok {b : Bool} {i : Nat} {p x : ByteArray} (h : nameE b i p x = 0) : b = true := by
  unfold nameE at h
  cases b with
  | true => rfl
  | false => rw [if_neg (by decide)] at h; exact absurd h (by decide)
theorem memV_zero (l : List Mem) : ∀ (r : List Mem) (i : Nat), memV l r i = 0 → ∀ m ∈ r, nameB m.f0 = true ∧ m.f2.length ≤ 16 ∧ accV m.f2 m.f2 0 = 0
  | [], _, _, a, h => by cases h
  | x :: r, i, h, a, ha => by
    unfold memV at h
    by_cases c1 : nameE (nameB x.f0) i (rd_T148 l ((i : Int) - 1)).f0 x.f0 = 0
    case neg => rw [if_neg c1] at h; exact absurd h c1
    rw [if_pos c1] at h
    by_cases c2 : 1 ≤ x.f1 ∧ x.f1 ≤ 4
    case neg => rw [if_neg c2] at h; exact absurd h (by decide)
    rw [if_pos c2] at h
    by_cases c3 : x.f2.length ≤ 16
    case neg => rw [if_neg c3] at h; exact absurd h (by decide)
    rw [if_pos c3] at h
    by_cases c4 : accV x.f2 x.f2 0 = 0
    case neg => rw [if_neg c4] at h; exact absurd h c4
    rw [if_pos c4] at h
    rcases List.mem_cons.1 ha with rfl | ha
    · exact ⟨nameE_ok c1, c3, c4⟩
    · exact memV_zero l r (i + 1) h a ha
theorem memC_zero {l : List Mem} (h : memC l = 0) : ∀ m ∈ l, nameB m.f0 = true ∧ m.f2.length ≤ 16 ∧ accV m.f2 m.f2 0 = 0 := by
  unfold memC at h
  by_cases c : 32 < l.length
  · rw [if_pos c] at h; exact absurd h (by decide)
  · rw [if_neg c] at h; exact memV_zero l l 0 h
theorem chk_j1 (t : Trd) (ps : List Prod9) (ms : List Mem) : Ev (fun k => trade_Check.j1 k ps ms false t.f0 t.f1 t.f2 t.f3.f0 t.f3.f1 t.f3.f2 t.f3.f3 t.f4 t.f5 t.f6.f0 t.f6.f1 t.f7.f0 t.f7.f1) (chkQ t ps ms) := by
  refine Ev_succ ?_
  simp only [trade_Check.j1, Bool.false_eq_true, if_false]
  unfold chkQ
  by_cases c1 : t.f4 < 1
  · rw [if_pos (Or.inl c1)]; simp only [if_pos c1]; exact Ev.now _
  by_cases c2 : t.f4 > 1048576
  · rw [if_pos (Or.inr c2)]; simp only [if_neg c1, if_pos c2]; exact Ev.now _
  rw [if_neg (by omega)]
  have e1 : product_Find.f ps t.f3.f0 = some (fstT (fstP t.f3.f0 ps)) := rfl
  simp only [if_neg c1, if_neg c2, e1, Option.bind_some]
  unfold chkP
  refine Ev_bind (prodPrice_f (fstP t.f3.f0 ps).1 t.f5) ?_
  by_cases c3 : prodPrice (fstP t.f3.f0 ps).1 t.f5 = 0
  case neg => simp only [if_neg c3]; exact Ev.now _
  simp only [if_pos c3]
  unfold chkM
  refine Ev_bind (mcheck_f ms) ?_
  by_cases c4 : memC ms = 0
  case neg => simp only [if_neg c4]; exact Ev.now _
  simp only [if_pos c4]
  exact chk_l0 t ms (fun m h => by have := (memC_zero c4 m h).2.1; omega) 0 (by decide)
theorem chk_jt (t : Trd) (ps : List Prod9) (ms : List Mem) : Ev (fun k => trade_Check.j1 k ps ms true t.f0 t.f1 t.f2 t.f3.f0 t.f3.f1 t.f3.f2 t.f3.f3 t.f4 t.f5 t.f6.f0 t.f6.f1 t.f7.f0 t.f7.f1) (2 : Int) := by
  refine Ev_succ ?_
  simp only [trade_Check.j1, if_true]
  exact Ev.now _
theorem chk_j0T (t : Trd) (ps : List Prod9) (ms : List Mem) : Ev (fun k => trade_Check.j0 k ps ms false t.f0 t.f1 t.f2 t.f3.f0 t.f3.f1 t.f3.f2 t.f3.f3 t.f4 t.f5 t.f6.f0 t.f6.f1 t.f7.f0 t.f7.f1) (chkI t ps ms) := by
  refine Ev_succ ?_
  simp only [trade_Check.j0, Bool.false_eq_true, if_false]
  unfold chkI
  by_cases c1 : t.f0 < 1
  · rw [if_pos (by omega)]; simp only [if_pos c1]; exact chk_jt t ps ms
  by_cases c2 : t.f0 > 1152921504606846976
  · rw [if_pos (by omega)]; simp only [if_neg c1, if_pos c2]; exact chk_jt t ps ms
  by_cases c3 : t.f2 < 0
  · rw [if_pos (by omega)]; simp only [if_neg c1, if_neg c2, if_pos c3]; exact chk_jt t ps ms
  by_cases c4 : t.f2 > 86399
  · rw [if_pos (by omega)]; simp only [if_neg c1, if_neg c2, if_neg c3, decide_eq_true c4]; exact chk_jt t ps ms
  rw [if_neg (by omega)]
  simp only [if_neg c1, if_neg c2, if_neg c3, decide_eq_false c4]
  exact chk_j1 t ps ms
theorem chk_jb (t : Trd) (ps : List Prod9) (ms : List Mem) : Ev (fun k => trade_Check.j0 k ps ms true t.f0 t.f1 t.f2 t.f3.f0 t.f3.f1 t.f3.f2 t.f3.f3 t.f4 t.f5 t.f6.f0 t.f6.f1 t.f7.f0 t.f7.f1) (15 : Int) := by
  refine Ev_succ ?_
  simp only [trade_Check.j0, if_true]
  exact Ev.now _
theorem tcheck_f (t : Trd) (ps : List Prod9) (ms : List Mem) (hl : ps.length ≤ 4611686018427387904) : Ev (fun k => trade_Check.f k t.f0 t.f1 t.f2 t.f3.f0 t.f3.f1 t.f3.f2 t.f3.f3 t.f4 t.f5 t.f6.f0 t.f6.f1 t.f7.f0 t.f7.f1 ps ms) (chkT t ps ms) := by
  unfold trade_Check.f chkT
  refine Ev_bind (chk_f ps t.f3 hl) ?_
  by_cases c0 : chkE ps t.f3 = 0
  case neg => simp only [if_neg c0]; exact Ev.now _
  simp only [if_pos c0, series_Live.f, Option.bind_some]
  by_cases c1 : t.f1 < 0
  · rw [if_pos (by omega)]; simp only [if_pos c1]; exact chk_jb t ps ms
  by_cases c2 : t.f1 > 73048
  · rw [if_pos (by omega)]; simp only [if_neg c1, if_pos c2]; exact chk_jb t ps ms
  simp only [if_neg c1, if_neg c2]
  by_cases c3 : t.f3.f2 ≥ t.f1
  · rw [if_neg (by omega)]; simp only [decide_eq_true c3, Bool.not_true]; exact chk_j0T t ps ms
  · rw [if_pos (by omega)]; simp only [decide_eq_false c3, Bool.not_false]; exact chk_jb t ps ms
theorem chkT_zero {t : Trd} {ps : List Prod9} {ms : List Mem} (h : chkT t ps ms = 0) : chkE ps t.f3 = 0 ∧ (0 ≤ t.f1 ∧ t.f1 ≤ 73048) ∧ (1 ≤ t.f0 ∧ t.f0 ≤ 1152921504606846976) ∧ (0 ≤ t.f2 ∧ t.f2 ≤ 86399) ∧ (1 ≤ t.f4 ∧ t.f4 ≤ 1048576) ∧ prodPrice (fstP t.f3.f0 ps).1 t.f5 = 0 ∧ memC ms = 0 ∧ mayT ms t.f6.f0 t.f6.f1 = 0 ∧ mayT ms t.f7.f0 t.f7.f1 = 0 ∧ ¬ (t.f6.f0.toList = t.f7.f0.toList ∧ t.f6.f1.toList = t.f7.f1.toList) := by
  unfold chkT at h
  by_cases c0 : chkE ps t.f3 = 0
  case neg => rw [if_neg c0] at h; exact absurd h c0
  rw [if_pos c0] at h
  by_cases c1 : (t.f1 < 0 ∨ t.f1 > 73048) ∨ t.f3.f2 < t.f1
  · rw [if_pos c1] at h; exact absurd h (by decide)
  rw [if_neg c1] at h
  unfold chkI at h
  by_cases c2 : (t.f0 < 1 ∨ t.f0 > 1152921504606846976) ∨ (t.f2 < 0 ∨ t.f2 > 86399)
  · rw [if_pos c2] at h; exact absurd h (by decide)
  rw [if_neg c2] at h
  unfold chkQ at h
  by_cases c3 : t.f4 < 1 ∨ t.f4 > 1048576
  · rw [if_pos c3] at h; exact absurd h (by decide)
  rw [if_neg c3] at h
  unfold chkP at h
  by_cases c4 : prodPrice (fstP t.f3.f0 ps).1 t.f5 = 0
  case neg => rw [if_neg c4] at h; exact absurd h c4
  rw [if_pos c4] at h
  unfold chkM at h
  by_cases c5 : memC ms = 0
  case neg => rw [if_neg c5] at h; exact absurd h c5
  rw [if_pos c5] at h
  by_cases c6 : mayT ms t.f6.f0 t.f6.f1 = 0
  case neg => rw [if_neg c6] at h; exact absurd h c6
  rw [if_pos c6] at h
  by_cases c7 : mayT ms t.f7.f0 t.f7.f1 = 0
  case neg => rw [if_neg c7] at h; exact absurd h c7
  rw [if_pos c7] at h
  by_cases c8 : t.f6.f0.toList = t.f7.f0.toList ∧ t.f6.f1.toList = t.f7.f1.toList
  · rw [if_pos c8] at h; exact absurd h (by decide)
  exact ⟨c0, by omega, by omega, by omega, by omega, c4, c5, c6, c7, c8⟩
end Go.Proofs.YthpmmofleddpnaaGreatDoor.P
end
section
namespace Go.Proofs.YthpmmofleddpnaaGreatDoor.P
open Go.RowKit Go.Proofs.YthpmmofleddpnaaGreatDoorW.PrintWords Go.Proofs.YthpmmofleddpnaaGreatDoorW.PrintMore Go.Proofs.YthpmmofleddpnaaGreatDoor.X
set_option maxRecDepth 100000 in
theorem goes12 : Ev (fun k => contangolaw12_goes.f k) true := Ev.of (k := 60) (contangolaw12_goes.mono) (by decide +kernel)
end Go.Proofs.YthpmmofleddpnaaGreatDoor.P
end
section
namespace Go.Proofs.YthpmmofleddpnaaGreatDoor.Pure
set_option linter.unusedVariables false
set_option linter.unusedSimpArgs false
open Go.RowKit Go.Proofs.YthpmmofleddpnaaGreatDoorW.PrintWords Go.Proofs.YthpmmofleddpnaaGreatDoorW.PrintMore Go.Proofs.YthpmmofleddpnaaGreatDoor.X Go.Proofs.YthpmmofleddpnaaGreatDoor.P
theorem chkR_j2 (t : Trd) (ps : List Prod9) (ms : List Mem) (hl : ps.length ≤ 4611686018427387904) (hp : ∀ p ∈ ps, p.f0.size ≤ 4611686018427387904) (hm : ms.length ≤ 4611686018427387904) (hs : ∀ a ∈ ms, a.f0.size ≤ 4611686018427387904 ∧ a.f2.length ≤ 4611686018427387904 ∧ ∀ b ∈ a.f2, b.f0.size ≤ 4611686018427387904) : Ev (fun k => contangoref12_Check.j2 k ps ms false t.f0 t.f1 t.f2 t.f3.f0 t.f3.f1 t.f3.f2 t.f3.f3 t.f4 t.f5 t.f6.f0 t.f6.f1 t.f7.f0 t.f7.f1) (chkP t ps ms) := by
  refine Ev_succ ?_
  simp only [contangoref12_Check.j2, Bool.false_eq_true, if_false]
  unfold chkP
  have hf := findR_loop ps t.f3.f0 hl ps.length 0 (by omega)
  rw [List.drop_zero] at hf
  refine Ev_bind (g := fun k => contangoref09_Find.f k ps t.f3.f0) hf ?_
  refine Ev_bind (prodPriceR_f (fstP t.f3.f0 ps).1 t.f5 (fst_sz t.f3.f0 ps hp)) ?_
  by_cases c3 : prodPrice (fstP t.f3.f0 ps).1 t.f5 = 0
  case neg => simp only [if_neg c3]; exact Ev.now _
  simp only [if_pos c3]
  unfold chkM
  refine Ev_bind (mcheckR_f ms hm hs) ?_
  by_cases c4 : memC ms = 0
  case neg => simp only [if_neg c4]; exact Ev.now _
  simp only [if_pos c4]
  have hs2 : ∀ m ∈ ms, m.f2.length ≤ 4611686018427387904 := fun m h => (hs m h).2.1
  refine Ev_bind (rmay_f ms t.f6.f0 t.f6.f1 hm hs2) ?_
  by_cases c5 : mayT ms t.f6.f0 t.f6.f1 = 0
  case neg => simp only [if_neg c5]; exact Ev.now _
  simp only [if_pos c5]
  refine Ev_bind (rmay_f ms t.f7.f0 t.f7.f1 hm hs2) ?_
  by_cases c6 : mayT ms t.f7.f0 t.f7.f1 = 0
  case neg => simp only [if_neg c6]; exact Ev.now _
  simp only [if_pos c6, sameAcc]
  split
  · exact Ev.now _
  · exact Ev.now _
theorem chkR_j1 (t : Trd) (ps : List Prod9) (ms : List Mem) (hl : ps.length ≤ 4611686018427387904) (hp : ∀ p ∈ ps, p.f0.size ≤ 4611686018427387904) (hm : ms.length ≤ 4611686018427387904) (hs : ∀ a ∈ ms, a.f0.size ≤ 4611686018427387904 ∧ a.f2.length ≤ 4611686018427387904 ∧ ∀ b ∈ a.f2, b.f0.size ≤ 4611686018427387904) : Ev (fun k => contangoref12_Check.j1 k ps ms false t.f0 t.f1 t.f2 t.f3.f0 t.f3.f1 t.f3.f2 t.f3.f3 t.f4 t.f5 t.f6.f0 t.f6.f1 t.f7.f0 t.f7.f1) (chkQ t ps ms) := by
  refine Ev_succ ?_
  simp only [contangoref12_Check.j1, Bool.false_eq_true, if_false]
  unfold chkQ
  have bad : Ev (fun k => contangoref12_Check.j2 k ps ms true t.f0 t.f1 t.f2 t.f3.f0 t.f3.f1 t.f3.f2 t.f3.f3 t.f4 t.f5 t.f6.f0 t.f6.f1 t.f7.f0 t.f7.f1) (18 : Int) := by
    refine Ev_succ ?_
    simp only [contangoref12_Check.j2, if_true]
    exact Ev.now _
  by_cases c1 : t.f4 < 1
  · rw [if_pos (Or.inl c1)]; simp only [if_pos c1]; exact bad
  by_cases c2 : t.f4 > 1048576
  · rw [if_pos (Or.inr c2)]; simp only [if_neg c1, decide_eq_true c2]; exact bad
  rw [if_neg (by omega)]
  simp only [if_neg c1, decide_eq_false c2]
  exact chkR_j2 t ps ms hl hp hm hs
theorem chkR_j0T (t : Trd) (ps : List Prod9) (ms : List Mem) (hl : ps.length ≤ 4611686018427387904) (hp : ∀ p ∈ ps, p.f0.size ≤ 4611686018427387904) (hm : ms.length ≤ 4611686018427387904) (hs : ∀ a ∈ ms, a.f0.size ≤ 4611686018427387904 ∧ a.f2.length ≤ 4611686018427387904 ∧ ∀ b ∈ a.f2, b.f0.size ≤ 4611686018427387904) : Ev (fun k => contangoref12_Check.j0 k ps ms false t.f0 t.f1 t.f2 t.f3.f0 t.f3.f1 t.f3.f2 t.f3.f3 t.f4 t.f5 t.f6.f0 t.f6.f1 t.f7.f0 t.f7.f1) (chkI t ps ms) := by
  refine Ev_succ ?_
  simp only [contangoref12_Check.j0, Bool.false_eq_true, if_false]
  unfold chkI
  have bad : Ev (fun k => contangoref12_Check.j1 k ps ms true t.f0 t.f1 t.f2 t.f3.f0 t.f3.f1 t.f3.f2 t.f3.f3 t.f4 t.f5 t.f6.f0 t.f6.f1 t.f7.f0 t.f7.f1) (2 : Int) := by
    refine Ev_succ ?_
    simp only [contangoref12_Check.j1, if_true]
    exact Ev.now _
  by_cases c1 : t.f0 < 1
  · rw [if_pos (by omega)]; simp only [if_pos c1]; exact bad
  by_cases c2 : t.f0 > 1152921504606846976
  · rw [if_pos (by omega)]; simp only [if_neg c1, if_pos c2]; exact bad
  by_cases c3 : t.f2 < 0
  · rw [if_pos (by omega)]; simp only [if_neg c1, if_neg c2, if_pos c3]; exact bad
  by_cases c4 : t.f2 > 86399
  · rw [if_pos (by omega)]; simp only [if_neg c1, if_neg c2, if_neg c3, decide_eq_true c4]; exact bad
  rw [if_neg (by omega)]
  simp only [if_neg c1, if_neg c2, if_neg c3, decide_eq_false c4]
  exact chkR_j1 t ps ms hl hp hm hs
theorem tcheckR_f (t : Trd) (ps : List Prod9) (ms : List Mem) (hl : ps.length ≤ 4611686018427387904) (hp : ∀ p ∈ ps, p.f0.size ≤ 4611686018427387904) (hm : ms.length ≤ 4611686018427387904) (hs : ∀ a ∈ ms, a.f0.size ≤ 4611686018427387904 ∧ a.f2.length ≤ 4611686018427387904 ∧ ∀ b ∈ a.f2, b.f0.size ≤ 4611686018427387904) : Ev (fun k => contangoref12_Check.f k t.f0 t.f1 t.f2 t.f3.f0 t.f3.f1 t.f3.f2 t.f3.f3 t.f4 t.f5 t.f6.f0 t.f6.f1 t.f7.f0 t.f7.f1 ps ms) (chkT t ps ms) := by
  unfold contangoref12_Check.f chkT
  refine Ev_bind (chkR_f ps t.f3 hl hp) ?_
  by_cases c0 : chkE ps t.f3 = 0
  case neg => simp only [if_neg c0]; exact Ev.now _
  have bad : Ev (fun k => contangoref12_Check.j0 k ps ms true t.f0 t.f1 t.f2 t.f3.f0 t.f3.f1 t.f3.f2 t.f3.f3 t.f4 t.f5 t.f6.f0 t.f6.f1 t.f7.f0 t.f7.f1) (15 : Int) := by
    refine Ev_succ ?_
    simp only [contangoref12_Check.j0, if_true]
    exact Ev.now _
  simp only [if_pos c0, contangoref10_Live.f, Option.bind_some]
  by_cases c1 : t.f1 < 0
  · rw [if_pos (by omega)]; simp only [if_pos c1]; exact bad
  by_cases c2 : t.f1 > 73048
  · rw [if_pos (by omega)]; simp only [if_neg c1, if_pos c2]; exact bad
  simp only [if_neg c1, if_neg c2]
  by_cases c3 : t.f3.f2 ≥ t.f1
  · rw [if_neg (by omega)]; simp only [decide_eq_true c3, Bool.not_true]; exact chkR_j0T t ps ms hl hp hm hs
  · rw [if_pos (by omega)]; simp only [decide_eq_false c3, Bool.not_false]; exact bad
theorem TradeChecks : ∀ (x0 : S27) (l1 : List (S69)) (l2 : List (S148)), ok27 x0 → (l1.length ≤ maxLen ∧ l1.length * 64 ≤ 140737488351232 ∧ ∀ x ∈ l1, ok69 x) → (l2.length ≤ maxLen ∧ l2.length * 48 ≤ 140737488351232 ∧ ∀ x ∈ l2, ok148 x) → ∃ k, X.contangolaw12_TradeChecks.f k x0.f0 x0.f1 x0.f2 x0.f3.f0 x0.f3.f1 x0.f3.f2 x0.f3.f3 x0.f4 x0.f5 x0.f6.f0 x0.f6.f1 x0.f7.f0 x0.f7.f1 l1 l2 = some true := by
  intro t ps ms h0 h1 h2
  have hl : ps.length ≤ 4611686018427387904 := by have := h1.2.1; omega
  have hm : ms.length ≤ 4611686018427387904 := by have := h2.2.1; omega
  have hp : ∀ p ∈ ps, p.f0.size ≤ 4611686018427387904 := fun p hp => by have := (h1.2.2 p hp).1; omega
  have hs : ∀ a ∈ ms, a.f0.size ≤ 4611686018427387904 ∧ a.f2.length ≤ 4611686018427387904 ∧ ∀ b ∈ a.f2, b.f0.size ≤ 4611686018427387904 := fun a h => by
    obtain ⟨o1, o2, o3, o4, o5⟩ := h2.2.2 a h
    exact ⟨by omega, by omega, fun b hb => by have := (o5 b hb).1; omega⟩
  refine Ev.rounds ?_
  unfold contangolaw12_TradeChecks.f
  refine Ev_bind (tcheck_f t ps ms hl) ?_
  refine Ev_bind (tcheckR_f t ps ms hl hp hm hs) ?_
  simp only [if_true]
  by_cases c : chkT t ps ms = 0
  · simp only [if_pos c]
    obtain ⟨_, _, _, _, h4, _, _, _, _, hne⟩ := chkT_zero c
    have e : (!(t.f6.f0.toList == t.f7.f0.toList) || (!(t.f6.f1.toList == t.f7.f1.toList))) = true := by
      cases h : (t.f6.f0.toList == t.f7.f0.toList && (t.f6.f1.toList == t.f7.f1.toList)) with
      | true => exact absurd ((sameAcc t).1 h) hne
      | false => rw [← Bool.not_and, h]; rfl
    simp only [if_pos e, if_pos (show t.f4 > 0 by omega)]
    exact Ev_id goes12
  · simp only [if_neg c]
    exact Ev_id goes12
end Go.Proofs.YthpmmofleddpnaaGreatDoor.Pure
end
