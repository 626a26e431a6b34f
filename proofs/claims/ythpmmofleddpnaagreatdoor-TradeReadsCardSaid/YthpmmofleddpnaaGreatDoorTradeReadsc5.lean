/- For TradeReads: contracts, and facts on lists and numbers, that it uses (part 5). -/
import Derived.ChangeArms
import Derived.Deep.Slices
import Derived.Laws.BitsLemmas
import Derived.Laws.Strings
import Derived.Lib.Bytealg
import Derived.Lib.IndexBytes
import Derived.Lib.Replace
import Derived.Lib.SplitLaws
import Derived.OpenShut
import Derived.SizedLaws
import Derived.Test.YthpmmofleddpnaaGreatDoorTradeReadsc4
import Derived.WideShapes
section
namespace Go.Proofs.YthpmmofleddpnaaGreatDoor.X
open Go.RowKit Go.Proofs.YthpmmofleddpnaaGreatDoorW.PrintWords Go.Proofs.YthpmmofleddpnaaGreatDoorW.PrintLast Go.Proofs.YthpmmofleddpnaaGreatDoorW.PrintMore
attribute [local go_sem] max2_int min2_int max_two min_two max_three min_three max_four min_four
set_option linter.unusedVariables false
set_option linter.unusedSimpArgs false
attribute [local go_sem high] eqA27
def contangolaw12_TradeReads.f (k : Nat) (a0_0 : Int) (a0_1 : Int) (a0_2 : Int) (a0_3 : ByteArray) (a0_4 : Int) (a0_5 : Int) (a0_6 : Int) (a0_7 : Int) (a0_8 : Int) (a0_9 : ByteArray) (a0_10 : ByteArray) (a0_11 : ByteArray) (a0_12 : ByteArray) (l1 : List (S69)) (l2 : List (S148)) : Option (Bool) := (trade_Check.f k a0_0 a0_1 a0_2 a0_3 a0_4 a0_5 a0_6 a0_7 a0_8 a0_9 a0_10 a0_11 a0_12 l1 l2).bind fun t102 => (if t102 = 0 then ((trade_Print.f k a0_0 a0_1 a0_2 a0_3 a0_4 a0_5 a0_6 a0_7 a0_8 a0_9 a0_10 a0_11 a0_12).bind fun t103 => ((trade_Parse.f k t103).bind fun bt104 => (if (bt104.1 == a0_0 && (bt104.2.1 == a0_1 && (bt104.2.2.1 == a0_2 && ((bt104.2.2.2.1.toList == a0_3.toList && (bt104.2.2.2.2.1 == a0_4 && (bt104.2.2.2.2.2.1 == a0_5 && (bt104.2.2.2.2.2.2.1 == a0_6)))) && (bt104.2.2.2.2.2.2.2.1 == a0_7 && (bt104.2.2.2.2.2.2.2.2.1 == a0_8 && ((bt104.2.2.2.2.2.2.2.2.2.1.toList == a0_9.toList && (bt104.2.2.2.2.2.2.2.2.2.2.1.toList == a0_10.toList)) && ((bt104.2.2.2.2.2.2.2.2.2.2.2.1.toList == a0_11.toList && (bt104.2.2.2.2.2.2.2.2.2.2.2.2.1.toList == a0_12.toList)))))))))) = true then (if bt104.2.2.2.2.2.2.2.2.2.2.2.2.2 = 0 then ((contangolaw12_goes.f k).bind fun t119 => (some t119)) else (none)) else (none)))) else ((contangolaw12_goes.f k).bind fun t120 => (some t120)))
set_option maxHeartbeats 8000000 in
set_option maxRecDepth 100000 in
theorem contangolaw12_TradeReads.calls (k : Nat) (a0_0 : Int) (a0_1 : Int) (a0_2 : Int) (a0_3 : ByteArray) (a0_4 : Int) (a0_5 : Int) (a0_6 : Int) (a0_7 : Int) (a0_8 : Int) (a0_9 : ByteArray) (a0_10 : ByteArray) (a0_11 : ByteArray) (a0_12 : ByteArray) (A1 : Option Addr) (c1 : Nat) (l1 : List (S69)) (A2 : Option Addr) (c2 : Nat) (l2 : List (S148)) (r : Bool) (w : World) (hr1 : Kd.C k69 w A1 l1.length l1) (hc1 : l1.length ≤ c1) (hr2 : Kd.C k148 w A2 l2.length l2) (hc2 : l2.length ≤ c2) (h : contangolaw12_TradeReads.f k a0_0 a0_1 a0_2 a0_3 a0_4 a0_5 a0_6 a0_7 a0_8 a0_9 a0_10 a0_11 a0_12 l1 l2 = some r) (hGL : GlobD w) :
    Calls Tryz.prog 4 #[.agg #[.int .i64 a0_0, .int .i64 a0_1, .int .i64 a0_2, .string a0_3, .int .i64 a0_4, .int .i64 a0_5, .int .i64 a0_6, .int .i64 a0_7, .int .i64 a0_8, .string a0_9, .string a0_10, .string a0_11, .string a0_12], .slice A1 l1.length c1, .slice A2 l2.length c2] w fun e w' => e = .returned (.bool r) ∧ Below w.heap.size w w' := by
  have hu27 := Tryz.underlying27
  have HR1 := Aside0.mk hr1
  have HC1 := Aside0.mk hc1
  clear hr1 hc1
  have HR2 := Aside0.mk hr2
  have HC2 := Aside0.mk hc2
  clear hr2 hc2
  have HB := Aside0.mk (Below.refl w.heap.size w)
  have HGL := Aside0.mk hGL
  clear hGL
  have H : ((trade_Check.f k a0_0 a0_1 a0_2 a0_3 a0_4 a0_5 a0_6 a0_7 a0_8 a0_9 a0_10 a0_11 a0_12 l1 l2).bind fun t102 => (if t102 = 0 then ((trade_Print.f k a0_0 a0_1 a0_2 a0_3 a0_4 a0_5 a0_6 a0_7 a0_8 a0_9 a0_10 a0_11 a0_12).bind fun t103 => ((trade_Parse.f k t103).bind fun bt104 => (if (bt104.1 == a0_0 && (bt104.2.1 == a0_1 && (bt104.2.2.1 == a0_2 && ((bt104.2.2.2.1.toList == a0_3.toList && (bt104.2.2.2.2.1 == a0_4 && (bt104.2.2.2.2.2.1 == a0_5 && (bt104.2.2.2.2.2.2.1 == a0_6)))) && (bt104.2.2.2.2.2.2.2.1 == a0_7 && (bt104.2.2.2.2.2.2.2.2.1 == a0_8 && ((bt104.2.2.2.2.2.2.2.2.2.1.toList == a0_9.toList && (bt104.2.2.2.2.2.2.2.2.2.2.1.toList == a0_10.toList)) && ((bt104.2.2.2.2.2.2.2.2.2.2.2.1.toList == a0_11.toList && (bt104.2.2.2.2.2.2.2.2.2.2.2.2.1.toList == a0_12.toList)))))))))) = true then (if bt104.2.2.2.2.2.2.2.2.2.2.2.2.2 = 0 then ((contangolaw12_goes.f k).bind fun t119 => (some t119)) else (none)) else (none)))) else ((contangolaw12_goes.f k).bind fun t120 => (some t120)))) = some r := h
  clear h
  replace H := bnd H
  obtain ⟨t102, A40, H⟩ := H
  have A4 := Aside0.mk A40
  clear A40
  by_cases c5 : t102 = 0
  · rw [if_pos c5] at H
    have c5b0 : (t102 == 0) = true := beq_iff_eq.mpr c5
    have c5b1 : (t102 != 0) = false := bne_eq_false_iff_eq.mpr c5
    clear c5
    replace H := bnd H
    obtain ⟨t103, A60, H⟩ := H
    have A6 := Aside0.mk A60
    clear A60
    replace H := bnd H
    obtain ⟨⟨t104, t105, t106, t107, t108, t109, t110, t111, t112, t113, t114, t115, t116, t117⟩, A70, H⟩ := H
    replace H : (if (t104 == a0_0 && (t105 == a0_1 && (t106 == a0_2 && ((t107.toList == a0_3.toList && (t108 == a0_4 && (t109 == a0_5 && (t110 == a0_6)))) && (t111 == a0_7 && (t112 == a0_8 && ((t113.toList == a0_9.toList && (t114.toList == a0_10.toList)) && ((t115.toList == a0_11.toList && (t116.toList == a0_12.toList)))))))))) = true then (if t117 = 0 then ((contangolaw12_goes.f k).bind fun t119 => (some t119)) else (none)) else (none)) = some r := H
    have A7 := Aside0.mk A70
    clear A70
    by_cases c8 : (t104 == a0_0 && (t105 == a0_1 && (t106 == a0_2 && ((t107.toList == a0_3.toList && (t108 == a0_4 && (t109 == a0_5 && (t110 == a0_6)))) && (t111 == a0_7 && (t112 == a0_8 && ((t113.toList == a0_9.toList && (t114.toList == a0_10.toList)) && ((t115.toList == a0_11.toList && (t116.toList == a0_12.toList)))))))))) = true
    · rw [if_pos c8] at H
      have c8b0 : (t104 == a0_0 && (t105 == a0_1 && (t106 == a0_2 && ((t107.toList == a0_3.toList && (t108 == a0_4 && (t109 == a0_5 && (t110 == a0_6)))) && (t111 == a0_7 && (t112 == a0_8 && ((t113.toList == a0_9.toList && (t114.toList == a0_10.toList)) && ((t115.toList == a0_11.toList && (t116.toList == a0_12.toList)))))))))) = true := c8
      (try (have c8b1 : decide (t104 = a0_0 && (t105 == a0_1 && (t106 == a0_2 && ((t107.toList == a0_3.toList && (t108 == a0_4 && (t109 == a0_5 && (t110 == a0_6)))) && (t111 == a0_7 && (t112 == a0_8 && ((t113.toList == a0_9.toList && (t114.toList == a0_10.toList)) && ((t115.toList == a0_11.toList && (t116.toList == a0_12.toList)))))))))) = true := by simpa using c8))
      (try (have c8b2 : (t104 == a0_0 && (t105 == a0_1 && (t106 == a0_2 && ((t107.toList == a0_3.toList && (t108 == a0_4 && (t109 == a0_5 && (t110 == a0_6)))) && (t111 == a0_7 && (t112 == a0_8 && ((t113.toList == a0_9.toList && (t114.toList == a0_10.toList)) && ((t115.toList == a0_11.toList && (t116.toList == a0_12.toList)))))))))) = true := by simpa using c8))
      clear c8
      by_cases c9 : t117 = 0
      · rw [if_pos c9] at H
        have c9b0 : (t117 == 0) = true := beq_iff_eq.mpr c9
        have c9b1 : (t117 != 0) = false := bne_eq_false_iff_eq.mpr c9
        clear c9
        replace H := bnd H
        obtain ⟨t119, A100, H⟩ := H
        have A10 := Aside0.mk A100
        clear A100
        obtain rfl := Option.some.inj H
        go_enter Tryz.func4, Tryz.ntmps4
        go_wp2_with (first | ((with_reducible refine gate_dst (N := 3) rfl ?_); refine box_event ?hg (N := 3) ?hd (cs := #[.int .i64 a0_0, .int .i64 a0_1, .int .i64 a0_2, .string a0_3, .int .i64 a0_4, .int .i64 a0_5, .int .i64 a0_6, .int .i64 a0_7, .int .i64 a0_8, .string a0_9, .string a0_10, .string a0_11, .string a0_12]) (t := 27) ?hr ?_; (case hd => rfl); (case hg => rfl); (case hr => first | (go_simp; done) | (go_simp; rfl)); intro gb101 hg w11 hbox hb; have BK101 := Aside0.mk (hbox); have GW101 := Aside0.mk ((gsz hg : w.heap.size ≤ gb101)); have GE101 := Aside0.mk ((gsz hg : w.heap.size ≤ gb101)); replace HB := Aside0.mk (below_step bel hb); clear hb hbox hg; obtain ⟨hcz12_0, hcz12_1, hcz12_2, hcz12_3, hcz12_4, hcz12_5, hcz12_6, hcz12_7, hcz12_8, hcz12_9, hcz12_10, hcz12_11, hcz12_12, hfz12_0, hfz12_1, hfz12_2, hfz12_3, hfz12_4, hfz12_5, hfz12_6, hfz12_7, hfz12_8, hfz12_9, hfz12_10, hfz12_11, hfz12_12⟩ := cz13 BK101.out) | ((with_reducible refine gate_callee (f := 10) rfl ?_); refine goesL_ (some 12) rfl rfl Tryz.func10 (by kernel_rfl) rfl #[.agg #[.int .i64 a0_0, .int .i64 a0_1, .int .i64 a0_2, .string a0_3, .int .i64 a0_4, .int .i64 a0_5, .int .i64 a0_6, .int .i64 a0_7, .int .i64 a0_8, .string a0_9, .string a0_10, .string a0_11, .string a0_12], .slice A1 l1.length c1, .slice A2 l2.length c2] rfl arg ?_; (with_reducible refine (trade_Check.calls k a0_0 a0_1 a0_2 a0_3 a0_4 a0_5 a0_6 a0_7 a0_8 a0_9 a0_10 a0_11 a0_12 _ _ l1 _ _ l2 t102 _ ?side1 ?side2 ?side3 ?side4 A4.out).mono ?_); (case side1 => repeat (first | exact (Kd.C_below HR1.out HB.out) | (with_reducible refine Kd.C_alloc ?_ _) | (with_reducible refine Kd.C_drewN ?_ _) | (with_reducible refine Kd.C_drew ?_))); (case side2 => exact HC1.out); (case side3 => repeat (first | exact (Kd.C_below HR2.out HB.out) | (with_reducible refine Kd.C_alloc ?_ _) | (with_reducible refine Kd.C_drewN ?_ _) | (with_reducible refine Kd.C_drew ?_))); (case side4 => exact HC2.out); rintro e w13 ⟨rfl, hb⟩; refine ⟨_, rfl, ?_⟩; replace BK101 := Aside0.mk (blk_below (g := gb101) (bw BK101.out) hb); replace HB := Aside0.mk (below_step bel hb); (try clear hb); (try clear hb2); (try clear hk); (try clear hi); obtain ⟨hcz14_0, hcz14_1, hcz14_2, hcz14_3, hcz14_4, hcz14_5, hcz14_6, hcz14_7, hcz14_8, hcz14_9, hcz14_10, hcz14_11, hcz14_12, hfz14_0, hfz14_1, hfz14_2, hfz14_3, hfz14_4, hfz14_5, hfz14_6, hfz14_7, hfz14_8, hfz14_9, hfz14_10, hfz14_11, hfz14_12⟩ := cz13 BK101.out) | ((with_reducible refine gate_callee (f := 14) rfl ?_); refine goesL_ (some 17) rfl rfl Tryz.func14 (by kernel_rfl) rfl #[.agg #[.int .i64 a0_0, .int .i64 a0_1, .int .i64 a0_2, .string a0_3, .int .i64 a0_4, .int .i64 a0_5, .int .i64 a0_6, .int .i64 a0_7, .int .i64 a0_8, .string a0_9, .string a0_10, .string a0_11, .string a0_12]] rfl arg ?_; (with_reducible refine (trade_Print.calls k a0_0 a0_1 a0_2 a0_3 a0_4 a0_5 a0_6 a0_7 a0_8 a0_9 a0_10 a0_11 a0_12 t103 _ A6.out (glob_of HGL.out bel)).mono ?_); rintro e w15 ⟨rfl, hb⟩; refine ⟨_, rfl, ?_⟩; replace BK101 := Aside0.mk (blk_below (g := gb101) (bw BK101.out) hb); replace HB := Aside0.mk (below_step bel hb); (try clear hb); (try clear hb2); (try clear hk); (try clear hi)) | ((with_reducible refine gate_callee (f := 13) rfl ?_); refine goesL_ (some 18) rfl rfl Tryz.func13 (by kernel_rfl) rfl #[.string t103] rfl arg ?_; (with_reducible refine (trade_Parse.calls k t103 t104 t105 t106 t107 t108 t109 t110 t111 t112 t113 t114 t115 t116 t117 _ A7.out (glob_of HGL.out bel)).mono ?_); rintro e w16 ⟨rfl, hb⟩; refine ⟨_, rfl, ?_⟩; replace BK101 := Aside0.mk (blk_below (g := gb101) (bw BK101.out) hb); replace HB := Aside0.mk (below_step bel hb); (try clear hb); (try clear hb2); (try clear hk); (try clear hi)) | ((with_reducible refine gate_dst (N := 7) rfl ?_); refine box_event ?hg (N := 7) ?hd (cs := #[.int .i64 0, .int .i64 0, .int .i64 0, .string (⟨#[]⟩ : ByteArray), .int .i64 0, .int .i64 0, .int .i64 0, .int .i64 0, .int .i64 0, .string (⟨#[]⟩ : ByteArray), .string (⟨#[]⟩ : ByteArray), .string (⟨#[]⟩ : ByteArray), .string (⟨#[]⟩ : ByteArray)]) (t := 27) ?hr ?_; (case hd => rfl); (case hg => rfl); (case hr => first | (go_simp; done) | (go_simp; rfl)); intro gb118 hg w17 hbox hb; have BK118 := Aside0.mk (hbox); have GW118 := Aside0.mk ((gsz hg : w.heap.size ≤ gb118)); have GE118 := Aside0.mk ((gsz hg : w.heap.size ≤ gb118)); have NB101_118 := Aside0.mk ((nlt hg (bw BK101.out) : gb101 ≠ gb118)); have NB118_101 := Aside0.mk ((ngt hg (bw BK101.out) : gb118 ≠ gb101)); replace BK101 := Aside0.mk (blk_below (g := gb101) (bw BK101.out) hb); replace HB := Aside0.mk (below_step bel hb); clear hb hbox hg; have hnb18 := NB118_101.out; have hnc18 := NB101_118.out; obtain ⟨hcz19_0, hcz19_1, hcz19_2, hcz19_3, hcz19_4, hcz19_5, hcz19_6, hcz19_7, hcz19_8, hcz19_9, hcz19_10, hcz19_11, hcz19_12, hfz19_0, hfz19_1, hfz19_2, hfz19_3, hfz19_4, hfz19_5, hfz19_6, hfz19_7, hfz19_8, hfz19_9, hfz19_10, hfz19_11, hfz19_12⟩ := cz13 BK118.out; obtain ⟨hcz20_0, hcz20_1, hcz20_2, hcz20_3, hcz20_4, hcz20_5, hcz20_6, hcz20_7, hcz20_8, hcz20_9, hcz20_10, hcz20_11, hcz20_12, hfz20_0, hfz20_1, hfz20_2, hfz20_3, hfz20_4, hfz20_5, hfz20_6, hfz20_7, hfz20_8, hfz20_9, hfz20_10, hfz20_11, hfz20_12⟩ := cz13 BK101.out) | (go_at_call 12; (with_reducible refine (contangolaw12_goes.calls k  t119 _ A10.out (glob_of HGL.out bel)).mono ?_); rintro e w21 ⟨rfl, hb⟩; replace BK101 := Aside0.mk (blk_below (g := gb101) (o := .cells #[.int .i64 a0_0, .int .i64 a0_1, .int .i64 a0_2, .string a0_3, .int .i64 a0_4, .int .i64 a0_5, .int .i64 a0_6, .int .i64 a0_7, .int .i64 a0_8, .string a0_9, .string a0_10, .string a0_11, .string a0_12] 27 (0, 0)) (bs BK101.out) hb); replace BK118 := Aside0.mk (blk_below (g := gb118) (o := .cells #[.int .i64 t104, .int .i64 t105, .int .i64 t106, .string t107, .int .i64 t108, .int .i64 t109, .int .i64 t110, .int .i64 t111, .int .i64 t112, .string t113, .string t114, .string t115, .string t116] 27 (0, 0)) (bs BK118.out) hb); replace HB := Aside0.mk (below_step bel hb); (try clear hb); (try clear hb2); (try clear hk); (try clear hi)))
        go_ret
        exact ⟨ers, bel⟩
      · rw [if_neg c9] at H
        exact absurd H (by simp)
    · rw [if_neg c8] at H
      exact absurd H (by simp)
  · rw [if_neg c5] at H
    have c5b0 : (t102 == 0) = false := beq_eq_false_iff_ne.mpr c5
    have c5b1 : (t102 != 0) = true := bne_iff_ne.mpr c5
    replace H := bnd H
    obtain ⟨t120, A220, H⟩ := H
    have A22 := Aside0.mk A220
    clear A220
    obtain rfl := Option.some.inj H
    go_enter Tryz.func4, Tryz.ntmps4
    go_wp2_with (first | ((with_reducible refine gate_dst (N := 3) rfl ?_); refine box_event ?hg (N := 3) ?hd (cs := #[.int .i64 a0_0, .int .i64 a0_1, .int .i64 a0_2, .string a0_3, .int .i64 a0_4, .int .i64 a0_5, .int .i64 a0_6, .int .i64 a0_7, .int .i64 a0_8, .string a0_9, .string a0_10, .string a0_11, .string a0_12]) (t := 27) ?hr ?_; (case hd => rfl); (case hg => rfl); (case hr => first | (go_simp; done) | (go_simp; rfl)); intro gb101 hg w23 hbox hb; have BK101 := Aside0.mk (hbox); have GW101 := Aside0.mk ((gsz hg : w.heap.size ≤ gb101)); have GE101 := Aside0.mk ((gsz hg : w.heap.size ≤ gb101)); replace HB := Aside0.mk (below_step bel hb); clear hb hbox hg; obtain ⟨hcz24_0, hcz24_1, hcz24_2, hcz24_3, hcz24_4, hcz24_5, hcz24_6, hcz24_7, hcz24_8, hcz24_9, hcz24_10, hcz24_11, hcz24_12, hfz24_0, hfz24_1, hfz24_2, hfz24_3, hfz24_4, hfz24_5, hfz24_6, hfz24_7, hfz24_8, hfz24_9, hfz24_10, hfz24_11, hfz24_12⟩ := cz13 BK101.out) | ((with_reducible refine gate_callee (f := 10) rfl ?_); refine goesL_ (some 12) rfl rfl Tryz.func10 (by kernel_rfl) rfl #[.agg #[.int .i64 a0_0, .int .i64 a0_1, .int .i64 a0_2, .string a0_3, .int .i64 a0_4, .int .i64 a0_5, .int .i64 a0_6, .int .i64 a0_7, .int .i64 a0_8, .string a0_9, .string a0_10, .string a0_11, .string a0_12], .slice A1 l1.length c1, .slice A2 l2.length c2] rfl arg ?_; (with_reducible refine (trade_Check.calls k a0_0 a0_1 a0_2 a0_3 a0_4 a0_5 a0_6 a0_7 a0_8 a0_9 a0_10 a0_11 a0_12 _ _ l1 _ _ l2 t102 _ ?side1 ?side2 ?side3 ?side4 A4.out).mono ?_); (case side1 => repeat (first | exact (Kd.C_below HR1.out HB.out) | (with_reducible refine Kd.C_alloc ?_ _) | (with_reducible refine Kd.C_drewN ?_ _) | (with_reducible refine Kd.C_drew ?_))); (case side2 => exact HC1.out); (case side3 => repeat (first | exact (Kd.C_below HR2.out HB.out) | (with_reducible refine Kd.C_alloc ?_ _) | (with_reducible refine Kd.C_drewN ?_ _) | (with_reducible refine Kd.C_drew ?_))); (case side4 => exact HC2.out); rintro e w25 ⟨rfl, hb⟩; refine ⟨_, rfl, ?_⟩; replace BK101 := Aside0.mk (blk_below (g := gb101) (bw BK101.out) hb); replace HB := Aside0.mk (below_step bel hb); (try clear hb); (try clear hb2); (try clear hk); (try clear hi)) | ((with_reducible refine gate_callee (f := 12) rfl ?_); refine goesL_ (some 14) rfl rfl Tryz.func12 (by kernel_rfl) rfl #[] rfl arg ?_; (with_reducible refine (contangolaw12_goes.calls k  t120 _ A22.out (glob_of HGL.out bel)).mono ?_); rintro e w26 ⟨rfl, hb⟩; refine ⟨_, rfl, ?_⟩; replace BK101 := Aside0.mk (blk_below (g := gb101) (bw BK101.out) hb); replace HB := Aside0.mk (below_step bel hb); (try clear hb); (try clear hb2); (try clear hk); (try clear hi)))
    go_ret
    exact ⟨ers, bel⟩
end Go.Proofs.YthpmmofleddpnaaGreatDoor.X
end
section
namespace Go.Proofs.YthpmmofleddpnaaGreatDoor.Opn
open Go.ChangeShapes Go.WideShapes Go.Proofs.YthpmmofleddpnaaGreatDoorW.PrintWords
set_option linter.unusedVariables false
set_option linter.unusedSimpArgs false
structure Opens (P : Program) (t : TypeId) {α : Type} (d : Kd α) (Ok : α → Prop) : Prop where
  sz : d.sz = P.cellsOf t
  opens : ∀ {H : Type} {enc : TypeId × Value → H} {w : World} {base : Nat} {spare : Nat → Bool} {held : Bool} {fuel : Nat} {cs : List Value} {x : DataW H × List MemPlace},
    DataW.trod enc P w base spare held fuel t cs = some x → (∀ n ∈ x.1.weights P t, n ≤ reachBytes) → ∃ v, d.K w v cs ∧ Ok v
theorem opens_int {P : Program} {t : TypeId} {k : IntKind} (ht : P.underlying t = some (.int k)) (hc : P.cellsOf t = 1) : Opens P t (Kd.int k) (fun n => (Lit.int k n).wf = true) := by
  refine ⟨hc.symm, fun h _ => ?_⟩
  obtain ⟨n, rfl, _, hw⟩ := DataW.trod_int ht h
  exact ⟨n, rfl, hw⟩
theorem opens_bool {P : Program} {t : TypeId} (ht : P.underlying t = some .bool) (hc : P.cellsOf t = 1) : Opens P t Kd.bool (fun _ => True) := by
  refine ⟨hc.symm, fun h _ => ?_⟩
  obtain ⟨n, rfl, _⟩ := DataW.trod_bool ht h
  exact ⟨n, rfl, trivial⟩
theorem opens_string {P : Program} {t : TypeId} (ht : P.underlying t = some .string) (hc : P.cellsOf t = 1) : Opens P t Kd.string (fun s => s.size ≤ 140737488351232) := by
  refine ⟨hc.symm, fun h hw => ?_⟩
  obtain ⟨s, rfl, rfl, hs⟩ := DataW.trod_string ht h
  refine ⟨s, rfl, ?_⟩
  have := hw s.data.toList.length (by simp [DataW.weights])
  rw [Array.length_toList] at this
  exact this
theorem weights_all {H : Type} {P : Program} {e : TypeId} : ∀ {ds : List (DataW H)} {j : Nat} {d : DataW H}, ds[j]? = some d → ∀ n ∈ d.weights P e, n ∈ DataW.weightsAll P e ds
  | d0 :: ds, 0, d, hd, n, hn => by
    simp only [List.getElem?_cons_zero, Option.some.injEq] at hd
    subst hd
    simp only [DataW.weightsAll, List.mem_append]
    exact Or.inl hn
  | d0 :: ds, j + 1, d, hd, n, hn => by
    simp only [List.getElem?_cons_succ] at hd
    simp only [DataW.weightsAll, List.mem_append]
    exact Or.inr (weights_all hd n hn)
  | [], _, _, hd, _, _ => by simp at hd
theorem list_of {α : Type} {n : Nat} {p : Nat → α → Prop} (h : ∀ i, i < n → ∃ x, p i x) : ∃ l : List α, l.length = n ∧ ∀ i x, l[i]? = some x → p i x := by
  induction n with
  | zero => exact ⟨[], rfl, fun i x hx => by simp at hx⟩
  | succ n ih =>
    obtain ⟨l, hl, hp⟩ := ih (fun i hi => h i (by omega))
    obtain ⟨x, hx⟩ := h n (by omega)
    refine ⟨l ++ [x], by simp [hl], fun i y hy => ?_⟩
    by_cases hi : i < l.length
    · rw [List.getElem?_append_left hi] at hy
      exact hp i y hy
    · rw [List.getElem?_append_right (by omega)] at hy
      have : i - l.length = 0 := by
        cases hk : i - l.length with
        | zero => rfl
        | succ m => rw [hk] at hy; simp at hy
      rw [this] at hy
      simp at hy
      subst hy
      have : i = n := by omega
      subst this
      exact hx
theorem opens_slice {P : Program} {t e : TypeId} {α : Type} {d : Kd α} {Ok : α → Prop} (h : Opens P e d Ok) (ht : P.underlying t = some (.slice e)) (hc : P.cellsOf t = 1) {B : Nat} (hB : P.bytesOf e = B) :
    Opens P t (Kd.slice e d) (fun l => l.length ≤ maxLen ∧ l.length * B ≤ 140737488351232 ∧ ∀ x ∈ l, Ok x) := by
  subst hB
  refine ⟨hc.symm, fun {H enc w base spare held fuel cs x} hx hw => ?_⟩
  rcases DataW.trod_slice ht hx with ⟨rfl, rfl⟩ | ⟨a, len, cap, elems, rest, n, _, rfl, rfl, hb, hl, hm, hlen, hel, hsp, hns⟩
  · exact ⟨[], ⟨none, 0, rfl, Nat.le_refl _, Kd.C_nil _ _⟩, by simp⟩
  simp only [DataW.weights, ht] at hw
  have hw1 : (elems.length + rest.length) * P.bytesOf e ≤ reachBytes := by
    have := hw ((elems.length + rest.length) * P.bytesOf e) (by simp)
    exact this
  have hone : ∀ i, i < len → ∃ v : α, ∃ c, w.cells? base (a.add (i * P.cellsOf e)) (P.cellsOf e) = some c ∧ d.K w v c ∧ Ok v := by
    intro i hi
    have h1 := hel i hi
    rw [List.getElem?_eq_getElem (by omega)] at h1
    obtain ⟨c, hc1, hc2⟩ := Option.bind_eq_some_iff.1 h1
    obtain ⟨v, hv, hok⟩ := h.opens hc2 (fun n hn => hw n (by
      simp only [List.mem_cons, List.mem_append]
      right; left
      refine weights_all (j := i) ?_ n hn
      rw [List.getElem?_map, List.getElem?_eq_getElem (by omega)]
      rfl))
    exact ⟨v, c, hc1, hv, hok⟩
  obtain ⟨l, hl1, hl2⟩ := list_of hone
  subst hl1
  refine ⟨l, ⟨some a, cap, rfl, hl, rfl, ?_, fun _ => ⟨a, rfl, fun j p hj => ?_⟩⟩, ?_, ?_, ?_⟩
  · unfold maxLen at hm; omega
  · obtain ⟨c, hc1, hc2, _⟩ := hl2 j p hj
    obtain ⟨_, hlen2, hcell⟩ := World.cells?_some hc1
    refine ⟨c, by rw [h.sz]; exact hlen2, hc2, fun i u hu => ?_⟩
    have hi : i < P.cellsOf e := by
      have := (List.getElem?_eq_some_iff.1 hu).1
      omega
    have := hcell i hi
    rw [hu, ← Deep.add_add, h.sz] at *
    exact this
  · exact Nat.le_trans hl hm
  · have h2 : l.length * P.bytesOf e ≤ (elems.length + rest.length) * P.bytesOf e := Nat.mul_le_mul_right _ (by omega)
    exact Nat.le_trans h2 hw1
  · intro x hx
    obtain ⟨j, hj⟩ := List.getElem?_of_mem hx
    obtain ⟨c, _, _, ho⟩ := hl2 j x hj
    exact ho
structure OpensF (P : Program) (fs : List Field) (off : Nat) {α : Type} (d : Kd α) (Ok : α → Prop) : Prop where
  opens : ∀ {H : Type} {enc : TypeId × Value → H} {w : World} {base : Nat} {spare : Nat → Bool} {held : Bool} {n : Nat} {cs : List Value} {xs : List (DataW H × List MemPlace)},
    xs.length = fs.length → (∀ (i : Nat) (f : Field), fs[i]? = some f → DataW.trod enc P w base spare held n f.type ((cs.drop f.offset).take (P.cellsOf f.type)) = xs[i]?) →
    (∀ m ∈ DataW.weightsEach P (fs.map (·.type)) (xs.map (·.1)), m ≤ reachBytes) → ∃ v, d.K w v ((cs.drop off).take d.sz) ∧ Ok v
theorem opensF_one {P : Program} {f : Field} {off : Nat} {α : Type} {d : Kd α} {Ok : α → Prop} (h : Opens P f.type d Ok) (ho : f.offset = off) : OpensF P [f] off d Ok := by
  refine ⟨fun {H enc w base spare held n cs xs} hl hx hw => ?_⟩
  match xs, hl with
  | [x], _ =>
    have h1 := hx 0 f rfl
    obtain ⟨v, hv, hok⟩ := h.opens h1 (fun n hn => hw n (by simpa [DataW.weightsEach] using hn))
    refine ⟨v, ?_, hok⟩
    rw [h.sz, ← ho]
    exact hv
theorem opensF_cons {P : Program} {f : Field} {fs : List Field} {off : Nat} {α β : Type} {d : Kd α} {d' : Kd β} {Ok : α → Prop} {Ok' : β → Prop} (h : Opens P f.type d Ok) (ho : f.offset = off) (h' : OpensF P fs (off + d.sz) d' Ok') :
    OpensF P (f :: fs) off (Kd.pair d d') (fun p => Ok p.1 ∧ Ok' p.2) := by
  refine ⟨fun {H enc w base spare held n cs xs} hl hx hw => ?_⟩
  match xs, hl with
  | x :: xs, hl =>
    have h1 := hx 0 f rfl
    obtain ⟨v, hv, hok⟩ := h.opens h1 (fun n hn => hw n (by
      simp only [List.map_cons, DataW.weightsEach, List.mem_append]; exact Or.inl hn))
    obtain ⟨v', hv', hok'⟩ := h'.opens (cs := cs) (xs := xs) (by simpa using hl) (fun i g hg => by
      have := hx (i + 1) g (by simpa using hg)
      simpa using this) (fun m hm => hw m (by simp only [List.map_cons, DataW.weightsEach, List.mem_append]; exact Or.inr hm))
    refine ⟨(v, v'), ⟨(cs.drop off).take d.sz, (cs.drop (off + d.sz)).take d'.sz, ?_, ?_, hv'⟩, hok, hok'⟩
    · show (cs.drop off).take (d.sz + d'.sz) = _
      rw [List.take_add, List.drop_drop]
    · rw [h.sz, ← ho]; exact hv
theorem opens_struct {P : Program} {t : TypeId} {fs : Array Field} {α β : Type} {d : Kd α} {Ok : α → Prop} (h : OpensF P fs.toList 0 d Ok) (ht : P.underlying t = some (.struct fs)) (hc : d.sz = P.cellsOf t) (f : β → α) (mk : α → β) (hf : ∀ a, f (mk a) = a) :
    Opens P t (Kd.iso d f) (fun b => Ok (f b)) := by
  refine ⟨hc, fun {H enc w base spare held fuel cs x} hx hw => ?_⟩
  obtain ⟨xs, n, _, rfl, hlen, hsz, hall⟩ := DataW.trod_struct ht hx
  simp only [DataW.weights, ht] at hw
  obtain ⟨v, hv, hok⟩ := h.opens (cs := cs) (xs := xs) (by simpa using hsz) (fun i f hf => hall i f (by simpa using hf)) hw
  refine ⟨mk v, ?_, by rw [hf]; exact hok⟩
  show d.K w (f (mk v)) cs
  rw [hf]
  rw [List.drop_zero, hc, ← hlen, List.take_length] at hv
  exact hv
theorem opens_imp {P : Program} {t : TypeId} {α : Type} {d : Kd α} {Ok Ok' : α → Prop} (h : Opens P t d Ok) (hi : ∀ v, Ok v → Ok' v) : Opens P t d Ok' :=
  ⟨h.sz, fun hx hw => let ⟨v, hv, ho⟩ := h.opens hx hw; ⟨v, hv, hi v ho⟩⟩
end Go.Proofs.YthpmmofleddpnaaGreatDoor.Opn
end
section
namespace Go.Proofs.YthpmmofleddpnaaGreatDoor.X
open Go.RowKit Go.Proofs.YthpmmofleddpnaaGreatDoorW.PrintWords Go.Proofs.YthpmmofleddpnaaGreatDoorW.PrintLast Go.Proofs.YthpmmofleddpnaaGreatDoorW.PrintMore
attribute [local go_sem] max2_int min2_int max_two min_two max_three min_three max_four min_four
set_option linter.unusedVariables false
set_option linter.unusedSimpArgs false
def ok151 (v : S151) : Prop := v.f0.size ≤ 140737488351232 ∧ ((Lit.int .i64 v.f1).wf = true)
theorem opens151 : Opn.Opens Tryz.prog 151 k151 ok151 := by
  have hu := Tryz.underlying151
  refine Opn.opens_imp (Opn.opens_struct (Ok := fun (p : ByteArray × (Int)) => p.1.size ≤ 140737488351232 ∧ ((Lit.int .i64 p.2).wf = true)) ?hF hu (by kernel_rfl) (fun x : S151 => (x.f0, x.f1)) (fun a => ⟨a.1, a.2⟩) (fun _ => rfl)) ?hI
  case hF =>
    refine Opn.opensF_cons (Ok := fun (p : ByteArray) => p.size ≤ 140737488351232) (Ok' := fun (p : Int) => (Lit.int .i64 p).wf = true) (h := ?_) (ho := ?_) (h' := ?_)
    · exact Opn.opens_string Tryz.underlying9 (by kernel_rfl)
    · rfl
    · skip
      refine Opn.opensF_one (Ok := fun (p : Int) => (Lit.int .i64 p).wf = true) (h := ?_) (ho := ?_)
      · exact Opn.opens_int Tryz.underlying3 (by kernel_rfl)
      · rfl
  case hI => exact fun v h => h
def ok148 (v : S148) : Prop := v.f0.size ≤ 140737488351232 ∧ ((Lit.int .i64 v.f1).wf = true ∧ ((v.f2.length ≤ maxLen ∧ v.f2.length * 24 ≤ 140737488351232 ∧ ∀ x ∈ v.f2, ok151 x)))
theorem opens148 : Opn.Opens Tryz.prog 148 k148 ok148 := by
  have hu := Tryz.underlying148
  refine Opn.opens_imp (Opn.opens_struct (Ok := fun (p : ByteArray × (Int × (List (S151)))) => p.1.size ≤ 140737488351232 ∧ ((Lit.int .i64 p.2.1).wf = true ∧ ((p.2.2.length ≤ maxLen ∧ p.2.2.length * 24 ≤ 140737488351232 ∧ ∀ x ∈ p.2.2, ok151 x)))) ?hF hu (by kernel_rfl) (fun x : S148 => (x.f0, x.f1, x.f2)) (fun a => ⟨a.1, a.2.1, a.2.2⟩) (fun _ => rfl)) ?hI
  case hF =>
    refine Opn.opensF_cons (Ok := fun (p : ByteArray) => p.size ≤ 140737488351232) (Ok' := fun (p : Int × (List (S151))) => (Lit.int .i64 p.1).wf = true ∧ ((p.2.length ≤ maxLen ∧ p.2.length * 24 ≤ 140737488351232 ∧ ∀ x ∈ p.2, ok151 x))) (h := ?_) (ho := ?_) (h' := ?_)
    · exact Opn.opens_string Tryz.underlying9 (by kernel_rfl)
    · rfl
    · skip
      refine Opn.opensF_cons (Ok := fun (p : Int) => (Lit.int .i64 p).wf = true) (Ok' := fun (p : List (S151)) => (p.length ≤ maxLen ∧ p.length * 24 ≤ 140737488351232 ∧ ∀ x ∈ p, ok151 x)) (h := ?_) (ho := ?_) (h' := ?_)
      · exact Opn.opens_int Tryz.underlying3 (by kernel_rfl)
      · rfl
      · skip
        refine Opn.opensF_one (Ok := fun (p : List (S151)) => (p.length ≤ maxLen ∧ p.length * 24 ≤ 140737488351232 ∧ ∀ x ∈ p, ok151 x)) (h := ?_) (ho := ?_)
        · exact Opn.opens_slice (opens151) Tryz.underlying146 (by kernel_rfl) (B := 24) (by kernel_rfl)
        · rfl
  case hI => exact fun v h => h
def ok69 (v : S69) : Prop := v.f0.size ≤ 140737488351232 ∧ ((Lit.int .i64 v.f1).wf = true ∧ ((Lit.int .i64 v.f2).wf = true ∧ ((Lit.int .i64 v.f3).wf = true ∧ ((Lit.int .i64 v.f4).wf = true ∧ ((Lit.int .i64 v.f5).wf = true ∧ (True))))))
theorem opens69 : Opn.Opens Tryz.prog 69 k69 ok69 := by
  have hu := Tryz.underlying69
  refine Opn.opens_imp (Opn.opens_struct (Ok := fun (p : ByteArray × (Int × (Int × (Int × (Int × (Int × (Bool))))))) => p.1.size ≤ 140737488351232 ∧ ((Lit.int .i64 p.2.1).wf = true ∧ ((Lit.int .i64 p.2.2.1).wf = true ∧ ((Lit.int .i64 p.2.2.2.1).wf = true ∧ ((Lit.int .i64 p.2.2.2.2.1).wf = true ∧ ((Lit.int .i64 p.2.2.2.2.2.1).wf = true ∧ (True))))))) ?hF hu (by kernel_rfl) (fun x : S69 => (x.f0, x.f1, x.f2, x.f3, x.f4, x.f5, x.f6)) (fun a => ⟨a.1, a.2.1, a.2.2.1, a.2.2.2.1, a.2.2.2.2.1, a.2.2.2.2.2.1, a.2.2.2.2.2.2⟩) (fun _ => rfl)) ?hI
  case hF =>
    refine Opn.opensF_cons (Ok := fun (p : ByteArray) => p.size ≤ 140737488351232) (Ok' := fun (p : Int × (Int × (Int × (Int × (Int × (Bool)))))) => (Lit.int .i64 p.1).wf = true ∧ ((Lit.int .i64 p.2.1).wf = true ∧ ((Lit.int .i64 p.2.2.1).wf = true ∧ ((Lit.int .i64 p.2.2.2.1).wf = true ∧ ((Lit.int .i64 p.2.2.2.2.1).wf = true ∧ (True)))))) (h := ?_) (ho := ?_) (h' := ?_)
    · exact Opn.opens_string Tryz.underlying9 (by kernel_rfl)
    · rfl
    · skip
      refine Opn.opensF_cons (Ok := fun (p : Int) => (Lit.int .i64 p).wf = true) (Ok' := fun (p : Int × (Int × (Int × (Int × (Bool))))) => (Lit.int .i64 p.1).wf = true ∧ ((Lit.int .i64 p.2.1).wf = true ∧ ((Lit.int .i64 p.2.2.1).wf = true ∧ ((Lit.int .i64 p.2.2.2.1).wf = true ∧ (True))))) (h := ?_) (ho := ?_) (h' := ?_)
      · exact Opn.opens_int Tryz.underlying3 (by kernel_rfl)
      · rfl
      · skip
        refine Opn.opensF_cons (Ok := fun (p : Int) => (Lit.int .i64 p).wf = true) (Ok' := fun (p : Int × (Int × (Int × (Bool)))) => (Lit.int .i64 p.1).wf = true ∧ ((Lit.int .i64 p.2.1).wf = true ∧ ((Lit.int .i64 p.2.2.1).wf = true ∧ (True)))) (h := ?_) (ho := ?_) (h' := ?_)
        · exact Opn.opens_int Tryz.underlying3 (by kernel_rfl)
        · rfl
        · skip
          refine Opn.opensF_cons (Ok := fun (p : Int) => (Lit.int .i64 p).wf = true) (Ok' := fun (p : Int × (Int × (Bool))) => (Lit.int .i64 p.1).wf = true ∧ ((Lit.int .i64 p.2.1).wf = true ∧ (True))) (h := ?_) (ho := ?_) (h' := ?_)
          · exact Opn.opens_int Tryz.underlying3 (by kernel_rfl)
          · rfl
          · skip
            refine Opn.opensF_cons (Ok := fun (p : Int) => (Lit.int .i64 p).wf = true) (Ok' := fun (p : Int × (Bool)) => (Lit.int .i64 p.1).wf = true ∧ (True)) (h := ?_) (ho := ?_) (h' := ?_)
            · exact Opn.opens_int Tryz.underlying3 (by kernel_rfl)
            · rfl
            · skip
              refine Opn.opensF_cons (Ok := fun (p : Int) => (Lit.int .i64 p).wf = true) (Ok' := fun (p : Bool) => True) (h := ?_) (ho := ?_) (h' := ?_)
              · exact Opn.opens_int Tryz.underlying3 (by kernel_rfl)
              · rfl
              · skip
                refine Opn.opensF_one (Ok := fun (p : Bool) => True) (h := ?_) (ho := ?_)
                · exact Opn.opens_bool Tryz.underlying4 (by kernel_rfl)
                · rfl
  case hI => exact fun v h => h
def ok25 (v : S25) : Prop := v.f0.size ≤ 140737488351232 ∧ (v.f1.size ≤ 140737488351232)
theorem opens25 : Opn.Opens Tryz.prog 25 k25 ok25 := by
  have hu := Tryz.underlying25
  refine Opn.opens_imp (Opn.opens_struct (Ok := fun (p : ByteArray × (ByteArray)) => p.1.size ≤ 140737488351232 ∧ (p.2.size ≤ 140737488351232)) ?hF hu (by kernel_rfl) (fun x : S25 => (x.f0, x.f1)) (fun a => ⟨a.1, a.2⟩) (fun _ => rfl)) ?hI
  case hF =>
    refine Opn.opensF_cons (Ok := fun (p : ByteArray) => p.size ≤ 140737488351232) (Ok' := fun (p : ByteArray) => p.size ≤ 140737488351232) (h := ?_) (ho := ?_) (h' := ?_)
    · exact Opn.opens_string Tryz.underlying9 (by kernel_rfl)
    · rfl
    · skip
      refine Opn.opensF_one (Ok := fun (p : ByteArray) => p.size ≤ 140737488351232) (h := ?_) (ho := ?_)
      · exact Opn.opens_string Tryz.underlying9 (by kernel_rfl)
      · rfl
  case hI => exact fun v h => h
def ok23 (v : S23) : Prop := v.f0.size ≤ 140737488351232 ∧ ((Lit.int .i64 v.f1).wf = true ∧ ((Lit.int .i64 v.f2).wf = true ∧ ((Lit.int .i64 v.f3).wf = true)))
theorem opens23 : Opn.Opens Tryz.prog 23 k23 ok23 := by
  have hu := Tryz.underlying23
  refine Opn.opens_imp (Opn.opens_struct (Ok := fun (p : ByteArray × (Int × (Int × (Int)))) => p.1.size ≤ 140737488351232 ∧ ((Lit.int .i64 p.2.1).wf = true ∧ ((Lit.int .i64 p.2.2.1).wf = true ∧ ((Lit.int .i64 p.2.2.2).wf = true)))) ?hF hu (by kernel_rfl) (fun x : S23 => (x.f0, x.f1, x.f2, x.f3)) (fun a => ⟨a.1, a.2.1, a.2.2.1, a.2.2.2⟩) (fun _ => rfl)) ?hI
  case hF =>
    refine Opn.opensF_cons (Ok := fun (p : ByteArray) => p.size ≤ 140737488351232) (Ok' := fun (p : Int × (Int × (Int))) => (Lit.int .i64 p.1).wf = true ∧ ((Lit.int .i64 p.2.1).wf = true ∧ ((Lit.int .i64 p.2.2).wf = true))) (h := ?_) (ho := ?_) (h' := ?_)
    · exact Opn.opens_string Tryz.underlying9 (by kernel_rfl)
    · rfl
    · skip
      refine Opn.opensF_cons (Ok := fun (p : Int) => (Lit.int .i64 p).wf = true) (Ok' := fun (p : Int × (Int)) => (Lit.int .i64 p.1).wf = true ∧ ((Lit.int .i64 p.2).wf = true)) (h := ?_) (ho := ?_) (h' := ?_)
      · exact Opn.opens_int Tryz.underlying3 (by kernel_rfl)
      · rfl
      · skip
        refine Opn.opensF_cons (Ok := fun (p : Int) => (Lit.int .i64 p).wf = true) (Ok' := fun (p : Int) => (Lit.int .i64 p).wf = true) (h := ?_) (ho := ?_) (h' := ?_)
        · exact Opn.opens_int Tryz.underlying3 (by kernel_rfl)
        · rfl
        · skip
          refine Opn.opensF_one (Ok := fun (p : Int) => (Lit.int .i64 p).wf = true) (h := ?_) (ho := ?_)
          · exact Opn.opens_int Tryz.underlying3 (by kernel_rfl)
          · rfl
  case hI => exact fun v h => h
def ok27 (v : S27) : Prop := (Lit.int .i64 v.f0).wf = true ∧ ((Lit.int .i64 v.f1).wf = true ∧ ((Lit.int .i64 v.f2).wf = true ∧ (ok23 v.f3 ∧ ((Lit.int .i64 v.f4).wf = true ∧ ((Lit.int .i64 v.f5).wf = true ∧ (ok25 v.f6 ∧ (ok25 v.f7)))))))
theorem opens27 : Opn.Opens Tryz.prog 27 k27 ok27 := by
  have hu := Tryz.underlying27
  refine Opn.opens_imp (Opn.opens_struct (Ok := fun (p : Int × (Int × (Int × (S23 × (Int × (Int × (S25 × (S25)))))))) => (Lit.int .i64 p.1).wf = true ∧ ((Lit.int .i64 p.2.1).wf = true ∧ ((Lit.int .i64 p.2.2.1).wf = true ∧ (ok23 p.2.2.2.1 ∧ ((Lit.int .i64 p.2.2.2.2.1).wf = true ∧ ((Lit.int .i64 p.2.2.2.2.2.1).wf = true ∧ (ok25 p.2.2.2.2.2.2.1 ∧ (ok25 p.2.2.2.2.2.2.2)))))))) ?hF hu (by kernel_rfl) (fun x : S27 => (x.f0, x.f1, x.f2, x.f3, x.f4, x.f5, x.f6, x.f7)) (fun a => ⟨a.1, a.2.1, a.2.2.1, a.2.2.2.1, a.2.2.2.2.1, a.2.2.2.2.2.1, a.2.2.2.2.2.2.1, a.2.2.2.2.2.2.2⟩) (fun _ => rfl)) ?hI
  case hF =>
    refine Opn.opensF_cons (Ok := fun (p : Int) => (Lit.int .i64 p).wf = true) (Ok' := fun (p : Int × (Int × (S23 × (Int × (Int × (S25 × (S25))))))) => (Lit.int .i64 p.1).wf = true ∧ ((Lit.int .i64 p.2.1).wf = true ∧ (ok23 p.2.2.1 ∧ ((Lit.int .i64 p.2.2.2.1).wf = true ∧ ((Lit.int .i64 p.2.2.2.2.1).wf = true ∧ (ok25 p.2.2.2.2.2.1 ∧ (ok25 p.2.2.2.2.2.2))))))) (h := ?_) (ho := ?_) (h' := ?_)
    · exact Opn.opens_int Tryz.underlying3 (by kernel_rfl)
    · rfl
    · skip
      refine Opn.opensF_cons (Ok := fun (p : Int) => (Lit.int .i64 p).wf = true) (Ok' := fun (p : Int × (S23 × (Int × (Int × (S25 × (S25)))))) => (Lit.int .i64 p.1).wf = true ∧ (ok23 p.2.1 ∧ ((Lit.int .i64 p.2.2.1).wf = true ∧ ((Lit.int .i64 p.2.2.2.1).wf = true ∧ (ok25 p.2.2.2.2.1 ∧ (ok25 p.2.2.2.2.2)))))) (h := ?_) (ho := ?_) (h' := ?_)
      · exact Opn.opens_int Tryz.underlying3 (by kernel_rfl)
      · rfl
      · skip
        refine Opn.opensF_cons (Ok := fun (p : Int) => (Lit.int .i64 p).wf = true) (Ok' := fun (p : S23 × (Int × (Int × (S25 × (S25))))) => ok23 p.1 ∧ ((Lit.int .i64 p.2.1).wf = true ∧ ((Lit.int .i64 p.2.2.1).wf = true ∧ (ok25 p.2.2.2.1 ∧ (ok25 p.2.2.2.2))))) (h := ?_) (ho := ?_) (h' := ?_)
        · exact Opn.opens_int Tryz.underlying3 (by kernel_rfl)
        · rfl
        · skip
          refine Opn.opensF_cons (Ok := fun (p : S23) => ok23 p) (Ok' := fun (p : Int × (Int × (S25 × (S25)))) => (Lit.int .i64 p.1).wf = true ∧ ((Lit.int .i64 p.2.1).wf = true ∧ (ok25 p.2.2.1 ∧ (ok25 p.2.2.2)))) (h := ?_) (ho := ?_) (h' := ?_)
          · exact opens23
          · rfl
          · skip
            refine Opn.opensF_cons (Ok := fun (p : Int) => (Lit.int .i64 p).wf = true) (Ok' := fun (p : Int × (S25 × (S25))) => (Lit.int .i64 p.1).wf = true ∧ (ok25 p.2.1 ∧ (ok25 p.2.2))) (h := ?_) (ho := ?_) (h' := ?_)
            · exact Opn.opens_int Tryz.underlying3 (by kernel_rfl)
            · rfl
            · skip
              refine Opn.opensF_cons (Ok := fun (p : Int) => (Lit.int .i64 p).wf = true) (Ok' := fun (p : S25 × (S25)) => ok25 p.1 ∧ (ok25 p.2)) (h := ?_) (ho := ?_) (h' := ?_)
              · exact Opn.opens_int Tryz.underlying3 (by kernel_rfl)
              · rfl
              · skip
                refine Opn.opensF_cons (Ok := fun (p : S25) => ok25 p) (Ok' := fun (p : S25) => ok25 p) (h := ?_) (ho := ?_) (h' := ?_)
                · exact opens25
                · rfl
                · skip
                  refine Opn.opensF_one (Ok := fun (p : S25) => ok25 p) (h := ?_) (ho := ?_)
                  · exact opens25
                  · rfl
  case hI => exact fun v h => h
end Go.Proofs.YthpmmofleddpnaaGreatDoor.X
end
section
namespace Go.Proofs.YthpmmofleddpnaaGreatDoor.P
open Go.RowKit Go.Proofs.YthpmmofleddpnaaGreatDoorW.PrintWords Go.Proofs.YthpmmofleddpnaaGreatDoorW.PrintMore Go.Proofs.YthpmmofleddpnaaGreatDoor.X
theorem Ev_succ {α : Type} {g : Nat → Option α} {r : α} (h : Ev (fun k => g (k + 1)) r) : Ev g r := Ev.step (fun _ => rfl) h
theorem Ev_bind {α β : Type} {g : Nat → Option α} {f : Nat → α → Option β} {a : α} {r : β} (h : Ev g a) (k : Ev (fun n => f n a) r) : Ev (fun n => (g n).bind (f n)) r := Ev.bind h k
theorem Ev_id {α : Type} {g : Nat → Option α} {r : α} (h : Ev g r) : Ev (fun n => (g n).bind fun x => some x) r := Ev.bind h (Ev.now _)
theorem w_id {x : Int} (h1 : -9223372036854775808 ≤ x) (h2 : x ≤ 9223372036854775807) : wrap64 x = x := by unfold wrap64; omega
theorem w_succ {i n : Nat} (h : i < n) (hn : n ≤ 9223372036854775807) : wrap64 ((i : Int) + 1) = ((i + 1 : Nat) : Int) := by rw [w_id (by omega) (by omega)]; omega
theorem w_pred {i : Nat} (h : 0 < i) (hn : i ≤ 9223372036854775807) : wrap64 ((i : Int) - 1) = ((i - 1 : Nat) : Int) := by rw [w_id (by omega) (by omega)]; omega
theorem rd_nat (xs : List Int) (i : Nat) (h : i < xs.length) : rd xs (i : Int) = xs[i] := by simp [rd, h]
theorem rdOf_nat {α : Type} (d : α) (xs : List α) (i : Nat) (h : i < xs.length) : rdOf d xs (i : Int) = xs[i] := by simp [rdOf, h]
theorem drop_cons {α : Type} (l : List α) (i : Nat) (h : i < l.length) : l.drop i = l[i] :: l.drop (i + 1) := (List.getElem_cons_drop h).symm
theorem ba_ext {a b : ByteArray} (h : a.toList = b.toList) : a = b := by
  have e : ∀ c : ByteArray, c.toList = c.data.toList := fun c => ByteArray.toList_eq c
  rw [e, e] at h
  cases a; cases b
  congr 1
  exact Array.toList_inj.1 h
end Go.Proofs.YthpmmofleddpnaaGreatDoor.P
end
section
namespace Go.Proofs.YthpmmofleddpnaaGreatDoor.P
set_option linter.unusedVariables false
set_option linter.unusedSimpArgs false
open Go.RowKit Go.Proofs.YthpmmofleddpnaaGreatDoorW.PrintWords Go.Proofs.YthpmmofleddpnaaGreatDoorW.PrintMore Go.Proofs.YthpmmofleddpnaaGreatDoor.X
def letterB (n : Int) : Bool := decide (97 ≤ n) && decide (n ≤ 122)
def digitB (n : Int) : Bool := decide (48 ≤ n) && decide (n ≤ 57)
theorem letter_f (n : Int) : words_letter.f n = some (letterB n) := by
  unfold words_letter.f letterB
  by_cases h : 97 ≤ n
  · rw [if_pos h, decide_eq_true h, Bool.true_and]
  · rw [if_neg h, decide_eq_false h, Bool.false_and]
theorem digit_f (n : Int) : words_digit.f n = some (digitB n) := by
  unfold words_digit.f digitB
  by_cases h : 48 ≤ n
  · rw [if_pos h, decide_eq_true h, Bool.true_and]
  · rw [if_neg h, decide_eq_false h, Bool.false_and]
def chB (s : ByteArray) (i : Nat) : Bool := letterB (bt s (i : Int)) || (!(i == 0) && digitB (bt s (i : Int)))
def nameFrom (s : ByteArray) : Nat → Nat → Bool
  | 0, _ => true
  | d + 1, i => chB s i && nameFrom s d (i + 1)
def nameB (s : ByteArray) : Bool := decide (0 < s.size) && decide (s.size ≤ 12) && nameFrom s s.size 0
theorem nameLoop (s : ByteArray) (hs : s.size ≤ 12) (h0 : letterB (bt s 0) = true) : ∀ (d i : Nat), i + d = s.size → Ev (fun k => words_Name.l0 k s s.size i) (nameFrom s d i)
  | 0, i, hd => by
    refine Ev_succ ?_
    simp only [words_Name.l0, if_neg (show ¬ ((i : Int) < (s.size : Int)) by omega)]
    exact Ev.now _
  | d + 1, i, hd => by
    have hi : i < s.size := by omega
    have ih := nameLoop s hs h0 d (i + 1) (by omega)
    refine Ev_succ ?_
    simp only [words_Name.l0, if_pos (show (i : Int) < (s.size : Int) by omega), if_pos (show 0 ≤ (i : Int) by omega), letter_f, digit_f, Option.bind_some, w_succ hi (by omega), nameFrom, chB]
    cases h1 : letterB (bt s (i : Int)) with
    | true => simp only [if_true, Bool.true_or, Bool.true_and]; exact ih
    | false =>
      simp only [Bool.false_eq_true, if_false, Bool.false_or]
      have hi0 : (i == 0) = false := by
        rw [← Bool.not_eq_true, beq_iff_eq]
        rintro rfl
        rw [show ((0 : Nat) : Int) = 0 from rfl, h0] at h1
        cases h1
      simp only [hi0, Bool.not_false, Bool.true_and]
      cases h2 : digitB (bt s (i : Int)) with
      | true => simp only [if_true, Bool.true_and]; exact ih
      | false => simp only [Bool.false_eq_true, if_false, Bool.false_and]; exact Ev.now _
theorem name_f (s : ByteArray) : Ev (fun k => words_Name.f k s) (nameB s) := by
  have hj : nameB s = false → Ev (fun k => words_Name.j0 k s true) (nameB s) := by
    intro h
    rw [h]
    refine Ev_succ ?_
    simp only [words_Name.j0, if_true]
    exact Ev.now _
  unfold words_Name.f
  by_cases c0 : s.toList = []
  · simp only [if_pos c0]
    refine hj ?_
    have : s.size = 0 := by
      have e : s.toList = s.data.toList := ByteArray.toList_eq s
      rw [e] at c0
      have := congrArg List.length c0
      simpa using this
    simp [nameB, this]
  · simp only [if_neg c0]
    by_cases c1 : (s.size : Int) > 12
    · simp only [if_pos c1]
      exact hj (by simp [nameB]; omega)
    · have hp : 0 < s.size := by
        rcases Nat.eq_zero_or_pos s.size with h | h
        · exfalso
          apply c0
          have e : s.toList = s.data.toList := ByteArray.toList_eq s
          rw [e]
          exact List.length_eq_zero_iff.1 (by simpa using h)
        · exact h
      simp only [if_neg c1, if_pos (show 0 < (s.size : Int) by omega), letter_f, Option.bind_some]
      have hn : nameB s = nameFrom s s.size 0 := by
        unfold nameB
        rw [decide_eq_true hp, decide_eq_true (show s.size ≤ 12 by omega)]
        simp
      cases h1 : letterB (bt s 0) with
      | false =>
        refine hj ?_
        rw [hn]
        obtain ⟨d, hd⟩ : ∃ d, s.size = d + 1 := ⟨s.size - 1, by omega⟩
        rw [hd]
        simp [nameFrom, chB, h1]
      | true =>
        refine Ev_succ ?_
        simp only [words_Name.j0, Bool.not_true, Bool.false_eq_true, if_false]
        rw [hn]
        exact nameLoop s (by omega) h1 s.size 0 (by omega)
abbrev Mem := S148
abbrev Act11 := S151
theorem rdM (l : List Mem) (i : Nat) (h : i < l.length) : rd_T148 l (i : Int) = l[i] := by simp [rd_T148, h]
theorem rdA (l : List Act11) (i : Nat) (h : i < l.length) : rd_T151 l (i : Int) = l[i] := by simp [rd_T151, h]
def fndM (q : ByteArray) : List Mem → Mem × Bool
  | [] => (z148, false)
  | x :: r => if x.f0.toList = q.toList then (x, true) else fndM q r
def fndA (q : ByteArray) : List Act11 → ByteArray × Int × Bool
  | [] => ((⟨#[]⟩ : ByteArray), 0, false)
  | x :: r => if x.f0.toList = q.toList then (x.f0, x.f1, true) else fndA q r
theorem idxM_fnd (q : ByteArray) : ∀ (l : List Mem) (i : Nat), (idxM (fun t => t.f0.toList == q.toList) l (i : Int) = -1 ∧ fndM q l = (z148, false)) ∨ ∃ j : Nat, ∃ h : j < l.length, idxM (fun t => t.f0.toList == q.toList) l (i : Int) = ((i + j : Nat) : Int) ∧ fndM q l = (l[j], true)
  | [], i => Or.inl ⟨rfl, rfl⟩
  | x :: r, i => by
    unfold idxM fndM
    by_cases c : x.f0.toList = q.toList
    · rw [if_pos (by simpa using c), if_pos c]
      exact Or.inr ⟨0, by simp, by simp, rfl⟩
    · rw [if_neg (by simpa using c), if_neg c, show (i : Int) + 1 = ((i + 1 : Nat) : Int) by omega]
      rcases idxM_fnd q r (i + 1) with ⟨h1, h2⟩ | ⟨j, hj, h1, h2⟩
      · exact Or.inl ⟨h1, h2⟩
      · exact Or.inr ⟨j + 1, by simp; omega, by rw [h1]; congr 1; omega, by rw [h2]; rfl⟩
theorem idxA_fnd (q : ByteArray) : ∀ (l : List Act11) (i : Nat), (idxA (fun t => t.f0.toList == q.toList) l (i : Int) = -1 ∧ fndA q l = ((⟨#[]⟩ : ByteArray), 0, false)) ∨ ∃ j : Nat, ∃ h : j < l.length, idxA (fun t => t.f0.toList == q.toList) l (i : Int) = ((i + j : Nat) : Int) ∧ fndA q l = (l[j].f0, l[j].f1, true)
  | [], i => Or.inl ⟨rfl, rfl⟩
  | x :: r, i => by
    unfold idxA fndA
    by_cases c : x.f0.toList = q.toList
    · rw [if_pos (by simpa using c), if_pos c]
      exact Or.inr ⟨0, by simp, by simp, rfl⟩
    · rw [if_neg (by simpa using c), if_neg c, show (i : Int) + 1 = ((i + 1 : Nat) : Int) by omega]
      rcases idxA_fnd q r (i + 1) with ⟨h1, h2⟩ | ⟨j, hj, h1, h2⟩
      · exact Or.inl ⟨h1, h2⟩
      · exact Or.inr ⟨j + 1, by simp; omega, by rw [h1]; congr 1; omega, by rw [h2]; rfl⟩
theorem accM_eq (q : ByteArray) (l : List Act11) : accM q l = fndA q l := by
  unfold accM
  rcases idxA_fnd q l 0 with ⟨h1, h2⟩ | ⟨j, hj, h1, h2⟩
  · rw [show ((0 : Nat) : Int) = 0 from rfl] at h1
    rw [h1, h2, if_pos (by decide)]
  · rw [Nat.zero_add, show ((0 : Nat) : Int) = 0 from rfl] at h1
    rw [h1, h2, if_neg (by omega), rdA l j hj]
def tupM (q : Mem × Bool) : ByteArray × Int × List Act11 × Bool := (q.1.f0, q.1.f1, q.1.f2, q.2)
theorem mfind_f (l : List Mem) (q : ByteArray) (hs : ∀ m ∈ l, m.f2.length < 137438953472) : member_Find.f l q = some (tupM (fndM q l)) := by
  unfold member_Find.f member_at.f
  simp only [Option.bind_some]
  rcases idxM_fnd q l 0 with ⟨h1, h2⟩ | ⟨j, hj, h1, h2⟩
  · rw [show ((0 : Nat) : Int) = 0 from rfl] at h1
    rw [h1, h2, if_pos (by decide)]; rfl
  · rw [Nat.zero_add, show ((0 : Nat) : Int) = 0 from rfl] at h1
    have e : api_Account_130.f l[j].f2 = some l[j].f2 := by
      unfold api_Account_130.f
      exact if_pos (hs _ (List.getElem_mem hj))
    rw [h1, h2, if_neg (by omega), if_pos (by omega), if_pos (by omega), rdM l j hj, e]
    rfl
theorem macc_f (l : List Mem) (p q : ByteArray) (hs : ∀ m ∈ l, m.f2.length < 137438953472) : member_Account.f l p q = some (fndA q (fndM p l).1.f2) := by
  unfold member_Account.f
  rw [mfind_f l p hs]
  simp only [Option.bind_some, accM_eq]
  rfl
def mayT (l : List Mem) (p q : ByteArray) : Int := if (fndM p l).2 = true then (if (fndA q (fndM p l).1.f2).2.2 = true then (if (fndM p l).1.f1 = 1 then 0 else 13) else 21) else 20
theorem may_f (l : List Mem) (p q : ByteArray) (hs : ∀ m ∈ l, m.f2.length < 137438953472) : Ev (fun k => member_May.f k l p q 1) (mayT l p q) := by
  unfold member_May.f mayT
  simp only [mfind_f l p hs, macc_f l p q hs, Option.bind_some, tupM, if_true]
  by_cases c1 : (fndM p l).2 = true
  case neg => simp only [if_neg c1]; exact Ev.now _
  by_cases c2 : (fndA q (fndM p l).1.f2).2.2 = true
  case neg => simp only [if_pos c1, if_neg c2]; exact Ev.now _
  by_cases c3 : (fndM p l).1.f1 = 1
  · simp only [if_pos c1, if_pos c2, if_pos c3]; exact Ev.now _
  by_cases c4 : (fndM p l).1.f1 = 2
  · simp only [if_pos c1, if_pos c2, if_neg c3, if_pos c4]; exact Ev.now _
  by_cases c5 : (fndM p l).1.f1 = 3
  · simp only [if_pos c1, if_pos c2, if_neg c3, if_neg c4, if_pos c5]
    refine Ev_bind (a := false) (Ev.of (k := 10) (slices_Contains_int_int.mono _ _) (by decide +kernel)) ?_
    simp only [Bool.false_eq_true, if_false]
    exact Ev.now _
  · simp only [if_pos c1, if_pos c2, if_neg c3, if_neg c4, if_neg c5]; exact Ev.now _
def accV (l : List Act11) : List Act11 → Nat → Int
  | [], _ => 0
  | a :: r, i => if nameE (nameB a.f0) i (rd_T151 l ((i : Int) - 1)).f0 a.f0 = 0 then (if 1 ≤ a.f1 ∧ a.f1 ≤ 3 then accV l r (i + 1) else 21) else nameE (nameB a.f0) i (rd_T151 l ((i : Int) - 1)).f0 a.f0
def memV (l : List Mem) : List Mem → Nat → Int
  | [], _ => 0
  | m :: r, i => if nameE (nameB m.f0) i (rd_T148 l ((i : Int) - 1)).f0 m.f0 = 0 then (if 1 ≤ m.f1 ∧ m.f1 ≤ 4 then (if m.f2.length ≤ 16 then (if accV m.f2 m.f2 0 = 0 then memV l r (i + 1) else accV m.f2 m.f2 0) else 8) else 13) else nameE (nameB m.f0) i (rd_T148 l ((i : Int) - 1)).f0 m.f0
def memC (l : List Mem) : Int := if 32 < l.length then 8 else memV l l 0
theorem accE_f (l : List Act11) : ∀ (r : List Act11) (i : Nat), Ev (fun k => accE k l r i) (accV l r i)
  | [], i => Ev.now _
  | a :: r, i => by
    unfold accE accV
    refine Ev_bind (name_f a.f0) ?_
    split
    · split
      · exact accE_f l r (i + 1)
      · exact Ev.now _
    · exact Ev.now _
theorem memE_f (l : List Mem) : ∀ (r : List Mem) (i : Nat), Ev (fun k => memE k l r i) (memV l r i)
  | [], i => Ev.now _
  | a :: r, i => by
    unfold memE memV
    refine Ev_bind (name_f a.f0) ?_
    split
    · split
      · split
        · refine Ev_bind (accE_f a.f2 a.f2 0) ?_
          by_cases c : accV a.f2 a.f2 0 = 0
          · simp only [if_pos c]; exact memE_f l r (i + 1)
          · simp only [if_neg c]; exact Ev.now _
        · exact Ev.now _
      · exact Ev.now _
    · exact Ev.now _
theorem mcheck_f (l : List Mem) : Ev (fun k => member_Check.f k l) (memC l) := by
  unfold member_Check.f memC
  split
  · exact Ev.now _
  · exact memE_f l l 0
abbrev Prod9 := S69
theorem Ev_or {α : Type} {g : Nat → Bool → Option α} {a b : Prop} [Decidable a] [Decidable b] {r : α} (ht : (a ∨ b) → Ev (fun k => g k true) r) (hf : ¬ (a ∨ b) → Ev (fun k => g k false) r) : Ev (fun k => if a then g k true else g k (decide b)) r := by
  by_cases ca : a
  · simp only [if_pos ca]; exact ht (Or.inl ca)
  · simp only [if_neg ca]
    by_cases cb : b
    · rw [decide_eq_true cb]; exact ht (Or.inr cb)
    · rw [decide_eq_false cb]; exact hf (fun h => h.elim ca cb)
theorem Ev_if {α : Type} {c : Prop} [Decidable c] {f g : Nat → Option α} {r : α} (h1 : c → Ev f r) (h2 : ¬ c → Ev g r) : Ev (fun k => if c then f k else g k) r := by
  by_cases h : c
  · simp only [if_pos h]; exact h1 h
  · simp only [if_neg h]; exact h2 h
def prodT (p : Prod9) : Int := if -16777216 ≤ p.f4 ∧ p.f4 ≤ 16777216 ∧ -16777216 ≤ p.f5 ∧ p.f5 ≤ 16777216 ∧ p.f4 ≤ p.f5 ∧ Int.tmod p.f4 p.f3 = 0 ∧ Int.tmod p.f5 p.f3 = 0 then 0 else 17
def prodE (p : Prod9) : Int := if nameB p.f0 = true then (if p.f1 < 0 ∨ p.f1 ≥ 8 then 25 else if p.f2 < 1 ∨ p.f2 > 4096 then 2 else if p.f3 < 1 ∨ p.f3 > 16777216 then 16 else prodT p) else 10
theorem pwithin_f (n : Int) : product_within.f n 16777216 = some (decide (-16777216 ≤ n) && decide (n ≤ 16777216)) := by
  unfold product_within.f
  have e : wrap64 (-16777216) = -16777216 := w_id (by omega) (by omega)
  rw [e]
  by_cases h : n ≥ -16777216
  · rw [if_pos h, decide_eq_true (show -16777216 ≤ n from h), Bool.true_and]
  · rw [if_neg h, decide_eq_false (show ¬ -16777216 ≤ n from h), Bool.false_and]
theorem and_iff (a b : Prop) [Decidable a] [Decidable b] : (decide a && decide b) = true ↔ a ∧ b := by simp
theorem prodT_of {p : Prod9} (h : ¬ (-16777216 ≤ p.f4 ∧ p.f4 ≤ 16777216 ∧ -16777216 ≤ p.f5 ∧ p.f5 ≤ 16777216 ∧ p.f4 ≤ p.f5 ∧ Int.tmod p.f4 p.f3 = 0 ∧ Int.tmod p.f5 p.f3 = 0)) : prodT p = 17 := if_neg h
theorem prod_f (p : Prod9) : Ev (fun k => product_Check.f k p.f0 p.f1 p.f2 p.f3 p.f4 p.f5 p.f6) (prodE p) := by
  have h3 : ¬ (p.f3 < 1 ∨ p.f3 > 16777216) → Ev (fun k => product_Check.j3 k false p.f0 p.f1 p.f2 p.f3 p.f4 p.f5 p.f6) (prodT p) := by
    intro c
    refine Ev_succ ?_
    simp only [product_Check.j3, Bool.false_eq_true, if_false, pwithin_f, Option.bind_some, and_iff]
    refine Ev_if (fun c1 => Ev_if (fun c2 => Ev_if (fun c3 => ?_) fun c3 => Ev_if (fun c4 => by omega) fun c4 => Ev_if (fun c5 => Ev_if (fun c6 => ?_) fun c6 => ?_) fun c5 => ?_) fun c2 => ?_) fun c1 => ?_
    · rw [prodT_of (by omega)]; exact Ev.now _
    · have : prodT p = 0 := if_pos ⟨c1.1, c1.2, c2.1, c2.2, by omega, c5, c6⟩
      rw [this]; exact Ev.now _
    · rw [prodT_of (fun h => c6 h.2.2.2.2.2.2)]; exact Ev.now _
    · rw [prodT_of (fun h => c5 h.2.2.2.2.2.1)]; exact Ev.now _
    · rw [prodT_of (by omega)]; exact Ev.now _
    · rw [prodT_of (by omega)]; exact Ev.now _
  have h0 : nameB p.f0 = true → Ev (fun k => product_Check.j0 k false p.f0 p.f1 p.f2 p.f3 p.f4 p.f5 p.f6) (prodE p) := by
    intro hn
    refine Ev_succ ?_
    unfold prodE
    rw [if_pos hn]
    simp only [product_Check.j0, Bool.false_eq_true, if_false]
    refine Ev_or (g := fun k b => product_Check.j1 k b p.f0 p.f1 p.f2 p.f3 p.f4 p.f5 p.f6) (fun c => ?_) (fun c => ?_)
    · rw [if_pos c]; refine Ev_succ ?_; simp only [product_Check.j1, if_true]; exact Ev.now _
    rw [if_neg c]
    refine Ev_succ ?_
    simp only [product_Check.j1, Bool.false_eq_true, if_false]
    refine Ev_or (g := fun k b => product_Check.j2 k b p.f0 p.f1 p.f2 p.f3 p.f4 p.f5 p.f6) (fun c => ?_) (fun c => ?_)
    · rw [if_pos c]; refine Ev_succ ?_; simp only [product_Check.j2, if_true]; exact Ev.now _
    rw [if_neg c]
    refine Ev_succ ?_
    simp only [product_Check.j2, Bool.false_eq_true, if_false]
    refine Ev_or (g := fun k b => product_Check.j3 k b p.f0 p.f1 p.f2 p.f3 p.f4 p.f5 p.f6) (fun c => ?_) (fun c => ?_)
    · rw [if_pos c]; refine Ev_succ ?_; simp only [product_Check.j3, if_true]; exact Ev.now _
    rw [if_neg c]
    exact h3 c
  have h1 : nameB p.f0 = false → Ev (fun k => product_Check.j0 k true p.f0 p.f1 p.f2 p.f3 p.f4 p.f5 p.f6) (prodE p) := by
    intro hn
    refine Ev_succ ?_
    unfold prodE
    rw [if_neg (by rw [hn]; decide)]
    simp only [product_Check.j0, if_true]
    exact Ev.now _
  unfold product_Check.f
  refine Ev_if (fun c => ?_) (fun c => ?_)
  · refine h1 ?_
    simp only [Bool.and_eq_true, beq_iff_eq] at c
    have e : p.f0.size = 0 := by
      have : p.f0.data.toList = [] := by rw [← ByteArray.toList_eq]; exact c.1
      have h2 : p.f0.data.toList.length = 0 := by rw [this]; rfl
      simpa using h2
    unfold nameB
    rw [e]; rfl
  · refine Ev_bind (name_f p.f0) ?_
    cases hn : nameB p.f0 with
    | true => exact h0 hn
    | false => exact h1 hn
def ProdOk (p : Prod9) : Prop := 1 ≤ p.f3 ∧ p.f3 ≤ 16777216 ∧ -16777216 ≤ p.f4 ∧ p.f4 ≤ 16777216 ∧ -16777216 ≤ p.f5 ∧ p.f5 ≤ 16777216 ∧ p.f4 ≤ p.f5 ∧ Int.tmod p.f4 p.f3 = 0 ∧ Int.tmod p.f5 p.f3 = 0
theorem prodE_zero {p : Prod9} (h : prodE p = 0) : ProdOk p := by
  unfold prodE at h
  by_cases c0 : nameB p.f0 = true
  case neg => rw [if_neg c0] at h; omega
  rw [if_pos c0] at h
  by_cases c1 : p.f1 < 0 ∨ p.f1 ≥ 8
  · rw [if_pos c1] at h; omega
  rw [if_neg c1] at h
  by_cases c2 : p.f2 < 1 ∨ p.f2 > 4096
  · rw [if_pos c2] at h; omega
  rw [if_neg c2] at h
  by_cases c3 : p.f3 < 1 ∨ p.f3 > 16777216
  · rw [if_pos c3] at h; omega
  rw [if_neg c3] at h
  unfold prodT at h
  split at h
  · rename_i c
    unfold ProdOk
    exact ⟨by omega, by omega, c.1, c.2.1, c.2.2.1, c.2.2.2.1, c.2.2.2.2.1, c.2.2.2.2.2.1, c.2.2.2.2.2.2⟩
  · omega
def prodPrice (p : Prod9) (n : Int) : Int := if prodE p = 0 then (if n < p.f4 ∨ n > p.f5 then 17 else if Int.tmod n p.f3 = 0 then 0 else 16) else prodE p
theorem prodPrice_f (p : Prod9) (n : Int) : Ev (fun k => product_Price.f k p.f0 p.f1 p.f2 p.f3 p.f4 p.f5 p.f6 n) (prodPrice p n) := by
  unfold product_Price.f prodPrice
  refine Ev_bind (prod_f p) ?_
  refine Ev_if (fun h => ?_) (fun h => by rw [if_neg h]; exact Ev.now _)
  rw [if_pos h]
  have hok := prodE_zero h
  unfold ProdOk at hok
  refine Ev_or (g := fun k b => product_Price.j0 k n b p.f0 p.f1 p.f2 p.f3 p.f4 p.f5 p.f6) (fun c => ?_) (fun c => ?_)
  · rw [if_pos c]; refine Ev_succ ?_; simp only [product_Price.j0, if_true]; exact Ev.now _
  rw [if_neg c]
  refine Ev_succ ?_
  simp only [product_Price.j0, Bool.false_eq_true, if_false, if_neg (show ¬ p.f3 = 0 by omega)]
  refine Ev_if (fun h => ?_) (fun h => ?_)
  · rw [if_pos h]; exact Ev.now _
  · rw [if_neg h]; exact Ev.now _
def fstT (q : Prod9 × Bool) : ByteArray × Int × Int × Int × Int × Int × Bool × Bool := (q.1.f0, q.1.f1, q.1.f2, q.1.f3, q.1.f4, q.1.f5, q.1.f6, q.2)
def allE (l : List Prod9) : Nat → Nat → Int
  | 0, _ => 0
  | d + 1, i => if prodE (l.getD i z69) = 0 then (if i > 0 then (if Op.bytesLess (l.getD (i - 1) z69).f0.toList (l.getD i z69).f0.toList = true then allE l d (i + 1) else 12) else allE l d (i + 1)) else prodE (l.getD i z69)
theorem rdG (l : List Prod9) (i : Nat) : rd_T69 l (i : Int) = l.getD i z69 := by unfold rd_T69; rw [Int.toNat_natCast]
theorem all_loop (l : List Prod9) (hl : l.length ≤ 4611686018427387904) : ∀ (d i : Nat), i + d = l.length → Ev (fun k => product_CheckAll.l0 k l l l.length i) (allE l d i)
  | 0, i, hd => by
    refine Ev_succ ?_
    simp only [product_CheckAll.l0, if_neg (show ¬ ((i : Int) < (l.length : Int)) by omega)]
    exact Ev.now _
  | d + 1, i, hd => by
    have hi : i < l.length := by omega
    have ih := all_loop l hl d (i + 1) (by omega)
    refine Ev_succ ?_
    simp only [product_CheckAll.l0, if_pos (show (i : Int) < (l.length : Int) by omega), if_pos (show 0 ≤ (i : Int) by omega), w_succ hi (by omega), rdG]
    refine Ev_bind (prod_f (l.getD i z69)) ?_
    unfold allE
    by_cases c : prodE (l.getD i z69) = 0
    · simp only [if_pos c]
      by_cases c2 : i > 0
      · simp only [if_pos c2, if_pos (show (i : Int) > 0 by omega), w_pred c2 (by omega), if_pos (show 0 ≤ ((i - 1 : Nat) : Int) by omega), if_pos (show ((i - 1 : Nat) : Int) < (l.length : Int) by omega), rdG]
        by_cases c3 : Op.bytesLess (l.getD (i - 1) z69).f0.toList (l.getD i z69).f0.toList = true
        · simp only [if_pos c3]; exact ih
        · simp only [if_neg c3]; exact Ev.now _
      · simp only [if_neg c2, if_neg (show ¬ (i : Int) > 0 by omega)]; exact ih
    · simp only [if_neg c]; exact Ev.now _
def allC (l : List Prod9) : Int := if (l.length : Int) > 32 then 8 else allE l l.length 0
theorem allC_f (l : List Prod9) (hl : l.length ≤ 4611686018427387904) : Ev (fun k => product_CheckAll.f k l) (allC l) := by
  unfold product_CheckAll.f allC
  by_cases c : (l.length : Int) > 32
  · simp only [if_pos c]; exact Ev.now _
  · simp only [if_neg c]; exact all_loop l hl l.length 0 (by omega)
end Go.Proofs.YthpmmofleddpnaaGreatDoor.P
end
section
namespace Go.Proofs.YthpmmofleddpnaaGreatDoor.P
open Go.RowKit Go.Proofs.YthpmmofleddpnaaGreatDoorW.PrintWords Go.Proofs.YthpmmofleddpnaaGreatDoorW.PrintMore Go.Proofs.YthpmmofleddpnaaGreatDoor.X
abbrev Ser := S23
end Go.Proofs.YthpmmofleddpnaaGreatDoor.P
end
section
namespace Go.Proofs.YthpmmofleddpnaaGreatDoor.P
set_option linter.unusedVariables false
set_option linter.unusedSimpArgs false
open Go.RowKit Go.Proofs.YthpmmofleddpnaaGreatDoorW.PrintWords Go.Proofs.YthpmmofleddpnaaGreatDoorW.PrintMore Go.Proofs.YthpmmofleddpnaaGreatDoor.X
def tailC (s : S23) (p : Prod9) : Int := if s.f2 < 0 ∨ s.f2 > 73048 then 15 else if s.f1 = 1 then (if s.f3 = 0 then 0 else 17) else (if prodPrice p s.f3 = 0 then 0 else 17)
def chkE (l : List Prod9) (s : S23) : Int := if allC l = 0 then (if (fstP s.f0 l).2 = true ∧ 1 ≤ s.f1 ∧ s.f1 ≤ 3 then tailC s (fstP s.f0 l).1 else 19) else allC l
theorem chk_j0 (s : S23) (p : Prod9) (h1 : 1 ≤ s.f1) : Ev (fun k => series_Check.j0 k false s.f0 s.f1 s.f2 s.f3 p.f0 p.f1 p.f2 p.f3 p.f4 p.f5 p.f6) (tailC s p) := by
  refine Ev_succ ?_
  simp only [series_Check.j0, Bool.false_eq_true, if_false]
  unfold tailC
  have bad : Ev (fun k => series_Check.j1 k true s.f0 s.f1 s.f2 s.f3 p.f0 p.f1 p.f2 p.f3 p.f4 p.f5 p.f6) (15 : Int) := Ev_succ (by simp only [series_Check.j1, if_true]; exact Ev.now _)
  by_cases c1 : s.f2 < 0
  · rw [if_pos (Or.inl c1)]; simp only [if_pos c1]; exact bad
  by_cases c2 : s.f2 > 73048
  · rw [if_pos (Or.inr c2)]; simp only [if_neg c1, decide_eq_true c2]; exact bad
  rw [if_neg (by omega)]
  simp only [if_neg c1, decide_eq_false c2]
  refine Ev_succ ?_
  simp only [series_Check.j1, Bool.false_eq_true, if_false]
  by_cases c3 : s.f1 = 1
  · simp only [if_pos c3]
    refine Ev_succ ?_
    by_cases c4 : s.f3 = 0
    · have e : (s.f3 != 0) = false := by rw [bne_eq_false_iff_eq]; exact c4
      simp only [series_Check.j2, e, Bool.false_eq_true, if_false, if_pos c3, if_pos c4]
      exact Ev.now _
    · have e : (s.f3 != 0) = true := by rw [bne_iff_ne]; exact c4
      simp only [series_Check.j2, e, if_true, if_neg c4]
      exact Ev.now _
  · simp only [if_neg c3]
    refine Ev_succ ?_
    simp only [series_Check.j2, Bool.false_eq_true, if_false, if_neg c3]
    refine Ev_bind (prodPrice_f p s.f3) ?_
    by_cases c4 : prodPrice p s.f3 = 0
    · simp only [if_pos c4]; exact Ev.now _
    · simp only [if_neg c4]; exact Ev.now _
theorem chk_f (l : List Prod9) (s : S23) (hl : l.length ≤ 4611686018427387904) : Ev (fun k => series_Check.f k l s.f0 s.f1 s.f2 s.f3) (chkE l s) := by
  unfold series_Check.f chkE
  refine Ev_bind (allC_f l hl) ?_
  by_cases c0 : allC l = 0
  case neg => simp only [if_neg c0]; exact Ev.now _
  simp only [if_pos c0]
  have e1 : product_Find.f l s.f0 = some (fstT (fstP s.f0 l)) := rfl
  rw [e1]
  simp only [Option.bind_some]
  have bad : ∀ p : Prod9, Ev (fun k => series_Check.j0 k true s.f0 s.f1 s.f2 s.f3 p.f0 p.f1 p.f2 p.f3 p.f4 p.f5 p.f6) (19 : Int) := fun p => Ev_succ (by simp only [series_Check.j0, if_true]; exact Ev.now _)
  by_cases c1 : (fstP s.f0 l).2 = true
  case neg => rw [if_neg (fun h => c1 h.1)]; simp only [if_neg (show ¬ (fstT (fstP s.f0 l)).2.2.2.2.2.2.2 = true from c1)]; exact bad (fstP s.f0 l).1
  by_cases c2 : s.f1 < 1
  · rw [if_neg (by omega)]; simp only [if_pos (show (fstT (fstP s.f0 l)).2.2.2.2.2.2.2 = true from c1), if_pos c2]; exact bad (fstP s.f0 l).1
  by_cases c3 : s.f1 > 3
  · rw [if_neg (by omega)]; simp only [if_pos (show (fstT (fstP s.f0 l)).2.2.2.2.2.2.2 = true from c1), if_neg c2, decide_eq_true c3]; exact bad (fstP s.f0 l).1
  rw [if_pos ⟨c1, by omega, by omega⟩]
  simp only [if_pos (show (fstT (fstP s.f0 l)).2.2.2.2.2.2.2 = true from c1), if_neg c2, decide_eq_false c3]
  exact chk_j0 s (fstP s.f0 l).1 (by omega)
end Go.Proofs.YthpmmofleddpnaaGreatDoor.P
end
section
namespace Go.Proofs.YthpmmofleddpnaaGreatDoor.P
set_option linter.unusedVariables false
open Go.RowKit Go.Proofs.YthpmmofleddpnaaGreatDoorW.PrintWords Go.Proofs.YthpmmofleddpnaaGreatDoorW.PrintMore Go.Proofs.YthpmmofleddpnaaGreatDoor.X
abbrev Trd := S27
def tupE (t : Trd) (e : Int) : Int × Int × Int × ByteArray × Int × Int × Int × Int × Int × ByteArray × ByteArray × ByteArray × ByteArray × Int := (t.f0, t.f1, t.f2, t.f3.f0, t.f3.f1, t.f3.f2, t.f3.f3, t.f4, t.f5, t.f6.f0, t.f6.f1, t.f7.f0, t.f7.f1, e)
end Go.Proofs.YthpmmofleddpnaaGreatDoor.P
end
section
namespace Go.Proofs.YthpmmofleddpnaaGreatDoor.P
set_option linter.unusedVariables false
set_option linter.unusedSimpArgs false
open Go.RowKit Go.Proofs.YthpmmofleddpnaaGreatDoorW.PrintWords Go.Proofs.YthpmmofleddpnaaGreatDoorW.PrintMore Go.Proofs.YthpmmofleddpnaaGreatDoor.X
def chkM (t : Trd) (ms : List Mem) : Int := if memC ms = 0 then (if mayT ms t.f6.f0 t.f6.f1 = 0 then (if mayT ms t.f7.f0 t.f7.f1 = 0 then (if t.f6.f0.toList = t.f7.f0.toList ∧ t.f6.f1.toList = t.f7.f1.toList then 21 else 0) else mayT ms t.f7.f0 t.f7.f1) else mayT ms t.f6.f0 t.f6.f1) else memC ms
def chkP (t : Trd) (ps : List Prod9) (ms : List Mem) : Int := if prodPrice (fstP t.f3.f0 ps).1 t.f5 = 0 then chkM t ms else prodPrice (fstP t.f3.f0 ps).1 t.f5
def chkQ (t : Trd) (ps : List Prod9) (ms : List Mem) : Int := if t.f4 < 1 ∨ t.f4 > 1048576 then 18 else chkP t ps ms
def chkI (t : Trd) (ps : List Prod9) (ms : List Mem) : Int := if (t.f0 < 1 ∨ t.f0 > 1152921504606846976) ∨ (t.f2 < 0 ∨ t.f2 > 86399) then 2 else chkQ t ps ms
def chkT (t : Trd) (ps : List Prod9) (ms : List Mem) : Int := if chkE ps t.f3 = 0 then (if (t.f1 < 0 ∨ t.f1 > 73048) ∨ t.f3.f2 < t.f1 then 15 else chkI t ps ms) else chkE ps t.f3
theorem sameAcc (t : Trd) : (t.f6.f0.toList == t.f7.f0.toList && (t.f6.f1.toList == t.f7.f1.toList)) = true ↔ t.f6.f0.toList = t.f7.f0.toList ∧ t.f6.f1.toList = t.f7.f1.toList := by simp
theorem chk_l0 (t : Trd) (ms : List Mem) (hs : ∀ m ∈ ms, m.f2.length < 137438953472) (i : Nat) (hi : i ≤ 2) : Ev (fun k => trade_Check.l0 k ms ([⟨t.f6.f0, t.f6.f1⟩, ⟨t.f7.f0, t.f7.f1⟩] : List S25) 2 (i : Int) t.f0 t.f1 t.f2 t.f3.f0 t.f3.f1 t.f3.f2 t.f3.f3 t.f4 t.f5 t.f6.f0 t.f6.f1 t.f7.f0 t.f7.f1)
    (if i = 0 then (if mayT ms t.f6.f0 t.f6.f1 = 0 then (if mayT ms t.f7.f0 t.f7.f1 = 0 then (if t.f6.f0.toList = t.f7.f0.toList ∧ t.f6.f1.toList = t.f7.f1.toList then 21 else 0) else mayT ms t.f7.f0 t.f7.f1) else mayT ms t.f6.f0 t.f6.f1) else if i = 1 then (if mayT ms t.f7.f0 t.f7.f1 = 0 then (if t.f6.f0.toList = t.f7.f0.toList ∧ t.f6.f1.toList = t.f7.f1.toList then 21 else 0) else mayT ms t.f7.f0 t.f7.f1) else (if t.f6.f0.toList = t.f7.f0.toList ∧ t.f6.f1.toList = t.f7.f1.toList then 21 else 0)) := by
  have s2 : Ev (fun k => trade_Check.l0 k ms ([⟨t.f6.f0, t.f6.f1⟩, ⟨t.f7.f0, t.f7.f1⟩] : List S25) 2 2 t.f0 t.f1 t.f2 t.f3.f0 t.f3.f1 t.f3.f2 t.f3.f3 t.f4 t.f5 t.f6.f0 t.f6.f1 t.f7.f0 t.f7.f1) (if t.f6.f0.toList = t.f7.f0.toList ∧ t.f6.f1.toList = t.f7.f1.toList then 21 else 0) := by
    refine Ev_succ ?_
    simp only [trade_Check.l0, if_neg (show ¬ (2 : Int) < 2 by decide), sameAcc]
    split
    · exact Ev.now _
    · exact Ev.now _
  have s1 : Ev (fun k => trade_Check.l0 k ms ([⟨t.f6.f0, t.f6.f1⟩, ⟨t.f7.f0, t.f7.f1⟩] : List S25) 2 1 t.f0 t.f1 t.f2 t.f3.f0 t.f3.f1 t.f3.f2 t.f3.f3 t.f4 t.f5 t.f6.f0 t.f6.f1 t.f7.f0 t.f7.f1) (if mayT ms t.f7.f0 t.f7.f1 = 0 then (if t.f6.f0.toList = t.f7.f0.toList ∧ t.f6.f1.toList = t.f7.f1.toList then 21 else 0) else mayT ms t.f7.f0 t.f7.f1) := by
    refine Ev_succ ?_
    have e1 : rd_T25 ([⟨t.f6.f0, t.f6.f1⟩, ⟨t.f7.f0, t.f7.f1⟩] : List S25) 1 = ⟨t.f7.f0, t.f7.f1⟩ := rfl
    have e2 : wrap64 ((1 : Int) + 1) = 2 := w_id (by decide) (by decide)
    simp only [trade_Check.l0, if_pos (show (1 : Int) < 2 by decide), if_pos (show 0 ≤ (1 : Int) by decide), e1, e2, List.length_cons, List.length_nil, if_pos (show (1 : Int) < ((0 + 1 + 1 : Nat) : Int) by decide)]
    refine Ev_bind (may_f ms t.f7.f0 t.f7.f1 hs) ?_
    by_cases c : mayT ms t.f7.f0 t.f7.f1 = 0
    · simp only [if_pos c]; exact s2
    · simp only [if_neg c]; exact Ev.now _
  have s0 : Ev (fun k => trade_Check.l0 k ms ([⟨t.f6.f0, t.f6.f1⟩, ⟨t.f7.f0, t.f7.f1⟩] : List S25) 2 0 t.f0 t.f1 t.f2 t.f3.f0 t.f3.f1 t.f3.f2 t.f3.f3 t.f4 t.f5 t.f6.f0 t.f6.f1 t.f7.f0 t.f7.f1) (if mayT ms t.f6.f0 t.f6.f1 = 0 then (if mayT ms t.f7.f0 t.f7.f1 = 0 then (if t.f6.f0.toList = t.f7.f0.toList ∧ t.f6.f1.toList = t.f7.f1.toList then 21 else 0) else mayT ms t.f7.f0 t.f7.f1) else mayT ms t.f6.f0 t.f6.f1) := by
    refine Ev_succ ?_
    have e1 : rd_T25 ([⟨t.f6.f0, t.f6.f1⟩, ⟨t.f7.f0, t.f7.f1⟩] : List S25) 0 = ⟨t.f6.f0, t.f6.f1⟩ := rfl
    have e2 : wrap64 ((0 : Int) + 1) = 1 := w_id (by decide) (by decide)
    simp only [trade_Check.l0, if_pos (show (0 : Int) < 2 by decide), if_pos (show 0 ≤ (0 : Int) by decide), e1, e2, List.length_cons, List.length_nil, if_pos (show (0 : Int) < ((0 + 1 + 1 : Nat) : Int) by decide)]
    refine Ev_bind (may_f ms t.f6.f0 t.f6.f1 hs) ?_
    by_cases c : mayT ms t.f6.f0 t.f6.f1 = 0
    · simp only [if_pos c]; exact s1
    · simp only [if_neg c]; exact Ev.now _
  match i, hi with
  | 0, _ => exact s0
  | 1, _ => exact s1
  | 2, _ => exact s2
theorem nameE_ok {b : Bool} {i : Nat} {p x : ByteArray} (h : nameE b i p x = 0) : b = true := by
  unfold nameE at h
  cases b with
  | true => rfl
  | false => rw [if_neg (by decide)] at h; exact absurd h (by decide)
theorem accV_zero (l : List Act11) : ∀ (r : List Act11) (i : Nat), accV l r i = 0 → ∀ a ∈ r, nameB a.f0 = true
  | [], _, _, a, h => by cases h
  | x :: r, i, h, a, ha => by
    unfold accV at h
    by_cases c1 : nameE (nameB x.f0) i (rd_T151 l ((i : Int) - 1)).f0 x.f0 = 0
    case neg => rw [if_neg c1] at h; exact absurd h c1
    rw [if_pos c1] at h
    by_cases c2 : 1 ≤ x.f1 ∧ x.f1 ≤ 3
    case neg => rw [if_neg c2] at h; exact absurd h (by decide)
    rw [if_pos c2] at h
    rcases List.mem_cons.1 ha with rfl | ha
    · exact nameE_ok c1
    · exact accV_zero l r (i + 1) h a ha
theorem memV_zero (l : List Mem) : ∀ (r : List Mem) (i : Nat), memV l r i = 0 → ∀ m ∈ r, nameB m.f0 = true ∧ m.f2.length ≤ 16 ∧ accV m.f2 m.f2 0 = 0
  | [], _, _, a, h => by cases h
  | x :: r, i, h, a, ha => by
    unfold memV at h
    by_cases c1 : nameE (nameB x.f0) i (rd_T148 l ((i : Int) - 1)).f0 x.f0 = 0
    case neg => rw [if_neg c1] at h; exact absurd h c1
    rw [if_pos c1] at h
    by_cases c2 : 1 ≤ x.f1 ∧ x.f1 ≤ 4
    case neg => rw [if_neg c2] at h; exact absurd h (by decide)
    rw [if_pos c2] at h
    by_cases c3 : x.f2.length ≤ 16
    case neg => rw [if_neg c3] at h; exact absurd h (by decide)
    rw [if_pos c3] at h
    by_cases c4 : accV x.f2 x.f2 0 = 0
    case neg => rw [if_neg c4] at h; exact absurd h c4
    rw [if_pos c4] at h
    rcases List.mem_cons.1 ha with rfl | ha
    · exact ⟨nameE_ok c1, c3, c4⟩
    · exact memV_zero l r (i + 1) h a ha
theorem memC_zero {l : List Mem} (h : memC l = 0) : ∀ m ∈ l, nameB m.f0 = true ∧ m.f2.length ≤ 16 ∧ accV m.f2 m.f2 0 = 0 := by
  unfold memC at h
  by_cases c : 32 < l.length
  · rw [if_pos c] at h; exact absurd h (by decide)
  · rw [if_neg c] at h; exact memV_zero l l 0 h
theorem chk_j1 (t : Trd) (ps : List Prod9) (ms : List Mem) : Ev (fun k => trade_Check.j1 k ps ms false t.f0 t.f1 t.f2 t.f3.f0 t.f3.f1 t.f3.f2 t.f3.f3 t.f4 t.f5 t.f6.f0 t.f6.f1 t.f7.f0 t.f7.f1) (chkQ t ps ms) := by
  refine Ev_succ ?_
  simp only [trade_Check.j1, Bool.false_eq_true, if_false]
  unfold chkQ
  by_cases c1 : t.f4 < 1
  · rw [if_pos (Or.inl c1)]; simp only [if_pos c1]; exact Ev.now _
  by_cases c2 : t.f4 > 1048576
  · rw [if_pos (Or.inr c2)]; simp only [if_neg c1, if_pos c2]; exact Ev.now _
  rw [if_neg (by omega)]
  have e1 : product_Find.f ps t.f3.f0 = some (fstT (fstP t.f3.f0 ps)) := rfl
  simp only [if_neg c1, if_neg c2, e1, Option.bind_some]
  unfold chkP
  refine Ev_bind (prodPrice_f (fstP t.f3.f0 ps).1 t.f5) ?_
  by_cases c3 : prodPrice (fstP t.f3.f0 ps).1 t.f5 = 0
  case neg => simp only [if_neg c3]; exact Ev.now _
  simp only [if_pos c3]
  unfold chkM
  refine Ev_bind (mcheck_f ms) ?_
  by_cases c4 : memC ms = 0
  case neg => simp only [if_neg c4]; exact Ev.now _
  simp only [if_pos c4]
  exact chk_l0 t ms (fun m h => by have := (memC_zero c4 m h).2.1; omega) 0 (by decide)
theorem chk_jt (t : Trd) (ps : List Prod9) (ms : List Mem) : Ev (fun k => trade_Check.j1 k ps ms true t.f0 t.f1 t.f2 t.f3.f0 t.f3.f1 t.f3.f2 t.f3.f3 t.f4 t.f5 t.f6.f0 t.f6.f1 t.f7.f0 t.f7.f1) (2 : Int) := by
  refine Ev_succ ?_
  simp only [trade_Check.j1, if_true]
  exact Ev.now _
theorem chk_j0T (t : Trd) (ps : List Prod9) (ms : List Mem) : Ev (fun k => trade_Check.j0 k ps ms false t.f0 t.f1 t.f2 t.f3.f0 t.f3.f1 t.f3.f2 t.f3.f3 t.f4 t.f5 t.f6.f0 t.f6.f1 t.f7.f0 t.f7.f1) (chkI t ps ms) := by
  refine Ev_succ ?_
  simp only [trade_Check.j0, Bool.false_eq_true, if_false]
  unfold chkI
  by_cases c1 : t.f0 < 1
  · rw [if_pos (by omega)]; simp only [if_pos c1]; exact chk_jt t ps ms
  by_cases c2 : t.f0 > 1152921504606846976
  · rw [if_pos (by omega)]; simp only [if_neg c1, if_pos c2]; exact chk_jt t ps ms
  by_cases c3 : t.f2 < 0
  · rw [if_pos (by omega)]; simp only [if_neg c1, if_neg c2, if_pos c3]; exact chk_jt t ps ms
  by_cases c4 : t.f2 > 86399
  · rw [if_pos (by omega)]; simp only [if_neg c1, if_neg c2, if_neg c3, decide_eq_true c4]; exact chk_jt t ps ms
  rw [if_neg (by omega)]
  simp only [if_neg c1, if_neg c2, if_neg c3, decide_eq_false c4]
  exact chk_j1 t ps ms
theorem chk_jb (t : Trd) (ps : List Prod9) (ms : List Mem) : Ev (fun k => trade_Check.j0 k ps ms true t.f0 t.f1 t.f2 t.f3.f0 t.f3.f1 t.f3.f2 t.f3.f3 t.f4 t.f5 t.f6.f0 t.f6.f1 t.f7.f0 t.f7.f1) (15 : Int) := by
  refine Ev_succ ?_
  simp only [trade_Check.j0, if_true]
  exact Ev.now _
theorem tcheck_f (t : Trd) (ps : List Prod9) (ms : List Mem) (hl : ps.length ≤ 4611686018427387904) : Ev (fun k => trade_Check.f k t.f0 t.f1 t.f2 t.f3.f0 t.f3.f1 t.f3.f2 t.f3.f3 t.f4 t.f5 t.f6.f0 t.f6.f1 t.f7.f0 t.f7.f1 ps ms) (chkT t ps ms) := by
  unfold trade_Check.f chkT
  refine Ev_bind (chk_f ps t.f3 hl) ?_
  by_cases c0 : chkE ps t.f3 = 0
  case neg => simp only [if_neg c0]; exact Ev.now _
  simp only [if_pos c0, series_Live.f, Option.bind_some]
  by_cases c1 : t.f1 < 0
  · rw [if_pos (by omega)]; simp only [if_pos c1]; exact chk_jb t ps ms
  by_cases c2 : t.f1 > 73048
  · rw [if_pos (by omega)]; simp only [if_neg c1, if_pos c2]; exact chk_jb t ps ms
  simp only [if_neg c1, if_neg c2]
  by_cases c3 : t.f3.f2 ≥ t.f1
  · rw [if_neg (by omega)]; simp only [decide_eq_true c3, Bool.not_true]; exact chk_j0T t ps ms
  · rw [if_pos (by omega)]; simp only [decide_eq_false c3, Bool.not_false]; exact chk_jb t ps ms
theorem mayT_zero {l : List Mem} {p q : ByteArray} (h : mayT l p q = 0) : (fndM p l).2 = true ∧ (fndA q (fndM p l).1.f2).2.2 = true := by
  unfold mayT at h
  by_cases c1 : (fndM p l).2 = true
  case neg => rw [if_neg c1] at h; exact absurd h (by decide)
  by_cases c2 : (fndA q (fndM p l).1.f2).2.2 = true
  · exact ⟨c1, c2⟩
  · rw [if_pos c1, if_neg c2] at h; exact absurd h (by decide)
theorem chkT_zero {t : Trd} {ps : List Prod9} {ms : List Mem} (h : chkT t ps ms = 0) : chkE ps t.f3 = 0 ∧ (0 ≤ t.f1 ∧ t.f1 ≤ 73048) ∧ (1 ≤ t.f0 ∧ t.f0 ≤ 1152921504606846976) ∧ (0 ≤ t.f2 ∧ t.f2 ≤ 86399) ∧ (1 ≤ t.f4 ∧ t.f4 ≤ 1048576) ∧ prodPrice (fstP t.f3.f0 ps).1 t.f5 = 0 ∧ memC ms = 0 ∧ mayT ms t.f6.f0 t.f6.f1 = 0 ∧ mayT ms t.f7.f0 t.f7.f1 = 0 ∧ ¬ (t.f6.f0.toList = t.f7.f0.toList ∧ t.f6.f1.toList = t.f7.f1.toList) := by
  unfold chkT at h
  by_cases c0 : chkE ps t.f3 = 0
  case neg => rw [if_neg c0] at h; exact absurd h c0
  rw [if_pos c0] at h
  by_cases c1 : (t.f1 < 0 ∨ t.f1 > 73048) ∨ t.f3.f2 < t.f1
  · rw [if_pos c1] at h; exact absurd h (by decide)
  rw [if_neg c1] at h
  unfold chkI at h
  by_cases c2 : (t.f0 < 1 ∨ t.f0 > 1152921504606846976) ∨ (t.f2 < 0 ∨ t.f2 > 86399)
  · rw [if_pos c2] at h; exact absurd h (by decide)
  rw [if_neg c2] at h
  unfold chkQ at h
  by_cases c3 : t.f4 < 1 ∨ t.f4 > 1048576
  · rw [if_pos c3] at h; exact absurd h (by decide)
  rw [if_neg c3] at h
  unfold chkP at h
  by_cases c4 : prodPrice (fstP t.f3.f0 ps).1 t.f5 = 0
  case neg => rw [if_neg c4] at h; exact absurd h c4
  rw [if_pos c4] at h
  unfold chkM at h
  by_cases c5 : memC ms = 0
  case neg => rw [if_neg c5] at h; exact absurd h c5
  rw [if_pos c5] at h
  by_cases c6 : mayT ms t.f6.f0 t.f6.f1 = 0
  case neg => rw [if_neg c6] at h; exact absurd h c6
  rw [if_pos c6] at h
  by_cases c7 : mayT ms t.f7.f0 t.f7.f1 = 0
  case neg => rw [if_neg c7] at h; exact absurd h c7
  rw [if_pos c7] at h
  by_cases c8 : t.f6.f0.toList = t.f7.f0.toList ∧ t.f6.f1.toList = t.f7.f1.toList
  · rw [if_pos c8] at h; exact absurd h (by decide)
  exact ⟨c0, by omega, by omega, by omega, by omega, c4, c5, c6, c7, c8⟩
theorem by_rng (s : ByteArray) : ∀ x ∈ bytesOf s, 0 ≤ x ∧ x < 256 := by
  intro x hx
  unfold bytesOf at hx
  obtain ⟨b, hb, rfl⟩ := List.mem_map.1 hx
  have := b.toNat_lt
  omega
theorem by_len (s : ByteArray) : (bytesOf s).length = s.size := bytesOf_length s
theorem by_str (L : List Int) (h : ∀ x ∈ L, 0 ≤ x ∧ x < 256) : bytesOf (strOfNums L) = L := by
  unfold bytesOf
  rw [strOfNums_data, List.map_map]
  conv => rhs; rw [← List.map_id L]
  refine List.map_congr_left fun x hx => ?_
  have := h x hx
  simp only [Function.comp, id, UInt8.toNat_ofNat']
  omega
theorem by_data (s : ByteArray) : s.data.toList = (bytesOf s).map fun n => UInt8.ofNat n.toNat := by
  unfold bytesOf
  rw [List.map_map]
  conv => lhs; rw [← List.map_id s.data.toList]
  refine List.map_congr_left fun x hx => ?_
  simp only [Function.comp, id, Int.toNat_natCast, UInt8.ofNat_toNat]
theorem str_by (s : ByteArray) : strOfNums (bytesOf s) = s := by
  cases s with
  | mk d =>
    unfold strOfNums
    rw [← by_data]
theorem by_inj {a b : ByteArray} (h : bytesOf a = bytesOf b) : a = b := by rw [← str_by a, ← str_by b, h]
theorem by_app (a b : ByteArray) : bytesOf (a ++ b) = bytesOf a ++ bytesOf b := by
  unfold bytesOf
  rw [show (a ++ b).data = a.data ++ b.data from ByteArray.data_append, Array.toList_append, List.map_append]
theorem by_ext (s : ByteArray) (i j : Nat) : bytesOf (s.extract i j) = ((bytesOf s).take j).drop i := by
  unfold bytesOf
  rw [ByteArray.data_extract, Array.toList_extract, ← List.map_take, ← List.map_drop]
  congr 1
  rw [List.extract_eq_take_drop, List.drop_take]
theorem by_toList (s : ByteArray) (l : List UInt8) : s.toList = l ↔ bytesOf s = l.map fun b => (b.toNat : Int) := by
  rw [ByteArray.toList_eq]
  unfold bytesOf
  constructor
  · intro h
    rw [h]
  · intro h
    have e := congrArg (List.map fun n : Int => UInt8.ofNat n.toNat) h
    simpa [List.map_map, Function.comp_def] using e
theorem by_eq (a b : ByteArray) : a.toList = b.toList ↔ a = b := ⟨ba_ext, fun h => h ▸ rfl⟩
theorem by_emp (s : ByteArray) : s.toList = ([] : List UInt8) ↔ bytesOf s = [] := by rw [by_toList]; simp
theorem by_bt (s : ByteArray) (i : Nat) (h : i < (bytesOf s).length) : bt s (i : Int) = (bytesOf s)[i] := by
  rw [← rd_bytesOf, rd_nat _ _ h]
theorem by_drop (s : ByteArray) (i : Nat) (h : i < s.size) : (bytesOf s).drop i = bt s (i : Int) :: (bytesOf s).drop (i + 1) := by
  have h' : i < (bytesOf s).length := by rw [by_len]; exact h
  rw [drop_cons _ _ h', by_bt s i h']
theorem by_end (s : ByteArray) (i : Nat) (h : s.size ≤ i) : (bytesOf s).drop i = [] := List.drop_of_length_le (by rw [by_len]; exact h)
def idxL : List Int → Int → Option Nat
  | [], _ => none
  | x :: r, c => if x = c then some 0 else (idxL r c).map (· + 1)
theorem idx_byte (l : List UInt8) (c : UInt8) : Lib.indexByte l c = match idxL (l.map fun b => (b.toNat : Int)) (c.toNat : Int) with | some i => (i : Int) | none => -1 := by
  induction l with
  | nil => rfl
  | cons x r ih =>
    unfold Lib.indexByte
    simp only [List.map_cons, idxL]
    by_cases h : x = c
    · subst h
      simp
    · have h1 : (x == c) = false := by simpa using h
      have h2 : ¬ ((x.toNat : Int) = (c.toNat : Int)) := fun e => h (UInt8.toNat_inj.1 (by omega))
      rw [h1, if_neg h2]
      simp only [Bool.false_eq_true, if_false]
      rw [ih]
      cases hI : idxL (r.map fun b => (b.toNat : Int)) (c.toNat : Int) with
      | none => simp
      | some i =>
        have h3 : ((i : Int) == -1) = false := by
          rw [beq_eq_false_iff_ne]
          omega
        simp [h3]
theorem idx_some {L : List Int} {c : Int} {i : Nat} (h : idxL L c = some i) : i < L.length ∧ L[i]? = some c ∧ c ∉ L.take i ∧ L = L.take i ++ c :: L.drop (i + 1) := by
  induction L generalizing i with
  | nil => cases h
  | cons x r ih =>
    simp only [idxL] at h
    by_cases hx : x = c
    · rw [if_pos hx] at h
      obtain rfl := Option.some.inj h
      subst hx
      simp
    · rw [if_neg hx] at h
      obtain ⟨j, hj, rfl⟩ := Option.map_eq_some_iff.1 h
      obtain ⟨h1, h2, h3, h4⟩ := ih hj
      refine ⟨by simpa using h1, by simpa using h2, ?_, ?_⟩
      · simp only [List.take_succ_cons, List.mem_cons, not_or]
        exact ⟨fun e => hx e.symm, h3⟩
      · simp only [List.take_succ_cons, List.drop_succ_cons, List.cons_append]
        rw [← h4]
theorem idx_none {L : List Int} {c : Int} (h : idxL L c = none) : c ∉ L := by
  induction L with
  | nil => simp
  | cons x r ih =>
    simp only [idxL] at h
    by_cases hx : x = c
    · rw [if_pos hx] at h; cases h
    · rw [if_neg hx] at h
      have h' : idxL r c = none := by simpa using h
      simp only [List.mem_cons, not_or]
      exact ⟨fun e => hx e.symm, ih h'⟩
theorem ib_cases (c : UInt8) : ∀ s : List UInt8, (Lib.indexByte s c = -1 ∧ c ∉ s) ∨ ∃ A R, c ∉ A ∧ s = A ++ c :: R ∧ Lib.indexByte s c = (A.length : Int)
  | [] => Or.inl ⟨rfl, by simp⟩
  | x :: r => by
    by_cases h : x = c
    · subst h
      exact Or.inr ⟨[], r, by simp, rfl, by simp [Lib.indexByte]⟩
    · have h1 : (x == c) = false := by simpa using h
      rcases ib_cases c r with ⟨h2, h3⟩ | ⟨A, R, h2, h3, h4⟩
      · refine Or.inl ⟨by simp [Lib.indexByte, h1, h2], ?_⟩
        simp only [List.mem_cons, not_or]
        exact ⟨fun e => h e.symm, h3⟩
      · refine Or.inr ⟨x :: A, R, ?_, by rw [h3]; rfl, ?_⟩
        · simp only [List.mem_cons, not_or]
          exact ⟨fun e => h e.symm, h2⟩
        · have h5 : ((A.length : Int) == -1) = false := by rw [beq_eq_false_iff_ne]; omega
          simp [Lib.indexByte, h1, h4, h5]
theorem filter_no {c : UInt8} {A : List UInt8} (h : c ∉ A) : A.filter (fun x => x != c) = A := List.filter_eq_self.2 fun a ha => by
  simp only [bne_iff_ne, ne_eq]
  intro e
  exact h (e ▸ ha)
theorem repl_out (c : UInt8) : ∀ (n : Nat) (s : List UInt8), s.length ≤ n → Lib.replaceK [c] [] (Lib.count s [c]) s = s.filter (fun x => x != c) := by
  intro n
  induction n with
  | zero =>
    intro s hs
    obtain rfl : s = [] := List.length_eq_zero_iff.1 (by omega)
    rcases ib_cases c [] with ⟨h, _⟩ | ⟨A, R, _, h, _⟩
    · rw [Lib.count_miss (by rw [Lib.index_one]; exact h)]; rfl
    · cases A <;> cases h
  | succ n ih =>
    intro s hs
    rcases ib_cases c s with ⟨h, h2⟩ | ⟨A, R, h2, h3, h4⟩
    · rw [Lib.count_miss (by rw [Lib.index_one]; exact h), filter_no h2]; rfl
    · have hi : Lib.index s [c] = (A.length : Int) := by rw [Lib.index_one]; exact h4
      have hd : s.drop (A.length + [c].length) = R := by
        rw [h3, show A ++ c :: R = (A ++ [c]) ++ R by simp]
        exact List.drop_left' (by simp)
      have ht : s.take A.length = A := by rw [h3]; exact List.take_left' rfl
      rw [Lib.count_hit (by simp) hi, Nat.add_comm 1, Lib.replaceK_hit [c] [] _ s A.length hi, hd, ht, ih R (by rw [h3] at hs; simp at hs; omega)]
      rw [h3, List.filter_append, filter_no h2]
      simp
theorem replaceAll_out (s : List UInt8) (c : UInt8) : Lib.replaceAll s [c] [] = s.filter (fun x => x != c) := by
  have e : ([c] == ([] : List UInt8)) = false := rfl
  have m : Lib.replaceNum s [c] (-1) = Lib.count s [c] := by unfold Lib.replaceNum; rw [if_pos (Or.inl (by decide))]
  unfold Lib.replaceAll Lib.replace
  rw [e, m]
  exact repl_out c s.length s (Nat.le_refl _)
theorem day_out {a b c d e f g h : Int} (ha : 48 ≤ a ∧ a ≤ 57) (hb : 48 ≤ b ∧ b ≤ 57) (hc : 48 ≤ c ∧ c ≤ 57) (hd : 48 ≤ d ∧ d ≤ 57) (he : 48 ≤ e ∧ e ≤ 57) (hf : 48 ≤ f ∧ f ≤ 57) (hg : 48 ≤ g ∧ g ≤ 57) (hh : 48 ≤ h ∧ h ≤ 57) :
    (⟨(Lib.replaceAll (strOfNums [a, b, c, d, 45, e, f, 45, g, h]).data.toList [45] []).toArray⟩ : ByteArray) = strOfNums [a, b, c, d, e, f, g, h] := by
  have key : ∀ x : Int, 48 ≤ x ∧ x ≤ 57 → (UInt8.ofNat x.toNat != 45) = true := by
    intro x hx
    simp only [bne_iff_ne, ne_eq]
    intro e
    have := congrArg UInt8.toNat e
    rw [UInt8.toNat_ofNat'] at this
    have e2 : (45 : UInt8).toNat = 45 := rfl
    omega
  rw [replaceAll_out, strOfNums_data]
  simp only [List.map_cons, List.map_nil, List.filter_cons, key a ha, key b hb, key c hc, key d hd, key e he, key f hf, key g hg, key h hh, if_true, show (UInt8.ofNat (45 : Int).toNat != 45) = false from rfl, Bool.false_eq_true, if_false, List.filter_nil]
  rfl
def splitI (c : Int) : List Int → List (List Int)
  | [] => [[]]
  | x :: r => if x = c then [] :: splitI c r else (match splitI c r with | p :: q => (x :: p) :: q | [] => [[x]])
theorem splitI_none {c : Int} : ∀ {L : List Int}, c ∉ L → splitI c L = [L]
  | [], _ => rfl
  | x :: r, h => by
    simp only [List.mem_cons, not_or] at h
    unfold splitI
    rw [if_neg (fun e => h.1 e.symm), splitI_none h.2]
theorem splitI_app {c : Int} : ∀ {A : List Int} (R : List Int), c ∉ A → splitI c (A ++ c :: R) = A :: splitI c R
  | [], R, _ => by rw [List.nil_append, splitI, if_pos rfl]
  | x :: r, R, h => by
    simp only [List.mem_cons, not_or] at h
    rw [List.cons_append, splitI, if_neg (fun e => h.1 e.symm), splitI_app R h.2]
theorem splitB_step (c : UInt8) (s : ByteArray) (ih : ∀ t : ByteArray, t.size < s.size → (Lib.splitB ⟨#[c]⟩ 0 (Lib.countB t ⟨#[c]⟩) t).map bytesOf = splitI (c.toNat : Int) (bytesOf t)) : (Lib.splitB ⟨#[c]⟩ 0 (Lib.countB s ⟨#[c]⟩) s).map bytesOf = splitI (c.toNat : Int) (bytesOf s) := by
  have hix : Lib.indexB s ⟨#[c]⟩ = match idxL (bytesOf s) (c.toNat : Int) with | some i => (i : Int) | none => -1 := by
    have := idx_byte s.data.toList c
    rw [← Lib.index_one] at this
    exact this
  cases hI : idxL (bytesOf s) (c.toNat : Int) with
  | none =>
    rw [hI] at hix
    rw [Lib.countB_miss s _ hix, splitI_none (idx_none hI)]
    rfl
  | some i =>
    rw [hI] at hix
    obtain ⟨h1, h2, h3, h4⟩ := idx_some hI
    have hc := Lib.countB_hit s ⟨#[c]⟩ i (Nat.le_refl _) hix
    have e1 : (⟨#[c]⟩ : ByteArray).size = 1 := rfl
    rw [e1] at hc
    have hsz : (s.extract (i + 1) s.size).size < s.size := by
      rw [by_len] at h1
      rw [ByteArray.size_extract]
      omega
    have ih := ih (s.extract (i + 1) s.size) hsz
    rw [show Lib.countB s ⟨#[c]⟩ = Lib.countB (s.extract (i + 1) s.size) ⟨#[c]⟩ + 1 by omega, Lib.splitB_hit _ _ _ _ i hix, List.map_cons, e1, ih]
    have e2 : bytesOf (s.extract 0 (i + 0)) = (bytesOf s).take i := by rw [by_ext, List.drop_zero, Nat.add_zero]
    have e3 : bytesOf (s.extract (i + 1) s.size) = (bytesOf s).drop (i + 1) := by rw [by_ext, ← by_len, List.take_length]
    rw [e2, e3]
    conv => rhs; rw [h4]
    rw [splitI_app _ h3]
theorem splitB_map (c : UInt8) (n : Nat) : ∀ s : ByteArray, s.size ≤ n → (Lib.splitB ⟨#[c]⟩ 0 (Lib.countB s ⟨#[c]⟩) s).map bytesOf = splitI (c.toNat : Int) (bytesOf s) := by
  induction n with
  | zero => exact fun s hs => splitB_step c s fun t ht => absurd ht (by omega)
  | succ n ih => exact fun s hs => splitB_step c s fun t ht => ih t (by omega)
theorem split_f (s : ByteArray) (c : UInt8) (hs : s.size < 4294967281) : ∃ l, strings_Split.f s (⟨#[c]⟩ : ByteArray) = some l ∧ l.map bytesOf = splitI (c.toNat : Int) (bytesOf s) := by
  refine ⟨_, ?_, splitB_map c s.size s (Nat.le_refl _)⟩
  unfold strings_Split.f
  rw [if_pos ⟨rfl, hs⟩]
def okB (b : Int) : Bool := decide (32 < b) && decide (b ≤ 126)
def goodP (p : List Int) : Bool := !p.isEmpty && p.all okB
theorem sp_len (c : Int) : ∀ L : List Int, (splitI c L).length ≤ L.length + 1
  | [] => by simp [splitI]
  | x :: r => by
    have ih := sp_len c r
    unfold splitI
    split
    · simp only [List.length_cons]; omega
    · split
      · rename_i p q h
        rw [h] at ih
        simp only [List.length_cons] at ih ⊢
        omega
      · simp
theorem field_loop (acc : List ByteArray) (x : ByteArray) (ps : List ByteArray) (n j : Int) (hx : x.size ≤ 4611686018427387904) (ha : acc.length < 8796093022208) : ∀ (d i : Nat), i + d = x.size → (((bytesOf x).drop i).all okB = false → Ev (fun k => words_Fields.l1 k acc 0 x ps n j x.size i) (([], 5) : List ByteArray × Int)) ∧ (((bytesOf x).drop i).all okB = true → ∀ r, Ev (fun k => words_Fields.l0 k (acc ++ [x]) 0 ps n (wrap64 (j + 1))) r → Ev (fun k => words_Fields.l1 k acc 0 x ps n j x.size i) r)
  | 0, i, hd => by
    rw [by_end x i (by omega)]
    refine ⟨fun h => absurd h (by decide), fun _ r hr => ?_⟩
    refine Ev_succ ?_
    simp only [words_Fields.l1, if_neg (show ¬ ((i : Int) < (x.size : Int)) by omega), if_pos ha]
    exact hr
  | d + 1, i, hd => by
    have hi : i < x.size := by omega
    have ih := field_loop acc x ps n j hx ha d (i + 1) (by omega)
    rw [by_drop x i hi, List.all_cons]
    have hb : okB (bt x (i : Int)) = true ↔ (32 < bt x (i : Int) ∧ bt x (i : Int) ≤ 126) := by unfold okB; simp
    by_cases c1 : bt x (i : Int) ≤ 32
    · have hf : okB (bt x (i : Int)) = false := by
        rw [← Bool.not_eq_true, hb]; omega
      rw [hf, Bool.false_and]
      refine ⟨fun _ => Ev_succ ?_, fun h => absurd h (by decide)⟩
      simp only [words_Fields.l1, if_pos (show (i : Int) < (x.size : Int) by omega), if_pos (show 0 ≤ (i : Int) by omega), if_pos c1, if_neg (show ¬ (5 : Int) = 0 by decide)]
      exact Ev.now _
    · by_cases c2 : bt x (i : Int) > 126
      · have hf : okB (bt x (i : Int)) = false := by
          rw [← Bool.not_eq_true, hb]; omega
        rw [hf, Bool.false_and]
        refine ⟨fun _ => Ev_succ ?_, fun h => absurd h (by decide)⟩
        simp only [words_Fields.l1, if_pos (show (i : Int) < (x.size : Int) by omega), if_pos (show 0 ≤ (i : Int) by omega), if_neg c1, if_pos c2, if_neg (show ¬ (5 : Int) = 0 by decide)]
        exact Ev.now _
      · have hf : okB (bt x (i : Int)) = true := by rw [hb]; omega
        rw [hf, Bool.true_and]
        refine ⟨fun h => Ev_succ ?_, fun h r hr => Ev_succ ?_⟩
        · simp only [words_Fields.l1, if_pos (show (i : Int) < (x.size : Int) by omega), if_pos (show 0 ≤ (i : Int) by omega), if_neg c1, if_neg c2, w_succ hi (by omega)]
          exact ih.1 h
        · simp only [words_Fields.l1, if_pos (show (i : Int) < (x.size : Int) by omega), if_pos (show 0 ≤ (i : Int) by omega), if_neg c1, if_neg c2, w_succ hi (by omega)]
          exact ih.2 h r hr
theorem fields_loop (ps : List ByteArray) (hp : ps.length < 8796093022208) (hz : ∀ p ∈ ps, p.size ≤ 4611686018427387904) : ∀ (d i : Nat), i + d = ps.length → Ev (fun k => words_Fields.l0 k (ps.take i) 0 ps ps.length i) (if ((ps.drop i).all fun p => goodP (bytesOf p)) = true then (ps, 0) else ([], 5))
  | 0, i, hd => by
    refine Ev_succ ?_
    simp only [words_Fields.l0, if_neg (show ¬ ((i : Int) < (ps.length : Int)) by omega), if_true]
    rw [List.drop_of_length_le (by omega), List.take_of_length_le (by omega)]
    exact Ev.now _
  | d + 1, i, hd => by
    have hi : i < ps.length := by omega
    have ih := fields_loop ps hp hz d (i + 1) (by omega)
    have hr : rdOf ByteArray.empty ps (i : Int) = ps[i] := rdOf_nat _ _ _ hi
    refine Ev_succ ?_
    simp only [words_Fields.l0, if_pos (show (i : Int) < (ps.length : Int) by omega), if_pos (show 0 ≤ (i : Int) by omega), hr]
    rw [drop_cons ps i hi, List.all_cons]
    by_cases c : ps[i].toList = []
    · have hg : goodP (bytesOf ps[i]) = false := by rw [(by_emp _).1 c]; rfl
      simp only [if_pos c, if_neg (show ¬ (5 : Int) = 0 by decide), hg, Bool.false_and, Bool.false_eq_true, if_false]
      exact Ev.now _
    · have hne : bytesOf ps[i] ≠ [] := fun h => c ((by_emp _).2 h)
      have hem : (bytesOf ps[i]).isEmpty = false := by simpa using hne
      have hl := field_loop (ps.take i) ps[i] ps ps.length i (hz _ (List.getElem_mem hi)) (by rw [List.length_take]; omega) ps[i].size 0 (by omega)
      rw [List.drop_zero] at hl
      simp only [if_neg c]
      have hg : goodP (bytesOf ps[i]) = (bytesOf ps[i]).all okB := by unfold goodP; rw [hem]; simp
      rw [hg]
      cases ha : (bytesOf ps[i]).all okB with
      | false =>
        simp only [Bool.false_and, Bool.false_eq_true, if_false]
        exact hl.1 ha
      | true =>
        rw [Bool.true_and]
        refine hl.2 ha _ ?_
        rw [w_succ hi (by omega), show ps.take i ++ [ps[i]] = ps.take (i + 1) from (List.take_append_getElem hi)]
        exact ih
def fieldsE (L : List Int) : List (List Int) × Int := if 512 < L.length then ([], 8) else if L = [] then ([], 0) else if (splitI 32 L).all goodP = true then (splitI 32 L, 0) else ([], 5)
theorem map_str (l : List ByteArray) : (l.map bytesOf).map strOfNums = l := by
  rw [List.map_map]
  conv => rhs; rw [← List.map_id l]
  exact List.map_congr_left fun x _ => str_by x
def fieldsS (s : ByteArray) : List ByteArray × Int := ((fieldsE (bytesOf s)).1.map strOfNums, (fieldsE (bytesOf s)).2)
theorem fields_f (s : ByteArray) : Ev (fun k => words_Fields.f k s) (fieldsS s) := by
  unfold words_Fields.f fieldsS fieldsE
  rw [by_len]
  by_cases c1 : 512 < s.size
  · simp only [if_pos c1, if_pos (show (s.size : Int) > 512 by omega)]
    exact Ev.now _
  simp only [if_neg c1, if_neg (show ¬ (s.size : Int) > 512 by omega)]
  by_cases c2 : s.toList = []
  · simp only [if_pos c2, if_pos ((by_emp s).1 c2)]
    exact Ev.now _
  simp only [if_neg c2, if_neg (fun h => c2 ((by_emp s).2 h))]
  obtain ⟨l, h1, h2⟩ := split_f s 32 (by omega)
  rw [h1]
  simp only [Option.bind_some]
  have hlen : l.length ≤ s.size + 1 := by
    have := sp_len 32 (bytesOf s)
    rw [show ((32 : UInt8).toNat : Int) = 32 from rfl] at h2
    rw [← h2, List.length_map, by_len] at this
    exact this
  have hsz : ∀ p ∈ l, p.size ≤ 4611686018427387904 := by
    intro p hp
    have hm : bytesOf p ∈ splitI 32 (bytesOf s) := by
      rw [show ((32 : UInt8).toNat : Int) = 32 from rfl] at h2
      rw [← h2]
      exact List.mem_map_of_mem hp
    have key : ∀ (L : List Int), ∀ q ∈ splitI 32 L, q.length ≤ L.length := by
      intro L
      induction L with
      | nil => intro q hq; simp [splitI] at hq; subst hq; simp
      | cons x r ih =>
        intro q hq
        unfold splitI at hq
        split at hq
        · rcases List.mem_cons.1 hq with h | h
          · subst h; simp
          · have := ih q h; simp; omega
        · split at hq
          · rename_i p1 q1 he
            rcases List.mem_cons.1 hq with h | h
            · subst h
              have := ih p1 (by rw [he]; simp)
              simp; omega
            · have := ih q (by rw [he]; simp [h])
              simp; omega
          · simp at hq; subst hq; simp
    have := key _ _ hm
    rw [by_len, by_len] at this
    omega
  have hf := fields_loop l (by omega) hsz l.length 0 (by omega)
  rw [List.take_zero, List.drop_zero] at hf
  have hall : (l.all fun p => goodP (bytesOf p)) = (splitI 32 (bytesOf s)).all goodP := by
    rw [show ((32 : UInt8).toNat : Int) = 32 from rfl] at h2
    rw [← h2, List.all_map]
    rfl
  rw [hall] at hf
  by_cases c3 : (splitI 32 (bytesOf s)).all goodP = true
  · rw [if_pos c3] at hf
    simp only [if_pos c3]
    rw [show ((32 : UInt8).toNat : Int) = 32 from rfl] at h2
    rw [← h2, map_str]
    exact hf
  · rw [if_neg c3] at hf
    simp only [if_neg c3]
    exact hf
def joinI : List (List Int) → List Int
  | [] => []
  | [x] => x
  | x :: y :: r => x ++ 32 :: joinI (y :: r)
theorem split_join : ∀ l : List (List Int), l ≠ [] → (∀ p ∈ l, (32 : Int) ∉ p) → splitI 32 (joinI l) = l
  | [], h, _ => absurd rfl h
  | [x], _, h => splitI_none (h x (by simp))
  | x :: y :: r, _, h => by
    unfold joinI
    rw [splitI_app _ (h x (by simp)), split_join (y :: r) (by simp) (fun p hp => h p (by simp [hp]))]
theorem join_bytes : ∀ l : List ByteArray, bytesOf ⟨(Lib.join (l.map (·.data.toList)) (⟨#[32]⟩ : ByteArray).data.toList).toArray⟩ = joinI (l.map bytesOf)
  | [] => rfl
  | [x] => by
    show List.map _ (Lib.join [x.data.toList] [32]).toArray.toList = _
    rw [Lib.join_one]
    rfl
  | x :: y :: r => by
    have ih := join_bytes (y :: r)
    have e : Lib.join ((x :: y :: r).map (·.data.toList)) [32] = x.data.toList ++ 32 :: Lib.join ((y :: r).map (·.data.toList)) [32] := by
      simp only [List.map_cons, Lib.join_cons, Lib.joinTail, List.flatten_cons]
      rfl
    show List.map _ (Lib.join ((x :: y :: r).map (·.data.toList)) [32]).toArray.toList = _
    rw [e]
    have ih2 : List.map (fun b : UInt8 => (b.toNat : Int)) (Lib.join ((y :: r).map (·.data.toList)) [32]) = joinI ((y :: r).map bytesOf) := ih
    simp only [List.toList_toArray, List.map_append, List.map_cons, joinI] at ih2 ⊢
    rw [ih2]
    rfl
def joinS (l : List ByteArray) : ByteArray := strOfNums (joinI (l.map bytesOf))
theorem join_rng (l : List ByteArray) : ∀ x ∈ joinI (l.map bytesOf), 0 ≤ x ∧ x < 256 := by
  rw [← join_bytes]
  exact by_rng _
theorem joinS_by (l : List ByteArray) : bytesOf (joinS l) = joinI (l.map bytesOf) := by_str _ (join_rng l)
theorem join_len : ∀ l : List (List Int), (joinI l).length ≤ (l.map fun x => x.length + 1).sum
  | [] => by simp [joinI]
  | [x] => by simp [joinI]
  | x :: y :: r => by
    have := join_len (y :: r)
    simp only [joinI, List.length_append, List.length_cons, List.map_cons, List.sum_cons] at this ⊢
    omega
def sumZ (l : List ByteArray) : Nat := (l.map fun x => x.size + 1).sum
theorem join_f (l : List ByteArray) (h : sumZ l ≤ 140737488355328) : words_Join.f l = some (joinS l) := by
  have hb := join_bytes l
  have hl : (Lib.join (l.map (·.data.toList)) (⟨#[32]⟩ : ByteArray).data.toList).length ≤ 140737488355328 := by
    have h1 := join_len (l.map bytesOf)
    have e : (l.map bytesOf).map (fun x => x.length + 1) = l.map fun x => x.size + 1 := by
      rw [List.map_map]
      exact List.map_congr_left fun x _ => by simp [by_len]
    rw [e, ← hb, by_len] at h1
    exact Nat.le_trans h1 h
  have hn : l.length ≤ 140737488355328 := by
    have : l.length ≤ sumZ l := by
      unfold sumZ
      clear hb hl h
      induction l with
      | nil => simp
      | cons x r ih => simp only [List.map_cons, List.sum_cons, List.length_cons]; omega
    omega
  unfold words_Join.f words_together.f strings_Join.f
  rw [if_pos ⟨hl, hn⟩]
  simp only [Option.bind_some]
  congr 1
  apply by_inj
  rw [hb, joinS_by]
def plainL (L : List Int) : Bool := !L.isEmpty && !(decide (1 < L.length) && L.head? == some 48) && L.all digitB
def numV (n : Int) (L : List Int) : Int := L.foldl (fun n b => 10 * n + (b - 48)) n
def numR (n : Int) (L : List Int) (minus : Bool) : Int × Int := if 1152921504606846976 < numV n L then (0, 3) else (if minus then -(numV n L) else numV n L, 0)
def unsign (L : List Int) : List Int × Bool := if L.head? = some 45 then (L.tail, true) else (L, false)
def intL (L : List Int) : Int × Int := if plainL (unsign L).1 = true ∧ ¬((unsign L).2 = true ∧ (unsign L).1 = [48]) then numR 0 (unsign L).1 (unsign L).2 else (0, 5)
theorem dig_rng {x : Int} (h : digitB x = true) : 48 ≤ x ∧ x ≤ 57 := by
  unfold digitB at h
  simp only [Bool.and_eq_true, decide_eq_true_eq] at h
  exact h
theorem numV_mono : ∀ (L : List Int) (n : Int), 0 ≤ n → (∀ x ∈ L, digitB x = true) → n ≤ numV n L
  | [], n, _, _ => Int.le_refl _
  | x :: L, n, h, hd => by
    have h1 := dig_rng (hd x (by simp))
    have := numV_mono L (10 * n + (x - 48)) (by omega) fun y hy => hd y (by simp [hy])
    unfold numV at this ⊢
    rw [List.foldl_cons]
    omega
theorem num_step (n d : Int) (h0 : 0 ≤ n) (h1 : n ≤ 1152921504606846976) (h2 : 0 ≤ d) (h3 : d ≤ 9) : (10 * n + d ≤ 9223372036854775807 ∧ wrap64 (wrap64 (10 * n) + d) = 10 * n + d) ∨ (9223372036854775807 < 10 * n + d ∧ wrap64 (wrap64 (10 * n) + d) < 0) := by
  unfold wrap64
  omega
theorem neg_w (n : Int) (h0 : 0 ≤ n) (h1 : n ≤ 1152921504606846976) : wrap64 (-n) = -n := w_id (by omega) (by omega)
theorem digits_loop (s : ByteArray) (hs : s.size ≤ 4611686018427387904) : ∀ (d i : Nat), i + d = s.size → Ev (fun k => words_digits.l0 k s s.size i) (((bytesOf s).drop i).all digitB)
  | 0, i, hd => by
    refine Ev_succ ?_
    simp only [words_digits.l0, if_neg (show ¬ ((i : Int) < (s.size : Int)) by omega)]
    rw [by_end s i (by omega)]
    exact Ev.now _
  | d + 1, i, hd => by
    have hi : i < s.size := by omega
    have ih := digits_loop s hs d (i + 1) (by omega)
    refine Ev_succ ?_
    simp only [words_digits.l0, if_pos (show (i : Int) < (s.size : Int) by omega), if_pos (show 0 ≤ (i : Int) by omega), digit_f, Option.bind_some, w_succ hi (by omega)]
    rw [by_drop s i hi, List.all_cons]
    cases h : digitB (bt s (i : Int)) with
    | true => simp only [if_true, Bool.true_and]; exact ih
    | false => simp only [Bool.false_eq_true, if_false, Bool.false_and]; exact Ev.now _
theorem digits_f (s : ByteArray) (hs : s.size ≤ 4611686018427387904) : Ev (fun k => words_digits.f k s) ((bytesOf s).all digitB) := by
  unfold words_digits.f
  exact digits_loop s hs s.size 0 (by omega)
theorem number_loop (s : ByteArray) (minus : Bool) (hs : s.size ≤ 4611686018427387904) (hall : ∀ x ∈ bytesOf s, digitB x = true) : ∀ (d i : Nat) (n : Int), i + d = s.size → 0 ≤ n → n ≤ 1152921504606846976 → Ev (fun k => words_number.l0 k s minus n s.size i) (numR n ((bytesOf s).drop i) minus)
  | 0, i, n, hd, h0, h1 => by
    refine Ev_succ ?_
    simp only [words_number.l0, if_neg (show ¬ ((i : Int) < (s.size : Int)) by omega)]
    rw [by_end s i (by omega)]
    have hc : numR n [] minus = (if minus then -n else n, 0) := by
      unfold numR numV
      rw [List.foldl_nil, if_neg (show ¬ 1152921504606846976 < n by omega)]
    rw [hc]
    cases minus with
    | true => simp only [if_true, neg_w n h0 h1]; exact Ev.now _
    | false => simp only [Bool.false_eq_true, if_false]; exact Ev.now _
  | d + 1, i, n, hd, h0, h1 => by
    have hi : i < s.size := by omega
    have hb : digitB (bt s (i : Int)) = true := hall _ (by
      have h' : i < (bytesOf s).length := by rw [by_len]; exact hi
      rw [by_bt s i h']
      exact List.getElem_mem h')
    have hb2 := dig_rng hb
    refine Ev_succ ?_
    simp only [words_number.l0, if_pos (show (i : Int) < (s.size : Int) by omega), if_pos (show 0 ≤ (i : Int) by omega), w_succ hi (by omega), Int.emod_eq_of_lt (show 0 ≤ bt s (i : Int) - 48 by omega) (show bt s (i : Int) - 48 < 256 by omega)]
    rw [by_drop s i hi]
    have hr : ∀ x ∈ (bytesOf s).drop (i + 1), digitB x = true := fun x hx => hall x (List.mem_of_mem_drop hx)
    have hm := numV_mono ((bytesOf s).drop (i + 1)) (10 * n + (bt s (i : Int) - 48)) (by omega) hr
    have hc : numR n (bt s (i : Int) :: (bytesOf s).drop (i + 1)) minus = numR (10 * n + (bt s (i : Int) - 48)) ((bytesOf s).drop (i + 1)) minus := by
      unfold numR numV
      rw [List.foldl_cons]
    rw [hc]
    rcases num_step n (bt s (i : Int) - 48) h0 h1 (by omega) (by omega) with ⟨h2, h3⟩ | ⟨h2, h3⟩
    · simp only [h3, if_neg (show ¬ 10 * n + (bt s (i : Int) - 48) < 0 by omega)]
      by_cases h4 : 10 * n + (bt s (i : Int) - 48) > 1152921504606846976
      · simp only [if_pos h4]
        have : numR (10 * n + (bt s (i : Int) - 48)) ((bytesOf s).drop (i + 1)) minus = (0, 3) := by
          unfold numR
          rw [if_pos (by omega)]
        rw [this]
        exact Ev.now _
      · simp only [if_neg h4]
        exact number_loop s minus hs hall d (i + 1) _ (by omega) (by omega) (by omega)
    · simp only [if_pos h3]
      have : numR (10 * n + (bt s (i : Int) - 48)) ((bytesOf s).drop (i + 1)) minus = (0, 3) := by
        unfold numR
        rw [if_pos (by omega)]
      rw [this]
      exact Ev.now _
theorem number_f (s : ByteArray) (minus : Bool) (hs : s.size ≤ 4611686018427387904) (hall : ∀ x ∈ bytesOf s, digitB x = true) : Ev (fun k => words_number.f k s minus) (numR 0 (bytesOf s) minus) := by
  unfold words_number.f
  exact number_loop s minus hs hall s.size 0 0 (by omega) (by omega) (by omega)
theorem plain_all {L : List Int} (h : plainL L = true) : ∀ x ∈ L, digitB x = true := by
  unfold plainL at h
  simp only [Bool.and_eq_true] at h
  exact List.all_eq_true.1 h.2
theorem bt_head (s : ByteArray) (h : 0 < s.size) : (bytesOf s).head? = some (bt s 0) := by
  have := by_drop s 0 h
  rw [List.drop_zero] at this
  rw [this]
  rfl
theorem plain_f (s : ByteArray) (hs : s.size ≤ 4611686018427387904) : Ev (fun k => words_plain.f k s) (plainL (bytesOf s)) := by
  unfold words_plain.f plainL
  have hd := digits_f s hs
  by_cases c0 : s.toList = []
  · simp only [if_pos c0]
    rw [(by_emp s).1 c0]
    exact Ev.now _
  · simp only [if_neg c0]
    have h1 : bytesOf s ≠ [] := fun h => c0 ((by_emp s).2 h)
    have h2 : (bytesOf s).isEmpty = false := by simpa using h1
    have h3 : 0 < s.size := by
      rw [← by_len]
      exact List.length_pos_iff.2 h1
    rw [h2]
    simp only [Bool.not_false, Bool.true_and]
    by_cases c1 : (s.size : Int) > 1
    · simp only [if_pos c1, if_pos (show 0 < (s.size : Int) by omega)]
      have h4 : decide (1 < (bytesOf s).length) = true := by
        rw [by_len]
        exact decide_eq_true (by omega)
      rw [h4, bt_head s h3]
      simp only [Bool.true_and]
      by_cases c2 : bt s 0 = 48
      · simp only [if_pos c2, c2]
        simp
        exact Ev.now _
      · have h5 : (some (bt s 0) == some (48 : Int)) = false := by simpa using c2
        simp only [if_neg c2, h5, Bool.not_false, Bool.true_and]
        exact Ev_id hd
    · simp only [if_neg c1]
      have h4 : decide (1 < (bytesOf s).length) = false := by
        rw [by_len]
        exact decide_eq_false (by omega)
      rw [h4]
      simp only [Bool.false_and, Bool.not_false, Bool.true_and]
      exact Ev_id hd
theorem cutp_f (s : ByteArray) : strings_CutPrefix.f s (⟨#[45]⟩ : ByteArray) = some (strOfNums (unsign (bytesOf s)).1, (unsign (bytesOf s)).2) := by
  have hsz : (⟨#[45]⟩ : ByteArray).size = 1 := rfl
  have hl : bytesOf (⟨#[45]⟩ : ByteArray) = [45] := rfl
  have h0 : stringslite_HasPrefix.f s (⟨#[45]⟩ : ByteArray) = some (decide ((bytesOf s).head? = some 45)) := by
    unfold stringslite_HasPrefix.f
    rw [hsz]
    by_cases c : (s.size : Int) ≥ ((1 : Nat) : Int)
    · rw [if_pos c, if_pos (by omega), if_pos (by omega)]
      congr 1
      have h3 : 0 < s.size := by omega
      have hd := by_drop s 0 h3
      rw [List.drop_zero] at hd
      have he : bytesOf (s.extract 0 1) = [bt s 0] := by rw [by_ext, hd]; rfl
      rw [bt_head s h3]
      rw [Bool.eq_iff_iff, beq_iff_eq, decide_eq_true_eq, by_eq]
      constructor
      · intro h
        have := congrArg bytesOf h
        rw [show (((1 : Nat) : Int)).toNat = 1 from rfl, he, hl] at this
        simpa using this
      · intro h
        apply by_inj
        rw [show (((1 : Nat) : Int)).toNat = 1 from rfl, he, hl]
        simpa using h
    · rw [if_neg c]
      have h4 : bytesOf s = [] := List.length_eq_zero_iff.1 (by rw [by_len]; omega)
      rw [h4]
      simp
  unfold strings_CutPrefix.f stringslite_CutPrefix.f
  rw [h0]
  simp only [Option.bind_some]
  unfold unsign
  by_cases c : (bytesOf s).head? = some 45
  · have h3 : 0 < s.size := by
      rw [← by_len]
      rcases hb : bytesOf s with _ | ⟨x, r⟩
      · rw [hb] at c; simp at c
      · simp
    rw [if_pos (decide_eq_true c), if_pos c, hsz, if_pos (by omega), if_pos (by omega)]
    simp only [Option.bind_some]
    congr 2
    apply by_inj
    rw [by_ext, by_str _ fun x hx => by_rng s x (List.mem_of_mem_tail hx), show (((1 : Nat) : Int)).toNat = 1 from rfl, ← by_len, List.take_length, List.drop_one]
  · rw [if_neg (by simpa using c), if_neg c]
    simp only [Option.bind_some]
    rw [str_by]
theorem unsign_rng {L : List Int} (h : ∀ x ∈ L, 0 ≤ x ∧ x < 256) : ∀ x ∈ (unsign L).1, 0 ≤ x ∧ x < 256 := by
  unfold unsign
  split
  · exact fun x hx => h x (List.mem_of_mem_tail hx)
  · exact h
theorem unsign_len (L : List Int) : (unsign L).1.length ≤ L.length := by
  unfold unsign
  split
  · simp
  · exact Nat.le_refl _
theorem int_f (s : ByteArray) (hs : s.size ≤ 4611686018427387904) : Ev (fun k => words_Int.f k s) (intL (bytesOf s)) := by
  unfold words_Int.f intL
  rw [cutp_f]
  simp only [Option.bind_some]
  have hb := by_str (unsign (bytesOf s)).1 (unsign_rng (by_rng s))
  have hsz : (strOfNums (unsign (bytesOf s)).1).size ≤ 4611686018427387904 := by
    rw [strOfNums_size]
    have := unsign_len (bytesOf s)
    rw [by_len] at this
    omega
  refine Ev_bind (plain_f _ hsz) ?_
  rw [hb]
  generalize (unsign (bytesOf s)).2 = m
  generalize hT : (unsign (bytesOf s)).1 = T at hb hsz
  by_cases c0 : plainL T = true
  · simp only [if_pos c0]
    have hn := number_f (strOfNums T) m hsz (by rw [hb]; exact plain_all c0)
    rw [hb] at hn
    cases m with
    | false =>
      simp only [Bool.false_eq_true, if_false, false_and, not_false_eq_true, and_true, if_pos c0]
      exact Ev_bind hn (Ev.now _)
    | true =>
      simp only [if_true, true_and]
      by_cases c1 : (strOfNums T).toList = ([48] : List UInt8)
      · have c2 : T = [48] := by
          have := (by_toList (strOfNums T) [48]).1 c1
          rw [hb] at this
          exact this
        simp only [if_pos c1]
        rw [if_neg (by rintro ⟨_, h⟩; exact h c2)]
        exact Ev.now _
      · have c2 : ¬ T = [48] := by
          intro h
          apply c1
          rw [by_toList, hb, h]
          rfl
        simp only [if_neg c1]
        rw [if_pos ⟨c0, c2⟩]
        exact Ev_bind hn (Ev.now _)
  · simp only [if_neg c0]
    rw [if_neg (fun h => c0 h.1)]
    exact Ev.now _
theorem numV_app (n : Int) (A B : List Int) : numV n (A ++ B) = numV (numV n A) B := by
  unfold numV
  rw [List.foldl_append]
def digs (n : Nat) : List Int := if n < 10 then [48 + (n : Int)] else digs (n / 10) ++ [48 + ((n % 10 : Nat) : Int)]
termination_by n
decreasing_by omega
theorem digs_lt {n : Nat} (h : n < 10) : digs n = [48 + (n : Int)] := by rw [digs, if_pos h]
theorem digs_ge {n : Nat} (h : 10 ≤ n) : digs n = digs (n / 10) ++ [48 + ((n % 10 : Nat) : Int)] := by rw [digs, if_neg (by omega)]
theorem digs_ind {p : Nat → Prop} (h0 : ∀ n, n < 10 → p n) (h1 : ∀ n, 10 ≤ n → p (n / 10) → p n) (n : Nat) : p n := by
  induction n using Nat.strongRecOn with
  | _ n ih =>
    by_cases h : n < 10
    · exact h0 n h
    · exact h1 n (by omega) (ih _ (by omega))
theorem numV_digs (n : Nat) : numV 0 (digs n) = (n : Int) := by
  induction n using digs_ind with
  | h0 n h => rw [digs_lt h]; show 10 * 0 + (48 + (n : Int) - 48) = n; omega
  | h1 n h ih =>
    rw [digs_ge h, numV_app, ih]
    show 10 * ((n / 10 : Nat) : Int) + (48 + ((n % 10 : Nat) : Int) - 48) = n
    omega
theorem digitB_of {x : Int} (h1 : 48 ≤ x) (h2 : x ≤ 57) : digitB x = true := by
  unfold digitB
  rw [decide_eq_true h1, decide_eq_true h2, Bool.and_true]
theorem digs_all (n : Nat) : ∀ x ∈ digs n, digitB x = true := by
  induction n using digs_ind with
  | h0 n h =>
    rw [digs_lt h]
    intro x hx
    obtain rfl := List.mem_singleton.1 hx
    exact digitB_of (by omega) (by omega)
  | h1 n h ih =>
    rw [digs_ge h]
    intro x hx
    rcases List.mem_append.1 hx with h2 | h2
    · exact ih x h2
    · obtain rfl := List.mem_singleton.1 h2
      exact digitB_of (by omega) (by omega)
theorem digs_ne (n : Nat) : digs n ≠ [] := by
  by_cases h : n < 10
  · rw [digs_lt h]; simp
  · rw [digs_ge (by omega)]; simp
theorem digs_rng (n : Nat) : ∀ x ∈ digs n, 0 ≤ x ∧ x < 256 := fun x hx => by have := dig_rng (digs_all n x hx); omega
theorem head_app {A B : List Int} (h : A ≠ []) : (A ++ B).head? = A.head? := by
  cases A with
  | nil => exact absurd rfl h
  | cons x r => rfl
theorem digs_head (n : Nat) (h : 0 < n) : (digs n).head? ≠ some 48 := by
  induction n using digs_ind with
  | h0 n h2 => rw [digs_lt h2]; simp; omega
  | h1 n h2 ih =>
    rw [digs_ge h2, head_app (digs_ne _)]
    exact ih (by omega)
theorem plain_digs (n : Nat) : plainL (digs n) = true := by
  unfold plainL
  have h1 : (digs n).isEmpty = false := by simpa using digs_ne n
  have h2 : (digs n).all digitB = true := List.all_eq_true.2 (digs_all n)
  rw [h1, h2]
  simp only [Bool.not_false, Bool.true_and, Bool.and_true]
  by_cases h : n < 10
  · rw [digs_lt h]; rfl
  · have := digs_head n (by omega)
    have h3 : ((digs n).head? == some 48) = false := by simpa using this
    rw [h3, Bool.and_false]
    rfl
theorem digs_len : ∀ (k n : Nat), 0 < k → n < 10 ^ k → (digs n).length ≤ k
  | 0, n, h, _ => absurd h (by decide)
  | k + 1, n, _, h => by
    by_cases h2 : n < 10
    · rw [digs_lt h2]; simp
    · rw [digs_ge (by omega)]
      have hk : 0 < k := by
        rcases Nat.eq_zero_or_pos k with rfl | h3
        · simp at h; omega
        · exact h3
      have := digs_len k (n / 10) hk (by rw [Nat.pow_succ] at h; omega)
      simp only [List.length_append, List.length_cons, List.length_nil]
      omega
theorem decL_digs : ∀ (k : Nat) (u : Int) (acc : List Int), 0 < k → 0 ≤ u → u < 10 ^ k → decL k u acc = digs u.toNat ++ acc
  | 0, u, acc, h, _, _ => absurd h (by decide)
  | k + 1, u, acc, _, h0, h1 => by
    unfold decL
    by_cases c : u / 10 = 0
    · rw [if_pos c, digs_lt (by omega), show 48 + u % 10 = 48 + (u.toNat : Int) by omega]
      rfl
    · rw [if_neg c, digs_ge (by omega)]
      have hk : 0 < k := by
        rcases Nat.eq_zero_or_pos k with rfl | h3
        · simp at h1; omega
        · exact h3
      rw [decL_digs k (u / 10) _ hk (by omega) (by rw [Int.pow_succ] at h1; omega), show (u / 10).toNat = u.toNat / 10 by omega, show 48 + u % 10 = 48 + ((u.toNat % 10 : Nat) : Int) by omega, List.append_assoc]
      rfl
theorem decimal_f (u : Int) (h0 : 0 ≤ u) (h1 : u < 18446744073709551616) : words_decimal.f u = some (strOfNums (digs u.toNat)) := by
  unfold words_decimal.f
  rw [if_pos ⟨h0, h1⟩, decL_digs 20 u [] (by decide) h0 (by omega), List.append_nil]
def sgnL (n : Int) : List Int := if n < 0 then [45] else []
theorem len20 (n : Nat) (h : n < 18446744073709551616) : (digs n).length ≤ 20 := digs_len 20 n (by decide) (by omega)
def textL (n : Int) : List Int := sgnL n ++ digs n.natAbs
theorem wsize_f (n : Int) (h1 : -9223372036854775808 ≤ n) (h2 : n ≤ 9223372036854775807) : words_size.f n = some ((n.natAbs : Int), strOfNums (sgnL n)) := by
  unfold words_size.f sgnL
  by_cases c : n < 0
  · rw [if_pos c, if_pos c]
    have : IntKind.u64.wrap (-(IntKind.u64.wrap n)) = (n.natAbs : Int) := by
      simp only [IntKind.wrap, IntKind.bits, IntKind.signed, Bool.false_and, Bool.false_eq_true, if_false]
      omega
    rw [this]
    rfl
  · rw [if_neg c, if_neg c]
    have : IntKind.u64.wrap n = (n.natAbs : Int) := by
      simp only [IntKind.wrap, IntKind.bits, IntKind.signed, Bool.false_and, Bool.false_eq_true, if_false]
      omega
    rw [this]
    rfl
theorem flat_join (l : List ByteArray) : bytesOf ⟨(Lib.join (l.map (·.data.toList)) (⟨#[]⟩ : ByteArray).data.toList).toArray⟩ = (l.map bytesOf).flatten := by
  unfold bytesOf
  show ((Lib.join (l.map (·.data.toList)) []).toArray.toList).map _ = _
  rw [List.toList_toArray]
  unfold Lib.join
  rw [List.intercalate]
  have e : ∀ m : List (List UInt8), (List.intersperse [] m).flatten = m.flatten := by
    intro m
    induction m with
    | nil => rfl
    | cons x r ih =>
      cases r with
      | nil => rfl
      | cons y r =>
        simp only [List.intersperse_cons_cons, List.flatten_cons, List.nil_append] at ih ⊢
        rw [ih]
  rw [e, List.map_flatten, List.map_map]
  rfl
theorem join0_f (l : List ByteArray) (h : (l.map bytesOf).flatten.length ≤ 140737488355328) (h2 : l.length ≤ 140737488355328) : strings_Join.f l (⟨#[]⟩ : ByteArray) = some (strOfNums (l.map bytesOf).flatten) := by
  unfold strings_Join.f
  have e := flat_join l
  have hl : (Lib.join (l.map (·.data.toList)) (⟨#[]⟩ : ByteArray).data.toList).length = (l.map bytesOf).flatten.length := by
    rw [← e, by_len]
    rfl
  rw [if_pos ⟨by rw [hl]; exact h, h2⟩]
  congr 1
  apply by_inj
  rw [e, by_str]
  intro x hx
  obtain ⟨y, hy, hx⟩ := List.mem_flatten.1 hx
  obtain ⟨s, _, rfl⟩ := List.mem_map.1 hy
  exact by_rng s x hx
theorem sgn_rng (n : Int) : ∀ x ∈ sgnL n, 0 ≤ x ∧ x < 256 := by
  unfold sgnL
  intro x hx
  split at hx
  · obtain rfl := List.mem_singleton.1 hx; omega
  · cases hx
theorem sgn_len (n : Int) : (sgnL n).length ≤ 1 := by
  unfold sgnL
  split <;> simp
theorem bnd {α β : Type} {x : Option α} {a : α} {f : α → Option β} {r : Option β} (h : x = some a) (k : f a = r) : x.bind f = r := by rw [h]; exact k
theorem dec_nat (n : Nat) (h : n < 18446744073709551616) : words_decimal.f (n : Int) = some (strOfNums (digs n)) := by
  have := decimal_f (n : Int) (by omega) (by omega)
  rwa [Int.toNat_natCast] at this
theorem text_join (n : Int) (h1 : -9223372036854775808 ≤ n) (h2 : n ≤ 9223372036854775807) : strings_Join.f [strOfNums (sgnL n), strOfNums (digs n.natAbs)] (⟨#[]⟩ : ByteArray) = some (strOfNums (textL n)) := by
  have e : ([strOfNums (sgnL n), strOfNums (digs n.natAbs)].map bytesOf).flatten = textL n := by
    simp only [List.map_cons, List.map_nil, List.flatten_cons, List.flatten_nil, List.append_nil]
    rw [by_str _ (sgn_rng n), by_str _ (digs_rng _), textL]
  have hl : (textL n).length ≤ 140737488355328 := by
    unfold textL
    rw [List.length_append]
    have := sgn_len n
    have := len20 n.natAbs (by omega)
    omega
  rw [join0_f _ (by rw [e]; exact hl) (by simp), e]
theorem text_f (n : Int) (h1 : -9223372036854775808 ≤ n) (h2 : n ≤ 9223372036854775807) : words_Text.f n = some (strOfNums (textL n)) := by
  unfold words_Text.f words_together.f
  refine bnd (wsize_f n h1 h2) ?_
  refine bnd (dec_nat n.natAbs (by omega)) ?_
  exact bnd (bnd (text_join n h1 h2) (Eq.refl _)) (Eq.refl _)
theorem unsign_sgn (n : Int) (T : List Int) (h : T.head? ≠ some 45) : unsign (sgnL n ++ T) = (T, decide (n < 0)) := by
  unfold unsign sgnL
  by_cases c : n < 0
  · rw [if_pos c, decide_eq_true c, List.singleton_append, List.head?_cons, if_pos rfl, List.tail_cons]
  · rw [if_neg c, decide_eq_false c, List.nil_append, if_neg h]
theorem dig_head {T : List Int} (h : ∀ x ∈ T, digitB x = true) : T.head? ≠ some 45 := by
  intro e
  have hm : (45 : Int) ∈ T := List.mem_of_head? e
  have := dig_rng (h _ hm)
  omega
theorem digs_zero {n : Nat} (h : digs n = [48]) : n = 0 := by
  have := numV_digs n
  rw [h] at this
  have e : numV 0 [48] = 0 := rfl
  omega
theorem int_text (n : Int) : intL (textL n) = if n.natAbs ≤ 1152921504606846976 then (n, 0) else (0, 3) := by
  unfold intL textL
  rw [unsign_sgn n _ (dig_head (digs_all _))]
  have hz : ¬ (decide (n < 0) = true ∧ digs n.natAbs = [48]) := by
    rintro ⟨h1, h2⟩
    have := digs_zero h2
    have := of_decide_eq_true h1
    omega
  rw [if_pos ⟨plain_digs _, hz⟩]
  unfold numR
  rw [numV_digs]
  by_cases c : n.natAbs ≤ 1152921504606846976
  · rw [if_neg (by omega), if_pos c]
    by_cases c2 : n < 0
    · rw [decide_eq_true c2, if_pos rfl]
      congr 1
      omega
    · rw [decide_eq_false c2, if_neg (by simp)]
      congr 1
      omega
  · rw [if_pos (by omega), if_neg c]
theorem okb_iff (b : Int) : okB b = true ↔ 32 < b ∧ b ≤ 126 := by unfold okB; simp
theorem good_ok {p : List Int} (h : goodP p = true) : p ≠ [] ∧ ∀ x ∈ p, okB x = true := by
  unfold goodP at h
  simp only [Bool.and_eq_true] at h
  refine ⟨fun e => ?_, List.all_eq_true.1 h.2⟩
  rw [e] at h
  exact absurd h.1 (by decide)
theorem ok_good {p : List Int} (hn : p ≠ []) (h : ∀ x ∈ p, okB x = true) : goodP p = true := by
  unfold goodP
  have : p.isEmpty = false := by simpa using hn
  rw [this, List.all_eq_true.2 h]
  rfl
theorem good_no {p : List Int} (h : goodP p = true) : (32 : Int) ∉ p := fun hm => by
  have := (okb_iff _).1 ((good_ok h).2 _ hm)
  omega
theorem fields_of_join {l : List ByteArray} (hl : l ≠ []) (h : ∀ x ∈ l, goodP (bytesOf x) = true) (hs : (joinS l).size ≤ 512) : fieldsS (joinS l) = (l, 0) := by
  unfold fieldsS fieldsE
  rw [joinS_by, if_neg (by rw [← joinS_by, by_len]; omega)]
  have hne : joinI (l.map bytesOf) ≠ [] := by
    cases l with
    | nil => exact absurd rfl hl
    | cons x r =>
      have hx := (good_ok (h x (by simp))).1
      cases r with
      | nil => simpa [joinI] using hx
      | cons y r => simp [joinI]
  have hsp : splitI 32 (joinI (l.map bytesOf)) = l.map bytesOf := split_join _ (by simpa using hl) (by
    intro p hp
    obtain ⟨x, hx, rfl⟩ := List.mem_map.1 hp
    exact good_no (h x hx))
  have hgood : (l.map bytesOf).all goodP = true := by
    rw [List.all_eq_true]
    intro p hp
    obtain ⟨x, hx, rfl⟩ := List.mem_map.1 hp
    exact h x hx
  rw [if_neg hne, hsp, if_pos hgood, map_str]
theorem text_rng9 (n : Int) : ∀ x ∈ textL n, okB x = true := by
  unfold textL sgnL
  intro x hx
  rw [okb_iff]
  rcases List.mem_append.1 hx with h | h
  · split at h
    · obtain rfl := List.mem_singleton.1 h; omega
    · cases h
  · have := dig_rng (digs_all _ x h); omega
theorem text_ne (n : Int) : textL n ≠ [] := by
  unfold textL
  intro h
  exact digs_ne _ (List.append_eq_nil_iff.1 h).2
def textS (n : Int) : ByteArray := strOfNums (textL n)
theorem textS_by (n : Int) : bytesOf (textS n) = textL n := by_str _ fun x hx => by have := (okb_iff x).1 (text_rng9 n x hx); omega
theorem textS_good (n : Int) : goodP (bytesOf (textS n)) = true := by
  rw [textS_by]
  exact ok_good (text_ne n) (text_rng9 n)
theorem textS_size (n : Int) (h1 : -9223372036854775808 ≤ n) (h2 : n ≤ 9223372036854775807) : (textS n).size ≤ 21 := by
  unfold textS
  rw [strOfNums_size]
  unfold textL
  rw [List.length_append]
  have := sgn_len n
  have := len20 n.natAbs (by omega)
  omega
theorem nameFrom_okB (s : ByteArray) (hs : s.size ≤ 12) : ∀ (d i : Nat), i + d = s.size → nameFrom s d i = true → ∀ b ∈ (bytesOf s).drop i, okB b = true
  | 0, i, hd, _, b, hb => by rw [by_end s i (by omega)] at hb; cases hb
  | d + 1, i, hd, h, b, hb => by
    have hi : i < s.size := by omega
    unfold nameFrom at h
    simp only [Bool.and_eq_true] at h
    rw [by_drop s i hi] at hb
    rcases List.mem_cons.1 hb with e | e
    · subst e
      have h1 := h.1
      unfold chB letterB digitB at h1
      simp only [Bool.or_eq_true, Bool.and_eq_true, decide_eq_true_eq] at h1
      rw [okb_iff]
      omega
    · exact nameFrom_okB s hs d (i + 1) (by omega) h.2 b e
theorem name_good {s : ByteArray} (h : nameB s = true) : goodP (bytesOf s) = true ∧ s.size ≤ 12 := by
  unfold nameB at h
  simp only [Bool.and_eq_true, decide_eq_true_eq] at h
  obtain ⟨⟨h1, h2⟩, h3⟩ := h
  have hok := nameFrom_okB s h2 s.size 0 (by omega) h3
  rw [List.drop_zero] at hok
  refine ⟨ok_good ?_ hok, h2⟩
  intro e
  have := by_len s
  rw [e, List.length_nil] at this
  omega
def I64 (n : Int) : Prop := -9223372036854775808 ≤ n ∧ n ≤ 9223372036854775807
def piecesS (s : ByteArray) : List ByteArray := (splitI 46 (bytesOf s)).map strOfNums
theorem split_pieces (s : ByteArray) (hs : s.size < 4294967281) : strings_Split.f s (⟨#[46]⟩ : ByteArray) = some (piecesS s) := by
  obtain ⟨l, h1, h2⟩ := split_f s 46 hs
  rw [h1]
  unfold piecesS
  have e : ((46 : UInt8).toNat : Int) = 46 := rfl
  rw [e] at h2
  rw [← h2, map_str]
theorem split_le (c : Int) : ∀ (L : List Int), ∀ q ∈ splitI c L, q.length ≤ L.length ∧ ∀ x ∈ q, x ∈ L := by
  intro L
  induction L with
  | nil => intro q hq; simp [splitI] at hq; subst hq; simp
  | cons x r ih =>
    intro q hq
    unfold splitI at hq
    split at hq
    · rcases List.mem_cons.1 hq with h | h
      · subst h; simp
      · have := ih q h
        exact ⟨by have := this.1; simp; omega, fun y hy => List.mem_cons_of_mem _ (this.2 y hy)⟩
    · split at hq
      · rename_i p1 q1 he
        rcases List.mem_cons.1 hq with h | h
        · subst h
          have := ih p1 (by rw [he]; simp)
          refine ⟨by have := this.1; simp; omega, fun y hy => ?_⟩
          rcases List.mem_cons.1 hy with e | e
          · subst e; simp
          · exact List.mem_cons_of_mem _ (this.2 y e)
        · have := ih q (by rw [he]; simp [h])
          exact ⟨by have := this.1; simp; omega, fun y hy => List.mem_cons_of_mem _ (this.2 y hy)⟩
      · simp at hq; subst hq; simp
theorem pieces_sz {s : ByteArray} {x : ByteArray} (h : x ∈ piecesS s) : x.size ≤ s.size := by
  unfold piecesS at h
  obtain ⟨p, hp, rfl⟩ := List.mem_map.1 h
  rw [strOfNums_size, ← by_len s]
  exact (split_le 46 _ p hp).1
theorem numV_cons (n x : Int) (L : List Int) : numV n (x :: L) = numV (10 * n + (x - 48)) L := by unfold numV; rw [List.foldl_cons]
theorem sdig_bad (s : ByteArray) (hs : s.size ≤ 4611686018427387904) : ∀ (d i : Nat) (n : Int), i + d = s.size → ((bytesOf s).drop i).all digitB = false → Ev (fun k => series_digits.l0 k s n s.size i) (0, false)
  | 0, i, n, hd, h => by rw [by_end s i (by omega)] at h; exact absurd h (by decide)
  | d + 1, i, n, hd, h => by
    have hi : i < s.size := by omega
    rw [by_drop s i hi, List.all_cons] at h
    have w1 : wrap64 ((i : Int) + 1) = ((i + 1 : Nat) : Int) := w_succ hi (by omega)
    refine Ev_succ ?_
    simp only [series_digits.l0, if_pos (show (i : Int) < (s.size : Int) by omega), if_pos (show 0 ≤ (i : Int) by omega)]
    by_cases c1 : bt s (i : Int) < 48
    · simp only [if_pos c1]; exact Ev.now _
    by_cases c2 : bt s (i : Int) > 57
    · simp only [if_neg c1, if_pos c2]; exact Ev.now _
    have hb : digitB (bt s (i : Int)) = true := by unfold digitB; simp; omega
    rw [hb, Bool.true_and] at h
    simp only [if_neg c1, if_neg c2, w1]
    exact sdig_bad s hs d (i + 1) _ (by omega) h
theorem sdig_ok (s : ByteArray) (hs : s.size ≤ 4611686018427387904) (hall : ∀ x ∈ bytesOf s, digitB x = true) : ∀ (d i : Nat) (n : Int), i + d = s.size → 0 ≤ n → numV n ((bytesOf s).drop i) ≤ 1000000000 → Ev (fun k => series_digits.l0 k s n s.size i) (numV n ((bytesOf s).drop i), true)
  | 0, i, n, hd, h0, h1 => by
    refine Ev_succ ?_
    rw [by_end s i (by omega)]
    simp only [series_digits.l0, if_neg (show ¬ (i : Int) < (s.size : Int) by omega)]
    exact Ev.now _
  | d + 1, i, n, hd, h0, h1 => by
    have hi : i < s.size := by omega
    have hr := by_drop s i hi
    have hm : ∀ x ∈ (bytesOf s).drop i, digitB x = true := fun x hx => hall x (List.mem_of_mem_drop hx)
    rw [hr] at hm h1 ⊢
    have hb := dig_rng (hm (bt s (i : Int)) (by simp))
    rw [numV_cons] at h1 ⊢
    have hm2 := numV_mono ((bytesOf s).drop (i + 1)) (10 * n + (bt s (i : Int) - 48)) (by omega) fun x hx => hm x (by simp [hx])
    have w1 : wrap64 ((i : Int) + 1) = ((i + 1 : Nat) : Int) := w_succ hi (by omega)
    have w2 : wrap64 (wrap64 (10 * n) + (bt s (i : Int) - 48) % 256) = 10 * n + (bt s (i : Int) - 48) := by
      rw [w_id (x := 10 * n) (by omega) (by omega), show (bt s (i : Int) - 48) % 256 = bt s (i : Int) - 48 by omega]
      exact w_id (by omega) (by omega)
    refine Ev_succ ?_
    simp only [series_digits.l0, if_pos (show (i : Int) < (s.size : Int) by omega), if_pos (show 0 ≤ (i : Int) by omega), if_neg (show ¬ bt s (i : Int) < 48 by omega), if_neg (show ¬ bt s (i : Int) > 57 by omega), w1, w2]
    exact sdig_ok s hs hall d (i + 1) _ (by omega) (by omega) h1
theorem num8 {L : List Int} (h8 : L.length = 8) (hd : ∀ x ∈ L, digitB x = true) : 0 ≤ numV 0 L ∧ numV 0 L ≤ 99999999 := by
  rcases L with _ | ⟨a, _ | ⟨b, _ | ⟨c, _ | ⟨d, _ | ⟨e, _ | ⟨f, _ | ⟨g, _ | ⟨h, _ | ⟨i, r⟩⟩⟩⟩⟩⟩⟩⟩⟩
  case cons.cons.cons.cons.cons.cons.cons.cons.nil =>
    have ha := dig_rng (hd a (by simp)); have hb := dig_rng (hd b (by simp)); have hc := dig_rng (hd c (by simp)); have hd' := dig_rng (hd d (by simp))
    have he := dig_rng (hd e (by simp)); have hf := dig_rng (hd f (by simp)); have hg := dig_rng (hd g (by simp)); have hh := dig_rng (hd h (by simp))
    simp only [numV, List.foldl_cons, List.foldl_nil]
    omega
  all_goals (simp at h8)
theorem sdig_f (s : ByteArray) (h8 : s.size = 8) : Ev (fun k => series_digits.f k s) (if (bytesOf s).all digitB = true then (numV 0 (bytesOf s), true) else (0, false)) := by
  unfold series_digits.f
  by_cases c : (bytesOf s).all digitB = true
  · rw [if_pos c]
    have hall := List.all_eq_true.1 c
    have hb := num8 (by rw [by_len, h8]) hall
    have := sdig_ok s (by omega) hall s.size 0 0 (by omega) (by omega) (by rw [List.drop_zero]; omega)
    rw [List.drop_zero] at this
    exact this
  · rw [if_neg c]
    exact sdig_bad s (by omega) s.size 0 0 (by omega) (by rw [List.drop_zero]; simpa using c)
theorem one_byte (s : ByteArray) (c : UInt8) : s.toList = [c] ↔ bytesOf s = [(c.toNat : Int)] := by rw [by_toList]; simp
theorem ext_one (s : ByteArray) (c : UInt8) : (s.extract 0 1).toList = [c] ↔ (bytesOf s).head? = some (c.toNat : Int) := by
  rw [one_byte, by_ext, List.drop_zero]
  cases bytesOf s with
  | nil => simp
  | cons x r => simp
theorem pre_f (s : ByteArray) (c : UInt8) : strings_HasPrefix.f s (⟨#[c]⟩ : ByteArray) = some (decide ((bytesOf s).head? = some (c.toNat : Int))) := by
  unfold strings_HasPrefix.f stringslite_HasPrefix.f
  have e1 : (⟨#[c]⟩ : ByteArray).size = 1 := rfl
  have e2 : (⟨#[c]⟩ : ByteArray).toList = [c] := by rw [ByteArray.toList_eq]
  rw [e1, e2]
  by_cases h : 1 ≤ s.size
  · rw [if_pos (show (s.size : Int) ≥ ((1 : Nat) : Int) by omega), if_pos (by omega), if_pos (show ((1 : Nat) : Int) ≤ (s.size : Int) by omega)]
    have e3 : (((1 : Nat) : Int)).toNat = 1 := rfl
    simp only [e3, Option.bind_some]
    congr 1
    rw [Bool.eq_iff_iff, beq_iff_eq, ext_one, decide_eq_true_iff]
  · rw [if_neg (show ¬ (s.size : Int) ≥ ((1 : Nat) : Int) by omega)]
    have : bytesOf s = [] := List.length_eq_zero_iff.1 (by rw [by_len]; omega)
    rw [this]
    rfl
def kindI (C : List Int) : Int := if C = [102] then 1 else if C.head? = some 99 then 2 else if C.head? = some 112 then 3 else 0
theorem what_f (s : ByteArray) : series_what.f s = some (if kindI (bytesOf s) = 1 then (1, (⟨#[]⟩ : ByteArray), true) else if kindI (bytesOf s) = 0 then (0, (⟨#[]⟩ : ByteArray), false) else (kindI (bytesOf s), s.extract 1 s.size, true)) := by
  unfold series_what.f kindI
  have hs : ∀ c : Int, (bytesOf s).head? = some c → 1 ≤ (s.size : Int) := by
    intro c hc
    have : bytesOf s ≠ [] := fun e => by rw [e] at hc; cases hc
    have := List.length_pos_iff.2 this
    rw [by_len] at this
    omega
  by_cases c1 : s.toList = [102]
  · have c1' : bytesOf s = [102] := (one_byte s 102).1 c1
    rw [if_pos c1, if_pos c1', if_pos rfl]
  · have c1' : ¬ bytesOf s = [102] := fun e => c1 ((one_byte s 102).2 e)
    rw [if_neg c1, if_neg c1', pre_f]
    simp only [Option.bind_some]
    have e99 : ((99 : UInt8).toNat : Int) = 99 := rfl
    have e112 : ((112 : UInt8).toNat : Int) = 112 := rfl
    rw [e99]
    by_cases c2 : (bytesOf s).head? = some 99
    · rw [if_pos c2, if_pos (decide_eq_true c2), if_pos (hs _ c2)]
      rfl
    · rw [if_neg c2, if_neg (by simpa using c2), pre_f, e112]
      simp only [Option.bind_some]
      by_cases c3 : (bytesOf s).head? = some 112
      · rw [if_pos c3, if_pos (decide_eq_true c3), if_pos (hs _ c3)]
        rfl
      · rw [if_neg c3, if_neg (by simpa using c3)]
        rfl
def zS : Ser := ⟨(⟨#[]⟩ : ByteArray), 0, 0, 0⟩
def tS (q : Ser × Int) : ByteArray × Int × Int × Int × Int := (q.1.f0, q.1.f1, q.1.f2, q.1.f3, q.2)
def dayOf (n : Int) : Int × Int := ofV (n / 10000) (n / 100 % 100) (n % 100)
def okForm (a b c : ByteArray) : Prop := nameB a = true ∧ b.size = 8 ∧ (bytesOf b).all digitB = true ∧ kindI (bytesOf c) ≠ 0
instance (a b c : ByteArray) : Decidable (okForm a b c) := inferInstanceAs (Decidable (_ ∧ _ ∧ _ ∧ _))
def parse3 (a b c : ByteArray) : Ser × Int :=
  if okForm a b c then
    (if (dayOf (numV 0 (bytesOf b))).2 = 0 then
      (if kindI (bytesOf c) = 1 then (⟨a, 1, (dayOf (numV 0 (bytesOf b))).1, 0⟩, 0) else
        (if (intL (bytesOf c).tail).2 = 0 then (if (intL (bytesOf c).tail).1 < -16777216 ∨ (intL (bytesOf c).tail).1 > 16777216 then (zS, 17) else (⟨a, kindI (bytesOf c), (dayOf (numV 0 (bytesOf b))).1, (intL (bytesOf c).tail).1⟩, 0)) else (zS, (intL (bytesOf c).tail).2)))
    else (zS, 15))
  else (zS, 5)
def parseL (l : List ByteArray) : Ser × Int := if l.length = 3 then parse3 (rdOf ByteArray.empty l 0) (rdOf ByteArray.empty l 1) (rdOf ByteArray.empty l 2) else (zS, 5)
def parseS (s : ByteArray) : Ser × Int := parseL (piecesS s)
theorem tail_ext (s : ByteArray) : bytesOf (s.extract 1 s.size) = (bytesOf s).tail := by rw [by_ext, ← by_len, List.take_length, List.drop_one]
theorem sparse_j1 (l : List ByteArray) (hl : l.length = 3) (hz : ∀ x ∈ l, x.size ≤ 4611686018427387904) (hf : okForm (rdOf ByteArray.empty l 0) (rdOf ByteArray.empty l 1) (rdOf ByteArray.empty l 2)) (x8 : ByteArray) (h8 : kindI (bytesOf (rdOf ByteArray.empty l 2)) ≠ 1 → x8 = (rdOf ByteArray.empty l 2).extract 1 (rdOf ByteArray.empty l 2).size) :
    Ev (fun k => series_Parse.j1 k l (numV 0 (bytesOf (rdOf ByteArray.empty l 1))) (kindI (bytesOf (rdOf ByteArray.empty l 2))) x8 false (⟨#[]⟩ : ByteArray) 0 0 0) (tS (parse3 (rdOf ByteArray.empty l 0) (rdOf ByteArray.empty l 1) (rdOf ByteArray.empty l 2))) := by
  have hz2 : (rdOf ByteArray.empty l 2).size ≤ 4611686018427387904 := by
    have e : rdOf ByteArray.empty l 2 = l[2]'(by omega) := rdOf_nat _ _ 2 _
    rw [e]; exact hz _ (List.getElem_mem _)
  generalize rdOf ByteArray.empty l 2 = c at *
  generalize rdOf ByteArray.empty l 1 = b at *
  obtain ⟨f1, f2, f3, f4⟩ := hf
  have hn := num8 (by rw [by_len, f2]) (List.all_eq_true.1 f3)
  have hok : okForm (rdOf ByteArray.empty l 0) b c := ⟨f1, f2, f3, f4⟩
  refine Ev_succ ?_
  unfold parse3
  rw [if_pos hok]
  generalize numV 0 (bytesOf b) = n at *
  have q1 : wrap64 (Int.tdiv n 10000) = n / 10000 := by rw [Int.tdiv_eq_ediv_of_nonneg (by omega)]; exact w_id (by omega) (by omega)
  have q2 : wrap64 (Int.tdiv n 100) = n / 100 := by rw [Int.tdiv_eq_ediv_of_nonneg (by omega)]; exact w_id (by omega) (by omega)
  have q3 : Int.tmod (n / 100) 100 = n / 100 % 100 := Int.tmod_eq_emod_of_nonneg (by omega)
  have q4 : Int.tmod n 100 = n % 100 := Int.tmod_eq_emod_of_nonneg (by omega)
  have qd : date_Of.f (n / 10000) (n / 100 % 100) (n % 100) = some (dayOf n) := rfl
  simp only [series_Parse.j1, Bool.false_eq_true, if_false, q1, q2, q3, q4, qd, Option.bind_some]
  by_cases c1 : (dayOf n).2 = 0
  case neg => simp only [if_neg c1]; exact Ev.now _
  simp only [if_pos c1]
  have hl0 : (0 : Int) < (l.length : Int) := by omega
  by_cases c2 : kindI (bytesOf c) = 1
  · simp only [if_pos c2, if_pos hl0]
    rw [c2]
    exact Ev.now _
  · simp only [if_neg c2, h8 c2]
    have hi := int_f (c.extract 1 c.size) (by rw [ByteArray.size_extract]; omega)
    rw [tail_ext] at hi
    refine Ev_bind hi ?_
    by_cases c3 : (intL (bytesOf c).tail).2 = 0
    case neg => simp only [if_neg c3]; exact Ev.now _
    simp only [if_pos c3]
    by_cases c4 : (intL (bytesOf c).tail).1 < -16777216
    · simp only [if_pos c4, if_pos (Or.inl c4 : (intL (bytesOf c).tail).1 < -16777216 ∨ (intL (bytesOf c).tail).1 > 16777216)]; exact Ev.now _
    by_cases c5 : (intL (bytesOf c).tail).1 > 16777216
    · simp only [if_neg c4, if_pos c5, if_pos (Or.inr c5 : (intL (bytesOf c).tail).1 < -16777216 ∨ (intL (bytesOf c).tail).1 > 16777216)]; exact Ev.now _
    have c6 : ¬ ((intL (bytesOf c).tail).1 < -16777216 ∨ (intL (bytesOf c).tail).1 > 16777216) := by omega
    simp only [if_neg c4, if_neg c5, if_neg c6, if_pos hl0]
    exact Ev.now _
theorem parse_f10 (s : ByteArray) (hs : s.size ≤ 4294967280) : Ev (fun k => series_Parse.f k s) (tS (parseS s)) := by
  unfold series_Parse.f parseS
  rw [split_pieces s (by omega)]
  have hz : ∀ x ∈ piecesS s, x.size ≤ 4611686018427387904 := fun x hx => by have := pieces_sz hx; omega
  generalize piecesS s = l at *
  simp only [Option.bind_some]
  have bad : Ev (fun k => series_Parse.j0 k l true (⟨#[]⟩ : ByteArray) 0 0 0) (tS (zS, 5)) := Ev_succ (by simp only [series_Parse.j0, if_true]; exact Ev.now _)
  unfold parseL
  by_cases c0 : l.length = 3
  case neg =>
    rw [if_neg c0]
    simp only [if_neg (show ¬ (l.length : Int) = 3 by omega)]
    exact bad
  rw [if_pos c0]
  simp only [if_pos (show (l.length : Int) = 3 by omega), if_pos (show (0 : Int) < (l.length : Int) by omega)]
  refine Ev_bind (name_f (rdOf ByteArray.empty l 0)) ?_
  have no : ¬ okForm (rdOf ByteArray.empty l 0) (rdOf ByteArray.empty l 1) (rdOf ByteArray.empty l 2) → parse3 (rdOf ByteArray.empty l 0) (rdOf ByteArray.empty l 1) (rdOf ByteArray.empty l 2) = (zS, 5) := fun h => by unfold parse3; rw [if_neg h]
  by_cases c1 : nameB (rdOf ByteArray.empty l 0) = true
  case neg => simp only [if_neg c1]; rw [no fun h => c1 h.1]; exact bad
  simp only [if_pos c1, if_pos (show (1 : Int) < (l.length : Int) by omega)]
  by_cases c2 : (rdOf ByteArray.empty l 1).size = 8
  case neg =>
    have e : (((rdOf ByteArray.empty l 1).size : Int) != 8) = true := by rw [bne_iff_ne]; omega
    rw [no fun h => c2 h.2.1]
    simp only [e]
    exact bad
  have e : (((rdOf ByteArray.empty l 1).size : Int) != 8) = false := by rw [bne_eq_false_iff_eq]; omega
  simp only [e]
  refine Ev_succ ?_
  simp only [series_Parse.j0, Bool.false_eq_true, if_false, if_pos (show (1 : Int) < (l.length : Int) by omega), if_pos (show (2 : Int) < (l.length : Int) by omega)]
  refine Ev_bind (sdig_f _ c2) ?_
  rw [what_f]
  simp only [Option.bind_some]
  have bad1 : ∀ n b q, Ev (fun k => series_Parse.j1 k l n b q true (⟨#[]⟩ : ByteArray) 0 0 0) (tS (zS, 5)) := fun n b q => Ev_succ (by simp only [series_Parse.j1, if_true]; exact Ev.now _)
  by_cases c3 : (bytesOf (rdOf ByteArray.empty l 1)).all digitB = true
  case neg =>
    rw [no fun h => c3 h.2.2.1]
    simp only [if_neg c3, Bool.false_eq_true, if_false]
    exact bad1 _ _ _
  simp only [if_pos c3, if_true]
  by_cases c4 : kindI (bytesOf (rdOf ByteArray.empty l 2)) = 0
  · rw [no fun h => h.2.2.2 c4]
    have c5 : ¬ kindI (bytesOf (rdOf ByteArray.empty l 2)) = 1 := by omega
    simp only [if_neg c5, if_pos c4, Bool.not_false]
    exact bad1 _ _ _
  · have hf : okForm (rdOf ByteArray.empty l 0) (rdOf ByteArray.empty l 1) (rdOf ByteArray.empty l 2) := ⟨c1, c2, c3, c4⟩
    by_cases c5 : kindI (bytesOf (rdOf ByteArray.empty l 2)) = 1
    · simp only [if_pos c5, Bool.not_true]
      have := sparse_j1 l c0 hz hf (⟨#[]⟩ : ByteArray) (fun h => absurd c5 h)
      rw [c5] at this
      exact this
    · simp only [if_neg c5, if_neg c4, Bool.not_true]
      exact sparse_j1 l c0 hz hf _ (fun _ => rfl)
def digsF : Int → Nat → List Int
  | _, 0 => []
  | n, d + 1 => digsF (n / 10) d ++ [48 + n % 10]
def dayL (day : Int) : List Int := digsF (splitV day).1 4 ++ digsF (splitV day).2.1 2 ++ digsF (splitV day).2.2.1 2
def dayS (day : Int) : ByteArray := strOfNums (dayL day)
def okPrint (s : Ser) : Prop := 1 ≤ s.f1 ∧ s.f1 ≤ 3 ∧ 0 ≤ s.f2 ∧ s.f2 ≤ 73048
instance (s : Ser) : Decidable (okPrint s) := inferInstanceAs (Decidable (_ ∧ _ ∧ _ ∧ _))
def frontS (s : Ser) : ByteArray := ((s.f0 ++ (⟨#[46]⟩ : ByteArray)) ++ dayS s.f2) ++ (⟨#[46]⟩ : ByteArray)
def printS (s : Ser) : ByteArray := if okPrint s then (if s.f1 = 2 then (frontS s ++ (⟨#[99]⟩ : ByteArray)) ++ textS s.f3 else if s.f1 = 3 then (frontS s ++ (⟨#[112]⟩ : ByteArray)) ++ textS s.f3 else frontS s ++ (⟨#[102]⟩ : ByteArray)) else (⟨#[]⟩ : ByteArray)
theorem dayS_size (day : Int) : (dayS day).size = 8 := by unfold dayS; rw [strOfNums_size]; rfl
theorem day_print {day : Int} (h : 0 ≤ day ∧ day ≤ 73048) : strings_ReplaceAll.f (strOfNums (dateC (splitV day).1 (splitV day).2.1 (splitV day).2.2.1 false false false)) (⟨#[45]⟩ : ByteArray) (⟨#[]⟩ : ByteArray) = some (dayS day) := by
  obtain ⟨r1, r2, r3, r4, r5, r6⟩ := split_rng h
  have r7 := split_day h
  unfold strings_ReplaceAll.f
  rw [if_pos]
  · have := day_out (a := 48 + (splitV day).1 / 1000 % 10) (b := 48 + (splitV day).1 / 100 % 10) (c := 48 + (splitV day).1 / 10 % 10) (d := 48 + (splitV day).1 % 10) (e := 48 + (splitV day).2.1 / 10 % 10) (f := 48 + (splitV day).2.1 % 10) (g := 48 + (splitV day).2.2.1 / 10 % 10) (h := 48 + (splitV day).2.2.1 % 10) (by omega) (by omega) (by omega) (by omega) (by omega) (by omega) (by omega) (by omega)
    rw [show strOfNums (dateC (splitV day).1 (splitV day).2.1 (splitV day).2.2.1 false false false) = strOfNums [48 + (splitV day).1 / 1000 % 10, 48 + (splitV day).1 / 100 % 10, 48 + (splitV day).1 / 10 % 10, 48 + (splitV day).1 % 10, 45, 48 + (splitV day).2.1 / 10 % 10, 48 + (splitV day).2.1 % 10, 45, 48 + (splitV day).2.2.1 / 10 % 10, 48 + (splitV day).2.2.1 % 10] from rfl]
    show some (⟨(Lib.replaceAll _ [45] []).toArray⟩ : ByteArray) = _
    rw [this]
    unfold dayS dayL
    congr 2
    show _ = [48 + (splitV day).1 / 10 / 10 / 10 % 10, 48 + (splitV day).1 / 10 / 10 % 10, 48 + (splitV day).1 / 10 % 10, 48 + (splitV day).1 % 10, 48 + (splitV day).2.1 / 10 % 10, 48 + (splitV day).2.1 % 10, 48 + (splitV day).2.2.1 / 10 % 10, 48 + (splitV day).2.2.1 % 10]
    rw [show (splitV day).1 / 10 / 10 / 10 = (splitV day).1 / 1000 by omega, show (splitV day).1 / 10 / 10 = (splitV day).1 / 100 by omega]
  · refine ⟨?_, by decide, ?_⟩
    · rw [strOfNums_size]; show 10 < 4294967281; decide
    · rw [strOfNums_size]; show 10 + _ * 0 ≤ 140737488355328; omega
theorem print_f10 (s : Ser) (h0 : s.f0.size ≤ 140737488351232) (h3 : I64 s.f3) : Ev (fun k => series_Print.f k s.f0 s.f1 s.f2 s.f3) (printS s) := by
  unfold series_Print.f date_Print.f printS
  simp only [Option.bind_some]
  have bad : ∀ t, ¬ okPrint s → Ev (fun k => series_Print.j0 k t true s.f0 s.f1 s.f2 s.f3) (if okPrint s then (if s.f1 = 2 then (frontS s ++ (⟨#[99]⟩ : ByteArray)) ++ textS s.f3 else if s.f1 = 3 then (frontS s ++ (⟨#[112]⟩ : ByteArray)) ++ textS s.f3 else frontS s ++ (⟨#[102]⟩ : ByteArray)) else (⟨#[]⟩ : ByteArray)) := fun t h => by
    rw [if_neg h]
    refine Ev_succ ?_
    simp only [series_Print.j0, if_true]
    exact Ev.now _
  by_cases c1 : s.f1 < 1
  · simp only [if_pos c1]; exact bad _ fun h => by have := h.1; omega
  by_cases c2 : s.f1 > 3
  · simp only [if_neg c1, if_pos c2]; exact bad _ fun h => by have := h.2.1; omega
  simp only [if_neg c1, if_neg c2]
  by_cases c3 : 0 ≤ s.f2 ∧ s.f2 ≤ 73048
  case neg =>
    simp only [if_neg c3]
    have e : ((⟨#[]⟩ : ByteArray).toList == ([] : List UInt8)) = true := by rw [beq_iff_eq, by_emp]; rfl
    rw [e]
    exact bad _ fun h => c3 h.2.2
  simp only [if_pos c3]
  have hok : okPrint s := ⟨by omega, by omega, c3⟩
  rw [if_pos hok]
  have hne : ((strOfNums (dateC (splitV s.f2).1 (splitV s.f2).2.1 (splitV s.f2).2.2.1 false false false)).toList == ([] : List UInt8)) = false := by
    rw [beq_eq_false_iff_ne]
    intro h
    have := congrArg List.length ((by_emp _).1 h)
    rw [by_len, strOfNums_size] at this
    exact absurd this (by show ¬ (10 : Nat) = 0; decide)
  rw [hne]
  refine Ev_succ ?_
  have z := dayS_size s.f2
  have zt := textS_size s.f3 h3.1 h3.2
  have z46 : (⟨#[46]⟩ : ByteArray).size = 1 := rfl
  have z99 : (⟨#[99]⟩ : ByteArray).size = 1 := rfl
  have z112 : (⟨#[112]⟩ : ByteArray).size = 1 := rfl
  have ht : words_Text.f s.f3 = some (textS s.f3) := text_f s.f3 h3.1 h3.2
  simp only [series_Print.j0, Bool.false_eq_true, if_false, day_print c3, Option.bind_some, ByteArray.size_append, z, z46, z99, z112, ht, if_pos (show s.f0.size + 1 ≤ 9223372036854775807 by omega), if_pos (show s.f0.size + 1 + 8 ≤ 9223372036854775807 by omega), if_pos (show s.f0.size + 1 + 8 + 1 ≤ 9223372036854775807 by omega), if_pos (show s.f0.size + 1 + 8 + 1 + 1 ≤ 9223372036854775807 by omega), if_pos (show s.f0.size + 1 + 8 + 1 + 1 + (textS s.f3).size ≤ 9223372036854775807 by omega)]
  unfold frontS
  by_cases d2 : s.f1 = 2
  · simp only [if_pos d2]; exact Ev.now _
  by_cases d3 : s.f1 = 3
  · simp only [if_neg d2, if_pos d3]; exact Ev.now _
  · simp only [if_neg d2, if_neg d3]; exact Ev.now _
theorem monAt_stop (b : Bool) (D : Int) (h1 : D < monSum b 13) : ∀ (f m : Nat), m + f = 13 → monSum b m ≤ D → D - monSum b (monAt b D f m) < monLen b (monAt b D f m) ∧ monSum b (monAt b D f m) ≤ D
  | 0, m, hf, hs => by
    obtain rfl : m = 13 := by omega
    omega
  | f + 1, m, hf, hs => by
    unfold monAt
    by_cases c : monLen b m ≤ D - monSum b m
    · rw [if_pos c]
      have e : monSum b (m + 1) = monSum b m + monLen b m := rfl
      exact monAt_stop b D h1 f (m + 1) (by omega) (by omega)
    · rw [if_neg c]; omega
theorem of_split {day : Int} (h : 0 ≤ day ∧ day ≤ 73048) : ofV (splitV day).1 (splitV day).2.1 (splitV day).2.2.1 = (day, 0) := by
  obtain ⟨r1, r2, r3, r4, r5, r6⟩ := split_rng h
  obtain ⟨y1, y2, y3⟩ := year_ok h
  have hst := monAt_stop (leapB (2000 + (yearK day : Int))) (day - startV (2000 + (yearK day : Int))) y3 12 1 (by omega) (by rw [monSum_one]; exact y2)
  unfold splitV at r1 r2 r3 r4 r5 r6 ⊢
  rw [if_pos h] at r1 r2 r3 r4 r5 r6 ⊢
  simp only at r1 r2 r3 r4 r5 r6 ⊢
  have hd : daysV (2000 + (yearK day : Int)) ((monAt (leapB (2000 + (yearK day : Int))) (day - startV (2000 + (yearK day : Int))) 12 1 : Nat) : Int) = monLen (leapB (2000 + (yearK day : Int))) (monAt (leapB (2000 + (yearK day : Int))) (day - startV (2000 + (yearK day : Int))) 12 1) := by
    unfold daysV
    rw [if_pos ⟨r3, r4⟩, Int.toNat_natCast]
  unfold ofV
  rw [hd, if_neg (by omega), Int.toNat_natCast]
  congr 1
  omega
theorem name_ch {s : ByteArray} (h : nameB s = true) : ∀ x ∈ bytesOf s, letterB x = true ∨ digitB x = true := by
  unfold nameB at h
  simp only [Bool.and_eq_true, decide_eq_true_eq] at h
  have key : ∀ (d i : Nat), i + d = s.size → nameFrom s d i = true → ∀ b ∈ (bytesOf s).drop i, letterB b = true ∨ digitB b = true := by
    intro d
    induction d with
    | zero => intro i hd _ b hb; rw [by_end s i (by omega)] at hb; cases hb
    | succ d ih =>
      intro i hd h b hb
      unfold nameFrom at h
      simp only [Bool.and_eq_true] at h
      rw [by_drop s i (by omega)] at hb
      rcases List.mem_cons.1 hb with e | e
      · subst e
        have h1 := h.1
        unfold chB at h1
        simp only [Bool.or_eq_true, Bool.and_eq_true] at h1
        rcases h1 with h1 | h1
        · exact Or.inl h1
        · exact Or.inr h1.2
      · exact ih (i + 1) (by omega) h.2 b e
  have := key s.size 0 (by omega) h.2
  rwa [List.drop_zero] at this
theorem name_no {s : ByteArray} (h : nameB s = true) : (46 : Int) ∉ bytesOf s := fun hm => by
  rcases name_ch h _ hm with h | h <;> exact absurd h (by decide)
theorem digsF_dig : ∀ (d : Nat) (n : Int), ∀ x ∈ digsF n d, digitB x = true
  | 0, n, x, hx => by cases hx
  | d + 1, n, x, hx => by
    rcases List.mem_append.1 hx with h | h
    · exact digsF_dig d (n / 10) x h
    · obtain rfl := List.mem_singleton.1 h
      unfold digitB
      simp only [Bool.and_eq_true, decide_eq_true_eq]
      omega
theorem dayL_dig (day : Int) : ∀ x ∈ dayL day, digitB x = true := by
  unfold dayL
  intro x hx
  rcases List.mem_append.1 hx with h | h
  · rcases List.mem_append.1 h with h | h
    · exact digsF_dig _ _ x h
    · exact digsF_dig _ _ x h
  · exact digsF_dig _ _ x h
theorem dig_no {L : List Int} (h : ∀ x ∈ L, digitB x = true) : (46 : Int) ∉ L := fun hm => absurd (h _ hm) (by decide)
theorem dayS_by (day : Int) : bytesOf (dayS day) = dayL day := by_str _ fun x hx => by have := dig_rng (dayL_dig day x hx); omega
theorem text_no (n : Int) : (46 : Int) ∉ textL n := by
  unfold textL sgnL
  intro hm
  rcases List.mem_append.1 hm with h | h
  · split at h
    · have := List.mem_singleton.1 h; omega
    · cases h
  · exact absurd (digs_all _ _ h) (by decide)
theorem split3 {A B C : List Int} (hA : (46 : Int) ∉ A) (hB : (46 : Int) ∉ B) (hC : (46 : Int) ∉ C) : splitI 46 (A ++ 46 :: (B ++ 46 :: C)) = [A, B, C] := by
  rw [splitI_app _ hA, splitI_app _ hB, splitI_none hC]
theorem dayL_eq (day : Int) : dayL day = [48 + (splitV day).1 / 10 / 10 / 10 % 10, 48 + (splitV day).1 / 10 / 10 % 10, 48 + (splitV day).1 / 10 % 10, 48 + (splitV day).1 % 10, 48 + (splitV day).2.1 / 10 % 10, 48 + (splitV day).2.1 % 10, 48 + (splitV day).2.2.1 / 10 % 10, 48 + (splitV day).2.2.1 % 10] := rfl
theorem day_num {day : Int} (h : 0 ≤ day ∧ day ≤ 73048) : dayOf (numV 0 (dayL day)) = (day, 0) := by
  obtain ⟨r1, r2, r3, r4, r5, r6⟩ := split_rng h
  have r7 := split_day h
  have e := of_split h
  rw [dayL_eq]
  simp only [numV, List.foldl_cons, List.foldl_nil]
  unfold dayOf
  generalize (splitV day).1 = y at *
  generalize (splitV day).2.1 = m at *
  generalize (splitV day).2.2.1 = d at *
  rw [← e]
  congr 1 <;> omega
def lastL (s : Ser) : List Int := if s.f1 = 2 then 99 :: textL s.f3 else if s.f1 = 3 then 112 :: textL s.f3 else [102]
theorem print_by {s : Ser} (h : okPrint s) : bytesOf (printS s) = bytesOf s.f0 ++ 46 :: (dayL s.f2 ++ 46 :: lastL s) := by
  unfold printS lastL
  rw [if_pos h]
  have e46 : bytesOf (⟨#[46]⟩ : ByteArray) = [46] := rfl
  have e99 : bytesOf (⟨#[99]⟩ : ByteArray) = [99] := rfl
  have e112 : bytesOf (⟨#[112]⟩ : ByteArray) = [112] := rfl
  have e102 : bytesOf (⟨#[102]⟩ : ByteArray) = [102] := rfl
  by_cases c2 : s.f1 = 2
  · rw [if_pos c2, if_pos c2]
    unfold frontS
    simp only [by_app, e46, e99, dayS_by, textS_by, List.append_assoc, List.singleton_append, List.cons_append, List.nil_append]
  · rw [if_neg c2, if_neg c2]
    by_cases c3 : s.f1 = 3
    · rw [if_pos c3, if_pos c3]
      unfold frontS
      simp only [by_app, e46, e112, dayS_by, textS_by, List.append_assoc, List.singleton_append, List.cons_append, List.nil_append]
    · rw [if_neg c3, if_neg c3]
      unfold frontS
      simp only [by_app, e46, e102, dayS_by, textS_by, List.append_assoc, List.singleton_append, List.cons_append, List.nil_append]
theorem last_rng (s : Ser) : ∀ x ∈ lastL s, 0 ≤ x ∧ x < 256 := by
  unfold lastL
  have ht : ∀ x ∈ textL s.f3, 0 ≤ x ∧ x < 256 := fun x hx => by have := (okb_iff x).1 (text_rng9 s.f3 x hx); omega
  intro x hx
  split at hx
  · rcases List.mem_cons.1 hx with e | e
    · omega
    · exact ht x e
  · split at hx
    · rcases List.mem_cons.1 hx with e | e
      · omega
      · exact ht x e
    · have := List.mem_singleton.1 hx; omega
theorem last_no (s : Ser) : (46 : Int) ∉ lastL s := by
  unfold lastL
  have ht := text_no s.f3
  intro hx
  split at hx
  · rcases List.mem_cons.1 hx with e | e
    · omega
    · exact ht e
  · split at hx
    · rcases List.mem_cons.1 hx with e | e
      · omega
      · exact ht e
    · have := List.mem_singleton.1 hx; omega
theorem parse_print10 {s : Ser} (h : okPrint s) (hn : nameB s.f0 = true) (h3 : -16777216 ≤ s.f3 ∧ s.f3 ≤ 16777216) (h1 : s.f1 = 1 → s.f3 = 0) : parseS (printS s) = (s, 0) := by
  unfold parseS piecesS
  rw [print_by h, split3 (name_no hn) (dig_no (dayL_dig _)) (last_no s)]
  unfold parseL
  simp only [List.map_cons, List.map_nil]
  rw [if_pos (by rfl)]
  have e0 : rdOf ByteArray.empty [strOfNums (bytesOf s.f0), strOfNums (dayL s.f2), strOfNums (lastL s)] 0 = s.f0 := str_by s.f0
  have e1 : rdOf ByteArray.empty [strOfNums (bytesOf s.f0), strOfNums (dayL s.f2), strOfNums (lastL s)] 1 = dayS s.f2 := rfl
  have e2 : rdOf ByteArray.empty [strOfNums (bytesOf s.f0), strOfNums (dayL s.f2), strOfNums (lastL s)] 2 = strOfNums (lastL s) := rfl
  rw [e0, e1, e2]
  have hl : bytesOf (strOfNums (lastL s)) = lastL s := by_str _ (last_rng s)
  obtain ⟨g1, g2, g3⟩ := h
  have hk : kindI (lastL s) = s.f1 := by
    unfold lastL
    by_cases c2 : s.f1 = 2
    · rw [if_pos c2, c2]
      unfold kindI
      rw [if_neg (by simp), if_pos (by rfl)]
    · rw [if_neg c2]
      by_cases c3 : s.f1 = 3
      · rw [if_pos c3, c3]
        unfold kindI
        rw [if_neg (by simp), if_neg (by simp), if_pos (by rfl)]
      · rw [if_neg c3]
        show (1 : Int) = s.f1
        omega
  unfold parse3
  rw [dayS_by, hl, hk, day_num g3]
  have hok : okForm s.f0 (dayS s.f2) (strOfNums (lastL s)) := by
    refine ⟨hn, dayS_size _, ?_, ?_⟩
    · rw [dayS_by]; exact List.all_eq_true.2 (dayL_dig _)
    · rw [hl, hk]; omega
  rw [if_pos hok]
  simp only [if_true]
  by_cases c1 : s.f1 = 1
  · rw [if_pos c1]
    have := h1 c1
    cases s
    simp_all
  · rw [if_neg c1]
    have ht : (lastL s).tail = textL s.f3 := by
      unfold lastL
      by_cases c2 : s.f1 = 2
      · rw [if_pos c2]; rfl
      · rw [if_neg c2, if_pos (by omega)]; rfl
    have hi : intL (textL s.f3) = (s.f3, 0) := by rw [int_text, if_pos (by omega)]
    rw [ht, hi]
    have hb : ¬ (s.f3 < -16777216 ∨ s.f3 > 16777216) := by omega
    simp only [if_true, if_neg hb]
theorem fields_512 {s : ByteArray} : ∀ x ∈ (fieldsS s).1, x.size ≤ 512 := by
  intro x hx
  unfold fieldsS fieldsE at hx
  by_cases c1 : 512 < (bytesOf s).length
  · rw [if_pos c1] at hx; simp at hx
  rw [if_neg c1] at hx
  by_cases c2 : bytesOf s = []
  · rw [if_pos c2] at hx; simp at hx
  rw [if_neg c2] at hx
  by_cases c3 : (splitI 32 (bytesOf s)).all goodP = true
  case neg => rw [if_neg c3] at hx; simp at hx
  rw [if_pos c3] at hx
  obtain ⟨p, hp, rfl⟩ := List.mem_map.1 hx
  rw [strOfNums_size]
  have := (split_le 32 _ p hp).1
  omega
theorem rfS_eq (l : List ByteArray) (i : Nat) (h : i < l.length) : rfS l i = l[i] := rdOf_nat _ _ i h
theorem rfS_512 {s : ByteArray} (i : Nat) (h : i < (fieldsS s).1.length) : (rfS (fieldsS s).1 i).size ≤ 512 := by
  rw [rfS_eq _ i h]
  exact fields_512 _ (List.getElem_mem h)
def stI (x : ByteArray) : Int × Int := intL (bytesOf x)
def zT : Trd := z27
def q5 (l : List ByteArray) (t : Trd) : Trd × Int := if (stI (rfS l 5)).2 = 0 then ({ t with f5 := (stI (rfS l 5)).1 }, 0) else (zT, (stI (rfS l 5)).2)
def q4 (l : List ByteArray) (t : Trd) : Trd × Int := if (stI (rfS l 4)).2 = 0 then q5 l { t with f4 := (stI (rfS l 4)).1 } else (zT, (stI (rfS l 4)).2)
def q3 (l : List ByteArray) (t : Trd) : Trd × Int := if (parseS (rfS l 3)).2 = 0 then q4 l { t with f3 := (parseS (rfS l 3)).1 } else (zT, (parseS (rfS l 3)).2)
def q2 (l : List ByteArray) (t : Trd) : Trd × Int := if (stI (rfS l 2)).2 = 0 then q3 l { t with f2 := (stI (rfS l 2)).1 } else (zT, (stI (rfS l 2)).2)
def q1 (l : List ByteArray) (t : Trd) : Trd × Int := if (stI (rfS l 1)).2 = 0 then q2 l { t with f1 := (stI (rfS l 1)).1 } else (zT, (stI (rfS l 1)).2)
def q0 (l : List ByteArray) (t : Trd) : Trd × Int := if (stI (rfS l 0)).2 = 0 then q1 l { t with f0 := (stI (rfS l 0)).1 } else (zT, (stI (rfS l 0)).2)
def parseT (s : ByteArray) : Trd × Int := if (fieldsS s).2 = 0 then (if (fieldsS s).1.length = 10 then (if ((fieldsS s).1.drop 6).all nameB = true then q0 (fieldsS s).1 (t0T (fieldsS s).1) else (zT, 5)) else (zT, 5)) else (zT, (fieldsS s).2)
theorem Ev_q {α : Type} {g : Nat → Int × Int → Option α} {f : Nat → Option (Int × Int)} {v : Int × Int} {a b : α} (hf : Ev f v) (h1 : v.2 = 0 → Ev (fun k => g k v) a) (h2 : v.2 ≠ 0 → Ev (fun k => g k v) b) : Ev (fun k => (f k).bind (g k)) (if v.2 = 0 then a else b) := by
  refine Ev_bind hf ?_
  by_cases c : v.2 = 0
  · rw [if_pos c]; exact h1 c
  · rw [if_neg c]; exact h2 c
theorem int_fT (x : ByteArray) (h : x.size ≤ 512) : Ev (fun k => words_Int.f k x) (stI x) := int_f x (by omega)
theorem pr5_f (l : List ByteArray) (t : Trd) (h : ∀ i, i < 10 → (rfS l i).size ≤ 512) : Ev (fun k => pr5 k l t) (q5 l t) := by
  unfold pr5 q5
  refine Ev_q (int_fT _ (h 5 (by omega))) (fun c => ?_) (fun c => ?_)
  · simp only [if_pos c, pr6]; exact Ev.now _
  · simp only [if_neg c]; exact Ev.now _
theorem pr4_f (l : List ByteArray) (t : Trd) (h : ∀ i, i < 10 → (rfS l i).size ≤ 512) : Ev (fun k => pr4 k l t) (q4 l t) := by
  unfold pr4 q4
  refine Ev_q (int_fT _ (h 4 (by omega))) (fun c => ?_) (fun c => ?_)
  · simp only [if_pos c]; exact pr5_f l _ h
  · simp only [if_neg c]; exact Ev.now _
theorem pr3_f (l : List ByteArray) (t : Trd) (h : ∀ i, i < 10 → (rfS l i).size ≤ 512) : Ev (fun k => pr3 k l t) (q3 l t) := by
  unfold pr3 q3
  refine Ev_bind (parse_f10 _ (by have := h 3 (by omega); omega)) ?_
  by_cases c : (parseS (rfS l 3)).2 = 0
  · simp only [if_pos c, if_pos (show (tS (parseS (rfS l 3))).2.2.2.2 = 0 from c)]; exact pr4_f l _ h
  · simp only [if_neg c, if_neg (show ¬ (tS (parseS (rfS l 3))).2.2.2.2 = 0 from c)]; exact Ev.now _
theorem pr2_f (l : List ByteArray) (t : Trd) (h : ∀ i, i < 10 → (rfS l i).size ≤ 512) : Ev (fun k => pr2 k l t) (q2 l t) := by
  unfold pr2 q2
  refine Ev_q (int_fT _ (h 2 (by omega))) (fun c => ?_) (fun c => ?_)
  · simp only [if_pos c]; exact pr3_f l _ h
  · simp only [if_neg c]; exact Ev.now _
theorem pr1_f (l : List ByteArray) (t : Trd) (h : ∀ i, i < 10 → (rfS l i).size ≤ 512) : Ev (fun k => pr1 k l t) (q1 l t) := by
  unfold pr1 q1
  refine Ev_q (int_fT _ (h 1 (by omega))) (fun c => ?_) (fun c => ?_)
  · simp only [if_pos c]; exact pr2_f l _ h
  · simp only [if_neg c]; exact Ev.now _
theorem pr0_f (l : List ByteArray) (t : Trd) (h : ∀ i, i < 10 → (rfS l i).size ≤ 512) : Ev (fun k => pr0 k l t) (q0 l t) := by
  unfold pr0 q0
  refine Ev_q (int_fT _ (h 0 (by omega))) (fun c => ?_) (fun c => ?_)
  · simp only [if_pos c]; exact pr1_f l _ h
  · simp only [if_neg c]; exact Ev.now _
theorem ixf_loop (l : List ByteArray) (hl : l.length ≤ 100000) : ∀ (d i : Nat), i + d = l.length → ∃ r, Ev (fun k => slices_IndexFunc_string_string.l0 k l l.length (i : Int)) r ∧ decide (r ≥ 0) = !((l.drop i).all nameB)
  | 0, i, hd => by
    refine ⟨-1, Ev_succ ?_, ?_⟩
    · simp only [slices_IndexFunc_string_string.l0, if_neg (show ¬ (i : Int) < (l.length : Int) by omega)]
      exact Ev.now _
    · rw [List.drop_of_length_le (by omega)]; rfl
  | d + 1, i, hd => by
    have hi : i < l.length := by omega
    have hr : rdOf ByteArray.empty l (i : Int) = l[i] := rdOf_nat _ _ i hi
    have hp : Ev (fun k => trade_Parse_1.f k l[i]) (!nameB l[i]) := by
      unfold trade_Parse_1.f
      exact Ev_bind (name_f l[i]) (Ev.now _)
    obtain ⟨r, h1, h2⟩ := ixf_loop l hl d (i + 1) (by omega)
    by_cases c : nameB l[i] = true
    · refine ⟨r, Ev_succ ?_, ?_⟩
      · simp only [slices_IndexFunc_string_string.l0, if_pos (show (i : Int) < (l.length : Int) by omega), if_pos (show 0 ≤ (i : Int) by omega), hr, w_succ hi (by omega)]
        refine Ev_bind hp ?_
        rw [c]
        simp only [Bool.not_true, Bool.false_eq_true, if_false]
        exact h1
      · rw [h2, drop_cons l i hi, List.all_cons, c, Bool.true_and]
    · have c' : nameB l[i] = false := by simpa using c
      refine ⟨(i : Int), Ev_succ ?_, ?_⟩
      · simp only [slices_IndexFunc_string_string.l0, if_pos (show (i : Int) < (l.length : Int) by omega), if_pos (show 0 ≤ (i : Int) by omega), hr, w_succ hi (by omega)]
        refine Ev_bind hp ?_
        rw [c']
        simp only [Bool.not_false, if_true]
        exact Ev.now _
      · rw [drop_cons l i hi, List.all_cons, c', Bool.false_and, decide_eq_true (by omega)]
        rfl
theorem contains_f (l : List ByteArray) (hl : l.length ≤ 100000) : Ev (fun k => slices_ContainsFunc_string_string.f k l) (!(l.all nameB)) := by
  unfold slices_ContainsFunc_string_string.f
  obtain ⟨r, h1, h2⟩ := ixf_loop l hl l.length 0 (by omega)
  rw [List.drop_zero] at h2
  refine Ev_bind (g := fun k => slices_IndexFunc_string_string.f k l) h1 ?_
  rw [h2]
  exact Ev.now _
theorem prs_f (s : ByteArray) : Ev (fun k => prsT k s) (parseT s) := by
  unfold prsT parseT
  refine Ev_bind (fields_f s) ?_
  by_cases c1 : (fieldsS s).2 = 0
  case neg => simp only [if_neg c1]; exact Ev.now _
  simp only [if_pos c1]
  by_cases c2 : (fieldsS s).1.length = 10
  case neg => simp only [if_neg c2]; exact Ev.now _
  simp only [if_pos c2]
  refine Ev_bind (contains_f _ (by rw [List.length_drop]; omega)) ?_
  by_cases c3 : ((fieldsS s).1.drop 6).all nameB = true
  · simp only [c3, Bool.not_true, Bool.false_eq_true, if_false, if_true]
    exact pr0_f _ _ fun i hi => rfS_512 i (by omega)
  · have c3' : ((fieldsS s).1.drop 6).all nameB = false := by simpa using c3
    simp only [c3', Bool.not_false, if_true, Bool.false_eq_true, if_false]
    exact Ev.now _
theorem tparse_f (s : ByteArray) : Ev (fun k => trade_Parse.f k s) (tupE (parseT s).1 (parseT s).2) := by
  unfold trade_Parse.f
  exact Ev_bind (prs_f s) (Ev.now _)
def lineT (t : Trd) : List ByteArray := [textS t.f0, textS t.f1, textS t.f2, printS t.f3, textS t.f4, textS t.f5, t.f6.f0, t.f6.f1, t.f7.f0, t.f7.f1]
def I64T (t : Trd) : Prop := I64 t.f0 ∧ I64 t.f1 ∧ I64 t.f2 ∧ I64 t.f3.f3 ∧ I64 t.f4 ∧ I64 t.f5
theorem tprint_f (t : Trd) (hI : I64T t) (h3 : t.f3.f0.size ≤ 140737488351232) (hs : sumZ (lineT t) ≤ 140737488355328) : Ev (fun k => trade_Print.f k t.f0 t.f1 t.f2 t.f3.f0 t.f3.f1 t.f3.f2 t.f3.f3 t.f4 t.f5 t.f6.f0 t.f6.f1 t.f7.f0 t.f7.f1) (joinS (lineT t)) := by
  obtain ⟨i0, i1, i2, i3, i4, i5⟩ := hI
  unfold trade_Print.f
  have e0 : words_Text.f t.f0 = some (textS t.f0) := text_f _ i0.1 i0.2
  have e1 : words_Text.f t.f1 = some (textS t.f1) := text_f _ i1.1 i1.2
  have e2 : words_Text.f t.f2 = some (textS t.f2) := text_f _ i2.1 i2.2
  have e4 : words_Text.f t.f4 = some (textS t.f4) := text_f _ i4.1 i4.2
  have e5 : words_Text.f t.f5 = some (textS t.f5) := text_f _ i5.1 i5.2
  rw [e0, e1, e2, e4, e5]
  simp only [Option.bind_some]
  refine Ev_bind (print_f10 t.f3 h3 i3) ?_
  have hj := join_f (lineT t) hs
  have hl : ([textS t.f0, textS t.f1, textS t.f2, printS t.f3, textS t.f4, textS t.f5, t.f6.f0, t.f6.f1, t.f7.f0, t.f7.f1] : List ByteArray) = lineT t := rfl
  rw [hl, hj]
  exact Ev.now _
end Go.Proofs.YthpmmofleddpnaaGreatDoor.P
end
section
namespace Go.Proofs.YthpmmofleddpnaaGreatDoor.P
open Go.RowKit Go.Proofs.YthpmmofleddpnaaGreatDoorW.PrintWords Go.Proofs.YthpmmofleddpnaaGreatDoorW.PrintMore Go.Proofs.YthpmmofleddpnaaGreatDoor.X
set_option maxRecDepth 100000 in
theorem goes12 : Ev (fun k => contangolaw12_goes.f k) true := Ev.of (k := 60) (contangolaw12_goes.mono) (by decide +kernel)
end Go.Proofs.YthpmmofleddpnaaGreatDoor.P
end
section
namespace Go.Proofs.YthpmmofleddpnaaGreatDoor.Pure
set_option linter.unusedVariables false
set_option linter.unusedSimpArgs false
open Go.RowKit Go.Proofs.YthpmmofleddpnaaGreatDoorW.PrintWords Go.Proofs.YthpmmofleddpnaaGreatDoorW.PrintMore Go.Proofs.YthpmmofleddpnaaGreatDoor.X Go.Proofs.YthpmmofleddpnaaGreatDoor.P
theorem fndM_mem {q : ByteArray} : ∀ {l : List Mem}, (fndM q l).2 = true → (fndM q l).1 ∈ l ∧ (fndM q l).1.f0.toList = q.toList
  | [], h => by cases h
  | x :: r, h => by
    unfold fndM at h ⊢
    by_cases c : x.f0.toList = q.toList
    · rw [if_pos c]; exact ⟨by simp, c⟩
    · rw [if_neg c] at h ⊢
      obtain ⟨h1, h2⟩ := fndM_mem h
      exact ⟨by simp [h1], h2⟩
theorem fndA_mem {q : ByteArray} : ∀ {l : List Act11}, (fndA q l).2.2 = true → ∃ a ∈ l, a.f0.toList = q.toList
  | [], h => by cases h
  | x :: r, h => by
    unfold fndA at h
    by_cases c : x.f0.toList = q.toList
    · exact ⟨x, by simp, c⟩
    · rw [if_neg c] at h
      obtain ⟨a, h1, h2⟩ := fndA_mem h
      exact ⟨a, by simp [h1], h2⟩
theorem may_names {l : List Mem} {p q : ByteArray} (hc : memC l = 0) (h : mayT l p q = 0) : nameB p = true ∧ nameB q = true := by
  obtain ⟨h1, h2⟩ := mayT_zero h
  obtain ⟨m1, m2⟩ := fndM_mem h1
  obtain ⟨n1, n2, n3⟩ := memC_zero hc _ m1
  obtain ⟨a, a1, a2⟩ := fndA_mem h2
  exact ⟨by rw [← ba_ext m2]; exact n1, by rw [← ba_ext a2]; exact accV_zero _ _ 0 n3 a a1⟩
theorem fstP_mem {q : ByteArray} : ∀ {l : List Prod9}, (fstP q l).2 = true → (fstP q l).1.f0.toList = q.toList
  | [], h => by cases h
  | x :: r, h => by
    unfold fstP at h ⊢
    by_cases c : x.f0.toList = q.toList
    · rw [if_pos c]; exact c
    · rw [if_neg c] at h ⊢
      exact fstP_mem h
theorem price_zero {p : Prod9} {n : Int} (h : prodPrice p n = 0) : prodE p = 0 ∧ -16777216 ≤ n ∧ n ≤ 16777216 := by
  unfold prodPrice at h
  by_cases c : prodE p = 0
  case neg => rw [if_neg c] at h; exact absurd h c
  rw [if_pos c] at h
  by_cases c2 : n < p.f4 ∨ n > p.f5
  · rw [if_pos c2] at h; exact absurd h (by decide)
  have ok := prodE_zero c
  unfold ProdOk at ok
  exact ⟨c, by omega, by omega⟩
theorem prodE_name {p : Prod9} (h : prodE p = 0) : nameB p.f0 = true := by
  unfold prodE at h
  by_cases a : nameB p.f0 = true
  · exact a
  · rw [if_neg a] at h; exact absurd h (by decide)
theorem good_series {s : Ser} (h : okPrint s) (hn : nameB s.f0 = true) (h3 : I64 s.f3) : goodP (bytesOf (printS s)) = true ∧ (printS s).size ≤ 60 := by
  have g0 := name_good hn
  have hd := fun x hx => dig_rng (dayL_dig s.f2 x hx)
  have hl : ∀ x ∈ lastL s, okB x = true := by
    intro x hx
    unfold lastL at hx
    split at hx
    · rcases List.mem_cons.1 hx with rfl | hx
      · decide
      · exact text_rng9 _ x hx
    · split at hx
      · rcases List.mem_cons.1 hx with rfl | hx
        · decide
        · exact text_rng9 _ x hx
      · rcases List.mem_cons.1 hx with rfl | hx
        · decide
        · cases hx
  have hsz := textS_size s.f3 h3.1 h3.2
  have hll : (lastL s).length ≤ 22 := by
    have e : (textS s.f3).size = (textL s.f3).length := by rw [← textS_by, by_len]
    unfold lastL
    split
    · simp only [List.length_cons]; omega
    · split
      · simp only [List.length_cons]; omega
      · simp
  refine ⟨ok_good ?_ ?_, ?_⟩
  · rw [print_by h]; simp
  · rw [print_by h]
    intro x hx
    rcases List.mem_append.1 hx with hx | hx
    · exact (good_ok g0.1).2 x hx
    rcases List.mem_cons.1 hx with rfl | hx
    · decide
    rcases List.mem_append.1 hx with hx | hx
    · have := hd x hx; exact (okb_iff x).2 (by omega)
    rcases List.mem_cons.1 hx with rfl | hx
    · decide
    · exact hl x hx
  · have e : (printS s).size = (bytesOf (printS s)).length := by rw [by_len]
    rw [e, print_by h]
    have e2 : (dayL s.f2).length = 8 := by rw [dayL_eq]; rfl
    have e3 := g0.2
    simp only [List.length_append, List.length_cons, e2, by_len]
    omega
theorem st_text {n : Int} (h : -1152921504606846976 ≤ n ∧ n ≤ 1152921504606846976) : stI (textS n) = (n, 0) := by
  unfold stI
  rw [textS_by, int_text, if_pos (by omega)]
theorem parse_print12 (t : Trd) (h0 : 1 ≤ t.f0 ∧ t.f0 ≤ 1152921504606846976) (h1 : 0 ≤ t.f1 ∧ t.f1 ≤ 73048) (h2 : 0 ≤ t.f2 ∧ t.f2 ≤ 86399) (h4 : 1 ≤ t.f4 ∧ t.f4 ≤ 1048576) (h5 : -16777216 ≤ t.f5 ∧ t.f5 ≤ 16777216) (hk : okPrint t.f3) (hn : nameB t.f3.f0 = true) (h3 : -16777216 ≤ t.f3.f3 ∧ t.f3.f3 ≤ 16777216) (hf : t.f3.f1 = 1 → t.f3.f3 = 0) (n6 : nameB t.f6.f0 = true) (n7 : nameB t.f6.f1 = true) (n8 : nameB t.f7.f0 = true) (n9 : nameB t.f7.f1 = true) : parseT (joinS (lineT t)) = (t, 0) ∧ sumZ (lineT t) ≤ 512 := by
  obtain ⟨g3, z3⟩ := good_series hk hn ⟨by omega, by omega⟩
  have g6 := name_good n6
  have g7 := name_good n7
  have g8 := name_good n8
  have g9 := name_good n9
  have hgood : ∀ x ∈ lineT t, goodP (bytesOf x) = true := by
    intro x hx
    simp only [lineT, List.mem_cons, List.mem_nil_iff, or_false] at hx
    rcases hx with rfl | rfl | rfl | rfl | rfl | rfl | rfl | rfl | rfl | rfl
    · exact textS_good _
    · exact textS_good _
    · exact textS_good _
    · exact g3
    · exact textS_good _
    · exact textS_good _
    · exact g6.1
    · exact g7.1
    · exact g8.1
    · exact g9.1
  have z0 := textS_size t.f0 (by omega) (by omega)
  have z1 := textS_size t.f1 (by omega) (by omega)
  have z2 := textS_size t.f2 (by omega) (by omega)
  have z4 := textS_size t.f4 (by omega) (by omega)
  have z5 := textS_size t.f5 (by omega) (by omega)
  have hsum : sumZ (lineT t) ≤ 512 := by
    unfold sumZ lineT
    simp only [List.map_cons, List.map_nil, List.sum_cons, List.sum_nil]
    omega
  have hsz : (joinS (lineT t)).size ≤ 512 := by
    unfold joinS
    rw [strOfNums_size]
    have h1 := join_len ((lineT t).map bytesOf)
    simp only [lineT, List.map_cons, List.map_nil, List.sum_cons, List.sum_nil, by_len] at h1 ⊢
    omega
  have hfl := fields_of_join (l := lineT t) (by simp [lineT]) hgood hsz
  refine ⟨?_, hsum⟩
  have hser := parse_print10 hk hn h3 hf
  have hall : ((lineT t).drop 6).all nameB = true := by
    show ([t.f6.f0, t.f6.f1, t.f7.f0, t.f7.f1] : List ByteArray).all nameB = true
    simp [n6, n7, n8, n9]
  unfold parseT
  rw [hfl, if_pos rfl, if_pos (show (lineT t).length = 10 from rfl), if_pos hall]
  have r0 : rfS (lineT t) 0 = textS t.f0 := rfl
  have r1 : rfS (lineT t) 1 = textS t.f1 := rfl
  have r2 : rfS (lineT t) 2 = textS t.f2 := rfl
  have r3 : rfS (lineT t) 3 = printS t.f3 := rfl
  have r4 : rfS (lineT t) 4 = textS t.f4 := rfl
  have r5 : rfS (lineT t) 5 = textS t.f5 := rfl
  unfold q0
  rw [r0, st_text (by omega), if_pos rfl]
  unfold q1
  rw [r1, st_text (by omega), if_pos rfl]
  unfold q2
  rw [r2, st_text (by omega), if_pos rfl]
  unfold q3
  rw [r3, hser, if_pos rfl]
  unfold q4
  rw [r4, st_text (by omega), if_pos rfl]
  unfold q5
  rw [r5, st_text (by omega), if_pos rfl]
  rfl
theorem ser_facts {ps : List Prod9} {s : Ser} {n : Int} (hc : chkE ps s = 0) (hp : prodPrice (fstP s.f0 ps).1 n = 0) : okPrint s ∧ nameB s.f0 = true ∧ (-16777216 ≤ s.f3 ∧ s.f3 ≤ 16777216) ∧ (s.f1 = 1 → s.f3 = 0) ∧ (-16777216 ≤ n ∧ n ≤ 16777216) := by
  obtain ⟨p1, p2, p3⟩ := price_zero hp
  unfold chkE at hc
  by_cases c0 : allC ps = 0
  case neg => rw [if_neg c0] at hc; exact absurd hc c0
  rw [if_pos c0] at hc
  by_cases c1 : (fstP s.f0 ps).2 = true ∧ 1 ≤ s.f1 ∧ s.f1 ≤ 3
  case neg => rw [if_neg c1] at hc; exact absurd hc (by decide)
  rw [if_pos c1] at hc
  obtain ⟨c1, c2, c3⟩ := c1
  have hn : nameB s.f0 = true := by rw [← ba_ext (fstP_mem c1)]; exact prodE_name p1
  unfold tailC at hc
  by_cases c4 : s.f2 < 0 ∨ s.f2 > 73048
  · rw [if_pos c4] at hc; exact absurd hc (by decide)
  rw [if_neg c4] at hc
  by_cases c5 : s.f1 = 1
  · rw [if_pos c5] at hc
    by_cases c6 : s.f3 = 0
    · exact ⟨⟨c2, c3, by omega⟩, hn, by omega, fun _ => c6, p2, p3⟩
    · rw [if_neg c6] at hc; exact absurd hc (by decide)
  · rw [if_neg c5] at hc
    by_cases c6 : prodPrice (fstP s.f0 ps).1 s.f3 = 0
    · obtain ⟨_, q2, q3⟩ := price_zero c6
      exact ⟨⟨c2, c3, by omega⟩, hn, ⟨q2, q3⟩, fun h => absurd h c5, p2, p3⟩
    · rw [if_neg c6] at hc; exact absurd hc (by decide)
theorem TradeReads : ∀ (x0 : S27) (l1 : List (S69)) (l2 : List (S148)), ok27 x0 → (l1.length ≤ maxLen ∧ l1.length * 64 ≤ 140737488351232 ∧ ∀ x ∈ l1, ok69 x) → (l2.length ≤ maxLen ∧ l2.length * 48 ≤ 140737488351232 ∧ ∀ x ∈ l2, ok148 x) → ∃ k, X.contangolaw12_TradeReads.f k x0.f0 x0.f1 x0.f2 x0.f3.f0 x0.f3.f1 x0.f3.f2 x0.f3.f3 x0.f4 x0.f5 x0.f6.f0 x0.f6.f1 x0.f7.f0 x0.f7.f1 l1 l2 = some true := by
  intro t ps ms h0 h1 h2
  have hl : ps.length ≤ 4611686018427387904 := by have := h1.2.1; omega
  refine Ev.rounds ?_
  unfold contangolaw12_TradeReads.f
  refine Ev_bind (tcheck_f t ps ms hl) ?_
  by_cases c : chkT t ps ms = 0
  case neg => simp only [if_neg c]; exact Ev_id goes12
  simp only [if_pos c]
  obtain ⟨a0, a1, a2, a3, a4, a5, a6, a7, a8, _⟩ := chkT_zero c
  obtain ⟨b1, b2, b3, b4, b5⟩ := ser_facts a0 a5
  obtain ⟨n6, n7⟩ := may_names a6 a7
  obtain ⟨n8, n9⟩ := may_names a6 a8
  obtain ⟨hpp, hz⟩ := parse_print12 t a2 a1 a3 a4 b5 b1 b2 b3 b4 n6 n7 n8 n9
  refine Ev_bind (tprint_f t ⟨⟨by omega, by omega⟩, ⟨by omega, by omega⟩, ⟨by omega, by omega⟩, ⟨by omega, by omega⟩, ⟨by omega, by omega⟩, ⟨by omega, by omega⟩⟩ (by have := (name_good b2).2; omega) (by omega)) ?_
  refine Ev_bind (tparse_f _) ?_
  rw [hpp]
  simp only [tupE, beq_self_eq_true, Bool.and_self, if_true]
  exact Ev_id goes12
end Go.Proofs.YthpmmofleddpnaaGreatDoor.Pure
end
