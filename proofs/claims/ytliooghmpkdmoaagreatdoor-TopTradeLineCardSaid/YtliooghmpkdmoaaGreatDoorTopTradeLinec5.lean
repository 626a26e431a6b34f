/- For TopTradeLine: contracts, and facts on lists and numbers, that it uses (part 5). -/
import Derived.ChangeArms
import Derived.Deep.Slices
import Derived.Laws.BitsLemmas
import Derived.Laws.Strings
import Derived.Lib.Bytealg
import Derived.Lib.IndexBytes
import Derived.Lib.Replace
import Derived.Lib.SplitLaws
import Derived.OpenShut
import Derived.SizedLaws
import Derived.Test.YtliooghmpkdmoaaGreatDoorTopTradeLinec4
import Derived.WideShapes
section
namespace Go.Proofs.YtliooghmpkdmoaaGreatDoor.X
open Go.RowKit Go.Proofs.YtliooghmpkdmoaaGreatDoorW.PrintWords Go.Proofs.YtliooghmpkdmoaaGreatDoorW.PrintLast Go.Proofs.YtliooghmpkdmoaaGreatDoorW.PrintMore
attribute [local go_sem] max2_int min2_int max_two min_two max_three min_three max_four min_four
set_option linter.unusedVariables false
set_option linter.unusedSimpArgs false
attribute [local go_sem high] eqA26 eqA30 eqA50
def contangotop_TopTradeLine.j0 : Nat → List (S50) → List ByteArray → Bool → Int → Int → Int → ByteArray → Int → Int → Int → Int → Int → ByteArray → ByteArray → ByteArray → ByteArray → Option (Bool)
  | 0, _, _, _, _, _, _, _, _, _, _, _, _, _, _, _, _ => none
  | k + 1, x1, x8, x66, x102000, x102001, x102002, x102003, x102004, x102005, x102006, x102007, x102008, x102009, x102010, x102011, x102012 => if x66 = true then (none) else (if 3 < (x8.length : Int) then ((series_Parse.f k (rdOf ByteArray.empty x8 3)).bind fun bt127 => ((product_Find.f x1 x102003).bind fun bt133 => ((product_Print.f k bt133.1 bt133.2.1 bt133.2.2.1 bt133.2.2.2.1 bt133.2.2.2.2.1 bt133.2.2.2.2.2.1 bt133.2.2.2.2.2.2.1).bind fun t142 => ((product_Parse.f k t142).bind fun bt143 => ((date_Print.f x102001).bind fun t152 => ((date_Parse.f t152).bind fun bt153 => (if (bt127.1.toList == x102003.toList && (bt127.2.1 == x102004 && (bt127.2.2.1 == x102005 && (bt127.2.2.2.1 == x102006)))) = true then (if bt127.2.2.2.2 = 0 then (if bt133.2.2.2.2.2.2.2 = true then (if (bt143.1.toList == bt133.1.toList && (bt143.2.1 == bt133.2.1 && (bt143.2.2.1 == bt133.2.2.1 && (bt143.2.2.2.1 == bt133.2.2.2.1 && (bt143.2.2.2.2.1 == bt133.2.2.2.2.1 && (bt143.2.2.2.2.2.1 == bt133.2.2.2.2.2.1 && (bt143.2.2.2.2.2.2.1 == bt133.2.2.2.2.2.2.1))))))) = true then (if bt143.2.2.2.2.2.2.2 = 0 then (if bt153.1 = x102001 then (if bt153.2 = 0 then ((contangotop_goes06.f k).bind fun t155 => (some t155)) else (none)) else (none)) else (none)) else (none)) else (none)) else (none)) else (none)))))))) else (none))
def contangotop_TopTradeLine.f (k : Nat) (a0_0 : Int) (a0_1 : Int) (a0_2 : Int) (a0_3 : ByteArray) (a0_4 : Int) (a0_5 : Int) (a0_6 : Int) (a0_7 : Int) (a0_8 : Int) (a0_9 : ByteArray) (a0_10 : ByteArray) (a0_11 : ByteArray) (a0_12 : ByteArray) (l1 : List (S50)) (l2 : List (S107)) : Option (Bool) := (trade_Check.f k a0_0 a0_1 a0_2 a0_3 a0_4 a0_5 a0_6 a0_7 a0_8 a0_9 a0_10 a0_11 a0_12 l1 l2).bind fun t102 => (if t102 = 0 then ((trade_Print.f k a0_0 a0_1 a0_2 a0_3 a0_4 a0_5 a0_6 a0_7 a0_8 a0_9 a0_10 a0_11 a0_12).bind fun t104 => ((words_Fields.f k t104).bind fun bt105 => ((trade_Parse.f k t104).bind fun bt109 => (if bt105.2 = 0 then (if bt109.2.2.2.2.2.2.2.2.2.2.2.2.2 = 0 then (if (bt105.1.length : Int) = 10 then ((words_Join.f bt105.1).bind fun t124 => (if t124.toList = t104.toList then (if (!(bt109.1 == a0_0) || (!(bt109.2.1 == a0_1) || (!(bt109.2.2.1 == a0_2) || ((!(bt109.2.2.2.1.toList == a0_3.toList) || (!(bt109.2.2.2.2.1 == a0_4) || (!(bt109.2.2.2.2.2.1 == a0_5) || (!(bt109.2.2.2.2.2.2.1 == a0_6))))) || (!(bt109.2.2.2.2.2.2.2.1 == a0_7) || (!(bt109.2.2.2.2.2.2.2.2.1 == a0_8) || ((!(bt109.2.2.2.2.2.2.2.2.2.1.toList == a0_9.toList) || (!(bt109.2.2.2.2.2.2.2.2.2.2.1.toList == a0_10.toList))) || ((!(bt109.2.2.2.2.2.2.2.2.2.2.2.1.toList == a0_11.toList) || (!(bt109.2.2.2.2.2.2.2.2.2.2.2.2.1.toList == a0_12.toList))))))))))) = true then (contangotop_TopTradeLine.j0 k l1 bt105.1 true a0_0 a0_1 a0_2 a0_3 a0_4 a0_5 a0_6 a0_7 a0_8 a0_9 a0_10 a0_11 a0_12) else ((trade_Check.f k bt109.1 bt109.2.1 bt109.2.2.1 bt109.2.2.2.1 bt109.2.2.2.2.1 bt109.2.2.2.2.2.1 bt109.2.2.2.2.2.2.1 bt109.2.2.2.2.2.2.2.1 bt109.2.2.2.2.2.2.2.2.1 bt109.2.2.2.2.2.2.2.2.2.1 bt109.2.2.2.2.2.2.2.2.2.2.1 bt109.2.2.2.2.2.2.2.2.2.2.2.1 bt109.2.2.2.2.2.2.2.2.2.2.2.2.1 l1 l2).bind fun t125 => (contangotop_TopTradeLine.j0 k l1 bt105.1 (t125 != 0) a0_0 a0_1 a0_2 a0_3 a0_4 a0_5 a0_6 a0_7 a0_8 a0_9 a0_10 a0_11 a0_12))) else (contangotop_TopTradeLine.j0 k l1 bt105.1 true a0_0 a0_1 a0_2 a0_3 a0_4 a0_5 a0_6 a0_7 a0_8 a0_9 a0_10 a0_11 a0_12))) else (contangotop_TopTradeLine.j0 k l1 bt105.1 true a0_0 a0_1 a0_2 a0_3 a0_4 a0_5 a0_6 a0_7 a0_8 a0_9 a0_10 a0_11 a0_12)) else (contangotop_TopTradeLine.j0 k l1 bt105.1 true a0_0 a0_1 a0_2 a0_3 a0_4 a0_5 a0_6 a0_7 a0_8 a0_9 a0_10 a0_11 a0_12)) else (contangotop_TopTradeLine.j0 k l1 bt105.1 true a0_0 a0_1 a0_2 a0_3 a0_4 a0_5 a0_6 a0_7 a0_8 a0_9 a0_10 a0_11 a0_12))))) else ((contangotop_goes06.f k).bind fun t103 => (some t103)))
set_option maxHeartbeats 8000000 in
set_option maxRecDepth 100000 in
theorem contangotop_TopTradeLine.calls (k : Nat) (a0_0 : Int) (a0_1 : Int) (a0_2 : Int) (a0_3 : ByteArray) (a0_4 : Int) (a0_5 : Int) (a0_6 : Int) (a0_7 : Int) (a0_8 : Int) (a0_9 : ByteArray) (a0_10 : ByteArray) (a0_11 : ByteArray) (a0_12 : ByteArray) (A1 : Option Addr) (c1 : Nat) (l1 : List (S50)) (A2 : Option Addr) (c2 : Nat) (l2 : List (S107)) (r : Bool) (w : World) (hr1 : Kd.C k50 w A1 l1.length l1) (hc1 : l1.length ≤ c1) (hr2 : Kd.C k107 w A2 l2.length l2) (hc2 : l2.length ≤ c2) (h : contangotop_TopTradeLine.f k a0_0 a0_1 a0_2 a0_3 a0_4 a0_5 a0_6 a0_7 a0_8 a0_9 a0_10 a0_11 a0_12 l1 l2 = some r) (hGL : GlobD w) :
    Calls Tryz.prog 4 #[.agg #[.int .i64 a0_0, .int .i64 a0_1, .int .i64 a0_2, .string a0_3, .int .i64 a0_4, .int .i64 a0_5, .int .i64 a0_6, .int .i64 a0_7, .int .i64 a0_8, .string a0_9, .string a0_10, .string a0_11, .string a0_12], .slice A1 l1.length c1, .slice A2 l2.length c2] w fun e w' => e = .returned (.bool r) ∧ Below w.heap.size w w' := by
  have hu30 := Tryz.underlying30
  have hu26 := Tryz.underlying26
  have hu50 := Tryz.underlying50
  have HR1 := Aside0.mk hr1
  have HC1 := Aside0.mk hc1
  clear hr1 hc1
  have HR2 := Aside0.mk hr2
  have HC2 := Aside0.mk hc2
  clear hr2 hc2
  have HB := Aside0.mk (Below.refl w.heap.size w)
  have HGL := Aside0.mk hGL
  clear hGL
  have H : ((trade_Check.f k a0_0 a0_1 a0_2 a0_3 a0_4 a0_5 a0_6 a0_7 a0_8 a0_9 a0_10 a0_11 a0_12 l1 l2).bind fun t102 => (if t102 = 0 then ((trade_Print.f k a0_0 a0_1 a0_2 a0_3 a0_4 a0_5 a0_6 a0_7 a0_8 a0_9 a0_10 a0_11 a0_12).bind fun t104 => ((words_Fields.f k t104).bind fun bt105 => ((trade_Parse.f k t104).bind fun bt109 => (if bt105.2 = 0 then (if bt109.2.2.2.2.2.2.2.2.2.2.2.2.2 = 0 then (if (bt105.1.length : Int) = 10 then ((words_Join.f bt105.1).bind fun t124 => (if t124.toList = t104.toList then (if (!(bt109.1 == a0_0) || (!(bt109.2.1 == a0_1) || (!(bt109.2.2.1 == a0_2) || ((!(bt109.2.2.2.1.toList == a0_3.toList) || (!(bt109.2.2.2.2.1 == a0_4) || (!(bt109.2.2.2.2.2.1 == a0_5) || (!(bt109.2.2.2.2.2.2.1 == a0_6))))) || (!(bt109.2.2.2.2.2.2.2.1 == a0_7) || (!(bt109.2.2.2.2.2.2.2.2.1 == a0_8) || ((!(bt109.2.2.2.2.2.2.2.2.2.1.toList == a0_9.toList) || (!(bt109.2.2.2.2.2.2.2.2.2.2.1.toList == a0_10.toList))) || ((!(bt109.2.2.2.2.2.2.2.2.2.2.2.1.toList == a0_11.toList) || (!(bt109.2.2.2.2.2.2.2.2.2.2.2.2.1.toList == a0_12.toList))))))))))) = true then (contangotop_TopTradeLine.j0 k l1 bt105.1 true a0_0 a0_1 a0_2 a0_3 a0_4 a0_5 a0_6 a0_7 a0_8 a0_9 a0_10 a0_11 a0_12) else ((trade_Check.f k bt109.1 bt109.2.1 bt109.2.2.1 bt109.2.2.2.1 bt109.2.2.2.2.1 bt109.2.2.2.2.2.1 bt109.2.2.2.2.2.2.1 bt109.2.2.2.2.2.2.2.1 bt109.2.2.2.2.2.2.2.2.1 bt109.2.2.2.2.2.2.2.2.2.1 bt109.2.2.2.2.2.2.2.2.2.2.1 bt109.2.2.2.2.2.2.2.2.2.2.2.1 bt109.2.2.2.2.2.2.2.2.2.2.2.2.1 l1 l2).bind fun t125 => (contangotop_TopTradeLine.j0 k l1 bt105.1 (t125 != 0) a0_0 a0_1 a0_2 a0_3 a0_4 a0_5 a0_6 a0_7 a0_8 a0_9 a0_10 a0_11 a0_12))) else (contangotop_TopTradeLine.j0 k l1 bt105.1 true a0_0 a0_1 a0_2 a0_3 a0_4 a0_5 a0_6 a0_7 a0_8 a0_9 a0_10 a0_11 a0_12))) else (contangotop_TopTradeLine.j0 k l1 bt105.1 true a0_0 a0_1 a0_2 a0_3 a0_4 a0_5 a0_6 a0_7 a0_8 a0_9 a0_10 a0_11 a0_12)) else (contangotop_TopTradeLine.j0 k l1 bt105.1 true a0_0 a0_1 a0_2 a0_3 a0_4 a0_5 a0_6 a0_7 a0_8 a0_9 a0_10 a0_11 a0_12)) else (contangotop_TopTradeLine.j0 k l1 bt105.1 true a0_0 a0_1 a0_2 a0_3 a0_4 a0_5 a0_6 a0_7 a0_8 a0_9 a0_10 a0_11 a0_12))))) else ((contangotop_goes06.f k).bind fun t103 => (some t103)))) = some r := h
  clear h
  replace H := bnd H
  obtain ⟨t102, A40, H⟩ := H
  have A4 := Aside0.mk A40
  clear A40
  by_cases c5 : t102 = 0
  · rw [if_pos c5] at H
    have c5b0 : (t102 == 0) = true := beq_iff_eq.mpr c5
    have c5b1 : (t102 != 0) = false := bne_eq_false_iff_eq.mpr c5
    clear c5
    replace H := bnd H
    obtain ⟨t104, A60, H⟩ := H
    have A6 := Aside0.mk A60
    clear A60
    replace H := bnd H
    obtain ⟨⟨t105, t106⟩, A70, H⟩ := H
    replace H : ((trade_Parse.f k t104).bind fun bt109 => (if t106 = 0 then (if bt109.2.2.2.2.2.2.2.2.2.2.2.2.2 = 0 then (if (t105.length : Int) = 10 then ((words_Join.f t105).bind fun t124 => (if t124.toList = t104.toList then (if (!(bt109.1 == a0_0) || (!(bt109.2.1 == a0_1) || (!(bt109.2.2.1 == a0_2) || ((!(bt109.2.2.2.1.toList == a0_3.toList) || (!(bt109.2.2.2.2.1 == a0_4) || (!(bt109.2.2.2.2.2.1 == a0_5) || (!(bt109.2.2.2.2.2.2.1 == a0_6))))) || (!(bt109.2.2.2.2.2.2.2.1 == a0_7) || (!(bt109.2.2.2.2.2.2.2.2.1 == a0_8) || ((!(bt109.2.2.2.2.2.2.2.2.2.1.toList == a0_9.toList) || (!(bt109.2.2.2.2.2.2.2.2.2.2.1.toList == a0_10.toList))) || ((!(bt109.2.2.2.2.2.2.2.2.2.2.2.1.toList == a0_11.toList) || (!(bt109.2.2.2.2.2.2.2.2.2.2.2.2.1.toList == a0_12.toList))))))))))) = true then (contangotop_TopTradeLine.j0 k l1 t105 true a0_0 a0_1 a0_2 a0_3 a0_4 a0_5 a0_6 a0_7 a0_8 a0_9 a0_10 a0_11 a0_12) else ((trade_Check.f k bt109.1 bt109.2.1 bt109.2.2.1 bt109.2.2.2.1 bt109.2.2.2.2.1 bt109.2.2.2.2.2.1 bt109.2.2.2.2.2.2.1 bt109.2.2.2.2.2.2.2.1 bt109.2.2.2.2.2.2.2.2.1 bt109.2.2.2.2.2.2.2.2.2.1 bt109.2.2.2.2.2.2.2.2.2.2.1 bt109.2.2.2.2.2.2.2.2.2.2.2.1 bt109.2.2.2.2.2.2.2.2.2.2.2.2.1 l1 l2).bind fun t125 => (contangotop_TopTradeLine.j0 k l1 t105 (t125 != 0) a0_0 a0_1 a0_2 a0_3 a0_4 a0_5 a0_6 a0_7 a0_8 a0_9 a0_10 a0_11 a0_12))) else (contangotop_TopTradeLine.j0 k l1 t105 true a0_0 a0_1 a0_2 a0_3 a0_4 a0_5 a0_6 a0_7 a0_8 a0_9 a0_10 a0_11 a0_12))) else (contangotop_TopTradeLine.j0 k l1 t105 true a0_0 a0_1 a0_2 a0_3 a0_4 a0_5 a0_6 a0_7 a0_8 a0_9 a0_10 a0_11 a0_12)) else (contangotop_TopTradeLine.j0 k l1 t105 true a0_0 a0_1 a0_2 a0_3 a0_4 a0_5 a0_6 a0_7 a0_8 a0_9 a0_10 a0_11 a0_12)) else (contangotop_TopTradeLine.j0 k l1 t105 true a0_0 a0_1 a0_2 a0_3 a0_4 a0_5 a0_6 a0_7 a0_8 a0_9 a0_10 a0_11 a0_12))) = some r := H
    have A7 := Aside0.mk A70
    clear A70
    replace H := bnd H
    obtain ⟨⟨t109, t110, t111, t112, t113, t114, t115, t116, t117, t118, t119, t120, t121, t122⟩, A80, H⟩ := H
    replace H : (if t106 = 0 then (if t122 = 0 then (if (t105.length : Int) = 10 then ((words_Join.f t105).bind fun t124 => (if t124.toList = t104.toList then (if (!(t109 == a0_0) || (!(t110 == a0_1) || (!(t111 == a0_2) || ((!(t112.toList == a0_3.toList) || (!(t113 == a0_4) || (!(t114 == a0_5) || (!(t115 == a0_6))))) || (!(t116 == a0_7) || (!(t117 == a0_8) || ((!(t118.toList == a0_9.toList) || (!(t119.toList == a0_10.toList))) || ((!(t120.toList == a0_11.toList) || (!(t121.toList == a0_12.toList))))))))))) = true then (contangotop_TopTradeLine.j0 k l1 t105 true a0_0 a0_1 a0_2 a0_3 a0_4 a0_5 a0_6 a0_7 a0_8 a0_9 a0_10 a0_11 a0_12) else ((trade_Check.f k t109 t110 t111 t112 t113 t114 t115 t116 t117 t118 t119 t120 t121 l1 l2).bind fun t125 => (contangotop_TopTradeLine.j0 k l1 t105 (t125 != 0) a0_0 a0_1 a0_2 a0_3 a0_4 a0_5 a0_6 a0_7 a0_8 a0_9 a0_10 a0_11 a0_12))) else (contangotop_TopTradeLine.j0 k l1 t105 true a0_0 a0_1 a0_2 a0_3 a0_4 a0_5 a0_6 a0_7 a0_8 a0_9 a0_10 a0_11 a0_12))) else (contangotop_TopTradeLine.j0 k l1 t105 true a0_0 a0_1 a0_2 a0_3 a0_4 a0_5 a0_6 a0_7 a0_8 a0_9 a0_10 a0_11 a0_12)) else (contangotop_TopTradeLine.j0 k l1 t105 true a0_0 a0_1 a0_2 a0_3 a0_4 a0_5 a0_6 a0_7 a0_8 a0_9 a0_10 a0_11 a0_12)) else (contangotop_TopTradeLine.j0 k l1 t105 true a0_0 a0_1 a0_2 a0_3 a0_4 a0_5 a0_6 a0_7 a0_8 a0_9 a0_10 a0_11 a0_12)) = some r := H
    have A8 := Aside0.mk A80
    clear A80
    have HC9 := Aside0.mk H
    clear H
    go_enter Tryz.func4, Tryz.ntmps4
    go_upto_region 6 with (first | ((with_reducible refine gate_dst (N := 3) rfl ?_); (try (refine gate_guard (by rfl) ?_; dsimp only)); refine box_event ?hg (N := 3) ?hd (cs := #[.int .i64 a0_0, .int .i64 a0_1, .int .i64 a0_2, .string a0_3, .int .i64 a0_4, .int .i64 a0_5, .int .i64 a0_6, .int .i64 a0_7, .int .i64 a0_8, .string a0_9, .string a0_10, .string a0_11, .string a0_12]) (t := 30) ?hr ?_; (case hd => rfl); (case hg => rfl); (case hr => first | (go_simp; done) | (go_simp; rfl)); intro gb101 hg w10 hbox hb; have BK101 := Aside0.mk (hbox); have GW101 := Aside0.mk ((gsz hg : w.heap.size ≤ gb101)); have GE101 := Aside0.mk ((gsz hg : w.heap.size ≤ gb101)); replace HB := Aside0.mk (below_step bel hb); clear hb hbox hg; obtain ⟨hcz11_0, hcz11_1, hcz11_2, hcz11_3, hcz11_4, hcz11_5, hcz11_6, hcz11_7, hcz11_8, hcz11_9, hcz11_10, hcz11_11, hcz11_12, hfz11_0, hfz11_1, hfz11_2, hfz11_3, hfz11_4, hfz11_5, hfz11_6, hfz11_7, hfz11_8, hfz11_9, hfz11_10, hfz11_11, hfz11_12⟩ := cz13 BK101.out) | ((with_reducible refine gate_callee (f := 7) rfl ?_); refine goesL_ (some 23) rfl rfl Tryz.func7 (by kernel_rfl) rfl #[.agg #[.int .i64 a0_0, .int .i64 a0_1, .int .i64 a0_2, .string a0_3, .int .i64 a0_4, .int .i64 a0_5, .int .i64 a0_6, .int .i64 a0_7, .int .i64 a0_8, .string a0_9, .string a0_10, .string a0_11, .string a0_12], .slice A1 l1.length c1, .slice A2 l2.length c2] rfl arg ?_; (with_reducible refine (trade_Check.calls k a0_0 a0_1 a0_2 a0_3 a0_4 a0_5 a0_6 a0_7 a0_8 a0_9 a0_10 a0_11 a0_12 _ _ l1 _ _ l2 t102 _ ?side1 ?side2 ?side3 ?side4 A4.out).mono ?_); (case side1 => repeat (first | exact (Kd.C_below HR1.out HB.out) | (with_reducible refine Kd.C_alloc ?_ _) | (with_reducible refine Kd.C_drewN ?_ _) | (with_reducible refine Kd.C_drew ?_))); (case side2 => exact HC1.out); (case side3 => repeat (first | exact (Kd.C_below HR2.out HB.out) | (with_reducible refine Kd.C_alloc ?_ _) | (with_reducible refine Kd.C_drewN ?_ _) | (with_reducible refine Kd.C_drew ?_))); (case side4 => exact HC2.out); rintro e w12 ⟨rfl, hb⟩; refine ⟨_, rfl, ?_⟩; replace BK101 := Aside0.mk (blk_below (g := gb101) (bw BK101.out) hb); replace HB := Aside0.mk (below_step bel hb); (try clear hb); (try clear hb2); (try clear hk); (try clear hi); obtain ⟨hcz13_0, hcz13_1, hcz13_2, hcz13_3, hcz13_4, hcz13_5, hcz13_6, hcz13_7, hcz13_8, hcz13_9, hcz13_10, hcz13_11, hcz13_12, hfz13_0, hfz13_1, hfz13_2, hfz13_3, hfz13_4, hfz13_5, hfz13_6, hfz13_7, hfz13_8, hfz13_9, hfz13_10, hfz13_11, hfz13_12⟩ := cz13 BK101.out) | ((with_reducible refine gate_callee (f := 8) rfl ?_); refine goesL_ (some 27) rfl rfl Tryz.func8 (by kernel_rfl) rfl #[.agg #[.int .i64 a0_0, .int .i64 a0_1, .int .i64 a0_2, .string a0_3, .int .i64 a0_4, .int .i64 a0_5, .int .i64 a0_6, .int .i64 a0_7, .int .i64 a0_8, .string a0_9, .string a0_10, .string a0_11, .string a0_12]] rfl arg ?_; (with_reducible refine (trade_Print.calls k a0_0 a0_1 a0_2 a0_3 a0_4 a0_5 a0_6 a0_7 a0_8 a0_9 a0_10 a0_11 a0_12 t104 _ A6.out (glob_of HGL.out bem)).mono ?_); rintro e w14 ⟨rfl, hb⟩; refine ⟨_, rfl, ?_⟩; replace BK101 := Aside0.mk (blk_below (g := gb101) (bw BK101.out) hb); replace HB := Aside0.mk (below_step bel hb); (try clear hb); (try clear hb2); (try clear hk); (try clear hi)) | ((with_reducible refine gate_callee (f := 9) rfl ?_); refine goesL_ (some 30) rfl rfl Tryz.func9 (by kernel_rfl) rfl #[.string t104] rfl arg ?_; (with_reducible refine (words_Fields.calls k t104 t105 t106 _ A7.out).mono ?_); rintro e w15 ⟨v107, rfl, ho0, hb⟩; refine ⟨_, rfl, ?_⟩; have HO108 := Aside0.mk (Kd.R_lower ho0 (below_size bel)); replace BK101 := Aside0.mk (blk_below (g := gb101) (bw BK101.out) hb); replace HB := Aside0.mk (below_step bel hb); (try clear hb); (try clear hb2); (try clear hk); (try clear hi); (try clear ho0)) | ((with_reducible refine gate_callee (f := 10) rfl ?_); refine goesL_ (some 35) rfl rfl Tryz.func10 (by kernel_rfl) rfl #[.string t104] rfl arg ?_; (with_reducible refine (trade_Parse.calls k t104 t109 t110 t111 t112 t113 t114 t115 t116 t117 t118 t119 t120 t121 t122 _ A8.out (glob_of HGL.out bem)).mono ?_); rintro e w16 ⟨rfl, hb⟩; refine ⟨_, rfl, ?_⟩; replace HO108 := Aside0.mk (Kd.R_below (kr HO108.out) hb); replace BK101 := Aside0.mk (blk_below (g := gb101) (bw BK101.out) hb); replace HB := Aside0.mk (below_step bel hb); (try clear hb); (try clear hb2); (try clear hk); (try clear hi)) | ((with_reducible refine gate_dst (N := 10) rfl ?_); (try (refine gate_guard (by rfl) ?_; dsimp only)); refine box_event ?hg (N := 10) ?hd (cs := #[.int .i64 0, .int .i64 0, .int .i64 0, .string (⟨#[]⟩ : ByteArray), .int .i64 0, .int .i64 0, .int .i64 0, .int .i64 0, .int .i64 0, .string (⟨#[]⟩ : ByteArray), .string (⟨#[]⟩ : ByteArray), .string (⟨#[]⟩ : ByteArray), .string (⟨#[]⟩ : ByteArray)]) (t := 30) ?hr ?_; (case hd => rfl); (case hg => rfl); (case hr => first | (go_simp; done) | (go_simp; rfl)); intro gb123 hg w17 hbox hb; replace HO108 := Aside0.mk (Kd.R_below (kr HO108.out) hb); have BK123 := Aside0.mk (hbox); have GW123 := Aside0.mk ((gsz hg : w.heap.size ≤ gb123)); have GE123 := Aside0.mk ((gsz hg : w.heap.size ≤ gb123)); have NB101_123 := Aside0.mk ((nlt hg (bw BK101.out) : gb101 ≠ gb123)); have NB123_101 := Aside0.mk ((ngt hg (bw BK101.out) : gb123 ≠ gb101)); replace BK101 := Aside0.mk (blk_below (g := gb101) (bw BK101.out) hb); replace HB := Aside0.mk (below_step bel hb); clear hb hbox hg; have hnb18 := NB123_101.out; have hnc18 := NB101_123.out; obtain ⟨hcz19_0, hcz19_1, hcz19_2, hcz19_3, hcz19_4, hcz19_5, hcz19_6, hcz19_7, hcz19_8, hcz19_9, hcz19_10, hcz19_11, hcz19_12, hfz19_0, hfz19_1, hfz19_2, hfz19_3, hfz19_4, hfz19_5, hfz19_6, hfz19_7, hfz19_8, hfz19_9, hfz19_10, hfz19_11, hfz19_12⟩ := cz13 BK123.out))
    (try simp only [Act.put, List.setIfInBounds_toArray, List.set_cons_zero, List.set_cons_succ])
    go_cut [66] (fun v66 wc => ∃ (kq : Nat) (x66_8 : Bool), v66 = .bool x66_8 ∧ Aside0 (contangotop_TopTradeLine.j0 kq l1 t105 x66_8 a0_0 a0_1 a0_2 a0_3 a0_4 a0_5 a0_6 a0_7 a0_8 a0_9 a0_10 a0_11 a0_12 = some r) ∧ Aside0 (kq ≤ k) ∧ Aside0 (Kd.R Kd.string 9 wc w.heap.size (fun _ => True) v107 t105) ∧ Aside0 (wc.heap[gb101]? = some (.cells #[.int .i64 a0_0, .int .i64 a0_1, .int .i64 a0_2, .string a0_3, .int .i64 a0_4, .int .i64 a0_5, .int .i64 a0_6, .int .i64 a0_7, .int .i64 a0_8, .string a0_9, .string a0_10, .string a0_11, .string a0_12] 30 (0, 0))) ∧ Aside0 (wc.heap[gb123]? = some (.cells #[.int .i64 t109, .int .i64 t110, .int .i64 t111, .string t112, .int .i64 t113, .int .i64 t114, .int .i64 t115, .int .i64 t116, .int .i64 t117, .string t118, .string t119, .string t120, .string t121] 30 (0, 0))) ∧ Aside0 (Below w.heap.size w wc))
    case first =>
      have H := HC9.out
      clear HC9
      by_cases c20 : t106 = 0
      · rw [if_pos c20] at H
        have c20b0 : (t106 == 0) = true := beq_iff_eq.mpr c20
        have c20b1 : (t106 != 0) = false := bne_eq_false_iff_eq.mpr c20
        clear c20
        (first | rw [c20b0] | (simp only [i64_w, i32_w]; rw [c20b0]) | skip)
        by_cases c21 : t122 = 0
        · rw [if_pos c21] at H
          have c21b0 : (t122 == 0) = true := beq_iff_eq.mpr c21
          have c21b1 : (t122 != 0) = false := bne_eq_false_iff_eq.mpr c21
          clear c21
          by_cases c22 : (t105.length : Int) = 10
          · rw [if_pos c22] at H
            have c22b0 : ((t105.length : Int) == 10) = true := beq_iff_eq.mpr c22
            have c22b1 : ((t105.length : Int) != 10) = false := bne_eq_false_iff_eq.mpr c22
            clear c22
            replace H := bnd H
            obtain ⟨t124, A230, H⟩ := H
            have A23 := Aside0.mk A230
            clear A230
            by_cases c24 : t124.toList = t104.toList
            · rw [if_pos c24] at H
              have c24b0 : (t124.toList == t104.toList) = true := beq_iff_eq.mpr c24
              have c24b1 : (t124.toList != t104.toList) = false := bne_eq_false_iff_eq.mpr c24
              clear c24
              by_cases c25 : (!(t109 == a0_0) || (!(t110 == a0_1) || (!(t111 == a0_2) || ((!(t112.toList == a0_3.toList) || (!(t113 == a0_4) || (!(t114 == a0_5) || (!(t115 == a0_6))))) || (!(t116 == a0_7) || (!(t117 == a0_8) || ((!(t118.toList == a0_9.toList) || (!(t119.toList == a0_10.toList))) || ((!(t120.toList == a0_11.toList) || (!(t121.toList == a0_12.toList))))))))))) = true
              · rw [if_pos c25] at H
                have c25b0 : (!(t109 == a0_0) || (!(t110 == a0_1) || (!(t111 == a0_2) || ((!(t112.toList == a0_3.toList) || (!(t113 == a0_4) || (!(t114 == a0_5) || (!(t115 == a0_6))))) || (!(t116 == a0_7) || (!(t117 == a0_8) || ((!(t118.toList == a0_9.toList) || (!(t119.toList == a0_10.toList))) || ((!(t120.toList == a0_11.toList) || (!(t121.toList == a0_12.toList))))))))))) = true := c25
                clear c25
                have H' := Aside0.mk H
                clear H
                obtain ⟨Ao26, co26, eo26⟩ := Kd.R_slice HO108.out
                subst eo26
                go_wp2_with (first | (go_at_call 11; (with_reducible refine (words_Join.calls _ _ t105 t124 _ ?side1 ?side2 A23.out).mono ?_); (case side1 => refine (Kd.R_reads' (e := 9) (base := w.heap.size) (ok := fun k_ => True) (n := t105.length) (c := co26) ?_).2.2; exact (by (with_reducible repeat (first | apply Kd.R_alloc | apply Kd.R_drewN | apply Kd.R_drew)); exact (Kd.R_mono (Kd.R_far (p := ⟨gb123, 12, none⟩) (Kd.R_far (p := ⟨gb123, 11, none⟩) (Kd.R_far (p := ⟨gb123, 10, none⟩) (Kd.R_far (p := ⟨gb123, 9, none⟩) (Kd.R_far (p := ⟨gb123, 8, none⟩) (Kd.R_far (p := ⟨gb123, 7, none⟩) (Kd.R_far (p := ⟨gb123, 6, none⟩) (Kd.R_far (p := ⟨gb123, 5, none⟩) (Kd.R_far (p := ⟨gb123, 4, none⟩) (Kd.R_far (p := ⟨gb123, 3, none⟩) (Kd.R_far (p := ⟨gb123, 2, none⟩) (Kd.R_far (p := ⟨gb123, 1, none⟩) (Kd.R_far (p := ⟨gb123, 0, none⟩) (Kd.R_types HO108.out BK123.out (by decide)) (fun _ hk => hk.2) (.int .i64 t109)) (fun _ hk => hk.2) (.int .i64 t110)) (fun _ hk => hk.2) (.int .i64 t111)) (fun _ hk => hk.2) (.string t112)) (fun _ hk => hk.2) (.int .i64 t113)) (fun _ hk => hk.2) (.int .i64 t114)) (fun _ hk => hk.2) (.int .i64 t115)) (fun _ hk => hk.2) (.int .i64 t116)) (fun _ hk => hk.2) (.int .i64 t117)) (fun _ hk => hk.2) (.string t118)) (fun _ hk => hk.2) (.string t119)) (fun _ hk => hk.2) (.string t120)) (fun _ hk => hk.2) (.string t121)) (fun _ h_ => h_.1)))); (case side2 => exact (Kd.R_reads' HO108.out).2.1); rintro e w27 ⟨rfl, hb⟩; replace HO108 := Aside0.mk (Kd.R_below (by (with_reducible repeat (first | apply Kd.R_alloc | apply Kd.R_drewN | apply Kd.R_drew)); exact (Kd.R_mono (Kd.R_far (p := ⟨gb123, 12, none⟩) (Kd.R_far (p := ⟨gb123, 11, none⟩) (Kd.R_far (p := ⟨gb123, 10, none⟩) (Kd.R_far (p := ⟨gb123, 9, none⟩) (Kd.R_far (p := ⟨gb123, 8, none⟩) (Kd.R_far (p := ⟨gb123, 7, none⟩) (Kd.R_far (p := ⟨gb123, 6, none⟩) (Kd.R_far (p := ⟨gb123, 5, none⟩) (Kd.R_far (p := ⟨gb123, 4, none⟩) (Kd.R_far (p := ⟨gb123, 3, none⟩) (Kd.R_far (p := ⟨gb123, 2, none⟩) (Kd.R_far (p := ⟨gb123, 1, none⟩) (Kd.R_far (p := ⟨gb123, 0, none⟩) (Kd.R_types HO108.out BK123.out (by decide)) (fun _ hk => hk.2) (.int .i64 t109)) (fun _ hk => hk.2) (.int .i64 t110)) (fun _ hk => hk.2) (.int .i64 t111)) (fun _ hk => hk.2) (.string t112)) (fun _ hk => hk.2) (.int .i64 t113)) (fun _ hk => hk.2) (.int .i64 t114)) (fun _ hk => hk.2) (.int .i64 t115)) (fun _ hk => hk.2) (.int .i64 t116)) (fun _ hk => hk.2) (.int .i64 t117)) (fun _ hk => hk.2) (.string t118)) (fun _ hk => hk.2) (.string t119)) (fun _ hk => hk.2) (.string t120)) (fun _ hk => hk.2) (.string t121)) (fun _ h_ => h_.1))) hb); replace BK101 := Aside0.mk (blk_below (g := gb101) (o := .cells #[.int .i64 a0_0, .int .i64 a0_1, .int .i64 a0_2, .string a0_3, .int .i64 a0_4, .int .i64 a0_5, .int .i64 a0_6, .int .i64 a0_7, .int .i64 a0_8, .string a0_9, .string a0_10, .string a0_11, .string a0_12] 30 (0, 0)) (bs BK101.out) hb); replace BK123 := Aside0.mk (blk_below (g := gb123) (o := .cells #[.int .i64 t109, .int .i64 t110, .int .i64 t111, .string t112, .int .i64 t113, .int .i64 t114, .int .i64 t115, .int .i64 t116, .int .i64 t117, .string t118, .string t119, .string t120, .string t121] 30 (0, 0)) (bs BK123.out) hb); replace HB := Aside0.mk (below_step bem hb); (try clear hb); (try clear hb2); (try clear hk); (try clear hi); have hnb28 := NB123_101.out; have hnc28 := NB101_123.out; obtain ⟨hcz29_0, hcz29_1, hcz29_2, hcz29_3, hcz29_4, hcz29_5, hcz29_6, hcz29_7, hcz29_8, hcz29_9, hcz29_10, hcz29_11, hcz29_12, hfz29_0, hfz29_1, hfz29_2, hfz29_3, hfz29_4, hfz29_5, hfz29_6, hfz29_7, hfz29_8, hfz29_9, hfz29_10, hfz29_11, hfz29_12⟩ := cz13 BK123.out; obtain ⟨hcz30_0, hcz30_1, hcz30_2, hcz30_3, hcz30_4, hcz30_5, hcz30_6, hcz30_7, hcz30_8, hcz30_9, hcz30_10, hcz30_11, hcz30_12, hfz30_0, hfz30_1, hfz30_2, hfz30_3, hfz30_4, hfz30_5, hfz30_6, hfz30_7, hfz30_8, hfz30_9, hfz30_10, hfz30_11, hfz30_12⟩ := cz13 BK101.out))
                go_meet
                case rel => exact ⟨_, (true), eqs, H', ⟨by first | omega | exact Nat.le_refl _⟩, ⟨kr HO108.out⟩, ⟨bw BK101.out⟩, ⟨bw BK123.out⟩, ⟨bem⟩⟩
              · rw [if_neg c25] at H
                have c25b0 : (!(t109 == a0_0) || (!(t110 == a0_1) || (!(t111 == a0_2) || ((!(t112.toList == a0_3.toList) || (!(t113 == a0_4) || (!(t114 == a0_5) || (!(t115 == a0_6))))) || (!(t116 == a0_7) || (!(t117 == a0_8) || ((!(t118.toList == a0_9.toList) || (!(t119.toList == a0_10.toList))) || ((!(t120.toList == a0_11.toList) || (!(t121.toList == a0_12.toList))))))))))) = false := by simpa using c25
                clear c25
                replace H := bnd H
                obtain ⟨t125, A310, H⟩ := H
                have A31 := Aside0.mk A310
                clear A310
                have H' := Aside0.mk H
                clear H
                obtain ⟨Ao32, co32, eo32⟩ := Kd.R_slice HO108.out
                subst eo32
                go_wp2_with (first | (go_at_call 11; (with_reducible refine (words_Join.calls _ _ t105 t124 _ ?side1 ?side2 A23.out).mono ?_); (case side1 => refine (Kd.R_reads' (e := 9) (base := w.heap.size) (ok := fun k_ => True) (n := t105.length) (c := co32) ?_).2.2; exact (by (with_reducible repeat (first | apply Kd.R_alloc | apply Kd.R_drewN | apply Kd.R_drew)); exact (Kd.R_mono (Kd.R_far (p := ⟨gb123, 12, none⟩) (Kd.R_far (p := ⟨gb123, 11, none⟩) (Kd.R_far (p := ⟨gb123, 10, none⟩) (Kd.R_far (p := ⟨gb123, 9, none⟩) (Kd.R_far (p := ⟨gb123, 8, none⟩) (Kd.R_far (p := ⟨gb123, 7, none⟩) (Kd.R_far (p := ⟨gb123, 6, none⟩) (Kd.R_far (p := ⟨gb123, 5, none⟩) (Kd.R_far (p := ⟨gb123, 4, none⟩) (Kd.R_far (p := ⟨gb123, 3, none⟩) (Kd.R_far (p := ⟨gb123, 2, none⟩) (Kd.R_far (p := ⟨gb123, 1, none⟩) (Kd.R_far (p := ⟨gb123, 0, none⟩) (Kd.R_types HO108.out BK123.out (by decide)) (fun _ hk => hk.2) (.int .i64 t109)) (fun _ hk => hk.2) (.int .i64 t110)) (fun _ hk => hk.2) (.int .i64 t111)) (fun _ hk => hk.2) (.string t112)) (fun _ hk => hk.2) (.int .i64 t113)) (fun _ hk => hk.2) (.int .i64 t114)) (fun _ hk => hk.2) (.int .i64 t115)) (fun _ hk => hk.2) (.int .i64 t116)) (fun _ hk => hk.2) (.int .i64 t117)) (fun _ hk => hk.2) (.string t118)) (fun _ hk => hk.2) (.string t119)) (fun _ hk => hk.2) (.string t120)) (fun _ hk => hk.2) (.string t121)) (fun _ h_ => h_.1)))); (case side2 => exact (Kd.R_reads' HO108.out).2.1); rintro e w33 ⟨rfl, hb⟩; replace HO108 := Aside0.mk (Kd.R_below (by (with_reducible repeat (first | apply Kd.R_alloc | apply Kd.R_drewN | apply Kd.R_drew)); exact (Kd.R_mono (Kd.R_far (p := ⟨gb123, 12, none⟩) (Kd.R_far (p := ⟨gb123, 11, none⟩) (Kd.R_far (p := ⟨gb123, 10, none⟩) (Kd.R_far (p := ⟨gb123, 9, none⟩) (Kd.R_far (p := ⟨gb123, 8, none⟩) (Kd.R_far (p := ⟨gb123, 7, none⟩) (Kd.R_far (p := ⟨gb123, 6, none⟩) (Kd.R_far (p := ⟨gb123, 5, none⟩) (Kd.R_far (p := ⟨gb123, 4, none⟩) (Kd.R_far (p := ⟨gb123, 3, none⟩) (Kd.R_far (p := ⟨gb123, 2, none⟩) (Kd.R_far (p := ⟨gb123, 1, none⟩) (Kd.R_far (p := ⟨gb123, 0, none⟩) (Kd.R_types HO108.out BK123.out (by decide)) (fun _ hk => hk.2) (.int .i64 t109)) (fun _ hk => hk.2) (.int .i64 t110)) (fun _ hk => hk.2) (.int .i64 t111)) (fun _ hk => hk.2) (.string t112)) (fun _ hk => hk.2) (.int .i64 t113)) (fun _ hk => hk.2) (.int .i64 t114)) (fun _ hk => hk.2) (.int .i64 t115)) (fun _ hk => hk.2) (.int .i64 t116)) (fun _ hk => hk.2) (.int .i64 t117)) (fun _ hk => hk.2) (.string t118)) (fun _ hk => hk.2) (.string t119)) (fun _ hk => hk.2) (.string t120)) (fun _ hk => hk.2) (.string t121)) (fun _ h_ => h_.1))) hb); replace BK101 := Aside0.mk (blk_below (g := gb101) (o := .cells #[.int .i64 a0_0, .int .i64 a0_1, .int .i64 a0_2, .string a0_3, .int .i64 a0_4, .int .i64 a0_5, .int .i64 a0_6, .int .i64 a0_7, .int .i64 a0_8, .string a0_9, .string a0_10, .string a0_11, .string a0_12] 30 (0, 0)) (bs BK101.out) hb); replace BK123 := Aside0.mk (blk_below (g := gb123) (o := .cells #[.int .i64 t109, .int .i64 t110, .int .i64 t111, .string t112, .int .i64 t113, .int .i64 t114, .int .i64 t115, .int .i64 t116, .int .i64 t117, .string t118, .string t119, .string t120, .string t121] 30 (0, 0)) (bs BK123.out) hb); replace HB := Aside0.mk (below_step bem hb); (try clear hb); (try clear hb2); (try clear hk); (try clear hi); have hnb34 := NB123_101.out; have hnc34 := NB101_123.out; obtain ⟨hcz35_0, hcz35_1, hcz35_2, hcz35_3, hcz35_4, hcz35_5, hcz35_6, hcz35_7, hcz35_8, hcz35_9, hcz35_10, hcz35_11, hcz35_12, hfz35_0, hfz35_1, hfz35_2, hfz35_3, hfz35_4, hfz35_5, hfz35_6, hfz35_7, hfz35_8, hfz35_9, hfz35_10, hfz35_11, hfz35_12⟩ := cz13 BK123.out; obtain ⟨hcz36_0, hcz36_1, hcz36_2, hcz36_3, hcz36_4, hcz36_5, hcz36_6, hcz36_7, hcz36_8, hcz36_9, hcz36_10, hcz36_11, hcz36_12, hfz36_0, hfz36_1, hfz36_2, hfz36_3, hfz36_4, hfz36_5, hfz36_6, hfz36_7, hfz36_8, hfz36_9, hfz36_10, hfz36_11, hfz36_12⟩ := cz13 BK101.out) | (go_at_call 7; (with_reducible refine (trade_Check.calls k t109 t110 t111 t112 t113 t114 t115 t116 t117 t118 t119 t120 t121 _ _ l1 _ _ l2 t125 _ ?side1 ?side2 ?side3 ?side4 A31.out).mono ?_); (case side1 => repeat (first | exact (Kd.C_below HR1.out HB.out) | (with_reducible refine Kd.C_alloc ?_ _) | (with_reducible refine Kd.C_drewN ?_ _) | (with_reducible refine Kd.C_drew ?_))); (case side2 => exact HC1.out); (case side3 => repeat (first | exact (Kd.C_below HR2.out HB.out) | (with_reducible refine Kd.C_alloc ?_ _) | (with_reducible refine Kd.C_drewN ?_ _) | (with_reducible refine Kd.C_drew ?_))); (case side4 => exact HC2.out); rintro e w37 ⟨rfl, hb⟩; replace HO108 := Aside0.mk (Kd.R_below (kr HO108.out) hb); replace BK101 := Aside0.mk (blk_below (g := gb101) (bw BK101.out) hb); replace BK123 := Aside0.mk (blk_below (g := gb123) (bw BK123.out) hb); replace HB := Aside0.mk (below_step bem hb); (try clear hb); (try clear hb2); (try clear hk); (try clear hi)))
                go_meet
                case rel => exact ⟨_, ((t125 != 0)), eqs, H', ⟨by first | omega | exact Nat.le_refl _⟩, ⟨kr HO108.out⟩, ⟨bw BK101.out⟩, ⟨bw BK123.out⟩, ⟨bem⟩⟩
            · rw [if_neg c24] at H
              have c24b0 : (t124.toList == t104.toList) = false := beq_eq_false_iff_ne.mpr c24
              have c24b1 : (t124.toList != t104.toList) = true := bne_iff_ne.mpr c24
              have H' := Aside0.mk H
              clear H
              obtain ⟨Ao38, co38, eo38⟩ := Kd.R_slice HO108.out
              subst eo38
              go_wp2_with (first | (go_at_call 11; (with_reducible refine (words_Join.calls _ _ t105 t124 _ ?side1 ?side2 A23.out).mono ?_); (case side1 => refine (Kd.R_reads' (e := 9) (base := w.heap.size) (ok := fun k_ => True) (n := t105.length) (c := co38) ?_).2.2; exact (by (with_reducible repeat (first | apply Kd.R_alloc | apply Kd.R_drewN | apply Kd.R_drew)); exact (Kd.R_mono (Kd.R_far (p := ⟨gb123, 12, none⟩) (Kd.R_far (p := ⟨gb123, 11, none⟩) (Kd.R_far (p := ⟨gb123, 10, none⟩) (Kd.R_far (p := ⟨gb123, 9, none⟩) (Kd.R_far (p := ⟨gb123, 8, none⟩) (Kd.R_far (p := ⟨gb123, 7, none⟩) (Kd.R_far (p := ⟨gb123, 6, none⟩) (Kd.R_far (p := ⟨gb123, 5, none⟩) (Kd.R_far (p := ⟨gb123, 4, none⟩) (Kd.R_far (p := ⟨gb123, 3, none⟩) (Kd.R_far (p := ⟨gb123, 2, none⟩) (Kd.R_far (p := ⟨gb123, 1, none⟩) (Kd.R_far (p := ⟨gb123, 0, none⟩) (Kd.R_types HO108.out BK123.out (by decide)) (fun _ hk => hk.2) (.int .i64 t109)) (fun _ hk => hk.2) (.int .i64 t110)) (fun _ hk => hk.2) (.int .i64 t111)) (fun _ hk => hk.2) (.string t112)) (fun _ hk => hk.2) (.int .i64 t113)) (fun _ hk => hk.2) (.int .i64 t114)) (fun _ hk => hk.2) (.int .i64 t115)) (fun _ hk => hk.2) (.int .i64 t116)) (fun _ hk => hk.2) (.int .i64 t117)) (fun _ hk => hk.2) (.string t118)) (fun _ hk => hk.2) (.string t119)) (fun _ hk => hk.2) (.string t120)) (fun _ hk => hk.2) (.string t121)) (fun _ h_ => h_.1)))); (case side2 => exact (Kd.R_reads' HO108.out).2.1); rintro e w39 ⟨rfl, hb⟩; replace HO108 := Aside0.mk (Kd.R_below (by (with_reducible repeat (first | apply Kd.R_alloc | apply Kd.R_drewN | apply Kd.R_drew)); exact (Kd.R_mono (Kd.R_far (p := ⟨gb123, 12, none⟩) (Kd.R_far (p := ⟨gb123, 11, none⟩) (Kd.R_far (p := ⟨gb123, 10, none⟩) (Kd.R_far (p := ⟨gb123, 9, none⟩) (Kd.R_far (p := ⟨gb123, 8, none⟩) (Kd.R_far (p := ⟨gb123, 7, none⟩) (Kd.R_far (p := ⟨gb123, 6, none⟩) (Kd.R_far (p := ⟨gb123, 5, none⟩) (Kd.R_far (p := ⟨gb123, 4, none⟩) (Kd.R_far (p := ⟨gb123, 3, none⟩) (Kd.R_far (p := ⟨gb123, 2, none⟩) (Kd.R_far (p := ⟨gb123, 1, none⟩) (Kd.R_far (p := ⟨gb123, 0, none⟩) (Kd.R_types HO108.out BK123.out (by decide)) (fun _ hk => hk.2) (.int .i64 t109)) (fun _ hk => hk.2) (.int .i64 t110)) (fun _ hk => hk.2) (.int .i64 t111)) (fun _ hk => hk.2) (.string t112)) (fun _ hk => hk.2) (.int .i64 t113)) (fun _ hk => hk.2) (.int .i64 t114)) (fun _ hk => hk.2) (.int .i64 t115)) (fun _ hk => hk.2) (.int .i64 t116)) (fun _ hk => hk.2) (.int .i64 t117)) (fun _ hk => hk.2) (.string t118)) (fun _ hk => hk.2) (.string t119)) (fun _ hk => hk.2) (.string t120)) (fun _ hk => hk.2) (.string t121)) (fun _ h_ => h_.1))) hb); replace BK101 := Aside0.mk (blk_below (g := gb101) (o := .cells #[.int .i64 a0_0, .int .i64 a0_1, .int .i64 a0_2, .string a0_3, .int .i64 a0_4, .int .i64 a0_5, .int .i64 a0_6, .int .i64 a0_7, .int .i64 a0_8, .string a0_9, .string a0_10, .string a0_11, .string a0_12] 30 (0, 0)) (bs BK101.out) hb); replace BK123 := Aside0.mk (blk_below (g := gb123) (o := .cells #[.int .i64 t109, .int .i64 t110, .int .i64 t111, .string t112, .int .i64 t113, .int .i64 t114, .int .i64 t115, .int .i64 t116, .int .i64 t117, .string t118, .string t119, .string t120, .string t121] 30 (0, 0)) (bs BK123.out) hb); replace HB := Aside0.mk (below_step bem hb); (try clear hb); (try clear hb2); (try clear hk); (try clear hi)))
              go_meet
              case rel => exact ⟨_, (true), eqs, H', ⟨by first | omega | exact Nat.le_refl _⟩, ⟨kr HO108.out⟩, ⟨bw BK101.out⟩, ⟨bw BK123.out⟩, ⟨bem⟩⟩
          · rw [if_neg c22] at H
            have c22b0 : ((t105.length : Int) == 10) = false := beq_eq_false_iff_ne.mpr c22
            have c22b1 : ((t105.length : Int) != 10) = true := bne_iff_ne.mpr c22
            have H' := Aside0.mk H
            clear H
            obtain ⟨Ao40, co40, eo40⟩ := Kd.R_slice HO108.out
            subst eo40
            go_wp2
            go_meet
            case rel => exact ⟨_, (true), eqs, H', ⟨by first | omega | exact Nat.le_refl _⟩, ⟨by (with_reducible repeat (first | apply Kd.R_alloc | apply Kd.R_drewN | apply Kd.R_drew)); exact Kd.R_mono (Kd.R_far (p := ⟨gb123, 12, none⟩) (Kd.R_far (p := ⟨gb123, 11, none⟩) (Kd.R_far (p := ⟨gb123, 10, none⟩) (Kd.R_far (p := ⟨gb123, 9, none⟩) (Kd.R_far (p := ⟨gb123, 8, none⟩) (Kd.R_far (p := ⟨gb123, 7, none⟩) (Kd.R_far (p := ⟨gb123, 6, none⟩) (Kd.R_far (p := ⟨gb123, 5, none⟩) (Kd.R_far (p := ⟨gb123, 4, none⟩) (Kd.R_far (p := ⟨gb123, 3, none⟩) (Kd.R_far (p := ⟨gb123, 2, none⟩) (Kd.R_far (p := ⟨gb123, 1, none⟩) (Kd.R_far (p := ⟨gb123, 0, none⟩) (Kd.R_types HO108.out BK123.out (by decide)) (fun _ hk => hk.2) (.int .i64 t109)) (fun _ hk => hk.2) (.int .i64 t110)) (fun _ hk => hk.2) (.int .i64 t111)) (fun _ hk => hk.2) (.string t112)) (fun _ hk => hk.2) (.int .i64 t113)) (fun _ hk => hk.2) (.int .i64 t114)) (fun _ hk => hk.2) (.int .i64 t115)) (fun _ hk => hk.2) (.int .i64 t116)) (fun _ hk => hk.2) (.int .i64 t117)) (fun _ hk => hk.2) (.string t118)) (fun _ hk => hk.2) (.string t119)) (fun _ hk => hk.2) (.string t120)) (fun _ hk => hk.2) (.string t121)) (fun _ hk => trivial)⟩, ⟨bs BK101.out⟩, ⟨bs BK123.out⟩, ⟨bem⟩⟩
        · rw [if_neg c21] at H
          have c21b0 : (t122 == 0) = false := beq_eq_false_iff_ne.mpr c21
          have c21b1 : (t122 != 0) = true := bne_iff_ne.mpr c21
          have H' := Aside0.mk H
          clear H
          go_wp2
          go_meet
          case rel => exact ⟨_, (true), eqs, H', ⟨by first | omega | exact Nat.le_refl _⟩, ⟨by (with_reducible repeat (first | apply Kd.R_alloc | apply Kd.R_drewN | apply Kd.R_drew)); exact Kd.R_mono (Kd.R_far (p := ⟨gb123, 12, none⟩) (Kd.R_far (p := ⟨gb123, 11, none⟩) (Kd.R_far (p := ⟨gb123, 10, none⟩) (Kd.R_far (p := ⟨gb123, 9, none⟩) (Kd.R_far (p := ⟨gb123, 8, none⟩) (Kd.R_far (p := ⟨gb123, 7, none⟩) (Kd.R_far (p := ⟨gb123, 6, none⟩) (Kd.R_far (p := ⟨gb123, 5, none⟩) (Kd.R_far (p := ⟨gb123, 4, none⟩) (Kd.R_far (p := ⟨gb123, 3, none⟩) (Kd.R_far (p := ⟨gb123, 2, none⟩) (Kd.R_far (p := ⟨gb123, 1, none⟩) (Kd.R_far (p := ⟨gb123, 0, none⟩) (Kd.R_types HO108.out BK123.out (by decide)) (fun _ hk => hk.2) (.int .i64 t109)) (fun _ hk => hk.2) (.int .i64 t110)) (fun _ hk => hk.2) (.int .i64 t111)) (fun _ hk => hk.2) (.string t112)) (fun _ hk => hk.2) (.int .i64 t113)) (fun _ hk => hk.2) (.int .i64 t114)) (fun _ hk => hk.2) (.int .i64 t115)) (fun _ hk => hk.2) (.int .i64 t116)) (fun _ hk => hk.2) (.int .i64 t117)) (fun _ hk => hk.2) (.string t118)) (fun _ hk => hk.2) (.string t119)) (fun _ hk => hk.2) (.string t120)) (fun _ hk => hk.2) (.string t121)) (fun _ hk => trivial)⟩, ⟨bs BK101.out⟩, ⟨bs BK123.out⟩, ⟨bem⟩⟩
      · rw [if_neg c20] at H
        have c20b0 : (t106 == 0) = false := beq_eq_false_iff_ne.mpr c20
        have c20b1 : (t106 != 0) = true := bne_iff_ne.mpr c20
        (first | rw [c20b0] | (simp only [i64_w, i32_w]; rw [c20b0]) | skip)
        have H' := Aside0.mk H
        clear H
        go_wp2
        go_meet
        case rel => exact ⟨_, (true), eqs, H', ⟨by first | omega | exact Nat.le_refl _⟩, ⟨by (with_reducible repeat (first | apply Kd.R_alloc | apply Kd.R_drewN | apply Kd.R_drew)); exact Kd.R_mono (Kd.R_far (p := ⟨gb123, 12, none⟩) (Kd.R_far (p := ⟨gb123, 11, none⟩) (Kd.R_far (p := ⟨gb123, 10, none⟩) (Kd.R_far (p := ⟨gb123, 9, none⟩) (Kd.R_far (p := ⟨gb123, 8, none⟩) (Kd.R_far (p := ⟨gb123, 7, none⟩) (Kd.R_far (p := ⟨gb123, 6, none⟩) (Kd.R_far (p := ⟨gb123, 5, none⟩) (Kd.R_far (p := ⟨gb123, 4, none⟩) (Kd.R_far (p := ⟨gb123, 3, none⟩) (Kd.R_far (p := ⟨gb123, 2, none⟩) (Kd.R_far (p := ⟨gb123, 1, none⟩) (Kd.R_far (p := ⟨gb123, 0, none⟩) (Kd.R_types HO108.out BK123.out (by decide)) (fun _ hk => hk.2) (.int .i64 t109)) (fun _ hk => hk.2) (.int .i64 t110)) (fun _ hk => hk.2) (.int .i64 t111)) (fun _ hk => hk.2) (.string t112)) (fun _ hk => hk.2) (.int .i64 t113)) (fun _ hk => hk.2) (.int .i64 t114)) (fun _ hk => hk.2) (.int .i64 t115)) (fun _ hk => hk.2) (.int .i64 t116)) (fun _ hk => hk.2) (.int .i64 t117)) (fun _ hk => hk.2) (.string t118)) (fun _ hk => hk.2) (.string t119)) (fun _ hk => hk.2) (.string t120)) (fun _ hk => hk.2) (.string t121)) (fun _ hk => trivial)⟩, ⟨bs BK101.out⟩, ⟨bs BK123.out⟩, ⟨bem⟩⟩
    case rest =>
      clear HC9
      try clear c1
      try clear c2
      try clear p2
      try clear c3
      try clear c4
      try clear c5
      try clear c5b0
      try clear c5b1
      try clear c7
      try clear c8
      try clear c9
      try clear c10
      try clear c18
      try clear c20
      try clear c20b0
      try clear c20b1
      try clear c21
      try clear c21b0
      try clear c21b1
      try clear c22
      try clear c22b0
      try clear c22b1
      try clear c24
      try clear c24b0
      try clear c24b1
      try clear c25
      try clear c25b0
      try clear c28
      try clear c34
      try clear hcz11_0 hcz11_1 hcz11_10 hcz11_11 hcz11_12 hcz11_2 hcz11_3 hcz11_4 hcz11_5 hcz11_6 hcz11_7 hcz11_8 hcz11_9
      try clear hcz13_0 hcz13_1 hcz13_10 hcz13_11 hcz13_12 hcz13_2 hcz13_3 hcz13_4 hcz13_5 hcz13_6 hcz13_7 hcz13_8 hcz13_9
      try clear hcz19_0 hcz19_1 hcz19_10 hcz19_11 hcz19_12 hcz19_2 hcz19_3 hcz19_4 hcz19_5 hcz19_6 hcz19_7 hcz19_8 hcz19_9
      try clear hcz29_0 hcz29_1 hcz29_10 hcz29_11 hcz29_12 hcz29_2 hcz29_3 hcz29_4 hcz29_5 hcz29_6 hcz29_7 hcz29_8 hcz29_9
      try clear hcz30_0 hcz30_1 hcz30_10 hcz30_11 hcz30_12 hcz30_2 hcz30_3 hcz30_4 hcz30_5 hcz30_6 hcz30_7 hcz30_8 hcz30_9
      try clear hcz35_0 hcz35_1 hcz35_10 hcz35_11 hcz35_12 hcz35_2 hcz35_3 hcz35_4 hcz35_5 hcz35_6 hcz35_7 hcz35_8 hcz35_9
      try clear hcz36_0 hcz36_1 hcz36_10 hcz36_11 hcz36_12 hcz36_2 hcz36_3 hcz36_4 hcz36_5 hcz36_6 hcz36_7 hcz36_8 hcz36_9
      try clear hfz11_0 hfz11_1 hfz11_10 hfz11_11 hfz11_12 hfz11_2 hfz11_3 hfz11_4 hfz11_5 hfz11_6 hfz11_7 hfz11_8 hfz11_9
      try clear hfz13_0 hfz13_1 hfz13_10 hfz13_11 hfz13_12 hfz13_2 hfz13_3 hfz13_4 hfz13_5 hfz13_6 hfz13_7 hfz13_8 hfz13_9
      try clear hfz19_0 hfz19_1 hfz19_10 hfz19_11 hfz19_12 hfz19_2 hfz19_3 hfz19_4 hfz19_5 hfz19_6 hfz19_7 hfz19_8 hfz19_9
      try clear hfz29_0 hfz29_1 hfz29_10 hfz29_11 hfz29_12 hfz29_2 hfz29_3 hfz29_4 hfz29_5 hfz29_6 hfz29_7 hfz29_8 hfz29_9
      try clear hfz30_0 hfz30_1 hfz30_10 hfz30_11 hfz30_12 hfz30_2 hfz30_3 hfz30_4 hfz30_5 hfz30_6 hfz30_7 hfz30_8 hfz30_9
      try clear hfz35_0 hfz35_1 hfz35_10 hfz35_11 hfz35_12 hfz35_2 hfz35_3 hfz35_4 hfz35_5 hfz35_6 hfz35_7 hfz35_8 hfz35_9
      try clear hfz36_0 hfz36_1 hfz36_10 hfz36_11 hfz36_12 hfz36_2 hfz36_3 hfz36_4 hfz36_5 hfz36_6 hfz36_7 hfz36_8 hfz36_9
      obtain ⟨kq, x66_8, rfl, HA, HJ8, HO_8, BK101, BK123, HB⟩ := hcut
      cases kq with
      | zero => exact absurd HA.out (by simp [contangotop_TopTradeLine.j0])
      | succ kj8 =>
        have H := HA.out
        clear HA
        simp only [contangotop_TopTradeLine.j0] at H
        by_cases c41 : x66_8 = true
        · subst c41
          rw [if_pos rfl] at H
          exact absurd H (by simp)
        · replace c41 := Bool.eq_false_iff.mpr c41
          subst c41
          rw [if_neg (show ¬ (false = true) by decide)] at H
          by_cases c42 : 3 < (t105.length : Int)
          · rw [if_pos c42] at H
            have c42b0 := decide_eq_true c42
            have c42b1 : decide (3 < t105.length) = true := decide_eq_true (by omega)
            clear c42
            replace H := bnd H
            obtain ⟨⟨t127, t128, t129, t130, t131⟩, A430, H⟩ := H
            replace H : ((product_Find.f l1 a0_3).bind fun bt133 => ((product_Print.f kj8 bt133.1 bt133.2.1 bt133.2.2.1 bt133.2.2.2.1 bt133.2.2.2.2.1 bt133.2.2.2.2.2.1 bt133.2.2.2.2.2.2.1).bind fun t142 => ((product_Parse.f kj8 t142).bind fun bt143 => ((date_Print.f a0_1).bind fun t152 => ((date_Parse.f t152).bind fun bt153 => (if (t127.toList == a0_3.toList && (t128 == a0_4 && (t129 == a0_5 && (t130 == a0_6)))) = true then (if t131 = 0 then (if bt133.2.2.2.2.2.2.2 = true then (if (bt143.1.toList == bt133.1.toList && (bt143.2.1 == bt133.2.1 && (bt143.2.2.1 == bt133.2.2.1 && (bt143.2.2.2.1 == bt133.2.2.2.1 && (bt143.2.2.2.2.1 == bt133.2.2.2.2.1 && (bt143.2.2.2.2.2.1 == bt133.2.2.2.2.2.1 && (bt143.2.2.2.2.2.2.1 == bt133.2.2.2.2.2.2.1))))))) = true then (if bt143.2.2.2.2.2.2.2 = 0 then (if bt153.1 = a0_1 then (if bt153.2 = 0 then ((contangotop_goes06.f kj8).bind fun t155 => (some t155)) else (none)) else (none)) else (none)) else (none)) else (none)) else (none)) else (none))))))) = some r := H
            have A43 := Aside0.mk A430
            clear A430
            replace H := bnd H
            obtain ⟨⟨t133, t134, t135, t136, t137, t138, t139, t140⟩, A440, H⟩ := H
            replace H : ((product_Print.f kj8 t133 t134 t135 t136 t137 t138 t139).bind fun t142 => ((product_Parse.f kj8 t142).bind fun bt143 => ((date_Print.f a0_1).bind fun t152 => ((date_Parse.f t152).bind fun bt153 => (if (t127.toList == a0_3.toList && (t128 == a0_4 && (t129 == a0_5 && (t130 == a0_6)))) = true then (if t131 = 0 then (if t140 = true then (if (bt143.1.toList == t133.toList && (bt143.2.1 == t134 && (bt143.2.2.1 == t135 && (bt143.2.2.2.1 == t136 && (bt143.2.2.2.2.1 == t137 && (bt143.2.2.2.2.2.1 == t138 && (bt143.2.2.2.2.2.2.1 == t139))))))) = true then (if bt143.2.2.2.2.2.2.2 = 0 then (if bt153.1 = a0_1 then (if bt153.2 = 0 then ((contangotop_goes06.f kj8).bind fun t155 => (some t155)) else (none)) else (none)) else (none)) else (none)) else (none)) else (none)) else (none)))))) = some r := H
            have A44 := Aside0.mk A440
            clear A440
            replace H := bnd H
            obtain ⟨t142, A450, H⟩ := H
            have A45 := Aside0.mk A450
            clear A450
            replace H := bnd H
            obtain ⟨⟨t143, t144, t145, t146, t147, t148, t149, t150⟩, A460, H⟩ := H
            replace H : ((date_Print.f a0_1).bind fun t152 => ((date_Parse.f t152).bind fun bt153 => (if (t127.toList == a0_3.toList && (t128 == a0_4 && (t129 == a0_5 && (t130 == a0_6)))) = true then (if t131 = 0 then (if t140 = true then (if (t143.toList == t133.toList && (t144 == t134 && (t145 == t135 && (t146 == t136 && (t147 == t137 && (t148 == t138 && (t149 == t139))))))) = true then (if t150 = 0 then (if bt153.1 = a0_1 then (if bt153.2 = 0 then ((contangotop_goes06.f kj8).bind fun t155 => (some t155)) else (none)) else (none)) else (none)) else (none)) else (none)) else (none)) else (none)))) = some r := H
            have A46 := Aside0.mk A460
            clear A460
            replace H := bnd H
            obtain ⟨t152, A470, H⟩ := H
            have A47 := Aside0.mk A470
            clear A470
            replace H := bnd H
            obtain ⟨⟨t153, t154⟩, A480, H⟩ := H
            replace H : (if (t127.toList == a0_3.toList && (t128 == a0_4 && (t129 == a0_5 && (t130 == a0_6)))) = true then (if t131 = 0 then (if t140 = true then (if (t143.toList == t133.toList && (t144 == t134 && (t145 == t135 && (t146 == t136 && (t147 == t137 && (t148 == t138 && (t149 == t139))))))) = true then (if t150 = 0 then (if t153 = a0_1 then (if t154 = 0 then ((contangotop_goes06.f kj8).bind fun t155 => (some t155)) else (none)) else (none)) else (none)) else (none)) else (none)) else (none)) else (none)) = some r := H
            have A48 := Aside0.mk A480
            clear A480
            by_cases c49 : (t127.toList == a0_3.toList && (t128 == a0_4 && (t129 == a0_5 && (t130 == a0_6)))) = true
            · rw [if_pos c49] at H
              have c49b0 : (t127.toList == a0_3.toList && (t128 == a0_4 && (t129 == a0_5 && (t130 == a0_6)))) = true := c49
              (try (have c49b1 : decide (t127.toList = a0_3.toList && (t128 == a0_4 && (t129 == a0_5 && (t130 == a0_6)))) = true := by simpa using c49))
              (try (have c49b2 : (t127.toList == a0_3.toList && (t128 == a0_4 && (t129 == a0_5 && (t130 == a0_6)))) = true := by simpa using c49))
              clear c49
              by_cases c50 : t131 = 0
              · rw [if_pos c50] at H
                have c50b0 : (t131 == 0) = true := beq_iff_eq.mpr c50
                have c50b1 : (t131 != 0) = false := bne_eq_false_iff_eq.mpr c50
                clear c50
                by_cases c51 : t140 = true
                · subst c51
                  rw [if_pos rfl] at H
                  by_cases c52 : (t143.toList == t133.toList && (t144 == t134 && (t145 == t135 && (t146 == t136 && (t147 == t137 && (t148 == t138 && (t149 == t139))))))) = true
                  · rw [if_pos c52] at H
                    have c52b0 : (t143.toList == t133.toList && (t144 == t134 && (t145 == t135 && (t146 == t136 && (t147 == t137 && (t148 == t138 && (t149 == t139))))))) = true := c52
                    (try (have c52b1 : decide (t143.toList = t133.toList && (t144 == t134 && (t145 == t135 && (t146 == t136 && (t147 == t137 && (t148 == t138 && (t149 == t139))))))) = true := by simpa using c52))
                    (try (have c52b2 : (t143.toList == t133.toList && (t144 == t134 && (t145 == t135 && (t146 == t136 && (t147 == t137 && (t148 == t138 && (t149 == t139))))))) = true := by simpa using c52))
                    clear c52
                    by_cases c53 : t150 = 0
                    · rw [if_pos c53] at H
                      have c53b0 : (t150 == 0) = true := beq_iff_eq.mpr c53
                      have c53b1 : (t150 != 0) = false := bne_eq_false_iff_eq.mpr c53
                      clear c53
                      by_cases c54 : t153 = a0_1
                      · rw [if_pos c54] at H
                        have c54b0 : (t153 == a0_1) = true := beq_iff_eq.mpr c54
                        have c54b1 : (t153 != a0_1) = false := bne_eq_false_iff_eq.mpr c54
                        clear c54
                        by_cases c55 : t154 = 0
                        · rw [if_pos c55] at H
                          have c55b0 : (t154 == 0) = true := beq_iff_eq.mpr c55
                          have c55b1 : (t154 != 0) = false := bne_eq_false_iff_eq.mpr c55
                          clear c55
                          replace H := bnd H
                          obtain ⟨t155, A560, H⟩ := H
                          have A56 := Aside0.mk A560
                          clear A560
                          obtain rfl := Option.some.inj H
                          obtain ⟨Ao57, co57, eo57⟩ := Kd.R_slice HO_8.out
                          subst eo57
                          have p126 : 0 ≤ (3 : Int) := (by omega)
                          have q126 : 3 < (t105.length : Int) := dt
                          obtain ⟨ad126, e126, hx126_0⟩ := Kd.at_string (Kd.R_reads' HO_8.out).2.2 3 p126 q126
                          cases e126
                          (try simp only [show (3 : Int).toNat = 3 from rfl, Nat.reduceMul, Nat.reduceEqDiff, Go.Addr.add, ↓reduceIte] at hx126_0)
                          have qi126 : (3 < t105.length) = True := eq_true (by omega)
                          (try rw [show ((3 : Int)).toNat = 3 from rfl] at hx126_0)
                          replace p126 := eq_true p126
                          replace q126 := eq_true q126
                          go_wp2_with (first | ((with_reducible refine gate_callee (f := 12) rfl ?_); refine goesL_ (some 71) rfl rfl Tryz.func12 (by kernel_rfl) rfl #[.string (rdOf ByteArray.empty t105 3)] rfl arg ?_; (with_reducible refine (series_Parse.calls kj8 (rdOf ByteArray.empty t105 3) t127 t128 t129 t130 t131 _ A43.out (glob_of HGL.out bem)).mono ?_); rintro e w58 ⟨rfl, hb⟩; refine ⟨_, rfl, ?_⟩; replace HO_8 := Aside0.mk (Kd.R_below (kr HO_8.out) hb); replace BK101 := Aside0.mk (blk_below (g := gb101) (bw BK101.out) hb); replace BK123 := Aside0.mk (blk_below (g := gb123) (bw BK123.out) hb); replace HB := Aside0.mk (below_step bem hb); (try clear hb); (try clear hb2); (try clear hk); (try clear hi)) | ((with_reducible refine gate_dst (N := 12) rfl ?_); (try (refine gate_guard (by rfl) ?_; dsimp only)); refine box_event ?hg (N := 12) ?hd (cs := #[.string (⟨#[]⟩ : ByteArray), .int .i64 0, .int .i64 0, .int .i64 0]) (t := 26) ?hr ?_; (case hd => rfl); (case hg => rfl); (case hr => first | (go_simp; done) | (go_simp; rfl)); intro gb132 hg w59 hbox hb; replace HO_8 := Aside0.mk (Kd.R_below (kr HO_8.out) hb); have BK132 := Aside0.mk (hbox); have GW132 := Aside0.mk ((gsm hg : w.heap.size ≤ gb132)); have GE132 := Aside0.mk ((gsm hg : w.heap.size ≤ gb132)); have NB101_132 := Aside0.mk ((nlt hg (bw BK101.out) : gb101 ≠ gb132)); have NB132_101 := Aside0.mk ((ngt hg (bw BK101.out) : gb132 ≠ gb101)); replace BK101 := Aside0.mk (blk_below (g := gb101) (bw BK101.out) hb); have NB123_132 := Aside0.mk ((nlt hg (bw BK123.out) : gb123 ≠ gb132)); have NB132_123 := Aside0.mk ((ngt hg (bw BK123.out) : gb132 ≠ gb123)); replace BK123 := Aside0.mk (blk_below (g := gb123) (bw BK123.out) hb); replace HB := Aside0.mk (below_step bem hb); clear hb hbox hg; have hnb60 := NB132_101.out; have hnc60 := NB101_132.out; have hnb61 := NB132_123.out; have hnc61 := NB123_132.out; obtain ⟨hcz62_0, hcz62_1, hcz62_2, hcz62_3, hfz62_0, hfz62_1, hfz62_2, hfz62_3⟩ := cz4 BK132.out; have hnb63 := NB101_123.out; have hnc63 := NB123_101.out; obtain ⟨hcz64_0, hcz64_1, hcz64_2, hcz64_3, hcz64_4, hcz64_5, hcz64_6, hcz64_7, hcz64_8, hcz64_9, hcz64_10, hcz64_11, hcz64_12, hfz64_0, hfz64_1, hfz64_2, hfz64_3, hfz64_4, hfz64_5, hfz64_6, hfz64_7, hfz64_8, hfz64_9, hfz64_10, hfz64_11, hfz64_12⟩ := cz13 BK101.out) | ((with_reducible refine gate_callee (f := 13) rfl ?_); refine goesL_ (some 79) rfl rfl Tryz.func13 (by kernel_rfl) rfl #[.slice A1 l1.length c1, .string a0_3] rfl arg ?_; (with_reducible refine (product_Find.calls _ _ l1 a0_3 t133 t134 t135 t136 t137 t138 t139 true _ ?side1 ?side2 A44.out).mono ?_); (case side1 => exact Kd.C_below HR1.out bem); (case side2 => exact HC1.out); rintro e w65 ⟨rfl, hb⟩; refine ⟨_, rfl, ?_⟩; replace HO_8 := Aside0.mk (Kd.R_below (by (with_reducible repeat (first | apply Kd.R_alloc | apply Kd.R_drewN | apply Kd.R_drew)); exact (Kd.R_mono (Kd.R_far (p := ⟨gb132, 3, none⟩) (Kd.R_far (p := ⟨gb132, 2, none⟩) (Kd.R_far (p := ⟨gb132, 1, none⟩) (Kd.R_far (p := ⟨gb132, 0, none⟩) (Kd.R_types HO_8.out BK132.out (by decide)) (fun _ hk => hk.2) (.string t127)) (fun _ hk => hk.2) (.int .i64 t128)) (fun _ hk => hk.2) (.int .i64 t129)) (fun _ hk => hk.2) (.int .i64 t130)) (fun _ h_ => h_.1))) hb); replace BK101 := Aside0.mk (blk_below (g := gb101) (o := .cells #[.int .i64 a0_0, .int .i64 a0_1, .int .i64 a0_2, .string a0_3, .int .i64 a0_4, .int .i64 a0_5, .int .i64 a0_6, .int .i64 a0_7, .int .i64 a0_8, .string a0_9, .string a0_10, .string a0_11, .string a0_12] 30 (0, 0)) (bs BK101.out) hb); replace BK123 := Aside0.mk (blk_below (g := gb123) (o := .cells #[.int .i64 t109, .int .i64 t110, .int .i64 t111, .string t112, .int .i64 t113, .int .i64 t114, .int .i64 t115, .int .i64 t116, .int .i64 t117, .string t118, .string t119, .string t120, .string t121] 30 (0, 0)) (bs BK123.out) hb); replace BK132 := Aside0.mk (blk_below (g := gb132) (o := .cells #[.string t127, .int .i64 t128, .int .i64 t129, .int .i64 t130] 26 (0, 0)) (bs BK132.out) hb); replace HB := Aside0.mk (below_step bem hb); (try clear hb); (try clear hb2); (try clear hk); (try clear hi)) | ((with_reducible refine gate_dst (N := 14) rfl ?_); (try (refine gate_guard (by rfl) ?_; dsimp only)); refine box_event ?hg (N := 14) ?hd (cs := #[.string (⟨#[]⟩ : ByteArray), .int .i64 0, .int .i64 0, .int .i64 0, .int .i64 0, .int .i64 0, .bool false]) (t := 50) ?hr ?_; (case hd => rfl); (case hg => rfl); (case hr => first | (go_simp; done) | (go_simp; rfl)); intro gb141 hg w66 hbox hb; replace HO_8 := Aside0.mk (Kd.R_below (kr HO_8.out) hb); have BK141 := Aside0.mk (hbox); have GW141 := Aside0.mk ((gsm hg : w.heap.size ≤ gb141)); have GE141 := Aside0.mk ((gsm hg : w.heap.size ≤ gb141)); have NB101_141 := Aside0.mk ((nlt hg (bw BK101.out) : gb101 ≠ gb141)); have NB141_101 := Aside0.mk ((ngt hg (bw BK101.out) : gb141 ≠ gb101)); replace BK101 := Aside0.mk (blk_below (g := gb101) (bw BK101.out) hb); have NB123_141 := Aside0.mk ((nlt hg (bw BK123.out) : gb123 ≠ gb141)); have NB141_123 := Aside0.mk ((ngt hg (bw BK123.out) : gb141 ≠ gb123)); replace BK123 := Aside0.mk (blk_below (g := gb123) (bw BK123.out) hb); have NB132_141 := Aside0.mk ((nlt hg (bw BK132.out) : gb132 ≠ gb141)); have NB141_132 := Aside0.mk ((ngt hg (bw BK132.out) : gb141 ≠ gb132)); replace BK132 := Aside0.mk (blk_below (g := gb132) (bw BK132.out) hb); replace HB := Aside0.mk (below_step bem hb); clear hb hbox hg; have hnb67 := NB141_101.out; have hnc67 := NB101_141.out; have hnb68 := NB141_123.out; have hnc68 := NB123_141.out; have hnb69 := NB141_132.out; have hnc69 := NB132_141.out; obtain ⟨hcz70_0, hcz70_1, hcz70_2, hcz70_3, hcz70_4, hcz70_5, hcz70_6, hfz70_0, hfz70_1, hfz70_2, hfz70_3, hfz70_4, hfz70_5, hfz70_6⟩ := cz7 BK141.out) | ((with_reducible refine gate_callee (f := 15) rfl ?_); refine goesL_ (some 84) rfl rfl Tryz.func15 (by kernel_rfl) rfl #[.agg #[.string t133, .int .i64 t134, .int .i64 t135, .int .i64 t136, .int .i64 t137, .int .i64 t138, .bool t139]] rfl arg ?_; (with_reducible refine (product_Print.calls kj8 t133 t134 t135 t136 t137 t138 t139 t142 _ A45.out).mono ?_); rintro e w71 ⟨rfl, hb⟩; refine ⟨_, rfl, ?_⟩; replace HO_8 := Aside0.mk (Kd.R_below (by (with_reducible repeat (first | apply Kd.R_alloc | apply Kd.R_drewN | apply Kd.R_drew)); exact (Kd.R_mono (Kd.R_far (p := ⟨gb141, 6, none⟩) (Kd.R_far (p := ⟨gb141, 5, none⟩) (Kd.R_far (p := ⟨gb141, 4, none⟩) (Kd.R_far (p := ⟨gb141, 3, none⟩) (Kd.R_far (p := ⟨gb141, 2, none⟩) (Kd.R_far (p := ⟨gb141, 1, none⟩) (Kd.R_far (p := ⟨gb141, 0, none⟩) (Kd.R_types HO_8.out BK141.out (by decide)) (fun _ hk => hk.2) (.string t133)) (fun _ hk => hk.2) (.int .i64 t134)) (fun _ hk => hk.2) (.int .i64 t135)) (fun _ hk => hk.2) (.int .i64 t136)) (fun _ hk => hk.2) (.int .i64 t137)) (fun _ hk => hk.2) (.int .i64 t138)) (fun _ hk => hk.2) (.bool t139)) (fun _ h_ => h_.1))) hb); replace BK101 := Aside0.mk (blk_below (g := gb101) (o := .cells #[.int .i64 a0_0, .int .i64 a0_1, .int .i64 a0_2, .string a0_3, .int .i64 a0_4, .int .i64 a0_5, .int .i64 a0_6, .int .i64 a0_7, .int .i64 a0_8, .string a0_9, .string a0_10, .string a0_11, .string a0_12] 30 (0, 0)) (bs BK101.out) hb); replace BK123 := Aside0.mk (blk_below (g := gb123) (o := .cells #[.int .i64 t109, .int .i64 t110, .int .i64 t111, .string t112, .int .i64 t113, .int .i64 t114, .int .i64 t115, .int .i64 t116, .int .i64 t117, .string t118, .string t119, .string t120, .string t121] 30 (0, 0)) (bs BK123.out) hb); replace BK132 := Aside0.mk (blk_below (g := gb132) (o := .cells #[.string t127, .int .i64 t128, .int .i64 t129, .int .i64 t130] 26 (0, 0)) (bs BK132.out) hb); replace BK141 := Aside0.mk (blk_below (g := gb141) (o := .cells #[.string t133, .int .i64 t134, .int .i64 t135, .int .i64 t136, .int .i64 t137, .int .i64 t138, .bool t139] 50 (0, 0)) (bs BK141.out) hb); replace HB := Aside0.mk (below_step bem hb); (try clear hb); (try clear hb2); (try clear hk); (try clear hi)) | ((with_reducible refine gate_callee (f := 14) rfl ?_); refine goesL_ (some 85) rfl rfl Tryz.func14 (by kernel_rfl) rfl #[.string t142] rfl arg ?_; (with_reducible refine (product_Parse.calls kj8 t142 t143 t144 t145 t146 t147 t148 t149 t150 _ A46.out).mono ?_); rintro e w72 ⟨rfl, hb⟩; refine ⟨_, rfl, ?_⟩; replace HO_8 := Aside0.mk (Kd.R_below (kr HO_8.out) hb); replace BK101 := Aside0.mk (blk_below (g := gb101) (bw BK101.out) hb); replace BK123 := Aside0.mk (blk_below (g := gb123) (bw BK123.out) hb); replace BK132 := Aside0.mk (blk_below (g := gb132) (bw BK132.out) hb); replace BK141 := Aside0.mk (blk_below (g := gb141) (bw BK141.out) hb); replace HB := Aside0.mk (below_step bem hb); (try clear hb); (try clear hb2); (try clear hk); (try clear hi)) | ((with_reducible refine gate_dst (N := 16) rfl ?_); (try (refine gate_guard (by rfl) ?_; dsimp only)); refine box_event ?hg (N := 16) ?hd (cs := #[.string (⟨#[]⟩ : ByteArray), .int .i64 0, .int .i64 0, .int .i64 0, .int .i64 0, .int .i64 0, .bool false]) (t := 50) ?hr ?_; (case hd => rfl); (case hg => rfl); (case hr => first | (go_simp; done) | (go_simp; rfl)); intro gb151 hg w73 hbox hb; replace HO_8 := Aside0.mk (Kd.R_below (kr HO_8.out) hb); have BK151 := Aside0.mk (hbox); have GW151 := Aside0.mk ((gsm hg : w.heap.size ≤ gb151)); have GE151 := Aside0.mk ((gsm hg : w.heap.size ≤ gb151)); have NB101_151 := Aside0.mk ((nlt hg (bw BK101.out) : gb101 ≠ gb151)); have NB151_101 := Aside0.mk ((ngt hg (bw BK101.out) : gb151 ≠ gb101)); replace BK101 := Aside0.mk (blk_below (g := gb101) (bw BK101.out) hb); have NB123_151 := Aside0.mk ((nlt hg (bw BK123.out) : gb123 ≠ gb151)); have NB151_123 := Aside0.mk ((ngt hg (bw BK123.out) : gb151 ≠ gb123)); replace BK123 := Aside0.mk (blk_below (g := gb123) (bw BK123.out) hb); have NB132_151 := Aside0.mk ((nlt hg (bw BK132.out) : gb132 ≠ gb151)); have NB151_132 := Aside0.mk ((ngt hg (bw BK132.out) : gb151 ≠ gb132)); replace BK132 := Aside0.mk (blk_below (g := gb132) (bw BK132.out) hb); have NB141_151 := Aside0.mk ((nlt hg (bw BK141.out) : gb141 ≠ gb151)); have NB151_141 := Aside0.mk ((ngt hg (bw BK141.out) : gb151 ≠ gb141)); replace BK141 := Aside0.mk (blk_below (g := gb141) (bw BK141.out) hb); replace HB := Aside0.mk (below_step bem hb); clear hb hbox hg; have hnb74 := NB151_101.out; have hnc74 := NB101_151.out; have hnb75 := NB151_123.out; have hnc75 := NB123_151.out; have hnb76 := NB151_132.out; have hnc76 := NB132_151.out; have hnb77 := NB151_141.out; have hnc77 := NB141_151.out; obtain ⟨hcz78_0, hcz78_1, hcz78_2, hcz78_3, hcz78_4, hcz78_5, hcz78_6, hfz78_0, hfz78_1, hfz78_2, hfz78_3, hfz78_4, hfz78_5, hfz78_6⟩ := cz7 BK151.out; obtain ⟨hcz79_0, hcz79_1, hcz79_2, hcz79_3, hcz79_4, hcz79_5, hcz79_6, hcz79_7, hcz79_8, hcz79_9, hcz79_10, hcz79_11, hcz79_12, hfz79_0, hfz79_1, hfz79_2, hfz79_3, hfz79_4, hfz79_5, hfz79_6, hfz79_7, hfz79_8, hfz79_9, hfz79_10, hfz79_11, hfz79_12⟩ := cz13 BK101.out) | ((with_reducible refine gate_callee (f := 17) rfl ?_); refine goesL_ (some 91) rfl rfl Tryz.func17 (by kernel_rfl) rfl #[.int .i64 a0_1] rfl arg ?_; (with_reducible refine (date_Print.calls a0_1 t152 _ A47.out (glob_of HGL.out bem)).mono ?_); rintro e w80 ⟨rfl, hb⟩; refine ⟨_, rfl, ?_⟩; replace HO_8 := Aside0.mk (Kd.R_below (by (with_reducible repeat (first | apply Kd.R_alloc | apply Kd.R_drewN | apply Kd.R_drew)); exact (Kd.R_mono (Kd.R_far (p := ⟨gb151, 6, none⟩) (Kd.R_far (p := ⟨gb151, 5, none⟩) (Kd.R_far (p := ⟨gb151, 4, none⟩) (Kd.R_far (p := ⟨gb151, 3, none⟩) (Kd.R_far (p := ⟨gb151, 2, none⟩) (Kd.R_far (p := ⟨gb151, 1, none⟩) (Kd.R_far (p := ⟨gb151, 0, none⟩) (Kd.R_types HO_8.out BK151.out (by decide)) (fun _ hk => hk.2) (.string t143)) (fun _ hk => hk.2) (.int .i64 t144)) (fun _ hk => hk.2) (.int .i64 t145)) (fun _ hk => hk.2) (.int .i64 t146)) (fun _ hk => hk.2) (.int .i64 t147)) (fun _ hk => hk.2) (.int .i64 t148)) (fun _ hk => hk.2) (.bool t149)) (fun _ h_ => h_.1))) hb); replace BK101 := Aside0.mk (blk_below (g := gb101) (o := .cells #[.int .i64 a0_0, .int .i64 a0_1, .int .i64 a0_2, .string a0_3, .int .i64 a0_4, .int .i64 a0_5, .int .i64 a0_6, .int .i64 a0_7, .int .i64 a0_8, .string a0_9, .string a0_10, .string a0_11, .string a0_12] 30 (0, 0)) (bs BK101.out) hb); replace BK123 := Aside0.mk (blk_below (g := gb123) (o := .cells #[.int .i64 t109, .int .i64 t110, .int .i64 t111, .string t112, .int .i64 t113, .int .i64 t114, .int .i64 t115, .int .i64 t116, .int .i64 t117, .string t118, .string t119, .string t120, .string t121] 30 (0, 0)) (bs BK123.out) hb); replace BK132 := Aside0.mk (blk_below (g := gb132) (o := .cells #[.string t127, .int .i64 t128, .int .i64 t129, .int .i64 t130] 26 (0, 0)) (bs BK132.out) hb); replace BK141 := Aside0.mk (blk_below (g := gb141) (o := .cells #[.string t133, .int .i64 t134, .int .i64 t135, .int .i64 t136, .int .i64 t137, .int .i64 t138, .bool t139] 50 (0, 0)) (bs BK141.out) hb); replace BK151 := Aside0.mk (blk_below (g := gb151) (o := .cells #[.string t143, .int .i64 t144, .int .i64 t145, .int .i64 t146, .int .i64 t147, .int .i64 t148, .bool t149] 50 (0, 0)) (bs BK151.out) hb); replace HB := Aside0.mk (below_step bem hb); (try clear hb); (try clear hb2); (try clear hk); (try clear hi)) | ((with_reducible refine gate_callee (f := 16) rfl ?_); refine goesL_ (some 92) rfl rfl Tryz.func16 (by kernel_rfl) rfl #[.string t152] rfl arg ?_; (with_reducible refine (date_Parse.calls t152 t153 t154 _ A48.out (glob_of HGL.out bem)).mono ?_); rintro e w81 ⟨rfl, hb⟩; refine ⟨_, rfl, ?_⟩; replace HO_8 := Aside0.mk (Kd.R_below (kr HO_8.out) hb); replace BK101 := Aside0.mk (blk_below (g := gb101) (bw BK101.out) hb); replace BK123 := Aside0.mk (blk_below (g := gb123) (bw BK123.out) hb); replace BK132 := Aside0.mk (blk_below (g := gb132) (bw BK132.out) hb); replace BK141 := Aside0.mk (blk_below (g := gb141) (bw BK141.out) hb); replace BK151 := Aside0.mk (blk_below (g := gb151) (bw BK151.out) hb); replace HB := Aside0.mk (below_step bem hb); (try clear hb); (try clear hb2); (try clear hk); (try clear hi); obtain ⟨hcz82_0, hcz82_1, hcz82_2, hcz82_3, hfz82_0, hfz82_1, hfz82_2, hfz82_3⟩ := cz4 BK132.out; obtain ⟨hcz83_0, hcz83_1, hcz83_2, hcz83_3, hcz83_4, hcz83_5, hcz83_6, hcz83_7, hcz83_8, hcz83_9, hcz83_10, hcz83_11, hcz83_12, hfz83_0, hfz83_1, hfz83_2, hfz83_3, hfz83_4, hfz83_5, hfz83_6, hfz83_7, hfz83_8, hfz83_9, hfz83_10, hfz83_11, hfz83_12⟩ := cz13 BK101.out; obtain ⟨hcz84_0, hcz84_1, hcz84_2, hcz84_3, hcz84_4, hcz84_5, hcz84_6, hfz84_0, hfz84_1, hfz84_2, hfz84_3, hfz84_4, hfz84_5, hfz84_6⟩ := cz7 BK151.out; obtain ⟨hcz85_0, hcz85_1, hcz85_2, hcz85_3, hcz85_4, hcz85_5, hcz85_6, hfz85_0, hfz85_1, hfz85_2, hfz85_3, hfz85_4, hfz85_5, hfz85_6⟩ := cz7 BK141.out) | (go_at_call 5; (with_reducible refine (contangotop_goes06.calls kj8  t155 _ A56.out (glob_of HGL.out bem)).mono ?_); rintro e w86 ⟨rfl, hb⟩; replace HO_8 := Aside0.mk (Kd.R_below (kr HO_8.out) hb); replace BK101 := Aside0.mk (blk_below (g := gb101) (bw BK101.out) hb); replace BK123 := Aside0.mk (blk_below (g := gb123) (bw BK123.out) hb); replace BK132 := Aside0.mk (blk_below (g := gb132) (bw BK132.out) hb); replace BK141 := Aside0.mk (blk_below (g := gb141) (bw BK141.out) hb); replace BK151 := Aside0.mk (blk_below (g := gb151) (bw BK151.out) hb); replace HB := Aside0.mk (below_step bem hb); (try clear hb); (try clear hb2); (try clear hk); (try clear hi)))
                          go_ret
                          exact ⟨ers, bem⟩
                        · rw [if_neg c55] at H
                          exact absurd H (by simp)
                      · rw [if_neg c54] at H
                        exact absurd H (by simp)
                    · rw [if_neg c53] at H
                      exact absurd H (by simp)
                  · rw [if_neg c52] at H
                    exact absurd H (by simp)
                · replace c51 := Bool.eq_false_iff.mpr c51
                  subst c51
                  rw [if_neg (show ¬ (false = true) by decide)] at H
                  exact absurd H (by simp)
              · rw [if_neg c50] at H
                exact absurd H (by simp)
            · rw [if_neg c49] at H
              exact absurd H (by simp)
          · rw [if_neg c42] at H
            exact absurd H (by simp)
  · rw [if_neg c5] at H
    have c5b0 : (t102 == 0) = false := beq_eq_false_iff_ne.mpr c5
    have c5b1 : (t102 != 0) = true := bne_iff_ne.mpr c5
    replace H := bnd H
    obtain ⟨t103, A870, H⟩ := H
    have A87 := Aside0.mk A870
    clear A870
    obtain rfl := Option.some.inj H
    go_enter Tryz.func4, Tryz.ntmps4
    go_wp2_with (first | ((with_reducible refine gate_dst (N := 3) rfl ?_); (try (refine gate_guard (by rfl) ?_; dsimp only)); refine box_event ?hg (N := 3) ?hd (cs := #[.int .i64 a0_0, .int .i64 a0_1, .int .i64 a0_2, .string a0_3, .int .i64 a0_4, .int .i64 a0_5, .int .i64 a0_6, .int .i64 a0_7, .int .i64 a0_8, .string a0_9, .string a0_10, .string a0_11, .string a0_12]) (t := 30) ?hr ?_; (case hd => rfl); (case hg => rfl); (case hr => first | (go_simp; done) | (go_simp; rfl)); intro gb101 hg w88 hbox hb; have BK101 := Aside0.mk (hbox); have GW101 := Aside0.mk ((gsz hg : w.heap.size ≤ gb101)); have GE101 := Aside0.mk ((gsz hg : w.heap.size ≤ gb101)); replace HB := Aside0.mk (below_step bel hb); clear hb hbox hg; obtain ⟨hcz89_0, hcz89_1, hcz89_2, hcz89_3, hcz89_4, hcz89_5, hcz89_6, hcz89_7, hcz89_8, hcz89_9, hcz89_10, hcz89_11, hcz89_12, hfz89_0, hfz89_1, hfz89_2, hfz89_3, hfz89_4, hfz89_5, hfz89_6, hfz89_7, hfz89_8, hfz89_9, hfz89_10, hfz89_11, hfz89_12⟩ := cz13 BK101.out) | ((with_reducible refine gate_callee (f := 7) rfl ?_); refine goesL_ (some 23) rfl rfl Tryz.func7 (by kernel_rfl) rfl #[.agg #[.int .i64 a0_0, .int .i64 a0_1, .int .i64 a0_2, .string a0_3, .int .i64 a0_4, .int .i64 a0_5, .int .i64 a0_6, .int .i64 a0_7, .int .i64 a0_8, .string a0_9, .string a0_10, .string a0_11, .string a0_12], .slice A1 l1.length c1, .slice A2 l2.length c2] rfl arg ?_; (with_reducible refine (trade_Check.calls k a0_0 a0_1 a0_2 a0_3 a0_4 a0_5 a0_6 a0_7 a0_8 a0_9 a0_10 a0_11 a0_12 _ _ l1 _ _ l2 t102 _ ?side1 ?side2 ?side3 ?side4 A4.out).mono ?_); (case side1 => repeat (first | exact (Kd.C_below HR1.out HB.out) | (with_reducible refine Kd.C_alloc ?_ _) | (with_reducible refine Kd.C_drewN ?_ _) | (with_reducible refine Kd.C_drew ?_))); (case side2 => exact HC1.out); (case side3 => repeat (first | exact (Kd.C_below HR2.out HB.out) | (with_reducible refine Kd.C_alloc ?_ _) | (with_reducible refine Kd.C_drewN ?_ _) | (with_reducible refine Kd.C_drew ?_))); (case side4 => exact HC2.out); rintro e w90 ⟨rfl, hb⟩; refine ⟨_, rfl, ?_⟩; replace BK101 := Aside0.mk (blk_below (g := gb101) (bw BK101.out) hb); replace HB := Aside0.mk (below_step bel hb); (try clear hb); (try clear hb2); (try clear hk); (try clear hi)) | ((with_reducible refine gate_callee (f := 5) rfl ?_); refine goesL_ (some 25) rfl rfl Tryz.func5 (by kernel_rfl) rfl #[] rfl arg ?_; (with_reducible refine (contangotop_goes06.calls k  t103 _ A87.out (glob_of HGL.out bem)).mono ?_); rintro e w91 ⟨rfl, hb⟩; refine ⟨_, rfl, ?_⟩; replace BK101 := Aside0.mk (blk_below (g := gb101) (bw BK101.out) hb); replace HB := Aside0.mk (below_step bel hb); (try clear hb); (try clear hb2); (try clear hk); (try clear hi)))
    go_ret
    exact ⟨ers, bel⟩
end Go.Proofs.YtliooghmpkdmoaaGreatDoor.X
end
section
namespace Go.Proofs.YtliooghmpkdmoaaGreatDoor.Opn
open Go.ChangeShapes Go.WideShapes Go.Proofs.YtliooghmpkdmoaaGreatDoorW.PrintWords
set_option linter.unusedVariables false
set_option linter.unusedSimpArgs false
structure Opens (P : Program) (t : TypeId) {α : Type} (d : Kd α) (Ok : α → Prop) : Prop where
  sz : d.sz = P.cellsOf t
  opens : ∀ {H : Type} {enc : TypeId × Value → H} {w : World} {base : Nat} {spare : Nat → Bool} {held : Bool} {fuel : Nat} {cs : List Value} {x : DataW H × List MemPlace},
    DataW.trod enc P w base spare held fuel t cs = some x → (∀ n ∈ x.1.weights P t, n ≤ reachBytes) → ∃ v, d.K w v cs ∧ Ok v
theorem opens_int {P : Program} {t : TypeId} {k : IntKind} (ht : P.underlying t = some (.int k)) (hc : P.cellsOf t = 1) : Opens P t (Kd.int k) (fun n => (Lit.int k n).wf = true) := by
  refine ⟨hc.symm, fun h _ => ?_⟩
  obtain ⟨n, rfl, _, hw⟩ := DataW.trod_int ht h
  exact ⟨n, rfl, hw⟩
theorem opens_bool {P : Program} {t : TypeId} (ht : P.underlying t = some .bool) (hc : P.cellsOf t = 1) : Opens P t Kd.bool (fun _ => True) := by
  refine ⟨hc.symm, fun h _ => ?_⟩
  obtain ⟨n, rfl, _⟩ := DataW.trod_bool ht h
  exact ⟨n, rfl, trivial⟩
theorem opens_string {P : Program} {t : TypeId} (ht : P.underlying t = some .string) (hc : P.cellsOf t = 1) : Opens P t Kd.string (fun s => s.size ≤ 140737488351232) := by
  refine ⟨hc.symm, fun h hw => ?_⟩
  obtain ⟨s, rfl, rfl, hs⟩ := DataW.trod_string ht h
  refine ⟨s, rfl, ?_⟩
  have := hw s.data.toList.length (by simp [DataW.weights])
  rw [Array.length_toList] at this
  exact this
theorem weights_all {H : Type} {P : Program} {e : TypeId} : ∀ {ds : List (DataW H)} {j : Nat} {d : DataW H}, ds[j]? = some d → ∀ n ∈ d.weights P e, n ∈ DataW.weightsAll P e ds
  | d0 :: ds, 0, d, hd, n, hn => by
    simp only [List.getElem?_cons_zero, Option.some.injEq] at hd
    subst hd
    simp only [DataW.weightsAll, List.mem_append]
    exact Or.inl hn
  | d0 :: ds, j + 1, d, hd, n, hn => by
    simp only [List.getElem?_cons_succ] at hd
    simp only [DataW.weightsAll, List.mem_append]
    exact Or.inr (weights_all hd n hn)
  | [], _, _, hd, _, _ => by simp at hd
theorem list_of {α : Type} {n : Nat} {p : Nat → α → Prop} (h : ∀ i, i < n → ∃ x, p i x) : ∃ l : List α, l.length = n ∧ ∀ i x, l[i]? = some x → p i x := by
  induction n with
  | zero => exact ⟨[], rfl, fun i x hx => by simp at hx⟩
  | succ n ih =>
    obtain ⟨l, hl, hp⟩ := ih (fun i hi => h i (by omega))
    obtain ⟨x, hx⟩ := h n (by omega)
    refine ⟨l ++ [x], by simp [hl], fun i y hy => ?_⟩
    by_cases hi : i < l.length
    · rw [List.getElem?_append_left hi] at hy
      exact hp i y hy
    · rw [List.getElem?_append_right (by omega)] at hy
      have : i - l.length = 0 := by
        cases hk : i - l.length with
        | zero => rfl
        | succ m => rw [hk] at hy; simp at hy
      rw [this] at hy
      simp at hy
      subst hy
      have : i = n := by omega
      subst this
      exact hx
theorem opens_slice {P : Program} {t e : TypeId} {α : Type} {d : Kd α} {Ok : α → Prop} (h : Opens P e d Ok) (ht : P.underlying t = some (.slice e)) (hc : P.cellsOf t = 1) {B : Nat} (hB : P.bytesOf e = B) :
    Opens P t (Kd.slice e d) (fun l => l.length ≤ maxLen ∧ l.length * B ≤ 140737488351232 ∧ ∀ x ∈ l, Ok x) := by
  subst hB
  refine ⟨hc.symm, fun {H enc w base spare held fuel cs x} hx hw => ?_⟩
  rcases DataW.trod_slice ht hx with ⟨rfl, rfl⟩ | ⟨a, len, cap, elems, rest, n, _, rfl, rfl, hb, hl, hm, hlen, hel, hsp, hns⟩
  · exact ⟨[], ⟨none, 0, rfl, Nat.le_refl _, Kd.C_nil _ _⟩, by simp⟩
  simp only [DataW.weights, ht] at hw
  have hw1 : (elems.length + rest.length) * P.bytesOf e ≤ reachBytes := by
    have := hw ((elems.length + rest.length) * P.bytesOf e) (by simp)
    exact this
  have hone : ∀ i, i < len → ∃ v : α, ∃ c, w.cells? base (a.add (i * P.cellsOf e)) (P.cellsOf e) = some c ∧ d.K w v c ∧ Ok v := by
    intro i hi
    have h1 := hel i hi
    rw [List.getElem?_eq_getElem (by omega)] at h1
    obtain ⟨c, hc1, hc2⟩ := Option.bind_eq_some_iff.1 h1
    obtain ⟨v, hv, hok⟩ := h.opens hc2 (fun n hn => hw n (by
      simp only [List.mem_cons, List.mem_append]
      right; left
      refine weights_all (j := i) ?_ n hn
      rw [List.getElem?_map, List.getElem?_eq_getElem (by omega)]
      rfl))
    exact ⟨v, c, hc1, hv, hok⟩
  obtain ⟨l, hl1, hl2⟩ := list_of hone
  subst hl1
  refine ⟨l, ⟨some a, cap, rfl, hl, rfl, ?_, fun _ => ⟨a, rfl, fun j p hj => ?_⟩⟩, ?_, ?_, ?_⟩
  · unfold maxLen at hm; omega
  · obtain ⟨c, hc1, hc2, _⟩ := hl2 j p hj
    obtain ⟨_, hlen2, hcell⟩ := World.cells?_some hc1
    refine ⟨c, by rw [h.sz]; exact hlen2, hc2, fun i u hu => ?_⟩
    have hi : i < P.cellsOf e := by
      have := (List.getElem?_eq_some_iff.1 hu).1
      omega
    have := hcell i hi
    rw [hu, ← Deep.add_add, h.sz] at *
    exact this
  · exact Nat.le_trans hl hm
  · have h2 : l.length * P.bytesOf e ≤ (elems.length + rest.length) * P.bytesOf e := Nat.mul_le_mul_right _ (by omega)
    exact Nat.le_trans h2 hw1
  · intro x hx
    obtain ⟨j, hj⟩ := List.getElem?_of_mem hx
    obtain ⟨c, _, _, ho⟩ := hl2 j x hj
    exact ho
structure OpensF (P : Program) (fs : List Field) (off : Nat) {α : Type} (d : Kd α) (Ok : α → Prop) : Prop where
  opens : ∀ {H : Type} {enc : TypeId × Value → H} {w : World} {base : Nat} {spare : Nat → Bool} {held : Bool} {n : Nat} {cs : List Value} {xs : List (DataW H × List MemPlace)},
    xs.length = fs.length → (∀ (i : Nat) (f : Field), fs[i]? = some f → DataW.trod enc P w base spare held n f.type ((cs.drop f.offset).take (P.cellsOf f.type)) = xs[i]?) →
    (∀ m ∈ DataW.weightsEach P (fs.map (·.type)) (xs.map (·.1)), m ≤ reachBytes) → ∃ v, d.K w v ((cs.drop off).take d.sz) ∧ Ok v
theorem opensF_one {P : Program} {f : Field} {off : Nat} {α : Type} {d : Kd α} {Ok : α → Prop} (h : Opens P f.type d Ok) (ho : f.offset = off) : OpensF P [f] off d Ok := by
  refine ⟨fun {H enc w base spare held n cs xs} hl hx hw => ?_⟩
  match xs, hl with
  | [x], _ =>
    have h1 := hx 0 f rfl
    obtain ⟨v, hv, hok⟩ := h.opens h1 (fun n hn => hw n (by simpa [DataW.weightsEach] using hn))
    refine ⟨v, ?_, hok⟩
    rw [h.sz, ← ho]
    exact hv
theorem opensF_cons {P : Program} {f : Field} {fs : List Field} {off : Nat} {α β : Type} {d : Kd α} {d' : Kd β} {Ok : α → Prop} {Ok' : β → Prop} (h : Opens P f.type d Ok) (ho : f.offset = off) (h' : OpensF P fs (off + d.sz) d' Ok') :
    OpensF P (f :: fs) off (Kd.pair d d') (fun p => Ok p.1 ∧ Ok' p.2) := by
  refine ⟨fun {H enc w base spare held n cs xs} hl hx hw => ?_⟩
  match xs, hl with
  | x :: xs, hl =>
    have h1 := hx 0 f rfl
    obtain ⟨v, hv, hok⟩ := h.opens h1 (fun n hn => hw n (by
      simp only [List.map_cons, DataW.weightsEach, List.mem_append]; exact Or.inl hn))
    obtain ⟨v', hv', hok'⟩ := h'.opens (cs := cs) (xs := xs) (by simpa using hl) (fun i g hg => by
      have := hx (i + 1) g (by simpa using hg)
      simpa using this) (fun m hm => hw m (by simp only [List.map_cons, DataW.weightsEach, List.mem_append]; exact Or.inr hm))
    refine ⟨(v, v'), ⟨(cs.drop off).take d.sz, (cs.drop (off + d.sz)).take d'.sz, ?_, ?_, hv'⟩, hok, hok'⟩
    · show (cs.drop off).take (d.sz + d'.sz) = _
      rw [List.take_add, List.drop_drop]
    · rw [h.sz, ← ho]; exact hv
theorem opens_struct {P : Program} {t : TypeId} {fs : Array Field} {α β : Type} {d : Kd α} {Ok : α → Prop} (h : OpensF P fs.toList 0 d Ok) (ht : P.underlying t = some (.struct fs)) (hc : d.sz = P.cellsOf t) (f : β → α) (mk : α → β) (hf : ∀ a, f (mk a) = a) :
    Opens P t (Kd.iso d f) (fun b => Ok (f b)) := by
  refine ⟨hc, fun {H enc w base spare held fuel cs x} hx hw => ?_⟩
  obtain ⟨xs, n, _, rfl, hlen, hsz, hall⟩ := DataW.trod_struct ht hx
  simp only [DataW.weights, ht] at hw
  obtain ⟨v, hv, hok⟩ := h.opens (cs := cs) (xs := xs) (by simpa using hsz) (fun i f hf => hall i f (by simpa using hf)) hw
  refine ⟨mk v, ?_, by rw [hf]; exact hok⟩
  show d.K w (f (mk v)) cs
  rw [hf]
  rw [List.drop_zero, hc, ← hlen, List.take_length] at hv
  exact hv
theorem opens_imp {P : Program} {t : TypeId} {α : Type} {d : Kd α} {Ok Ok' : α → Prop} (h : Opens P t d Ok) (hi : ∀ v, Ok v → Ok' v) : Opens P t d Ok' :=
  ⟨h.sz, fun hx hw => let ⟨v, hv, ho⟩ := h.opens hx hw; ⟨v, hv, hi v ho⟩⟩
end Go.Proofs.YtliooghmpkdmoaaGreatDoor.Opn
end
section
namespace Go.Proofs.YtliooghmpkdmoaaGreatDoor.X
open Go.RowKit Go.Proofs.YtliooghmpkdmoaaGreatDoorW.PrintWords Go.Proofs.YtliooghmpkdmoaaGreatDoorW.PrintLast Go.Proofs.YtliooghmpkdmoaaGreatDoorW.PrintMore
attribute [local go_sem] max2_int min2_int max_two min_two max_three min_three max_four min_four
set_option linter.unusedVariables false
set_option linter.unusedSimpArgs false
def ok110 (v : S110) : Prop := v.f0.size ≤ 140737488351232 ∧ ((Lit.int .i64 v.f1).wf = true)
theorem opens110 : Opn.Opens Tryz.prog 110 k110 ok110 := by
  have hu := Tryz.underlying110
  refine Opn.opens_imp (Opn.opens_struct (Ok := fun (p : ByteArray × (Int)) => p.1.size ≤ 140737488351232 ∧ ((Lit.int .i64 p.2).wf = true)) ?hF hu (by kernel_rfl) (fun x : S110 => (x.f0, x.f1)) (fun a => ⟨a.1, a.2⟩) (fun _ => rfl)) ?hI
  case hF =>
    refine Opn.opensF_cons (Ok := fun (p : ByteArray) => p.size ≤ 140737488351232) (Ok' := fun (p : Int) => (Lit.int .i64 p).wf = true) (h := ?_) (ho := ?_) (h' := ?_)
    · exact Opn.opens_string Tryz.underlying9 (by kernel_rfl)
    · rfl
    · skip
      refine Opn.opensF_one (Ok := fun (p : Int) => (Lit.int .i64 p).wf = true) (h := ?_) (ho := ?_)
      · exact Opn.opens_int Tryz.underlying3 (by kernel_rfl)
      · rfl
  case hI => exact fun v h => h
def ok107 (v : S107) : Prop := v.f0.size ≤ 140737488351232 ∧ ((Lit.int .i64 v.f1).wf = true ∧ ((v.f2.length ≤ maxLen ∧ v.f2.length * 24 ≤ 140737488351232 ∧ ∀ x ∈ v.f2, ok110 x)))
theorem opens107 : Opn.Opens Tryz.prog 107 k107 ok107 := by
  have hu := Tryz.underlying107
  refine Opn.opens_imp (Opn.opens_struct (Ok := fun (p : ByteArray × (Int × (List (S110)))) => p.1.size ≤ 140737488351232 ∧ ((Lit.int .i64 p.2.1).wf = true ∧ ((p.2.2.length ≤ maxLen ∧ p.2.2.length * 24 ≤ 140737488351232 ∧ ∀ x ∈ p.2.2, ok110 x)))) ?hF hu (by kernel_rfl) (fun x : S107 => (x.f0, x.f1, x.f2)) (fun a => ⟨a.1, a.2.1, a.2.2⟩) (fun _ => rfl)) ?hI
  case hF =>
    refine Opn.opensF_cons (Ok := fun (p : ByteArray) => p.size ≤ 140737488351232) (Ok' := fun (p : Int × (List (S110))) => (Lit.int .i64 p.1).wf = true ∧ ((p.2.length ≤ maxLen ∧ p.2.length * 24 ≤ 140737488351232 ∧ ∀ x ∈ p.2, ok110 x))) (h := ?_) (ho := ?_) (h' := ?_)
    · exact Opn.opens_string Tryz.underlying9 (by kernel_rfl)
    · rfl
    · skip
      refine Opn.opensF_cons (Ok := fun (p : Int) => (Lit.int .i64 p).wf = true) (Ok' := fun (p : List (S110)) => (p.length ≤ maxLen ∧ p.length * 24 ≤ 140737488351232 ∧ ∀ x ∈ p, ok110 x)) (h := ?_) (ho := ?_) (h' := ?_)
      · exact Opn.opens_int Tryz.underlying3 (by kernel_rfl)
      · rfl
      · skip
        refine Opn.opensF_one (Ok := fun (p : List (S110)) => (p.length ≤ maxLen ∧ p.length * 24 ≤ 140737488351232 ∧ ∀ x ∈ p, ok110 x)) (h := ?_) (ho := ?_)
        · exact Opn.opens_slice (opens110) Tryz.underlying105 (by kernel_rfl) (B := 24) (by kernel_rfl)
        · rfl
  case hI => exact fun v h => h
def ok26 (v : S26) : Prop := v.f0.size ≤ 140737488351232 ∧ ((Lit.int .i64 v.f1).wf = true ∧ ((Lit.int .i64 v.f2).wf = true ∧ ((Lit.int .i64 v.f3).wf = true)))
theorem opens26 : Opn.Opens Tryz.prog 26 k26 ok26 := by
  have hu := Tryz.underlying26
  refine Opn.opens_imp (Opn.opens_struct (Ok := fun (p : ByteArray × (Int × (Int × (Int)))) => p.1.size ≤ 140737488351232 ∧ ((Lit.int .i64 p.2.1).wf = true ∧ ((Lit.int .i64 p.2.2.1).wf = true ∧ ((Lit.int .i64 p.2.2.2).wf = true)))) ?hF hu (by kernel_rfl) (fun x : S26 => (x.f0, x.f1, x.f2, x.f3)) (fun a => ⟨a.1, a.2.1, a.2.2.1, a.2.2.2⟩) (fun _ => rfl)) ?hI
  case hF =>
    refine Opn.opensF_cons (Ok := fun (p : ByteArray) => p.size ≤ 140737488351232) (Ok' := fun (p : Int × (Int × (Int))) => (Lit.int .i64 p.1).wf = true ∧ ((Lit.int .i64 p.2.1).wf = true ∧ ((Lit.int .i64 p.2.2).wf = true))) (h := ?_) (ho := ?_) (h' := ?_)
    · exact Opn.opens_string Tryz.underlying9 (by kernel_rfl)
    · rfl
    · skip
      refine Opn.opensF_cons (Ok := fun (p : Int) => (Lit.int .i64 p).wf = true) (Ok' := fun (p : Int × (Int)) => (Lit.int .i64 p.1).wf = true ∧ ((Lit.int .i64 p.2).wf = true)) (h := ?_) (ho := ?_) (h' := ?_)
      · exact Opn.opens_int Tryz.underlying3 (by kernel_rfl)
      · rfl
      · skip
        refine Opn.opensF_cons (Ok := fun (p : Int) => (Lit.int .i64 p).wf = true) (Ok' := fun (p : Int) => (Lit.int .i64 p).wf = true) (h := ?_) (ho := ?_) (h' := ?_)
        · exact Opn.opens_int Tryz.underlying3 (by kernel_rfl)
        · rfl
        · skip
          refine Opn.opensF_one (Ok := fun (p : Int) => (Lit.int .i64 p).wf = true) (h := ?_) (ho := ?_)
          · exact Opn.opens_int Tryz.underlying3 (by kernel_rfl)
          · rfl
  case hI => exact fun v h => h
def ok28 (v : S28) : Prop := v.f0.size ≤ 140737488351232 ∧ (v.f1.size ≤ 140737488351232)
theorem opens28 : Opn.Opens Tryz.prog 28 k28 ok28 := by
  have hu := Tryz.underlying28
  refine Opn.opens_imp (Opn.opens_struct (Ok := fun (p : ByteArray × (ByteArray)) => p.1.size ≤ 140737488351232 ∧ (p.2.size ≤ 140737488351232)) ?hF hu (by kernel_rfl) (fun x : S28 => (x.f0, x.f1)) (fun a => ⟨a.1, a.2⟩) (fun _ => rfl)) ?hI
  case hF =>
    refine Opn.opensF_cons (Ok := fun (p : ByteArray) => p.size ≤ 140737488351232) (Ok' := fun (p : ByteArray) => p.size ≤ 140737488351232) (h := ?_) (ho := ?_) (h' := ?_)
    · exact Opn.opens_string Tryz.underlying9 (by kernel_rfl)
    · rfl
    · skip
      refine Opn.opensF_one (Ok := fun (p : ByteArray) => p.size ≤ 140737488351232) (h := ?_) (ho := ?_)
      · exact Opn.opens_string Tryz.underlying9 (by kernel_rfl)
      · rfl
  case hI => exact fun v h => h
def ok30 (v : S30) : Prop := (Lit.int .i64 v.f0).wf = true ∧ ((Lit.int .i64 v.f1).wf = true ∧ ((Lit.int .i64 v.f2).wf = true ∧ (ok26 v.f3 ∧ ((Lit.int .i64 v.f4).wf = true ∧ ((Lit.int .i64 v.f5).wf = true ∧ (ok28 v.f6 ∧ (ok28 v.f7)))))))
theorem opens30 : Opn.Opens Tryz.prog 30 k30 ok30 := by
  have hu := Tryz.underlying30
  refine Opn.opens_imp (Opn.opens_struct (Ok := fun (p : Int × (Int × (Int × (S26 × (Int × (Int × (S28 × (S28)))))))) => (Lit.int .i64 p.1).wf = true ∧ ((Lit.int .i64 p.2.1).wf = true ∧ ((Lit.int .i64 p.2.2.1).wf = true ∧ (ok26 p.2.2.2.1 ∧ ((Lit.int .i64 p.2.2.2.2.1).wf = true ∧ ((Lit.int .i64 p.2.2.2.2.2.1).wf = true ∧ (ok28 p.2.2.2.2.2.2.1 ∧ (ok28 p.2.2.2.2.2.2.2)))))))) ?hF hu (by kernel_rfl) (fun x : S30 => (x.f0, x.f1, x.f2, x.f3, x.f4, x.f5, x.f6, x.f7)) (fun a => ⟨a.1, a.2.1, a.2.2.1, a.2.2.2.1, a.2.2.2.2.1, a.2.2.2.2.2.1, a.2.2.2.2.2.2.1, a.2.2.2.2.2.2.2⟩) (fun _ => rfl)) ?hI
  case hF =>
    refine Opn.opensF_cons (Ok := fun (p : Int) => (Lit.int .i64 p).wf = true) (Ok' := fun (p : Int × (Int × (S26 × (Int × (Int × (S28 × (S28))))))) => (Lit.int .i64 p.1).wf = true ∧ ((Lit.int .i64 p.2.1).wf = true ∧ (ok26 p.2.2.1 ∧ ((Lit.int .i64 p.2.2.2.1).wf = true ∧ ((Lit.int .i64 p.2.2.2.2.1).wf = true ∧ (ok28 p.2.2.2.2.2.1 ∧ (ok28 p.2.2.2.2.2.2))))))) (h := ?_) (ho := ?_) (h' := ?_)
    · exact Opn.opens_int Tryz.underlying3 (by kernel_rfl)
    · rfl
    · skip
      refine Opn.opensF_cons (Ok := fun (p : Int) => (Lit.int .i64 p).wf = true) (Ok' := fun (p : Int × (S26 × (Int × (Int × (S28 × (S28)))))) => (Lit.int .i64 p.1).wf = true ∧ (ok26 p.2.1 ∧ ((Lit.int .i64 p.2.2.1).wf = true ∧ ((Lit.int .i64 p.2.2.2.1).wf = true ∧ (ok28 p.2.2.2.2.1 ∧ (ok28 p.2.2.2.2.2)))))) (h := ?_) (ho := ?_) (h' := ?_)
      · exact Opn.opens_int Tryz.underlying3 (by kernel_rfl)
      · rfl
      · skip
        refine Opn.opensF_cons (Ok := fun (p : Int) => (Lit.int .i64 p).wf = true) (Ok' := fun (p : S26 × (Int × (Int × (S28 × (S28))))) => ok26 p.1 ∧ ((Lit.int .i64 p.2.1).wf = true ∧ ((Lit.int .i64 p.2.2.1).wf = true ∧ (ok28 p.2.2.2.1 ∧ (ok28 p.2.2.2.2))))) (h := ?_) (ho := ?_) (h' := ?_)
        · exact Opn.opens_int Tryz.underlying3 (by kernel_rfl)
        · rfl
        · skip
          refine Opn.opensF_cons (Ok := fun (p : S26) => ok26 p) (Ok' := fun (p : Int × (Int × (S28 × (S28)))) => (Lit.int .i64 p.1).wf = true ∧ ((Lit.int .i64 p.2.1).wf = true ∧ (ok28 p.2.2.1 ∧ (ok28 p.2.2.2)))) (h := ?_) (ho := ?_) (h' := ?_)
          · exact opens26
          · rfl
          · skip
            refine Opn.opensF_cons (Ok := fun (p : Int) => (Lit.int .i64 p).wf = true) (Ok' := fun (p : Int × (S28 × (S28))) => (Lit.int .i64 p.1).wf = true ∧ (ok28 p.2.1 ∧ (ok28 p.2.2))) (h := ?_) (ho := ?_) (h' := ?_)
            · exact Opn.opens_int Tryz.underlying3 (by kernel_rfl)
            · rfl
            · skip
              refine Opn.opensF_cons (Ok := fun (p : Int) => (Lit.int .i64 p).wf = true) (Ok' := fun (p : S28 × (S28)) => ok28 p.1 ∧ (ok28 p.2)) (h := ?_) (ho := ?_) (h' := ?_)
              · exact Opn.opens_int Tryz.underlying3 (by kernel_rfl)
              · rfl
              · skip
                refine Opn.opensF_cons (Ok := fun (p : S28) => ok28 p) (Ok' := fun (p : S28) => ok28 p) (h := ?_) (ho := ?_) (h' := ?_)
                · exact opens28
                · rfl
                · skip
                  refine Opn.opensF_one (Ok := fun (p : S28) => ok28 p) (h := ?_) (ho := ?_)
                  · exact opens28
                  · rfl
  case hI => exact fun v h => h
def ok50 (v : S50) : Prop := v.f0.size ≤ 140737488351232 ∧ ((Lit.int .i64 v.f1).wf = true ∧ ((Lit.int .i64 v.f2).wf = true ∧ ((Lit.int .i64 v.f3).wf = true ∧ ((Lit.int .i64 v.f4).wf = true ∧ ((Lit.int .i64 v.f5).wf = true ∧ (True))))))
theorem opens50 : Opn.Opens Tryz.prog 50 k50 ok50 := by
  have hu := Tryz.underlying50
  refine Opn.opens_imp (Opn.opens_struct (Ok := fun (p : ByteArray × (Int × (Int × (Int × (Int × (Int × (Bool))))))) => p.1.size ≤ 140737488351232 ∧ ((Lit.int .i64 p.2.1).wf = true ∧ ((Lit.int .i64 p.2.2.1).wf = true ∧ ((Lit.int .i64 p.2.2.2.1).wf = true ∧ ((Lit.int .i64 p.2.2.2.2.1).wf = true ∧ ((Lit.int .i64 p.2.2.2.2.2.1).wf = true ∧ (True))))))) ?hF hu (by kernel_rfl) (fun x : S50 => (x.f0, x.f1, x.f2, x.f3, x.f4, x.f5, x.f6)) (fun a => ⟨a.1, a.2.1, a.2.2.1, a.2.2.2.1, a.2.2.2.2.1, a.2.2.2.2.2.1, a.2.2.2.2.2.2⟩) (fun _ => rfl)) ?hI
  case hF =>
    refine Opn.opensF_cons (Ok := fun (p : ByteArray) => p.size ≤ 140737488351232) (Ok' := fun (p : Int × (Int × (Int × (Int × (Int × (Bool)))))) => (Lit.int .i64 p.1).wf = true ∧ ((Lit.int .i64 p.2.1).wf = true ∧ ((Lit.int .i64 p.2.2.1).wf = true ∧ ((Lit.int .i64 p.2.2.2.1).wf = true ∧ ((Lit.int .i64 p.2.2.2.2.1).wf = true ∧ (True)))))) (h := ?_) (ho := ?_) (h' := ?_)
    · exact Opn.opens_string Tryz.underlying9 (by kernel_rfl)
    · rfl
    · skip
      refine Opn.opensF_cons (Ok := fun (p : Int) => (Lit.int .i64 p).wf = true) (Ok' := fun (p : Int × (Int × (Int × (Int × (Bool))))) => (Lit.int .i64 p.1).wf = true ∧ ((Lit.int .i64 p.2.1).wf = true ∧ ((Lit.int .i64 p.2.2.1).wf = true ∧ ((Lit.int .i64 p.2.2.2.1).wf = true ∧ (True))))) (h := ?_) (ho := ?_) (h' := ?_)
      · exact Opn.opens_int Tryz.underlying3 (by kernel_rfl)
      · rfl
      · skip
        refine Opn.opensF_cons (Ok := fun (p : Int) => (Lit.int .i64 p).wf = true) (Ok' := fun (p : Int × (Int × (Int × (Bool)))) => (Lit.int .i64 p.1).wf = true ∧ ((Lit.int .i64 p.2.1).wf = true ∧ ((Lit.int .i64 p.2.2.1).wf = true ∧ (True)))) (h := ?_) (ho := ?_) (h' := ?_)
        · exact Opn.opens_int Tryz.underlying3 (by kernel_rfl)
        · rfl
        · skip
          refine Opn.opensF_cons (Ok := fun (p : Int) => (Lit.int .i64 p).wf = true) (Ok' := fun (p : Int × (Int × (Bool))) => (Lit.int .i64 p.1).wf = true ∧ ((Lit.int .i64 p.2.1).wf = true ∧ (True))) (h := ?_) (ho := ?_) (h' := ?_)
          · exact Opn.opens_int Tryz.underlying3 (by kernel_rfl)
          · rfl
          · skip
            refine Opn.opensF_cons (Ok := fun (p : Int) => (Lit.int .i64 p).wf = true) (Ok' := fun (p : Int × (Bool)) => (Lit.int .i64 p.1).wf = true ∧ (True)) (h := ?_) (ho := ?_) (h' := ?_)
            · exact Opn.opens_int Tryz.underlying3 (by kernel_rfl)
            · rfl
            · skip
              refine Opn.opensF_cons (Ok := fun (p : Int) => (Lit.int .i64 p).wf = true) (Ok' := fun (p : Bool) => True) (h := ?_) (ho := ?_) (h' := ?_)
              · exact Opn.opens_int Tryz.underlying3 (by kernel_rfl)
              · rfl
              · skip
                refine Opn.opensF_one (Ok := fun (p : Bool) => True) (h := ?_) (ho := ?_)
                · exact Opn.opens_bool Tryz.underlying4 (by kernel_rfl)
                · rfl
  case hI => exact fun v h => h
end Go.Proofs.YtliooghmpkdmoaaGreatDoor.X
end
section
namespace Go.Proofs.YtliooghmpkdmoaaGreatDoor.P
open Go.RowKit Go.Proofs.YtliooghmpkdmoaaGreatDoorW.PrintWords Go.Proofs.YtliooghmpkdmoaaGreatDoorW.PrintMore Go.Proofs.YtliooghmpkdmoaaGreatDoor.X
theorem Ev_succ {α : Type} {g : Nat → Option α} {r : α} (h : Ev (fun k => g (k + 1)) r) : Ev g r := Ev.step (fun _ => rfl) h
theorem Ev_bind {α β : Type} {g : Nat → Option α} {f : Nat → α → Option β} {a : α} {r : β} (h : Ev g a) (k : Ev (fun n => f n a) r) : Ev (fun n => (g n).bind (f n)) r := Ev.bind h k
theorem Ev_id {α : Type} {g : Nat → Option α} {r : α} (h : Ev g r) : Ev (fun n => (g n).bind fun x => some x) r := Ev.bind h (Ev.now _)
theorem w_id {x : Int} (h1 : -9223372036854775808 ≤ x) (h2 : x ≤ 9223372036854775807) : wrap64 x = x := by unfold wrap64; omega
theorem w_succ {i n : Nat} (h : i < n) (hn : n ≤ 9223372036854775807) : wrap64 ((i : Int) + 1) = ((i + 1 : Nat) : Int) := by rw [w_id (by omega) (by omega)]; omega
theorem w_pred {i : Nat} (h : 0 < i) (hn : i ≤ 9223372036854775807) : wrap64 ((i : Int) - 1) = ((i - 1 : Nat) : Int) := by rw [w_id (by omega) (by omega)]; omega
theorem rd_nat (xs : List Int) (i : Nat) (h : i < xs.length) : rd xs (i : Int) = xs[i] := by simp [rd, h]
theorem rdOf_nat {α : Type} (d : α) (xs : List α) (i : Nat) (h : i < xs.length) : rdOf d xs (i : Int) = xs[i] := by simp [rdOf, h]
theorem drop_cons {α : Type} (l : List α) (i : Nat) (h : i < l.length) : l.drop i = l[i] :: l.drop (i + 1) := (List.getElem_cons_drop h).symm
theorem ba_ext {a b : ByteArray} (h : a.toList = b.toList) : a = b := by
  have e : ∀ c : ByteArray, c.toList = c.data.toList := fun c => ByteArray.toList_eq c
  rw [e, e] at h
  cases a; cases b
  congr 1
  exact Array.toList_inj.1 h
end Go.Proofs.YtliooghmpkdmoaaGreatDoor.P
end
section
namespace Go.Proofs.YtliooghmpkdmoaaGreatDoor.P
set_option linter.unusedVariables false
set_option linter.unusedSimpArgs false
open Go.RowKit Go.Proofs.YtliooghmpkdmoaaGreatDoorW.PrintWords Go.Proofs.YtliooghmpkdmoaaGreatDoorW.PrintMore Go.Proofs.YtliooghmpkdmoaaGreatDoor.X
def letterB (n : Int) : Bool := decide (97 ≤ n) && decide (n ≤ 122)
def digitB (n : Int) : Bool := decide (48 ≤ n) && decide (n ≤ 57)
theorem letter_f (n : Int) : words_letter.f n = some (letterB n) := by
  unfold words_letter.f letterB
  by_cases h : 97 ≤ n
  · rw [if_pos h, decide_eq_true h, Bool.true_and]
  · rw [if_neg h, decide_eq_false h, Bool.false_and]
theorem digit_f (n : Int) : words_digit.f n = some (digitB n) := by
  unfold words_digit.f digitB
  by_cases h : 48 ≤ n
  · rw [if_pos h, decide_eq_true h, Bool.true_and]
  · rw [if_neg h, decide_eq_false h, Bool.false_and]
def chB (s : ByteArray) (i : Nat) : Bool := letterB (bt s (i : Int)) || (!(i == 0) && digitB (bt s (i : Int)))
def nameFrom (s : ByteArray) : Nat → Nat → Bool
  | 0, _ => true
  | d + 1, i => chB s i && nameFrom s d (i + 1)
def nameB (s : ByteArray) : Bool := decide (0 < s.size) && decide (s.size ≤ 12) && nameFrom s s.size 0
theorem nameLoop (s : ByteArray) (hs : s.size ≤ 12) (h0 : letterB (bt s 0) = true) : ∀ (d i : Nat), i + d = s.size → Ev (fun k => words_Name.l0 k s s.size i) (nameFrom s d i)
  | 0, i, hd => by
    refine Ev_succ ?_
    simp only [words_Name.l0, if_neg (show ¬ ((i : Int) < (s.size : Int)) by omega)]
    exact Ev.now _
  | d + 1, i, hd => by
    have hi : i < s.size := by omega
    have ih := nameLoop s hs h0 d (i + 1) (by omega)
    refine Ev_succ ?_
    simp only [words_Name.l0, if_pos (show (i : Int) < (s.size : Int) by omega), if_pos (show 0 ≤ (i : Int) by omega), letter_f, digit_f, Option.bind_some, w_succ hi (by omega), nameFrom, chB]
    cases h1 : letterB (bt s (i : Int)) with
    | true => simp only [if_true, Bool.true_or, Bool.true_and]; exact ih
    | false =>
      simp only [Bool.false_eq_true, if_false, Bool.false_or]
      have hi0 : (i == 0) = false := by
        rw [← Bool.not_eq_true, beq_iff_eq]
        rintro rfl
        rw [show ((0 : Nat) : Int) = 0 from rfl, h0] at h1
        cases h1
      simp only [hi0, Bool.not_false, Bool.true_and]
      cases h2 : digitB (bt s (i : Int)) with
      | true => simp only [if_true, Bool.true_and]; exact ih
      | false => simp only [Bool.false_eq_true, if_false, Bool.false_and]; exact Ev.now _
theorem name_f (s : ByteArray) : Ev (fun k => words_Name.f k s) (nameB s) := by
  have hj : nameB s = false → Ev (fun k => words_Name.j0 k s true) (nameB s) := by
    intro h
    rw [h]
    refine Ev_succ ?_
    simp only [words_Name.j0, if_true]
    exact Ev.now _
  unfold words_Name.f
  by_cases c0 : s.toList = []
  · simp only [if_pos c0]
    refine hj ?_
    have : s.size = 0 := by
      have e : s.toList = s.data.toList := ByteArray.toList_eq s
      rw [e] at c0
      have := congrArg List.length c0
      simpa using this
    simp [nameB, this]
  · simp only [if_neg c0]
    by_cases c1 : (s.size : Int) > 12
    · simp only [if_pos c1]
      exact hj (by simp [nameB]; omega)
    · have hp : 0 < s.size := by
        rcases Nat.eq_zero_or_pos s.size with h | h
        · exfalso
          apply c0
          have e : s.toList = s.data.toList := ByteArray.toList_eq s
          rw [e]
          exact List.length_eq_zero_iff.1 (by simpa using h)
        · exact h
      simp only [if_neg c1, if_pos (show 0 < (s.size : Int) by omega), letter_f, Option.bind_some]
      have hn : nameB s = nameFrom s s.size 0 := by
        unfold nameB
        rw [decide_eq_true hp, decide_eq_true (show s.size ≤ 12 by omega)]
        simp
      cases h1 : letterB (bt s 0) with
      | false =>
        refine hj ?_
        rw [hn]
        obtain ⟨d, hd⟩ : ∃ d, s.size = d + 1 := ⟨s.size - 1, by omega⟩
        rw [hd]
        simp [nameFrom, chB, h1]
      | true =>
        refine Ev_succ ?_
        simp only [words_Name.j0, Bool.not_true, Bool.false_eq_true, if_false]
        rw [hn]
        exact nameLoop s (by omega) h1 s.size 0 (by omega)
abbrev Mem := S107
abbrev Act11 := S110
theorem rdM (l : List Mem) (i : Nat) (h : i < l.length) : rd_T107 l (i : Int) = l[i] := by simp [rd_T107, h]
theorem rdA (l : List Act11) (i : Nat) (h : i < l.length) : rd_T110 l (i : Int) = l[i] := by simp [rd_T110, h]
def fndM (q : ByteArray) : List Mem → Mem × Bool
  | [] => (z107, false)
  | x :: r => if x.f0.toList = q.toList then (x, true) else fndM q r
def fndA (q : ByteArray) : List Act11 → ByteArray × Int × Bool
  | [] => ((⟨#[]⟩ : ByteArray), 0, false)
  | x :: r => if x.f0.toList = q.toList then (x.f0, x.f1, true) else fndA q r
theorem idxM_fnd (q : ByteArray) : ∀ (l : List Mem) (i : Nat), (idxM (fun t => t.f0.toList == q.toList) l (i : Int) = -1 ∧ fndM q l = (z107, false)) ∨ ∃ j : Nat, ∃ h : j < l.length, idxM (fun t => t.f0.toList == q.toList) l (i : Int) = ((i + j : Nat) : Int) ∧ fndM q l = (l[j], true)
  | [], i => Or.inl ⟨rfl, rfl⟩
  | x :: r, i => by
    unfold idxM fndM
    by_cases c : x.f0.toList = q.toList
    · rw [if_pos (by simpa using c), if_pos c]
      exact Or.inr ⟨0, by simp, by simp, rfl⟩
    · rw [if_neg (by simpa using c), if_neg c, show (i : Int) + 1 = ((i + 1 : Nat) : Int) by omega]
      rcases idxM_fnd q r (i + 1) with ⟨h1, h2⟩ | ⟨j, hj, h1, h2⟩
      · exact Or.inl ⟨h1, h2⟩
      · exact Or.inr ⟨j + 1, by simp; omega, by rw [h1]; congr 1; omega, by rw [h2]; rfl⟩
theorem idxA_fnd (q : ByteArray) : ∀ (l : List Act11) (i : Nat), (idxA (fun t => t.f0.toList == q.toList) l (i : Int) = -1 ∧ fndA q l = ((⟨#[]⟩ : ByteArray), 0, false)) ∨ ∃ j : Nat, ∃ h : j < l.length, idxA (fun t => t.f0.toList == q.toList) l (i : Int) = ((i + j : Nat) : Int) ∧ fndA q l = (l[j].f0, l[j].f1, true)
  | [], i => Or.inl ⟨rfl, rfl⟩
  | x :: r, i => by
    unfold idxA fndA
    by_cases c : x.f0.toList = q.toList
    · rw [if_pos (by simpa using c), if_pos c]
      exact Or.inr ⟨0, by simp, by simp, rfl⟩
    · rw [if_neg (by simpa using c), if_neg c, show (i : Int) + 1 = ((i + 1 : Nat) : Int) by omega]
      rcases idxA_fnd q r (i + 1) with ⟨h1, h2⟩ | ⟨j, hj, h1, h2⟩
      · exact Or.inl ⟨h1, h2⟩
      · exact Or.inr ⟨j + 1, by simp; omega, by rw [h1]; congr 1; omega, by rw [h2]; rfl⟩
theorem accM_eq (q : ByteArray) (l : List Act11) : accM q l = fndA q l := by
  unfold accM
  rcases idxA_fnd q l 0 with ⟨h1, h2⟩ | ⟨j, hj, h1, h2⟩
  · rw [show ((0 : Nat) : Int) = 0 from rfl] at h1
    rw [h1, h2, if_pos (by decide)]
  · rw [Nat.zero_add, show ((0 : Nat) : Int) = 0 from rfl] at h1
    rw [h1, h2, if_neg (by omega), rdA l j hj]
def tupM (q : Mem × Bool) : ByteArray × Int × List Act11 × Bool := (q.1.f0, q.1.f1, q.1.f2, q.2)
theorem mfind_f (l : List Mem) (q : ByteArray) (hs : ∀ m ∈ l, m.f2.length < 137438953472) : member_Find.f l q = some (tupM (fndM q l)) := by
  unfold member_Find.f member_at.f
  simp only [Option.bind_some]
  rcases idxM_fnd q l 0 with ⟨h1, h2⟩ | ⟨j, hj, h1, h2⟩
  · rw [show ((0 : Nat) : Int) = 0 from rfl] at h1
    rw [h1, h2, if_pos (by decide)]; rfl
  · rw [Nat.zero_add, show ((0 : Nat) : Int) = 0 from rfl] at h1
    have e : api_Account_85.f l[j].f2 = some l[j].f2 := by
      unfold api_Account_85.f
      exact if_pos (hs _ (List.getElem_mem hj))
    rw [h1, h2, if_neg (by omega), if_pos (by omega), if_pos (by omega), rdM l j hj, e]
    rfl
theorem macc_f (l : List Mem) (p q : ByteArray) (hs : ∀ m ∈ l, m.f2.length < 137438953472) : member_Account.f l p q = some (fndA q (fndM p l).1.f2) := by
  unfold member_Account.f
  rw [mfind_f l p hs]
  simp only [Option.bind_some, accM_eq]
  rfl
def mayT (l : List Mem) (p q : ByteArray) : Int := if (fndM p l).2 = true then (if (fndA q (fndM p l).1.f2).2.2 = true then (if (fndM p l).1.f1 = 1 then 0 else 13) else 21) else 20
theorem may_f (l : List Mem) (p q : ByteArray) (hs : ∀ m ∈ l, m.f2.length < 137438953472) : Ev (fun k => member_May.f k l p q 1) (mayT l p q) := by
  unfold member_May.f mayT
  simp only [mfind_f l p hs, macc_f l p q hs, Option.bind_some, tupM, if_true]
  by_cases c1 : (fndM p l).2 = true
  case neg => simp only [if_neg c1]; exact Ev.now _
  by_cases c2 : (fndA q (fndM p l).1.f2).2.2 = true
  case neg => simp only [if_pos c1, if_neg c2]; exact Ev.now _
  by_cases c3 : (fndM p l).1.f1 = 1
  · simp only [if_pos c1, if_pos c2, if_pos c3]; exact Ev.now _
  by_cases c4 : (fndM p l).1.f1 = 2
  · simp only [if_pos c1, if_pos c2, if_neg c3, if_pos c4]; exact Ev.now _
  by_cases c5 : (fndM p l).1.f1 = 3
  · simp only [if_pos c1, if_pos c2, if_neg c3, if_neg c4, if_pos c5]
    refine Ev_bind (a := false) (Ev.of (k := 10) (slices_Contains_int_int.mono _ _) (by decide +kernel)) ?_
    simp only [Bool.false_eq_true, if_false]
    exact Ev.now _
  · simp only [if_pos c1, if_pos c2, if_neg c3, if_neg c4, if_neg c5]; exact Ev.now _
def accV (l : List Act11) : List Act11 → Nat → Int
  | [], _ => 0
  | a :: r, i => if nameE (nameB a.f0) i (rd_T110 l ((i : Int) - 1)).f0 a.f0 = 0 then (if 1 ≤ a.f1 ∧ a.f1 ≤ 3 then accV l r (i + 1) else 21) else nameE (nameB a.f0) i (rd_T110 l ((i : Int) - 1)).f0 a.f0
def memV (l : List Mem) : List Mem → Nat → Int
  | [], _ => 0
  | m :: r, i => if nameE (nameB m.f0) i (rd_T107 l ((i : Int) - 1)).f0 m.f0 = 0 then (if 1 ≤ m.f1 ∧ m.f1 ≤ 4 then (if m.f2.length ≤ 16 then (if accV m.f2 m.f2 0 = 0 then memV l r (i + 1) else accV m.f2 m.f2 0) else 8) else 13) else nameE (nameB m.f0) i (rd_T107 l ((i : Int) - 1)).f0 m.f0
def memC (l : List Mem) : Int := if 32 < l.length then 8 else memV l l 0
theorem accE_f (l : List Act11) : ∀ (r : List Act11) (i : Nat), Ev (fun k => accE k l r i) (accV l r i)
  | [], i => Ev.now _
  | a :: r, i => by
    unfold accE accV
    refine Ev_bind (name_f a.f0) ?_
    split
    · split
      · exact accE_f l r (i + 1)
      · exact Ev.now _
    · exact Ev.now _
theorem memE_f (l : List Mem) : ∀ (r : List Mem) (i : Nat), Ev (fun k => memE k l r i) (memV l r i)
  | [], i => Ev.now _
  | a :: r, i => by
    unfold memE memV
    refine Ev_bind (name_f a.f0) ?_
    split
    · split
      · split
        · refine Ev_bind (accE_f a.f2 a.f2 0) ?_
          by_cases c : accV a.f2 a.f2 0 = 0
          · simp only [if_pos c]; exact memE_f l r (i + 1)
          · simp only [if_neg c]; exact Ev.now _
        · exact Ev.now _
      · exact Ev.now _
    · exact Ev.now _
theorem mcheck_f (l : List Mem) : Ev (fun k => member_Check.f k l) (memC l) := by
  unfold member_Check.f memC
  split
  · exact Ev.now _
  · exact memE_f l l 0
abbrev Prod9 := S50
theorem Ev_or {α : Type} {g : Nat → Bool → Option α} {a b : Prop} [Decidable a] [Decidable b] {r : α} (ht : (a ∨ b) → Ev (fun k => g k true) r) (hf : ¬ (a ∨ b) → Ev (fun k => g k false) r) : Ev (fun k => if a then g k true else g k (decide b)) r := by
  by_cases ca : a
  · simp only [if_pos ca]; exact ht (Or.inl ca)
  · simp only [if_neg ca]
    by_cases cb : b
    · rw [decide_eq_true cb]; exact ht (Or.inr cb)
    · rw [decide_eq_false cb]; exact hf (fun h => h.elim ca cb)
theorem Ev_if {α : Type} {c : Prop} [Decidable c] {f g : Nat → Option α} {r : α} (h1 : c → Ev f r) (h2 : ¬ c → Ev g r) : Ev (fun k => if c then f k else g k) r := by
  by_cases h : c
  · simp only [if_pos h]; exact h1 h
  · simp only [if_neg h]; exact h2 h
def prodT (p : Prod9) : Int := if -16777216 ≤ p.f4 ∧ p.f4 ≤ 16777216 ∧ -16777216 ≤ p.f5 ∧ p.f5 ≤ 16777216 ∧ p.f4 ≤ p.f5 ∧ Int.tmod p.f4 p.f3 = 0 ∧ Int.tmod p.f5 p.f3 = 0 then 0 else 17
def prodE (p : Prod9) : Int := if nameB p.f0 = true then (if p.f1 < 0 ∨ p.f1 ≥ 8 then 25 else if p.f2 < 1 ∨ p.f2 > 4096 then 2 else if p.f3 < 1 ∨ p.f3 > 16777216 then 16 else prodT p) else 10
theorem pwithin_f (n : Int) : product_within.f n 16777216 = some (decide (-16777216 ≤ n) && decide (n ≤ 16777216)) := by
  unfold product_within.f
  have e : wrap64 (-16777216) = -16777216 := w_id (by omega) (by omega)
  rw [e]
  by_cases h : n ≥ -16777216
  · rw [if_pos h, decide_eq_true (show -16777216 ≤ n from h), Bool.true_and]
  · rw [if_neg h, decide_eq_false (show ¬ -16777216 ≤ n from h), Bool.false_and]
theorem and_iff (a b : Prop) [Decidable a] [Decidable b] : (decide a && decide b) = true ↔ a ∧ b := by simp
theorem prodT_of {p : Prod9} (h : ¬ (-16777216 ≤ p.f4 ∧ p.f4 ≤ 16777216 ∧ -16777216 ≤ p.f5 ∧ p.f5 ≤ 16777216 ∧ p.f4 ≤ p.f5 ∧ Int.tmod p.f4 p.f3 = 0 ∧ Int.tmod p.f5 p.f3 = 0)) : prodT p = 17 := if_neg h
theorem prod_f (p : Prod9) : Ev (fun k => product_Check.f k p.f0 p.f1 p.f2 p.f3 p.f4 p.f5 p.f6) (prodE p) := by
  have h3 : ¬ (p.f3 < 1 ∨ p.f3 > 16777216) → Ev (fun k => product_Check.j3 k false p.f0 p.f1 p.f2 p.f3 p.f4 p.f5 p.f6) (prodT p) := by
    intro c
    refine Ev_succ ?_
    simp only [product_Check.j3, Bool.false_eq_true, if_false, pwithin_f, Option.bind_some, and_iff]
    refine Ev_if (fun c1 => Ev_if (fun c2 => Ev_if (fun c3 => ?_) fun c3 => Ev_if (fun c4 => by omega) fun c4 => Ev_if (fun c5 => Ev_if (fun c6 => ?_) fun c6 => ?_) fun c5 => ?_) fun c2 => ?_) fun c1 => ?_
    · rw [prodT_of (by omega)]; exact Ev.now _
    · have : prodT p = 0 := if_pos ⟨c1.1, c1.2, c2.1, c2.2, by omega, c5, c6⟩
      rw [this]; exact Ev.now _
    · rw [prodT_of (fun h => c6 h.2.2.2.2.2.2)]; exact Ev.now _
    · rw [prodT_of (fun h => c5 h.2.2.2.2.2.1)]; exact Ev.now _
    · rw [prodT_of (by omega)]; exact Ev.now _
    · rw [prodT_of (by omega)]; exact Ev.now _
  have h0 : nameB p.f0 = true → Ev (fun k => product_Check.j0 k false p.f0 p.f1 p.f2 p.f3 p.f4 p.f5 p.f6) (prodE p) := by
    intro hn
    refine Ev_succ ?_
    unfold prodE
    rw [if_pos hn]
    simp only [product_Check.j0, Bool.false_eq_true, if_false]
    refine Ev_or (g := fun k b => product_Check.j1 k b p.f0 p.f1 p.f2 p.f3 p.f4 p.f5 p.f6) (fun c => ?_) (fun c => ?_)
    · rw [if_pos c]; refine Ev_succ ?_; simp only [product_Check.j1, if_true]; exact Ev.now _
    rw [if_neg c]
    refine Ev_succ ?_
    simp only [product_Check.j1, Bool.false_eq_true, if_false]
    refine Ev_or (g := fun k b => product_Check.j2 k b p.f0 p.f1 p.f2 p.f3 p.f4 p.f5 p.f6) (fun c => ?_) (fun c => ?_)
    · rw [if_pos c]; refine Ev_succ ?_; simp only [product_Check.j2, if_true]; exact Ev.now _
    rw [if_neg c]
    refine Ev_succ ?_
    simp only [product_Check.j2, Bool.false_eq_true, if_false]
    refine Ev_or (g := fun k b => product_Check.j3 k b p.f0 p.f1 p.f2 p.f3 p.f4 p.f5 p.f6) (fun c => ?_) (fun c => ?_)
    · rw [if_pos c]; refine Ev_succ ?_; simp only [product_Check.j3, if_true]; exact Ev.now _
    rw [if_neg c]
    exact h3 c
  have h1 : nameB p.f0 = false → Ev (fun k => product_Check.j0 k true p.f0 p.f1 p.f2 p.f3 p.f4 p.f5 p.f6) (prodE p) := by
    intro hn
    refine Ev_succ ?_
    unfold prodE
    rw [if_neg (by rw [hn]; decide)]
    simp only [product_Check.j0, if_true]
    exact Ev.now _
  unfold product_Check.f
  refine Ev_if (fun c => ?_) (fun c => ?_)
  · refine h1 ?_
    simp only [Bool.and_eq_true, beq_iff_eq] at c
    have e : p.f0.size = 0 := by
      have : p.f0.data.toList = [] := by rw [← ByteArray.toList_eq]; exact c.1
      have h2 : p.f0.data.toList.length = 0 := by rw [this]; rfl
      simpa using h2
    unfold nameB
    rw [e]; rfl
  · refine Ev_bind (name_f p.f0) ?_
    cases hn : nameB p.f0 with
    | true => exact h0 hn
    | false => exact h1 hn
def ProdOk (p : Prod9) : Prop := 1 ≤ p.f3 ∧ p.f3 ≤ 16777216 ∧ -16777216 ≤ p.f4 ∧ p.f4 ≤ 16777216 ∧ -16777216 ≤ p.f5 ∧ p.f5 ≤ 16777216 ∧ p.f4 ≤ p.f5 ∧ Int.tmod p.f4 p.f3 = 0 ∧ Int.tmod p.f5 p.f3 = 0
theorem prodE_zero {p : Prod9} (h : prodE p = 0) : ProdOk p := by
  unfold prodE at h
  by_cases c0 : nameB p.f0 = true
  case neg => rw [if_neg c0] at h; omega
  rw [if_pos c0] at h
  by_cases c1 : p.f1 < 0 ∨ p.f1 ≥ 8
  · rw [if_pos c1] at h; omega
  rw [if_neg c1] at h
  by_cases c2 : p.f2 < 1 ∨ p.f2 > 4096
  · rw [if_pos c2] at h; omega
  rw [if_neg c2] at h
  by_cases c3 : p.f3 < 1 ∨ p.f3 > 16777216
  · rw [if_pos c3] at h; omega
  rw [if_neg c3] at h
  unfold prodT at h
  split at h
  · rename_i c
    unfold ProdOk
    exact ⟨by omega, by omega, c.1, c.2.1, c.2.2.1, c.2.2.2.1, c.2.2.2.2.1, c.2.2.2.2.2.1, c.2.2.2.2.2.2⟩
  · omega
def prodPrice (p : Prod9) (n : Int) : Int := if prodE p = 0 then (if n < p.f4 ∨ n > p.f5 then 17 else if Int.tmod n p.f3 = 0 then 0 else 16) else prodE p
theorem prodPrice_f (p : Prod9) (n : Int) : Ev (fun k => product_Price.f k p.f0 p.f1 p.f2 p.f3 p.f4 p.f5 p.f6 n) (prodPrice p n) := by
  unfold product_Price.f prodPrice
  refine Ev_bind (prod_f p) ?_
  refine Ev_if (fun h => ?_) (fun h => by rw [if_neg h]; exact Ev.now _)
  rw [if_pos h]
  have hok := prodE_zero h
  unfold ProdOk at hok
  refine Ev_or (g := fun k b => product_Price.j0 k n b p.f0 p.f1 p.f2 p.f3 p.f4 p.f5 p.f6) (fun c => ?_) (fun c => ?_)
  · rw [if_pos c]; refine Ev_succ ?_; simp only [product_Price.j0, if_true]; exact Ev.now _
  rw [if_neg c]
  refine Ev_succ ?_
  simp only [product_Price.j0, Bool.false_eq_true, if_false, if_neg (show ¬ p.f3 = 0 by omega)]
  refine Ev_if (fun h => ?_) (fun h => ?_)
  · rw [if_pos h]; exact Ev.now _
  · rw [if_neg h]; exact Ev.now _
def fstT (q : Prod9 × Bool) : ByteArray × Int × Int × Int × Int × Int × Bool × Bool := (q.1.f0, q.1.f1, q.1.f2, q.1.f3, q.1.f4, q.1.f5, q.1.f6, q.2)
def allE (l : List Prod9) : Nat → Nat → Int
  | 0, _ => 0
  | d + 1, i => if prodE (l.getD i z50) = 0 then (if i > 0 then (if Op.bytesLess (l.getD (i - 1) z50).f0.toList (l.getD i z50).f0.toList = true then allE l d (i + 1) else 12) else allE l d (i + 1)) else prodE (l.getD i z50)
theorem rdG (l : List Prod9) (i : Nat) : rd_T50 l (i : Int) = l.getD i z50 := by unfold rd_T50; rw [Int.toNat_natCast]
theorem all_loop (l : List Prod9) (hl : l.length ≤ 4611686018427387904) : ∀ (d i : Nat), i + d = l.length → Ev (fun k => product_CheckAll.l0 k l l l.length i) (allE l d i)
  | 0, i, hd => by
    refine Ev_succ ?_
    simp only [product_CheckAll.l0, if_neg (show ¬ ((i : Int) < (l.length : Int)) by omega)]
    exact Ev.now _
  | d + 1, i, hd => by
    have hi : i < l.length := by omega
    have ih := all_loop l hl d (i + 1) (by omega)
    refine Ev_succ ?_
    simp only [product_CheckAll.l0, if_pos (show (i : Int) < (l.length : Int) by omega), if_pos (show 0 ≤ (i : Int) by omega), w_succ hi (by omega), rdG]
    refine Ev_bind (prod_f (l.getD i z50)) ?_
    unfold allE
    by_cases c : prodE (l.getD i z50) = 0
    · simp only [if_pos c]
      by_cases c2 : i > 0
      · simp only [if_pos c2, if_pos (show (i : Int) > 0 by omega), w_pred c2 (by omega), if_pos (show 0 ≤ ((i - 1 : Nat) : Int) by omega), if_pos (show ((i - 1 : Nat) : Int) < (l.length : Int) by omega), rdG]
        by_cases c3 : Op.bytesLess (l.getD (i - 1) z50).f0.toList (l.getD i z50).f0.toList = true
        · simp only [if_pos c3]; exact ih
        · simp only [if_neg c3]; exact Ev.now _
      · simp only [if_neg c2, if_neg (show ¬ (i : Int) > 0 by omega)]; exact ih
    · simp only [if_neg c]; exact Ev.now _
def allC (l : List Prod9) : Int := if (l.length : Int) > 32 then 8 else allE l l.length 0
theorem allC_f (l : List Prod9) (hl : l.length ≤ 4611686018427387904) : Ev (fun k => product_CheckAll.f k l) (allC l) := by
  unfold product_CheckAll.f allC
  by_cases c : (l.length : Int) > 32
  · simp only [if_pos c]; exact Ev.now _
  · simp only [if_neg c]; exact all_loop l hl l.length 0 (by omega)
end Go.Proofs.YtliooghmpkdmoaaGreatDoor.P
end
section
namespace Go.Proofs.YtliooghmpkdmoaaGreatDoor.P
open Go.RowKit Go.Proofs.YtliooghmpkdmoaaGreatDoorW.PrintWords Go.Proofs.YtliooghmpkdmoaaGreatDoorW.PrintMore Go.Proofs.YtliooghmpkdmoaaGreatDoor.X
abbrev Ser := S26
end Go.Proofs.YtliooghmpkdmoaaGreatDoor.P
end
section
namespace Go.Proofs.YtliooghmpkdmoaaGreatDoor.P
set_option linter.unusedVariables false
set_option linter.unusedSimpArgs false
open Go.RowKit Go.Proofs.YtliooghmpkdmoaaGreatDoorW.PrintWords Go.Proofs.YtliooghmpkdmoaaGreatDoorW.PrintMore Go.Proofs.YtliooghmpkdmoaaGreatDoor.X
def tailC (s : S26) (p : Prod9) : Int := if s.f2 < 0 ∨ s.f2 > 73048 then 15 else if s.f1 = 1 then (if s.f3 = 0 then 0 else 17) else (if prodPrice p s.f3 = 0 then 0 else 17)
def chkE (l : List Prod9) (s : S26) : Int := if allC l = 0 then (if (fstP s.f0 l).2 = true ∧ 1 ≤ s.f1 ∧ s.f1 ≤ 3 then tailC s (fstP s.f0 l).1 else 19) else allC l
theorem chk_j0 (s : S26) (p : Prod9) (h1 : 1 ≤ s.f1) : Ev (fun k => series_Check.j0 k false s.f0 s.f1 s.f2 s.f3 p.f0 p.f1 p.f2 p.f3 p.f4 p.f5 p.f6) (tailC s p) := by
  refine Ev_succ ?_
  simp only [series_Check.j0, Bool.false_eq_true, if_false]
  unfold tailC
  have bad : Ev (fun k => series_Check.j1 k true s.f0 s.f1 s.f2 s.f3 p.f0 p.f1 p.f2 p.f3 p.f4 p.f5 p.f6) (15 : Int) := Ev_succ (by simp only [series_Check.j1, if_true]; exact Ev.now _)
  by_cases c1 : s.f2 < 0
  · rw [if_pos (Or.inl c1)]; simp only [if_pos c1]; exact bad
  by_cases c2 : s.f2 > 73048
  · rw [if_pos (Or.inr c2)]; simp only [if_neg c1, decide_eq_true c2]; exact bad
  rw [if_neg (by omega)]
  simp only [if_neg c1, decide_eq_false c2]
  refine Ev_succ ?_
  simp only [series_Check.j1, Bool.false_eq_true, if_false]
  by_cases c3 : s.f1 = 1
  · simp only [if_pos c3]
    refine Ev_succ ?_
    by_cases c4 : s.f3 = 0
    · have e : (s.f3 != 0) = false := by rw [bne_eq_false_iff_eq]; exact c4
      simp only [series_Check.j2, e, Bool.false_eq_true, if_false, if_pos c3, if_pos c4]
      exact Ev.now _
    · have e : (s.f3 != 0) = true := by rw [bne_iff_ne]; exact c4
      simp only [series_Check.j2, e, if_true, if_neg c4]
      exact Ev.now _
  · simp only [if_neg c3]
    refine Ev_succ ?_
    simp only [series_Check.j2, Bool.false_eq_true, if_false, if_neg c3]
    refine Ev_bind (prodPrice_f p s.f3) ?_
    by_cases c4 : prodPrice p s.f3 = 0
    · simp only [if_pos c4]; exact Ev.now _
    · simp only [if_neg c4]; exact Ev.now _
theorem chk_f (l : List Prod9) (s : S26) (hl : l.length ≤ 4611686018427387904) : Ev (fun k => series_Check.f k l s.f0 s.f1 s.f2 s.f3) (chkE l s) := by
  unfold series_Check.f chkE
  refine Ev_bind (allC_f l hl) ?_
  by_cases c0 : allC l = 0
  case neg => simp only [if_neg c0]; exact Ev.now _
  simp only [if_pos c0]
  have e1 : product_Find.f l s.f0 = some (fstT (fstP s.f0 l)) := rfl
  rw [e1]
  simp only [Option.bind_some]
  have bad : ∀ p : Prod9, Ev (fun k => series_Check.j0 k true s.f0 s.f1 s.f2 s.f3 p.f0 p.f1 p.f2 p.f3 p.f4 p.f5 p.f6) (19 : Int) := fun p => Ev_succ (by simp only [series_Check.j0, if_true]; exact Ev.now _)
  by_cases c1 : (fstP s.f0 l).2 = true
  case neg => rw [if_neg (fun h => c1 h.1)]; simp only [if_neg (show ¬ (fstT (fstP s.f0 l)).2.2.2.2.2.2.2 = true from c1)]; exact bad (fstP s.f0 l).1
  by_cases c2 : s.f1 < 1
  · rw [if_neg (by omega)]; simp only [if_pos (show (fstT (fstP s.f0 l)).2.2.2.2.2.2.2 = true from c1), if_pos c2]; exact bad (fstP s.f0 l).1
  by_cases c3 : s.f1 > 3
  · rw [if_neg (by omega)]; simp only [if_pos (show (fstT (fstP s.f0 l)).2.2.2.2.2.2.2 = true from c1), if_neg c2, decide_eq_true c3]; exact bad (fstP s.f0 l).1
  rw [if_pos ⟨c1, by omega, by omega⟩]
  simp only [if_pos (show (fstT (fstP s.f0 l)).2.2.2.2.2.2.2 = true from c1), if_neg c2, decide_eq_false c3]
  exact chk_j0 s (fstP s.f0 l).1 (by omega)
end Go.Proofs.YtliooghmpkdmoaaGreatDoor.P
end
section
namespace Go.Proofs.YtliooghmpkdmoaaGreatDoor.P
set_option linter.unusedVariables false
open Go.RowKit Go.Proofs.YtliooghmpkdmoaaGreatDoorW.PrintWords Go.Proofs.YtliooghmpkdmoaaGreatDoorW.PrintMore Go.Proofs.YtliooghmpkdmoaaGreatDoor.X
abbrev Trd := S30
def tupE (t : Trd) (e : Int) : Int × Int × Int × ByteArray × Int × Int × Int × Int × Int × ByteArray × ByteArray × ByteArray × ByteArray × Int := (t.f0, t.f1, t.f2, t.f3.f0, t.f3.f1, t.f3.f2, t.f3.f3, t.f4, t.f5, t.f6.f0, t.f6.f1, t.f7.f0, t.f7.f1, e)
end Go.Proofs.YtliooghmpkdmoaaGreatDoor.P
end
section
namespace Go.Proofs.YtliooghmpkdmoaaGreatDoor.P
set_option linter.unusedVariables false
set_option linter.unusedSimpArgs false
open Go.RowKit Go.Proofs.YtliooghmpkdmoaaGreatDoorW.PrintWords Go.Proofs.YtliooghmpkdmoaaGreatDoorW.PrintMore Go.Proofs.YtliooghmpkdmoaaGreatDoor.X
def chkM (t : Trd) (ms : List Mem) : Int := if memC ms = 0 then (if mayT ms t.f6.f0 t.f6.f1 = 0 then (if mayT ms t.f7.f0 t.f7.f1 = 0 then (if t.f6.f0.toList = t.f7.f0.toList ∧ t.f6.f1.toList = t.f7.f1.toList then 21 else 0) else mayT ms t.f7.f0 t.f7.f1) else mayT ms t.f6.f0 t.f6.f1) else memC ms
def chkP (t : Trd) (ps : List Prod9) (ms : List Mem) : Int := if prodPrice (fstP t.f3.f0 ps).1 t.f5 = 0 then chkM t ms else prodPrice (fstP t.f3.f0 ps).1 t.f5
def chkQ (t : Trd) (ps : List Prod9) (ms : List Mem) : Int := if t.f4 < 1 ∨ t.f4 > 1048576 then 18 else chkP t ps ms
def chkI (t : Trd) (ps : List Prod9) (ms : List Mem) : Int := if (t.f0 < 1 ∨ t.f0 > 1152921504606846976) ∨ (t.f2 < 0 ∨ t.f2 > 86399) then 2 else chkQ t ps ms
def chkT (t : Trd) (ps : List Prod9) (ms : List Mem) : Int := if chkE ps t.f3 = 0 then (if (t.f1 < 0 ∨ t.f1 > 73048) ∨ t.f3.f2 < t.f1 then 15 else chkI t ps ms) else chkE ps t.f3
theorem sameAcc (t : Trd) : (t.f6.f0.toList == t.f7.f0.toList && (t.f6.f1.toList == t.f7.f1.toList)) = true ↔ t.f6.f0.toList = t.f7.f0.toList ∧ t.f6.f1.toList = t.f7.f1.toList := by simp
theorem chk_l0 (t : Trd) (ms : List Mem) (hs : ∀ m ∈ ms, m.f2.length < 137438953472) (i : Nat) (hi : i ≤ 2) : Ev (fun k => trade_Check.l0 k ms ([⟨t.f6.f0, t.f6.f1⟩, ⟨t.f7.f0, t.f7.f1⟩] : List S28) 2 (i : Int) t.f0 t.f1 t.f2 t.f3.f0 t.f3.f1 t.f3.f2 t.f3.f3 t.f4 t.f5 t.f6.f0 t.f6.f1 t.f7.f0 t.f7.f1)
    (if i = 0 then (if mayT ms t.f6.f0 t.f6.f1 = 0 then (if mayT ms t.f7.f0 t.f7.f1 = 0 then (if t.f6.f0.toList = t.f7.f0.toList ∧ t.f6.f1.toList = t.f7.f1.toList then 21 else 0) else mayT ms t.f7.f0 t.f7.f1) else mayT ms t.f6.f0 t.f6.f1) else if i = 1 then (if mayT ms t.f7.f0 t.f7.f1 = 0 then (if t.f6.f0.toList = t.f7.f0.toList ∧ t.f6.f1.toList = t.f7.f1.toList then 21 else 0) else mayT ms t.f7.f0 t.f7.f1) else (if t.f6.f0.toList = t.f7.f0.toList ∧ t.f6.f1.toList = t.f7.f1.toList then 21 else 0)) := by
  have s2 : Ev (fun k => trade_Check.l0 k ms ([⟨t.f6.f0, t.f6.f1⟩, ⟨t.f7.f0, t.f7.f1⟩] : List S28) 2 2 t.f0 t.f1 t.f2 t.f3.f0 t.f3.f1 t.f3.f2 t.f3.f3 t.f4 t.f5 t.f6.f0 t.f6.f1 t.f7.f0 t.f7.f1) (if t.f6.f0.toList = t.f7.f0.toList ∧ t.f6.f1.toList = t.f7.f1.toList then 21 else 0) := by
    refine Ev_succ ?_
    simp only [trade_Check.l0, if_neg (show ¬ (2 : Int) < 2 by decide), sameAcc]
    split
    · exact Ev.now _
    · exact Ev.now _
  have s1 : Ev (fun k => trade_Check.l0 k ms ([⟨t.f6.f0, t.f6.f1⟩, ⟨t.f7.f0, t.f7.f1⟩] : List S28) 2 1 t.f0 t.f1 t.f2 t.f3.f0 t.f3.f1 t.f3.f2 t.f3.f3 t.f4 t.f5 t.f6.f0 t.f6.f1 t.f7.f0 t.f7.f1) (if mayT ms t.f7.f0 t.f7.f1 = 0 then (if t.f6.f0.toList = t.f7.f0.toList ∧ t.f6.f1.toList = t.f7.f1.toList then 21 else 0) else mayT ms t.f7.f0 t.f7.f1) := by
    refine Ev_succ ?_
    have e1 : rd_T28 ([⟨t.f6.f0, t.f6.f1⟩, ⟨t.f7.f0, t.f7.f1⟩] : List S28) 1 = ⟨t.f7.f0, t.f7.f1⟩ := rfl
    have e2 : wrap64 ((1 : Int) + 1) = 2 := w_id (by decide) (by decide)
    simp only [trade_Check.l0, if_pos (show (1 : Int) < 2 by decide), if_pos (show 0 ≤ (1 : Int) by decide), e1, e2, List.length_cons, List.length_nil, if_pos (show (1 : Int) < ((0 + 1 + 1 : Nat) : Int) by decide)]
    refine Ev_bind (may_f ms t.f7.f0 t.f7.f1 hs) ?_
    by_cases c : mayT ms t.f7.f0 t.f7.f1 = 0
    · simp only [if_pos c]; exact s2
    · simp only [if_neg c]; exact Ev.now _
  have s0 : Ev (fun k => trade_Check.l0 k ms ([⟨t.f6.f0, t.f6.f1⟩, ⟨t.f7.f0, t.f7.f1⟩] : List S28) 2 0 t.f0 t.f1 t.f2 t.f3.f0 t.f3.f1 t.f3.f2 t.f3.f3 t.f4 t.f5 t.f6.f0 t.f6.f1 t.f7.f0 t.f7.f1) (if mayT ms t.f6.f0 t.f6.f1 = 0 then (if mayT ms t.f7.f0 t.f7.f1 = 0 then (if t.f6.f0.toList = t.f7.f0.toList ∧ t.f6.f1.toList = t.f7.f1.toList then 21 else 0) else mayT ms t.f7.f0 t.f7.f1) else mayT ms t.f6.f0 t.f6.f1) := by
    refine Ev_succ ?_
    have e1 : rd_T28 ([⟨t.f6.f0, t.f6.f1⟩, ⟨t.f7.f0, t.f7.f1⟩] : List S28) 0 = ⟨t.f6.f0, t.f6.f1⟩ := rfl
    have e2 : wrap64 ((0 : Int) + 1) = 1 := w_id (by decide) (by decide)
    simp only [trade_Check.l0, if_pos (show (0 : Int) < 2 by decide), if_pos (show 0 ≤ (0 : Int) by decide), e1, e2, List.length_cons, List.length_nil, if_pos (show (0 : Int) < ((0 + 1 + 1 : Nat) : Int) by decide)]
    refine Ev_bind (may_f ms t.f6.f0 t.f6.f1 hs) ?_
    by_cases c : mayT ms t.f6.f0 t.f6.f1 = 0
    · simp only [if_pos c]; exact s1
    · simp only [if_neg c]; exact Ev.now _
  match i, hi with
  | 0, _ => exact s0
  | 1, _ => exact s1
  | 2, _ => exact s2
theorem nameE_ok {b : Bool} {i : Nat} {p x : ByteArray} (h : nameE b i p x = 0) : b = true := by
  unfold nameE at h
  cases b with
  | true => rfl
  | false => rw [if_neg (by decide)] at h; exact absurd h (by decide)
theorem accV_zero (l : List Act11) : ∀ (r : List Act11) (i : Nat), accV l r i = 0 → ∀ a ∈ r, nameB a.f0 = true
  | [], _, _, a, h => by cases h
  | x :: r, i, h, a, ha => by
    unfold accV at h
    by_cases c1 : nameE (nameB x.f0) i (rd_T110 l ((i : Int) - 1)).f0 x.f0 = 0
    case neg => rw [if_neg c1] at h; exact absurd h c1
    rw [if_pos c1] at h
    by_cases c2 : 1 ≤ x.f1 ∧ x.f1 ≤ 3
    case neg => rw [if_neg c2] at h; exact absurd h (by decide)
    rw [if_pos c2] at h
    rcases List.mem_cons.1 ha with rfl | ha
    · exact nameE_ok c1
    · exact accV_zero l r (i + 1) h a ha
theorem memV_zero (l : List Mem) : ∀ (r : List Mem) (i : Nat), memV l r i = 0 → ∀ m ∈ r, nameB m.f0 = true ∧ m.f2.length ≤ 16 ∧ accV m.f2 m.f2 0 = 0
  | [], _, _, a, h => by cases h
  | x :: r, i, h, a, ha => by
    unfold memV at h
    by_cases c1 : nameE (nameB x.f0) i (rd_T107 l ((i : Int) - 1)).f0 x.f0 = 0
    case neg => rw [if_neg c1] at h; exact absurd h c1
    rw [if_pos c1] at h
    by_cases c2 : 1 ≤ x.f1 ∧ x.f1 ≤ 4
    case neg => rw [if_neg c2] at h; exact absurd h (by decide)
    rw [if_pos c2] at h
    by_cases c3 : x.f2.length ≤ 16
    case neg => rw [if_neg c3] at h; exact absurd h (by decide)
    rw [if_pos c3] at h
    by_cases c4 : accV x.f2 x.f2 0 = 0
    case neg => rw [if_neg c4] at h; exact absurd h c4
    rw [if_pos c4] at h
    rcases List.mem_cons.1 ha with rfl | ha
    · exact ⟨nameE_ok c1, c3, c4⟩
    · exact memV_zero l r (i + 1) h a ha
theorem memC_zero {l : List Mem} (h : memC l = 0) : ∀ m ∈ l, nameB m.f0 = true ∧ m.f2.length ≤ 16 ∧ accV m.f2 m.f2 0 = 0 := by
  unfold memC at h
  by_cases c : 32 < l.length
  · rw [if_pos c] at h; exact absurd h (by decide)
  · rw [if_neg c] at h; exact memV_zero l l 0 h
theorem chk_j1 (t : Trd) (ps : List Prod9) (ms : List Mem) : Ev (fun k => trade_Check.j1 k ps ms false t.f0 t.f1 t.f2 t.f3.f0 t.f3.f1 t.f3.f2 t.f3.f3 t.f4 t.f5 t.f6.f0 t.f6.f1 t.f7.f0 t.f7.f1) (chkQ t ps ms) := by
  refine Ev_succ ?_
  simp only [trade_Check.j1, Bool.false_eq_true, if_false]
  unfold chkQ
  by_cases c1 : t.f4 < 1
  · rw [if_pos (Or.inl c1)]; simp only [if_pos c1]; exact Ev.now _
  by_cases c2 : t.f4 > 1048576
  · rw [if_pos (Or.inr c2)]; simp only [if_neg c1, if_pos c2]; exact Ev.now _
  rw [if_neg (by omega)]
  have e1 : product_Find.f ps t.f3.f0 = some (fstT (fstP t.f3.f0 ps)) := rfl
  simp only [if_neg c1, if_neg c2, e1, Option.bind_some]
  unfold chkP
  refine Ev_bind (prodPrice_f (fstP t.f3.f0 ps).1 t.f5) ?_
  by_cases c3 : prodPrice (fstP t.f3.f0 ps).1 t.f5 = 0
  case neg => simp only [if_neg c3]; exact Ev.now _
  simp only [if_pos c3]
  unfold chkM
  refine Ev_bind (mcheck_f ms) ?_
  by_cases c4 : memC ms = 0
  case neg => simp only [if_neg c4]; exact Ev.now _
  simp only [if_pos c4]
  exact chk_l0 t ms (fun m h => by have := (memC_zero c4 m h).2.1; omega) 0 (by decide)
theorem chk_jt (t : Trd) (ps : List Prod9) (ms : List Mem) : Ev (fun k => trade_Check.j1 k ps ms true t.f0 t.f1 t.f2 t.f3.f0 t.f3.f1 t.f3.f2 t.f3.f3 t.f4 t.f5 t.f6.f0 t.f6.f1 t.f7.f0 t.f7.f1) (2 : Int) := by
  refine Ev_succ ?_
  simp only [trade_Check.j1, if_true]
  exact Ev.now _
theorem chk_j0T (t : Trd) (ps : List Prod9) (ms : List Mem) : Ev (fun k => trade_Check.j0 k ps ms false t.f0 t.f1 t.f2 t.f3.f0 t.f3.f1 t.f3.f2 t.f3.f3 t.f4 t.f5 t.f6.f0 t.f6.f1 t.f7.f0 t.f7.f1) (chkI t ps ms) := by
  refine Ev_succ ?_
  simp only [trade_Check.j0, Bool.false_eq_true, if_false]
  unfold chkI
  by_cases c1 : t.f0 < 1
  · rw [if_pos (by omega)]; simp only [if_pos c1]; exact chk_jt t ps ms
  by_cases c2 : t.f0 > 1152921504606846976
  · rw [if_pos (by omega)]; simp only [if_neg c1, if_pos c2]; exact chk_jt t ps ms
  by_cases c3 : t.f2 < 0
  · rw [if_pos (by omega)]; simp only [if_neg c1, if_neg c2, if_pos c3]; exact chk_jt t ps ms
  by_cases c4 : t.f2 > 86399
  · rw [if_pos (by omega)]; simp only [if_neg c1, if_neg c2, if_neg c3, decide_eq_true c4]; exact chk_jt t ps ms
  rw [if_neg (by omega)]
  simp only [if_neg c1, if_neg c2, if_neg c3, decide_eq_false c4]
  exact chk_j1 t ps ms
theorem chk_jb (t : Trd) (ps : List Prod9) (ms : List Mem) : Ev (fun k => trade_Check.j0 k ps ms true t.f0 t.f1 t.f2 t.f3.f0 t.f3.f1 t.f3.f2 t.f3.f3 t.f4 t.f5 t.f6.f0 t.f6.f1 t.f7.f0 t.f7.f1) (15 : Int) := by
  refine Ev_succ ?_
  simp only [trade_Check.j0, if_true]
  exact Ev.now _
theorem tcheck_f (t : Trd) (ps : List Prod9) (ms : List Mem) (hl : ps.length ≤ 4611686018427387904) : Ev (fun k => trade_Check.f k t.f0 t.f1 t.f2 t.f3.f0 t.f3.f1 t.f3.f2 t.f3.f3 t.f4 t.f5 t.f6.f0 t.f6.f1 t.f7.f0 t.f7.f1 ps ms) (chkT t ps ms) := by
  unfold trade_Check.f chkT
  refine Ev_bind (chk_f ps t.f3 hl) ?_
  by_cases c0 : chkE ps t.f3 = 0
  case neg => simp only [if_neg c0]; exact Ev.now _
  simp only [if_pos c0, series_Live.f, Option.bind_some]
  by_cases c1 : t.f1 < 0
  · rw [if_pos (by omega)]; simp only [if_pos c1]; exact chk_jb t ps ms
  by_cases c2 : t.f1 > 73048
  · rw [if_pos (by omega)]; simp only [if_neg c1, if_pos c2]; exact chk_jb t ps ms
  simp only [if_neg c1, if_neg c2]
  by_cases c3 : t.f3.f2 ≥ t.f1
  · rw [if_neg (by omega)]; simp only [decide_eq_true c3, Bool.not_true]; exact chk_j0T t ps ms
  · rw [if_pos (by omega)]; simp only [decide_eq_false c3, Bool.not_false]; exact chk_jb t ps ms
theorem mayT_zero {l : List Mem} {p q : ByteArray} (h : mayT l p q = 0) : (fndM p l).2 = true ∧ (fndA q (fndM p l).1.f2).2.2 = true := by
  unfold mayT at h
  by_cases c1 : (fndM p l).2 = true
  case neg => rw [if_neg c1] at h; exact absurd h (by decide)
  by_cases c2 : (fndA q (fndM p l).1.f2).2.2 = true
  · exact ⟨c1, c2⟩
  · rw [if_pos c1, if_neg c2] at h; exact absurd h (by decide)
theorem chkT_zero {t : Trd} {ps : List Prod9} {ms : List Mem} (h : chkT t ps ms = 0) : chkE ps t.f3 = 0 ∧ (0 ≤ t.f1 ∧ t.f1 ≤ 73048) ∧ (1 ≤ t.f0 ∧ t.f0 ≤ 1152921504606846976) ∧ (0 ≤ t.f2 ∧ t.f2 ≤ 86399) ∧ (1 ≤ t.f4 ∧ t.f4 ≤ 1048576) ∧ prodPrice (fstP t.f3.f0 ps).1 t.f5 = 0 ∧ memC ms = 0 ∧ mayT ms t.f6.f0 t.f6.f1 = 0 ∧ mayT ms t.f7.f0 t.f7.f1 = 0 ∧ ¬ (t.f6.f0.toList = t.f7.f0.toList ∧ t.f6.f1.toList = t.f7.f1.toList) := by
  unfold chkT at h
  by_cases c0 : chkE ps t.f3 = 0
  case neg => rw [if_neg c0] at h; exact absurd h c0
  rw [if_pos c0] at h
  by_cases c1 : (t.f1 < 0 ∨ t.f1 > 73048) ∨ t.f3.f2 < t.f1
  · rw [if_pos c1] at h; exact absurd h (by decide)
  rw [if_neg c1] at h
  unfold chkI at h
  by_cases c2 : (t.f0 < 1 ∨ t.f0 > 1152921504606846976) ∨ (t.f2 < 0 ∨ t.f2 > 86399)
  · rw [if_pos c2] at h; exact absurd h (by decide)
  rw [if_neg c2] at h
  unfold chkQ at h
  by_cases c3 : t.f4 < 1 ∨ t.f4 > 1048576
  · rw [if_pos c3] at h; exact absurd h (by decide)
  rw [if_neg c3] at h
  unfold chkP at h
  by_cases c4 : prodPrice (fstP t.f3.f0 ps).1 t.f5 = 0
  case neg => rw [if_neg c4] at h; exact absurd h c4
  rw [if_pos c4] at h
  unfold chkM at h
  by_cases c5 : memC ms = 0
  case neg => rw [if_neg c5] at h; exact absurd h c5
  rw [if_pos c5] at h
  by_cases c6 : mayT ms t.f6.f0 t.f6.f1 = 0
  case neg => rw [if_neg c6] at h; exact absurd h c6
  rw [if_pos c6] at h
  by_cases c7 : mayT ms t.f7.f0 t.f7.f1 = 0
  case neg => rw [if_neg c7] at h; exact absurd h c7
  rw [if_pos c7] at h
  by_cases c8 : t.f6.f0.toList = t.f7.f0.toList ∧ t.f6.f1.toList = t.f7.f1.toList
  · rw [if_pos c8] at h; exact absurd h (by decide)
  exact ⟨c0, by omega, by omega, by omega, by omega, c4, c5, c6, c7, c8⟩
theorem monSum_all (b : Bool) : monSum b 13 = if b = true then 366 else 365 := by cases b <;> decide
theorem startV_succ {c : Int} (h1 : 2000 ≤ c) (h2 : c ≤ 2199) : startV (c + 1) = startV c + (if leapB c = true then 366 else 365) := by
  have h := year_len (c - 2000).toNat (by omega)
  have e : (2000 : Int) + (((c - 2000).toNat : Nat) : Int) = c := by omega
  rw [e, monSum_all] at h
  omega
theorem startV_rng1 {y : Int} (h1 : 2000 ≤ y) (h2 : y ≤ 2200) : 0 ≤ startV y ∧ startV y ≤ 100000 := by unfold startV leapsV; omega
theorem startV_mono {a b : Int} (h1 : 2000 ≤ a) (h2 : a ≤ b) : startV a ≤ startV b := by unfold startV leapsV; omega
theorem by_rng (s : ByteArray) : ∀ x ∈ bytesOf s, 0 ≤ x ∧ x < 256 := by
  intro x hx
  unfold bytesOf at hx
  obtain ⟨b, hb, rfl⟩ := List.mem_map.1 hx
  have := b.toNat_lt
  omega
theorem by_len (s : ByteArray) : (bytesOf s).length = s.size := bytesOf_length s
theorem by_str (L : List Int) (h : ∀ x ∈ L, 0 ≤ x ∧ x < 256) : bytesOf (strOfNums L) = L := by
  unfold bytesOf
  rw [strOfNums_data, List.map_map]
  conv => rhs; rw [← List.map_id L]
  refine List.map_congr_left fun x hx => ?_
  have := h x hx
  simp only [Function.comp, id, UInt8.toNat_ofNat']
  omega
theorem by_data (s : ByteArray) : s.data.toList = (bytesOf s).map fun n => UInt8.ofNat n.toNat := by
  unfold bytesOf
  rw [List.map_map]
  conv => lhs; rw [← List.map_id s.data.toList]
  refine List.map_congr_left fun x hx => ?_
  simp only [Function.comp, id, Int.toNat_natCast, UInt8.ofNat_toNat]
theorem str_by (s : ByteArray) : strOfNums (bytesOf s) = s := by
  cases s with
  | mk d =>
    unfold strOfNums
    rw [← by_data]
theorem by_inj {a b : ByteArray} (h : bytesOf a = bytesOf b) : a = b := by rw [← str_by a, ← str_by b, h]
theorem by_app (a b : ByteArray) : bytesOf (a ++ b) = bytesOf a ++ bytesOf b := by
  unfold bytesOf
  rw [show (a ++ b).data = a.data ++ b.data from ByteArray.data_append, Array.toList_append, List.map_append]
theorem by_ext (s : ByteArray) (i j : Nat) : bytesOf (s.extract i j) = ((bytesOf s).take j).drop i := by
  unfold bytesOf
  rw [ByteArray.data_extract, Array.toList_extract, ← List.map_take, ← List.map_drop]
  congr 1
  rw [List.extract_eq_take_drop, List.drop_take]
theorem by_toList (s : ByteArray) (l : List UInt8) : s.toList = l ↔ bytesOf s = l.map fun b => (b.toNat : Int) := by
  rw [ByteArray.toList_eq]
  unfold bytesOf
  constructor
  · intro h
    rw [h]
  · intro h
    have e := congrArg (List.map fun n : Int => UInt8.ofNat n.toNat) h
    simpa [List.map_map, Function.comp_def] using e
theorem by_eq (a b : ByteArray) : a.toList = b.toList ↔ a = b := ⟨ba_ext, fun h => h ▸ rfl⟩
theorem by_emp (s : ByteArray) : s.toList = ([] : List UInt8) ↔ bytesOf s = [] := by rw [by_toList]; simp
theorem by_bt (s : ByteArray) (i : Nat) (h : i < (bytesOf s).length) : bt s (i : Int) = (bytesOf s)[i] := by
  rw [← rd_bytesOf, rd_nat _ _ h]
theorem by_drop (s : ByteArray) (i : Nat) (h : i < s.size) : (bytesOf s).drop i = bt s (i : Int) :: (bytesOf s).drop (i + 1) := by
  have h' : i < (bytesOf s).length := by rw [by_len]; exact h
  rw [drop_cons _ _ h', by_bt s i h']
theorem by_end (s : ByteArray) (i : Nat) (h : s.size ≤ i) : (bytesOf s).drop i = [] := List.drop_of_length_le (by rw [by_len]; exact h)
def idxL : List Int → Int → Option Nat
  | [], _ => none
  | x :: r, c => if x = c then some 0 else (idxL r c).map (· + 1)
theorem idx_byte (l : List UInt8) (c : UInt8) : Lib.indexByte l c = match idxL (l.map fun b => (b.toNat : Int)) (c.toNat : Int) with | some i => (i : Int) | none => -1 := by
  induction l with
  | nil => rfl
  | cons x r ih =>
    unfold Lib.indexByte
    simp only [List.map_cons, idxL]
    by_cases h : x = c
    · subst h
      simp
    · have h1 : (x == c) = false := by simpa using h
      have h2 : ¬ ((x.toNat : Int) = (c.toNat : Int)) := fun e => h (UInt8.toNat_inj.1 (by omega))
      rw [h1, if_neg h2]
      simp only [Bool.false_eq_true, if_false]
      rw [ih]
      cases hI : idxL (r.map fun b => (b.toNat : Int)) (c.toNat : Int) with
      | none => simp
      | some i =>
        have h3 : ((i : Int) == -1) = false := by
          rw [beq_eq_false_iff_ne]
          omega
        simp [h3]
theorem idx_some {L : List Int} {c : Int} {i : Nat} (h : idxL L c = some i) : i < L.length ∧ L[i]? = some c ∧ c ∉ L.take i ∧ L = L.take i ++ c :: L.drop (i + 1) := by
  induction L generalizing i with
  | nil => cases h
  | cons x r ih =>
    simp only [idxL] at h
    by_cases hx : x = c
    · rw [if_pos hx] at h
      obtain rfl := Option.some.inj h
      subst hx
      simp
    · rw [if_neg hx] at h
      obtain ⟨j, hj, rfl⟩ := Option.map_eq_some_iff.1 h
      obtain ⟨h1, h2, h3, h4⟩ := ih hj
      refine ⟨by simpa using h1, by simpa using h2, ?_, ?_⟩
      · simp only [List.take_succ_cons, List.mem_cons, not_or]
        exact ⟨fun e => hx e.symm, h3⟩
      · simp only [List.take_succ_cons, List.drop_succ_cons, List.cons_append]
        rw [← h4]
theorem idx_none {L : List Int} {c : Int} (h : idxL L c = none) : c ∉ L := by
  induction L with
  | nil => simp
  | cons x r ih =>
    simp only [idxL] at h
    by_cases hx : x = c
    · rw [if_pos hx] at h; cases h
    · rw [if_neg hx] at h
      have h' : idxL r c = none := by simpa using h
      simp only [List.mem_cons, not_or]
      exact ⟨fun e => hx e.symm, ih h'⟩
theorem ib_cases (c : UInt8) : ∀ s : List UInt8, (Lib.indexByte s c = -1 ∧ c ∉ s) ∨ ∃ A R, c ∉ A ∧ s = A ++ c :: R ∧ Lib.indexByte s c = (A.length : Int)
  | [] => Or.inl ⟨rfl, by simp⟩
  | x :: r => by
    by_cases h : x = c
    · subst h
      exact Or.inr ⟨[], r, by simp, rfl, by simp [Lib.indexByte]⟩
    · have h1 : (x == c) = false := by simpa using h
      rcases ib_cases c r with ⟨h2, h3⟩ | ⟨A, R, h2, h3, h4⟩
      · refine Or.inl ⟨by simp [Lib.indexByte, h1, h2], ?_⟩
        simp only [List.mem_cons, not_or]
        exact ⟨fun e => h e.symm, h3⟩
      · refine Or.inr ⟨x :: A, R, ?_, by rw [h3]; rfl, ?_⟩
        · simp only [List.mem_cons, not_or]
          exact ⟨fun e => h e.symm, h2⟩
        · have h5 : ((A.length : Int) == -1) = false := by rw [beq_eq_false_iff_ne]; omega
          simp [Lib.indexByte, h1, h4, h5]
theorem filter_no {c : UInt8} {A : List UInt8} (h : c ∉ A) : A.filter (fun x => x != c) = A := List.filter_eq_self.2 fun a ha => by
  simp only [bne_iff_ne, ne_eq]
  intro e
  exact h (e ▸ ha)
theorem repl_out (c : UInt8) : ∀ (n : Nat) (s : List UInt8), s.length ≤ n → Lib.replaceK [c] [] (Lib.count s [c]) s = s.filter (fun x => x != c) := by
  intro n
  induction n with
  | zero =>
    intro s hs
    obtain rfl : s = [] := List.length_eq_zero_iff.1 (by omega)
    rcases ib_cases c [] with ⟨h, _⟩ | ⟨A, R, _, h, _⟩
    · rw [Lib.count_miss (by rw [Lib.index_one]; exact h)]; rfl
    · cases A <;> cases h
  | succ n ih =>
    intro s hs
    rcases ib_cases c s with ⟨h, h2⟩ | ⟨A, R, h2, h3, h4⟩
    · rw [Lib.count_miss (by rw [Lib.index_one]; exact h), filter_no h2]; rfl
    · have hi : Lib.index s [c] = (A.length : Int) := by rw [Lib.index_one]; exact h4
      have hd : s.drop (A.length + [c].length) = R := by
        rw [h3, show A ++ c :: R = (A ++ [c]) ++ R by simp]
        exact List.drop_left' (by simp)
      have ht : s.take A.length = A := by rw [h3]; exact List.take_left' rfl
      rw [Lib.count_hit (by simp) hi, Nat.add_comm 1, Lib.replaceK_hit [c] [] _ s A.length hi, hd, ht, ih R (by rw [h3] at hs; simp at hs; omega)]
      rw [h3, List.filter_append, filter_no h2]
      simp
theorem replaceAll_out (s : List UInt8) (c : UInt8) : Lib.replaceAll s [c] [] = s.filter (fun x => x != c) := by
  have e : ([c] == ([] : List UInt8)) = false := rfl
  have m : Lib.replaceNum s [c] (-1) = Lib.count s [c] := by unfold Lib.replaceNum; rw [if_pos (Or.inl (by decide))]
  unfold Lib.replaceAll Lib.replace
  rw [e, m]
  exact repl_out c s.length s (Nat.le_refl _)
theorem day_out {a b c d e f g h : Int} (ha : 48 ≤ a ∧ a ≤ 57) (hb : 48 ≤ b ∧ b ≤ 57) (hc : 48 ≤ c ∧ c ≤ 57) (hd : 48 ≤ d ∧ d ≤ 57) (he : 48 ≤ e ∧ e ≤ 57) (hf : 48 ≤ f ∧ f ≤ 57) (hg : 48 ≤ g ∧ g ≤ 57) (hh : 48 ≤ h ∧ h ≤ 57) :
    (⟨(Lib.replaceAll (strOfNums [a, b, c, d, 45, e, f, 45, g, h]).data.toList [45] []).toArray⟩ : ByteArray) = strOfNums [a, b, c, d, e, f, g, h] := by
  have key : ∀ x : Int, 48 ≤ x ∧ x ≤ 57 → (UInt8.ofNat x.toNat != 45) = true := by
    intro x hx
    simp only [bne_iff_ne, ne_eq]
    intro e
    have := congrArg UInt8.toNat e
    rw [UInt8.toNat_ofNat'] at this
    have e2 : (45 : UInt8).toNat = 45 := rfl
    omega
  rw [replaceAll_out, strOfNums_data]
  simp only [List.map_cons, List.map_nil, List.filter_cons, key a ha, key b hb, key c hc, key d hd, key e he, key f hf, key g hg, key h hh, if_true, show (UInt8.ofNat (45 : Int).toNat != 45) = false from rfl, Bool.false_eq_true, if_false, List.filter_nil]
  rfl
def splitI (c : Int) : List Int → List (List Int)
  | [] => [[]]
  | x :: r => if x = c then [] :: splitI c r else (match splitI c r with | p :: q => (x :: p) :: q | [] => [[x]])
theorem splitI_ne (c : Int) (L : List Int) : splitI c L ≠ [] := by
  cases L with
  | nil => simp [splitI]
  | cons x r =>
    unfold splitI
    split
    · simp
    · split <;> simp
theorem splitI_none {c : Int} : ∀ {L : List Int}, c ∉ L → splitI c L = [L]
  | [], _ => rfl
  | x :: r, h => by
    simp only [List.mem_cons, not_or] at h
    unfold splitI
    rw [if_neg (fun e => h.1 e.symm), splitI_none h.2]
theorem splitI_app {c : Int} : ∀ {A : List Int} (R : List Int), c ∉ A → splitI c (A ++ c :: R) = A :: splitI c R
  | [], R, _ => by rw [List.nil_append, splitI, if_pos rfl]
  | x :: r, R, h => by
    simp only [List.mem_cons, not_or] at h
    rw [List.cons_append, splitI, if_neg (fun e => h.1 e.symm), splitI_app R h.2]
theorem splitB_step (c : UInt8) (s : ByteArray) (ih : ∀ t : ByteArray, t.size < s.size → (Lib.splitB ⟨#[c]⟩ 0 (Lib.countB t ⟨#[c]⟩) t).map bytesOf = splitI (c.toNat : Int) (bytesOf t)) : (Lib.splitB ⟨#[c]⟩ 0 (Lib.countB s ⟨#[c]⟩) s).map bytesOf = splitI (c.toNat : Int) (bytesOf s) := by
  have hix : Lib.indexB s ⟨#[c]⟩ = match idxL (bytesOf s) (c.toNat : Int) with | some i => (i : Int) | none => -1 := by
    have := idx_byte s.data.toList c
    rw [← Lib.index_one] at this
    exact this
  cases hI : idxL (bytesOf s) (c.toNat : Int) with
  | none =>
    rw [hI] at hix
    rw [Lib.countB_miss s _ hix, splitI_none (idx_none hI)]
    rfl
  | some i =>
    rw [hI] at hix
    obtain ⟨h1, h2, h3, h4⟩ := idx_some hI
    have hc := Lib.countB_hit s ⟨#[c]⟩ i (Nat.le_refl _) hix
    have e1 : (⟨#[c]⟩ : ByteArray).size = 1 := rfl
    rw [e1] at hc
    have hsz : (s.extract (i + 1) s.size).size < s.size := by
      rw [by_len] at h1
      rw [ByteArray.size_extract]
      omega
    have ih := ih (s.extract (i + 1) s.size) hsz
    rw [show Lib.countB s ⟨#[c]⟩ = Lib.countB (s.extract (i + 1) s.size) ⟨#[c]⟩ + 1 by omega, Lib.splitB_hit _ _ _ _ i hix, List.map_cons, e1, ih]
    have e2 : bytesOf (s.extract 0 (i + 0)) = (bytesOf s).take i := by rw [by_ext, List.drop_zero, Nat.add_zero]
    have e3 : bytesOf (s.extract (i + 1) s.size) = (bytesOf s).drop (i + 1) := by rw [by_ext, ← by_len, List.take_length]
    rw [e2, e3]
    conv => rhs; rw [h4]
    rw [splitI_app _ h3]
theorem splitB_map (c : UInt8) (n : Nat) : ∀ s : ByteArray, s.size ≤ n → (Lib.splitB ⟨#[c]⟩ 0 (Lib.countB s ⟨#[c]⟩) s).map bytesOf = splitI (c.toNat : Int) (bytesOf s) := by
  induction n with
  | zero => exact fun s hs => splitB_step c s fun t ht => absurd ht (by omega)
  | succ n ih => exact fun s hs => splitB_step c s fun t ht => ih t (by omega)
theorem split_f (s : ByteArray) (c : UInt8) (hs : s.size < 4294967281) : ∃ l, strings_Split.f s (⟨#[c]⟩ : ByteArray) = some l ∧ l.map bytesOf = splitI (c.toNat : Int) (bytesOf s) := by
  refine ⟨_, ?_, splitB_map c s.size s (Nat.le_refl _)⟩
  unfold strings_Split.f
  rw [if_pos ⟨rfl, hs⟩]
def okB (b : Int) : Bool := decide (32 < b) && decide (b ≤ 126)
def goodP (p : List Int) : Bool := !p.isEmpty && p.all okB
theorem sp_len (c : Int) : ∀ L : List Int, (splitI c L).length ≤ L.length + 1
  | [] => by simp [splitI]
  | x :: r => by
    have ih := sp_len c r
    unfold splitI
    split
    · simp only [List.length_cons]; omega
    · split
      · rename_i p q h
        rw [h] at ih
        simp only [List.length_cons] at ih ⊢
        omega
      · simp
theorem field_loop (acc : List ByteArray) (x : ByteArray) (ps : List ByteArray) (n j : Int) (hx : x.size ≤ 4611686018427387904) (ha : acc.length < 8796093022208) : ∀ (d i : Nat), i + d = x.size → (((bytesOf x).drop i).all okB = false → Ev (fun k => words_Fields.l1 k acc 0 x ps n j x.size i) (([], 5) : List ByteArray × Int)) ∧ (((bytesOf x).drop i).all okB = true → ∀ r, Ev (fun k => words_Fields.l0 k (acc ++ [x]) 0 ps n (wrap64 (j + 1))) r → Ev (fun k => words_Fields.l1 k acc 0 x ps n j x.size i) r)
  | 0, i, hd => by
    rw [by_end x i (by omega)]
    refine ⟨fun h => absurd h (by decide), fun _ r hr => ?_⟩
    refine Ev_succ ?_
    simp only [words_Fields.l1, if_neg (show ¬ ((i : Int) < (x.size : Int)) by omega), if_pos ha]
    exact hr
  | d + 1, i, hd => by
    have hi : i < x.size := by omega
    have ih := field_loop acc x ps n j hx ha d (i + 1) (by omega)
    rw [by_drop x i hi, List.all_cons]
    have hb : okB (bt x (i : Int)) = true ↔ (32 < bt x (i : Int) ∧ bt x (i : Int) ≤ 126) := by unfold okB; simp
    by_cases c1 : bt x (i : Int) ≤ 32
    · have hf : okB (bt x (i : Int)) = false := by
        rw [← Bool.not_eq_true, hb]; omega
      rw [hf, Bool.false_and]
      refine ⟨fun _ => Ev_succ ?_, fun h => absurd h (by decide)⟩
      simp only [words_Fields.l1, if_pos (show (i : Int) < (x.size : Int) by omega), if_pos (show 0 ≤ (i : Int) by omega), if_pos c1, if_neg (show ¬ (5 : Int) = 0 by decide)]
      exact Ev.now _
    · by_cases c2 : bt x (i : Int) > 126
      · have hf : okB (bt x (i : Int)) = false := by
          rw [← Bool.not_eq_true, hb]; omega
        rw [hf, Bool.false_and]
        refine ⟨fun _ => Ev_succ ?_, fun h => absurd h (by decide)⟩
        simp only [words_Fields.l1, if_pos (show (i : Int) < (x.size : Int) by omega), if_pos (show 0 ≤ (i : Int) by omega), if_neg c1, if_pos c2, if_neg (show ¬ (5 : Int) = 0 by decide)]
        exact Ev.now _
      · have hf : okB (bt x (i : Int)) = true := by rw [hb]; omega
        rw [hf, Bool.true_and]
        refine ⟨fun h => Ev_succ ?_, fun h r hr => Ev_succ ?_⟩
        · simp only [words_Fields.l1, if_pos (show (i : Int) < (x.size : Int) by omega), if_pos (show 0 ≤ (i : Int) by omega), if_neg c1, if_neg c2, w_succ hi (by omega)]
          exact ih.1 h
        · simp only [words_Fields.l1, if_pos (show (i : Int) < (x.size : Int) by omega), if_pos (show 0 ≤ (i : Int) by omega), if_neg c1, if_neg c2, w_succ hi (by omega)]
          exact ih.2 h r hr
theorem fields_loop (ps : List ByteArray) (hp : ps.length < 8796093022208) (hz : ∀ p ∈ ps, p.size ≤ 4611686018427387904) : ∀ (d i : Nat), i + d = ps.length → Ev (fun k => words_Fields.l0 k (ps.take i) 0 ps ps.length i) (if ((ps.drop i).all fun p => goodP (bytesOf p)) = true then (ps, 0) else ([], 5))
  | 0, i, hd => by
    refine Ev_succ ?_
    simp only [words_Fields.l0, if_neg (show ¬ ((i : Int) < (ps.length : Int)) by omega), if_true]
    rw [List.drop_of_length_le (by omega), List.take_of_length_le (by omega)]
    exact Ev.now _
  | d + 1, i, hd => by
    have hi : i < ps.length := by omega
    have ih := fields_loop ps hp hz d (i + 1) (by omega)
    have hr : rdOf ByteArray.empty ps (i : Int) = ps[i] := rdOf_nat _ _ _ hi
    refine Ev_succ ?_
    simp only [words_Fields.l0, if_pos (show (i : Int) < (ps.length : Int) by omega), if_pos (show 0 ≤ (i : Int) by omega), hr]
    rw [drop_cons ps i hi, List.all_cons]
    by_cases c : ps[i].toList = []
    · have hg : goodP (bytesOf ps[i]) = false := by rw [(by_emp _).1 c]; rfl
      simp only [if_pos c, if_neg (show ¬ (5 : Int) = 0 by decide), hg, Bool.false_and, Bool.false_eq_true, if_false]
      exact Ev.now _
    · have hne : bytesOf ps[i] ≠ [] := fun h => c ((by_emp _).2 h)
      have hem : (bytesOf ps[i]).isEmpty = false := by simpa using hne
      have hl := field_loop (ps.take i) ps[i] ps ps.length i (hz _ (List.getElem_mem hi)) (by rw [List.length_take]; omega) ps[i].size 0 (by omega)
      rw [List.drop_zero] at hl
      simp only [if_neg c]
      have hg : goodP (bytesOf ps[i]) = (bytesOf ps[i]).all okB := by unfold goodP; rw [hem]; simp
      rw [hg]
      cases ha : (bytesOf ps[i]).all okB with
      | false =>
        simp only [Bool.false_and, Bool.false_eq_true, if_false]
        exact hl.1 ha
      | true =>
        rw [Bool.true_and]
        refine hl.2 ha _ ?_
        rw [w_succ hi (by omega), show ps.take i ++ [ps[i]] = ps.take (i + 1) from (List.take_append_getElem hi)]
        exact ih
def fieldsE (L : List Int) : List (List Int) × Int := if 512 < L.length then ([], 8) else if L = [] then ([], 0) else if (splitI 32 L).all goodP = true then (splitI 32 L, 0) else ([], 5)
theorem map_str (l : List ByteArray) : (l.map bytesOf).map strOfNums = l := by
  rw [List.map_map]
  conv => rhs; rw [← List.map_id l]
  exact List.map_congr_left fun x _ => str_by x
def fieldsS (s : ByteArray) : List ByteArray × Int := ((fieldsE (bytesOf s)).1.map strOfNums, (fieldsE (bytesOf s)).2)
theorem fields_f (s : ByteArray) : Ev (fun k => words_Fields.f k s) (fieldsS s) := by
  unfold words_Fields.f fieldsS fieldsE
  rw [by_len]
  by_cases c1 : 512 < s.size
  · simp only [if_pos c1, if_pos (show (s.size : Int) > 512 by omega)]
    exact Ev.now _
  simp only [if_neg c1, if_neg (show ¬ (s.size : Int) > 512 by omega)]
  by_cases c2 : s.toList = []
  · simp only [if_pos c2, if_pos ((by_emp s).1 c2)]
    exact Ev.now _
  simp only [if_neg c2, if_neg (fun h => c2 ((by_emp s).2 h))]
  obtain ⟨l, h1, h2⟩ := split_f s 32 (by omega)
  rw [h1]
  simp only [Option.bind_some]
  have hlen : l.length ≤ s.size + 1 := by
    have := sp_len 32 (bytesOf s)
    rw [show ((32 : UInt8).toNat : Int) = 32 from rfl] at h2
    rw [← h2, List.length_map, by_len] at this
    exact this
  have hsz : ∀ p ∈ l, p.size ≤ 4611686018427387904 := by
    intro p hp
    have hm : bytesOf p ∈ splitI 32 (bytesOf s) := by
      rw [show ((32 : UInt8).toNat : Int) = 32 from rfl] at h2
      rw [← h2]
      exact List.mem_map_of_mem hp
    have key : ∀ (L : List Int), ∀ q ∈ splitI 32 L, q.length ≤ L.length := by
      intro L
      induction L with
      | nil => intro q hq; simp [splitI] at hq; subst hq; simp
      | cons x r ih =>
        intro q hq
        unfold splitI at hq
        split at hq
        · rcases List.mem_cons.1 hq with h | h
          · subst h; simp
          · have := ih q h; simp; omega
        · split at hq
          · rename_i p1 q1 he
            rcases List.mem_cons.1 hq with h | h
            · subst h
              have := ih p1 (by rw [he]; simp)
              simp; omega
            · have := ih q (by rw [he]; simp [h])
              simp; omega
          · simp at hq; subst hq; simp
    have := key _ _ hm
    rw [by_len, by_len] at this
    omega
  have hf := fields_loop l (by omega) hsz l.length 0 (by omega)
  rw [List.take_zero, List.drop_zero] at hf
  have hall : (l.all fun p => goodP (bytesOf p)) = (splitI 32 (bytesOf s)).all goodP := by
    rw [show ((32 : UInt8).toNat : Int) = 32 from rfl] at h2
    rw [← h2, List.all_map]
    rfl
  rw [hall] at hf
  by_cases c3 : (splitI 32 (bytesOf s)).all goodP = true
  · rw [if_pos c3] at hf
    simp only [if_pos c3]
    rw [show ((32 : UInt8).toNat : Int) = 32 from rfl] at h2
    rw [← h2, map_str]
    exact hf
  · rw [if_neg c3] at hf
    simp only [if_neg c3]
    exact hf
def joinI : List (List Int) → List Int
  | [] => []
  | [x] => x
  | x :: y :: r => x ++ 32 :: joinI (y :: r)
theorem join_split : ∀ L : List Int, joinI (splitI 32 L) = L
  | [] => rfl
  | x :: r => by
    have ih := join_split r
    have hn := splitI_ne 32 r
    unfold splitI
    by_cases c : x = 32
    · rw [if_pos c]
      cases hs : splitI 32 r with
      | nil => exact absurd hs hn
      | cons p q =>
        rw [hs] at ih
        unfold joinI
        rw [ih, c]
        rfl
    · rw [if_neg c]
      cases hs : splitI 32 r with
      | nil => exact absurd hs hn
      | cons p q =>
        rw [hs] at ih
        cases q with
        | nil => unfold joinI at ih ⊢; rw [ih]
        | cons y q =>
          unfold joinI at ih ⊢
          rw [← ih]
          rfl
theorem split_join : ∀ l : List (List Int), l ≠ [] → (∀ p ∈ l, (32 : Int) ∉ p) → splitI 32 (joinI l) = l
  | [], h, _ => absurd rfl h
  | [x], _, h => splitI_none (h x (by simp))
  | x :: y :: r, _, h => by
    unfold joinI
    rw [splitI_app _ (h x (by simp)), split_join (y :: r) (by simp) (fun p hp => h p (by simp [hp]))]
theorem join_bytes : ∀ l : List ByteArray, bytesOf ⟨(Lib.join (l.map (·.data.toList)) (⟨#[32]⟩ : ByteArray).data.toList).toArray⟩ = joinI (l.map bytesOf)
  | [] => rfl
  | [x] => by
    show List.map _ (Lib.join [x.data.toList] [32]).toArray.toList = _
    rw [Lib.join_one]
    rfl
  | x :: y :: r => by
    have ih := join_bytes (y :: r)
    have e : Lib.join ((x :: y :: r).map (·.data.toList)) [32] = x.data.toList ++ 32 :: Lib.join ((y :: r).map (·.data.toList)) [32] := by
      simp only [List.map_cons, Lib.join_cons, Lib.joinTail, List.flatten_cons]
      rfl
    show List.map _ (Lib.join ((x :: y :: r).map (·.data.toList)) [32]).toArray.toList = _
    rw [e]
    have ih2 : List.map (fun b : UInt8 => (b.toNat : Int)) (Lib.join ((y :: r).map (·.data.toList)) [32]) = joinI ((y :: r).map bytesOf) := ih
    simp only [List.toList_toArray, List.map_append, List.map_cons, joinI] at ih2 ⊢
    rw [ih2]
    rfl
def joinS (l : List ByteArray) : ByteArray := strOfNums (joinI (l.map bytesOf))
theorem join_rng (l : List ByteArray) : ∀ x ∈ joinI (l.map bytesOf), 0 ≤ x ∧ x < 256 := by
  rw [← join_bytes]
  exact by_rng _
theorem joinS_by (l : List ByteArray) : bytesOf (joinS l) = joinI (l.map bytesOf) := by_str _ (join_rng l)
theorem join_len : ∀ l : List (List Int), (joinI l).length ≤ (l.map fun x => x.length + 1).sum
  | [] => by simp [joinI]
  | [x] => by simp [joinI]
  | x :: y :: r => by
    have := join_len (y :: r)
    simp only [joinI, List.length_append, List.length_cons, List.map_cons, List.sum_cons] at this ⊢
    omega
def sumZ (l : List ByteArray) : Nat := (l.map fun x => x.size + 1).sum
theorem join_f (l : List ByteArray) (h : sumZ l ≤ 140737488355328) : words_Join.f l = some (joinS l) := by
  have hb := join_bytes l
  have hl : (Lib.join (l.map (·.data.toList)) (⟨#[32]⟩ : ByteArray).data.toList).length ≤ 140737488355328 := by
    have h1 := join_len (l.map bytesOf)
    have e : (l.map bytesOf).map (fun x => x.length + 1) = l.map fun x => x.size + 1 := by
      rw [List.map_map]
      exact List.map_congr_left fun x _ => by simp [by_len]
    rw [e, ← hb, by_len] at h1
    exact Nat.le_trans h1 h
  have hn : l.length ≤ 140737488355328 := by
    have : l.length ≤ sumZ l := by
      unfold sumZ
      clear hb hl h
      induction l with
      | nil => simp
      | cons x r ih => simp only [List.map_cons, List.sum_cons, List.length_cons]; omega
    omega
  unfold words_Join.f words_together.f strings_Join.f
  rw [if_pos ⟨hl, hn⟩]
  simp only [Option.bind_some]
  congr 1
  apply by_inj
  rw [hb, joinS_by]
def plainL (L : List Int) : Bool := !L.isEmpty && !(decide (1 < L.length) && L.head? == some 48) && L.all digitB
def numV (n : Int) (L : List Int) : Int := L.foldl (fun n b => 10 * n + (b - 48)) n
def numR (n : Int) (L : List Int) (minus : Bool) : Int × Int := if 1152921504606846976 < numV n L then (0, 3) else (if minus then -(numV n L) else numV n L, 0)
def unsign (L : List Int) : List Int × Bool := if L.head? = some 45 then (L.tail, true) else (L, false)
def intL (L : List Int) : Int × Int := if plainL (unsign L).1 = true ∧ ¬((unsign L).2 = true ∧ (unsign L).1 = [48]) then numR 0 (unsign L).1 (unsign L).2 else (0, 5)
theorem dig_rng {x : Int} (h : digitB x = true) : 48 ≤ x ∧ x ≤ 57 := by
  unfold digitB at h
  simp only [Bool.and_eq_true, decide_eq_true_eq] at h
  exact h
theorem numV_mono : ∀ (L : List Int) (n : Int), 0 ≤ n → (∀ x ∈ L, digitB x = true) → n ≤ numV n L
  | [], n, _, _ => Int.le_refl _
  | x :: L, n, h, hd => by
    have h1 := dig_rng (hd x (by simp))
    have := numV_mono L (10 * n + (x - 48)) (by omega) fun y hy => hd y (by simp [hy])
    unfold numV at this ⊢
    rw [List.foldl_cons]
    omega
theorem num_step (n d : Int) (h0 : 0 ≤ n) (h1 : n ≤ 1152921504606846976) (h2 : 0 ≤ d) (h3 : d ≤ 9) : (10 * n + d ≤ 9223372036854775807 ∧ wrap64 (wrap64 (10 * n) + d) = 10 * n + d) ∨ (9223372036854775807 < 10 * n + d ∧ wrap64 (wrap64 (10 * n) + d) < 0) := by
  unfold wrap64
  omega
theorem neg_w (n : Int) (h0 : 0 ≤ n) (h1 : n ≤ 1152921504606846976) : wrap64 (-n) = -n := w_id (by omega) (by omega)
theorem digits_loop (s : ByteArray) (hs : s.size ≤ 4611686018427387904) : ∀ (d i : Nat), i + d = s.size → Ev (fun k => words_digits.l0 k s s.size i) (((bytesOf s).drop i).all digitB)
  | 0, i, hd => by
    refine Ev_succ ?_
    simp only [words_digits.l0, if_neg (show ¬ ((i : Int) < (s.size : Int)) by omega)]
    rw [by_end s i (by omega)]
    exact Ev.now _
  | d + 1, i, hd => by
    have hi : i < s.size := by omega
    have ih := digits_loop s hs d (i + 1) (by omega)
    refine Ev_succ ?_
    simp only [words_digits.l0, if_pos (show (i : Int) < (s.size : Int) by omega), if_pos (show 0 ≤ (i : Int) by omega), digit_f, Option.bind_some, w_succ hi (by omega)]
    rw [by_drop s i hi, List.all_cons]
    cases h : digitB (bt s (i : Int)) with
    | true => simp only [if_true, Bool.true_and]; exact ih
    | false => simp only [Bool.false_eq_true, if_false, Bool.false_and]; exact Ev.now _
theorem digits_f (s : ByteArray) (hs : s.size ≤ 4611686018427387904) : Ev (fun k => words_digits.f k s) ((bytesOf s).all digitB) := by
  unfold words_digits.f
  exact digits_loop s hs s.size 0 (by omega)
theorem number_loop (s : ByteArray) (minus : Bool) (hs : s.size ≤ 4611686018427387904) (hall : ∀ x ∈ bytesOf s, digitB x = true) : ∀ (d i : Nat) (n : Int), i + d = s.size → 0 ≤ n → n ≤ 1152921504606846976 → Ev (fun k => words_number.l0 k s minus n s.size i) (numR n ((bytesOf s).drop i) minus)
  | 0, i, n, hd, h0, h1 => by
    refine Ev_succ ?_
    simp only [words_number.l0, if_neg (show ¬ ((i : Int) < (s.size : Int)) by omega)]
    rw [by_end s i (by omega)]
    have hc : numR n [] minus = (if minus then -n else n, 0) := by
      unfold numR numV
      rw [List.foldl_nil, if_neg (show ¬ 1152921504606846976 < n by omega)]
    rw [hc]
    cases minus with
    | true => simp only [if_true, neg_w n h0 h1]; exact Ev.now _
    | false => simp only [Bool.false_eq_true, if_false]; exact Ev.now _
  | d + 1, i, n, hd, h0, h1 => by
    have hi : i < s.size := by omega
    have hb : digitB (bt s (i : Int)) = true := hall _ (by
      have h' : i < (bytesOf s).length := by rw [by_len]; exact hi
      rw [by_bt s i h']
      exact List.getElem_mem h')
    have hb2 := dig_rng hb
    refine Ev_succ ?_
    simp only [words_number.l0, if_pos (show (i : Int) < (s.size : Int) by omega), if_pos (show 0 ≤ (i : Int) by omega), w_succ hi (by omega), Int.emod_eq_of_lt (show 0 ≤ bt s (i : Int) - 48 by omega) (show bt s (i : Int) - 48 < 256 by omega)]
    rw [by_drop s i hi]
    have hr : ∀ x ∈ (bytesOf s).drop (i + 1), digitB x = true := fun x hx => hall x (List.mem_of_mem_drop hx)
    have hm := numV_mono ((bytesOf s).drop (i + 1)) (10 * n + (bt s (i : Int) - 48)) (by omega) hr
    have hc : numR n (bt s (i : Int) :: (bytesOf s).drop (i + 1)) minus = numR (10 * n + (bt s (i : Int) - 48)) ((bytesOf s).drop (i + 1)) minus := by
      unfold numR numV
      rw [List.foldl_cons]
    rw [hc]
    rcases num_step n (bt s (i : Int) - 48) h0 h1 (by omega) (by omega) with ⟨h2, h3⟩ | ⟨h2, h3⟩
    · simp only [h3, if_neg (show ¬ 10 * n + (bt s (i : Int) - 48) < 0 by omega)]
      by_cases h4 : 10 * n + (bt s (i : Int) - 48) > 1152921504606846976
      · simp only [if_pos h4]
        have : numR (10 * n + (bt s (i : Int) - 48)) ((bytesOf s).drop (i + 1)) minus = (0, 3) := by
          unfold numR
          rw [if_pos (by omega)]
        rw [this]
        exact Ev.now _
      · simp only [if_neg h4]
        exact number_loop s minus hs hall d (i + 1) _ (by omega) (by omega) (by omega)
    · simp only [if_pos h3]
      have : numR (10 * n + (bt s (i : Int) - 48)) ((bytesOf s).drop (i + 1)) minus = (0, 3) := by
        unfold numR
        rw [if_pos (by omega)]
      rw [this]
      exact Ev.now _
theorem number_f (s : ByteArray) (minus : Bool) (hs : s.size ≤ 4611686018427387904) (hall : ∀ x ∈ bytesOf s, digitB x = true) : Ev (fun k => words_number.f k s minus) (numR 0 (bytesOf s) minus) := by
  unfold words_number.f
  exact number_loop s minus hs hall s.size 0 0 (by omega) (by omega) (by omega)
theorem plain_all {L : List Int} (h : plainL L = true) : ∀ x ∈ L, digitB x = true := by
  unfold plainL at h
  simp only [Bool.and_eq_true] at h
  exact List.all_eq_true.1 h.2
theorem bt_head (s : ByteArray) (h : 0 < s.size) : (bytesOf s).head? = some (bt s 0) := by
  have := by_drop s 0 h
  rw [List.drop_zero] at this
  rw [this]
  rfl
theorem plain_f (s : ByteArray) (hs : s.size ≤ 4611686018427387904) : Ev (fun k => words_plain.f k s) (plainL (bytesOf s)) := by
  unfold words_plain.f plainL
  have hd := digits_f s hs
  by_cases c0 : s.toList = []
  · simp only [if_pos c0]
    rw [(by_emp s).1 c0]
    exact Ev.now _
  · simp only [if_neg c0]
    have h1 : bytesOf s ≠ [] := fun h => c0 ((by_emp s).2 h)
    have h2 : (bytesOf s).isEmpty = false := by simpa using h1
    have h3 : 0 < s.size := by
      rw [← by_len]
      exact List.length_pos_iff.2 h1
    rw [h2]
    simp only [Bool.not_false, Bool.true_and]
    by_cases c1 : (s.size : Int) > 1
    · simp only [if_pos c1, if_pos (show 0 < (s.size : Int) by omega)]
      have h4 : decide (1 < (bytesOf s).length) = true := by
        rw [by_len]
        exact decide_eq_true (by omega)
      rw [h4, bt_head s h3]
      simp only [Bool.true_and]
      by_cases c2 : bt s 0 = 48
      · simp only [if_pos c2, c2]
        simp
        exact Ev.now _
      · have h5 : (some (bt s 0) == some (48 : Int)) = false := by simpa using c2
        simp only [if_neg c2, h5, Bool.not_false, Bool.true_and]
        exact Ev_id hd
    · simp only [if_neg c1]
      have h4 : decide (1 < (bytesOf s).length) = false := by
        rw [by_len]
        exact decide_eq_false (by omega)
      rw [h4]
      simp only [Bool.false_and, Bool.not_false, Bool.true_and]
      exact Ev_id hd
theorem cutp_f (s : ByteArray) : strings_CutPrefix.f s (⟨#[45]⟩ : ByteArray) = some (strOfNums (unsign (bytesOf s)).1, (unsign (bytesOf s)).2) := by
  have hsz : (⟨#[45]⟩ : ByteArray).size = 1 := rfl
  have hl : bytesOf (⟨#[45]⟩ : ByteArray) = [45] := rfl
  have h0 : stringslite_HasPrefix.f s (⟨#[45]⟩ : ByteArray) = some (decide ((bytesOf s).head? = some 45)) := by
    unfold stringslite_HasPrefix.f
    rw [hsz]
    by_cases c : (s.size : Int) ≥ ((1 : Nat) : Int)
    · rw [if_pos c, if_pos (by omega), if_pos (by omega)]
      congr 1
      have h3 : 0 < s.size := by omega
      have hd := by_drop s 0 h3
      rw [List.drop_zero] at hd
      have he : bytesOf (s.extract 0 1) = [bt s 0] := by rw [by_ext, hd]; rfl
      rw [bt_head s h3]
      rw [Bool.eq_iff_iff, beq_iff_eq, decide_eq_true_eq, by_eq]
      constructor
      · intro h
        have := congrArg bytesOf h
        rw [show (((1 : Nat) : Int)).toNat = 1 from rfl, he, hl] at this
        simpa using this
      · intro h
        apply by_inj
        rw [show (((1 : Nat) : Int)).toNat = 1 from rfl, he, hl]
        simpa using h
    · rw [if_neg c]
      have h4 : bytesOf s = [] := List.length_eq_zero_iff.1 (by rw [by_len]; omega)
      rw [h4]
      simp
  unfold strings_CutPrefix.f stringslite_CutPrefix.f
  rw [h0]
  simp only [Option.bind_some]
  unfold unsign
  by_cases c : (bytesOf s).head? = some 45
  · have h3 : 0 < s.size := by
      rw [← by_len]
      rcases hb : bytesOf s with _ | ⟨x, r⟩
      · rw [hb] at c; simp at c
      · simp
    rw [if_pos (decide_eq_true c), if_pos c, hsz, if_pos (by omega), if_pos (by omega)]
    simp only [Option.bind_some]
    congr 2
    apply by_inj
    rw [by_ext, by_str _ fun x hx => by_rng s x (List.mem_of_mem_tail hx), show (((1 : Nat) : Int)).toNat = 1 from rfl, ← by_len, List.take_length, List.drop_one]
  · rw [if_neg (by simpa using c), if_neg c]
    simp only [Option.bind_some]
    rw [str_by]
theorem unsign_rng {L : List Int} (h : ∀ x ∈ L, 0 ≤ x ∧ x < 256) : ∀ x ∈ (unsign L).1, 0 ≤ x ∧ x < 256 := by
  unfold unsign
  split
  · exact fun x hx => h x (List.mem_of_mem_tail hx)
  · exact h
theorem unsign_len (L : List Int) : (unsign L).1.length ≤ L.length := by
  unfold unsign
  split
  · simp
  · exact Nat.le_refl _
theorem int_f (s : ByteArray) (hs : s.size ≤ 4611686018427387904) : Ev (fun k => words_Int.f k s) (intL (bytesOf s)) := by
  unfold words_Int.f intL
  rw [cutp_f]
  simp only [Option.bind_some]
  have hb := by_str (unsign (bytesOf s)).1 (unsign_rng (by_rng s))
  have hsz : (strOfNums (unsign (bytesOf s)).1).size ≤ 4611686018427387904 := by
    rw [strOfNums_size]
    have := unsign_len (bytesOf s)
    rw [by_len] at this
    omega
  refine Ev_bind (plain_f _ hsz) ?_
  rw [hb]
  generalize (unsign (bytesOf s)).2 = m
  generalize hT : (unsign (bytesOf s)).1 = T at hb hsz
  by_cases c0 : plainL T = true
  · simp only [if_pos c0]
    have hn := number_f (strOfNums T) m hsz (by rw [hb]; exact plain_all c0)
    rw [hb] at hn
    cases m with
    | false =>
      simp only [Bool.false_eq_true, if_false, false_and, not_false_eq_true, and_true, if_pos c0]
      exact Ev_bind hn (Ev.now _)
    | true =>
      simp only [if_true, true_and]
      by_cases c1 : (strOfNums T).toList = ([48] : List UInt8)
      · have c2 : T = [48] := by
          have := (by_toList (strOfNums T) [48]).1 c1
          rw [hb] at this
          exact this
        simp only [if_pos c1]
        rw [if_neg (by rintro ⟨_, h⟩; exact h c2)]
        exact Ev.now _
      · have c2 : ¬ T = [48] := by
          intro h
          apply c1
          rw [by_toList, hb, h]
          rfl
        simp only [if_neg c1]
        rw [if_pos ⟨c0, c2⟩]
        exact Ev_bind hn (Ev.now _)
  · simp only [if_neg c0]
    rw [if_neg (fun h => c0 h.1)]
    exact Ev.now _
theorem plain_zero {w : List Int} (h : plainL w = true) (h0 : numV 0 w = 0) : w = [48] := by
  have ha := plain_all h
  unfold plainL at h
  rcases w with _ | ⟨x, r⟩
  · simp at h
  · have hx := dig_rng (ha x (by simp))
    have hm := numV_mono r (x - 48) (by omega) fun y hy => ha y (by simp [hy])
    have he : numV 0 (x :: r) = numV (x - 48) r := by
      unfold numV
      rw [List.foldl_cons]
      congr 1
      omega
    rw [he] at h0
    obtain rfl : x = 48 := by omega
    rcases r with _ | ⟨y, r⟩
    · rfl
    · simp at h
theorem numV_app (n : Int) (A B : List Int) : numV n (A ++ B) = numV (numV n A) B := by
  unfold numV
  rw [List.foldl_append]
def digs (n : Nat) : List Int := if n < 10 then [48 + (n : Int)] else digs (n / 10) ++ [48 + ((n % 10 : Nat) : Int)]
termination_by n
decreasing_by omega
theorem digs_lt {n : Nat} (h : n < 10) : digs n = [48 + (n : Int)] := by rw [digs, if_pos h]
theorem digs_ge {n : Nat} (h : 10 ≤ n) : digs n = digs (n / 10) ++ [48 + ((n % 10 : Nat) : Int)] := by rw [digs, if_neg (by omega)]
theorem digs_ind {p : Nat → Prop} (h0 : ∀ n, n < 10 → p n) (h1 : ∀ n, 10 ≤ n → p (n / 10) → p n) (n : Nat) : p n := by
  induction n using Nat.strongRecOn with
  | _ n ih =>
    by_cases h : n < 10
    · exact h0 n h
    · exact h1 n (by omega) (ih _ (by omega))
theorem numV_digs (n : Nat) : numV 0 (digs n) = (n : Int) := by
  induction n using digs_ind with
  | h0 n h => rw [digs_lt h]; show 10 * 0 + (48 + (n : Int) - 48) = n; omega
  | h1 n h ih =>
    rw [digs_ge h, numV_app, ih]
    show 10 * ((n / 10 : Nat) : Int) + (48 + ((n % 10 : Nat) : Int) - 48) = n
    omega
theorem digitB_of {x : Int} (h1 : 48 ≤ x) (h2 : x ≤ 57) : digitB x = true := by
  unfold digitB
  rw [decide_eq_true h1, decide_eq_true h2, Bool.and_true]
theorem digs_all (n : Nat) : ∀ x ∈ digs n, digitB x = true := by
  induction n using digs_ind with
  | h0 n h =>
    rw [digs_lt h]
    intro x hx
    obtain rfl := List.mem_singleton.1 hx
    exact digitB_of (by omega) (by omega)
  | h1 n h ih =>
    rw [digs_ge h]
    intro x hx
    rcases List.mem_append.1 hx with h2 | h2
    · exact ih x h2
    · obtain rfl := List.mem_singleton.1 h2
      exact digitB_of (by omega) (by omega)
theorem digs_ne (n : Nat) : digs n ≠ [] := by
  by_cases h : n < 10
  · rw [digs_lt h]; simp
  · rw [digs_ge (by omega)]; simp
theorem digs_rng (n : Nat) : ∀ x ∈ digs n, 0 ≤ x ∧ x < 256 := fun x hx => by have := dig_rng (digs_all n x hx); omega
theorem head_app {A B : List Int} (h : A ≠ []) : (A ++ B).head? = A.head? := by
  cases A with
  | nil => exact absurd rfl h
  | cons x r => rfl
theorem digs_head (n : Nat) (h : 0 < n) : (digs n).head? ≠ some 48 := by
  induction n using digs_ind with
  | h0 n h2 => rw [digs_lt h2]; simp; omega
  | h1 n h2 ih =>
    rw [digs_ge h2, head_app (digs_ne _)]
    exact ih (by omega)
theorem plain_digs (n : Nat) : plainL (digs n) = true := by
  unfold plainL
  have h1 : (digs n).isEmpty = false := by simpa using digs_ne n
  have h2 : (digs n).all digitB = true := List.all_eq_true.2 (digs_all n)
  rw [h1, h2]
  simp only [Bool.not_false, Bool.true_and, Bool.and_true]
  by_cases h : n < 10
  · rw [digs_lt h]; rfl
  · have := digs_head n (by omega)
    have h3 : ((digs n).head? == some 48) = false := by simpa using this
    rw [h3, Bool.and_false]
    rfl
theorem digs_len : ∀ (k n : Nat), 0 < k → n < 10 ^ k → (digs n).length ≤ k
  | 0, n, h, _ => absurd h (by decide)
  | k + 1, n, _, h => by
    by_cases h2 : n < 10
    · rw [digs_lt h2]; simp
    · rw [digs_ge (by omega)]
      have hk : 0 < k := by
        rcases Nat.eq_zero_or_pos k with rfl | h3
        · simp at h; omega
        · exact h3
      have := digs_len k (n / 10) hk (by rw [Nat.pow_succ] at h; omega)
      simp only [List.length_append, List.length_cons, List.length_nil]
      omega
theorem digs_back : ∀ (k : Nat) (L : List Int), L.length = k → plainL L = true → digs (numV 0 L).toNat = L
  | k, L, hk, h => by
    rcases List.eq_nil_or_concat L with rfl | ⟨A, x, rfl⟩
    · exact absurd h (by decide)
    have hall := plain_all h
    have hx := dig_rng (hall x (by simp))
    rw [List.concat_eq_append] at h hk hall ⊢
    rw [numV_app]
    rcases hA : A with _ | ⟨a, r⟩
    · rw [List.nil_append]
      have e : numV (numV 0 []) [x] = 10 * 0 + (x - 48) := rfl
      rw [e, digs_lt (by omega)]
      congr 1
      omega
    · rw [← hA]
      have hAn : A ≠ [] := by rw [hA]; simp
      have hhead : (A ++ [x]).head? = A.head? := head_app hAn
      have hlen : 0 < A.length := List.length_pos_iff.2 hAn
      have h48 : A.head? ≠ some 48 := by
        intro h2
        unfold plainL at h
        rw [hhead, h2] at h
        have : decide (1 < (A ++ [x]).length) = true := decide_eq_true (by simp only [List.length_append, List.length_cons, List.length_nil]; omega)
        rw [this] at h
        simp at h
      have hpA : plainL A = true := by
        unfold plainL
        have h1 : A.isEmpty = false := by simpa using hAn
        have h2 : A.all digitB = true := List.all_eq_true.2 fun y hy => hall y (by simp [hy])
        have h3 : (A.head? == some 48) = false := by simpa using h48
        rw [h1, h2, h3]
        simp
      have hpos := numV_mono A 0 (by omega) (plain_all hpA)
      have hne : numV 0 A ≠ 0 := by
        intro h0
        have := plain_zero hpA h0
        rw [this] at h48
        simp at h48
      have ih := digs_back A.length A rfl hpA
      have e : numV (numV 0 A) [x] = 10 * numV 0 A + (x - 48) := rfl
      rw [e, digs_ge (by omega), show (10 * numV 0 A + (x - 48)).toNat / 10 = (numV 0 A).toNat by omega, ih, show (48 + (((10 * numV 0 A + (x - 48)).toNat % 10 : Nat) : Int)) = x by omega]
termination_by k _ _ _ => k
decreasing_by
  subst hA
  simp only [List.length_append, List.length_cons, List.length_nil, List.concat_eq_append] at hk ⊢
  omega
theorem decL_digs : ∀ (k : Nat) (u : Int) (acc : List Int), 0 < k → 0 ≤ u → u < 10 ^ k → decL k u acc = digs u.toNat ++ acc
  | 0, u, acc, h, _, _ => absurd h (by decide)
  | k + 1, u, acc, _, h0, h1 => by
    unfold decL
    by_cases c : u / 10 = 0
    · rw [if_pos c, digs_lt (by omega), show 48 + u % 10 = 48 + (u.toNat : Int) by omega]
      rfl
    · rw [if_neg c, digs_ge (by omega)]
      have hk : 0 < k := by
        rcases Nat.eq_zero_or_pos k with rfl | h3
        · simp at h1; omega
        · exact h3
      rw [decL_digs k (u / 10) _ hk (by omega) (by rw [Int.pow_succ] at h1; omega), show (u / 10).toNat = u.toNat / 10 by omega, show 48 + u % 10 = 48 + ((u.toNat % 10 : Nat) : Int) by omega, List.append_assoc]
      rfl
theorem decimal_f (u : Int) (h0 : 0 ≤ u) (h1 : u < 18446744073709551616) : words_decimal.f u = some (strOfNums (digs u.toNat)) := by
  unfold words_decimal.f
  rw [if_pos ⟨h0, h1⟩, decL_digs 20 u [] (by decide) h0 (by omega), List.append_nil]
def sgnL (n : Int) : List Int := if n < 0 then [45] else []
theorem len20 (n : Nat) (h : n < 18446744073709551616) : (digs n).length ≤ 20 := digs_len 20 n (by decide) (by omega)
def textL (n : Int) : List Int := sgnL n ++ digs n.natAbs
theorem wsize_f (n : Int) (h1 : -9223372036854775808 ≤ n) (h2 : n ≤ 9223372036854775807) : words_size.f n = some ((n.natAbs : Int), strOfNums (sgnL n)) := by
  unfold words_size.f sgnL
  by_cases c : n < 0
  · rw [if_pos c, if_pos c]
    have : IntKind.u64.wrap (-(IntKind.u64.wrap n)) = (n.natAbs : Int) := by
      simp only [IntKind.wrap, IntKind.bits, IntKind.signed, Bool.false_and, Bool.false_eq_true, if_false]
      omega
    rw [this]
    rfl
  · rw [if_neg c, if_neg c]
    have : IntKind.u64.wrap n = (n.natAbs : Int) := by
      simp only [IntKind.wrap, IntKind.bits, IntKind.signed, Bool.false_and, Bool.false_eq_true, if_false]
      omega
    rw [this]
    rfl
theorem flat_join (l : List ByteArray) : bytesOf ⟨(Lib.join (l.map (·.data.toList)) (⟨#[]⟩ : ByteArray).data.toList).toArray⟩ = (l.map bytesOf).flatten := by
  unfold bytesOf
  show ((Lib.join (l.map (·.data.toList)) []).toArray.toList).map _ = _
  rw [List.toList_toArray]
  unfold Lib.join
  rw [List.intercalate]
  have e : ∀ m : List (List UInt8), (List.intersperse [] m).flatten = m.flatten := by
    intro m
    induction m with
    | nil => rfl
    | cons x r ih =>
      cases r with
      | nil => rfl
      | cons y r =>
        simp only [List.intersperse_cons_cons, List.flatten_cons, List.nil_append] at ih ⊢
        rw [ih]
  rw [e, List.map_flatten, List.map_map]
  rfl
theorem join0_f (l : List ByteArray) (h : (l.map bytesOf).flatten.length ≤ 140737488355328) (h2 : l.length ≤ 140737488355328) : strings_Join.f l (⟨#[]⟩ : ByteArray) = some (strOfNums (l.map bytesOf).flatten) := by
  unfold strings_Join.f
  have e := flat_join l
  have hl : (Lib.join (l.map (·.data.toList)) (⟨#[]⟩ : ByteArray).data.toList).length = (l.map bytesOf).flatten.length := by
    rw [← e, by_len]
    rfl
  rw [if_pos ⟨by rw [hl]; exact h, h2⟩]
  congr 1
  apply by_inj
  rw [e, by_str]
  intro x hx
  obtain ⟨y, hy, hx⟩ := List.mem_flatten.1 hx
  obtain ⟨s, _, rfl⟩ := List.mem_map.1 hy
  exact by_rng s x hx
theorem sgn_rng (n : Int) : ∀ x ∈ sgnL n, 0 ≤ x ∧ x < 256 := by
  unfold sgnL
  intro x hx
  split at hx
  · obtain rfl := List.mem_singleton.1 hx; omega
  · cases hx
theorem sgn_len (n : Int) : (sgnL n).length ≤ 1 := by
  unfold sgnL
  split <;> simp
theorem bnd {α β : Type} {x : Option α} {a : α} {f : α → Option β} {r : Option β} (h : x = some a) (k : f a = r) : x.bind f = r := by rw [h]; exact k
theorem dec_nat (n : Nat) (h : n < 18446744073709551616) : words_decimal.f (n : Int) = some (strOfNums (digs n)) := by
  have := decimal_f (n : Int) (by omega) (by omega)
  rwa [Int.toNat_natCast] at this
theorem text_join (n : Int) (h1 : -9223372036854775808 ≤ n) (h2 : n ≤ 9223372036854775807) : strings_Join.f [strOfNums (sgnL n), strOfNums (digs n.natAbs)] (⟨#[]⟩ : ByteArray) = some (strOfNums (textL n)) := by
  have e : ([strOfNums (sgnL n), strOfNums (digs n.natAbs)].map bytesOf).flatten = textL n := by
    simp only [List.map_cons, List.map_nil, List.flatten_cons, List.flatten_nil, List.append_nil]
    rw [by_str _ (sgn_rng n), by_str _ (digs_rng _), textL]
  have hl : (textL n).length ≤ 140737488355328 := by
    unfold textL
    rw [List.length_append]
    have := sgn_len n
    have := len20 n.natAbs (by omega)
    omega
  rw [join0_f _ (by rw [e]; exact hl) (by simp), e]
theorem text_f (n : Int) (h1 : -9223372036854775808 ≤ n) (h2 : n ≤ 9223372036854775807) : words_Text.f n = some (strOfNums (textL n)) := by
  unfold words_Text.f words_together.f
  refine bnd (wsize_f n h1 h2) ?_
  refine bnd (dec_nat n.natAbs (by omega)) ?_
  exact bnd (bnd (text_join n h1 h2) (Eq.refl _)) (Eq.refl _)
theorem unsign_sgn (n : Int) (T : List Int) (h : T.head? ≠ some 45) : unsign (sgnL n ++ T) = (T, decide (n < 0)) := by
  unfold unsign sgnL
  by_cases c : n < 0
  · rw [if_pos c, decide_eq_true c, List.singleton_append, List.head?_cons, if_pos rfl, List.tail_cons]
  · rw [if_neg c, decide_eq_false c, List.nil_append, if_neg h]
theorem dig_head {T : List Int} (h : ∀ x ∈ T, digitB x = true) : T.head? ≠ some 45 := by
  intro e
  have hm : (45 : Int) ∈ T := List.mem_of_head? e
  have := dig_rng (h _ hm)
  omega
theorem digs_zero {n : Nat} (h : digs n = [48]) : n = 0 := by
  have := numV_digs n
  rw [h] at this
  have e : numV 0 [48] = 0 := rfl
  omega
theorem int_text (n : Int) : intL (textL n) = if n.natAbs ≤ 1152921504606846976 then (n, 0) else (0, 3) := by
  unfold intL textL
  rw [unsign_sgn n _ (dig_head (digs_all _))]
  have hz : ¬ (decide (n < 0) = true ∧ digs n.natAbs = [48]) := by
    rintro ⟨h1, h2⟩
    have := digs_zero h2
    have := of_decide_eq_true h1
    omega
  rw [if_pos ⟨plain_digs _, hz⟩]
  unfold numR
  rw [numV_digs]
  by_cases c : n.natAbs ≤ 1152921504606846976
  · rw [if_neg (by omega), if_pos c]
    by_cases c2 : n < 0
    · rw [decide_eq_true c2, if_pos rfl]
      congr 1
      omega
    · rw [decide_eq_false c2, if_neg (by simp)]
      congr 1
      omega
  · rw [if_pos (by omega), if_neg c]
theorem text_int {L : List Int} (h : (intL L).2 = 0) : textL (intL L).1 = L ∧ -1152921504606846976 ≤ (intL L).1 ∧ (intL L).1 ≤ 1152921504606846976 ∧ plainL (unsign L).1 = true := by
  unfold intL at h ⊢
  by_cases c : plainL (unsign L).1 = true ∧ ¬((unsign L).2 = true ∧ (unsign L).1 = [48])
  case neg => rw [if_neg c] at h; exact absurd h (by decide)
  rw [if_pos c] at h ⊢
  unfold numR at h ⊢
  by_cases c2 : 1152921504606846976 < numV 0 (unsign L).1
  · rw [if_pos c2] at h; exact absurd h (by decide)
  rw [if_neg c2]
  have h0 := numV_mono (unsign L).1 0 (by omega) (plain_all c.1)
  have hb := digs_back _ (unsign L).1 rfl c.1
  unfold unsign at c c2 h0 hb ⊢
  by_cases c3 : L.head? = some 45
  · rw [if_pos c3] at c c2 h0 hb ⊢
    simp only [if_true]
    simp only [] at c c2 h0 hb
    have hne : numV 0 L.tail ≠ 0 := fun e => c.2 ⟨by trivial, plain_zero c.1 e⟩
    refine ⟨?_, by omega, by omega, c.1⟩
    unfold textL sgnL
    rw [if_pos (by omega), show (-(numV 0 L.tail)).natAbs = (numV 0 L.tail).toNat by omega, hb, List.singleton_append]
    cases L with
    | nil => cases c3
    | cons x r =>
      rw [List.head?_cons] at c3
      obtain rfl := Option.some.inj c3
      rfl
  · rw [if_neg c3] at c c2 h0 hb ⊢
    simp only [Bool.false_eq_true, if_false]
    simp only [] at c c2 h0 hb
    refine ⟨?_, by omega, by omega, c.1⟩
    unfold textL sgnL
    rw [if_neg (by omega), show (numV 0 L).natAbs = (numV 0 L).toNat by omega, hb, List.nil_append]
theorem okb_iff (b : Int) : okB b = true ↔ 32 < b ∧ b ≤ 126 := by unfold okB; simp
theorem good_ok {p : List Int} (h : goodP p = true) : p ≠ [] ∧ ∀ x ∈ p, okB x = true := by
  unfold goodP at h
  simp only [Bool.and_eq_true] at h
  refine ⟨fun e => ?_, List.all_eq_true.1 h.2⟩
  rw [e] at h
  exact absurd h.1 (by decide)
theorem ok_good {p : List Int} (hn : p ≠ []) (h : ∀ x ∈ p, okB x = true) : goodP p = true := by
  unfold goodP
  have : p.isEmpty = false := by simpa using hn
  rw [this, List.all_eq_true.2 h]
  rfl
theorem good_no {p : List Int} (h : goodP p = true) : (32 : Int) ∉ p := fun hm => by
  have := (okb_iff _).1 ((good_ok h).2 _ hm)
  omega
theorem fields_of_join {l : List ByteArray} (hl : l ≠ []) (h : ∀ x ∈ l, goodP (bytesOf x) = true) (hs : (joinS l).size ≤ 512) : fieldsS (joinS l) = (l, 0) := by
  unfold fieldsS fieldsE
  rw [joinS_by, if_neg (by rw [← joinS_by, by_len]; omega)]
  have hne : joinI (l.map bytesOf) ≠ [] := by
    cases l with
    | nil => exact absurd rfl hl
    | cons x r =>
      have hx := (good_ok (h x (by simp))).1
      cases r with
      | nil => simpa [joinI] using hx
      | cons y r => simp [joinI]
  have hsp : splitI 32 (joinI (l.map bytesOf)) = l.map bytesOf := split_join _ (by simpa using hl) (by
    intro p hp
    obtain ⟨x, hx, rfl⟩ := List.mem_map.1 hp
    exact good_no (h x hx))
  have hgood : (l.map bytesOf).all goodP = true := by
    rw [List.all_eq_true]
    intro p hp
    obtain ⟨x, hx, rfl⟩ := List.mem_map.1 hp
    exact h x hx
  rw [if_neg hne, hsp, if_pos hgood, map_str]
theorem join_of_fields {s : ByteArray} (h : (fieldsS s).2 = 0) : joinS (fieldsS s).1 = s := by
  unfold fieldsS fieldsE at h ⊢
  by_cases c1 : 512 < (bytesOf s).length
  · rw [if_pos c1] at h; exact absurd h (by decide)
  rw [if_neg c1] at h ⊢
  by_cases c2 : bytesOf s = []
  · rw [if_pos c2]
    apply by_inj
    rw [joinS_by, c2]
    rfl
  rw [if_neg c2] at h ⊢
  by_cases c3 : (splitI 32 (bytesOf s)).all goodP = true
  case neg => rw [if_neg c3] at h; exact absurd h (by decide)
  rw [if_pos c3]
  apply by_inj
  rw [joinS_by]
  have hr : ∀ p ∈ splitI 32 (bytesOf s), ∀ x ∈ p, 0 ≤ x ∧ x < 256 := by
    intro p hp x hx
    have := (okb_iff x).1 ((good_ok ((List.all_eq_true.1 c3) p hp)).2 x hx)
    omega
  have e : ((splitI 32 (bytesOf s)).map strOfNums).map bytesOf = splitI 32 (bytesOf s) := by
    rw [List.map_map]
    conv => rhs; rw [← List.map_id (splitI 32 (bytesOf s))]
    exact List.map_congr_left fun p hp => by simp [by_str p (hr p hp)]
  show joinI (((splitI 32 (bytesOf s)).map strOfNums).map bytesOf) = bytesOf s
  rw [e, join_split]
theorem fields_sz {s : ByteArray} : ∀ x ∈ (fieldsS s).1, x.size ≤ 4611686018427387904 := by
  intro x hx
  unfold fieldsS fieldsE at hx
  by_cases c1 : 512 < (bytesOf s).length
  · rw [if_pos c1] at hx; simp at hx
  rw [if_neg c1] at hx
  by_cases c2 : bytesOf s = []
  · rw [if_pos c2] at hx; simp at hx
  rw [if_neg c2] at hx
  by_cases c3 : (splitI 32 (bytesOf s)).all goodP = true
  case neg => rw [if_neg c3] at hx; simp at hx
  rw [if_pos c3] at hx
  obtain ⟨p, hp, rfl⟩ := List.mem_map.1 hx
  rw [strOfNums_size]
  have key : ∀ (L : List Int), ∀ q ∈ splitI 32 L, q.length ≤ L.length := by
    intro L
    induction L with
    | nil => intro q hq; simp [splitI] at hq; subst hq; simp
    | cons x r ih =>
      intro q hq
      unfold splitI at hq
      split at hq
      · rcases List.mem_cons.1 hq with h | h
        · subst h; simp
        · have := ih q h; simp; omega
      · split at hq
        · rename_i p1 q1 he
          rcases List.mem_cons.1 hq with h | h
          · subst h
            have := ih p1 (by rw [he]; simp)
            simp; omega
          · have := ih q (by rw [he]; simp [h])
            simp; omega
        · simp at hq; subst hq; simp
  have := key _ p hp
  omega
theorem text_rng9 (n : Int) : ∀ x ∈ textL n, okB x = true := by
  unfold textL sgnL
  intro x hx
  rw [okb_iff]
  rcases List.mem_append.1 hx with h | h
  · split at h
    · obtain rfl := List.mem_singleton.1 h; omega
    · cases h
  · have := dig_rng (digs_all _ x h); omega
theorem text_ne (n : Int) : textL n ≠ [] := by
  unfold textL
  intro h
  exact digs_ne _ (List.append_eq_nil_iff.1 h).2
def textS (n : Int) : ByteArray := strOfNums (textL n)
theorem textS_by (n : Int) : bytesOf (textS n) = textL n := by_str _ fun x hx => by have := (okb_iff x).1 (text_rng9 n x hx); omega
theorem textS_good (n : Int) : goodP (bytesOf (textS n)) = true := by
  rw [textS_by]
  exact ok_good (text_ne n) (text_rng9 n)
theorem textS_size (n : Int) (h1 : -9223372036854775808 ≤ n) (h2 : n ≤ 9223372036854775807) : (textS n).size ≤ 21 := by
  unfold textS
  rw [strOfNums_size]
  unfold textL
  rw [List.length_append]
  have := sgn_len n
  have := len20 n.natAbs (by omega)
  omega
theorem nameFrom_okB (s : ByteArray) (hs : s.size ≤ 12) : ∀ (d i : Nat), i + d = s.size → nameFrom s d i = true → ∀ b ∈ (bytesOf s).drop i, okB b = true
  | 0, i, hd, _, b, hb => by rw [by_end s i (by omega)] at hb; cases hb
  | d + 1, i, hd, h, b, hb => by
    have hi : i < s.size := by omega
    unfold nameFrom at h
    simp only [Bool.and_eq_true] at h
    rw [by_drop s i hi] at hb
    rcases List.mem_cons.1 hb with e | e
    · subst e
      have h1 := h.1
      unfold chB letterB digitB at h1
      simp only [Bool.or_eq_true, Bool.and_eq_true, decide_eq_true_eq] at h1
      rw [okb_iff]
      omega
    · exact nameFrom_okB s hs d (i + 1) (by omega) h.2 b e
theorem name_good {s : ByteArray} (h : nameB s = true) : goodP (bytesOf s) = true ∧ s.size ≤ 12 := by
  unfold nameB at h
  simp only [Bool.and_eq_true, decide_eq_true_eq] at h
  obtain ⟨⟨h1, h2⟩, h3⟩ := h
  have hok := nameFrom_okB s h2 s.size 0 (by omega) h3
  rw [List.drop_zero] at hok
  refine ⟨ok_good ?_ hok, h2⟩
  intro e
  have := by_len s
  rw [e, List.length_nil] at this
  omega
def I64 (n : Int) : Prop := -9223372036854775808 ≤ n ∧ n ≤ 9223372036854775807
def piecesS (s : ByteArray) : List ByteArray := (splitI 46 (bytesOf s)).map strOfNums
theorem split_pieces (s : ByteArray) (hs : s.size < 4294967281) : strings_Split.f s (⟨#[46]⟩ : ByteArray) = some (piecesS s) := by
  obtain ⟨l, h1, h2⟩ := split_f s 46 hs
  rw [h1]
  unfold piecesS
  have e : ((46 : UInt8).toNat : Int) = 46 := rfl
  rw [e] at h2
  rw [← h2, map_str]
theorem split_le (c : Int) : ∀ (L : List Int), ∀ q ∈ splitI c L, q.length ≤ L.length ∧ ∀ x ∈ q, x ∈ L := by
  intro L
  induction L with
  | nil => intro q hq; simp [splitI] at hq; subst hq; simp
  | cons x r ih =>
    intro q hq
    unfold splitI at hq
    split at hq
    · rcases List.mem_cons.1 hq with h | h
      · subst h; simp
      · have := ih q h
        exact ⟨by have := this.1; simp; omega, fun y hy => List.mem_cons_of_mem _ (this.2 y hy)⟩
    · split at hq
      · rename_i p1 q1 he
        rcases List.mem_cons.1 hq with h | h
        · subst h
          have := ih p1 (by rw [he]; simp)
          refine ⟨by have := this.1; simp; omega, fun y hy => ?_⟩
          rcases List.mem_cons.1 hy with e | e
          · subst e; simp
          · exact List.mem_cons_of_mem _ (this.2 y e)
        · have := ih q (by rw [he]; simp [h])
          exact ⟨by have := this.1; simp; omega, fun y hy => List.mem_cons_of_mem _ (this.2 y hy)⟩
      · simp at hq; subst hq; simp
theorem pieces_sz {s : ByteArray} {x : ByteArray} (h : x ∈ piecesS s) : x.size ≤ s.size := by
  unfold piecesS at h
  obtain ⟨p, hp, rfl⟩ := List.mem_map.1 h
  rw [strOfNums_size, ← by_len s]
  exact (split_le 46 _ p hp).1
theorem numV_cons (n x : Int) (L : List Int) : numV n (x :: L) = numV (10 * n + (x - 48)) L := by unfold numV; rw [List.foldl_cons]
theorem sdig_bad (s : ByteArray) (hs : s.size ≤ 4611686018427387904) : ∀ (d i : Nat) (n : Int), i + d = s.size → ((bytesOf s).drop i).all digitB = false → Ev (fun k => series_digits.l0 k s n s.size i) (0, false)
  | 0, i, n, hd, h => by rw [by_end s i (by omega)] at h; exact absurd h (by decide)
  | d + 1, i, n, hd, h => by
    have hi : i < s.size := by omega
    rw [by_drop s i hi, List.all_cons] at h
    have w1 : wrap64 ((i : Int) + 1) = ((i + 1 : Nat) : Int) := w_succ hi (by omega)
    refine Ev_succ ?_
    simp only [series_digits.l0, if_pos (show (i : Int) < (s.size : Int) by omega), if_pos (show 0 ≤ (i : Int) by omega)]
    by_cases c1 : bt s (i : Int) < 48
    · simp only [if_pos c1]; exact Ev.now _
    by_cases c2 : bt s (i : Int) > 57
    · simp only [if_neg c1, if_pos c2]; exact Ev.now _
    have hb : digitB (bt s (i : Int)) = true := by unfold digitB; simp; omega
    rw [hb, Bool.true_and] at h
    simp only [if_neg c1, if_neg c2, w1]
    exact sdig_bad s hs d (i + 1) _ (by omega) h
theorem sdig_ok (s : ByteArray) (hs : s.size ≤ 4611686018427387904) (hall : ∀ x ∈ bytesOf s, digitB x = true) : ∀ (d i : Nat) (n : Int), i + d = s.size → 0 ≤ n → numV n ((bytesOf s).drop i) ≤ 1000000000 → Ev (fun k => series_digits.l0 k s n s.size i) (numV n ((bytesOf s).drop i), true)
  | 0, i, n, hd, h0, h1 => by
    refine Ev_succ ?_
    rw [by_end s i (by omega)]
    simp only [series_digits.l0, if_neg (show ¬ (i : Int) < (s.size : Int) by omega)]
    exact Ev.now _
  | d + 1, i, n, hd, h0, h1 => by
    have hi : i < s.size := by omega
    have hr := by_drop s i hi
    have hm : ∀ x ∈ (bytesOf s).drop i, digitB x = true := fun x hx => hall x (List.mem_of_mem_drop hx)
    rw [hr] at hm h1 ⊢
    have hb := dig_rng (hm (bt s (i : Int)) (by simp))
    rw [numV_cons] at h1 ⊢
    have hm2 := numV_mono ((bytesOf s).drop (i + 1)) (10 * n + (bt s (i : Int) - 48)) (by omega) fun x hx => hm x (by simp [hx])
    have w1 : wrap64 ((i : Int) + 1) = ((i + 1 : Nat) : Int) := w_succ hi (by omega)
    have w2 : wrap64 (wrap64 (10 * n) + (bt s (i : Int) - 48) % 256) = 10 * n + (bt s (i : Int) - 48) := by
      rw [w_id (x := 10 * n) (by omega) (by omega), show (bt s (i : Int) - 48) % 256 = bt s (i : Int) - 48 by omega]
      exact w_id (by omega) (by omega)
    refine Ev_succ ?_
    simp only [series_digits.l0, if_pos (show (i : Int) < (s.size : Int) by omega), if_pos (show 0 ≤ (i : Int) by omega), if_neg (show ¬ bt s (i : Int) < 48 by omega), if_neg (show ¬ bt s (i : Int) > 57 by omega), w1, w2]
    exact sdig_ok s hs hall d (i + 1) _ (by omega) (by omega) h1
theorem num8 {L : List Int} (h8 : L.length = 8) (hd : ∀ x ∈ L, digitB x = true) : 0 ≤ numV 0 L ∧ numV 0 L ≤ 99999999 := by
  rcases L with _ | ⟨a, _ | ⟨b, _ | ⟨c, _ | ⟨d, _ | ⟨e, _ | ⟨f, _ | ⟨g, _ | ⟨h, _ | ⟨i, r⟩⟩⟩⟩⟩⟩⟩⟩⟩
  case cons.cons.cons.cons.cons.cons.cons.cons.nil =>
    have ha := dig_rng (hd a (by simp)); have hb := dig_rng (hd b (by simp)); have hc := dig_rng (hd c (by simp)); have hd' := dig_rng (hd d (by simp))
    have he := dig_rng (hd e (by simp)); have hf := dig_rng (hd f (by simp)); have hg := dig_rng (hd g (by simp)); have hh := dig_rng (hd h (by simp))
    simp only [numV, List.foldl_cons, List.foldl_nil]
    omega
  all_goals (simp at h8)
theorem sdig_f (s : ByteArray) (h8 : s.size = 8) : Ev (fun k => series_digits.f k s) (if (bytesOf s).all digitB = true then (numV 0 (bytesOf s), true) else (0, false)) := by
  unfold series_digits.f
  by_cases c : (bytesOf s).all digitB = true
  · rw [if_pos c]
    have hall := List.all_eq_true.1 c
    have hb := num8 (by rw [by_len, h8]) hall
    have := sdig_ok s (by omega) hall s.size 0 0 (by omega) (by omega) (by rw [List.drop_zero]; omega)
    rw [List.drop_zero] at this
    exact this
  · rw [if_neg c]
    exact sdig_bad s (by omega) s.size 0 0 (by omega) (by rw [List.drop_zero]; simpa using c)
theorem one_byte (s : ByteArray) (c : UInt8) : s.toList = [c] ↔ bytesOf s = [(c.toNat : Int)] := by rw [by_toList]; simp
theorem ext_one (s : ByteArray) (c : UInt8) : (s.extract 0 1).toList = [c] ↔ (bytesOf s).head? = some (c.toNat : Int) := by
  rw [one_byte, by_ext, List.drop_zero]
  cases bytesOf s with
  | nil => simp
  | cons x r => simp
theorem pre_f (s : ByteArray) (c : UInt8) : strings_HasPrefix.f s (⟨#[c]⟩ : ByteArray) = some (decide ((bytesOf s).head? = some (c.toNat : Int))) := by
  unfold strings_HasPrefix.f stringslite_HasPrefix.f
  have e1 : (⟨#[c]⟩ : ByteArray).size = 1 := rfl
  have e2 : (⟨#[c]⟩ : ByteArray).toList = [c] := by rw [ByteArray.toList_eq]
  rw [e1, e2]
  by_cases h : 1 ≤ s.size
  · rw [if_pos (show (s.size : Int) ≥ ((1 : Nat) : Int) by omega), if_pos (by omega), if_pos (show ((1 : Nat) : Int) ≤ (s.size : Int) by omega)]
    have e3 : (((1 : Nat) : Int)).toNat = 1 := rfl
    simp only [e3, Option.bind_some]
    congr 1
    rw [Bool.eq_iff_iff, beq_iff_eq, ext_one, decide_eq_true_iff]
  · rw [if_neg (show ¬ (s.size : Int) ≥ ((1 : Nat) : Int) by omega)]
    have : bytesOf s = [] := List.length_eq_zero_iff.1 (by rw [by_len]; omega)
    rw [this]
    rfl
def kindI (C : List Int) : Int := if C = [102] then 1 else if C.head? = some 99 then 2 else if C.head? = some 112 then 3 else 0
theorem what_f (s : ByteArray) : series_what.f s = some (if kindI (bytesOf s) = 1 then (1, (⟨#[]⟩ : ByteArray), true) else if kindI (bytesOf s) = 0 then (0, (⟨#[]⟩ : ByteArray), false) else (kindI (bytesOf s), s.extract 1 s.size, true)) := by
  unfold series_what.f kindI
  have hs : ∀ c : Int, (bytesOf s).head? = some c → 1 ≤ (s.size : Int) := by
    intro c hc
    have : bytesOf s ≠ [] := fun e => by rw [e] at hc; cases hc
    have := List.length_pos_iff.2 this
    rw [by_len] at this
    omega
  by_cases c1 : s.toList = [102]
  · have c1' : bytesOf s = [102] := (one_byte s 102).1 c1
    rw [if_pos c1, if_pos c1', if_pos rfl]
  · have c1' : ¬ bytesOf s = [102] := fun e => c1 ((one_byte s 102).2 e)
    rw [if_neg c1, if_neg c1', pre_f]
    simp only [Option.bind_some]
    have e99 : ((99 : UInt8).toNat : Int) = 99 := rfl
    have e112 : ((112 : UInt8).toNat : Int) = 112 := rfl
    rw [e99]
    by_cases c2 : (bytesOf s).head? = some 99
    · rw [if_pos c2, if_pos (decide_eq_true c2), if_pos (hs _ c2)]
      rfl
    · rw [if_neg c2, if_neg (by simpa using c2), pre_f, e112]
      simp only [Option.bind_some]
      by_cases c3 : (bytesOf s).head? = some 112
      · rw [if_pos c3, if_pos (decide_eq_true c3), if_pos (hs _ c3)]
        rfl
      · rw [if_neg c3, if_neg (by simpa using c3)]
        rfl
def zS : Ser := ⟨(⟨#[]⟩ : ByteArray), 0, 0, 0⟩
def tS (q : Ser × Int) : ByteArray × Int × Int × Int × Int := (q.1.f0, q.1.f1, q.1.f2, q.1.f3, q.2)
def dayOf (n : Int) : Int × Int := ofV (n / 10000) (n / 100 % 100) (n % 100)
def okForm (a b c : ByteArray) : Prop := nameB a = true ∧ b.size = 8 ∧ (bytesOf b).all digitB = true ∧ kindI (bytesOf c) ≠ 0
instance (a b c : ByteArray) : Decidable (okForm a b c) := inferInstanceAs (Decidable (_ ∧ _ ∧ _ ∧ _))
def parse3 (a b c : ByteArray) : Ser × Int :=
  if okForm a b c then
    (if (dayOf (numV 0 (bytesOf b))).2 = 0 then
      (if kindI (bytesOf c) = 1 then (⟨a, 1, (dayOf (numV 0 (bytesOf b))).1, 0⟩, 0) else
        (if (intL (bytesOf c).tail).2 = 0 then (if (intL (bytesOf c).tail).1 < -16777216 ∨ (intL (bytesOf c).tail).1 > 16777216 then (zS, 17) else (⟨a, kindI (bytesOf c), (dayOf (numV 0 (bytesOf b))).1, (intL (bytesOf c).tail).1⟩, 0)) else (zS, (intL (bytesOf c).tail).2)))
    else (zS, 15))
  else (zS, 5)
def parseL (l : List ByteArray) : Ser × Int := if l.length = 3 then parse3 (rdOf ByteArray.empty l 0) (rdOf ByteArray.empty l 1) (rdOf ByteArray.empty l 2) else (zS, 5)
def parseS (s : ByteArray) : Ser × Int := parseL (piecesS s)
theorem tail_ext (s : ByteArray) : bytesOf (s.extract 1 s.size) = (bytesOf s).tail := by rw [by_ext, ← by_len, List.take_length, List.drop_one]
theorem kind_cases (C : List Int) : kindI C = 0 ∨ kindI C = 1 ∨ kindI C = 2 ∨ kindI C = 3 := by unfold kindI; repeat' first | split | omega
theorem sparse_j1 (l : List ByteArray) (hl : l.length = 3) (hz : ∀ x ∈ l, x.size ≤ 4611686018427387904) (hf : okForm (rdOf ByteArray.empty l 0) (rdOf ByteArray.empty l 1) (rdOf ByteArray.empty l 2)) (x8 : ByteArray) (h8 : kindI (bytesOf (rdOf ByteArray.empty l 2)) ≠ 1 → x8 = (rdOf ByteArray.empty l 2).extract 1 (rdOf ByteArray.empty l 2).size) :
    Ev (fun k => series_Parse.j1 k l (numV 0 (bytesOf (rdOf ByteArray.empty l 1))) (kindI (bytesOf (rdOf ByteArray.empty l 2))) x8 false (⟨#[]⟩ : ByteArray) 0 0 0) (tS (parse3 (rdOf ByteArray.empty l 0) (rdOf ByteArray.empty l 1) (rdOf ByteArray.empty l 2))) := by
  have hz2 : (rdOf ByteArray.empty l 2).size ≤ 4611686018427387904 := by
    have e : rdOf ByteArray.empty l 2 = l[2]'(by omega) := rdOf_nat _ _ 2 _
    rw [e]; exact hz _ (List.getElem_mem _)
  generalize rdOf ByteArray.empty l 2 = c at *
  generalize rdOf ByteArray.empty l 1 = b at *
  obtain ⟨f1, f2, f3, f4⟩ := hf
  have hn := num8 (by rw [by_len, f2]) (List.all_eq_true.1 f3)
  have hok : okForm (rdOf ByteArray.empty l 0) b c := ⟨f1, f2, f3, f4⟩
  refine Ev_succ ?_
  unfold parse3
  rw [if_pos hok]
  generalize numV 0 (bytesOf b) = n at *
  have q1 : wrap64 (Int.tdiv n 10000) = n / 10000 := by rw [Int.tdiv_eq_ediv_of_nonneg (by omega)]; exact w_id (by omega) (by omega)
  have q2 : wrap64 (Int.tdiv n 100) = n / 100 := by rw [Int.tdiv_eq_ediv_of_nonneg (by omega)]; exact w_id (by omega) (by omega)
  have q3 : Int.tmod (n / 100) 100 = n / 100 % 100 := Int.tmod_eq_emod_of_nonneg (by omega)
  have q4 : Int.tmod n 100 = n % 100 := Int.tmod_eq_emod_of_nonneg (by omega)
  have qd : date_Of.f (n / 10000) (n / 100 % 100) (n % 100) = some (dayOf n) := rfl
  simp only [series_Parse.j1, Bool.false_eq_true, if_false, q1, q2, q3, q4, qd, Option.bind_some]
  by_cases c1 : (dayOf n).2 = 0
  case neg => simp only [if_neg c1]; exact Ev.now _
  simp only [if_pos c1]
  have hl0 : (0 : Int) < (l.length : Int) := by omega
  by_cases c2 : kindI (bytesOf c) = 1
  · simp only [if_pos c2, if_pos hl0]
    rw [c2]
    exact Ev.now _
  · simp only [if_neg c2, h8 c2]
    have hi := int_f (c.extract 1 c.size) (by rw [ByteArray.size_extract]; omega)
    rw [tail_ext] at hi
    refine Ev_bind hi ?_
    by_cases c3 : (intL (bytesOf c).tail).2 = 0
    case neg => simp only [if_neg c3]; exact Ev.now _
    simp only [if_pos c3]
    by_cases c4 : (intL (bytesOf c).tail).1 < -16777216
    · simp only [if_pos c4, if_pos (Or.inl c4 : (intL (bytesOf c).tail).1 < -16777216 ∨ (intL (bytesOf c).tail).1 > 16777216)]; exact Ev.now _
    by_cases c5 : (intL (bytesOf c).tail).1 > 16777216
    · simp only [if_neg c4, if_pos c5, if_pos (Or.inr c5 : (intL (bytesOf c).tail).1 < -16777216 ∨ (intL (bytesOf c).tail).1 > 16777216)]; exact Ev.now _
    have c6 : ¬ ((intL (bytesOf c).tail).1 < -16777216 ∨ (intL (bytesOf c).tail).1 > 16777216) := by omega
    simp only [if_neg c4, if_neg c5, if_neg c6, if_pos hl0]
    exact Ev.now _
theorem parse_f10 (s : ByteArray) (hs : s.size ≤ 4294967280) : Ev (fun k => series_Parse.f k s) (tS (parseS s)) := by
  unfold series_Parse.f parseS
  rw [split_pieces s (by omega)]
  have hz : ∀ x ∈ piecesS s, x.size ≤ 4611686018427387904 := fun x hx => by have := pieces_sz hx; omega
  generalize piecesS s = l at *
  simp only [Option.bind_some]
  have bad : Ev (fun k => series_Parse.j0 k l true (⟨#[]⟩ : ByteArray) 0 0 0) (tS (zS, 5)) := Ev_succ (by simp only [series_Parse.j0, if_true]; exact Ev.now _)
  unfold parseL
  by_cases c0 : l.length = 3
  case neg =>
    rw [if_neg c0]
    simp only [if_neg (show ¬ (l.length : Int) = 3 by omega)]
    exact bad
  rw [if_pos c0]
  simp only [if_pos (show (l.length : Int) = 3 by omega), if_pos (show (0 : Int) < (l.length : Int) by omega)]
  refine Ev_bind (name_f (rdOf ByteArray.empty l 0)) ?_
  have no : ¬ okForm (rdOf ByteArray.empty l 0) (rdOf ByteArray.empty l 1) (rdOf ByteArray.empty l 2) → parse3 (rdOf ByteArray.empty l 0) (rdOf ByteArray.empty l 1) (rdOf ByteArray.empty l 2) = (zS, 5) := fun h => by unfold parse3; rw [if_neg h]
  by_cases c1 : nameB (rdOf ByteArray.empty l 0) = true
  case neg => simp only [if_neg c1]; rw [no fun h => c1 h.1]; exact bad
  simp only [if_pos c1, if_pos (show (1 : Int) < (l.length : Int) by omega)]
  by_cases c2 : (rdOf ByteArray.empty l 1).size = 8
  case neg =>
    have e : (((rdOf ByteArray.empty l 1).size : Int) != 8) = true := by rw [bne_iff_ne]; omega
    rw [no fun h => c2 h.2.1]
    simp only [e]
    exact bad
  have e : (((rdOf ByteArray.empty l 1).size : Int) != 8) = false := by rw [bne_eq_false_iff_eq]; omega
  simp only [e]
  refine Ev_succ ?_
  simp only [series_Parse.j0, Bool.false_eq_true, if_false, if_pos (show (1 : Int) < (l.length : Int) by omega), if_pos (show (2 : Int) < (l.length : Int) by omega)]
  refine Ev_bind (sdig_f _ c2) ?_
  rw [what_f]
  simp only [Option.bind_some]
  have bad1 : ∀ n b q, Ev (fun k => series_Parse.j1 k l n b q true (⟨#[]⟩ : ByteArray) 0 0 0) (tS (zS, 5)) := fun n b q => Ev_succ (by simp only [series_Parse.j1, if_true]; exact Ev.now _)
  by_cases c3 : (bytesOf (rdOf ByteArray.empty l 1)).all digitB = true
  case neg =>
    rw [no fun h => c3 h.2.2.1]
    simp only [if_neg c3, Bool.false_eq_true, if_false]
    exact bad1 _ _ _
  simp only [if_pos c3, if_true]
  by_cases c4 : kindI (bytesOf (rdOf ByteArray.empty l 2)) = 0
  · rw [no fun h => h.2.2.2 c4]
    have c5 : ¬ kindI (bytesOf (rdOf ByteArray.empty l 2)) = 1 := by omega
    simp only [if_neg c5, if_pos c4, Bool.not_false]
    exact bad1 _ _ _
  · have hf : okForm (rdOf ByteArray.empty l 0) (rdOf ByteArray.empty l 1) (rdOf ByteArray.empty l 2) := ⟨c1, c2, c3, c4⟩
    by_cases c5 : kindI (bytesOf (rdOf ByteArray.empty l 2)) = 1
    · simp only [if_pos c5, Bool.not_true]
      have := sparse_j1 l c0 hz hf (⟨#[]⟩ : ByteArray) (fun h => absurd c5 h)
      rw [c5] at this
      exact this
    · simp only [if_neg c5, if_neg c4, Bool.not_true]
      exact sparse_j1 l c0 hz hf _ (fun _ => rfl)
def digsF : Int → Nat → List Int
  | _, 0 => []
  | n, d + 1 => digsF (n / 10) d ++ [48 + n % 10]
def dayL (day : Int) : List Int := digsF (splitV day).1 4 ++ digsF (splitV day).2.1 2 ++ digsF (splitV day).2.2.1 2
def dayS (day : Int) : ByteArray := strOfNums (dayL day)
def okPrint (s : Ser) : Prop := 1 ≤ s.f1 ∧ s.f1 ≤ 3 ∧ 0 ≤ s.f2 ∧ s.f2 ≤ 73048
instance (s : Ser) : Decidable (okPrint s) := inferInstanceAs (Decidable (_ ∧ _ ∧ _ ∧ _))
def frontS (s : Ser) : ByteArray := ((s.f0 ++ (⟨#[46]⟩ : ByteArray)) ++ dayS s.f2) ++ (⟨#[46]⟩ : ByteArray)
def printS (s : Ser) : ByteArray := if okPrint s then (if s.f1 = 2 then (frontS s ++ (⟨#[99]⟩ : ByteArray)) ++ textS s.f3 else if s.f1 = 3 then (frontS s ++ (⟨#[112]⟩ : ByteArray)) ++ textS s.f3 else frontS s ++ (⟨#[102]⟩ : ByteArray)) else (⟨#[]⟩ : ByteArray)
theorem dayS_size (day : Int) : (dayS day).size = 8 := by unfold dayS; rw [strOfNums_size]; rfl
theorem day_print {day : Int} (h : 0 ≤ day ∧ day ≤ 73048) : strings_ReplaceAll.f (strOfNums (dateC (splitV day).1 (splitV day).2.1 (splitV day).2.2.1 false false false)) (⟨#[45]⟩ : ByteArray) (⟨#[]⟩ : ByteArray) = some (dayS day) := by
  obtain ⟨r1, r2, r3, r4, r5, r6⟩ := split_rng h
  have r7 := split_day h
  unfold strings_ReplaceAll.f
  rw [if_pos]
  · have := day_out (a := 48 + (splitV day).1 / 1000 % 10) (b := 48 + (splitV day).1 / 100 % 10) (c := 48 + (splitV day).1 / 10 % 10) (d := 48 + (splitV day).1 % 10) (e := 48 + (splitV day).2.1 / 10 % 10) (f := 48 + (splitV day).2.1 % 10) (g := 48 + (splitV day).2.2.1 / 10 % 10) (h := 48 + (splitV day).2.2.1 % 10) (by omega) (by omega) (by omega) (by omega) (by omega) (by omega) (by omega) (by omega)
    rw [show strOfNums (dateC (splitV day).1 (splitV day).2.1 (splitV day).2.2.1 false false false) = strOfNums [48 + (splitV day).1 / 1000 % 10, 48 + (splitV day).1 / 100 % 10, 48 + (splitV day).1 / 10 % 10, 48 + (splitV day).1 % 10, 45, 48 + (splitV day).2.1 / 10 % 10, 48 + (splitV day).2.1 % 10, 45, 48 + (splitV day).2.2.1 / 10 % 10, 48 + (splitV day).2.2.1 % 10] from rfl]
    show some (⟨(Lib.replaceAll _ [45] []).toArray⟩ : ByteArray) = _
    rw [this]
    unfold dayS dayL
    congr 2
    show _ = [48 + (splitV day).1 / 10 / 10 / 10 % 10, 48 + (splitV day).1 / 10 / 10 % 10, 48 + (splitV day).1 / 10 % 10, 48 + (splitV day).1 % 10, 48 + (splitV day).2.1 / 10 % 10, 48 + (splitV day).2.1 % 10, 48 + (splitV day).2.2.1 / 10 % 10, 48 + (splitV day).2.2.1 % 10]
    rw [show (splitV day).1 / 10 / 10 / 10 = (splitV day).1 / 1000 by omega, show (splitV day).1 / 10 / 10 = (splitV day).1 / 100 by omega]
  · refine ⟨?_, by decide, ?_⟩
    · rw [strOfNums_size]; show 10 < 4294967281; decide
    · rw [strOfNums_size]; show 10 + _ * 0 ≤ 140737488355328; omega
theorem print_f10 (s : Ser) (h0 : s.f0.size ≤ 140737488351232) (h3 : I64 s.f3) : Ev (fun k => series_Print.f k s.f0 s.f1 s.f2 s.f3) (printS s) := by
  unfold series_Print.f date_Print.f printS
  simp only [Option.bind_some]
  have bad : ∀ t, ¬ okPrint s → Ev (fun k => series_Print.j0 k t true s.f0 s.f1 s.f2 s.f3) (if okPrint s then (if s.f1 = 2 then (frontS s ++ (⟨#[99]⟩ : ByteArray)) ++ textS s.f3 else if s.f1 = 3 then (frontS s ++ (⟨#[112]⟩ : ByteArray)) ++ textS s.f3 else frontS s ++ (⟨#[102]⟩ : ByteArray)) else (⟨#[]⟩ : ByteArray)) := fun t h => by
    rw [if_neg h]
    refine Ev_succ ?_
    simp only [series_Print.j0, if_true]
    exact Ev.now _
  by_cases c1 : s.f1 < 1
  · simp only [if_pos c1]; exact bad _ fun h => by have := h.1; omega
  by_cases c2 : s.f1 > 3
  · simp only [if_neg c1, if_pos c2]; exact bad _ fun h => by have := h.2.1; omega
  simp only [if_neg c1, if_neg c2]
  by_cases c3 : 0 ≤ s.f2 ∧ s.f2 ≤ 73048
  case neg =>
    simp only [if_neg c3]
    have e : ((⟨#[]⟩ : ByteArray).toList == ([] : List UInt8)) = true := by rw [beq_iff_eq, by_emp]; rfl
    rw [e]
    exact bad _ fun h => c3 h.2.2
  simp only [if_pos c3]
  have hok : okPrint s := ⟨by omega, by omega, c3⟩
  rw [if_pos hok]
  have hne : ((strOfNums (dateC (splitV s.f2).1 (splitV s.f2).2.1 (splitV s.f2).2.2.1 false false false)).toList == ([] : List UInt8)) = false := by
    rw [beq_eq_false_iff_ne]
    intro h
    have := congrArg List.length ((by_emp _).1 h)
    rw [by_len, strOfNums_size] at this
    exact absurd this (by show ¬ (10 : Nat) = 0; decide)
  rw [hne]
  refine Ev_succ ?_
  have z := dayS_size s.f2
  have zt := textS_size s.f3 h3.1 h3.2
  have z46 : (⟨#[46]⟩ : ByteArray).size = 1 := rfl
  have z99 : (⟨#[99]⟩ : ByteArray).size = 1 := rfl
  have z112 : (⟨#[112]⟩ : ByteArray).size = 1 := rfl
  have ht : words_Text.f s.f3 = some (textS s.f3) := text_f s.f3 h3.1 h3.2
  simp only [series_Print.j0, Bool.false_eq_true, if_false, day_print c3, Option.bind_some, ByteArray.size_append, z, z46, z99, z112, ht, if_pos (show s.f0.size + 1 ≤ 9223372036854775807 by omega), if_pos (show s.f0.size + 1 + 8 ≤ 9223372036854775807 by omega), if_pos (show s.f0.size + 1 + 8 + 1 ≤ 9223372036854775807 by omega), if_pos (show s.f0.size + 1 + 8 + 1 + 1 ≤ 9223372036854775807 by omega), if_pos (show s.f0.size + 1 + 8 + 1 + 1 + (textS s.f3).size ≤ 9223372036854775807 by omega)]
  unfold frontS
  by_cases d2 : s.f1 = 2
  · simp only [if_pos d2]; exact Ev.now _
  by_cases d3 : s.f1 = 3
  · simp only [if_neg d2, if_pos d3]; exact Ev.now _
  · simp only [if_neg d2, if_neg d3]; exact Ev.now _
theorem monSum_mono (b : Bool) : ∀ (d m : Nat), monSum b m ≤ monSum b (m + d)
  | 0, m => Int.le_refl _
  | d + 1, m => by
    have h1 := monSum_mono b d m
    have h2 := monLen_rng b (m + d)
    have e : monSum b (m + (d + 1)) = monSum b (m + d) + monLen b (m + d) := rfl
    omega
theorem monAt_stop (b : Bool) (D : Int) (h1 : D < monSum b 13) : ∀ (f m : Nat), m + f = 13 → monSum b m ≤ D → D - monSum b (monAt b D f m) < monLen b (monAt b D f m) ∧ monSum b (monAt b D f m) ≤ D
  | 0, m, hf, hs => by
    obtain rfl : m = 13 := by omega
    omega
  | f + 1, m, hf, hs => by
    unfold monAt
    by_cases c : monLen b m ≤ D - monSum b m
    · rw [if_pos c]
      have e : monSum b (m + 1) = monSum b m + monLen b m := rfl
      exact monAt_stop b D h1 f (m + 1) (by omega) (by omega)
    · rw [if_neg c]; omega
theorem monAt_eq (b : Bool) (D : Int) (m : Nat) (hm : m ≤ 12) (h0 : monSum b m ≤ D) (h1 : D < monSum b (m + 1)) : ∀ (f c : Nat), c + f = 13 → c ≤ m → monAt b D f c = m
  | 0, c, hf, hc => by omega
  | f + 1, c, hf, hc => by
    have e : monSum b (m + 1) = monSum b m + monLen b m := rfl
    have e2 : monSum b (c + 1) = monSum b c + monLen b c := rfl
    unfold monAt
    by_cases x : c = m
    · subst x
      rw [if_neg (by omega)]
    · have h2 := monSum_mono b (m - (c + 1)) (c + 1)
      rw [show c + 1 + (m - (c + 1)) = m by omega] at h2
      rw [if_pos (by omega)]
      exact monAt_eq b D m hm h0 h1 f (c + 1) (by omega) (by omega)
theorem of_split {day : Int} (h : 0 ≤ day ∧ day ≤ 73048) : ofV (splitV day).1 (splitV day).2.1 (splitV day).2.2.1 = (day, 0) := by
  obtain ⟨r1, r2, r3, r4, r5, r6⟩ := split_rng h
  obtain ⟨y1, y2, y3⟩ := year_ok h
  have hst := monAt_stop (leapB (2000 + (yearK day : Int))) (day - startV (2000 + (yearK day : Int))) y3 12 1 (by omega) (by rw [monSum_one]; exact y2)
  unfold splitV at r1 r2 r3 r4 r5 r6 ⊢
  rw [if_pos h] at r1 r2 r3 r4 r5 r6 ⊢
  simp only at r1 r2 r3 r4 r5 r6 ⊢
  have hd : daysV (2000 + (yearK day : Int)) ((monAt (leapB (2000 + (yearK day : Int))) (day - startV (2000 + (yearK day : Int))) 12 1 : Nat) : Int) = monLen (leapB (2000 + (yearK day : Int))) (monAt (leapB (2000 + (yearK day : Int))) (day - startV (2000 + (yearK day : Int))) 12 1) := by
    unfold daysV
    rw [if_pos ⟨r3, r4⟩, Int.toNat_natCast]
  unfold ofV
  rw [hd, if_neg (by omega), Int.toNat_natCast]
  congr 1
  omega
theorem split_of {y m d : Int} (h1 : 2000 ≤ y) (h2 : y ≤ 2199) (h3 : 1 ≤ d) (h4 : d ≤ daysV y m) : (0 ≤ (ofV y m d).1 ∧ (ofV y m d).1 ≤ 73048) ∧ splitV (ofV y m d).1 = (y, m, d, 0) ∧ (ofV y m d).2 = 0 := by
  obtain ⟨m1, m2, m3⟩ := days_pos h3 h4
  have e : ofV y m d = (startV y + d - 1 + monSum (leapB y) m.toNat, 0) := by unfold ofV; rw [if_neg (by omega)]
  rw [e]
  show (0 ≤ startV y + d - 1 + monSum (leapB y) m.toNat ∧ startV y + d - 1 + monSum (leapB y) m.toNat ≤ 73048) ∧ splitV (startV y + d - 1 + monSum (leapB y) m.toNat) = (y, m, d, 0) ∧ (0 : Int) = 0
  obtain ⟨M, rfl⟩ : ∃ M : Nat, m = (M : Int) := ⟨m.toNat, by omega⟩
  rw [Int.toNat_natCast]
  have hdv : daysV y (M : Int) = monLen (leapB y) M := by unfold daysV; rw [if_pos ⟨m1, m2⟩, Int.toNat_natCast]
  rw [hdv] at h4
  have hs := monSum_rng (leapB y) M
  have hy := startV_rng1 (y := y) (by omega) (by omega)
  have hsu := startV_succ h1 h2
  have e1 : monSum (leapB y) (M + 1) = monSum (leapB y) M + monLen (leapB y) M := rfl
  have hmo := monSum_mono (leapB y) (13 - (M + 1)) (M + 1)
  rw [show M + 1 + (13 - (M + 1)) = 13 by omega, monSum_all] at hmo
  have hend : startV (y + 1) ≤ 73049 := by
    have := startV_mono (a := y + 1) (b := 2200) (by omega) (by omega)
    have e2 : startV 2200 = 73049 := by decide
    omega
  have hlt : startV y + d - 1 + monSum (leapB y) M < startV (y + 1) := by omega
  have hday : 0 ≤ startV y + d - 1 + monSum (leapB y) M ∧ startV y + d - 1 + monSum (leapB y) M ≤ 73048 := by omega
  refine ⟨hday, ?_, rfl⟩
  obtain ⟨y1, y2, y3⟩ := year_ok hday
  generalize hD : startV y + d - 1 + monSum (leapB y) M = day at *
  have hsk := startV_succ (c := 2000 + (yearK day : Int)) (by omega) (by omega)
  rw [monSum_all] at y3
  have hk : 2000 + (yearK day : Int) = y := by
    by_cases a : 2000 + (yearK day : Int) < y
    · have := startV_mono (a := 2000 + (yearK day : Int) + 1) (b := y) (by omega) (by omega)
      omega
    · by_cases b : y < 2000 + (yearK day : Int)
      · have := startV_mono (a := y + 1) (b := 2000 + (yearK day : Int)) (by omega) (by omega)
        omega
      · omega
  unfold splitV
  rw [if_pos hday, hk]
  have hma := monAt_eq (leapB y) (day - startV y) M (by omega) (by omega) (by omega) 12 1 (by omega) (by omega)
  rw [hma]
  congr 3
  omega
theorem name_ch {s : ByteArray} (h : nameB s = true) : ∀ x ∈ bytesOf s, letterB x = true ∨ digitB x = true := by
  unfold nameB at h
  simp only [Bool.and_eq_true, decide_eq_true_eq] at h
  have key : ∀ (d i : Nat), i + d = s.size → nameFrom s d i = true → ∀ b ∈ (bytesOf s).drop i, letterB b = true ∨ digitB b = true := by
    intro d
    induction d with
    | zero => intro i hd _ b hb; rw [by_end s i (by omega)] at hb; cases hb
    | succ d ih =>
      intro i hd h b hb
      unfold nameFrom at h
      simp only [Bool.and_eq_true] at h
      rw [by_drop s i (by omega)] at hb
      rcases List.mem_cons.1 hb with e | e
      · subst e
        have h1 := h.1
        unfold chB at h1
        simp only [Bool.or_eq_true, Bool.and_eq_true] at h1
        rcases h1 with h1 | h1
        · exact Or.inl h1
        · exact Or.inr h1.2
      · exact ih (i + 1) (by omega) h.2 b e
  have := key s.size 0 (by omega) h.2
  rwa [List.drop_zero] at this
theorem name_no {s : ByteArray} (h : nameB s = true) : (46 : Int) ∉ bytesOf s := fun hm => by
  rcases name_ch h _ hm with h | h <;> exact absurd h (by decide)
theorem digsF_dig : ∀ (d : Nat) (n : Int), ∀ x ∈ digsF n d, digitB x = true
  | 0, n, x, hx => by cases hx
  | d + 1, n, x, hx => by
    rcases List.mem_append.1 hx with h | h
    · exact digsF_dig d (n / 10) x h
    · obtain rfl := List.mem_singleton.1 h
      unfold digitB
      simp only [Bool.and_eq_true, decide_eq_true_eq]
      omega
theorem dayL_dig (day : Int) : ∀ x ∈ dayL day, digitB x = true := by
  unfold dayL
  intro x hx
  rcases List.mem_append.1 hx with h | h
  · rcases List.mem_append.1 h with h | h
    · exact digsF_dig _ _ x h
    · exact digsF_dig _ _ x h
  · exact digsF_dig _ _ x h
theorem dig_no {L : List Int} (h : ∀ x ∈ L, digitB x = true) : (46 : Int) ∉ L := fun hm => absurd (h _ hm) (by decide)
theorem dayS_by (day : Int) : bytesOf (dayS day) = dayL day := by_str _ fun x hx => by have := dig_rng (dayL_dig day x hx); omega
theorem text_no (n : Int) : (46 : Int) ∉ textL n := by
  unfold textL sgnL
  intro hm
  rcases List.mem_append.1 hm with h | h
  · split at h
    · have := List.mem_singleton.1 h; omega
    · cases h
  · exact absurd (digs_all _ _ h) (by decide)
theorem join3 {L A B C : List Int} (h : splitI 46 L = [A, B, C]) : L = A ++ 46 :: (B ++ 46 :: C) := by
  have key : ∀ (L : List Int) (p : List Int) (q : List (List Int)), splitI 46 L = p :: q → (q = [] ∧ L = p) ∨ (∃ R, L = p ++ 46 :: R ∧ splitI 46 R = q) := by
    intro L
    induction L with
    | nil => intro p q h; simp only [splitI, List.cons.injEq] at h; exact Or.inl ⟨h.2.symm, h.1⟩
    | cons x r ih =>
      intro p q h
      unfold splitI at h
      by_cases c : x = 46
      · rw [if_pos c] at h
        simp only [List.cons.injEq] at h
        refine Or.inr ⟨r, ?_, h.2⟩
        rw [← h.1, c]
        rfl
      · rw [if_neg c] at h
        cases hs : splitI 46 r with
        | nil => exact absurd hs (splitI_ne 46 r)
        | cons p1 q1 =>
          rw [hs] at h
          simp only [List.cons.injEq] at h
          obtain ⟨h1, h2⟩ := h
          subst h1 h2
          rcases ih p1 q1 hs with ⟨a, b⟩ | ⟨R, a, b⟩
          · exact Or.inl ⟨a, by rw [b]⟩
          · exact Or.inr ⟨R, by rw [a]; rfl, b⟩
  rcases key L A [B, C] h with ⟨a, _⟩ | ⟨R, a, b⟩
  · cases a
  rcases key R B [C] b with ⟨c, _⟩ | ⟨R2, c, d⟩
  · cases c
  rcases key R2 C [] d with ⟨_, e⟩ | ⟨R3, _, f⟩
  · rw [a, c, e]
  · exact absurd f (splitI_ne 46 R3)
theorem split3 {A B C : List Int} (hA : (46 : Int) ∉ A) (hB : (46 : Int) ∉ B) (hC : (46 : Int) ∉ C) : splitI 46 (A ++ 46 :: (B ++ 46 :: C)) = [A, B, C] := by
  rw [splitI_app _ hA, splitI_app _ hB, splitI_none hC]
theorem dayL_eq (day : Int) : dayL day = [48 + (splitV day).1 / 10 / 10 / 10 % 10, 48 + (splitV day).1 / 10 / 10 % 10, 48 + (splitV day).1 / 10 % 10, 48 + (splitV day).1 % 10, 48 + (splitV day).2.1 / 10 % 10, 48 + (splitV day).2.1 % 10, 48 + (splitV day).2.2.1 / 10 % 10, 48 + (splitV day).2.2.1 % 10] := rfl
theorem day_num {day : Int} (h : 0 ≤ day ∧ day ≤ 73048) : dayOf (numV 0 (dayL day)) = (day, 0) := by
  obtain ⟨r1, r2, r3, r4, r5, r6⟩ := split_rng h
  have r7 := split_day h
  have e := of_split h
  rw [dayL_eq]
  simp only [numV, List.foldl_cons, List.foldl_nil]
  unfold dayOf
  generalize (splitV day).1 = y at *
  generalize (splitV day).2.1 = m at *
  generalize (splitV day).2.2.1 = d at *
  rw [← e]
  congr 1 <;> omega
def lastL (s : Ser) : List Int := if s.f1 = 2 then 99 :: textL s.f3 else if s.f1 = 3 then 112 :: textL s.f3 else [102]
theorem print_by {s : Ser} (h : okPrint s) : bytesOf (printS s) = bytesOf s.f0 ++ 46 :: (dayL s.f2 ++ 46 :: lastL s) := by
  unfold printS lastL
  rw [if_pos h]
  have e46 : bytesOf (⟨#[46]⟩ : ByteArray) = [46] := rfl
  have e99 : bytesOf (⟨#[99]⟩ : ByteArray) = [99] := rfl
  have e112 : bytesOf (⟨#[112]⟩ : ByteArray) = [112] := rfl
  have e102 : bytesOf (⟨#[102]⟩ : ByteArray) = [102] := rfl
  by_cases c2 : s.f1 = 2
  · rw [if_pos c2, if_pos c2]
    unfold frontS
    simp only [by_app, e46, e99, dayS_by, textS_by, List.append_assoc, List.singleton_append, List.cons_append, List.nil_append]
  · rw [if_neg c2, if_neg c2]
    by_cases c3 : s.f1 = 3
    · rw [if_pos c3, if_pos c3]
      unfold frontS
      simp only [by_app, e46, e112, dayS_by, textS_by, List.append_assoc, List.singleton_append, List.cons_append, List.nil_append]
    · rw [if_neg c3, if_neg c3]
      unfold frontS
      simp only [by_app, e46, e102, dayS_by, textS_by, List.append_assoc, List.singleton_append, List.cons_append, List.nil_append]
theorem last_rng (s : Ser) : ∀ x ∈ lastL s, 0 ≤ x ∧ x < 256 := by
  unfold lastL
  have ht : ∀ x ∈ textL s.f3, 0 ≤ x ∧ x < 256 := fun x hx => by have := (okb_iff x).1 (text_rng9 s.f3 x hx); omega
  intro x hx
  split at hx
  · rcases List.mem_cons.1 hx with e | e
    · omega
    · exact ht x e
  · split at hx
    · rcases List.mem_cons.1 hx with e | e
      · omega
      · exact ht x e
    · have := List.mem_singleton.1 hx; omega
theorem last_no (s : Ser) : (46 : Int) ∉ lastL s := by
  unfold lastL
  have ht := text_no s.f3
  intro hx
  split at hx
  · rcases List.mem_cons.1 hx with e | e
    · omega
    · exact ht e
  · split at hx
    · rcases List.mem_cons.1 hx with e | e
      · omega
      · exact ht e
    · have := List.mem_singleton.1 hx; omega
theorem parse_print10 {s : Ser} (h : okPrint s) (hn : nameB s.f0 = true) (h3 : -16777216 ≤ s.f3 ∧ s.f3 ≤ 16777216) (h1 : s.f1 = 1 → s.f3 = 0) : parseS (printS s) = (s, 0) := by
  unfold parseS piecesS
  rw [print_by h, split3 (name_no hn) (dig_no (dayL_dig _)) (last_no s)]
  unfold parseL
  simp only [List.map_cons, List.map_nil]
  rw [if_pos (by rfl)]
  have e0 : rdOf ByteArray.empty [strOfNums (bytesOf s.f0), strOfNums (dayL s.f2), strOfNums (lastL s)] 0 = s.f0 := str_by s.f0
  have e1 : rdOf ByteArray.empty [strOfNums (bytesOf s.f0), strOfNums (dayL s.f2), strOfNums (lastL s)] 1 = dayS s.f2 := rfl
  have e2 : rdOf ByteArray.empty [strOfNums (bytesOf s.f0), strOfNums (dayL s.f2), strOfNums (lastL s)] 2 = strOfNums (lastL s) := rfl
  rw [e0, e1, e2]
  have hl : bytesOf (strOfNums (lastL s)) = lastL s := by_str _ (last_rng s)
  obtain ⟨g1, g2, g3⟩ := h
  have hk : kindI (lastL s) = s.f1 := by
    unfold lastL
    by_cases c2 : s.f1 = 2
    · rw [if_pos c2, c2]
      unfold kindI
      rw [if_neg (by simp), if_pos (by rfl)]
    · rw [if_neg c2]
      by_cases c3 : s.f1 = 3
      · rw [if_pos c3, c3]
        unfold kindI
        rw [if_neg (by simp), if_neg (by simp), if_pos (by rfl)]
      · rw [if_neg c3]
        show (1 : Int) = s.f1
        omega
  unfold parse3
  rw [dayS_by, hl, hk, day_num g3]
  have hok : okForm s.f0 (dayS s.f2) (strOfNums (lastL s)) := by
    refine ⟨hn, dayS_size _, ?_, ?_⟩
    · rw [dayS_by]; exact List.all_eq_true.2 (dayL_dig _)
    · rw [hl, hk]; omega
  rw [if_pos hok]
  simp only [if_true]
  by_cases c1 : s.f1 = 1
  · rw [if_pos c1]
    have := h1 c1
    cases s
    simp_all
  · rw [if_neg c1]
    have ht : (lastL s).tail = textL s.f3 := by
      unfold lastL
      by_cases c2 : s.f1 = 2
      · rw [if_pos c2]; rfl
      · rw [if_neg c2, if_pos (by omega)]; rfl
    have hi : intL (textL s.f3) = (s.f3, 0) := by rw [int_text, if_pos (by omega)]
    rw [ht, hi]
    have hb : ¬ (s.f3 < -16777216 ∨ s.f3 > 16777216) := by omega
    simp only [if_true, if_neg hb]
theorem print_parse10 {t : ByteArray} (h : (parseS t).2 = 0) : printS (parseS t).1 = t := by
  have hpc : ∀ p ∈ splitI 46 (bytesOf t), bytesOf (strOfNums p) = p := fun p hp => by_str _ fun x hx => by_rng t x ((split_le 46 _ p hp).2 x hx)
  unfold parseS parseL at h ⊢
  by_cases c0 : (piecesS t).length = 3
  case neg => rw [if_neg c0] at h; exact absurd h (by decide)
  rw [if_pos c0] at h ⊢
  unfold piecesS at c0 h ⊢
  rw [List.length_map] at c0
  rcases hs : splitI 46 (bytesOf t) with _ | ⟨A, _ | ⟨B, _ | ⟨C, _ | ⟨X, r⟩⟩⟩⟩
  case cons.cons.cons.nil =>
    rw [hs] at h hpc
    have hA := hpc A (by simp)
    have hB := hpc B (by simp)
    have hC := hpc C (by simp)
    have hj := join3 hs
    simp only [List.map_cons, List.map_nil] at h ⊢
    have e0 : rdOf ByteArray.empty [strOfNums A, strOfNums B, strOfNums C] 0 = strOfNums A := rfl
    have e1 : rdOf ByteArray.empty [strOfNums A, strOfNums B, strOfNums C] 1 = strOfNums B := rfl
    have e2 : rdOf ByteArray.empty [strOfNums A, strOfNums B, strOfNums C] 2 = strOfNums C := rfl
    rw [e0, e1, e2] at h ⊢
    unfold parse3 at h ⊢
    by_cases c1 : okForm (strOfNums A) (strOfNums B) (strOfNums C)
    case neg => rw [if_neg c1] at h; exact absurd h (by decide)
    rw [if_pos c1] at h ⊢
    obtain ⟨f1, f2, f3, f4⟩ := c1
    rw [hB] at f3 h ⊢
    rw [hC] at f4 h ⊢
    rw [strOfNums_size] at f2
    by_cases c2 : (dayOf (numV 0 B)).2 = 0
    case neg => rw [if_neg c2] at h; exact absurd h (by decide)
    rw [if_pos c2] at h ⊢

    have hday : (0 ≤ (dayOf (numV 0 B)).1 ∧ (dayOf (numV 0 B)).1 ≤ 73048) ∧ dayL (dayOf (numV 0 B)).1 = B := by
      have hv : ¬ (numV 0 B / 10000 < 2000 ∨ numV 0 B / 10000 > 2199 ∨ numV 0 B % 100 < 1 ∨ numV 0 B % 100 > daysV (numV 0 B / 10000) (numV 0 B / 100 % 100)) := by
        intro hb
        unfold dayOf ofV at c2
        rw [if_pos hb] at c2
        exact absurd c2 (by decide)
      have hsp := split_of (y := numV 0 B / 10000) (m := numV 0 B / 100 % 100) (d := numV 0 B % 100) (by omega) (by omega) (by omega) (by omega)
      refine ⟨hsp.1, ?_⟩
      have hsp2 : splitV (dayOf (numV 0 B)).1 = (numV 0 B / 10000, numV 0 B / 100 % 100, numV 0 B % 100, 0) := hsp.2.1
      rw [dayL_eq, hsp2]
      have hall := List.all_eq_true.1 f3
      clear hsp hsp2 hv c2 h hj hpc hs
      rcases B with _ | ⟨a, _ | ⟨b, _ | ⟨c, _ | ⟨d, _ | ⟨e, _ | ⟨f, _ | ⟨g, _ | ⟨k, _ | ⟨i, r⟩⟩⟩⟩⟩⟩⟩⟩⟩
      case cons.cons.cons.cons.cons.cons.cons.cons.nil =>
        have ha := dig_rng (hall a (by simp)); have hb := dig_rng (hall b (by simp)); have hc := dig_rng (hall c (by simp)); have hd' := dig_rng (hall d (by simp))
        have he := dig_rng (hall e (by simp)); have hf := dig_rng (hall f (by simp)); have hg := dig_rng (hall g (by simp)); have hh := dig_rng (hall k (by simp))
        simp only [numV, List.foldl_cons, List.foldl_nil, List.cons.injEq, and_true]
        refine ⟨?_, ?_, ?_, ?_, ?_, ?_, ?_, ?_⟩ <;> omega
      all_goals (simp at f2)
    obtain ⟨hd1, hd2⟩ := hday
    generalize (dayOf (numV 0 B)).1 = day at *
    apply by_inj
    by_cases c3 : kindI C = 1
    · rw [if_pos c3]
      have hC1 : C = [102] := by
        unfold kindI at c3
        by_cases x : C = [102]
        · exact x
        · rw [if_neg x] at c3
          split at c3
          · exact absurd c3 (by decide)
          · split at c3 <;> exact absurd c3 (by decide)
      have hok : okPrint ⟨strOfNums A, 1, day, 0⟩ := ⟨by show (1 : Int) ≤ 1; decide, by show (1 : Int) ≤ 3; decide, hd1⟩
      rw [print_by hok, hj, hA, hd2, hC1]
      rfl
    · rw [if_neg c3] at h ⊢
      by_cases c4 : (intL C.tail).2 = 0
      case neg => rw [if_neg c4] at h; exact absurd h c4
      rw [if_pos c4] at h ⊢
      by_cases c5 : (intL C.tail).1 < -16777216 ∨ (intL C.tail).1 > 16777216
      · rw [if_pos c5] at h; exact absurd h (by decide)
      rw [if_neg c5]
      have ht := (text_int c4).1
      have hok : okPrint ⟨strOfNums A, kindI C, day, (intL C.tail).1⟩ := by
        refine ⟨?_, ?_, hd1⟩
        · show 1 ≤ kindI C
          have := kind_cases C
          omega
        · show kindI C ≤ 3
          have := kind_cases C
          omega
      rw [print_by hok, hj, hA, hd2]
      have hlast : lastL ⟨strOfNums A, kindI C, day, (intL C.tail).1⟩ = C := by
        unfold lastL
        show (if kindI C = 2 then 99 :: textL (intL C.tail).1 else if kindI C = 3 then 112 :: textL (intL C.tail).1 else [102]) = C
        rw [ht]
        unfold kindI at c3 f4 ⊢
        by_cases x : C = [102]
        · rw [if_pos x] at c3; exact absurd rfl c3
        rw [if_neg x] at c3 f4 ⊢
        cases C with
        | nil => exact absurd rfl f4
        | cons z T =>
          simp only [List.head?_cons, Option.some.injEq, List.tail_cons] at *
          by_cases x1 : z = 99
          · rw [if_pos x1, if_pos rfl, x1]
          · rw [if_neg x1] at f4 ⊢
            by_cases x2 : z = 112
            · rw [if_pos x2, if_neg (by decide), if_pos rfl, x2]
            · rw [if_neg x2] at f4; exact absurd rfl f4
      rw [hlast]
  all_goals (rw [hs] at c0; simp at c0)
end Go.Proofs.YtliooghmpkdmoaaGreatDoor.P
end
