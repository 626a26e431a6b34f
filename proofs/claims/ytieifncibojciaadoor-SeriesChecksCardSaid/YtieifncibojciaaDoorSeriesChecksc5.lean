/- For SeriesChecks: contracts, and facts on lists and numbers, that it uses (part 5). -/
import Derived.ChangeArms
import Derived.Deep.Slices
import Derived.Laws.BitsLemmas
import Derived.Laws.Strings
import Derived.OpenShut
import Derived.SizedLaws
import Derived.Test.YtieifncibojciaaDoorSeriesChecksc4
import Derived.WideShapes
section
namespace Go.Proofs.YtieifncibojciaaDoor.X
open Go.RowKit Go.Proofs.YtieifncibojciaaDoorW.PrintWords Go.Proofs.YtieifncibojciaaDoorW.PrintLast Go.Proofs.YtieifncibojciaaDoorW.PrintMore
attribute [local go_sem] max2_int min2_int max_two min_two max_three min_three max_four min_four
set_option linter.unusedVariables false
set_option linter.unusedSimpArgs false
mutual
def series_Check.j0 : Nat → Bool → ByteArray → Int → Int → Int → ByteArray → Int → Int → Int → Int → Int → Bool → Option (Int)
  | 0, _, _, _, _, _, _, _, _, _, _, _, _ => none
  | k + 1, x19, x102000, x102001, x102002, x102003, x112000, x112001, x112002, x112003, x112004, x112005, x112006 => if x19 = true then (some 19) else (if x102002 < 0 then (series_Check.j1 k true x102000 x102001 x102002 x102003 x112000 x112001 x112002 x112003 x112004 x112005 x112006) else (series_Check.j1 k (decide (x102002 > 73048)) x102000 x102001 x102002 x102003 x112000 x112001 x112002 x112003 x112004 x112005 x112006))
def series_Check.j1 : Nat → Bool → ByteArray → Int → Int → Int → ByteArray → Int → Int → Int → Int → Int → Bool → Option (Int)
  | 0, _, _, _, _, _, _, _, _, _, _, _, _ => none
  | k + 1, x32, x102000, x102001, x102002, x102003, x112000, x112001, x112002, x112003, x112004, x112005, x112006 => if x32 = true then (some 15) else (if x102001 = 1 then (series_Check.j2 k (x102003 != 0) x102000 x102001 x102002 x102003 x112000 x112001 x112002 x112003 x112004 x112005 x112006) else (series_Check.j2 k false x102000 x102001 x102002 x102003 x112000 x112001 x112002 x112003 x112004 x112005 x112006))
def series_Check.j2 : Nat → Bool → ByteArray → Int → Int → Int → ByteArray → Int → Int → Int → Int → Int → Bool → Option (Int)
  | 0, _, _, _, _, _, _, _, _, _, _, _, _ => none
  | k + 1, x41, x102000, x102001, x102002, x102003, x112000, x112001, x112002, x112003, x112004, x112005, x112006 => if x41 = true then (some 17) else (if x102001 = 1 then (some 0) else ((product_Price.f k x112000 x112001 x112002 x112003 x112004 x112005 x112006 x102003).bind fun t112 => (if t112 = 0 then (some 0) else (some 17))))
end
def series_Check.f (k : Nat) (l0 : List (S45)) (a1_0 : ByteArray) (a1_1 : Int) (a1_2 : Int) (a1_3 : Int) : Option (Int) := (product_CheckAll.f k l0).bind fun t102 => (if t102 = 0 then ((product_Find.f l0 a1_0).bind fun bt103 => (if bt103.2.2.2.2.2.2.2 = true then (if a1_1 < 1 then (series_Check.j0 k true a1_0 a1_1 a1_2 a1_3 bt103.1 bt103.2.1 bt103.2.2.1 bt103.2.2.2.1 bt103.2.2.2.2.1 bt103.2.2.2.2.2.1 bt103.2.2.2.2.2.2.1) else (series_Check.j0 k (decide (a1_1 > 3)) a1_0 a1_1 a1_2 a1_3 bt103.1 bt103.2.1 bt103.2.2.1 bt103.2.2.2.1 bt103.2.2.2.2.1 bt103.2.2.2.2.2.1 bt103.2.2.2.2.2.2.1)) else (series_Check.j0 k true a1_0 a1_1 a1_2 a1_3 bt103.1 bt103.2.1 bt103.2.2.1 bt103.2.2.2.1 bt103.2.2.2.2.1 bt103.2.2.2.2.2.1 bt103.2.2.2.2.2.2.1))) else (some t102))
set_option maxHeartbeats 8000000 in
set_option maxRecDepth 100000 in
theorem series_Check.calls (k : Nat) (A0 : Option Addr) (c0 : Nat) (l0 : List (S45)) (a1_0 : ByteArray) (a1_1 : Int) (a1_2 : Int) (a1_3 : Int) (r : Int) (w : World) (hr0 : Kd.C k45 w A0 l0.length l0) (hc0 : l0.length ≤ c0) (h : series_Check.f k l0 a1_0 a1_1 a1_2 a1_3 = some r) :
    Calls Tryd.prog 43 #[.slice A0 l0.length c0, .agg #[.string a1_0, .int .i64 a1_1, .int .i64 a1_2, .int .i64 a1_3]] w fun e w' => e = .returned (.int .i64 r) ∧ Below w.heap.size w w' := by
  have hu23 := Tryd.underlying23
  have hu45 := Tryd.underlying45
  have HR0 := Aside0.mk hr0
  have HC0 := Aside0.mk hc0
  clear hr0 hc0
  have HB := Aside0.mk (Below.refl w.heap.size w)
  have H : ((product_CheckAll.f k l0).bind fun t102 => (if t102 = 0 then ((product_Find.f l0 a1_0).bind fun bt103 => (if bt103.2.2.2.2.2.2.2 = true then (if a1_1 < 1 then (series_Check.j0 k true a1_0 a1_1 a1_2 a1_3 bt103.1 bt103.2.1 bt103.2.2.1 bt103.2.2.2.1 bt103.2.2.2.2.1 bt103.2.2.2.2.2.1 bt103.2.2.2.2.2.2.1) else (series_Check.j0 k (decide (a1_1 > 3)) a1_0 a1_1 a1_2 a1_3 bt103.1 bt103.2.1 bt103.2.2.1 bt103.2.2.2.1 bt103.2.2.2.2.1 bt103.2.2.2.2.2.1 bt103.2.2.2.2.2.2.1)) else (series_Check.j0 k true a1_0 a1_1 a1_2 a1_3 bt103.1 bt103.2.1 bt103.2.2.1 bt103.2.2.2.1 bt103.2.2.2.2.1 bt103.2.2.2.2.2.1 bt103.2.2.2.2.2.2.1))) else (some t102))) = some r := h
  clear h
  replace H := Option.bind_eq_some_iff.mp H
  obtain ⟨t102, A30, H⟩ := H
  replace H : (if t102 = 0 then ((product_Find.f l0 a1_0).bind fun bt103 => (if bt103.2.2.2.2.2.2.2 = true then (if a1_1 < 1 then (series_Check.j0 k true a1_0 a1_1 a1_2 a1_3 bt103.1 bt103.2.1 bt103.2.2.1 bt103.2.2.2.1 bt103.2.2.2.2.1 bt103.2.2.2.2.2.1 bt103.2.2.2.2.2.2.1) else (series_Check.j0 k (decide (a1_1 > 3)) a1_0 a1_1 a1_2 a1_3 bt103.1 bt103.2.1 bt103.2.2.1 bt103.2.2.2.1 bt103.2.2.2.2.1 bt103.2.2.2.2.2.1 bt103.2.2.2.2.2.2.1)) else (series_Check.j0 k true a1_0 a1_1 a1_2 a1_3 bt103.1 bt103.2.1 bt103.2.2.1 bt103.2.2.2.1 bt103.2.2.2.2.1 bt103.2.2.2.2.2.1 bt103.2.2.2.2.2.2.1))) else (some t102)) = some r := H
  have A3 := Aside0.mk A30
  clear A30
  by_cases c4 : t102 = 0
  · rw [if_pos c4] at H
    have c4b0 : (t102 == 0) = true := beq_iff_eq.mpr c4
    have c4b1 : (t102 != 0) = false := bne_eq_false_iff_eq.mpr c4
    clear c4
    replace H := Option.bind_eq_some_iff.mp H
    obtain ⟨⟨t103, t104, t105, t106, t107, t108, t109, t110⟩, A50, H⟩ := H
    replace H : (if t110 = true then (if a1_1 < 1 then (series_Check.j0 k true a1_0 a1_1 a1_2 a1_3 t103 t104 t105 t106 t107 t108 t109) else (series_Check.j0 k (decide (a1_1 > 3)) a1_0 a1_1 a1_2 a1_3 t103 t104 t105 t106 t107 t108 t109)) else (series_Check.j0 k true a1_0 a1_1 a1_2 a1_3 t103 t104 t105 t106 t107 t108 t109)) = some r := H
    have A5 := Aside0.mk A50
    clear A50
    have HC6 := Aside0.mk H
    clear H
    go_enter Tryd.func43, Tryd.ntmps43
    go_upto_region 5 with (first | ((with_reducible refine gate_dst (N := 3) rfl ?_); refine box_event ?hg (N := 3) ?hd (cs := #[.string a1_0, .int .i64 a1_1, .int .i64 a1_2, .int .i64 a1_3]) (t := 23) ?hr ?_; (case hd => rfl); (case hg => rfl); (case hr => first | (go_simp; done) | (go_simp; rfl)); intro gb101 hg w7 hbox hb; have n0_ := Aside0.mk (below_step (by repeat (first | (with_reducible first | exact HB.out | apply below_alloc | apply pw_below_drewN | apply below_drew1) | exact HB.out)) hb); have n1_ := Aside0.mk (hbox); have n2_ := Aside0.mk ((by rw [hg]; exact (below_size (by repeat (first | (with_reducible first | exact HB.out | apply below_alloc | apply pw_below_drewN | apply below_drew1) | exact HB.out))) : w.heap.size ≤ gb101)); have n3_ := Aside0.mk ((by rw [hg]; exact (below_size (by repeat (first | (with_reducible first | exact HB.out | apply below_alloc | apply pw_below_drewN | apply below_drew1) | exact HB.out))) : w.heap.size ≤ gb101)); clear HB; have HB := n0_; have BK101 := n1_; have GW101 := n2_; have GE101 := n3_; clear n0_ n1_ n2_ n3_; clear hb hbox hg) | ((with_reducible refine gate_callee (f := 48) rfl ?_); refine goesL_ (some 8) rfl rfl Tryd.func48 (by kernel_rfl) rfl #[.slice A0 l0.length c0] rfl (by (try simp only [List.map_toArray, List.map_cons, List.map_nil]); first | done | rfl | (simp only [List.length_drop, List.length_take]; rfl)) ?_; (with_reducible refine (product_CheckAll.calls k _ _ l0 t102 _ ?side1 ?side2 A3.out).mono ?_); (case side1 => repeat (first | exact (Kd.C_below HR0.out HB.out) | (with_reducible refine Kd.C_alloc ?_ _) | (with_reducible refine Kd.C_drewN ?_ _) | (with_reducible refine Kd.C_drew ?_))); (case side2 => exact HC0.out); rintro e w8 ⟨rfl, hb⟩; refine ⟨_, rfl, ?_⟩; have n0_ := Aside0.mk (blk_below (g := gb101) (o := .cells #[.string a1_0, .int .i64 a1_1, .int .i64 a1_2, .int .i64 a1_3] 23 (0, 0)) (by (with_reducible repeat (first | refine blk_drewN ?_ _ | refine blk_drew ?_ | refine blk_alloc ?_ _)); exact BK101.out) hb); have n1_ := Aside0.mk (below_step (by repeat (first | (with_reducible first | exact HB.out | apply below_alloc | apply pw_below_drewN | apply below_drew1 | refine below_set ?_ GE101.out) | exact HB.out)) hb); clear BK101; clear HB; have BK101 := n0_; have HB := n1_; clear n0_ n1_; (try clear hb); (try clear hb2); (try clear hk); (try clear hi); have hcz9_0 : w8.cell? ⟨gb101, 0, none⟩ = some (.string a1_0) := (blk_cell BK101.out 0).trans rfl; have hcz9_1 : w8.cell? ⟨gb101, 1, none⟩ = some (.int .i64 a1_1) := (blk_cell BK101.out 1).trans rfl; have hcz9_2 : w8.cell? ⟨gb101, 2, none⟩ = some (.int .i64 a1_2) := (blk_cell BK101.out 2).trans rfl; have hcz9_3 : w8.cell? ⟨gb101, 3, none⟩ = some (.int .i64 a1_3) := (blk_cell BK101.out 3).trans rfl; have hfz9_0 := blk_frozen BK101.out 0; have hfz9_1 := blk_frozen BK101.out 1; have hfz9_2 := blk_frozen BK101.out 2; have hfz9_3 := blk_frozen BK101.out 3) | ((with_reducible refine gate_callee (f := 45) rfl ?_); refine goesL_ (some 16) rfl rfl Tryd.func45 (by kernel_rfl) rfl #[.slice A0 l0.length c0, .string a1_0] rfl (by (try simp only [List.map_toArray, List.map_cons, List.map_nil]); first | done | rfl | (simp only [List.length_drop, List.length_take]; rfl)) ?_; (with_reducible refine (product_Find.calls _ _ l0 a1_0 t103 t104 t105 t106 t107 t108 t109 t110 _ ?side1 ?side2 A5.out).mono ?_); (case side1 => repeat (first | exact (Kd.C_below HR0.out HB.out) | (with_reducible refine Kd.C_alloc ?_ _) | (with_reducible refine Kd.C_drewN ?_ _) | (with_reducible refine Kd.C_drew ?_))); (case side2 => exact HC0.out); rintro e w10 ⟨rfl, hb⟩; refine ⟨_, rfl, ?_⟩; have n0_ := Aside0.mk (blk_below (g := gb101) (o := .cells #[.string a1_0, .int .i64 a1_1, .int .i64 a1_2, .int .i64 a1_3] 23 (0, 0)) (by (with_reducible repeat (first | refine blk_drewN ?_ _ | refine blk_drew ?_ | refine blk_alloc ?_ _)); exact BK101.out) hb); have n1_ := Aside0.mk (below_step (by repeat (first | (with_reducible first | exact HB.out | apply below_alloc | apply pw_below_drewN | apply below_drew1 | refine below_set ?_ GE101.out) | exact HB.out)) hb); clear BK101; clear HB; have BK101 := n0_; have HB := n1_; clear n0_ n1_; (try clear hb); (try clear hb2); (try clear hk); (try clear hi)) | ((with_reducible refine gate_dst (N := 5) rfl ?_); refine box_event ?hg (N := 5) ?hd (cs := #[.string (⟨#[]⟩ : ByteArray), .int .i64 0, .int .i64 0, .int .i64 0, .int .i64 0, .int .i64 0, .bool false]) (t := 45) ?hr ?_; (case hd => rfl); (case hg => rfl); (case hr => first | (go_simp; done) | (go_simp; rfl)); intro gb111 hg w11 hbox hb; have n0_ := Aside0.mk (blk_below (g := gb101) (o := .cells #[.string a1_0, .int .i64 a1_1, .int .i64 a1_2, .int .i64 a1_3] 23 (0, 0)) (by (with_reducible repeat (first | refine blk_drewN ?_ _ | refine blk_drew ?_ | refine blk_alloc ?_ _)); exact BK101.out) hb); have n1_ := Aside0.mk (below_step (by repeat (first | (with_reducible first | exact HB.out | apply below_alloc | apply pw_below_drewN | apply below_drew1 | refine below_set ?_ GE101.out) | exact HB.out)) hb); have n2_ := Aside0.mk (hbox); have n3_ := Aside0.mk ((by rw [hg]; exact (below_size (by repeat (first | (with_reducible first | exact HB.out | apply below_alloc | apply pw_below_drewN | apply below_drew1 | refine below_set ?_ GE101.out) | exact HB.out))) : w.heap.size ≤ gb111)); have n4_ := Aside0.mk ((by rw [hg]; exact (below_size (by repeat (first | (with_reducible first | exact HB.out | apply below_alloc | apply pw_below_drewN | apply below_drew1 | refine below_set ?_ GE101.out) | exact HB.out))) : w.heap.size ≤ gb111)); have n5_ := Aside0.mk ((by rw [hg]; exact Nat.ne_of_lt (blk_lt (g := gb101) (o := .cells #[.string a1_0, .int .i64 a1_1, .int .i64 a1_2, .int .i64 a1_3] 23 (0, 0)) (by (with_reducible repeat (first | refine blk_drewN ?_ _ | refine blk_drew ?_ | refine blk_alloc ?_ _)); exact BK101.out)) : gb101 ≠ gb111)); have n6_ := Aside0.mk ((by rw [hg]; exact Nat.ne_of_gt (blk_lt (g := gb101) (o := .cells #[.string a1_0, .int .i64 a1_1, .int .i64 a1_2, .int .i64 a1_3] 23 (0, 0)) (by (with_reducible repeat (first | refine blk_drewN ?_ _ | refine blk_drew ?_ | refine blk_alloc ?_ _)); exact BK101.out)) : gb111 ≠ gb101)); clear BK101; clear HB; have BK101 := n0_; have HB := n1_; have BK111 := n2_; have GW111 := n3_; have GE111 := n4_; have NB101_111 := n5_; have NB111_101 := n6_; clear n0_ n1_ n2_ n3_ n4_ n5_ n6_; clear hb hbox hg; have hnb12 := NB111_101.out; have hnc12 := NB101_111.out; have hcz13_0 : w11.cell? ⟨gb111, 0, none⟩ = some (.string (⟨#[]⟩ : ByteArray)) := (blk_cell BK111.out 0).trans rfl; have hcz13_1 : w11.cell? ⟨gb111, 1, none⟩ = some (.int .i64 0) := (blk_cell BK111.out 1).trans rfl; have hcz13_2 : w11.cell? ⟨gb111, 2, none⟩ = some (.int .i64 0) := (blk_cell BK111.out 2).trans rfl; have hcz13_3 : w11.cell? ⟨gb111, 3, none⟩ = some (.int .i64 0) := (blk_cell BK111.out 3).trans rfl; have hcz13_4 : w11.cell? ⟨gb111, 4, none⟩ = some (.int .i64 0) := (blk_cell BK111.out 4).trans rfl; have hcz13_5 : w11.cell? ⟨gb111, 5, none⟩ = some (.int .i64 0) := (blk_cell BK111.out 5).trans rfl; have hcz13_6 : w11.cell? ⟨gb111, 6, none⟩ = some (.bool false) := (blk_cell BK111.out 6).trans rfl; have hfz13_0 := blk_frozen BK111.out 0; have hfz13_1 := blk_frozen BK111.out 1; have hfz13_2 := blk_frozen BK111.out 2; have hfz13_3 := blk_frozen BK111.out 3; have hfz13_4 := blk_frozen BK111.out 4; have hfz13_5 := blk_frozen BK111.out 5; have hfz13_6 := blk_frozen BK111.out 6))
    (try simp only [Act.put, List.setIfInBounds_toArray, List.set_cons_zero, List.set_cons_succ])
    go_cut [19] (fun v19 wc => ∃ (kq : Nat) (x19_5 : Bool), v19 = .bool x19_5 ∧ Aside0 (series_Check.j0 kq x19_5 a1_0 a1_1 a1_2 a1_3 t103 t104 t105 t106 t107 t108 t109 = some r) ∧ Aside0 (kq ≤ k) ∧ Aside0 (wc.heap[gb101]? = some (.cells #[.string a1_0, .int .i64 a1_1, .int .i64 a1_2, .int .i64 a1_3] 23 (0, 0))) ∧ Aside0 (wc.heap[gb111]? = some (.cells #[.string t103, .int .i64 t104, .int .i64 t105, .int .i64 t106, .int .i64 t107, .int .i64 t108, .bool t109] 45 (0, 0))) ∧ Aside0 (Below w.heap.size w wc))
    case first =>
      have H := HC6.out
      clear HC6
      by_cases c14 : t110 = true
      · subst c14
        have H1 : (if a1_1 < 1 then (series_Check.j0 k true a1_0 a1_1 a1_2 a1_3 t103 t104 t105 t106 t107 t108 t109) else (series_Check.j0 k (decide (a1_1 > 3)) a1_0 a1_1 a1_2 a1_3 t103 t104 t105 t106 t107 t108 t109)) = some r := by rw [if_pos rfl] at H; exact H
        clear H
        have H := H1
        clear H1
        by_cases c15 : a1_1 < 1
        · rw [if_pos c15] at H
          have c15b0 : decide (a1_1 < 1) = true := decide_eq_true c15
          clear c15
          (first | rw [c15b0] | (simp only [i64_w, i32_w]; rw [c15b0]) | skip)
          have H' := Aside0.mk H
          clear H
          have hnb16 := NB101_111.out
          have hnc16 := NB111_101.out
          have hcz17_0 : w11.cell? ⟨gb101, 0, none⟩ = some (.string a1_0) := (blk_cell BK101.out 0).trans rfl
          have hcz17_1 : w11.cell? ⟨gb101, 1, none⟩ = some (.int .i64 a1_1) := (blk_cell BK101.out 1).trans rfl
          have hcz17_2 : w11.cell? ⟨gb101, 2, none⟩ = some (.int .i64 a1_2) := (blk_cell BK101.out 2).trans rfl
          have hcz17_3 : w11.cell? ⟨gb101, 3, none⟩ = some (.int .i64 a1_3) := (blk_cell BK101.out 3).trans rfl
          have hfz17_0 := blk_frozen BK101.out 0
          have hfz17_1 := blk_frozen BK101.out 1
          have hfz17_2 := blk_frozen BK101.out 2
          have hfz17_3 := blk_frozen BK101.out 3
          go_wp2
          go_meet
          case rel => exact ⟨_, (true), (by first | rfl | (simp; done) | (simp [*]; done)), H', ⟨by first | omega | exact Nat.le_refl _⟩, ⟨by (with_reducible repeat (first | refine blk_drewN ?_ _ | refine blk_drew ?_ | refine blk_alloc ?_ _)); refine blk_far ?_ NB101_111.out _; (with_reducible repeat (first | refine blk_drewN ?_ _ | refine blk_drew ?_ | refine blk_alloc ?_ _)); refine blk_far ?_ NB101_111.out _; (with_reducible repeat (first | refine blk_drewN ?_ _ | refine blk_drew ?_ | refine blk_alloc ?_ _)); refine blk_far ?_ NB101_111.out _; (with_reducible repeat (first | refine blk_drewN ?_ _ | refine blk_drew ?_ | refine blk_alloc ?_ _)); refine blk_far ?_ NB101_111.out _; (with_reducible repeat (first | refine blk_drewN ?_ _ | refine blk_drew ?_ | refine blk_alloc ?_ _)); refine blk_far ?_ NB101_111.out _; (with_reducible repeat (first | refine blk_drewN ?_ _ | refine blk_drew ?_ | refine blk_alloc ?_ _)); refine blk_far ?_ NB101_111.out _; (with_reducible repeat (first | refine blk_drewN ?_ _ | refine blk_drew ?_ | refine blk_alloc ?_ _)); refine blk_far ?_ NB101_111.out _; (with_reducible repeat (first | refine blk_drewN ?_ _ | refine blk_drew ?_ | refine blk_alloc ?_ _)); exact BK101.out⟩, ⟨by (with_reducible repeat (first | refine blk_drewN ?_ _ | refine blk_drew ?_ | refine blk_alloc ?_ _)); refine blk_put (cs := #[.string t103, .int .i64 t104, .int .i64 t105, .int .i64 t106, .int .i64 t107, .int .i64 t108, .bool false]) ?_ 6 _ rfl; (with_reducible repeat (first | refine blk_drewN ?_ _ | refine blk_drew ?_ | refine blk_alloc ?_ _)); refine blk_put (cs := #[.string t103, .int .i64 t104, .int .i64 t105, .int .i64 t106, .int .i64 t107, .int .i64 0, .bool false]) ?_ 5 _ rfl; (with_reducible repeat (first | refine blk_drewN ?_ _ | refine blk_drew ?_ | refine blk_alloc ?_ _)); refine blk_put (cs := #[.string t103, .int .i64 t104, .int .i64 t105, .int .i64 t106, .int .i64 0, .int .i64 0, .bool false]) ?_ 4 _ rfl; (with_reducible repeat (first | refine blk_drewN ?_ _ | refine blk_drew ?_ | refine blk_alloc ?_ _)); refine blk_put (cs := #[.string t103, .int .i64 t104, .int .i64 t105, .int .i64 0, .int .i64 0, .int .i64 0, .bool false]) ?_ 3 _ rfl; (with_reducible repeat (first | refine blk_drewN ?_ _ | refine blk_drew ?_ | refine blk_alloc ?_ _)); refine blk_put (cs := #[.string t103, .int .i64 t104, .int .i64 0, .int .i64 0, .int .i64 0, .int .i64 0, .bool false]) ?_ 2 _ rfl; (with_reducible repeat (first | refine blk_drewN ?_ _ | refine blk_drew ?_ | refine blk_alloc ?_ _)); refine blk_put (cs := #[.string t103, .int .i64 0, .int .i64 0, .int .i64 0, .int .i64 0, .int .i64 0, .bool false]) ?_ 1 _ rfl; (with_reducible repeat (first | refine blk_drewN ?_ _ | refine blk_drew ?_ | refine blk_alloc ?_ _)); refine blk_put (cs := #[.string (⟨#[]⟩ : ByteArray), .int .i64 0, .int .i64 0, .int .i64 0, .int .i64 0, .int .i64 0, .bool false]) ?_ 0 _ rfl; (with_reducible repeat (first | refine blk_drewN ?_ _ | refine blk_drew ?_ | refine blk_alloc ?_ _)); exact BK111.out⟩, ⟨by repeat (first | (with_reducible first | exact HB.out | apply below_alloc | apply pw_below_drewN | apply below_drew1 | refine below_set ?_ GE101.out | refine below_set ?_ GE111.out) | exact HB.out)⟩⟩
        · rw [if_neg c15] at H
          have c15b0 : decide (a1_1 < 1) = false := decide_eq_false c15
          clear c15
          (first | rw [c15b0] | (simp only [i64_w, i32_w]; rw [c15b0]) | skip)
          have H' := Aside0.mk H
          clear H
          have hnb18 := NB101_111.out
          have hnc18 := NB111_101.out
          have hcz19_0 : w11.cell? ⟨gb101, 0, none⟩ = some (.string a1_0) := (blk_cell BK101.out 0).trans rfl
          have hcz19_1 : w11.cell? ⟨gb101, 1, none⟩ = some (.int .i64 a1_1) := (blk_cell BK101.out 1).trans rfl
          have hcz19_2 : w11.cell? ⟨gb101, 2, none⟩ = some (.int .i64 a1_2) := (blk_cell BK101.out 2).trans rfl
          have hcz19_3 : w11.cell? ⟨gb101, 3, none⟩ = some (.int .i64 a1_3) := (blk_cell BK101.out 3).trans rfl
          have hfz19_0 := blk_frozen BK101.out 0
          have hfz19_1 := blk_frozen BK101.out 1
          have hfz19_2 := blk_frozen BK101.out 2
          have hfz19_3 := blk_frozen BK101.out 3
          go_wp2
          go_meet
          case rel => exact ⟨_, (decide (a1_1 > 3)), (by first | rfl | (simp; done) | (simp [*]; done)), H', ⟨by first | omega | exact Nat.le_refl _⟩, ⟨by (with_reducible repeat (first | refine blk_drewN ?_ _ | refine blk_drew ?_ | refine blk_alloc ?_ _)); refine blk_far ?_ NB101_111.out _; (with_reducible repeat (first | refine blk_drewN ?_ _ | refine blk_drew ?_ | refine blk_alloc ?_ _)); refine blk_far ?_ NB101_111.out _; (with_reducible repeat (first | refine blk_drewN ?_ _ | refine blk_drew ?_ | refine blk_alloc ?_ _)); refine blk_far ?_ NB101_111.out _; (with_reducible repeat (first | refine blk_drewN ?_ _ | refine blk_drew ?_ | refine blk_alloc ?_ _)); refine blk_far ?_ NB101_111.out _; (with_reducible repeat (first | refine blk_drewN ?_ _ | refine blk_drew ?_ | refine blk_alloc ?_ _)); refine blk_far ?_ NB101_111.out _; (with_reducible repeat (first | refine blk_drewN ?_ _ | refine blk_drew ?_ | refine blk_alloc ?_ _)); refine blk_far ?_ NB101_111.out _; (with_reducible repeat (first | refine blk_drewN ?_ _ | refine blk_drew ?_ | refine blk_alloc ?_ _)); refine blk_far ?_ NB101_111.out _; (with_reducible repeat (first | refine blk_drewN ?_ _ | refine blk_drew ?_ | refine blk_alloc ?_ _)); exact BK101.out⟩, ⟨by (with_reducible repeat (first | refine blk_drewN ?_ _ | refine blk_drew ?_ | refine blk_alloc ?_ _)); refine blk_put (cs := #[.string t103, .int .i64 t104, .int .i64 t105, .int .i64 t106, .int .i64 t107, .int .i64 t108, .bool false]) ?_ 6 _ rfl; (with_reducible repeat (first | refine blk_drewN ?_ _ | refine blk_drew ?_ | refine blk_alloc ?_ _)); refine blk_put (cs := #[.string t103, .int .i64 t104, .int .i64 t105, .int .i64 t106, .int .i64 t107, .int .i64 0, .bool false]) ?_ 5 _ rfl; (with_reducible repeat (first | refine blk_drewN ?_ _ | refine blk_drew ?_ | refine blk_alloc ?_ _)); refine blk_put (cs := #[.string t103, .int .i64 t104, .int .i64 t105, .int .i64 t106, .int .i64 0, .int .i64 0, .bool false]) ?_ 4 _ rfl; (with_reducible repeat (first | refine blk_drewN ?_ _ | refine blk_drew ?_ | refine blk_alloc ?_ _)); refine blk_put (cs := #[.string t103, .int .i64 t104, .int .i64 t105, .int .i64 0, .int .i64 0, .int .i64 0, .bool false]) ?_ 3 _ rfl; (with_reducible repeat (first | refine blk_drewN ?_ _ | refine blk_drew ?_ | refine blk_alloc ?_ _)); refine blk_put (cs := #[.string t103, .int .i64 t104, .int .i64 0, .int .i64 0, .int .i64 0, .int .i64 0, .bool false]) ?_ 2 _ rfl; (with_reducible repeat (first | refine blk_drewN ?_ _ | refine blk_drew ?_ | refine blk_alloc ?_ _)); refine blk_put (cs := #[.string t103, .int .i64 0, .int .i64 0, .int .i64 0, .int .i64 0, .int .i64 0, .bool false]) ?_ 1 _ rfl; (with_reducible repeat (first | refine blk_drewN ?_ _ | refine blk_drew ?_ | refine blk_alloc ?_ _)); refine blk_put (cs := #[.string (⟨#[]⟩ : ByteArray), .int .i64 0, .int .i64 0, .int .i64 0, .int .i64 0, .int .i64 0, .bool false]) ?_ 0 _ rfl; (with_reducible repeat (first | refine blk_drewN ?_ _ | refine blk_drew ?_ | refine blk_alloc ?_ _)); exact BK111.out⟩, ⟨by repeat (first | (with_reducible first | exact HB.out | apply below_alloc | apply pw_below_drewN | apply below_drew1 | refine below_set ?_ GE101.out | refine below_set ?_ GE111.out) | exact HB.out)⟩⟩
      · replace c14 := Bool.eq_false_iff.mpr c14
        subst c14
        have H1 : (series_Check.j0 k true a1_0 a1_1 a1_2 a1_3 t103 t104 t105 t106 t107 t108 t109) = some r := by rw [if_neg (show ¬ (false = true) by decide)] at H; exact H
        clear H
        have H := H1
        clear H1
        have H' := Aside0.mk H
        clear H
        go_wp2
        go_meet
        case rel => exact ⟨_, (true), (by first | rfl | (simp; done) | (simp [*]; done)), H', ⟨by first | omega | exact Nat.le_refl _⟩, ⟨by (with_reducible repeat (first | refine blk_drewN ?_ _ | refine blk_drew ?_ | refine blk_alloc ?_ _)); refine blk_far ?_ NB101_111.out _; (with_reducible repeat (first | refine blk_drewN ?_ _ | refine blk_drew ?_ | refine blk_alloc ?_ _)); refine blk_far ?_ NB101_111.out _; (with_reducible repeat (first | refine blk_drewN ?_ _ | refine blk_drew ?_ | refine blk_alloc ?_ _)); refine blk_far ?_ NB101_111.out _; (with_reducible repeat (first | refine blk_drewN ?_ _ | refine blk_drew ?_ | refine blk_alloc ?_ _)); refine blk_far ?_ NB101_111.out _; (with_reducible repeat (first | refine blk_drewN ?_ _ | refine blk_drew ?_ | refine blk_alloc ?_ _)); refine blk_far ?_ NB101_111.out _; (with_reducible repeat (first | refine blk_drewN ?_ _ | refine blk_drew ?_ | refine blk_alloc ?_ _)); refine blk_far ?_ NB101_111.out _; (with_reducible repeat (first | refine blk_drewN ?_ _ | refine blk_drew ?_ | refine blk_alloc ?_ _)); refine blk_far ?_ NB101_111.out _; (with_reducible repeat (first | refine blk_drewN ?_ _ | refine blk_drew ?_ | refine blk_alloc ?_ _)); exact BK101.out⟩, ⟨by (with_reducible repeat (first | refine blk_drewN ?_ _ | refine blk_drew ?_ | refine blk_alloc ?_ _)); refine blk_put (cs := #[.string t103, .int .i64 t104, .int .i64 t105, .int .i64 t106, .int .i64 t107, .int .i64 t108, .bool false]) ?_ 6 _ rfl; (with_reducible repeat (first | refine blk_drewN ?_ _ | refine blk_drew ?_ | refine blk_alloc ?_ _)); refine blk_put (cs := #[.string t103, .int .i64 t104, .int .i64 t105, .int .i64 t106, .int .i64 t107, .int .i64 0, .bool false]) ?_ 5 _ rfl; (with_reducible repeat (first | refine blk_drewN ?_ _ | refine blk_drew ?_ | refine blk_alloc ?_ _)); refine blk_put (cs := #[.string t103, .int .i64 t104, .int .i64 t105, .int .i64 t106, .int .i64 0, .int .i64 0, .bool false]) ?_ 4 _ rfl; (with_reducible repeat (first | refine blk_drewN ?_ _ | refine blk_drew ?_ | refine blk_alloc ?_ _)); refine blk_put (cs := #[.string t103, .int .i64 t104, .int .i64 t105, .int .i64 0, .int .i64 0, .int .i64 0, .bool false]) ?_ 3 _ rfl; (with_reducible repeat (first | refine blk_drewN ?_ _ | refine blk_drew ?_ | refine blk_alloc ?_ _)); refine blk_put (cs := #[.string t103, .int .i64 t104, .int .i64 0, .int .i64 0, .int .i64 0, .int .i64 0, .bool false]) ?_ 2 _ rfl; (with_reducible repeat (first | refine blk_drewN ?_ _ | refine blk_drew ?_ | refine blk_alloc ?_ _)); refine blk_put (cs := #[.string t103, .int .i64 0, .int .i64 0, .int .i64 0, .int .i64 0, .int .i64 0, .bool false]) ?_ 1 _ rfl; (with_reducible repeat (first | refine blk_drewN ?_ _ | refine blk_drew ?_ | refine blk_alloc ?_ _)); refine blk_put (cs := #[.string (⟨#[]⟩ : ByteArray), .int .i64 0, .int .i64 0, .int .i64 0, .int .i64 0, .int .i64 0, .bool false]) ?_ 0 _ rfl; (with_reducible repeat (first | refine blk_drewN ?_ _ | refine blk_drew ?_ | refine blk_alloc ?_ _)); exact BK111.out⟩, ⟨by repeat (first | (with_reducible first | exact HB.out | apply below_alloc | apply pw_below_drewN | apply below_drew1 | refine below_set ?_ GE101.out | refine below_set ?_ GE111.out) | exact HB.out)⟩⟩
    case rest =>
      clear HC6
      try clear c1
      try clear p2
      try clear c4
      try clear c4b0
      try clear c4b1
      try clear c12
      try clear c14
      try clear c15
      try clear c15b0
      try clear c16
      try clear c18
      try clear hcz13_0
      try clear hcz13_1
      try clear hcz13_2
      try clear hcz13_3
      try clear hcz13_4
      try clear hcz13_5
      try clear hcz13_6
      try clear hcz17_0
      try clear hcz17_1
      try clear hcz17_2
      try clear hcz17_3
      try clear hcz19_0
      try clear hcz19_1
      try clear hcz19_2
      try clear hcz19_3
      try clear hcz9_0
      try clear hcz9_1
      try clear hcz9_2
      try clear hcz9_3
      try clear hfz13_0
      try clear hfz13_1
      try clear hfz13_2
      try clear hfz13_3
      try clear hfz13_4
      try clear hfz13_5
      try clear hfz13_6
      try clear hfz17_0
      try clear hfz17_1
      try clear hfz17_2
      try clear hfz17_3
      try clear hfz19_0
      try clear hfz19_1
      try clear hfz19_2
      try clear hfz19_3
      try clear hfz9_0
      try clear hfz9_1
      try clear hfz9_2
      try clear hfz9_3
      obtain ⟨kq, x19_5, rfl, HA, HJ5, BK101, BK111, HB⟩ := hcut
      cases kq with
      | zero => exact absurd HA.out (by simp [series_Check.j0])
      | succ kj5 =>
        have H := HA.out
        clear HA
        simp only [series_Check.j0] at H
        by_cases c20 : x19_5 = true
        · subst c20
          have H1 : (some 19) = some r := by rw [if_pos rfl] at H; exact H
          clear H
          have H := H1
          clear H1
          obtain rfl := Option.some.inj H
          go_wp2
          go_ret
          exact ⟨by first | rfl | (simp [errW_none, errW_some] <;> rfl) | (simp [*, errW_none, errW_some] <;> rfl), by repeat (first | (with_reducible first | exact HB.out | apply below_alloc | apply pw_below_drewN | apply below_drew1 | refine below_set ?_ GE101.out | refine below_set ?_ GE111.out) | exact HB.out)⟩
        · replace c20 := Bool.eq_false_iff.mpr c20
          subst c20
          have H1 : (if a1_2 < 0 then (series_Check.j1 kj5 true a1_0 a1_1 a1_2 a1_3 t103 t104 t105 t106 t107 t108 t109) else (series_Check.j1 kj5 (decide (a1_2 > 73048)) a1_0 a1_1 a1_2 a1_3 t103 t104 t105 t106 t107 t108 t109)) = some r := by rw [if_neg (show ¬ (false = true) by decide)] at H; exact H
          clear H
          have H := H1
          clear H1
          have HC21 := Aside0.mk H
          clear H
          go_upto_region 7 with (fail)
          go_cut [32] (fun v32 wc => ∃ (kq : Nat) (x32_20 : Bool), v32 = .bool x32_20 ∧ Aside0 (series_Check.j1 kq x32_20 a1_0 a1_1 a1_2 a1_3 t103 t104 t105 t106 t107 t108 t109 = some r) ∧ Aside0 (kq ≤ kj5) ∧ Aside0 (wc.heap[gb101]? = some (.cells #[.string a1_0, .int .i64 a1_1, .int .i64 a1_2, .int .i64 a1_3] 23 (0, 0))) ∧ Aside0 (wc.heap[gb111]? = some (.cells #[.string t103, .int .i64 t104, .int .i64 t105, .int .i64 t106, .int .i64 t107, .int .i64 t108, .bool t109] 45 (0, 0))) ∧ Aside0 (Below w.heap.size w wc))
          case first =>
            have H := HC21.out
            clear HC21
            by_cases c22 : a1_2 < 0
            · rw [if_pos c22] at H
              have c22b0 : decide (a1_2 < 0) = true := decide_eq_true c22
              clear c22
              (first | rw [c22b0] | (simp only [i64_w, i32_w]; rw [c22b0]) | skip)
              have H' := Aside0.mk H
              clear H
              have hnb23 := NB101_111.out
              have hnc23 := NB111_101.out
              have hcz24_0 : wc.cell? ⟨gb101, 0, none⟩ = some (.string a1_0) := (blk_cell BK101.out 0).trans rfl
              have hcz24_1 : wc.cell? ⟨gb101, 1, none⟩ = some (.int .i64 a1_1) := (blk_cell BK101.out 1).trans rfl
              have hcz24_2 : wc.cell? ⟨gb101, 2, none⟩ = some (.int .i64 a1_2) := (blk_cell BK101.out 2).trans rfl
              have hcz24_3 : wc.cell? ⟨gb101, 3, none⟩ = some (.int .i64 a1_3) := (blk_cell BK101.out 3).trans rfl
              have hfz24_0 := blk_frozen BK101.out 0
              have hfz24_1 := blk_frozen BK101.out 1
              have hfz24_2 := blk_frozen BK101.out 2
              have hfz24_3 := blk_frozen BK101.out 3
              go_wp2
              go_meet
              case rel => exact ⟨_, (true), (by first | rfl | (simp; done) | (simp [*]; done)), H', ⟨by have := HJ5.out; first | omega | exact Nat.le_refl _⟩, ⟨by (with_reducible repeat (first | refine blk_drewN ?_ _ | refine blk_drew ?_ | refine blk_alloc ?_ _)); exact BK101.out⟩, ⟨by (with_reducible repeat (first | refine blk_drewN ?_ _ | refine blk_drew ?_ | refine blk_alloc ?_ _)); exact BK111.out⟩, ⟨by repeat (first | (with_reducible first | exact HB.out | apply below_alloc | apply pw_below_drewN | apply below_drew1 | refine below_set ?_ GE101.out | refine below_set ?_ GE111.out) | exact HB.out)⟩⟩
            · rw [if_neg c22] at H
              have c22b0 : decide (a1_2 < 0) = false := decide_eq_false c22
              clear c22
              (first | rw [c22b0] | (simp only [i64_w, i32_w]; rw [c22b0]) | skip)
              have H' := Aside0.mk H
              clear H
              have hnb25 := NB101_111.out
              have hnc25 := NB111_101.out
              have hcz26_0 : wc.cell? ⟨gb101, 0, none⟩ = some (.string a1_0) := (blk_cell BK101.out 0).trans rfl
              have hcz26_1 : wc.cell? ⟨gb101, 1, none⟩ = some (.int .i64 a1_1) := (blk_cell BK101.out 1).trans rfl
              have hcz26_2 : wc.cell? ⟨gb101, 2, none⟩ = some (.int .i64 a1_2) := (blk_cell BK101.out 2).trans rfl
              have hcz26_3 : wc.cell? ⟨gb101, 3, none⟩ = some (.int .i64 a1_3) := (blk_cell BK101.out 3).trans rfl
              have hfz26_0 := blk_frozen BK101.out 0
              have hfz26_1 := blk_frozen BK101.out 1
              have hfz26_2 := blk_frozen BK101.out 2
              have hfz26_3 := blk_frozen BK101.out 3
              go_wp2
              go_meet
              case rel => exact ⟨_, (decide (a1_2 > 73048)), (by first | rfl | (simp; done) | (simp [*]; done)), H', ⟨by have := HJ5.out; first | omega | exact Nat.le_refl _⟩, ⟨by (with_reducible repeat (first | refine blk_drewN ?_ _ | refine blk_drew ?_ | refine blk_alloc ?_ _)); exact BK101.out⟩, ⟨by (with_reducible repeat (first | refine blk_drewN ?_ _ | refine blk_drew ?_ | refine blk_alloc ?_ _)); exact BK111.out⟩, ⟨by repeat (first | (with_reducible first | exact HB.out | apply below_alloc | apply pw_below_drewN | apply below_drew1 | refine below_set ?_ GE101.out | refine below_set ?_ GE111.out) | exact HB.out)⟩⟩
          case rest =>
            clear HC21
            try clear c1
            try clear c2
            try clear p2
            try clear c4
            try clear c4b0
            try clear c4b1
            try clear c12
            try clear c14
            try clear c15
            try clear c15b0
            try clear c16
            try clear c18
            try clear c20
            try clear c22
            try clear c22b0
            try clear c23
            try clear c25
            try clear hcz13_0
            try clear hcz13_1
            try clear hcz13_2
            try clear hcz13_3
            try clear hcz13_4
            try clear hcz13_5
            try clear hcz13_6
            try clear hcz17_0
            try clear hcz17_1
            try clear hcz17_2
            try clear hcz17_3
            try clear hcz19_0
            try clear hcz19_1
            try clear hcz19_2
            try clear hcz19_3
            try clear hcz24_0
            try clear hcz24_1
            try clear hcz24_2
            try clear hcz24_3
            try clear hcz26_0
            try clear hcz26_1
            try clear hcz26_2
            try clear hcz26_3
            try clear hcz9_0
            try clear hcz9_1
            try clear hcz9_2
            try clear hcz9_3
            try clear hfz13_0
            try clear hfz13_1
            try clear hfz13_2
            try clear hfz13_3
            try clear hfz13_4
            try clear hfz13_5
            try clear hfz13_6
            try clear hfz17_0
            try clear hfz17_1
            try clear hfz17_2
            try clear hfz17_3
            try clear hfz19_0
            try clear hfz19_1
            try clear hfz19_2
            try clear hfz19_3
            try clear hfz24_0
            try clear hfz24_1
            try clear hfz24_2
            try clear hfz24_3
            try clear hfz26_0
            try clear hfz26_1
            try clear hfz26_2
            try clear hfz26_3
            try clear hfz9_0
            try clear hfz9_1
            try clear hfz9_2
            try clear hfz9_3
            try clear p2
            obtain ⟨kq, x32_20, rfl, HA, HJ20, BK101, BK111, HB⟩ := hcut
            cases kq with
            | zero => exact absurd HA.out (by simp [series_Check.j1])
            | succ kj20 =>
              have H := HA.out
              clear HA
              simp only [series_Check.j1] at H
              by_cases c27 : x32_20 = true
              · subst c27
                have H1 : (some 15) = some r := by rw [if_pos rfl] at H; exact H
                clear H
                have H := H1
                clear H1
                obtain rfl := Option.some.inj H
                go_wp2
                go_ret
                exact ⟨by first | rfl | (simp [errW_none, errW_some] <;> rfl) | (simp [*, errW_none, errW_some] <;> rfl), by repeat (first | (with_reducible first | exact HB.out | apply below_alloc | apply pw_below_drewN | apply below_drew1 | refine below_set ?_ GE101.out | refine below_set ?_ GE111.out) | exact HB.out)⟩
              · replace c27 := Bool.eq_false_iff.mpr c27
                subst c27
                have H1 : (if a1_1 = 1 then (series_Check.j2 kj20 (a1_3 != 0) a1_0 a1_1 a1_2 a1_3 t103 t104 t105 t106 t107 t108 t109) else (series_Check.j2 kj20 false a1_0 a1_1 a1_2 a1_3 t103 t104 t105 t106 t107 t108 t109)) = some r := by rw [if_neg (show ¬ (false = true) by decide)] at H; exact H
                clear H
                have H := H1
                clear H1
                have HC28 := Aside0.mk H
                clear H
                go_upto_region 9 with (fail)
                go_cut [41] (fun v41 wc => ∃ (kq : Nat) (x41_27 : Bool), v41 = .bool x41_27 ∧ Aside0 (series_Check.j2 kq x41_27 a1_0 a1_1 a1_2 a1_3 t103 t104 t105 t106 t107 t108 t109 = some r) ∧ Aside0 (kq ≤ kj20) ∧ Aside0 (wc.heap[gb101]? = some (.cells #[.string a1_0, .int .i64 a1_1, .int .i64 a1_2, .int .i64 a1_3] 23 (0, 0))) ∧ Aside0 (wc.heap[gb111]? = some (.cells #[.string t103, .int .i64 t104, .int .i64 t105, .int .i64 t106, .int .i64 t107, .int .i64 t108, .bool t109] 45 (0, 0))) ∧ Aside0 (Below w.heap.size w wc))
                case first =>
                  have H := HC28.out
                  clear HC28
                  by_cases c29 : a1_1 = 1
                  · rw [if_pos c29] at H
                    have c29b0 : (a1_1 == 1) = true := beq_iff_eq.mpr c29
                    have c29b1 : (a1_1 != 1) = false := bne_eq_false_iff_eq.mpr c29
                    clear c29
                    (first | rw [c29b0] | (simp only [i64_w, i32_w]; rw [c29b0]) | skip)
                    have H' := Aside0.mk H
                    clear H
                    have hnb30 := NB101_111.out
                    have hnc30 := NB111_101.out
                    have hcz31_0 : wc.cell? ⟨gb101, 0, none⟩ = some (.string a1_0) := (blk_cell BK101.out 0).trans rfl
                    have hcz31_1 : wc.cell? ⟨gb101, 1, none⟩ = some (.int .i64 a1_1) := (blk_cell BK101.out 1).trans rfl
                    have hcz31_2 : wc.cell? ⟨gb101, 2, none⟩ = some (.int .i64 a1_2) := (blk_cell BK101.out 2).trans rfl
                    have hcz31_3 : wc.cell? ⟨gb101, 3, none⟩ = some (.int .i64 a1_3) := (blk_cell BK101.out 3).trans rfl
                    have hfz31_0 := blk_frozen BK101.out 0
                    have hfz31_1 := blk_frozen BK101.out 1
                    have hfz31_2 := blk_frozen BK101.out 2
                    have hfz31_3 := blk_frozen BK101.out 3
                    go_wp2
                    go_meet
                    case rel => exact ⟨_, ((a1_3 != 0)), (by first | rfl | (simp; done) | (simp [*]; done)), H', ⟨by have := HJ5.out; have := HJ20.out; first | omega | exact Nat.le_refl _⟩, ⟨by (with_reducible repeat (first | refine blk_drewN ?_ _ | refine blk_drew ?_ | refine blk_alloc ?_ _)); exact BK101.out⟩, ⟨by (with_reducible repeat (first | refine blk_drewN ?_ _ | refine blk_drew ?_ | refine blk_alloc ?_ _)); exact BK111.out⟩, ⟨by repeat (first | (with_reducible first | exact HB.out | apply below_alloc | apply pw_below_drewN | apply below_drew1 | refine below_set ?_ GE101.out | refine below_set ?_ GE111.out) | exact HB.out)⟩⟩
                  · rw [if_neg c29] at H
                    have c29b0 : (a1_1 == 1) = false := beq_eq_false_iff_ne.mpr c29
                    have c29b1 : (a1_1 != 1) = true := bne_iff_ne.mpr c29
                    (first | rw [c29b0] | (simp only [i64_w, i32_w]; rw [c29b0]) | skip)
                    have H' := Aside0.mk H
                    clear H
                    have hnb32 := NB101_111.out
                    have hnc32 := NB111_101.out
                    have hcz33_0 : wc.cell? ⟨gb101, 0, none⟩ = some (.string a1_0) := (blk_cell BK101.out 0).trans rfl
                    have hcz33_1 : wc.cell? ⟨gb101, 1, none⟩ = some (.int .i64 a1_1) := (blk_cell BK101.out 1).trans rfl
                    have hcz33_2 : wc.cell? ⟨gb101, 2, none⟩ = some (.int .i64 a1_2) := (blk_cell BK101.out 2).trans rfl
                    have hcz33_3 : wc.cell? ⟨gb101, 3, none⟩ = some (.int .i64 a1_3) := (blk_cell BK101.out 3).trans rfl
                    have hfz33_0 := blk_frozen BK101.out 0
                    have hfz33_1 := blk_frozen BK101.out 1
                    have hfz33_2 := blk_frozen BK101.out 2
                    have hfz33_3 := blk_frozen BK101.out 3
                    go_wp2
                    go_meet
                    case rel => exact ⟨_, (false), (by first | rfl | (simp; done) | (simp [*]; done)), H', ⟨by have := HJ5.out; have := HJ20.out; first | omega | exact Nat.le_refl _⟩, ⟨by (with_reducible repeat (first | refine blk_drewN ?_ _ | refine blk_drew ?_ | refine blk_alloc ?_ _)); exact BK101.out⟩, ⟨by (with_reducible repeat (first | refine blk_drewN ?_ _ | refine blk_drew ?_ | refine blk_alloc ?_ _)); exact BK111.out⟩, ⟨by repeat (first | (with_reducible first | exact HB.out | apply below_alloc | apply pw_below_drewN | apply below_drew1 | refine below_set ?_ GE101.out | refine below_set ?_ GE111.out) | exact HB.out)⟩⟩
                case rest =>
                  clear HC28
                  try clear c1
                  try clear c2
                  try clear p2
                  try clear c3
                  try clear c4
                  try clear c4b0
                  try clear c4b1
                  try clear c12
                  try clear c14
                  try clear c15
                  try clear c15b0
                  try clear c16
                  try clear c18
                  try clear c20
                  try clear c22
                  try clear c22b0
                  try clear c23
                  try clear c25
                  try clear c27
                  try clear c29
                  try clear c29b0
                  try clear c29b1
                  try clear c30
                  try clear c32
                  try clear hcz13_0
                  try clear hcz13_1
                  try clear hcz13_2
                  try clear hcz13_3
                  try clear hcz13_4
                  try clear hcz13_5
                  try clear hcz13_6
                  try clear hcz17_0
                  try clear hcz17_1
                  try clear hcz17_2
                  try clear hcz17_3
                  try clear hcz19_0
                  try clear hcz19_1
                  try clear hcz19_2
                  try clear hcz19_3
                  try clear hcz24_0
                  try clear hcz24_1
                  try clear hcz24_2
                  try clear hcz24_3
                  try clear hcz26_0
                  try clear hcz26_1
                  try clear hcz26_2
                  try clear hcz26_3
                  try clear hcz31_0
                  try clear hcz31_1
                  try clear hcz31_2
                  try clear hcz31_3
                  try clear hcz33_0
                  try clear hcz33_1
                  try clear hcz33_2
                  try clear hcz33_3
                  try clear hcz9_0
                  try clear hcz9_1
                  try clear hcz9_2
                  try clear hcz9_3
                  try clear hfz13_0
                  try clear hfz13_1
                  try clear hfz13_2
                  try clear hfz13_3
                  try clear hfz13_4
                  try clear hfz13_5
                  try clear hfz13_6
                  try clear hfz17_0
                  try clear hfz17_1
                  try clear hfz17_2
                  try clear hfz17_3
                  try clear hfz19_0
                  try clear hfz19_1
                  try clear hfz19_2
                  try clear hfz19_3
                  try clear hfz24_0
                  try clear hfz24_1
                  try clear hfz24_2
                  try clear hfz24_3
                  try clear hfz26_0
                  try clear hfz26_1
                  try clear hfz26_2
                  try clear hfz26_3
                  try clear hfz31_0
                  try clear hfz31_1
                  try clear hfz31_2
                  try clear hfz31_3
                  try clear hfz33_0
                  try clear hfz33_1
                  try clear hfz33_2
                  try clear hfz33_3
                  try clear hfz9_0
                  try clear hfz9_1
                  try clear hfz9_2
                  try clear hfz9_3
                  try clear p2
                  obtain ⟨kq, x41_27, rfl, HA, HJ27, BK101, BK111, HB⟩ := hcut
                  cases kq with
                  | zero => exact absurd HA.out (by simp [series_Check.j2])
                  | succ kj27 =>
                    have H := HA.out
                    clear HA
                    simp only [series_Check.j2] at H
                    by_cases c34 : x41_27 = true
                    · subst c34
                      have H1 : (some 17) = some r := by rw [if_pos rfl] at H; exact H
                      clear H
                      have H := H1
                      clear H1
                      obtain rfl := Option.some.inj H
                      go_wp2
                      go_ret
                      exact ⟨by first | rfl | (simp [errW_none, errW_some] <;> rfl) | (simp [*, errW_none, errW_some] <;> rfl), by repeat (first | (with_reducible first | exact HB.out | apply below_alloc | apply pw_below_drewN | apply below_drew1 | refine below_set ?_ GE101.out | refine below_set ?_ GE111.out) | exact HB.out)⟩
                    · replace c34 := Bool.eq_false_iff.mpr c34
                      subst c34
                      have H1 : (if a1_1 = 1 then (some 0) else ((product_Price.f kj27 t103 t104 t105 t106 t107 t108 t109 a1_3).bind fun t112 => (if t112 = 0 then (some 0) else (some 17)))) = some r := by rw [if_neg (show ¬ (false = true) by decide)] at H; exact H
                      clear H
                      have H := H1
                      clear H1
                      by_cases c35 : a1_1 = 1
                      · rw [if_pos c35] at H
                        have c35b0 : (a1_1 == 1) = true := beq_iff_eq.mpr c35
                        have c35b1 : (a1_1 != 1) = false := bne_eq_false_iff_eq.mpr c35
                        clear c35
                        obtain rfl := Option.some.inj H
                        have hnb36 := NB101_111.out
                        have hnc36 := NB111_101.out
                        have hcz37_0 : wc.cell? ⟨gb101, 0, none⟩ = some (.string a1_0) := (blk_cell BK101.out 0).trans rfl
                        have hcz37_1 : wc.cell? ⟨gb101, 1, none⟩ = some (.int .i64 a1_1) := (blk_cell BK101.out 1).trans rfl
                        have hcz37_2 : wc.cell? ⟨gb101, 2, none⟩ = some (.int .i64 a1_2) := (blk_cell BK101.out 2).trans rfl
                        have hcz37_3 : wc.cell? ⟨gb101, 3, none⟩ = some (.int .i64 a1_3) := (blk_cell BK101.out 3).trans rfl
                        have hfz37_0 := blk_frozen BK101.out 0
                        have hfz37_1 := blk_frozen BK101.out 1
                        have hfz37_2 := blk_frozen BK101.out 2
                        have hfz37_3 := blk_frozen BK101.out 3
                        go_wp2
                        go_ret
                        exact ⟨by first | rfl | (simp [errW_none, errW_some] <;> rfl) | (simp [*, errW_none, errW_some] <;> rfl), by repeat (first | (with_reducible first | exact HB.out | apply below_alloc | apply pw_below_drewN | apply below_drew1 | refine below_set ?_ GE101.out | refine below_set ?_ GE111.out) | exact HB.out)⟩
                      · rw [if_neg c35] at H
                        have c35b0 : (a1_1 == 1) = false := beq_eq_false_iff_ne.mpr c35
                        have c35b1 : (a1_1 != 1) = true := bne_iff_ne.mpr c35
                        replace H := Option.bind_eq_some_iff.mp H
                        obtain ⟨t112, A380, H⟩ := H
                        replace H : (if t112 = 0 then (some 0) else (some 17)) = some r := H
                        have A38 := Aside0.mk A380
                        clear A380
                        by_cases c39 : t112 = 0
                        · rw [if_pos c39] at H
                          have c39b0 : (t112 == 0) = true := beq_iff_eq.mpr c39
                          have c39b1 : (t112 != 0) = false := bne_eq_false_iff_eq.mpr c39
                          clear c39
                          obtain rfl := Option.some.inj H
                          have hnb40 := NB101_111.out
                          have hnc40 := NB111_101.out
                          have hcz41_0 : wc.cell? ⟨gb101, 0, none⟩ = some (.string a1_0) := (blk_cell BK101.out 0).trans rfl
                          have hcz41_1 : wc.cell? ⟨gb101, 1, none⟩ = some (.int .i64 a1_1) := (blk_cell BK101.out 1).trans rfl
                          have hcz41_2 : wc.cell? ⟨gb101, 2, none⟩ = some (.int .i64 a1_2) := (blk_cell BK101.out 2).trans rfl
                          have hcz41_3 : wc.cell? ⟨gb101, 3, none⟩ = some (.int .i64 a1_3) := (blk_cell BK101.out 3).trans rfl
                          have hfz41_0 := blk_frozen BK101.out 0
                          have hfz41_1 := blk_frozen BK101.out 1
                          have hfz41_2 := blk_frozen BK101.out 2
                          have hfz41_3 := blk_frozen BK101.out 3
                          have hcz42_0 : wc.cell? ⟨gb111, 0, none⟩ = some (.string t103) := (blk_cell BK111.out 0).trans rfl
                          have hcz42_1 : wc.cell? ⟨gb111, 1, none⟩ = some (.int .i64 t104) := (blk_cell BK111.out 1).trans rfl
                          have hcz42_2 : wc.cell? ⟨gb111, 2, none⟩ = some (.int .i64 t105) := (blk_cell BK111.out 2).trans rfl
                          have hcz42_3 : wc.cell? ⟨gb111, 3, none⟩ = some (.int .i64 t106) := (blk_cell BK111.out 3).trans rfl
                          have hcz42_4 : wc.cell? ⟨gb111, 4, none⟩ = some (.int .i64 t107) := (blk_cell BK111.out 4).trans rfl
                          have hcz42_5 : wc.cell? ⟨gb111, 5, none⟩ = some (.int .i64 t108) := (blk_cell BK111.out 5).trans rfl
                          have hcz42_6 : wc.cell? ⟨gb111, 6, none⟩ = some (.bool t109) := (blk_cell BK111.out 6).trans rfl
                          have hfz42_0 := blk_frozen BK111.out 0
                          have hfz42_1 := blk_frozen BK111.out 1
                          have hfz42_2 := blk_frozen BK111.out 2
                          have hfz42_3 := blk_frozen BK111.out 3
                          have hfz42_4 := blk_frozen BK111.out 4
                          have hfz42_5 := blk_frozen BK111.out 5
                          have hfz42_6 := blk_frozen BK111.out 6
                          go_wp2_with (first | (go_at_call 35; (with_reducible refine (product_Price.calls kj27 t103 t104 t105 t106 t107 t108 t109 a1_3 t112 _ A38.out).mono ?_); rintro e w43 ⟨rfl, hb⟩; have n0_ := Aside0.mk (blk_below (g := gb101) (o := .cells #[.string a1_0, .int .i64 a1_1, .int .i64 a1_2, .int .i64 a1_3] 23 (0, 0)) (by (with_reducible repeat (first | refine blk_drewN ?_ _ | refine blk_drew ?_ | refine blk_alloc ?_ _)); exact BK101.out) hb); have n1_ := Aside0.mk (blk_below (g := gb111) (o := .cells #[.string t103, .int .i64 t104, .int .i64 t105, .int .i64 t106, .int .i64 t107, .int .i64 t108, .bool t109] 45 (0, 0)) (by (with_reducible repeat (first | refine blk_drewN ?_ _ | refine blk_drew ?_ | refine blk_alloc ?_ _)); exact BK111.out) hb); have n2_ := Aside0.mk (below_step (by repeat (first | (with_reducible first | exact HB.out | apply below_alloc | apply pw_below_drewN | apply below_drew1 | refine below_set ?_ GE101.out | refine below_set ?_ GE111.out) | exact HB.out)) hb); clear BK101; clear BK111; clear HB; have BK101 := n0_; have BK111 := n1_; have HB := n2_; clear n0_ n1_ n2_; (try clear hb); (try clear hb2); (try clear hk); (try clear hi)))
                          go_ret
                          exact ⟨by first | rfl | (simp [errW_none, errW_some] <;> rfl) | (simp [*, errW_none, errW_some] <;> rfl), by repeat (first | (with_reducible first | exact HB.out | apply below_alloc | apply pw_below_drewN | apply below_drew1 | refine below_set ?_ GE101.out | refine below_set ?_ GE111.out) | exact HB.out)⟩
                        · rw [if_neg c39] at H
                          have c39b0 : (t112 == 0) = false := beq_eq_false_iff_ne.mpr c39
                          have c39b1 : (t112 != 0) = true := bne_iff_ne.mpr c39
                          obtain rfl := Option.some.inj H
                          have hnb44 := NB101_111.out
                          have hnc44 := NB111_101.out
                          have hcz45_0 : wc.cell? ⟨gb101, 0, none⟩ = some (.string a1_0) := (blk_cell BK101.out 0).trans rfl
                          have hcz45_1 : wc.cell? ⟨gb101, 1, none⟩ = some (.int .i64 a1_1) := (blk_cell BK101.out 1).trans rfl
                          have hcz45_2 : wc.cell? ⟨gb101, 2, none⟩ = some (.int .i64 a1_2) := (blk_cell BK101.out 2).trans rfl
                          have hcz45_3 : wc.cell? ⟨gb101, 3, none⟩ = some (.int .i64 a1_3) := (blk_cell BK101.out 3).trans rfl
                          have hfz45_0 := blk_frozen BK101.out 0
                          have hfz45_1 := blk_frozen BK101.out 1
                          have hfz45_2 := blk_frozen BK101.out 2
                          have hfz45_3 := blk_frozen BK101.out 3
                          have hcz46_0 : wc.cell? ⟨gb111, 0, none⟩ = some (.string t103) := (blk_cell BK111.out 0).trans rfl
                          have hcz46_1 : wc.cell? ⟨gb111, 1, none⟩ = some (.int .i64 t104) := (blk_cell BK111.out 1).trans rfl
                          have hcz46_2 : wc.cell? ⟨gb111, 2, none⟩ = some (.int .i64 t105) := (blk_cell BK111.out 2).trans rfl
                          have hcz46_3 : wc.cell? ⟨gb111, 3, none⟩ = some (.int .i64 t106) := (blk_cell BK111.out 3).trans rfl
                          have hcz46_4 : wc.cell? ⟨gb111, 4, none⟩ = some (.int .i64 t107) := (blk_cell BK111.out 4).trans rfl
                          have hcz46_5 : wc.cell? ⟨gb111, 5, none⟩ = some (.int .i64 t108) := (blk_cell BK111.out 5).trans rfl
                          have hcz46_6 : wc.cell? ⟨gb111, 6, none⟩ = some (.bool t109) := (blk_cell BK111.out 6).trans rfl
                          have hfz46_0 := blk_frozen BK111.out 0
                          have hfz46_1 := blk_frozen BK111.out 1
                          have hfz46_2 := blk_frozen BK111.out 2
                          have hfz46_3 := blk_frozen BK111.out 3
                          have hfz46_4 := blk_frozen BK111.out 4
                          have hfz46_5 := blk_frozen BK111.out 5
                          have hfz46_6 := blk_frozen BK111.out 6
                          go_wp2_with (first | (go_at_call 35; (with_reducible refine (product_Price.calls kj27 t103 t104 t105 t106 t107 t108 t109 a1_3 t112 _ A38.out).mono ?_); rintro e w47 ⟨rfl, hb⟩; have n0_ := Aside0.mk (blk_below (g := gb101) (o := .cells #[.string a1_0, .int .i64 a1_1, .int .i64 a1_2, .int .i64 a1_3] 23 (0, 0)) (by (with_reducible repeat (first | refine blk_drewN ?_ _ | refine blk_drew ?_ | refine blk_alloc ?_ _)); exact BK101.out) hb); have n1_ := Aside0.mk (blk_below (g := gb111) (o := .cells #[.string t103, .int .i64 t104, .int .i64 t105, .int .i64 t106, .int .i64 t107, .int .i64 t108, .bool t109] 45 (0, 0)) (by (with_reducible repeat (first | refine blk_drewN ?_ _ | refine blk_drew ?_ | refine blk_alloc ?_ _)); exact BK111.out) hb); have n2_ := Aside0.mk (below_step (by repeat (first | (with_reducible first | exact HB.out | apply below_alloc | apply pw_below_drewN | apply below_drew1 | refine below_set ?_ GE101.out | refine below_set ?_ GE111.out) | exact HB.out)) hb); clear BK101; clear BK111; clear HB; have BK101 := n0_; have BK111 := n1_; have HB := n2_; clear n0_ n1_ n2_; (try clear hb); (try clear hb2); (try clear hk); (try clear hi)))
                          go_ret
                          exact ⟨by first | rfl | (simp [errW_none, errW_some] <;> rfl) | (simp [*, errW_none, errW_some] <;> rfl), by repeat (first | (with_reducible first | exact HB.out | apply below_alloc | apply pw_below_drewN | apply below_drew1 | refine below_set ?_ GE101.out | refine below_set ?_ GE111.out) | exact HB.out)⟩
  · rw [if_neg c4] at H
    have c4b0 : (t102 == 0) = false := beq_eq_false_iff_ne.mpr c4
    have c4b1 : (t102 != 0) = true := bne_iff_ne.mpr c4
    obtain rfl := Option.some.inj H
    go_enter Tryd.func43, Tryd.ntmps43
    go_wp2_with (first | ((with_reducible refine gate_dst (N := 3) rfl ?_); refine box_event ?hg (N := 3) ?hd (cs := #[.string a1_0, .int .i64 a1_1, .int .i64 a1_2, .int .i64 a1_3]) (t := 23) ?hr ?_; (case hd => rfl); (case hg => rfl); (case hr => first | (go_simp; done) | (go_simp; rfl)); intro gb101 hg w48 hbox hb; have n0_ := Aside0.mk (below_step (by repeat (first | (with_reducible first | exact HB.out | apply below_alloc | apply pw_below_drewN | apply below_drew1) | exact HB.out)) hb); have n1_ := Aside0.mk (hbox); have n2_ := Aside0.mk ((by rw [hg]; exact (below_size (by repeat (first | (with_reducible first | exact HB.out | apply below_alloc | apply pw_below_drewN | apply below_drew1) | exact HB.out))) : w.heap.size ≤ gb101)); have n3_ := Aside0.mk ((by rw [hg]; exact (below_size (by repeat (first | (with_reducible first | exact HB.out | apply below_alloc | apply pw_below_drewN | apply below_drew1) | exact HB.out))) : w.heap.size ≤ gb101)); clear HB; have HB := n0_; have BK101 := n1_; have GW101 := n2_; have GE101 := n3_; clear n0_ n1_ n2_ n3_; clear hb hbox hg) | ((with_reducible refine gate_callee (f := 48) rfl ?_); refine goesL_ (some 8) rfl rfl Tryd.func48 (by kernel_rfl) rfl #[.slice A0 l0.length c0] rfl (by (try simp only [List.map_toArray, List.map_cons, List.map_nil]); first | done | rfl | (simp only [List.length_drop, List.length_take]; rfl)) ?_; (with_reducible refine (product_CheckAll.calls k _ _ l0 t102 _ ?side1 ?side2 A3.out).mono ?_); (case side1 => repeat (first | exact (Kd.C_below HR0.out HB.out) | (with_reducible refine Kd.C_alloc ?_ _) | (with_reducible refine Kd.C_drewN ?_ _) | (with_reducible refine Kd.C_drew ?_))); (case side2 => exact HC0.out); rintro e w49 ⟨rfl, hb⟩; refine ⟨_, rfl, ?_⟩; have n0_ := Aside0.mk (blk_below (g := gb101) (o := .cells #[.string a1_0, .int .i64 a1_1, .int .i64 a1_2, .int .i64 a1_3] 23 (0, 0)) (by (with_reducible repeat (first | refine blk_drewN ?_ _ | refine blk_drew ?_ | refine blk_alloc ?_ _)); exact BK101.out) hb); have n1_ := Aside0.mk (below_step (by repeat (first | (with_reducible first | exact HB.out | apply below_alloc | apply pw_below_drewN | apply below_drew1 | refine below_set ?_ GE101.out) | exact HB.out)) hb); clear BK101; clear HB; have BK101 := n0_; have HB := n1_; clear n0_ n1_; (try clear hb); (try clear hb2); (try clear hk); (try clear hi)))
    go_ret
    exact ⟨by first | rfl | (simp [errW_none, errW_some] <;> rfl) | (simp [*, errW_none, errW_some] <;> rfl), by repeat (first | (with_reducible first | exact HB.out | apply below_alloc | apply pw_below_drewN | apply below_drew1 | refine below_set ?_ GE101.out) | exact HB.out)⟩
end Go.Proofs.YtieifncibojciaaDoor.X
end
section
namespace Go.Proofs.YtieifncibojciaaDoor.X
open Go.RowKit Go.Proofs.YtieifncibojciaaDoorW.PrintWords Go.Proofs.YtieifncibojciaaDoorW.PrintLast Go.Proofs.YtieifncibojciaaDoorW.PrintMore
attribute [local go_sem] max2_int min2_int max_two min_two max_three min_three max_four min_four
set_option linter.unusedVariables false
set_option linter.unusedSimpArgs false
attribute [local go_sem high] eqA45
def contangolaw10_SeriesChecks.l0 : Nat → List (S45) → List (S45) → Int → Int → Int → ByteArray → Int → Int → Int → Option (Bool)
  | 0, _, _, _, _, _, _, _, _, _ => none
  | k + 1, x0, x5, x6, x19, x20, x102000, x102001, x102002, x102003 => if x20 < x19 then (if 0 ≤ x20 then (if x20 < (x5.length : Int) then (if x20 < (x0.length : Int) then (if (!((((rd_T45 x5 x20).f0).toList) == (((rd_T45 x0 x20).f0).toList)) || (!(((rd_T45 x5 x20).f1) == ((rd_T45 x0 x20).f1)) || (!(((rd_T45 x5 x20).f2) == ((rd_T45 x0 x20).f2)) || (!(((rd_T45 x5 x20).f3) == ((rd_T45 x0 x20).f3)) || (!(((rd_T45 x5 x20).f4) == ((rd_T45 x0 x20).f4)) || (!(((rd_T45 x5 x20).f5) == ((rd_T45 x0 x20).f5)) || (!(((rd_T45 x5 x20).f6) == ((rd_T45 x0 x20).f6))))))))) = true then (none) else (contangolaw10_SeriesChecks.l0 k x0 x5 x6 x19 (wrap64 (x20 + 1)) x102000 x102001 x102002 x102003)) else (none)) else (none)) else (none)) else ((contangoref10_Check.f k x0 x102000 x102001 x102002 x102003).bind fun t112 => (if x6 = t112 then ((contangolaw10_goes.f k).bind fun t113 => (some t113)) else (none)))
def contangolaw10_SeriesChecks.f (k : Nat) (l0 : List (S45)) (a1_0 : ByteArray) (a1_1 : Int) (a1_2 : Int) (a1_3 : Int) : Option (Bool) := if (l0.length : Int) > 60 then ((contangolaw10_goes.f k).bind fun t102 => (some t102)) else ((some (([] : List (S45)) : List (S45))).bind fun y103 => (if y103.length + l0.length < 2199023255552 then ((some (y103 ++ l0 : List (S45))).bind fun y106 => ((series_Check.f k y106 a1_0 a1_1 a1_2 a1_3).bind fun t109 => (contangolaw10_SeriesChecks.l0 k l0 y106 t109 (l0.length : Int) 0 a1_0 a1_1 a1_2 a1_3))) else (none)))
set_option maxHeartbeats 8000000 in
set_option maxRecDepth 100000 in
theorem contangolaw10_SeriesChecks.calls (k : Nat) (A0 : Option Addr) (c0 : Nat) (l0 : List (S45)) (a1_0 : ByteArray) (a1_1 : Int) (a1_2 : Int) (a1_3 : Int) (r : Bool) (w : World) (hr0 : Kd.C k45 w A0 l0.length l0) (hc0 : l0.length ≤ c0) (h : contangolaw10_SeriesChecks.f k l0 a1_0 a1_1 a1_2 a1_3 = some r) (hGL : GlobD w) :
    Calls Tryd.prog 12 #[.slice A0 l0.length c0, .agg #[.string a1_0, .int .i64 a1_1, .int .i64 a1_2, .int .i64 a1_3]] w fun e w' => e = .returned (.bool r) ∧ Below w.heap.size w w' := by
  have hu23 := Tryd.underlying23
  have hu45 := Tryd.underlying45
  have HR0 := Aside0.mk hr0
  have HC0 := Aside0.mk hc0
  clear hr0 hc0
  have HB := Aside0.mk (Below.refl w.heap.size w)
  have HGL := Aside0.mk hGL
  clear hGL
  have H : (if (l0.length : Int) > 60 then ((contangolaw10_goes.f k).bind fun t102 => (some t102)) else ((some (([] : List (S45)) : List (S45))).bind fun y103 => (if y103.length + l0.length < 2199023255552 then ((some (y103 ++ l0 : List (S45))).bind fun y106 => ((series_Check.f k y106 a1_0 a1_1 a1_2 a1_3).bind fun t109 => (contangolaw10_SeriesChecks.l0 k l0 y106 t109 (l0.length : Int) 0 a1_0 a1_1 a1_2 a1_3))) else (none)))) = some r := h
  clear h
  by_cases c3 : (l0.length : Int) > 60
  · rw [if_pos c3] at H
    have c3b0 : decide (60 < (l0.length : Int)) = true := decide_eq_true c3
    have c3b1 : decide (60 < l0.length) = true := decide_eq_true (by omega)
    clear c3
    replace H := Option.bind_eq_some_iff.mp H
    obtain ⟨t102, A40, H⟩ := H
    replace H : (some t102) = some r := H
    have A4 := Aside0.mk A40
    clear A40
    obtain rfl := Option.some.inj H
    go_enter Tryd.func12, Tryd.ntmps12
    go_wp2_with (first | ((with_reducible refine gate_dst (N := 3) rfl ?_); refine box_event ?hg (N := 3) ?hd (cs := #[.string a1_0, .int .i64 a1_1, .int .i64 a1_2, .int .i64 a1_3]) (t := 23) ?hr ?_; (case hd => rfl); (case hg => rfl); (case hr => first | (go_simp; done) | (go_simp; rfl)); intro gb101 hg w5 hbox hb; have n0_ := Aside0.mk (below_step (by repeat (first | (with_reducible first | exact HB.out | apply below_alloc | apply pw_below_drewN | apply below_drew1) | exact HB.out)) hb); have n1_ := Aside0.mk (hbox); have n2_ := Aside0.mk ((by rw [hg]; exact (below_size (by repeat (first | (with_reducible first | exact HB.out | apply below_alloc | apply pw_below_drewN | apply below_drew1) | exact HB.out))) : w.heap.size ≤ gb101)); have n3_ := Aside0.mk ((by rw [hg]; exact (below_size (by repeat (first | (with_reducible first | exact HB.out | apply below_alloc | apply pw_below_drewN | apply below_drew1) | exact HB.out))) : w.heap.size ≤ gb101)); clear HB; have HB := n0_; have BK101 := n1_; have GW101 := n2_; have GE101 := n3_; clear n0_ n1_ n2_ n3_; clear hb hbox hg) | (go_at_call 14; (with_reducible refine (contangolaw10_goes.calls k  t102 _ A4.out (glob_of HGL.out (by repeat (first | (with_reducible first | exact HB.out | apply below_alloc | apply pw_below_drewN | apply below_drew1 | refine below_set ?_ GE101.out) | exact HB.out)))).mono ?_); rintro e w6 ⟨rfl, hb⟩; have n0_ := Aside0.mk (blk_below (g := gb101) (o := .cells #[.string a1_0, .int .i64 a1_1, .int .i64 a1_2, .int .i64 a1_3] 23 (0, 0)) (by (with_reducible repeat (first | refine blk_drewN ?_ _ | refine blk_drew ?_ | refine blk_alloc ?_ _)); exact BK101.out) hb); have n1_ := Aside0.mk (below_step (by repeat (first | (with_reducible first | exact HB.out | apply below_alloc | apply pw_below_drewN | apply below_drew1 | refine below_set ?_ GE101.out) | exact HB.out)) hb); clear BK101; clear HB; have BK101 := n0_; have HB := n1_; clear n0_ n1_; (try clear hb); (try clear hb2); (try clear hk); (try clear hi)))
    repeat (go_quiet (first | ((with_reducible refine gate_dst (N := 3) rfl ?_); refine box_event ?hg (N := 3) ?hd (cs := #[.string a1_0, .int .i64 a1_1, .int .i64 a1_2, .int .i64 a1_3]) (t := 23) ?hr ?_; (case hd => rfl); (case hg => rfl); (case hr => first | (go_simp; done) | (go_simp; rfl)); intro gb101 hg w5 hbox hb; have n0_ := Aside0.mk (below_step (by repeat (first | (with_reducible first | exact HB.out | apply below_alloc | apply pw_below_drewN | apply below_drew1) | exact HB.out)) hb); have n1_ := Aside0.mk (hbox); have n2_ := Aside0.mk ((by rw [hg]; exact (below_size (by repeat (first | (with_reducible first | exact HB.out | apply below_alloc | apply pw_below_drewN | apply below_drew1) | exact HB.out))) : w.heap.size ≤ gb101)); have n3_ := Aside0.mk ((by rw [hg]; exact (below_size (by repeat (first | (with_reducible first | exact HB.out | apply below_alloc | apply pw_below_drewN | apply below_drew1) | exact HB.out))) : w.heap.size ≤ gb101)); clear HB; have HB := n0_; have BK101 := n1_; have GW101 := n2_; have GE101 := n3_; clear n0_ n1_ n2_ n3_; clear hb hbox hg) | (go_at_call 14; (with_reducible refine (contangolaw10_goes.calls k  t102 _ A4.out (glob_of HGL.out (by repeat (first | (with_reducible first | exact HB.out | apply below_alloc | apply pw_below_drewN | apply below_drew1 | refine below_set ?_ GE101.out) | exact HB.out)))).mono ?_); rintro e w6 ⟨rfl, hb⟩; have n0_ := Aside0.mk (blk_below (g := gb101) (o := .cells #[.string a1_0, .int .i64 a1_1, .int .i64 a1_2, .int .i64 a1_3] 23 (0, 0)) (by (with_reducible repeat (first | refine blk_drewN ?_ _ | refine blk_drew ?_ | refine blk_alloc ?_ _)); exact BK101.out) hb); have n1_ := Aside0.mk (below_step (by repeat (first | (with_reducible first | exact HB.out | apply below_alloc | apply pw_below_drewN | apply below_drew1 | refine below_set ?_ GE101.out) | exact HB.out)) hb); clear BK101; clear HB; have BK101 := n0_; have HB := n1_; clear n0_ n1_; (try clear hb); (try clear hb2); (try clear hk); (try clear hi))); try go_wp2_with (first | ((with_reducible refine gate_dst (N := 3) rfl ?_); refine box_event ?hg (N := 3) ?hd (cs := #[.string a1_0, .int .i64 a1_1, .int .i64 a1_2, .int .i64 a1_3]) (t := 23) ?hr ?_; (case hd => rfl); (case hg => rfl); (case hr => first | (go_simp; done) | (go_simp; rfl)); intro gb101 hg w5 hbox hb; have n0_ := Aside0.mk (below_step (by repeat (first | (with_reducible first | exact HB.out | apply below_alloc | apply pw_below_drewN | apply below_drew1) | exact HB.out)) hb); have n1_ := Aside0.mk (hbox); have n2_ := Aside0.mk ((by rw [hg]; exact (below_size (by repeat (first | (with_reducible first | exact HB.out | apply below_alloc | apply pw_below_drewN | apply below_drew1) | exact HB.out))) : w.heap.size ≤ gb101)); have n3_ := Aside0.mk ((by rw [hg]; exact (below_size (by repeat (first | (with_reducible first | exact HB.out | apply below_alloc | apply pw_below_drewN | apply below_drew1) | exact HB.out))) : w.heap.size ≤ gb101)); clear HB; have HB := n0_; have BK101 := n1_; have GW101 := n2_; have GE101 := n3_; clear n0_ n1_ n2_ n3_; clear hb hbox hg) | (go_at_call 14; (with_reducible refine (contangolaw10_goes.calls k  t102 _ A4.out (glob_of HGL.out (by repeat (first | (with_reducible first | exact HB.out | apply below_alloc | apply pw_below_drewN | apply below_drew1 | refine below_set ?_ GE101.out) | exact HB.out)))).mono ?_); rintro e w6 ⟨rfl, hb⟩; have n0_ := Aside0.mk (blk_below (g := gb101) (o := .cells #[.string a1_0, .int .i64 a1_1, .int .i64 a1_2, .int .i64 a1_3] 23 (0, 0)) (by (with_reducible repeat (first | refine blk_drewN ?_ _ | refine blk_drew ?_ | refine blk_alloc ?_ _)); exact BK101.out) hb); have n1_ := Aside0.mk (below_step (by repeat (first | (with_reducible first | exact HB.out | apply below_alloc | apply pw_below_drewN | apply below_drew1 | refine below_set ?_ GE101.out) | exact HB.out)) hb); clear BK101; clear HB; have BK101 := n0_; have HB := n1_; clear n0_ n1_; (try clear hb); (try clear hb2); (try clear hk); (try clear hi))))
    go_ret
    exact ⟨by first | rfl | (simp [errW_none, errW_some] <;> rfl) | (simp [*, errW_none, errW_some] <;> rfl), by repeat (first | (with_reducible first | exact HB.out | apply below_alloc | apply pw_below_drewN | apply below_drew1 | refine below_set ?_ GE101.out) | exact HB.out)⟩
  · rw [if_neg c3] at H
    have c3b0 : decide (60 < (l0.length : Int)) = false := decide_eq_false c3
    have c3b1 : decide (60 < l0.length) = false := decide_eq_false (by omega)
    clear c3
    obtain ⟨y103, hy103⟩ : ∃ y_ : List (S45), y_ = (([] : List (S45))) := ⟨_, rfl⟩
    replace H : (if y103.length + l0.length < 2199023255552 then ((some (y103 ++ l0 : List (S45))).bind fun y106 => ((series_Check.f k y106 a1_0 a1_1 a1_2 a1_3).bind fun t109 => (contangolaw10_SeriesChecks.l0 k l0 y106 t109 (l0.length : Int) 0 a1_0 a1_1 a1_2 a1_3))) else (none)) = some r := by first | (rw [hy103]; with_reducible exact H) | (have H2_ := (Option.bind_some _ _).symm.trans H; rw [hy103]; with_reducible exact H2_) | (have H2_ := (Option.bind_some _ _).symm.trans H; with_reducible exact H2_) | with_reducible exact H | (rw [hy103]; exact H) | exact H
    have Ny103 := Aside0.mk hy103
    clear hy103
    by_cases c7 : y103.length + l0.length < 2199023255552
    · rw [if_pos c7] at H
      have LMc7 := Aside0.mk c7
      clear c7
      obtain ⟨y106, hy106⟩ : ∃ y_ : List (S45), y_ = (y103 ++ l0) := ⟨_, rfl⟩
      replace H : ((series_Check.f k y106 a1_0 a1_1 a1_2 a1_3).bind fun t109 => (contangolaw10_SeriesChecks.l0 k l0 y106 t109 (l0.length : Int) 0 a1_0 a1_1 a1_2 a1_3)) = some r := by first | (rw [hy106]; with_reducible exact H) | (have H2_ := (Option.bind_some _ _).symm.trans H; rw [hy106]; with_reducible exact H2_) | (have H2_ := (Option.bind_some _ _).symm.trans H; with_reducible exact H2_) | with_reducible exact H | (rw [hy106]; exact H) | exact H
      have Ny106 := Aside0.mk hy106
      clear hy106
      replace H := Option.bind_eq_some_iff.mp H
      obtain ⟨t109, A80, H⟩ := H
      replace H : (contangolaw10_SeriesChecks.l0 k l0 y106 t109 (l0.length : Int) 0 a1_0 a1_1 a1_2 a1_3) = some r := H
      have A8 := Aside0.mk A80
      clear A80
      have H' := Aside0.mk H
      clear H
      go_enter Tryd.func12, Tryd.ntmps12
      go_wp2_with (first | ((with_reducible refine gate_dst (N := 3) rfl ?_); refine box_event ?hg (N := 3) ?hd (cs := #[.string a1_0, .int .i64 a1_1, .int .i64 a1_2, .int .i64 a1_3]) (t := 23) ?hr ?_; (case hd => rfl); (case hg => rfl); (case hr => first | (go_simp; done) | (go_simp; rfl)); intro gb101 hg w9 hbox hb; have n0_ := Aside0.mk (below_step (by repeat (first | (with_reducible first | exact HB.out | apply below_alloc | apply pw_below_drewN | apply below_drew1) | exact HB.out)) hb); have n1_ := Aside0.mk (hbox); have n2_ := Aside0.mk ((by rw [hg]; exact (below_size (by repeat (first | (with_reducible first | exact HB.out | apply below_alloc | apply pw_below_drewN | apply below_drew1) | exact HB.out))) : w.heap.size ≤ gb101)); have n3_ := Aside0.mk ((by rw [hg]; exact (below_size (by repeat (first | (with_reducible first | exact HB.out | apply below_alloc | apply pw_below_drewN | apply below_drew1) | exact HB.out))) : w.heap.size ≤ gb101)); clear HB; have HB := n0_; have BK101 := n1_; have GW101 := n2_; have GE101 := n3_; clear n0_ n1_ n2_ n3_; clear hb hbox hg) | ((with_reducible refine gate_dst (N := 12) rfl ?_); refine Kd.R_lit k45 _ 45 ?hg (N := 12) ?hd (xs := ([] : List (S45))) (inner := []) (ok := fun _ => True) (okp := fun _ => True) ?hr ?hp (fun _ hk => hk) trivial (Below.refl _ _) (Nat.le_refl _) (by simp) ?_; (case hd => rfl); (case hg => rfl); (case hr => first | (go_simp; done) | (go_simp; rfl)); (case hp => exact (Reps.none _ _)); intro v104 w10 ho11 hb hg_ hnew_; clear hg_ hnew_; (first | rw [← Ny103.out] at ho11 | (simp only [Int.reduceToNat] at ho11; rw [← Ny103.out] at ho11)); have n0_ := Aside0.mk (Kd.R_lower ho11 (below_size (by repeat (first | (with_reducible first | exact HB.out | apply below_alloc | apply pw_below_drewN | apply below_drew1 | refine below_set ?_ GE101.out) | exact HB.out)))); have n1_ := Aside0.mk (blk_below (g := gb101) (o := .cells #[.string a1_0, .int .i64 a1_1, .int .i64 a1_2, .int .i64 a1_3] 23 (0, 0)) (by (with_reducible repeat (first | refine blk_drewN ?_ _ | refine blk_drew ?_ | refine blk_alloc ?_ _)); exact BK101.out) hb); have n2_ := Aside0.mk (below_step (by repeat (first | (with_reducible first | exact HB.out | apply below_alloc | apply pw_below_drewN | apply below_drew1 | refine below_set ?_ GE101.out) | exact HB.out)) hb); clear BK101; clear HB; have HO105 := n0_; have BK101 := n1_; have HB := n2_; clear n0_ n1_ n2_; clear hb ho11) | ((with_reducible refine gate_builtin (b := .append) (xs := #[.tmp 12, .tmp 13]) rfl ?_); at_builtin; refine Kd.R_append_rows k45 (w0 := w) w.heap.size rfl (.tmp 12) (.tmp 13) 62 45 (.agg #[(.string ⟨#[]⟩), (.int .i64 0), (.int .i64 0), (.int .i64 0), (.int .i64 0), (.int .i64 0), (.bool false)]) 64 rfl Tryd.underlying62 info45 rfl (by decide) (by omega) v104 y103 l0 _ _ _ (fun _ => True) (fun _ => False) rfl rfl ?aO ?aR (fun _ _ h => h) (fun _ h => h.elim) ?aF ?aB ?aS ?aL ?_; (case aR => repeat (first | exact (Kd.C_below HR0.out HB.out) | (with_reducible refine Kd.C_alloc ?_ _) | (with_reducible refine Kd.C_drewN ?_ _) | (with_reducible refine Kd.C_drew ?_))); (case aB => exact (by repeat (first | (with_reducible first | exact HB.out | apply below_alloc | apply pw_below_drewN | apply below_drew1 | refine below_set ?_ GE101.out) | exact HB.out))); (case aF => exact (fun _ _ => trivial)); (case aO => exact (by (with_reducible repeat (first | apply Kd.R_alloc | apply Kd.R_drewN | apply Kd.R_drew)); exact HO105.out)); (case aS => exact (below_size (by repeat (first | (with_reducible first | exact HB.out | apply below_alloc | apply pw_below_drewN | apply below_drew1 | refine below_set ?_ GE101.out) | exact HB.out)))); (case aL => have := LMc7.out; omega); intro v107 w12 ho hb hg hat; rw [← Ny106.out] at ho; have n0_ := Aside0.mk (blk_grown (g := gb101) (o := .cells #[.string a1_0, .int .i64 a1_1, .int .i64 a1_2, .int .i64 a1_3] 23 (0, 0)) (by (with_reducible repeat (first | refine blk_drewN ?_ _ | refine blk_drew ?_ | refine blk_alloc ?_ _)); exact BK101.out) hg (Kd.R_ne HO105.out BK101.out (by decide))); have n1_ := Aside0.mk (hb); have n2_ := Aside0.mk (ho); clear BK101; clear HB; clear HO105; have BK101 := n0_; have HB := n1_; have HO108 := n2_; clear n0_ n1_ n2_; clear ho hb hg hat; have hcz13_0 : w12.cell? ⟨gb101, 0, none⟩ = some (.string a1_0) := (blk_cell BK101.out 0).trans rfl; have hcz13_1 : w12.cell? ⟨gb101, 1, none⟩ = some (.int .i64 a1_1) := (blk_cell BK101.out 1).trans rfl; have hcz13_2 : w12.cell? ⟨gb101, 2, none⟩ = some (.int .i64 a1_2) := (blk_cell BK101.out 2).trans rfl; have hcz13_3 : w12.cell? ⟨gb101, 3, none⟩ = some (.int .i64 a1_3) := (blk_cell BK101.out 3).trans rfl; have hfz13_0 := blk_frozen BK101.out 0; have hfz13_1 := blk_frozen BK101.out 1; have hfz13_2 := blk_frozen BK101.out 2; have hfz13_3 := blk_frozen BK101.out 3; obtain ⟨Ao14, co14, eo14⟩ := Kd.R_slice HO108.out; subst eo14) | (go_at_call 43; (with_reducible refine (series_Check.calls k _ _ y106 a1_0 a1_1 a1_2 a1_3 t109 _ ?side1 ?side2 A8.out).mono ?_); (case side1 => repeat (first | exact (Kd.R_reads' HO108.out).2.2 | (with_reducible refine Kd.C_alloc ?_ _) | (with_reducible refine Kd.C_drewN ?_ _) | (with_reducible refine Kd.C_drew ?_))); (case side2 => exact (Kd.R_reads' HO108.out).2.1); rintro e w15 ⟨rfl, hb⟩; have n0_ := Aside0.mk (Kd.R_below (by (with_reducible repeat (first | apply Kd.R_alloc | apply Kd.R_drewN | apply Kd.R_drew)); exact HO108.out) hb); have n1_ := Aside0.mk (blk_below (g := gb101) (o := .cells #[.string a1_0, .int .i64 a1_1, .int .i64 a1_2, .int .i64 a1_3] 23 (0, 0)) (by (with_reducible repeat (first | refine blk_drewN ?_ _ | refine blk_drew ?_ | refine blk_alloc ?_ _)); exact BK101.out) hb); have n2_ := Aside0.mk (below_step (by repeat (first | (with_reducible first | exact HB.out | apply below_alloc | apply pw_below_drewN | apply below_drew1 | refine below_set ?_ GE101.out) | exact HB.out)) hb); clear HO108; clear BK101; clear HB; have HO108 := n0_; have BK101 := n1_; have HB := n2_; clear n0_ n1_ n2_; (try clear hb); (try clear hb2); (try clear hk); (try clear hi)))
      repeat (go_quiet (first | ((with_reducible refine gate_dst (N := 3) rfl ?_); refine box_event ?hg (N := 3) ?hd (cs := #[.string a1_0, .int .i64 a1_1, .int .i64 a1_2, .int .i64 a1_3]) (t := 23) ?hr ?_; (case hd => rfl); (case hg => rfl); (case hr => first | (go_simp; done) | (go_simp; rfl)); intro gb101 hg w9 hbox hb; have n0_ := Aside0.mk (below_step (by repeat (first | (with_reducible first | exact HB.out | apply below_alloc | apply pw_below_drewN | apply below_drew1) | exact HB.out)) hb); have n1_ := Aside0.mk (hbox); have n2_ := Aside0.mk ((by rw [hg]; exact (below_size (by repeat (first | (with_reducible first | exact HB.out | apply below_alloc | apply pw_below_drewN | apply below_drew1) | exact HB.out))) : w.heap.size ≤ gb101)); have n3_ := Aside0.mk ((by rw [hg]; exact (below_size (by repeat (first | (with_reducible first | exact HB.out | apply below_alloc | apply pw_below_drewN | apply below_drew1) | exact HB.out))) : w.heap.size ≤ gb101)); clear HB; have HB := n0_; have BK101 := n1_; have GW101 := n2_; have GE101 := n3_; clear n0_ n1_ n2_ n3_; clear hb hbox hg) | ((with_reducible refine gate_dst (N := 12) rfl ?_); refine Kd.R_lit k45 _ 45 ?hg (N := 12) ?hd (xs := ([] : List (S45))) (inner := []) (ok := fun _ => True) (okp := fun _ => True) ?hr ?hp (fun _ hk => hk) trivial (Below.refl _ _) (Nat.le_refl _) (by simp) ?_; (case hd => rfl); (case hg => rfl); (case hr => first | (go_simp; done) | (go_simp; rfl)); (case hp => exact (Reps.none _ _)); intro v104 w10 ho11 hb hg_ hnew_; clear hg_ hnew_; (first | rw [← Ny103.out] at ho11 | (simp only [Int.reduceToNat] at ho11; rw [← Ny103.out] at ho11)); have n0_ := Aside0.mk (Kd.R_lower ho11 (below_size (by repeat (first | (with_reducible first | exact HB.out | apply below_alloc | apply pw_below_drewN | apply below_drew1 | refine below_set ?_ GE101.out) | exact HB.out)))); have n1_ := Aside0.mk (blk_below (g := gb101) (o := .cells #[.string a1_0, .int .i64 a1_1, .int .i64 a1_2, .int .i64 a1_3] 23 (0, 0)) (by (with_reducible repeat (first | refine blk_drewN ?_ _ | refine blk_drew ?_ | refine blk_alloc ?_ _)); exact BK101.out) hb); have n2_ := Aside0.mk (below_step (by repeat (first | (with_reducible first | exact HB.out | apply below_alloc | apply pw_below_drewN | apply below_drew1 | refine below_set ?_ GE101.out) | exact HB.out)) hb); clear BK101; clear HB; have HO105 := n0_; have BK101 := n1_; have HB := n2_; clear n0_ n1_ n2_; clear hb ho11) | ((with_reducible refine gate_builtin (b := .append) (xs := #[.tmp 12, .tmp 13]) rfl ?_); at_builtin; refine Kd.R_append_rows k45 (w0 := w) w.heap.size rfl (.tmp 12) (.tmp 13) 62 45 (.agg #[(.string ⟨#[]⟩), (.int .i64 0), (.int .i64 0), (.int .i64 0), (.int .i64 0), (.int .i64 0), (.bool false)]) 64 rfl Tryd.underlying62 info45 rfl (by decide) (by omega) v104 y103 l0 _ _ _ (fun _ => True) (fun _ => False) rfl rfl ?aO ?aR (fun _ _ h => h) (fun _ h => h.elim) ?aF ?aB ?aS ?aL ?_; (case aR => repeat (first | exact (Kd.C_below HR0.out HB.out) | (with_reducible refine Kd.C_alloc ?_ _) | (with_reducible refine Kd.C_drewN ?_ _) | (with_reducible refine Kd.C_drew ?_))); (case aB => exact (by repeat (first | (with_reducible first | exact HB.out | apply below_alloc | apply pw_below_drewN | apply below_drew1 | refine below_set ?_ GE101.out) | exact HB.out))); (case aF => exact (fun _ _ => trivial)); (case aO => exact (by (with_reducible repeat (first | apply Kd.R_alloc | apply Kd.R_drewN | apply Kd.R_drew)); exact HO105.out)); (case aS => exact (below_size (by repeat (first | (with_reducible first | exact HB.out | apply below_alloc | apply pw_below_drewN | apply below_drew1 | refine below_set ?_ GE101.out) | exact HB.out)))); (case aL => have := LMc7.out; omega); intro v107 w12 ho hb hg hat; rw [← Ny106.out] at ho; have n0_ := Aside0.mk (blk_grown (g := gb101) (o := .cells #[.string a1_0, .int .i64 a1_1, .int .i64 a1_2, .int .i64 a1_3] 23 (0, 0)) (by (with_reducible repeat (first | refine blk_drewN ?_ _ | refine blk_drew ?_ | refine blk_alloc ?_ _)); exact BK101.out) hg (Kd.R_ne HO105.out BK101.out (by decide))); have n1_ := Aside0.mk (hb); have n2_ := Aside0.mk (ho); clear BK101; clear HB; clear HO105; have BK101 := n0_; have HB := n1_; have HO108 := n2_; clear n0_ n1_ n2_; clear ho hb hg hat; have hcz13_0 : w12.cell? ⟨gb101, 0, none⟩ = some (.string a1_0) := (blk_cell BK101.out 0).trans rfl; have hcz13_1 : w12.cell? ⟨gb101, 1, none⟩ = some (.int .i64 a1_1) := (blk_cell BK101.out 1).trans rfl; have hcz13_2 : w12.cell? ⟨gb101, 2, none⟩ = some (.int .i64 a1_2) := (blk_cell BK101.out 2).trans rfl; have hcz13_3 : w12.cell? ⟨gb101, 3, none⟩ = some (.int .i64 a1_3) := (blk_cell BK101.out 3).trans rfl; have hfz13_0 := blk_frozen BK101.out 0; have hfz13_1 := blk_frozen BK101.out 1; have hfz13_2 := blk_frozen BK101.out 2; have hfz13_3 := blk_frozen BK101.out 3; obtain ⟨Ao14, co14, eo14⟩ := Kd.R_slice HO108.out; subst eo14) | (go_at_call 43; (with_reducible refine (series_Check.calls k _ _ y106 a1_0 a1_1 a1_2 a1_3 t109 _ ?side1 ?side2 A8.out).mono ?_); (case side1 => repeat (first | exact (Kd.R_reads' HO108.out).2.2 | (with_reducible refine Kd.C_alloc ?_ _) | (with_reducible refine Kd.C_drewN ?_ _) | (with_reducible refine Kd.C_drew ?_))); (case side2 => exact (Kd.R_reads' HO108.out).2.1); rintro e w15 ⟨rfl, hb⟩; have n0_ := Aside0.mk (Kd.R_below (by (with_reducible repeat (first | apply Kd.R_alloc | apply Kd.R_drewN | apply Kd.R_drew)); exact HO108.out) hb); have n1_ := Aside0.mk (blk_below (g := gb101) (o := .cells #[.string a1_0, .int .i64 a1_1, .int .i64 a1_2, .int .i64 a1_3] 23 (0, 0)) (by (with_reducible repeat (first | refine blk_drewN ?_ _ | refine blk_drew ?_ | refine blk_alloc ?_ _)); exact BK101.out) hb); have n2_ := Aside0.mk (below_step (by repeat (first | (with_reducible first | exact HB.out | apply below_alloc | apply pw_below_drewN | apply below_drew1 | refine below_set ?_ GE101.out) | exact HB.out)) hb); clear HO108; clear BK101; clear HB; have HO108 := n0_; have BK101 := n1_; have HB := n2_; clear n0_ n1_ n2_; (try clear hb); (try clear hb2); (try clear hk); (try clear hi))); try go_wp2_with (first | ((with_reducible refine gate_dst (N := 3) rfl ?_); refine box_event ?hg (N := 3) ?hd (cs := #[.string a1_0, .int .i64 a1_1, .int .i64 a1_2, .int .i64 a1_3]) (t := 23) ?hr ?_; (case hd => rfl); (case hg => rfl); (case hr => first | (go_simp; done) | (go_simp; rfl)); intro gb101 hg w9 hbox hb; have n0_ := Aside0.mk (below_step (by repeat (first | (with_reducible first | exact HB.out | apply below_alloc | apply pw_below_drewN | apply below_drew1) | exact HB.out)) hb); have n1_ := Aside0.mk (hbox); have n2_ := Aside0.mk ((by rw [hg]; exact (below_size (by repeat (first | (with_reducible first | exact HB.out | apply below_alloc | apply pw_below_drewN | apply below_drew1) | exact HB.out))) : w.heap.size ≤ gb101)); have n3_ := Aside0.mk ((by rw [hg]; exact (below_size (by repeat (first | (with_reducible first | exact HB.out | apply below_alloc | apply pw_below_drewN | apply below_drew1) | exact HB.out))) : w.heap.size ≤ gb101)); clear HB; have HB := n0_; have BK101 := n1_; have GW101 := n2_; have GE101 := n3_; clear n0_ n1_ n2_ n3_; clear hb hbox hg) | ((with_reducible refine gate_dst (N := 12) rfl ?_); refine Kd.R_lit k45 _ 45 ?hg (N := 12) ?hd (xs := ([] : List (S45))) (inner := []) (ok := fun _ => True) (okp := fun _ => True) ?hr ?hp (fun _ hk => hk) trivial (Below.refl _ _) (Nat.le_refl _) (by simp) ?_; (case hd => rfl); (case hg => rfl); (case hr => first | (go_simp; done) | (go_simp; rfl)); (case hp => exact (Reps.none _ _)); intro v104 w10 ho11 hb hg_ hnew_; clear hg_ hnew_; (first | rw [← Ny103.out] at ho11 | (simp only [Int.reduceToNat] at ho11; rw [← Ny103.out] at ho11)); have n0_ := Aside0.mk (Kd.R_lower ho11 (below_size (by repeat (first | (with_reducible first | exact HB.out | apply below_alloc | apply pw_below_drewN | apply below_drew1 | refine below_set ?_ GE101.out) | exact HB.out)))); have n1_ := Aside0.mk (blk_below (g := gb101) (o := .cells #[.string a1_0, .int .i64 a1_1, .int .i64 a1_2, .int .i64 a1_3] 23 (0, 0)) (by (with_reducible repeat (first | refine blk_drewN ?_ _ | refine blk_drew ?_ | refine blk_alloc ?_ _)); exact BK101.out) hb); have n2_ := Aside0.mk (below_step (by repeat (first | (with_reducible first | exact HB.out | apply below_alloc | apply pw_below_drewN | apply below_drew1 | refine below_set ?_ GE101.out) | exact HB.out)) hb); clear BK101; clear HB; have HO105 := n0_; have BK101 := n1_; have HB := n2_; clear n0_ n1_ n2_; clear hb ho11) | ((with_reducible refine gate_builtin (b := .append) (xs := #[.tmp 12, .tmp 13]) rfl ?_); at_builtin; refine Kd.R_append_rows k45 (w0 := w) w.heap.size rfl (.tmp 12) (.tmp 13) 62 45 (.agg #[(.string ⟨#[]⟩), (.int .i64 0), (.int .i64 0), (.int .i64 0), (.int .i64 0), (.int .i64 0), (.bool false)]) 64 rfl Tryd.underlying62 info45 rfl (by decide) (by omega) v104 y103 l0 _ _ _ (fun _ => True) (fun _ => False) rfl rfl ?aO ?aR (fun _ _ h => h) (fun _ h => h.elim) ?aF ?aB ?aS ?aL ?_; (case aR => repeat (first | exact (Kd.C_below HR0.out HB.out) | (with_reducible refine Kd.C_alloc ?_ _) | (with_reducible refine Kd.C_drewN ?_ _) | (with_reducible refine Kd.C_drew ?_))); (case aB => exact (by repeat (first | (with_reducible first | exact HB.out | apply below_alloc | apply pw_below_drewN | apply below_drew1 | refine below_set ?_ GE101.out) | exact HB.out))); (case aF => exact (fun _ _ => trivial)); (case aO => exact (by (with_reducible repeat (first | apply Kd.R_alloc | apply Kd.R_drewN | apply Kd.R_drew)); exact HO105.out)); (case aS => exact (below_size (by repeat (first | (with_reducible first | exact HB.out | apply below_alloc | apply pw_below_drewN | apply below_drew1 | refine below_set ?_ GE101.out) | exact HB.out)))); (case aL => have := LMc7.out; omega); intro v107 w12 ho hb hg hat; rw [← Ny106.out] at ho; have n0_ := Aside0.mk (blk_grown (g := gb101) (o := .cells #[.string a1_0, .int .i64 a1_1, .int .i64 a1_2, .int .i64 a1_3] 23 (0, 0)) (by (with_reducible repeat (first | refine blk_drewN ?_ _ | refine blk_drew ?_ | refine blk_alloc ?_ _)); exact BK101.out) hg (Kd.R_ne HO105.out BK101.out (by decide))); have n1_ := Aside0.mk (hb); have n2_ := Aside0.mk (ho); clear BK101; clear HB; clear HO105; have BK101 := n0_; have HB := n1_; have HO108 := n2_; clear n0_ n1_ n2_; clear ho hb hg hat; have hcz13_0 : w12.cell? ⟨gb101, 0, none⟩ = some (.string a1_0) := (blk_cell BK101.out 0).trans rfl; have hcz13_1 : w12.cell? ⟨gb101, 1, none⟩ = some (.int .i64 a1_1) := (blk_cell BK101.out 1).trans rfl; have hcz13_2 : w12.cell? ⟨gb101, 2, none⟩ = some (.int .i64 a1_2) := (blk_cell BK101.out 2).trans rfl; have hcz13_3 : w12.cell? ⟨gb101, 3, none⟩ = some (.int .i64 a1_3) := (blk_cell BK101.out 3).trans rfl; have hfz13_0 := blk_frozen BK101.out 0; have hfz13_1 := blk_frozen BK101.out 1; have hfz13_2 := blk_frozen BK101.out 2; have hfz13_3 := blk_frozen BK101.out 3; obtain ⟨Ao14, co14, eo14⟩ := Kd.R_slice HO108.out; subst eo14) | (go_at_call 43; (with_reducible refine (series_Check.calls k _ _ y106 a1_0 a1_1 a1_2 a1_3 t109 _ ?side1 ?side2 A8.out).mono ?_); (case side1 => repeat (first | exact (Kd.R_reads' HO108.out).2.2 | (with_reducible refine Kd.C_alloc ?_ _) | (with_reducible refine Kd.C_drewN ?_ _) | (with_reducible refine Kd.C_drew ?_))); (case side2 => exact (Kd.R_reads' HO108.out).2.1); rintro e w15 ⟨rfl, hb⟩; have n0_ := Aside0.mk (Kd.R_below (by (with_reducible repeat (first | apply Kd.R_alloc | apply Kd.R_drewN | apply Kd.R_drew)); exact HO108.out) hb); have n1_ := Aside0.mk (blk_below (g := gb101) (o := .cells #[.string a1_0, .int .i64 a1_1, .int .i64 a1_2, .int .i64 a1_3] 23 (0, 0)) (by (with_reducible repeat (first | refine blk_drewN ?_ _ | refine blk_drew ?_ | refine blk_alloc ?_ _)); exact BK101.out) hb); have n2_ := Aside0.mk (below_step (by repeat (first | (with_reducible first | exact HB.out | apply below_alloc | apply pw_below_drewN | apply below_drew1 | refine below_set ?_ GE101.out) | exact HB.out)) hb); clear HO108; clear BK101; clear HB; have HO108 := n0_; have BK101 := n1_; have HB := n2_; clear n0_ n1_ n2_; (try clear hb); (try clear hb2); (try clear hk); (try clear hi))))
      go_loopg [20] k (fun kq v20 w' => ∃ (x20_1 : Int), v20 = .int .i64 x20_1 ∧ Aside0 (contangolaw10_SeriesChecks.l0 kq l0 y106 t109 (l0.length : Int) x20_1 a1_0 a1_1 a1_2 a1_3 = some r) ∧ Aside0 (kq ≤ k) ∧ Aside0 (Kd.R k45 45 w' w.heap.size (fun _ => True) (.slice Ao14 y106.length co14) y106) ∧ Aside0 (w'.heap[gb101]? = some (.cells #[.string a1_0, .int .i64 a1_1, .int .i64 a1_2, .int .i64 a1_3] 23 (0, 0))) ∧ Aside0 (Below w.heap.size w w'))
      case atStart => exact ⟨(0), (by first | rfl | (simp; done) | (simp [*]; done)), H', ⟨Nat.le_refl _⟩, ⟨by (with_reducible repeat (first | apply Kd.R_alloc | apply Kd.R_drewN | apply Kd.R_drew)); exact HO108.out⟩, ⟨by (with_reducible repeat (first | refine blk_drewN ?_ _ | refine blk_drew ?_ | refine blk_alloc ?_ _)); exact BK101.out⟩, ⟨by repeat (first | (with_reducible first | exact HB.out | apply below_alloc | apply pw_below_drewN | apply below_drew1 | refine below_set ?_ GE101.out) | exact HB.out)⟩⟩
      case round =>
        clear H'
        try clear c1
        try clear p2
        try clear c3
        try clear c3b0
        try clear c3b1
        try clear c7
        try clear c12
        try clear hcz13_0
        try clear hcz13_1
        try clear hcz13_2
        try clear hcz13_3
        try clear hfz13_0
        try clear hfz13_1
        try clear hfz13_2
        try clear hfz13_3
        obtain ⟨x20_1, rfl, HA, HK1, HO_5, BK101, HB⟩ := hrel
        cases gk with
        | zero => exact absurd HA.out (by simp [contangolaw10_SeriesChecks.l0])
        | succ k1 =>
          have H := HA.out
          clear HA
          simp only [contangolaw10_SeriesChecks.l0] at H
          by_cases c16 : x20_1 < (l0.length : Int)
          · rw [if_pos c16] at H
            have c16b0 : decide (x20_1 < (l0.length : Int)) = true := decide_eq_true c16
            clear c16
            by_cases c17 : 0 ≤ x20_1
            · rw [if_pos c17] at H
              have c17b0 : decide (0 ≤ x20_1) = true := decide_eq_true c17
              clear c17
              by_cases c18 : x20_1 < (y106.length : Int)
              · rw [if_pos c18] at H
                have c18b0 : decide (x20_1 < (y106.length : Int)) = true := decide_eq_true c18
                clear c18
                by_cases c19 : x20_1 < (l0.length : Int)
                · rw [if_pos c19] at H
                  have c19b0 : decide (x20_1 < (l0.length : Int)) = true := decide_eq_true c19
                  clear c19
                  by_cases c20 : (!((((rd_T45 y106 x20_1).f0).toList) == (((rd_T45 l0 x20_1).f0).toList)) || (!(((rd_T45 y106 x20_1).f1) == ((rd_T45 l0 x20_1).f1)) || (!(((rd_T45 y106 x20_1).f2) == ((rd_T45 l0 x20_1).f2)) || (!(((rd_T45 y106 x20_1).f3) == ((rd_T45 l0 x20_1).f3)) || (!(((rd_T45 y106 x20_1).f4) == ((rd_T45 l0 x20_1).f4)) || (!(((rd_T45 y106 x20_1).f5) == ((rd_T45 l0 x20_1).f5)) || (!(((rd_T45 y106 x20_1).f6) == ((rd_T45 l0 x20_1).f6))))))))) = true
                  · rw [if_pos c20] at H
                    exact absurd H (by simp)
                  · rw [if_neg c20] at H
                    have c20b0 : (!((((rd_T45 y106 x20_1).f0).toList) == (((rd_T45 l0 x20_1).f0).toList)) || (!(((rd_T45 y106 x20_1).f1) == ((rd_T45 l0 x20_1).f1)) || (!(((rd_T45 y106 x20_1).f2) == ((rd_T45 l0 x20_1).f2)) || (!(((rd_T45 y106 x20_1).f3) == ((rd_T45 l0 x20_1).f3)) || (!(((rd_T45 y106 x20_1).f4) == ((rd_T45 l0 x20_1).f4)) || (!(((rd_T45 y106 x20_1).f5) == ((rd_T45 l0 x20_1).f5)) || (!(((rd_T45 y106 x20_1).f6) == ((rd_T45 l0 x20_1).f6))))))))) = false := by simpa using c20
                    clear c20
                    have H' := Aside0.mk H
                    clear H
                    have p110 : 0 ≤ (x20_1 : Int) := of_decide_eq_true (by first | (with_reducible assumption) | assumption)
                    have q110 : x20_1 < (y106.length : Int) := of_decide_eq_true (by first | (with_reducible assumption) | assumption)
                    obtain ⟨ad110, e110, hx110_0, hx110_1, hx110_2, hx110_3, hx110_4, hx110_5, hx110_6⟩ := at_T45 (Kd.R_reads' HO_5.out).2.2 x20_1 p110 q110
                    cases e110
                    replace p110 := eq_true p110
                    replace q110 := eq_true q110
                    have p111 : 0 ≤ (x20_1 : Int) := of_decide_eq_true (by first | (with_reducible assumption) | assumption)
                    have q111 : x20_1 < (l0.length : Int) := of_decide_eq_true (by first | (with_reducible assumption) | assumption)
                    obtain ⟨ad111, e111, hx111_0, hx111_1, hx111_2, hx111_3, hx111_4, hx111_5, hx111_6⟩ := at_T45 HR0.out x20_1 p111 q111
                    cases e111
                    replace hx111_0 := (HB.out.cell (World.block_lt_of_cell? w _ hx111_0)).trans hx111_0
                    replace hx111_1 := (HB.out.cell (World.block_lt_of_cell? w _ hx111_1)).trans hx111_1
                    replace hx111_2 := (HB.out.cell (World.block_lt_of_cell? w _ hx111_2)).trans hx111_2
                    replace hx111_3 := (HB.out.cell (World.block_lt_of_cell? w _ hx111_3)).trans hx111_3
                    replace hx111_4 := (HB.out.cell (World.block_lt_of_cell? w _ hx111_4)).trans hx111_4
                    replace hx111_5 := (HB.out.cell (World.block_lt_of_cell? w _ hx111_5)).trans hx111_5
                    replace hx111_6 := (HB.out.cell (World.block_lt_of_cell? w _ hx111_6)).trans hx111_6
                    replace p111 := eq_true p111
                    replace q111 := eq_true q111
                    go_wp2
                    repeat (go_quiet (fail); try go_wp2)
                    go_roundg k1
                    case measure => have := HK1.out; omega
                    case rel => exact ⟨(wrap64 (x20_1 + 1)), (by first | rfl | (simp; done) | (simp [*]; done)), H', ⟨by have := HK1.out; omega⟩, ⟨by (with_reducible repeat (first | apply Kd.R_alloc | apply Kd.R_drewN | apply Kd.R_drew)); exact HO_5.out⟩, ⟨by (with_reducible repeat (first | refine blk_drewN ?_ _ | refine blk_drew ?_ | refine blk_alloc ?_ _)); exact BK101.out⟩, ⟨by repeat (first | (with_reducible first | exact HB.out | apply below_alloc | apply pw_below_drewN | apply below_drew1 | refine below_set ?_ GE101.out) | exact HB.out)⟩⟩
                · rw [if_neg c19] at H
                  exact absurd H (by simp)
              · rw [if_neg c18] at H
                exact absurd H (by simp)
            · rw [if_neg c17] at H
              exact absurd H (by simp)
          · rw [if_neg c16] at H
            have c16b0 : decide (x20_1 < (l0.length : Int)) = false := decide_eq_false c16
            clear c16
            replace H := Option.bind_eq_some_iff.mp H
            obtain ⟨t112, A210, H⟩ := H
            replace H : (if t109 = t112 then ((contangolaw10_goes.f k1).bind fun t113 => (some t113)) else (none)) = some r := H
            have A21 := Aside0.mk A210
            clear A210
            by_cases c22 : t109 = t112
            · rw [if_pos c22] at H
              have c22b0 : (t109 == t112) = true := beq_iff_eq.mpr c22
              have c22b1 : (t109 != t112) = false := bne_eq_false_iff_eq.mpr c22
              clear c22
              replace H := Option.bind_eq_some_iff.mp H
              obtain ⟨t113, A230, H⟩ := H
              replace H : (some t113) = some r := H
              have A23 := Aside0.mk A230
              clear A230
              obtain rfl := Option.some.inj H
              have hcz24_0 : wr.cell? ⟨gb101, 0, none⟩ = some (.string a1_0) := (blk_cell BK101.out 0).trans rfl
              have hcz24_1 : wr.cell? ⟨gb101, 1, none⟩ = some (.int .i64 a1_1) := (blk_cell BK101.out 1).trans rfl
              have hcz24_2 : wr.cell? ⟨gb101, 2, none⟩ = some (.int .i64 a1_2) := (blk_cell BK101.out 2).trans rfl
              have hcz24_3 : wr.cell? ⟨gb101, 3, none⟩ = some (.int .i64 a1_3) := (blk_cell BK101.out 3).trans rfl
              have hfz24_0 := blk_frozen BK101.out 0
              have hfz24_1 := blk_frozen BK101.out 1
              have hfz24_2 := blk_frozen BK101.out 2
              have hfz24_3 := blk_frozen BK101.out 3
              go_wp2_with (first | (go_at_call 44; (with_reducible refine (contangoref10_Check.calls k1 _ _ l0 a1_0 a1_1 a1_2 a1_3 t112 _ ?side1 ?side2 A21.out).mono ?_); (case side1 => repeat (first | exact (Kd.C_below HR0.out HB.out) | (with_reducible refine Kd.C_alloc ?_ _) | (with_reducible refine Kd.C_drewN ?_ _) | (with_reducible refine Kd.C_drew ?_))); (case side2 => exact HC0.out); rintro e w25 ⟨rfl, hb⟩; have n0_ := Aside0.mk (Kd.R_below (by (with_reducible repeat (first | apply Kd.R_alloc | apply Kd.R_drewN | apply Kd.R_drew)); exact HO_5.out) hb); have n1_ := Aside0.mk (blk_below (g := gb101) (o := .cells #[.string a1_0, .int .i64 a1_1, .int .i64 a1_2, .int .i64 a1_3] 23 (0, 0)) (by (with_reducible repeat (first | refine blk_drewN ?_ _ | refine blk_drew ?_ | refine blk_alloc ?_ _)); exact BK101.out) hb); have n2_ := Aside0.mk (below_step (by repeat (first | (with_reducible first | exact HB.out | apply below_alloc | apply pw_below_drewN | apply below_drew1 | refine below_set ?_ GE101.out) | exact HB.out)) hb); clear HO_5; clear BK101; clear HB; have HO_5 := n0_; have BK101 := n1_; have HB := n2_; clear n0_ n1_ n2_; (try clear hb); (try clear hb2); (try clear hk); (try clear hi)) | (go_at_call 14; (with_reducible refine (contangolaw10_goes.calls k1  t113 _ A23.out (glob_of HGL.out (by repeat (first | (with_reducible first | exact HB.out | apply below_alloc | apply pw_below_drewN | apply below_drew1 | refine below_set ?_ GE101.out) | exact HB.out)))).mono ?_); rintro e w26 ⟨rfl, hb⟩; have n0_ := Aside0.mk (Kd.R_below (by (with_reducible repeat (first | apply Kd.R_alloc | apply Kd.R_drewN | apply Kd.R_drew)); exact HO_5.out) hb); have n1_ := Aside0.mk (blk_below (g := gb101) (o := .cells #[.string a1_0, .int .i64 a1_1, .int .i64 a1_2, .int .i64 a1_3] 23 (0, 0)) (by (with_reducible repeat (first | refine blk_drewN ?_ _ | refine blk_drew ?_ | refine blk_alloc ?_ _)); exact BK101.out) hb); have n2_ := Aside0.mk (below_step (by repeat (first | (with_reducible first | exact HB.out | apply below_alloc | apply pw_below_drewN | apply below_drew1 | refine below_set ?_ GE101.out) | exact HB.out)) hb); clear HO_5; clear BK101; clear HB; have HO_5 := n0_; have BK101 := n1_; have HB := n2_; clear n0_ n1_ n2_; (try clear hb); (try clear hb2); (try clear hk); (try clear hi)))
              repeat (go_quiet (first | (go_at_call 44; (with_reducible refine (contangoref10_Check.calls k1 _ _ l0 a1_0 a1_1 a1_2 a1_3 t112 _ ?side1 ?side2 A21.out).mono ?_); (case side1 => repeat (first | exact (Kd.C_below HR0.out HB.out) | (with_reducible refine Kd.C_alloc ?_ _) | (with_reducible refine Kd.C_drewN ?_ _) | (with_reducible refine Kd.C_drew ?_))); (case side2 => exact HC0.out); rintro e w25 ⟨rfl, hb⟩; have n0_ := Aside0.mk (Kd.R_below (by (with_reducible repeat (first | apply Kd.R_alloc | apply Kd.R_drewN | apply Kd.R_drew)); exact HO_5.out) hb); have n1_ := Aside0.mk (blk_below (g := gb101) (o := .cells #[.string a1_0, .int .i64 a1_1, .int .i64 a1_2, .int .i64 a1_3] 23 (0, 0)) (by (with_reducible repeat (first | refine blk_drewN ?_ _ | refine blk_drew ?_ | refine blk_alloc ?_ _)); exact BK101.out) hb); have n2_ := Aside0.mk (below_step (by repeat (first | (with_reducible first | exact HB.out | apply below_alloc | apply pw_below_drewN | apply below_drew1 | refine below_set ?_ GE101.out) | exact HB.out)) hb); clear HO_5; clear BK101; clear HB; have HO_5 := n0_; have BK101 := n1_; have HB := n2_; clear n0_ n1_ n2_; (try clear hb); (try clear hb2); (try clear hk); (try clear hi)) | (go_at_call 14; (with_reducible refine (contangolaw10_goes.calls k1  t113 _ A23.out (glob_of HGL.out (by repeat (first | (with_reducible first | exact HB.out | apply below_alloc | apply pw_below_drewN | apply below_drew1 | refine below_set ?_ GE101.out) | exact HB.out)))).mono ?_); rintro e w26 ⟨rfl, hb⟩; have n0_ := Aside0.mk (Kd.R_below (by (with_reducible repeat (first | apply Kd.R_alloc | apply Kd.R_drewN | apply Kd.R_drew)); exact HO_5.out) hb); have n1_ := Aside0.mk (blk_below (g := gb101) (o := .cells #[.string a1_0, .int .i64 a1_1, .int .i64 a1_2, .int .i64 a1_3] 23 (0, 0)) (by (with_reducible repeat (first | refine blk_drewN ?_ _ | refine blk_drew ?_ | refine blk_alloc ?_ _)); exact BK101.out) hb); have n2_ := Aside0.mk (below_step (by repeat (first | (with_reducible first | exact HB.out | apply below_alloc | apply pw_below_drewN | apply below_drew1 | refine below_set ?_ GE101.out) | exact HB.out)) hb); clear HO_5; clear BK101; clear HB; have HO_5 := n0_; have BK101 := n1_; have HB := n2_; clear n0_ n1_ n2_; (try clear hb); (try clear hb2); (try clear hk); (try clear hi))); try go_wp2_with (first | (go_at_call 44; (with_reducible refine (contangoref10_Check.calls k1 _ _ l0 a1_0 a1_1 a1_2 a1_3 t112 _ ?side1 ?side2 A21.out).mono ?_); (case side1 => repeat (first | exact (Kd.C_below HR0.out HB.out) | (with_reducible refine Kd.C_alloc ?_ _) | (with_reducible refine Kd.C_drewN ?_ _) | (with_reducible refine Kd.C_drew ?_))); (case side2 => exact HC0.out); rintro e w25 ⟨rfl, hb⟩; have n0_ := Aside0.mk (Kd.R_below (by (with_reducible repeat (first | apply Kd.R_alloc | apply Kd.R_drewN | apply Kd.R_drew)); exact HO_5.out) hb); have n1_ := Aside0.mk (blk_below (g := gb101) (o := .cells #[.string a1_0, .int .i64 a1_1, .int .i64 a1_2, .int .i64 a1_3] 23 (0, 0)) (by (with_reducible repeat (first | refine blk_drewN ?_ _ | refine blk_drew ?_ | refine blk_alloc ?_ _)); exact BK101.out) hb); have n2_ := Aside0.mk (below_step (by repeat (first | (with_reducible first | exact HB.out | apply below_alloc | apply pw_below_drewN | apply below_drew1 | refine below_set ?_ GE101.out) | exact HB.out)) hb); clear HO_5; clear BK101; clear HB; have HO_5 := n0_; have BK101 := n1_; have HB := n2_; clear n0_ n1_ n2_; (try clear hb); (try clear hb2); (try clear hk); (try clear hi)) | (go_at_call 14; (with_reducible refine (contangolaw10_goes.calls k1  t113 _ A23.out (glob_of HGL.out (by repeat (first | (with_reducible first | exact HB.out | apply below_alloc | apply pw_below_drewN | apply below_drew1 | refine below_set ?_ GE101.out) | exact HB.out)))).mono ?_); rintro e w26 ⟨rfl, hb⟩; have n0_ := Aside0.mk (Kd.R_below (by (with_reducible repeat (first | apply Kd.R_alloc | apply Kd.R_drewN | apply Kd.R_drew)); exact HO_5.out) hb); have n1_ := Aside0.mk (blk_below (g := gb101) (o := .cells #[.string a1_0, .int .i64 a1_1, .int .i64 a1_2, .int .i64 a1_3] 23 (0, 0)) (by (with_reducible repeat (first | refine blk_drewN ?_ _ | refine blk_drew ?_ | refine blk_alloc ?_ _)); exact BK101.out) hb); have n2_ := Aside0.mk (below_step (by repeat (first | (with_reducible first | exact HB.out | apply below_alloc | apply pw_below_drewN | apply below_drew1 | refine below_set ?_ GE101.out) | exact HB.out)) hb); clear HO_5; clear BK101; clear HB; have HO_5 := n0_; have BK101 := n1_; have HB := n2_; clear n0_ n1_ n2_; (try clear hb); (try clear hb2); (try clear hk); (try clear hi))))
              go_ret
              exact ⟨by first | rfl | (simp [errW_none, errW_some] <;> rfl) | (simp [*, errW_none, errW_some] <;> rfl), by repeat (first | (with_reducible first | exact HB.out | apply below_alloc | apply pw_below_drewN | apply below_drew1 | refine below_set ?_ GE101.out) | exact HB.out)⟩
            · rw [if_neg c22] at H
              exact absurd H (by simp)
    · rw [if_neg c7] at H
      exact absurd H (by simp)
end Go.Proofs.YtieifncibojciaaDoor.X
end
section
namespace Go.Proofs.YtieifncibojciaaDoor.Opn
open Go.ChangeShapes Go.WideShapes Go.Proofs.YtieifncibojciaaDoorW.PrintWords
set_option linter.unusedVariables false
set_option linter.unusedSimpArgs false
structure Opens (P : Program) (t : TypeId) {α : Type} (d : Kd α) (Ok : α → Prop) : Prop where
  sz : d.sz = P.cellsOf t
  opens : ∀ {H : Type} {enc : TypeId × Value → H} {w : World} {base : Nat} {spare : Nat → Bool} {held : Bool} {fuel : Nat} {cs : List Value} {x : DataW H × List MemPlace},
    DataW.trod enc P w base spare held fuel t cs = some x → (∀ n ∈ x.1.weights P t, n ≤ reachBytes) → ∃ v, d.K w v cs ∧ Ok v
theorem opens_int {P : Program} {t : TypeId} {k : IntKind} (ht : P.underlying t = some (.int k)) (hc : P.cellsOf t = 1) : Opens P t (Kd.int k) (fun n => (Lit.int k n).wf = true) := by
  refine ⟨hc.symm, fun h _ => ?_⟩
  obtain ⟨n, rfl, _, hw⟩ := DataW.trod_int ht h
  exact ⟨n, rfl, hw⟩
theorem opens_bool {P : Program} {t : TypeId} (ht : P.underlying t = some .bool) (hc : P.cellsOf t = 1) : Opens P t Kd.bool (fun _ => True) := by
  refine ⟨hc.symm, fun h _ => ?_⟩
  obtain ⟨n, rfl, _⟩ := DataW.trod_bool ht h
  exact ⟨n, rfl, trivial⟩
theorem opens_string {P : Program} {t : TypeId} (ht : P.underlying t = some .string) (hc : P.cellsOf t = 1) : Opens P t Kd.string (fun s => s.size ≤ 140737488351232) := by
  refine ⟨hc.symm, fun h hw => ?_⟩
  obtain ⟨s, rfl, rfl, hs⟩ := DataW.trod_string ht h
  refine ⟨s, rfl, ?_⟩
  have := hw s.data.toList.length (by simp [DataW.weights])
  rw [Array.length_toList] at this
  exact this
theorem weights_all {H : Type} {P : Program} {e : TypeId} : ∀ {ds : List (DataW H)} {j : Nat} {d : DataW H}, ds[j]? = some d → ∀ n ∈ d.weights P e, n ∈ DataW.weightsAll P e ds
  | d0 :: ds, 0, d, hd, n, hn => by
    simp only [List.getElem?_cons_zero, Option.some.injEq] at hd
    subst hd
    simp only [DataW.weightsAll, List.mem_append]
    exact Or.inl hn
  | d0 :: ds, j + 1, d, hd, n, hn => by
    simp only [List.getElem?_cons_succ] at hd
    simp only [DataW.weightsAll, List.mem_append]
    exact Or.inr (weights_all hd n hn)
  | [], _, _, hd, _, _ => by simp at hd
theorem list_of {α : Type} {n : Nat} {p : Nat → α → Prop} (h : ∀ i, i < n → ∃ x, p i x) : ∃ l : List α, l.length = n ∧ ∀ i x, l[i]? = some x → p i x := by
  induction n with
  | zero => exact ⟨[], rfl, fun i x hx => by simp at hx⟩
  | succ n ih =>
    obtain ⟨l, hl, hp⟩ := ih (fun i hi => h i (by omega))
    obtain ⟨x, hx⟩ := h n (by omega)
    refine ⟨l ++ [x], by simp [hl], fun i y hy => ?_⟩
    by_cases hi : i < l.length
    · rw [List.getElem?_append_left hi] at hy
      exact hp i y hy
    · rw [List.getElem?_append_right (by omega)] at hy
      have : i - l.length = 0 := by
        cases hk : i - l.length with
        | zero => rfl
        | succ m => rw [hk] at hy; simp at hy
      rw [this] at hy
      simp at hy
      subst hy
      have : i = n := by omega
      subst this
      exact hx
theorem opens_slice {P : Program} {t e : TypeId} {α : Type} {d : Kd α} {Ok : α → Prop} (h : Opens P e d Ok) (ht : P.underlying t = some (.slice e)) (hc : P.cellsOf t = 1) {B : Nat} (hB : P.bytesOf e = B) :
    Opens P t (Kd.slice e d) (fun l => l.length ≤ maxLen ∧ l.length * B ≤ 140737488351232 ∧ ∀ x ∈ l, Ok x) := by
  subst hB
  refine ⟨hc.symm, fun {H enc w base spare held fuel cs x} hx hw => ?_⟩
  rcases DataW.trod_slice ht hx with ⟨rfl, rfl⟩ | ⟨a, len, cap, elems, rest, n, _, rfl, rfl, hb, hl, hm, hlen, hel, hsp, hns⟩
  · exact ⟨[], ⟨none, 0, rfl, Nat.le_refl _, Kd.C_nil _ _⟩, by simp⟩
  simp only [DataW.weights, ht] at hw
  have hw1 : (elems.length + rest.length) * P.bytesOf e ≤ reachBytes := by
    have := hw ((elems.length + rest.length) * P.bytesOf e) (by simp)
    exact this
  have hone : ∀ i, i < len → ∃ v : α, ∃ c, w.cells? base (a.add (i * P.cellsOf e)) (P.cellsOf e) = some c ∧ d.K w v c ∧ Ok v := by
    intro i hi
    have h1 := hel i hi
    rw [List.getElem?_eq_getElem (by omega)] at h1
    obtain ⟨c, hc1, hc2⟩ := Option.bind_eq_some_iff.1 h1
    obtain ⟨v, hv, hok⟩ := h.opens hc2 (fun n hn => hw n (by
      simp only [List.mem_cons, List.mem_append]
      right; left
      refine weights_all (j := i) ?_ n hn
      rw [List.getElem?_map, List.getElem?_eq_getElem (by omega)]
      rfl))
    exact ⟨v, c, hc1, hv, hok⟩
  obtain ⟨l, hl1, hl2⟩ := list_of hone
  subst hl1
  refine ⟨l, ⟨some a, cap, rfl, hl, rfl, ?_, fun _ => ⟨a, rfl, fun j p hj => ?_⟩⟩, ?_, ?_, ?_⟩
  · unfold maxLen at hm; omega
  · obtain ⟨c, hc1, hc2, _⟩ := hl2 j p hj
    obtain ⟨_, hlen2, hcell⟩ := World.cells?_some hc1
    refine ⟨c, by rw [h.sz]; exact hlen2, hc2, fun i u hu => ?_⟩
    have hi : i < P.cellsOf e := by
      have := (List.getElem?_eq_some_iff.1 hu).1
      omega
    have := hcell i hi
    rw [hu, ← Deep.add_add, h.sz] at *
    exact this
  · exact Nat.le_trans hl hm
  · have h2 : l.length * P.bytesOf e ≤ (elems.length + rest.length) * P.bytesOf e := Nat.mul_le_mul_right _ (by omega)
    exact Nat.le_trans h2 hw1
  · intro x hx
    obtain ⟨j, hj⟩ := List.getElem?_of_mem hx
    obtain ⟨c, _, _, ho⟩ := hl2 j x hj
    exact ho
structure OpensF (P : Program) (fs : List Field) (off : Nat) {α : Type} (d : Kd α) (Ok : α → Prop) : Prop where
  opens : ∀ {H : Type} {enc : TypeId × Value → H} {w : World} {base : Nat} {spare : Nat → Bool} {held : Bool} {n : Nat} {cs : List Value} {xs : List (DataW H × List MemPlace)},
    xs.length = fs.length → (∀ (i : Nat) (f : Field), fs[i]? = some f → DataW.trod enc P w base spare held n f.type ((cs.drop f.offset).take (P.cellsOf f.type)) = xs[i]?) →
    (∀ m ∈ DataW.weightsEach P (fs.map (·.type)) (xs.map (·.1)), m ≤ reachBytes) → ∃ v, d.K w v ((cs.drop off).take d.sz) ∧ Ok v
theorem opensF_one {P : Program} {f : Field} {off : Nat} {α : Type} {d : Kd α} {Ok : α → Prop} (h : Opens P f.type d Ok) (ho : f.offset = off) : OpensF P [f] off d Ok := by
  refine ⟨fun {H enc w base spare held n cs xs} hl hx hw => ?_⟩
  match xs, hl with
  | [x], _ =>
    have h1 := hx 0 f rfl
    obtain ⟨v, hv, hok⟩ := h.opens h1 (fun n hn => hw n (by simpa [DataW.weightsEach] using hn))
    refine ⟨v, ?_, hok⟩
    rw [h.sz, ← ho]
    exact hv
theorem opensF_cons {P : Program} {f : Field} {fs : List Field} {off : Nat} {α β : Type} {d : Kd α} {d' : Kd β} {Ok : α → Prop} {Ok' : β → Prop} (h : Opens P f.type d Ok) (ho : f.offset = off) (h' : OpensF P fs (off + d.sz) d' Ok') :
    OpensF P (f :: fs) off (Kd.pair d d') (fun p => Ok p.1 ∧ Ok' p.2) := by
  refine ⟨fun {H enc w base spare held n cs xs} hl hx hw => ?_⟩
  match xs, hl with
  | x :: xs, hl =>
    have h1 := hx 0 f rfl
    obtain ⟨v, hv, hok⟩ := h.opens h1 (fun n hn => hw n (by
      simp only [List.map_cons, DataW.weightsEach, List.mem_append]; exact Or.inl hn))
    obtain ⟨v', hv', hok'⟩ := h'.opens (cs := cs) (xs := xs) (by simpa using hl) (fun i g hg => by
      have := hx (i + 1) g (by simpa using hg)
      simpa using this) (fun m hm => hw m (by simp only [List.map_cons, DataW.weightsEach, List.mem_append]; exact Or.inr hm))
    refine ⟨(v, v'), ⟨(cs.drop off).take d.sz, (cs.drop (off + d.sz)).take d'.sz, ?_, ?_, hv'⟩, hok, hok'⟩
    · show (cs.drop off).take (d.sz + d'.sz) = _
      rw [List.take_add, List.drop_drop]
    · rw [h.sz, ← ho]; exact hv
theorem opens_struct {P : Program} {t : TypeId} {fs : Array Field} {α β : Type} {d : Kd α} {Ok : α → Prop} (h : OpensF P fs.toList 0 d Ok) (ht : P.underlying t = some (.struct fs)) (hc : d.sz = P.cellsOf t) (f : β → α) (mk : α → β) (hf : ∀ a, f (mk a) = a) :
    Opens P t (Kd.iso d f) (fun b => Ok (f b)) := by
  refine ⟨hc, fun {H enc w base spare held fuel cs x} hx hw => ?_⟩
  obtain ⟨xs, n, _, rfl, hlen, hsz, hall⟩ := DataW.trod_struct ht hx
  simp only [DataW.weights, ht] at hw
  obtain ⟨v, hv, hok⟩ := h.opens (cs := cs) (xs := xs) (by simpa using hsz) (fun i f hf => hall i f (by simpa using hf)) hw
  refine ⟨mk v, ?_, by rw [hf]; exact hok⟩
  show d.K w (f (mk v)) cs
  rw [hf]
  rw [List.drop_zero, hc, ← hlen, List.take_length] at hv
  exact hv
theorem opens_imp {P : Program} {t : TypeId} {α : Type} {d : Kd α} {Ok Ok' : α → Prop} (h : Opens P t d Ok) (hi : ∀ v, Ok v → Ok' v) : Opens P t d Ok' :=
  ⟨h.sz, fun hx hw => let ⟨v, hv, ho⟩ := h.opens hx hw; ⟨v, hv, hi v ho⟩⟩
end Go.Proofs.YtieifncibojciaaDoor.Opn
end
section
namespace Go.Proofs.YtieifncibojciaaDoor.X
open Go.RowKit Go.Proofs.YtieifncibojciaaDoorW.PrintWords Go.Proofs.YtieifncibojciaaDoorW.PrintLast Go.Proofs.YtieifncibojciaaDoorW.PrintMore
attribute [local go_sem] max2_int min2_int max_two min_two max_three min_three max_four min_four
set_option linter.unusedVariables false
set_option linter.unusedSimpArgs false
def ok23 (v : S23) : Prop := v.f0.size ≤ 140737488351232 ∧ ((Lit.int .i64 v.f1).wf = true ∧ ((Lit.int .i64 v.f2).wf = true ∧ ((Lit.int .i64 v.f3).wf = true)))
theorem opens23 : Opn.Opens Tryd.prog 23 k23 ok23 := by
  have hu := Tryd.underlying23
  refine Opn.opens_imp (Opn.opens_struct (Ok := fun (p : ByteArray × (Int × (Int × (Int)))) => p.1.size ≤ 140737488351232 ∧ ((Lit.int .i64 p.2.1).wf = true ∧ ((Lit.int .i64 p.2.2.1).wf = true ∧ ((Lit.int .i64 p.2.2.2).wf = true)))) ?hF hu (by kernel_rfl) (fun x : S23 => (x.f0, x.f1, x.f2, x.f3)) (fun a => ⟨a.1, a.2.1, a.2.2.1, a.2.2.2⟩) (fun _ => rfl)) ?hI
  case hF =>
    refine Opn.opensF_cons (Ok := fun (p : ByteArray) => p.size ≤ 140737488351232) (Ok' := fun (p : Int × (Int × (Int))) => (Lit.int .i64 p.1).wf = true ∧ ((Lit.int .i64 p.2.1).wf = true ∧ ((Lit.int .i64 p.2.2).wf = true))) (h := ?_) (ho := ?_) (h' := ?_)
    · exact Opn.opens_string Tryd.underlying9 (by kernel_rfl)
    · rfl
    · skip
      refine Opn.opensF_cons (Ok := fun (p : Int) => (Lit.int .i64 p).wf = true) (Ok' := fun (p : Int × (Int)) => (Lit.int .i64 p.1).wf = true ∧ ((Lit.int .i64 p.2).wf = true)) (h := ?_) (ho := ?_) (h' := ?_)
      · exact Opn.opens_int Tryd.underlying3 (by kernel_rfl)
      · rfl
      · skip
        refine Opn.opensF_cons (Ok := fun (p : Int) => (Lit.int .i64 p).wf = true) (Ok' := fun (p : Int) => (Lit.int .i64 p).wf = true) (h := ?_) (ho := ?_) (h' := ?_)
        · exact Opn.opens_int Tryd.underlying3 (by kernel_rfl)
        · rfl
        · skip
          refine Opn.opensF_one (Ok := fun (p : Int) => (Lit.int .i64 p).wf = true) (h := ?_) (ho := ?_)
          · exact Opn.opens_int Tryd.underlying3 (by kernel_rfl)
          · rfl
  case hI => exact fun v h => h
def ok45 (v : S45) : Prop := v.f0.size ≤ 140737488351232 ∧ ((Lit.int .i64 v.f1).wf = true ∧ ((Lit.int .i64 v.f2).wf = true ∧ ((Lit.int .i64 v.f3).wf = true ∧ ((Lit.int .i64 v.f4).wf = true ∧ ((Lit.int .i64 v.f5).wf = true ∧ (True))))))
theorem opens45 : Opn.Opens Tryd.prog 45 k45 ok45 := by
  have hu := Tryd.underlying45
  refine Opn.opens_imp (Opn.opens_struct (Ok := fun (p : ByteArray × (Int × (Int × (Int × (Int × (Int × (Bool))))))) => p.1.size ≤ 140737488351232 ∧ ((Lit.int .i64 p.2.1).wf = true ∧ ((Lit.int .i64 p.2.2.1).wf = true ∧ ((Lit.int .i64 p.2.2.2.1).wf = true ∧ ((Lit.int .i64 p.2.2.2.2.1).wf = true ∧ ((Lit.int .i64 p.2.2.2.2.2.1).wf = true ∧ (True))))))) ?hF hu (by kernel_rfl) (fun x : S45 => (x.f0, x.f1, x.f2, x.f3, x.f4, x.f5, x.f6)) (fun a => ⟨a.1, a.2.1, a.2.2.1, a.2.2.2.1, a.2.2.2.2.1, a.2.2.2.2.2.1, a.2.2.2.2.2.2⟩) (fun _ => rfl)) ?hI
  case hF =>
    refine Opn.opensF_cons (Ok := fun (p : ByteArray) => p.size ≤ 140737488351232) (Ok' := fun (p : Int × (Int × (Int × (Int × (Int × (Bool)))))) => (Lit.int .i64 p.1).wf = true ∧ ((Lit.int .i64 p.2.1).wf = true ∧ ((Lit.int .i64 p.2.2.1).wf = true ∧ ((Lit.int .i64 p.2.2.2.1).wf = true ∧ ((Lit.int .i64 p.2.2.2.2.1).wf = true ∧ (True)))))) (h := ?_) (ho := ?_) (h' := ?_)
    · exact Opn.opens_string Tryd.underlying9 (by kernel_rfl)
    · rfl
    · skip
      refine Opn.opensF_cons (Ok := fun (p : Int) => (Lit.int .i64 p).wf = true) (Ok' := fun (p : Int × (Int × (Int × (Int × (Bool))))) => (Lit.int .i64 p.1).wf = true ∧ ((Lit.int .i64 p.2.1).wf = true ∧ ((Lit.int .i64 p.2.2.1).wf = true ∧ ((Lit.int .i64 p.2.2.2.1).wf = true ∧ (True))))) (h := ?_) (ho := ?_) (h' := ?_)
      · exact Opn.opens_int Tryd.underlying3 (by kernel_rfl)
      · rfl
      · skip
        refine Opn.opensF_cons (Ok := fun (p : Int) => (Lit.int .i64 p).wf = true) (Ok' := fun (p : Int × (Int × (Int × (Bool)))) => (Lit.int .i64 p.1).wf = true ∧ ((Lit.int .i64 p.2.1).wf = true ∧ ((Lit.int .i64 p.2.2.1).wf = true ∧ (True)))) (h := ?_) (ho := ?_) (h' := ?_)
        · exact Opn.opens_int Tryd.underlying3 (by kernel_rfl)
        · rfl
        · skip
          refine Opn.opensF_cons (Ok := fun (p : Int) => (Lit.int .i64 p).wf = true) (Ok' := fun (p : Int × (Int × (Bool))) => (Lit.int .i64 p.1).wf = true ∧ ((Lit.int .i64 p.2.1).wf = true ∧ (True))) (h := ?_) (ho := ?_) (h' := ?_)
          · exact Opn.opens_int Tryd.underlying3 (by kernel_rfl)
          · rfl
          · skip
            refine Opn.opensF_cons (Ok := fun (p : Int) => (Lit.int .i64 p).wf = true) (Ok' := fun (p : Int × (Bool)) => (Lit.int .i64 p.1).wf = true ∧ (True)) (h := ?_) (ho := ?_) (h' := ?_)
            · exact Opn.opens_int Tryd.underlying3 (by kernel_rfl)
            · rfl
            · skip
              refine Opn.opensF_cons (Ok := fun (p : Int) => (Lit.int .i64 p).wf = true) (Ok' := fun (p : Bool) => True) (h := ?_) (ho := ?_) (h' := ?_)
              · exact Opn.opens_int Tryd.underlying3 (by kernel_rfl)
              · rfl
              · skip
                refine Opn.opensF_one (Ok := fun (p : Bool) => True) (h := ?_) (ho := ?_)
                · exact Opn.opens_bool Tryd.underlying4 (by kernel_rfl)
                · rfl
  case hI => exact fun v h => h
end Go.Proofs.YtieifncibojciaaDoor.X
end
section
namespace Go.Proofs.YtieifncibojciaaDoor.P
open Go.RowKit Go.Proofs.YtieifncibojciaaDoorW.PrintWords Go.Proofs.YtieifncibojciaaDoorW.PrintMore Go.Proofs.YtieifncibojciaaDoor.X
theorem Ev_succ {α : Type} {g : Nat → Option α} {r : α} (h : Ev (fun k => g (k + 1)) r) : Ev g r := Ev.step (fun _ => rfl) h
theorem Ev_bind {α β : Type} {g : Nat → Option α} {f : Nat → α → Option β} {a : α} {r : β} (h : Ev g a) (k : Ev (fun n => f n a) r) : Ev (fun n => (g n).bind (f n)) r := Ev.bind h k
theorem Ev_id {α : Type} {g : Nat → Option α} {r : α} (h : Ev g r) : Ev (fun n => (g n).bind fun x => some x) r := Ev.bind h (Ev.now _)
theorem w_id {x : Int} (h1 : -9223372036854775808 ≤ x) (h2 : x ≤ 9223372036854775807) : wrap64 x = x := by unfold wrap64; omega
theorem w_succ {i n : Nat} (h : i < n) (hn : n ≤ 9223372036854775807) : wrap64 ((i : Int) + 1) = ((i + 1 : Nat) : Int) := by rw [w_id (by omega) (by omega)]; omega
theorem w_pred {i : Nat} (h : 0 < i) (hn : i ≤ 9223372036854775807) : wrap64 ((i : Int) - 1) = ((i - 1 : Nat) : Int) := by rw [w_id (by omega) (by omega)]; omega
theorem drop_cons {α : Type} (l : List α) (i : Nat) (h : i < l.length) : l.drop i = l[i] :: l.drop (i + 1) := (List.getElem_cons_drop h).symm
end Go.Proofs.YtieifncibojciaaDoor.P
end
section
namespace Go.Proofs.YtieifncibojciaaDoor.P
set_option linter.unusedVariables false
set_option linter.unusedSimpArgs false
open Go.RowKit Go.Proofs.YtieifncibojciaaDoorW.PrintWords Go.Proofs.YtieifncibojciaaDoorW.PrintMore Go.Proofs.YtieifncibojciaaDoor.X
def letterB (n : Int) : Bool := decide (97 ≤ n) && decide (n ≤ 122)
def digitB (n : Int) : Bool := decide (48 ≤ n) && decide (n ≤ 57)
theorem letter_f (n : Int) : words_letter.f n = some (letterB n) := by
  unfold words_letter.f letterB
  by_cases h : 97 ≤ n
  · rw [if_pos h, decide_eq_true h, Bool.true_and]
  · rw [if_neg h, decide_eq_false h, Bool.false_and]
theorem digit_f (n : Int) : words_digit.f n = some (digitB n) := by
  unfold words_digit.f digitB
  by_cases h : 48 ≤ n
  · rw [if_pos h, decide_eq_true h, Bool.true_and]
  · rw [if_neg h, decide_eq_false h, Bool.false_and]
def chB (s : ByteArray) (i : Nat) : Bool := letterB (bt s (i : Int)) || (!(i == 0) && digitB (bt s (i : Int)))
def nameFrom (s : ByteArray) : Nat → Nat → Bool
  | 0, _ => true
  | d + 1, i => chB s i && nameFrom s d (i + 1)
def nameB (s : ByteArray) : Bool := decide (0 < s.size) && decide (s.size ≤ 12) && nameFrom s s.size 0
theorem nameLoop (s : ByteArray) (hs : s.size ≤ 12) (h0 : letterB (bt s 0) = true) : ∀ (d i : Nat), i + d = s.size → Ev (fun k => words_Name.l0 k s s.size i) (nameFrom s d i)
  | 0, i, hd => by
    refine Ev_succ ?_
    simp only [words_Name.l0, if_neg (show ¬ ((i : Int) < (s.size : Int)) by omega)]
    exact Ev.now _
  | d + 1, i, hd => by
    have hi : i < s.size := by omega
    have ih := nameLoop s hs h0 d (i + 1) (by omega)
    refine Ev_succ ?_
    simp only [words_Name.l0, if_pos (show (i : Int) < (s.size : Int) by omega), if_pos (show 0 ≤ (i : Int) by omega), letter_f, digit_f, Option.bind_some, w_succ hi (by omega), nameFrom, chB]
    cases h1 : letterB (bt s (i : Int)) with
    | true => simp only [if_true, Bool.true_or, Bool.true_and]; exact ih
    | false =>
      simp only [Bool.false_eq_true, if_false, Bool.false_or]
      have hi0 : (i == 0) = false := by
        rw [← Bool.not_eq_true, beq_iff_eq]
        rintro rfl
        rw [show ((0 : Nat) : Int) = 0 from rfl, h0] at h1
        cases h1
      simp only [hi0, Bool.not_false, Bool.true_and]
      cases h2 : digitB (bt s (i : Int)) with
      | true => simp only [if_true, Bool.true_and]; exact ih
      | false => simp only [Bool.false_eq_true, if_false, Bool.false_and]; exact Ev.now _
theorem name_f (s : ByteArray) : Ev (fun k => words_Name.f k s) (nameB s) := by
  have hj : nameB s = false → Ev (fun k => words_Name.j0 k s true) (nameB s) := by
    intro h
    rw [h]
    refine Ev_succ ?_
    simp only [words_Name.j0, if_true]
    exact Ev.now _
  unfold words_Name.f
  by_cases c0 : s.toList = []
  · simp only [if_pos c0]
    refine hj ?_
    have : s.size = 0 := by
      have e : s.toList = s.data.toList := ByteArray.toList_eq s
      rw [e] at c0
      have := congrArg List.length c0
      simpa using this
    simp [nameB, this]
  · simp only [if_neg c0]
    by_cases c1 : (s.size : Int) > 12
    · simp only [if_pos c1]
      exact hj (by simp [nameB]; omega)
    · have hp : 0 < s.size := by
        rcases Nat.eq_zero_or_pos s.size with h | h
        · exfalso
          apply c0
          have e : s.toList = s.data.toList := ByteArray.toList_eq s
          rw [e]
          exact List.length_eq_zero_iff.1 (by simpa using h)
        · exact h
      simp only [if_neg c1, if_pos (show 0 < (s.size : Int) by omega), letter_f, Option.bind_some]
      have hn : nameB s = nameFrom s s.size 0 := by
        unfold nameB
        rw [decide_eq_true hp, decide_eq_true (show s.size ≤ 12 by omega)]
        simp
      cases h1 : letterB (bt s 0) with
      | false =>
        refine hj ?_
        rw [hn]
        obtain ⟨d, hd⟩ : ∃ d, s.size = d + 1 := ⟨s.size - 1, by omega⟩
        rw [hd]
        simp [nameFrom, chB, h1]
      | true =>
        refine Ev_succ ?_
        simp only [words_Name.j0, Bool.not_true, Bool.false_eq_true, if_false]
        rw [hn]
        exact nameLoop s (by omega) h1 s.size 0 (by omega)
theorem nameRLoop (s : ByteArray) (hs : s.size ≤ 4611686018427387904) : ∀ (d i : Nat), i + d = s.size → Ev (fun k => contangoref03_Name.l0 k s i) (nameFrom s d i && (decide (0 < s.size) && decide (s.size ≤ 12)))
  | 0, i, hd => by
    refine Ev_succ ?_
    simp only [contangoref03_Name.l0, if_neg (show ¬ ((i : Int) < (s.size : Int)) by omega), nameFrom, Bool.true_and]
    by_cases c : (s.size : Int) > 0
    · simp only [if_pos c, decide_eq_true (show 0 < s.size by omega), Bool.true_and]
      have : decide ((s.size : Int) ≤ 12) = decide (s.size ≤ 12) := by rw [decide_eq_decide]; omega
      rw [this]
      exact Ev.now _
    · simp only [if_neg c, decide_eq_false (show ¬ 0 < s.size by omega), Bool.false_and]
      exact Ev.now _
  | d + 1, i, hd => by
    have hi : i < s.size := by omega
    have ih := nameRLoop s hs d (i + 1) (by omega)
    rw [← w_succ hi (by omega)] at ih
    refine Ev_succ ?_
    simp only [contangoref03_Name.l0, if_pos (show (i : Int) < (s.size : Int) by omega), if_pos (show 0 ≤ (i : Int) by omega), nameFrom]
    have step : chB s i = true → Ev (fun k => contangoref03_Name.l0 k s (wrap64 ((i : Int) + 1))) (chB s i && nameFrom s d (i + 1) && (decide (0 < s.size) && decide (s.size ≤ 12))) := by
      intro h
      rw [h, Bool.true_and]
      exact ih
    have stop : chB s i = false → Ev (fun _ => (some false : Option Bool)) (chB s i && nameFrom s d (i + 1) && (decide (0 < s.size) && decide (s.size ≤ 12))) := by
      intro h
      rw [h, Bool.false_and, Bool.false_and]
      exact Ev.now _
    have rest : letterB (bt s (i : Int)) = false → Ev (fun k => if (i : Int) = 0 then some false else if bt s (i : Int) < 48 then some false else if bt s (i : Int) > 57 then some false else contangoref03_Name.l0 k s (wrap64 ((i : Int) + 1))) (chB s i && nameFrom s d (i + 1) && (decide (0 < s.size) && decide (s.size ≤ 12))) := by
      intro hl
      by_cases c0 : (i : Int) = 0
      · have hi0 : (i == 0) = true := by rw [beq_iff_eq]; omega
        simp only [if_pos c0]
        exact stop (by unfold chB; rw [hl, hi0]; rfl)
      · by_cases c1 : bt s (i : Int) < 48
        · simp only [if_neg c0, if_pos c1]; exact stop (by simp [chB, hl, digitB]; omega)
        · by_cases c2 : bt s (i : Int) > 57
          · simp only [if_neg c0, if_neg c1, if_pos c2]; exact stop (by simp [chB, hl, digitB]; omega)
          · simp only [if_neg c0, if_neg c1, if_neg c2]; exact step (by simp [chB, hl, digitB]; omega)
    by_cases g1 : bt s (i : Int) ≥ 97
    · by_cases g2 : bt s (i : Int) ≤ 122
      · simp only [if_pos g1, if_pos g2]; exact step (by simp [chB, letterB]; omega)
      · simp only [if_pos g1, if_neg g2]; exact rest (by simp [letterB]; omega)
    · simp only [if_neg g1]; exact rest (by simp [letterB]; omega)
theorem nameR_f (s : ByteArray) (hs : s.size ≤ 4611686018427387904) : Ev (fun k => contangoref03_Name.f k s) (nameB s) := by
  have h := nameRLoop s hs s.size 0 (by omega)
  have e : nameB s = (nameFrom s s.size 0 && (decide (0 < s.size) && decide (s.size ≤ 12))) := by
    unfold nameB
    rw [Bool.and_comm]
  rw [e]
  exact h
end Go.Proofs.YtieifncibojciaaDoor.P
end
section
namespace Go.Proofs.YtieifncibojciaaDoor.P
set_option linter.unusedVariables false
set_option linter.unusedSimpArgs false
open Go.RowKit Go.Proofs.YtieifncibojciaaDoorW.PrintWords Go.Proofs.YtieifncibojciaaDoorW.PrintMore Go.Proofs.YtieifncibojciaaDoor.X
abbrev Prod9 := S45
theorem Ev_or {α : Type} {g : Nat → Bool → Option α} {a b : Prop} [Decidable a] [Decidable b] {r : α} (ht : (a ∨ b) → Ev (fun k => g k true) r) (hf : ¬ (a ∨ b) → Ev (fun k => g k false) r) : Ev (fun k => if a then g k true else g k (decide b)) r := by
  by_cases ca : a
  · simp only [if_pos ca]; exact ht (Or.inl ca)
  · simp only [if_neg ca]
    by_cases cb : b
    · rw [decide_eq_true cb]; exact ht (Or.inr cb)
    · rw [decide_eq_false cb]; exact hf (fun h => h.elim ca cb)
theorem Ev_if {α : Type} {c : Prop} [Decidable c] {f g : Nat → Option α} {r : α} (h1 : c → Ev f r) (h2 : ¬ c → Ev g r) : Ev (fun k => if c then f k else g k) r := by
  by_cases h : c
  · simp only [if_pos h]; exact h1 h
  · simp only [if_neg h]; exact h2 h
def prodT (p : Prod9) : Int := if -16777216 ≤ p.f4 ∧ p.f4 ≤ 16777216 ∧ -16777216 ≤ p.f5 ∧ p.f5 ≤ 16777216 ∧ p.f4 ≤ p.f5 ∧ Int.tmod p.f4 p.f3 = 0 ∧ Int.tmod p.f5 p.f3 = 0 then 0 else 17
def prodE (p : Prod9) : Int := if nameB p.f0 = true then (if p.f1 < 0 ∨ p.f1 ≥ 8 then 25 else if p.f2 < 1 ∨ p.f2 > 4096 then 2 else if p.f3 < 1 ∨ p.f3 > 16777216 then 16 else prodT p) else 10
theorem pwithin_f (n : Int) : product_within.f n 16777216 = some (decide (-16777216 ≤ n) && decide (n ≤ 16777216)) := by
  unfold product_within.f
  have e : wrap64 (-16777216) = -16777216 := w_id (by omega) (by omega)
  rw [e]
  by_cases h : n ≥ -16777216
  · rw [if_pos h, decide_eq_true (show -16777216 ≤ n from h), Bool.true_and]
  · rw [if_neg h, decide_eq_false (show ¬ -16777216 ≤ n from h), Bool.false_and]
theorem within9_f (n a b : Int) : contangoref09_within.f n a b = some (decide (a ≤ n) && decide (n ≤ b)) := by
  unfold contangoref09_within.f
  by_cases h : n ≥ a
  · rw [if_pos h, decide_eq_true (show a ≤ n from h), Bool.true_and]
  · rw [if_neg h, decide_eq_false (show ¬ a ≤ n from h), Bool.false_and]
theorem and_iff (a b : Prop) [Decidable a] [Decidable b] : (decide a && decide b) = true ↔ a ∧ b := by simp
theorem prodT_of {p : Prod9} (h : ¬ (-16777216 ≤ p.f4 ∧ p.f4 ≤ 16777216 ∧ -16777216 ≤ p.f5 ∧ p.f5 ≤ 16777216 ∧ p.f4 ≤ p.f5 ∧ Int.tmod p.f4 p.f3 = 0 ∧ Int.tmod p.f5 p.f3 = 0)) : prodT p = 17 := if_neg h
theorem prod_f (p : Prod9) : Ev (fun k => product_Check.f k p.f0 p.f1 p.f2 p.f3 p.f4 p.f5 p.f6) (prodE p) := by
  have h3 : ¬ (p.f3 < 1 ∨ p.f3 > 16777216) → Ev (fun k => product_Check.j3 k false p.f0 p.f1 p.f2 p.f3 p.f4 p.f5 p.f6) (prodT p) := by
    intro c
    refine Ev_succ ?_
    simp only [product_Check.j3, Bool.false_eq_true, if_false, pwithin_f, Option.bind_some, and_iff]
    refine Ev_if (fun c1 => Ev_if (fun c2 => Ev_if (fun c3 => ?_) fun c3 => Ev_if (fun c4 => by omega) fun c4 => Ev_if (fun c5 => Ev_if (fun c6 => ?_) fun c6 => ?_) fun c5 => ?_) fun c2 => ?_) fun c1 => ?_
    · rw [prodT_of (by omega)]; exact Ev.now _
    · have : prodT p = 0 := if_pos ⟨c1.1, c1.2, c2.1, c2.2, by omega, c5, c6⟩
      rw [this]; exact Ev.now _
    · rw [prodT_of (fun h => c6 h.2.2.2.2.2.2)]; exact Ev.now _
    · rw [prodT_of (fun h => c5 h.2.2.2.2.2.1)]; exact Ev.now _
    · rw [prodT_of (by omega)]; exact Ev.now _
    · rw [prodT_of (by omega)]; exact Ev.now _
  have h0 : nameB p.f0 = true → Ev (fun k => product_Check.j0 k false p.f0 p.f1 p.f2 p.f3 p.f4 p.f5 p.f6) (prodE p) := by
    intro hn
    refine Ev_succ ?_
    unfold prodE
    rw [if_pos hn]
    simp only [product_Check.j0, Bool.false_eq_true, if_false]
    refine Ev_or (g := fun k b => product_Check.j1 k b p.f0 p.f1 p.f2 p.f3 p.f4 p.f5 p.f6) (fun c => ?_) (fun c => ?_)
    · rw [if_pos c]; refine Ev_succ ?_; simp only [product_Check.j1, if_true]; exact Ev.now _
    rw [if_neg c]
    refine Ev_succ ?_
    simp only [product_Check.j1, Bool.false_eq_true, if_false]
    refine Ev_or (g := fun k b => product_Check.j2 k b p.f0 p.f1 p.f2 p.f3 p.f4 p.f5 p.f6) (fun c => ?_) (fun c => ?_)
    · rw [if_pos c]; refine Ev_succ ?_; simp only [product_Check.j2, if_true]; exact Ev.now _
    rw [if_neg c]
    refine Ev_succ ?_
    simp only [product_Check.j2, Bool.false_eq_true, if_false]
    refine Ev_or (g := fun k b => product_Check.j3 k b p.f0 p.f1 p.f2 p.f3 p.f4 p.f5 p.f6) (fun c => ?_) (fun c => ?_)
    · rw [if_pos c]; refine Ev_succ ?_; simp only [product_Check.j3, if_true]; exact Ev.now _
    rw [if_neg c]
    exact h3 c
  have h1 : nameB p.f0 = false → Ev (fun k => product_Check.j0 k true p.f0 p.f1 p.f2 p.f3 p.f4 p.f5 p.f6) (prodE p) := by
    intro hn
    refine Ev_succ ?_
    unfold prodE
    rw [if_neg (by rw [hn]; decide)]
    simp only [product_Check.j0, if_true]
    exact Ev.now _
  unfold product_Check.f
  refine Ev_if (fun c => ?_) (fun c => ?_)
  · refine h1 ?_
    simp only [Bool.and_eq_true, beq_iff_eq] at c
    have e : p.f0.size = 0 := by
      have : p.f0.data.toList = [] := by rw [← ByteArray.toList_eq]; exact c.1
      have h2 : p.f0.data.toList.length = 0 := by rw [this]; rfl
      simpa using h2
    unfold nameB
    rw [e]; rfl
  · refine Ev_bind (name_f p.f0) ?_
    cases hn : nameB p.f0 with
    | true => exact h0 hn
    | false => exact h1 hn
theorem prodR_f (p : Prod9) (hs : p.f0.size ≤ 4611686018427387904) : Ev (fun k => contangoref09_Check.f k p.f0 p.f1 p.f2 p.f3 p.f4 p.f5 p.f6) (prodE p) := by
  unfold contangoref09_Check.f
  refine Ev_bind (nameR_f p.f0 hs) ?_
  unfold prodE
  simp only [within9_f, Option.bind_some, and_iff]
  refine Ev_if (fun c => ?_) (fun c => ?_)
  case refine_2 => rw [if_neg c]; exact Ev.now _
  rw [if_pos c]
  refine Ev_if (fun c => ?_) (fun c => ?_)
  case refine_2 => rw [if_pos (show p.f1 < 0 ∨ p.f1 ≥ 8 by omega)]; exact Ev.now _
  rw [if_neg (show ¬ (p.f1 < 0 ∨ p.f1 ≥ 8) by omega)]
  refine Ev_if (fun c => ?_) (fun c => ?_)
  case refine_2 => rw [if_pos (show p.f2 < 1 ∨ p.f2 > 4096 by omega)]; exact Ev.now _
  rw [if_neg (show ¬ (p.f2 < 1 ∨ p.f2 > 4096) by omega)]
  refine Ev_if (fun c => ?_) (fun c => ?_)
  case refine_2 => rw [if_pos (show p.f3 < 1 ∨ p.f3 > 16777216 by omega)]; exact Ev.now _
  rw [if_neg (show ¬ (p.f3 < 1 ∨ p.f3 > 16777216) by omega)]
  refine Ev_if (fun c1 => Ev_if (fun c2 => Ev_if (fun c3 => ?_) fun c3 => Ev_if (fun c4 => by omega) fun c4 => Ev_if (fun c5 => Ev_if (fun c6 => ?_) fun c6 => ?_) fun c5 => ?_) fun c2 => ?_) fun c1 => ?_
  · rw [prodT_of (by omega)]; exact Ev.now _
  · have : prodT p = 0 := if_pos ⟨c1.1, c1.2, c2.1, c2.2, by omega, c5, c6⟩
    rw [this]; exact Ev.now _
  · rw [prodT_of (fun h => c6 h.2.2.2.2.2.2)]; exact Ev.now _
  · rw [prodT_of (fun h => c5 h.2.2.2.2.2.1)]; exact Ev.now _
  · rw [prodT_of (by omega)]; exact Ev.now _
  · rw [prodT_of (by omega)]; exact Ev.now _
def ProdOk (p : Prod9) : Prop := 1 ≤ p.f3 ∧ p.f3 ≤ 16777216 ∧ -16777216 ≤ p.f4 ∧ p.f4 ≤ 16777216 ∧ -16777216 ≤ p.f5 ∧ p.f5 ≤ 16777216 ∧ p.f4 ≤ p.f5 ∧ Int.tmod p.f4 p.f3 = 0 ∧ Int.tmod p.f5 p.f3 = 0
theorem prodE_zero {p : Prod9} (h : prodE p = 0) : ProdOk p := by
  unfold prodE at h
  by_cases c0 : nameB p.f0 = true
  case neg => rw [if_neg c0] at h; omega
  rw [if_pos c0] at h
  by_cases c1 : p.f1 < 0 ∨ p.f1 ≥ 8
  · rw [if_pos c1] at h; omega
  rw [if_neg c1] at h
  by_cases c2 : p.f2 < 1 ∨ p.f2 > 4096
  · rw [if_pos c2] at h; omega
  rw [if_neg c2] at h
  by_cases c3 : p.f3 < 1 ∨ p.f3 > 16777216
  · rw [if_pos c3] at h; omega
  rw [if_neg c3] at h
  unfold prodT at h
  split at h
  · rename_i c
    unfold ProdOk
    exact ⟨by omega, by omega, c.1, c.2.1, c.2.2.1, c.2.2.2.1, c.2.2.2.2.1, c.2.2.2.2.2.1, c.2.2.2.2.2.2⟩
  · omega
def prodPrice (p : Prod9) (n : Int) : Int := if prodE p = 0 then (if n < p.f4 ∨ n > p.f5 then 17 else if Int.tmod n p.f3 = 0 then 0 else 16) else prodE p
theorem prodPrice_f (p : Prod9) (n : Int) : Ev (fun k => product_Price.f k p.f0 p.f1 p.f2 p.f3 p.f4 p.f5 p.f6 n) (prodPrice p n) := by
  unfold product_Price.f prodPrice
  refine Ev_bind (prod_f p) ?_
  refine Ev_if (fun h => ?_) (fun h => by rw [if_neg h]; exact Ev.now _)
  rw [if_pos h]
  have hok := prodE_zero h
  unfold ProdOk at hok
  refine Ev_or (g := fun k b => product_Price.j0 k n b p.f0 p.f1 p.f2 p.f3 p.f4 p.f5 p.f6) (fun c => ?_) (fun c => ?_)
  · rw [if_pos c]; refine Ev_succ ?_; simp only [product_Price.j0, if_true]; exact Ev.now _
  rw [if_neg c]
  refine Ev_succ ?_
  simp only [product_Price.j0, Bool.false_eq_true, if_false, if_neg (show ¬ p.f3 = 0 by omega)]
  refine Ev_if (fun h => ?_) (fun h => ?_)
  · rw [if_pos h]; exact Ev.now _
  · rw [if_neg h]; exact Ev.now _
theorem prodPriceR_f (p : Prod9) (n : Int) (hs : p.f0.size ≤ 4611686018427387904) : Ev (fun k => contangoref09_Price.f k p.f0 p.f1 p.f2 p.f3 p.f4 p.f5 p.f6 n) (prodPrice p n) := by
  unfold contangoref09_Price.f prodPrice
  refine Ev_bind (prodR_f p hs) ?_
  refine Ev_if (fun h => ?_) (fun h => by rw [if_neg h]; exact Ev.now _)
  rw [if_pos h]
  have hok := prodE_zero h
  unfold ProdOk at hok
  simp only [within9_f, Option.bind_some, and_iff, if_neg (show ¬ p.f3 = 0 by omega)]
  refine Ev_if (fun c => ?_) (fun c => by rw [if_pos (show n < p.f4 ∨ n > p.f5 by omega)]; exact Ev.now _)
  rw [if_neg (show ¬ (n < p.f4 ∨ n > p.f5) by omega)]
  refine Ev_if (fun h => ?_) (fun h => ?_)
  · rw [if_pos h]; exact Ev.now _
  · rw [if_neg h]; exact Ev.now _
end Go.Proofs.YtieifncibojciaaDoor.P
end
section
namespace Go.Proofs.YtieifncibojciaaDoor.P
set_option linter.unusedVariables false
set_option linter.unusedSimpArgs false
open Go.RowKit Go.Proofs.YtieifncibojciaaDoorW.PrintWords Go.Proofs.YtieifncibojciaaDoorW.PrintMore Go.Proofs.YtieifncibojciaaDoor.X
theorem rdP (l : List Prod9) (i : Nat) (h : i < l.length) : rd_T45 l (i : Int) = l[i] := by simp [rd_T45, h]
def fstT (q : Prod9 × Bool) : ByteArray × Int × Int × Int × Int × Int × Bool × Bool := (q.1.f0, q.1.f1, q.1.f2, q.1.f3, q.1.f4, q.1.f5, q.1.f6, q.2)
theorem findR_loop (l : List Prod9) (s : ByteArray) (hl : l.length ≤ 4611686018427387904) : ∀ (d i : Nat), i + d = l.length → Ev (fun k => contangoref09_Find.l0 k l s i) (fstT (fstP s (l.drop i)))
  | 0, i, hd => by
    refine Ev_succ ?_
    simp only [contangoref09_Find.l0, if_neg (show ¬ ((i : Int) < (l.length : Int)) by omega)]
    rw [List.drop_of_length_le (by omega)]
    exact Ev.now _
  | d + 1, i, hd => by
    have hi : i < l.length := by omega
    have ih := findR_loop l s hl d (i + 1) (by omega)
    refine Ev_succ ?_
    simp only [contangoref09_Find.l0, if_pos (show (i : Int) < (l.length : Int) by omega), if_pos (show 0 ≤ (i : Int) by omega), w_succ hi (by omega), rdP l i hi]
    rw [drop_cons l i hi, fstP]
    by_cases c : l[i].f0.toList = s.toList
    · simp only [if_pos c]
      exact Ev.now _
    · simp only [if_neg c]
      exact ih
def allE (l : List Prod9) : Nat → Nat → Int
  | 0, _ => 0
  | d + 1, i => if prodE (l.getD i z45) = 0 then (if i > 0 then (if Op.bytesLess (l.getD (i - 1) z45).f0.toList (l.getD i z45).f0.toList = true then allE l d (i + 1) else 12) else allE l d (i + 1)) else prodE (l.getD i z45)
theorem rdG (l : List Prod9) (i : Nat) : rd_T45 l (i : Int) = l.getD i z45 := by unfold rd_T45; rw [Int.toNat_natCast]
theorem all_loop (l : List Prod9) (hl : l.length ≤ 4611686018427387904) : ∀ (d i : Nat), i + d = l.length → Ev (fun k => product_CheckAll.l0 k l l l.length i) (allE l d i)
  | 0, i, hd => by
    refine Ev_succ ?_
    simp only [product_CheckAll.l0, if_neg (show ¬ ((i : Int) < (l.length : Int)) by omega)]
    exact Ev.now _
  | d + 1, i, hd => by
    have hi : i < l.length := by omega
    have ih := all_loop l hl d (i + 1) (by omega)
    refine Ev_succ ?_
    simp only [product_CheckAll.l0, if_pos (show (i : Int) < (l.length : Int) by omega), if_pos (show 0 ≤ (i : Int) by omega), w_succ hi (by omega), rdG]
    refine Ev_bind (prod_f (l.getD i z45)) ?_
    unfold allE
    by_cases c : prodE (l.getD i z45) = 0
    · simp only [if_pos c]
      by_cases c2 : i > 0
      · simp only [if_pos c2, if_pos (show (i : Int) > 0 by omega), w_pred c2 (by omega), if_pos (show 0 ≤ ((i - 1 : Nat) : Int) by omega), if_pos (show ((i - 1 : Nat) : Int) < (l.length : Int) by omega), rdG]
        by_cases c3 : Op.bytesLess (l.getD (i - 1) z45).f0.toList (l.getD i z45).f0.toList = true
        · simp only [if_pos c3]; exact ih
        · simp only [if_neg c3]; exact Ev.now _
      · simp only [if_neg c2, if_neg (show ¬ (i : Int) > 0 by omega)]; exact ih
    · simp only [if_neg c]; exact Ev.now _
theorem allR_loop (l : List Prod9) (hl : l.length ≤ 4611686018427387904) (hs : ∀ p ∈ l, p.f0.size ≤ 4611686018427387904) : ∀ (d i : Nat), i + d = l.length → Ev (fun k => contangoref09_CheckAll.l0 k l i) (allE l d i)
  | 0, i, hd => by
    refine Ev_succ ?_
    simp only [contangoref09_CheckAll.l0, if_neg (show ¬ ((i : Int) < (l.length : Int)) by omega)]
    exact Ev.now _
  | d + 1, i, hd => by
    have hi : i < l.length := by omega
    have ih := allR_loop l hl hs d (i + 1) (by omega)
    have hg : (l.getD i z45).f0.size ≤ 4611686018427387904 := by
      have : l.getD i z45 = l[i] := by simp [hi]
      rw [this]
      exact hs _ (List.getElem_mem hi)
    refine Ev_succ ?_
    simp only [contangoref09_CheckAll.l0, if_pos (show (i : Int) < (l.length : Int) by omega), if_pos (show 0 ≤ (i : Int) by omega), w_succ hi (by omega), rdG]
    refine Ev_bind (prodR_f (l.getD i z45) hg) ?_
    unfold allE
    by_cases c : prodE (l.getD i z45) = 0
    · simp only [if_pos c]
      by_cases c2 : i > 0
      · simp only [if_pos c2, if_pos (show (i : Int) > 0 by omega), w_pred c2 (by omega), if_pos (show 0 ≤ ((i - 1 : Nat) : Int) by omega), if_pos (show ((i - 1 : Nat) : Int) < (l.length : Int) by omega), rdG]
        by_cases c3 : Op.bytesLess (l.getD (i - 1) z45).f0.toList (l.getD i z45).f0.toList = true
        · simp only [if_pos c3]; exact ih
        · simp only [if_neg c3]; exact Ev.now _
      · simp only [if_neg c2, if_neg (show ¬ (i : Int) > 0 by omega)]; exact ih
    · simp only [if_neg c]; exact Ev.now _
def allC (l : List Prod9) : Int := if (l.length : Int) > 32 then 8 else allE l l.length 0
theorem allC_f (l : List Prod9) (hl : l.length ≤ 4611686018427387904) : Ev (fun k => product_CheckAll.f k l) (allC l) := by
  unfold product_CheckAll.f allC
  by_cases c : (l.length : Int) > 32
  · simp only [if_pos c]; exact Ev.now _
  · simp only [if_neg c]; exact all_loop l hl l.length 0 (by omega)
theorem allCR_f (l : List Prod9) (hl : l.length ≤ 4611686018427387904) (hs : ∀ p ∈ l, p.f0.size ≤ 4611686018427387904) : Ev (fun k => contangoref09_CheckAll.f k l) (allC l) := by
  unfold contangoref09_CheckAll.f allC
  by_cases c : (l.length : Int) > 32
  · simp only [if_pos c]; exact Ev.now _
  · simp only [if_neg c]; exact allR_loop l hl hs l.length 0 (by omega)
end Go.Proofs.YtieifncibojciaaDoor.P
end
section
namespace Go.Proofs.YtieifncibojciaaDoor.P
open Go.RowKit Go.Proofs.YtieifncibojciaaDoorW.PrintWords Go.Proofs.YtieifncibojciaaDoorW.PrintMore Go.Proofs.YtieifncibojciaaDoor.X
set_option maxRecDepth 100000 in
theorem goes10 : Ev (fun k => contangolaw10_goes.f k) true := Ev.of (k := 60) (contangolaw10_goes.mono) (by decide +kernel)
end Go.Proofs.YtieifncibojciaaDoor.P
end
section
namespace Go.Proofs.YtieifncibojciaaDoor.Pure
set_option linter.unusedVariables false
set_option linter.unusedSimpArgs false
open Go.RowKit Go.Proofs.YtieifncibojciaaDoorW.PrintWords Go.Proofs.YtieifncibojciaaDoorW.PrintMore Go.Proofs.YtieifncibojciaaDoor.X Go.Proofs.YtieifncibojciaaDoor.P
def tailC (s : S23) (p : Prod9) : Int := if s.f2 < 0 ∨ s.f2 > 73048 then 15 else if s.f1 = 1 then (if s.f3 = 0 then 0 else 17) else (if prodPrice p s.f3 = 0 then 0 else 17)
def chkE (l : List Prod9) (s : S23) : Int := if allC l = 0 then (if (fstP s.f0 l).2 = true ∧ 1 ≤ s.f1 ∧ s.f1 ≤ 3 then tailC s (fstP s.f0 l).1 else 19) else allC l
theorem chk_j0 (s : S23) (p : Prod9) (h1 : 1 ≤ s.f1) : Ev (fun k => series_Check.j0 k false s.f0 s.f1 s.f2 s.f3 p.f0 p.f1 p.f2 p.f3 p.f4 p.f5 p.f6) (tailC s p) := by
  refine Ev_succ ?_
  simp only [series_Check.j0, Bool.false_eq_true, if_false]
  unfold tailC
  have bad : Ev (fun k => series_Check.j1 k true s.f0 s.f1 s.f2 s.f3 p.f0 p.f1 p.f2 p.f3 p.f4 p.f5 p.f6) (15 : Int) := Ev_succ (by simp only [series_Check.j1, if_true]; exact Ev.now _)
  by_cases c1 : s.f2 < 0
  · rw [if_pos (Or.inl c1)]; simp only [if_pos c1]; exact bad
  by_cases c2 : s.f2 > 73048
  · rw [if_pos (Or.inr c2)]; simp only [if_neg c1, decide_eq_true c2]; exact bad
  rw [if_neg (by omega)]
  simp only [if_neg c1, decide_eq_false c2]
  refine Ev_succ ?_
  simp only [series_Check.j1, Bool.false_eq_true, if_false]
  by_cases c3 : s.f1 = 1
  · simp only [if_pos c3]
    refine Ev_succ ?_
    by_cases c4 : s.f3 = 0
    · have e : (s.f3 != 0) = false := by rw [bne_eq_false_iff_eq]; exact c4
      simp only [series_Check.j2, e, Bool.false_eq_true, if_false, if_pos c3, if_pos c4]
      exact Ev.now _
    · have e : (s.f3 != 0) = true := by rw [bne_iff_ne]; exact c4
      simp only [series_Check.j2, e, if_true, if_neg c4]
      exact Ev.now _
  · simp only [if_neg c3]
    refine Ev_succ ?_
    simp only [series_Check.j2, Bool.false_eq_true, if_false, if_neg c3]
    refine Ev_bind (prodPrice_f p s.f3) ?_
    by_cases c4 : prodPrice p s.f3 = 0
    · simp only [if_pos c4]; exact Ev.now _
    · simp only [if_neg c4]; exact Ev.now _
theorem chkR_j0 (s : S23) (p : Prod9) (h1 : 1 ≤ s.f1) (hs : p.f0.size ≤ 4611686018427387904) : Ev (fun k => contangoref10_Check.j0 k false s.f0 s.f1 s.f2 s.f3 p.f0 p.f1 p.f2 p.f3 p.f4 p.f5 p.f6) (tailC s p) := by
  refine Ev_succ ?_
  simp only [contangoref10_Check.j0, Bool.false_eq_true, if_false]
  unfold tailC
  have bad : Ev (fun k => contangoref10_Check.j1 k true s.f0 s.f1 s.f2 s.f3 p.f0 p.f1 p.f2 p.f3 p.f4 p.f5 p.f6) (15 : Int) := Ev_succ (by simp only [contangoref10_Check.j1, if_true]; exact Ev.now _)
  by_cases c1 : s.f2 < 0
  · rw [if_pos (Or.inl c1)]; simp only [if_pos c1]; exact bad
  by_cases c2 : s.f2 > 73048
  · rw [if_pos (Or.inr c2)]; simp only [if_neg c1, decide_eq_true c2]; exact bad
  rw [if_neg (by omega)]
  simp only [if_neg c1, decide_eq_false c2]
  refine Ev_succ ?_
  simp only [contangoref10_Check.j1, Bool.false_eq_true, if_false]
  by_cases c3 : s.f1 = 1
  · have c5 : ¬ s.f1 > 1 := by omega
    by_cases c4 : s.f3 = 0
    · simp only [if_pos c3, if_pos c4, if_neg c5]
      exact Ev.now _
    · simp only [if_pos c3, if_neg c4]
      exact Ev.now _
  · have c5 : s.f1 > 1 := by omega
    simp only [if_neg c3, if_pos c5]
    refine Ev_bind (prodPriceR_f p s.f3 hs) ?_
    by_cases c4 : prodPrice p s.f3 = 0
    · simp only [if_pos c4]; exact Ev.now _
    · simp only [if_neg c4]; exact Ev.now _
theorem fst_sz (name : ByteArray) : ∀ l : List Prod9, (∀ p ∈ l, p.f0.size ≤ 4611686018427387904) → (fstP name l).1.f0.size ≤ 4611686018427387904
  | [], _ => by show (0 : Nat) ≤ _; omega
  | p :: r, h => by
    unfold fstP
    split
    · exact h p (by simp)
    · exact fst_sz name r fun q hq => h q (by simp [hq])
theorem chk_f (l : List Prod9) (s : S23) (hl : l.length ≤ 4611686018427387904) : Ev (fun k => series_Check.f k l s.f0 s.f1 s.f2 s.f3) (chkE l s) := by
  unfold series_Check.f chkE
  refine Ev_bind (allC_f l hl) ?_
  by_cases c0 : allC l = 0
  case neg => simp only [if_neg c0]; exact Ev.now _
  simp only [if_pos c0]
  have e1 : product_Find.f l s.f0 = some (fstT (fstP s.f0 l)) := rfl
  rw [e1]
  simp only [Option.bind_some]
  have bad : ∀ p : Prod9, Ev (fun k => series_Check.j0 k true s.f0 s.f1 s.f2 s.f3 p.f0 p.f1 p.f2 p.f3 p.f4 p.f5 p.f6) (19 : Int) := fun p => Ev_succ (by simp only [series_Check.j0, if_true]; exact Ev.now _)
  by_cases c1 : (fstP s.f0 l).2 = true
  case neg => rw [if_neg (fun h => c1 h.1)]; simp only [if_neg (show ¬ (fstT (fstP s.f0 l)).2.2.2.2.2.2.2 = true from c1)]; exact bad (fstP s.f0 l).1
  by_cases c2 : s.f1 < 1
  · rw [if_neg (by omega)]; simp only [if_pos (show (fstT (fstP s.f0 l)).2.2.2.2.2.2.2 = true from c1), if_pos c2]; exact bad (fstP s.f0 l).1
  by_cases c3 : s.f1 > 3
  · rw [if_neg (by omega)]; simp only [if_pos (show (fstT (fstP s.f0 l)).2.2.2.2.2.2.2 = true from c1), if_neg c2, decide_eq_true c3]; exact bad (fstP s.f0 l).1
  rw [if_pos ⟨c1, by omega, by omega⟩]
  simp only [if_pos (show (fstT (fstP s.f0 l)).2.2.2.2.2.2.2 = true from c1), if_neg c2, decide_eq_false c3]
  exact chk_j0 s (fstP s.f0 l).1 (by omega)
theorem chkR_f (l : List Prod9) (s : S23) (hl : l.length ≤ 4611686018427387904) (hs : ∀ p ∈ l, p.f0.size ≤ 4611686018427387904) : Ev (fun k => contangoref10_Check.f k l s.f0 s.f1 s.f2 s.f3) (chkE l s) := by
  unfold contangoref10_Check.f chkE
  refine Ev_bind (allCR_f l hl hs) ?_
  by_cases c0 : allC l = 0
  case neg => simp only [if_neg c0]; exact Ev.now _
  simp only [if_pos c0]
  have hf := findR_loop l s.f0 hl l.length 0 (by omega)
  rw [List.drop_zero] at hf
  refine Ev_bind (g := fun k => contangoref09_Find.f k l s.f0) hf ?_
  have bad : ∀ p : Prod9, Ev (fun k => contangoref10_Check.j0 k true s.f0 s.f1 s.f2 s.f3 p.f0 p.f1 p.f2 p.f3 p.f4 p.f5 p.f6) (19 : Int) := fun p => Ev_succ (by simp only [contangoref10_Check.j0, if_true]; exact Ev.now _)
  by_cases c1 : (fstP s.f0 l).2 = true
  case neg => rw [if_neg (fun h => c1 h.1)]; simp only [if_neg (show ¬ (fstT (fstP s.f0 l)).2.2.2.2.2.2.2 = true from c1)]; exact bad (fstP s.f0 l).1
  by_cases c2 : s.f1 < 1
  · rw [if_neg (by omega)]; simp only [if_pos (show (fstT (fstP s.f0 l)).2.2.2.2.2.2.2 = true from c1), if_pos c2]; exact bad (fstP s.f0 l).1
  by_cases c3 : s.f1 > 3
  · rw [if_neg (by omega)]; simp only [if_pos (show (fstT (fstP s.f0 l)).2.2.2.2.2.2.2 = true from c1), if_neg c2, decide_eq_true c3]; exact bad (fstP s.f0 l).1
  rw [if_pos ⟨c1, by omega, by omega⟩]
  simp only [if_pos (show (fstT (fstP s.f0 l)).2.2.2.2.2.2.2 = true from c1), if_neg c2, decide_eq_false c3]
  exact chkR_j0 s (fstP s.f0 l).1 (by omega) (fst_sz s.f0 l hs)
theorem same_loop (l : List Prod9) (s : S23) (r : Int) (hl : l.length ≤ 4611686018427387904) (hr : Ev (fun k => contangoref10_Check.f k l s.f0 s.f1 s.f2 s.f3) r) : ∀ (d i : Nat), i + d = l.length → Ev (fun k => contangolaw10_SeriesChecks.l0 k l l r l.length i s.f0 s.f1 s.f2 s.f3) true
  | 0, i, hd => by
    refine Ev_succ ?_
    simp only [contangolaw10_SeriesChecks.l0, if_neg (show ¬ (i : Int) < (l.length : Int) by omega)]
    refine Ev_bind hr ?_
    simp only [if_true]
    exact Ev_id goes10
  | d + 1, i, hd => by
    have hi : i < l.length := by omega
    refine Ev_succ ?_
    simp only [contangolaw10_SeriesChecks.l0, if_pos (show (i : Int) < (l.length : Int) by omega), if_pos (show 0 ≤ (i : Int) by omega), beq_self_eq_true, Bool.not_true, Bool.or_self, Bool.false_eq_true, if_false, w_succ hi (by omega)]
    exact same_loop l s r hl hr d (i + 1) (by omega)
theorem SeriesChecks : ∀ (l0 : List (S45)) (x1 : S23), (l0.length ≤ maxLen ∧ l0.length * 64 ≤ 140737488351232 ∧ ∀ x ∈ l0, ok45 x) → ok23 x1 → ∃ k, X.contangolaw10_SeriesChecks.f k l0 x1.f0 x1.f1 x1.f2 x1.f3 = some true := by
  intro l s h0 h1
  have hl : l.length ≤ 4611686018427387904 := by have := h0.2.1; omega
  have hs : ∀ x ∈ l, x.f0.size ≤ 4611686018427387904 := fun x hx => by have := (h0.2.2 x hx).1; omega
  refine Ev.rounds ?_
  unfold contangolaw10_SeriesChecks.f
  by_cases c0 : (l.length : Int) > 60
  · simp only [if_pos c0]; exact Ev_id goes10
  simp only [if_neg c0, Option.bind_some, List.length_nil, List.nil_append, if_pos (show 0 + l.length < 2199023255552 by omega)]
  refine Ev_bind (chk_f l s hl) ?_
  exact same_loop l s _ hl (chkR_f l s hl hs) l.length 0 (by omega)
end Go.Proofs.YtieifncibojciaaDoor.Pure
end
