/- For MarkPuts: contracts, and facts on lists and numbers, that it uses (part 4). -/
import Derived.ChangeArms
import Derived.Deep.RegionLaw
import Derived.Deep.Slices
import Derived.Laws.BitsLemmas
import Derived.Laws.CopyOwn
import Derived.Laws.CopyRow
import Derived.Laws.Strings
import Derived.Lib.AppendZerosOnto
import Derived.Lib.Bytealg
import Derived.Lib.Overlaps
import Derived.Lib.SliceRun
import Derived.Lib.Walk
import Derived.SizedLaws
import Derived.Test.YtocndpddghefhaaMarkPutsc3
import Derived.WideShapes
section
namespace Go.Proofs.Ytocndpddghefhaa.X
open Go.RowKit Go.Proofs.YtocndpddghefhaaW.PrintWords Go.Proofs.YtocndpddghefhaaW.PrintLast Go.Proofs.YtocndpddghefhaaW.PrintMore
attribute [local go_sem] max2_int min2_int max_two min_two max_three min_three max_four min_four
set_option linter.unusedVariables false
set_option linter.unusedSimpArgs false
mutual
def mark_CheckAll.l0 : Nat → List (S62) → List (S62) → Int → Int → Option (Int)
  | 0, _, _, _, _ => none
  | k + 1, x0, x8, x9, x10 => if x10 < x9 then (if 0 ≤ x10 then (if x10 < (x8.length : Int) then (if x10 > 0 then (if 0 ≤ (wrap64 (x10 - 1)) then (if (wrap64 (x10 - 1)) < (x0.length : Int) then ((series_Compare.f ((rd_T62 x0 (wrap64 (x10 - 1))).f0.f0) ((rd_T62 x0 (wrap64 (x10 - 1))).f0.f1) ((rd_T62 x0 (wrap64 (x10 - 1))).f0.f2) ((rd_T62 x0 (wrap64 (x10 - 1))).f0.f3) ((rd_T62 x8 x10).f0.f0) ((rd_T62 x8 x10).f0.f1) ((rd_T62 x8 x10).f0.f2) ((rd_T62 x8 x10).f0.f3)).bind fun t104 => (mark_CheckAll.j1 k x0 x8 x9 x10 (decide (t104 ≥ 0)) ((rd_T62 x8 x10).f0.f0) ((rd_T62 x8 x10).f0.f1) ((rd_T62 x8 x10).f0.f2) ((rd_T62 x8 x10).f0.f3) ((rd_T62 x8 x10).f1))) else (none)) else (none)) else (mark_CheckAll.j1 k x0 x8 x9 x10 false ((rd_T62 x8 x10).f0.f0) ((rd_T62 x8 x10).f0.f1) ((rd_T62 x8 x10).f0.f2) ((rd_T62 x8 x10).f0.f3) ((rd_T62 x8 x10).f1))) else (none)) else (none)) else (some 0)
def mark_CheckAll.j1 : Nat → List (S62) → List (S62) → Int → Int → Bool → ByteArray → Int → Int → Int → Int → Option (Int)
  | 0, _, _, _, _, _, _, _, _, _, _ => none
  | k + 1, x0, x8, x9, x10, x28, x103000, x103001, x103002, x103003, x103004 => if x28 = true then (some 19) else ((mark_price.f x103004).bind fun t105 => (if t105 = true then (mark_CheckAll.l0 k x0 x8 x9 (wrap64 (x10 + 1))) else (some 17)))
end
def mark_CheckAll.f (k : Nat) (l0 : List (S62)) : Option (Int) := if (l0.length : Int) > 128 then (some 8) else (mark_CheckAll.l0 k l0 l0 (l0.length : Int) 0)
def mark_CheckAll.T6 : Bool × List (List Nat × List Nat) := (true, [([], []), ([0], [0]), ([1], [1]), ([2], [2]), ([2], [2]), ([4, 2], [2, 4]), ([3, 5, 2], [2, 3, 5]), ([6, 2], [2, 6]), ([7, 2], [2, 7]), ([2], [2]), ([9, 2], [2, 9]), ([8, 10, 2, 2], [2, 8, 10]), ([11, 2], [2, 11]), ([2, 12], [2, 12])])
def mark_CheckAll.B6 : List Nat := [0, 1, 3, 7, 7, 23, 63, 127, 255, 7, 519, 2047, 4095, 8191]
theorem mark_CheckAll.tab6 : rtab .any (opsOf Try.f33 6) = mark_CheckAll.T6 := by kernel_rfl
theorem mark_CheckAll.bits6 : waitsOk mark_CheckAll.T6.2 mark_CheckAll.B6 = true := by kernel_rfl
set_option maxHeartbeats 8000000 in
set_option maxRecDepth 100000 in
theorem mark_CheckAll.calls (k : Nat) (A0 : Option Addr) (c0 : Nat) (l0 : List (S62)) (r : Int) (w : World) (hr0 : Kd.C k62 w A0 l0.length l0) (hc0 : l0.length ≤ c0) (h : mark_CheckAll.f k l0 = some r) :
    Calls Try.prog 33 #[.slice A0 l0.length c0] w fun e w' => e = .returned (.int .i64 r) ∧ Below w.heap.size w w' := by
  have hu62 := Try.underlying62
  have hu60 := Try.underlying60
  have HR0 := Aside0.mk hr0
  have HC0 := Aside0.mk hc0
  clear hr0 hc0
  have HB := Aside0.mk (Below.refl w.heap.size w)
  have H : (if (l0.length : Int) > 128 then (some 8) else (mark_CheckAll.l0 k l0 l0 (l0.length : Int) 0)) = some r := h
  clear h
  by_cases c2 : (l0.length : Int) > 128
  · rw [if_pos c2] at H
    have c2b0 : decide (128 < (l0.length : Int)) = true := decide_eq_true c2
    have c2b1 : decide (128 < l0.length) = true := decide_eq_true (by omega)
    clear c2
    obtain rfl := Option.some.inj H
    go_enter Try.func33, Try.ntmps33
    go_wp2
    go_ret
    exact ⟨by first | rfl | (simp [errW_none, errW_some] <;> rfl) | (simp [*, errW_none, errW_some] <;> rfl), by repeat (first | (with_reducible first | exact HB.out | apply below_alloc | apply pw_below_drewN | apply below_drew1) | exact HB.out)⟩
  · rw [if_neg c2] at H
    have c2b0 : decide (128 < (l0.length : Int)) = false := decide_eq_false c2
    have c2b1 : decide (128 < l0.length) = false := decide_eq_false (by omega)
    clear c2
    have H' := Aside0.mk H
    clear H
    go_enter Try.func33, Try.ntmps33
    go_wp2
    go_loopg [10] k (fun kq v10 w' => ∃ (x10_1 : Int), v10 = .int .i64 x10_1 ∧ Aside0 (mark_CheckAll.l0 kq l0 l0 (l0.length : Int) x10_1 = some r) ∧ Aside0 (kq ≤ k) ∧ Aside0 (Below w.heap.size w w'))
    case atStart => exact ⟨(0), (by first | rfl | (simp; done) | (simp [*]; done)), H', ⟨Nat.le_refl _⟩, ⟨by repeat (first | (with_reducible first | exact HB.out | apply below_alloc | apply pw_below_drewN | apply below_drew1) | exact HB.out)⟩⟩
    case round =>
      clear H'
      try clear c2
      try clear c2b0
      try clear c2b1
      try clear p2
      obtain ⟨x10_1, rfl, HA, HK1, HB⟩ := hrel
      cases gk with
      | zero => exact absurd HA.out (by simp [mark_CheckAll.l0])
      | succ k1 =>
        have H := HA.out
        clear HA
        simp only [mark_CheckAll.l0] at H
        by_cases c3 : x10_1 < (l0.length : Int)
        · rw [if_pos c3] at H
          have c3b0 : decide (x10_1 < (l0.length : Int)) = true := decide_eq_true c3
          clear c3
          by_cases c4 : 0 ≤ x10_1
          · rw [if_pos c4] at H
            have c4b0 : decide (0 ≤ x10_1) = true := decide_eq_true c4
            clear c4
            by_cases c5 : x10_1 < (l0.length : Int)
            · rw [if_pos c5] at H
              have c5b0 : decide (x10_1 < (l0.length : Int)) = true := decide_eq_true c5
              clear c5
              have HC6 := Aside0.mk H
              clear H
              have p101 : 0 ≤ (x10_1 : Int) := of_decide_eq_true (by first | (with_reducible assumption) | assumption)
              have q101 : x10_1 < (l0.length : Int) := of_decide_eq_true (by first | (with_reducible assumption) | assumption)
              obtain ⟨ad101, e101, hx101_0, hx101_1, hx101_2, hx101_3, hx101_4⟩ := at_T62 HR0.out x10_1 p101 q101
              cases e101
              replace hx101_0 := (HB.out.cell (World.block_lt_of_cell? w _ hx101_0)).trans hx101_0
              replace hx101_1 := (HB.out.cell (World.block_lt_of_cell? w _ hx101_1)).trans hx101_1
              replace hx101_2 := (HB.out.cell (World.block_lt_of_cell? w _ hx101_2)).trans hx101_2
              replace hx101_3 := (HB.out.cell (World.block_lt_of_cell? w _ hx101_3)).trans hx101_3
              replace hx101_4 := (HB.out.cell (World.block_lt_of_cell? w _ hx101_4)).trans hx101_4
              replace p101 := eq_true p101
              replace q101 := eq_true q101
              go_upto_region 6 with (first | ((with_reducible refine gate_dst (N := 4) rfl ?_); refine box_event ?hg (N := 4) ?hd (cs := #[.string (⟨#[]⟩ : ByteArray), .int .i64 0, .int .i64 0, .int .i64 0, .int .i64 0]) (t := 62) ?hr ?_; (case hd => rfl); (case hg => rfl); (case hr => first | (go_simp; done) | (go_simp; rfl)); intro gb102 hg w7 hbox hb; have n0_ := Aside0.mk (below_step (by repeat (first | (with_reducible first | exact HB.out | apply below_alloc | apply pw_below_drewN | apply below_drew1) | exact HB.out)) hb); have n1_ := Aside0.mk (hbox); have n2_ := Aside0.mk ((by rw [hg]; exact (below_size (by repeat (first | (with_reducible first | exact HB.out | apply below_alloc | apply pw_below_drewN | apply below_drew1) | exact HB.out))) : w.heap.size ≤ gb102)); have n3_ := Aside0.mk ((by rw [hg]; exact (below_size (by repeat (first | (with_reducible first | exact HB.out | apply below_alloc | apply pw_below_drewN | apply below_drew1) | exact HB.out))) : w.heap.size ≤ gb102)); clear HB; have HB := n0_; have BK102 := n1_; have GW102 := n2_; have GE102 := n3_; clear n0_ n1_ n2_ n3_; clear hb hbox hg; have hcz8_0 : w7.cell? ⟨gb102, 0, none⟩ = some (.string (⟨#[]⟩ : ByteArray)) := (blk_cell BK102.out 0).trans rfl; have hcz8_1 : w7.cell? ⟨gb102, 1, none⟩ = some (.int .i64 0) := (blk_cell BK102.out 1).trans rfl; have hcz8_2 : w7.cell? ⟨gb102, 2, none⟩ = some (.int .i64 0) := (blk_cell BK102.out 2).trans rfl; have hcz8_3 : w7.cell? ⟨gb102, 3, none⟩ = some (.int .i64 0) := (blk_cell BK102.out 3).trans rfl; have hcz8_4 : w7.cell? ⟨gb102, 4, none⟩ = some (.int .i64 0) := (blk_cell BK102.out 4).trans rfl; have hfz8_0 := blk_frozen BK102.out 0; have hfz8_1 := blk_frozen BK102.out 1; have hfz8_2 := blk_frozen BK102.out 2; have hfz8_3 := blk_frozen BK102.out 3; have hfz8_4 := blk_frozen BK102.out 4))
              (try simp only [Act.put, List.setIfInBounds_toArray, List.set_cons_zero, List.set_cons_succ])
              go_cut [28] (fun v28 wc => ∃ (kq : Nat) (x28_5 : Bool), v28 = .bool x28_5 ∧ Aside0 (mark_CheckAll.j1 kq l0 l0 (l0.length : Int) x10_1 x28_5 ((rd_T62 l0 x10_1).f0.f0) ((rd_T62 l0 x10_1).f0.f1) ((rd_T62 l0 x10_1).f0.f2) ((rd_T62 l0 x10_1).f0.f3) ((rd_T62 l0 x10_1).f1) = some r) ∧ Aside0 (kq ≤ k1) ∧ Aside0 (wc.heap[gb102]? = some (.cells #[.string ((rd_T62 l0 x10_1).f0.f0), .int .i64 ((rd_T62 l0 x10_1).f0.f1), .int .i64 ((rd_T62 l0 x10_1).f0.f2), .int .i64 ((rd_T62 l0 x10_1).f0.f3), .int .i64 ((rd_T62 l0 x10_1).f1)] 62 (0, 0))) ∧ Aside0 (Below w.heap.size w wc))
              case first =>
                have H := HC6.out
                clear HC6
                by_cases c9 : x10_1 > 0
                · rw [if_pos c9] at H
                  have c9b0 : decide (0 < x10_1) = true := decide_eq_true c9
                  clear c9
                  (first | rw [c9b0] | (simp only [i64_w, i32_w]; rw [c9b0]) | skip)
                  obtain ⟨ji10, hji10⟩ : ∃ j_ : Int, (wrap64 (x10_1 - 1)) = j_ := ⟨_, rfl⟩
                  replace H : (if 0 ≤ (ji10) then (if (ji10) < (l0.length : Int) then ((series_Compare.f ((rd_T62 l0 (ji10)).f0.f0) ((rd_T62 l0 (ji10)).f0.f1) ((rd_T62 l0 (ji10)).f0.f2) ((rd_T62 l0 (ji10)).f0.f3) ((rd_T62 l0 x10_1).f0.f0) ((rd_T62 l0 x10_1).f0.f1) ((rd_T62 l0 x10_1).f0.f2) ((rd_T62 l0 x10_1).f0.f3)).bind fun t104 => (mark_CheckAll.j1 k1 l0 l0 (l0.length : Int) x10_1 (decide (t104 ≥ 0)) ((rd_T62 l0 x10_1).f0.f0) ((rd_T62 l0 x10_1).f0.f1) ((rd_T62 l0 x10_1).f0.f2) ((rd_T62 l0 x10_1).f0.f3) ((rd_T62 l0 x10_1).f1))) else (none)) else (none)) = some r := by first | (rw [hji10] at H; exact H) | (simp only [hji10] at H ⊢; exact H)
                  have hji10w : (IntKind.i64.wrap (x10_1 - 1)) = ji10 := (i64_w _).trans hji10
                  by_cases c11 : 0 ≤ (ji10)
                  · rw [if_pos c11] at H
                    have c11b0 : decide (0 ≤ (ji10)) = true := decide_eq_true c11
                    clear c11
                    by_cases c12 : (ji10) < (l0.length : Int)
                    · rw [if_pos c12] at H
                      have c12b0 : decide ((ji10) < (l0.length : Int)) = true := decide_eq_true c12
                      clear c12
                      replace H := Option.bind_eq_some_iff.mp H
                      obtain ⟨t104, A130, H⟩ := H
                      replace H : (mark_CheckAll.j1 k1 l0 l0 (l0.length : Int) x10_1 (decide (t104 ≥ 0)) ((rd_T62 l0 x10_1).f0.f0) ((rd_T62 l0 x10_1).f0.f1) ((rd_T62 l0 x10_1).f0.f2) ((rd_T62 l0 x10_1).f0.f3) ((rd_T62 l0 x10_1).f1)) = some r := H
                      have A13 := Aside0.mk A130
                      clear A130
                      have H' := Aside0.mk H
                      clear H
                      try go_wp2
                      have n0_ : Aside0 ((((((w7.setCell ⟨gb102, 0, none⟩ (.string ((rd_T62 l0 x10_1).f0.f0))).setCell ⟨gb102, 1, none⟩ (.int .i64 ((rd_T62 l0 x10_1).f0.f1))).setCell ⟨gb102, 2, none⟩ (.int .i64 ((rd_T62 l0 x10_1).f0.f2))).setCell ⟨gb102, 3, none⟩ (.int .i64 ((rd_T62 l0 x10_1).f0.f3))).setCell ⟨gb102, 4, none⟩ (.int .i64 ((rd_T62 l0 x10_1).f1))).heap[gb102]? = some (.cells #[.string ((rd_T62 l0 x10_1).f0.f0), .int .i64 ((rd_T62 l0 x10_1).f0.f1), .int .i64 ((rd_T62 l0 x10_1).f0.f2), .int .i64 ((rd_T62 l0 x10_1).f0.f3), .int .i64 ((rd_T62 l0 x10_1).f1)] 62 (0, 0))) := ⟨by (with_reducible repeat (first | refine blk_drewN ?_ _ | refine blk_drew ?_ | refine blk_alloc ?_ _)); refine blk_put (cs := #[.string ((rd_T62 l0 x10_1).f0.f0), .int .i64 ((rd_T62 l0 x10_1).f0.f1), .int .i64 ((rd_T62 l0 x10_1).f0.f2), .int .i64 ((rd_T62 l0 x10_1).f0.f3), .int .i64 0]) ?_ 4 _ rfl; (with_reducible repeat (first | refine blk_drewN ?_ _ | refine blk_drew ?_ | refine blk_alloc ?_ _)); refine blk_put (cs := #[.string ((rd_T62 l0 x10_1).f0.f0), .int .i64 ((rd_T62 l0 x10_1).f0.f1), .int .i64 ((rd_T62 l0 x10_1).f0.f2), .int .i64 0, .int .i64 0]) ?_ 3 _ rfl; (with_reducible repeat (first | refine blk_drewN ?_ _ | refine blk_drew ?_ | refine blk_alloc ?_ _)); refine blk_put (cs := #[.string ((rd_T62 l0 x10_1).f0.f0), .int .i64 ((rd_T62 l0 x10_1).f0.f1), .int .i64 0, .int .i64 0, .int .i64 0]) ?_ 2 _ rfl; (with_reducible repeat (first | refine blk_drewN ?_ _ | refine blk_drew ?_ | refine blk_alloc ?_ _)); refine blk_put (cs := #[.string ((rd_T62 l0 x10_1).f0.f0), .int .i64 0, .int .i64 0, .int .i64 0, .int .i64 0]) ?_ 1 _ rfl; (with_reducible repeat (first | refine blk_drewN ?_ _ | refine blk_drew ?_ | refine blk_alloc ?_ _)); refine blk_put (cs := #[.string (⟨#[]⟩ : ByteArray), .int .i64 0, .int .i64 0, .int .i64 0, .int .i64 0]) ?_ 0 _ rfl; (with_reducible repeat (first | refine blk_drewN ?_ _ | refine blk_drew ?_ | refine blk_alloc ?_ _)); exact BK102.out⟩
                      have n1_ : Aside0 (Below w.heap.size w (((((w7.setCell ⟨gb102, 0, none⟩ (.string ((rd_T62 l0 x10_1).f0.f0))).setCell ⟨gb102, 1, none⟩ (.int .i64 ((rd_T62 l0 x10_1).f0.f1))).setCell ⟨gb102, 2, none⟩ (.int .i64 ((rd_T62 l0 x10_1).f0.f2))).setCell ⟨gb102, 3, none⟩ (.int .i64 ((rd_T62 l0 x10_1).f0.f3))).setCell ⟨gb102, 4, none⟩ (.int .i64 ((rd_T62 l0 x10_1).f1)))) := ⟨by repeat (first | (with_reducible first | exact HB.out | apply below_alloc | apply pw_below_drewN | apply below_drew1 | refine below_set ?_ GE102.out) | exact HB.out)⟩
                      (try clear BK102)
                      (try clear HB)
                      generalize (((((w7.setCell ⟨gb102, 0, none⟩ (.string ((rd_T62 l0 x10_1).f0.f0))).setCell ⟨gb102, 1, none⟩ (.int .i64 ((rd_T62 l0 x10_1).f0.f1))).setCell ⟨gb102, 2, none⟩ (.int .i64 ((rd_T62 l0 x10_1).f0.f2))).setCell ⟨gb102, 3, none⟩ (.int .i64 ((rd_T62 l0 x10_1).f0.f3))).setCell ⟨gb102, 4, none⟩ (.int .i64 ((rd_T62 l0 x10_1).f1))) = w14 at n0_ n1_ ⊢
                      have BK102 := n0_
                      have HB := n1_
                      clear n0_ n1_
                      have n0_ := Aside0.mk (blk_drew BK102.out)
                      have n1_ := Aside0.mk (below_drew1 HB.out)
                      clear BK102
                      clear HB
                      have BK102 := n0_
                      have HB := n1_
                      clear n0_ n1_
                      have p103 : 0 ≤ ((ji10) : Int) := of_decide_eq_true (by first | (with_reducible assumption) | assumption)
                      have q103 : (ji10) < (l0.length : Int) := of_decide_eq_true (by first | (with_reducible assumption) | assumption)
                      obtain ⟨ad103, e103, hx103_0, hx103_1, hx103_2, hx103_3, hx103_4⟩ := at_T62 HR0.out (ji10) p103 q103
                      have hw103_4 := hx103_4
                      have hw103_3 := hx103_3
                      have hw103_2 := hx103_2
                      have hw103_1 := hx103_1
                      have hw103_0 := hx103_0
                      obtain rfl : ad101 = ad103 := (by injection e103)
                      replace hx103_0 := (HB.out.cell (World.block_lt_of_cell? w _ hx103_0)).trans hx103_0
                      replace hx103_1 := (HB.out.cell (World.block_lt_of_cell? w _ hx103_1)).trans hx103_1
                      replace hx103_2 := (HB.out.cell (World.block_lt_of_cell? w _ hx103_2)).trans hx103_2
                      replace hx103_3 := (HB.out.cell (World.block_lt_of_cell? w _ hx103_3)).trans hx103_3
                      replace hx103_4 := (HB.out.cell (World.block_lt_of_cell? w _ hx103_4)).trans hx103_4
                      replace p103 := eq_true p103
                      replace q103 := eq_true q103
                      refine start_ (n := 14) (S := fun w' => w'.cell? ⟨gb102, 0, none⟩ = some (.string ((rd_T62 l0 x10_1).f0.f0)) ∧ w'.cell? ⟨gb102, 1, none⟩ = some (.int .i64 ((rd_T62 l0 x10_1).f0.f1)) ∧ w'.cell? ⟨gb102, 2, none⟩ = some (.int .i64 ((rd_T62 l0 x10_1).f0.f2)) ∧ w'.cell? ⟨gb102, 3, none⟩ = some (.int .i64 ((rd_T62 l0 x10_1).f0.f3)) ∧ w'.cell? ⟨gb102, 4, none⟩ = some (.int .i64 ((rd_T62 l0 x10_1).f1)) ∧ w'.cell? (ad101.add (((ji10)).toNat * 5)) = some (.string ((rd_T62 l0 (ji10)).f0.f0)) ∧ w'.cell? ⟨(ad101.add (((ji10)).toNat * 5)).block, (ad101.add (((ji10)).toNat * 5)).off + 1, none⟩ = some (.int .i64 ((rd_T62 l0 (ji10)).f0.f1)) ∧ w'.cell? ⟨(ad101.add (((ji10)).toNat * 5)).block, (ad101.add (((ji10)).toNat * 5)).off + 2, none⟩ = some (.int .i64 ((rd_T62 l0 (ji10)).f0.f2)) ∧ w'.cell? ⟨(ad101.add (((ji10)).toNat * 5)).block, (ad101.add (((ji10)).toNat * 5)).off + 3, none⟩ = some (.int .i64 ((rd_T62 l0 (ji10)).f0.f3)) ∧ w'.cell? ⟨(ad101.add (((ji10)).toNat * 5)).block, (ad101.add (((ji10)).toNat * 5)).off + 4, none⟩ = some (.int .i64 ((rd_T62 l0 (ji10)).f1))) (ds := []) #[false, false, false, false, false, false, false, false, false, false, false, false, false, false] (by kernel_rfl) rfl rfl ⟨(blk_cell BK102.out 0).trans rfl, (blk_cell BK102.out 1).trans rfl, (blk_cell BK102.out 2).trans rfl, (blk_cell BK102.out 3).trans rfl, (blk_cell BK102.out 4).trans rfl, ((HB.out.cell (World.block_lt_of_cell? w _ hw103_0)).trans hw103_0), ((HB.out.cell (World.block_lt_of_cell? w _ hw103_1)).trans hw103_1), ((HB.out.cell (World.block_lt_of_cell? w _ hw103_2)).trans hw103_2), ((HB.out.cell (World.block_lt_of_cell? w _ hw103_3)).trans hw103_3), ((HB.out.cell (World.block_lt_of_cell? w _ hw103_4)).trans hw103_4)⟩ (fun hHeld => ?_); refine with_tabW mark_CheckAll.tab6 mark_CheckAll.bits6 (fun HT_ HW_ => ?_)
                      generalize w14.drew = w15 at BK102 HB hx103_0 hx103_1 hx103_2 hx103_3 hx103_4 hHeld ⊢
                      refine pure_ (i := 0) (N := some 15) (v := ?_) (a' := ?_) #[true, false, false, false, false, false, false, false, false, false, false, false, false, false] rfl rfl (any_of HT_.out (by kernel_rfl)) (fun _ _ _ h => h) (Or.inl ⟨by rfl, ?_⟩) ?_ ?_
                      rotate_left
                      · intro w'
                        go_simp
                        with_reducible rfl
                      rotate_left
                      · simp only [Act.put, List.setIfInBounds_toArray, List.set_cons_zero, List.set_cons_succ, i64_w, i32_w]
                        rfl
                      refine pure_ (i := 1) (N := some 16) (v := ?_) (a' := ?_) #[true, true, false, false, false, false, false, false, false, false, false, false, false, false] rfl rfl (any_of HT_.out (by kernel_rfl)) (fun _ _ _ h => h) (Or.inl ⟨by rfl, ?_⟩) ?_ ?_
                      rotate_left
                      · intro w'
                        go_simp
                        with_reducible rfl
                      rotate_left
                      · simp only [Act.put, List.setIfInBounds_toArray, List.set_cons_zero, List.set_cons_succ, i64_w, i32_w]
                        rfl
                      refine pure_ (i := 2) (N := some 17) (v := ?_) (a' := ?_) #[true, true, true, false, false, false, false, false, false, false, false, false, false, false] rfl rfl (any_of HT_.out (by kernel_rfl)) (fun _ _ _ h => h) (Or.inl ⟨by rfl, ?_⟩) ?_ ?_
                      rotate_left
                      · intro w'
                        go_simp
                        with_reducible rfl
                      rotate_left
                      · simp only [Act.put, List.setIfInBounds_toArray, List.set_cons_zero, List.set_cons_succ, i64_w, i32_w]
                        rfl
                      refine pure_ (i := 3) (N := some 18) (v := ?_) (a' := ?_) #[true, true, true, true, false, false, false, false, false, false, false, false, false, false] rfl rfl (any_of HT_.out (by kernel_rfl)) (fun _ _ _ h => h) (Or.inl ⟨by rfl, ?_⟩) ?_ ?_
                      rotate_left
                      · intro w'
                        go_simp
                        with_reducible rfl
                      rotate_left
                      · simp only [Act.put, List.setIfInBounds_toArray, List.set_cons_zero, List.set_cons_succ, i64_w, i32_w]
                        rfl
                      refine pure_ (i := 4) (N := some 19) (v := ?_) (a' := ?_) #[true, true, true, true, true, false, false, false, false, false, false, false, false, false] rfl rfl (any_of HT_.out (by kernel_rfl)) (fun _ _ _ h => h) (Or.inl ⟨by rfl, ?_⟩) ?_ ?_
                      rotate_left
                      · intro w'
                        go_simp
                        with_reducible rfl
                      rotate_left
                      · simp only [Act.put, List.setIfInBounds_toArray, List.set_cons_zero, List.set_cons_succ, i64_w, i32_w]
                        rfl
                      refine pure_ (i := 5) (N := some 20) (v := ?_) (a' := ?_) #[true, true, true, true, true, true, false, false, false, false, false, false, false, false] rfl rfl (any_of HT_.out (by kernel_rfl)) (fun _ _ _ h => h) (Or.inl ⟨by rfl, ?_⟩) ?_ ?_
                      rotate_left
                      · intro w'
                        go_simp
                        with_reducible rfl
                      rotate_left
                      · simp only [Act.put, List.setIfInBounds_toArray, List.set_cons_zero, List.set_cons_succ, i64_w, i32_w]
                        rfl
                      refine pure_ (i := 6) (N := some 21) (v := ?_) (a' := ?_) #[true, true, true, true, true, true, true, false, false, false, false, false, false, false] rfl rfl (any_of HT_.out (by kernel_rfl)) (fun _ _ _ h => h) (Or.inl ⟨by rfl, ?_⟩) ?_ ?_
                      rotate_left
                      · intro w'
                        go_simp
                        with_reducible rfl
                      rotate_left
                      · simp only [Act.put, List.setIfInBounds_toArray, List.set_cons_zero, List.set_cons_succ, i64_w, i32_w]
                        rfl
                      refine pure_ (i := 7) (N := some 22) (v := ?_) (a' := ?_) #[true, true, true, true, true, true, true, true, false, false, false, false, false, false] rfl rfl (any_of HT_.out (by kernel_rfl)) (fun _ _ _ h => h) (Or.inl ⟨by rfl, ?_⟩) ?_ ?_
                      rotate_left
                      · intro w'
                        go_simp
                        with_reducible rfl
                      rotate_left
                      · simp only [Act.put, List.setIfInBounds_toArray, List.set_cons_zero, List.set_cons_succ, i64_w, i32_w]
                        rfl
                      refine pure_ (i := 9) (N := some 24) (v := ?_) (a' := ?_) #[true, true, true, true, true, true, true, true, false, true, false, false, false, false] rfl rfl (any_of HT_.out (by kernel_rfl)) (fun _ _ _ h => h) (Or.inl ⟨by rfl, ?_⟩) ?_ ?_
                      rotate_left
                      · intro w'
                        go_simp
                        with_reducible rfl
                      rotate_left
                      · simp only [Act.put, List.setIfInBounds_toArray, List.set_cons_zero, List.set_cons_succ, i64_w, i32_w]
                        rfl
                      refine take_ (i := 8) (N := some 23) (v := ?_) (a' := ?_) #[true, true, true, true, true, true, true, true, true, true, false, false, false, false] rfl rfl (take_ofW HT_.out HW_.out (by kernel_rfl)) (fun _ _ _ h => h) (Or.inl ⟨by rfl, ?_⟩) hHeld ?_ ?_
                      rotate_left
                      · rintro w' ⟨s0, s1, s2, s3, s4, s5, s6, s7, s8, s9⟩
                        go_simp
                        with_reducible rfl
                      rotate_left
                      · simp only [Act.put, List.setIfInBounds_toArray, List.set_cons_zero, List.set_cons_succ, i64_w, i32_w]
                        rfl
                      refine take_ (i := 10) (N := some 25) (v := ?_) (a' := ?_) #[true, true, true, true, true, true, true, true, true, true, true, false, false, false] rfl rfl (take_ofW HT_.out HW_.out (by kernel_rfl)) (fun _ _ _ h => h) (Or.inl ⟨by rfl, ?_⟩) hHeld ?_ ?_
                      rotate_left
                      · rintro w' ⟨s0, s1, s2, s3, s4, s5, s6, s7, s8, s9⟩
                        go_simp
                        with_reducible rfl
                      rotate_left
                      · simp only [Act.put, List.setIfInBounds_toArray, List.set_cons_zero, List.set_cons_succ, i64_w, i32_w]
                        rfl
                      refine one_ (i := 11) (N := some 26) #[true, true, true, true, true, true, true, true, true, true, true, true, false, false] rfl rfl (one_of HT_.out (by kernel_rfl)) (by decide) (fun K hK => ?_)
                      refine goes_ Try.func62 (by kernel_rfl) rfl #[.agg #[.string ((rd_T62 l0 (ji10)).f0.f0), .int .i64 ((rd_T62 l0 (ji10)).f0.f1), .int .i64 ((rd_T62 l0 (ji10)).f0.f2), .int .i64 ((rd_T62 l0 (ji10)).f0.f3)], .agg #[.string ((rd_T62 l0 x10_1).f0.f0), .int .i64 ((rd_T62 l0 x10_1).f0.f1), .int .i64 ((rd_T62 l0 x10_1).f0.f2), .int .i64 ((rd_T62 l0 x10_1).f0.f3)]] (by rfl) rfl rfl (by (try simp only [List.map_toArray, List.map_cons, List.map_nil]); first | done | (simp only [hji10]; rfl) | rfl | (simp only [List.length_drop, List.length_take]; rfl)) ?_
                      with_reducible refine (series_Compare.calls ((rd_T62 l0 (ji10)).f0.f0) ((rd_T62 l0 (ji10)).f0.f1) ((rd_T62 l0 (ji10)).f0.f2) ((rd_T62 l0 (ji10)).f0.f3) ((rd_T62 l0 x10_1).f0.f0) ((rd_T62 l0 x10_1).f0.f1) ((rd_T62 l0 x10_1).f0.f2) ((rd_T62 l0 x10_1).f0.f3) t104 _ A13.out).mono ?_
                      rintro e w16 ⟨rfl, hb⟩
                      refine ⟨_, rfl, ?_⟩
                      have n0_ := Aside0.mk (blk_below (g := gb102) (o := .cells #[.string ((rd_T62 l0 x10_1).f0.f0), .int .i64 ((rd_T62 l0 x10_1).f0.f1), .int .i64 ((rd_T62 l0 x10_1).f0.f2), .int .i64 ((rd_T62 l0 x10_1).f0.f3), .int .i64 ((rd_T62 l0 x10_1).f1)] 62 (0, 0)) (by (with_reducible repeat (first | refine blk_drewN ?_ _ | refine blk_drew ?_ | refine blk_alloc ?_ _)); exact BK102.out) hb)
                      have n1_ := Aside0.mk (below_step (by repeat (first | (with_reducible first | exact HB.out | apply below_alloc | apply pw_below_drewN | apply below_drew1 | refine below_set ?_ GE102.out) | exact HB.out)) hb)
                      clear BK102
                      clear HB
                      have BK102 := n0_
                      have HB := n1_
                      clear n0_ n1_
                      (try clear hb)
                      (try clear hb2)
                      (try clear hk)
                      (try clear hi)
                      refine hK.out _ _ ⟨(blk_cell BK102.out 0).trans rfl, (blk_cell BK102.out 1).trans rfl, (blk_cell BK102.out 2).trans rfl, (blk_cell BK102.out 3).trans rfl, (blk_cell BK102.out 4).trans rfl, ((HB.out.cell (World.block_lt_of_cell? w _ hw103_0)).trans hw103_0), ((HB.out.cell (World.block_lt_of_cell? w _ hw103_1)).trans hw103_1), ((HB.out.cell (World.block_lt_of_cell? w _ hw103_2)).trans hw103_2), ((HB.out.cell (World.block_lt_of_cell? w _ hw103_3)).trans hw103_3), ((HB.out.cell (World.block_lt_of_cell? w _ hw103_4)).trans hw103_4)⟩ (fun hHeld => ?_)
                      clear hK K
                      refine norm_ (a' := ?_) ?_ ?_
                      rotate_left
                      · show Act.put _ (some 26) _ = _
                        simp only [Act.put, List.setIfInBounds_toArray, List.set_cons_zero, List.set_cons_succ, i64_w, i32_w]
                        rfl
                      refine pure_ (i := 12) (N := some 27) (v := ?_) (a' := ?_) #[true, true, true, true, true, true, true, true, true, true, true, true, true, false] rfl rfl (any_of HT_.out (by kernel_rfl)) (fun _ _ _ h => h) (Or.inl ⟨by rfl, ?_⟩) ?_ ?_
                      rotate_left
                      · intro w'
                        go_simp
                        with_reducible rfl
                      rotate_left
                      · simp only [Act.put, List.setIfInBounds_toArray, List.set_cons_zero, List.set_cons_succ, i64_w, i32_w]
                        rfl
                      refine pure_ (i := 13) (N := some 28) (v := ?_) (a' := ?_) #[true, true, true, true, true, true, true, true, true, true, true, true, true, true] rfl rfl (any_of HT_.out (by kernel_rfl)) (fun _ _ _ h => h) (Or.inl ⟨by rfl, ?_⟩) ?_ ?_
                      rotate_left
                      · intro w'
                        go_simp
                        with_reducible rfl
                      rotate_left
                      · simp only [Act.put, List.setIfInBounds_toArray, List.set_cons_zero, List.set_cons_succ, i64_w, i32_w]
                        rfl
                      refine done_ (done_of HT_.out (by kernel_rfl)) ?_
                      try go_wp2
                      go_meet
                      case rel => exact ⟨_, (decide (t104 ≥ 0)), (by first | rfl | (simp; done) | (simp [*]; done)), H', ⟨by have := HK1.out; first | omega | exact Nat.le_refl _⟩, ⟨by (with_reducible repeat (first | refine blk_drewN ?_ _ | refine blk_drew ?_ | refine blk_alloc ?_ _)); exact BK102.out⟩, ⟨by repeat (first | (with_reducible first | exact HB.out | apply below_alloc | apply pw_below_drewN | apply below_drew1 | refine below_set ?_ GE102.out) | exact HB.out)⟩⟩
                    · rw [if_neg c12] at H
                      exact absurd H (by simp)
                  · rw [if_neg c11] at H
                    exact absurd H (by simp)
                · rw [if_neg c9] at H
                  have c9b0 : decide (0 < x10_1) = false := decide_eq_false c9
                  clear c9
                  (first | rw [c9b0] | (simp only [i64_w, i32_w]; rw [c9b0]) | skip)
                  have H' := Aside0.mk H
                  clear H
                  try go_wp2
                  have n0_ : Aside0 ((((((w7.setCell ⟨gb102, 0, none⟩ (.string ((rd_T62 l0 x10_1).f0.f0))).setCell ⟨gb102, 1, none⟩ (.int .i64 ((rd_T62 l0 x10_1).f0.f1))).setCell ⟨gb102, 2, none⟩ (.int .i64 ((rd_T62 l0 x10_1).f0.f2))).setCell ⟨gb102, 3, none⟩ (.int .i64 ((rd_T62 l0 x10_1).f0.f3))).setCell ⟨gb102, 4, none⟩ (.int .i64 ((rd_T62 l0 x10_1).f1))).heap[gb102]? = some (.cells #[.string ((rd_T62 l0 x10_1).f0.f0), .int .i64 ((rd_T62 l0 x10_1).f0.f1), .int .i64 ((rd_T62 l0 x10_1).f0.f2), .int .i64 ((rd_T62 l0 x10_1).f0.f3), .int .i64 ((rd_T62 l0 x10_1).f1)] 62 (0, 0))) := ⟨by (with_reducible repeat (first | refine blk_drewN ?_ _ | refine blk_drew ?_ | refine blk_alloc ?_ _)); refine blk_put (cs := #[.string ((rd_T62 l0 x10_1).f0.f0), .int .i64 ((rd_T62 l0 x10_1).f0.f1), .int .i64 ((rd_T62 l0 x10_1).f0.f2), .int .i64 ((rd_T62 l0 x10_1).f0.f3), .int .i64 0]) ?_ 4 _ rfl; (with_reducible repeat (first | refine blk_drewN ?_ _ | refine blk_drew ?_ | refine blk_alloc ?_ _)); refine blk_put (cs := #[.string ((rd_T62 l0 x10_1).f0.f0), .int .i64 ((rd_T62 l0 x10_1).f0.f1), .int .i64 ((rd_T62 l0 x10_1).f0.f2), .int .i64 0, .int .i64 0]) ?_ 3 _ rfl; (with_reducible repeat (first | refine blk_drewN ?_ _ | refine blk_drew ?_ | refine blk_alloc ?_ _)); refine blk_put (cs := #[.string ((rd_T62 l0 x10_1).f0.f0), .int .i64 ((rd_T62 l0 x10_1).f0.f1), .int .i64 0, .int .i64 0, .int .i64 0]) ?_ 2 _ rfl; (with_reducible repeat (first | refine blk_drewN ?_ _ | refine blk_drew ?_ | refine blk_alloc ?_ _)); refine blk_put (cs := #[.string ((rd_T62 l0 x10_1).f0.f0), .int .i64 0, .int .i64 0, .int .i64 0, .int .i64 0]) ?_ 1 _ rfl; (with_reducible repeat (first | refine blk_drewN ?_ _ | refine blk_drew ?_ | refine blk_alloc ?_ _)); refine blk_put (cs := #[.string (⟨#[]⟩ : ByteArray), .int .i64 0, .int .i64 0, .int .i64 0, .int .i64 0]) ?_ 0 _ rfl; (with_reducible repeat (first | refine blk_drewN ?_ _ | refine blk_drew ?_ | refine blk_alloc ?_ _)); exact BK102.out⟩
                  have n1_ : Aside0 (Below w.heap.size w (((((w7.setCell ⟨gb102, 0, none⟩ (.string ((rd_T62 l0 x10_1).f0.f0))).setCell ⟨gb102, 1, none⟩ (.int .i64 ((rd_T62 l0 x10_1).f0.f1))).setCell ⟨gb102, 2, none⟩ (.int .i64 ((rd_T62 l0 x10_1).f0.f2))).setCell ⟨gb102, 3, none⟩ (.int .i64 ((rd_T62 l0 x10_1).f0.f3))).setCell ⟨gb102, 4, none⟩ (.int .i64 ((rd_T62 l0 x10_1).f1)))) := ⟨by repeat (first | (with_reducible first | exact HB.out | apply below_alloc | apply pw_below_drewN | apply below_drew1 | refine below_set ?_ GE102.out) | exact HB.out)⟩
                  (try clear BK102)
                  (try clear HB)
                  generalize (((((w7.setCell ⟨gb102, 0, none⟩ (.string ((rd_T62 l0 x10_1).f0.f0))).setCell ⟨gb102, 1, none⟩ (.int .i64 ((rd_T62 l0 x10_1).f0.f1))).setCell ⟨gb102, 2, none⟩ (.int .i64 ((rd_T62 l0 x10_1).f0.f2))).setCell ⟨gb102, 3, none⟩ (.int .i64 ((rd_T62 l0 x10_1).f0.f3))).setCell ⟨gb102, 4, none⟩ (.int .i64 ((rd_T62 l0 x10_1).f1))) = w17 at n0_ n1_ ⊢
                  have BK102 := n0_
                  have HB := n1_
                  clear n0_ n1_
                  have n0_ := Aside0.mk (blk_drew BK102.out)
                  have n1_ := Aside0.mk (below_drew1 HB.out)
                  clear BK102
                  clear HB
                  have BK102 := n0_
                  have HB := n1_
                  clear n0_ n1_
                  refine start_ (n := 14) (S := fun w' => True) (ds := []) #[false, false, false, false, false, false, false, false, false, false, false, false, false, false] (by kernel_rfl) rfl rfl trivial (fun hHeld => ?_); refine with_tabW mark_CheckAll.tab6 mark_CheckAll.bits6 (fun HT_ HW_ => ?_)
                  generalize w17.drew = w18 at BK102 HB hHeld ⊢
                  refine pure_ (i := 0) (N := some 15) (v := ?_) (a' := ?_) #[true, false, false, false, false, false, false, false, false, false, false, false, false, false] rfl rfl (any_of HT_.out (by kernel_rfl)) (fun _ _ _ h => h) (Or.inl ⟨by rfl, ?_⟩) ?_ ?_
                  rotate_left
                  · intro w'
                    go_simp
                    with_reducible rfl
                  rotate_left
                  · simp only [Act.put, List.setIfInBounds_toArray, List.set_cons_zero, List.set_cons_succ, i64_w, i32_w]
                    rfl
                  refine pure_ (i := 1) (N := some 16) (v := ?_) (a' := ?_) #[true, true, false, false, false, false, false, false, false, false, false, false, false, false] rfl rfl (any_of HT_.out (by kernel_rfl)) (fun _ _ _ h => h) (Or.inl ⟨by rfl, ?_⟩) ?_ ?_
                  rotate_left
                  · intro w'
                    go_simp
                    with_reducible rfl
                  rotate_left
                  · simp only [Act.put, List.setIfInBounds_toArray, List.set_cons_zero, List.set_cons_succ, i64_w, i32_w]
                    rfl
                  refine pure_ (i := 2) (N := some 17) (v := ?_) (a' := ?_) #[true, true, true, false, false, false, false, false, false, false, false, false, false, false] rfl rfl (any_of HT_.out (by kernel_rfl)) (fun _ _ _ h => h) (Or.inl ⟨by rfl, ?_⟩) ?_ ?_
                  rotate_left
                  · intro w'
                    go_simp
                    with_reducible rfl
                  rotate_left
                  · simp only [Act.put, List.setIfInBounds_toArray, List.set_cons_zero, List.set_cons_succ, i64_w, i32_w]
                    rfl
                  refine pure_ (i := 3) (N := some 18) (v := undef) (a' := ?_) #[true, true, true, true, false, false, false, false, false, false, false, false, false, false] rfl rfl (any_of HT_.out (by kernel_rfl)) (fun _ _ _ h => h) (Or.inr ⟨by rfl, rfl⟩) ?_ ?_
                  rotate_left
                  · simp only [Act.put, List.setIfInBounds_toArray, List.set_cons_zero, List.set_cons_succ, i64_w, i32_w]
                    rfl
                  refine pure_ (i := 4) (N := some 19) (v := undef) (a' := ?_) #[true, true, true, true, true, false, false, false, false, false, false, false, false, false] rfl rfl (any_of HT_.out (by kernel_rfl)) (fun _ _ _ h => h) (Or.inr ⟨by rfl, rfl⟩) ?_ ?_
                  rotate_left
                  · simp only [Act.put, List.setIfInBounds_toArray, List.set_cons_zero, List.set_cons_succ, i64_w, i32_w]
                    rfl
                  refine pure_ (i := 5) (N := some 20) (v := undef) (a' := ?_) #[true, true, true, true, true, true, false, false, false, false, false, false, false, false] rfl rfl (any_of HT_.out (by kernel_rfl)) (fun _ _ _ h => h) (Or.inr ⟨by rfl, rfl⟩) ?_ ?_
                  rotate_left
                  · simp only [Act.put, List.setIfInBounds_toArray, List.set_cons_zero, List.set_cons_succ, i64_w, i32_w]
                    rfl
                  refine pure_ (i := 6) (N := some 21) (v := undef) (a' := ?_) #[true, true, true, true, true, true, true, false, false, false, false, false, false, false] rfl rfl (any_of HT_.out (by kernel_rfl)) (fun _ _ _ h => h) (Or.inr ⟨by rfl, rfl⟩) ?_ ?_
                  rotate_left
                  · simp only [Act.put, List.setIfInBounds_toArray, List.set_cons_zero, List.set_cons_succ, i64_w, i32_w]
                    rfl
                  refine pure_ (i := 7) (N := some 22) (v := undef) (a' := ?_) #[true, true, true, true, true, true, true, true, false, false, false, false, false, false] rfl rfl (any_of HT_.out (by kernel_rfl)) (fun _ _ _ h => h) (Or.inr ⟨by rfl, rfl⟩) ?_ ?_
                  rotate_left
                  · simp only [Act.put, List.setIfInBounds_toArray, List.set_cons_zero, List.set_cons_succ, i64_w, i32_w]
                    rfl
                  refine pure_ (i := 8) (N := some 23) (v := undef) (a' := ?_) #[true, true, true, true, true, true, true, true, true, false, false, false, false, false] rfl rfl (any_of HT_.out (by kernel_rfl)) (fun _ _ _ h => h) (Or.inr ⟨by rfl, rfl⟩) ?_ ?_
                  rotate_left
                  · simp only [Act.put, List.setIfInBounds_toArray, List.set_cons_zero, List.set_cons_succ, i64_w, i32_w]
                    rfl
                  refine pure_ (i := 9) (N := some 24) (v := undef) (a' := ?_) #[true, true, true, true, true, true, true, true, true, true, false, false, false, false] rfl rfl (any_of HT_.out (by kernel_rfl)) (fun _ _ _ h => h) (Or.inr ⟨by rfl, rfl⟩) ?_ ?_
                  rotate_left
                  · simp only [Act.put, List.setIfInBounds_toArray, List.set_cons_zero, List.set_cons_succ, i64_w, i32_w]
                    rfl
                  refine pure_ (i := 10) (N := some 25) (v := undef) (a' := ?_) #[true, true, true, true, true, true, true, true, true, true, true, false, false, false] rfl rfl (any_of HT_.out (by kernel_rfl)) (fun _ _ _ h => h) (Or.inr ⟨by rfl, rfl⟩) ?_ ?_
                  rotate_left
                  · simp only [Act.put, List.setIfInBounds_toArray, List.set_cons_zero, List.set_cons_succ, i64_w, i32_w]
                    rfl
                  refine pure_ (i := 11) (N := some 26) (v := undef) (a' := ?_) #[true, true, true, true, true, true, true, true, true, true, true, true, false, false] rfl rfl (any_of HT_.out (by kernel_rfl)) (fun _ _ _ h => h) (Or.inr ⟨by rfl, rfl⟩) ?_ ?_
                  rotate_left
                  · simp only [Act.put, List.setIfInBounds_toArray, List.set_cons_zero, List.set_cons_succ, i64_w, i32_w]
                    rfl
                  refine pure_ (i := 12) (N := some 27) (v := undef) (a' := ?_) #[true, true, true, true, true, true, true, true, true, true, true, true, true, false] rfl rfl (any_of HT_.out (by kernel_rfl)) (fun _ _ _ h => h) (Or.inr ⟨by rfl, rfl⟩) ?_ ?_
                  rotate_left
                  · simp only [Act.put, List.setIfInBounds_toArray, List.set_cons_zero, List.set_cons_succ, i64_w, i32_w]
                    rfl
                  refine pure_ (i := 13) (N := some 28) (v := ?_) (a' := ?_) #[true, true, true, true, true, true, true, true, true, true, true, true, true, true] rfl rfl (any_of HT_.out (by kernel_rfl)) (fun _ _ _ h => h) (Or.inl ⟨by rfl, ?_⟩) ?_ ?_
                  rotate_left
                  · intro w'
                    go_simp
                    with_reducible rfl
                  rotate_left
                  · simp only [Act.put, List.setIfInBounds_toArray, List.set_cons_zero, List.set_cons_succ, i64_w, i32_w]
                    rfl
                  refine done_ (done_of HT_.out (by kernel_rfl)) ?_
                  try go_wp2
                  go_meet
                  case rel => exact ⟨_, (false), (by first | rfl | (simp; done) | (simp [*]; done)), H', ⟨by have := HK1.out; first | omega | exact Nat.le_refl _⟩, ⟨by (with_reducible repeat (first | refine blk_drewN ?_ _ | refine blk_drew ?_ | refine blk_alloc ?_ _)); exact BK102.out⟩, ⟨by repeat (first | (with_reducible first | exact HB.out | apply below_alloc | apply pw_below_drewN | apply below_drew1 | refine below_set ?_ GE102.out) | exact HB.out)⟩⟩
              case rest =>
                clear HC6
                try clear c1
                try clear p1
                try clear q1
                try clear hx1
                try clear c2
                try clear c2b0
                try clear c2b1
                try clear p2
                try clear c3
                try clear c3b0
                try clear c4
                try clear c4b0
                try clear c5
                try clear c5b0
                try clear c6
                try clear p6
                try clear c9
                try clear c9b0
                try clear p10
                try clear q10
                try clear hx10
                try clear c11
                try clear c11b0
                try clear c12
                try clear c12b0
                try clear hcz8_0
                try clear hcz8_1
                try clear hcz8_2
                try clear hcz8_3
                try clear hcz8_4
                try clear hfz8_0
                try clear hfz8_1
                try clear hfz8_2
                try clear hfz8_3
                try clear hfz8_4
                try clear hx101_0
                try clear hx101_1
                try clear hx101_2
                try clear hx101_3
                try clear hx101_4
                try clear hx103_0
                try clear hx103_1
                try clear hx103_2
                try clear hx103_3
                try clear hx103_4
                try clear p101
                try clear p103
                try clear p2
                try clear q101
                try clear q103
                obtain ⟨kq, x28_5, rfl, HA, HJ5, BK102, HB⟩ := hcut
                cases kq with
                | zero => exact absurd HA.out (by simp [mark_CheckAll.j1])
                | succ kj5 =>
                  have H := HA.out
                  clear HA
                  simp only [mark_CheckAll.j1] at H
                  by_cases c19 : x28_5 = true
                  · subst c19
                    have H1 : (some 19) = some r := by rw [if_pos rfl] at H; exact H
                    clear H
                    have H := H1
                    clear H1
                    obtain rfl := Option.some.inj H
                    go_wp2
                    go_ret
                    exact ⟨by first | rfl | (simp [errW_none, errW_some] <;> rfl) | (simp [*, errW_none, errW_some] <;> rfl), by repeat (first | (with_reducible first | exact HB.out | apply below_alloc | apply pw_below_drewN | apply below_drew1 | refine below_set ?_ GE102.out) | exact HB.out)⟩
                  · replace c19 := Bool.eq_false_iff.mpr c19
                    subst c19
                    have H1 : ((mark_price.f ((rd_T62 l0 x10_1).f1)).bind fun t105 => (if t105 = true then (mark_CheckAll.l0 kj5 l0 l0 (l0.length : Int) (wrap64 (x10_1 + 1))) else (some 17))) = some r := by rw [if_neg (show ¬ (false = true) by decide)] at H; exact H
                    clear H
                    have H := H1
                    clear H1
                    replace H := Option.bind_eq_some_iff.mp H
                    obtain ⟨t105, A200, H⟩ := H
                    replace H : (if t105 = true then (mark_CheckAll.l0 kj5 l0 l0 (l0.length : Int) (wrap64 (x10_1 + 1))) else (some 17)) = some r := H
                    have A20 := Aside0.mk A200
                    clear A200
                    by_cases c21 : t105 = true
                    · subst c21
                      have H1 : (mark_CheckAll.l0 kj5 l0 l0 (l0.length : Int) (wrap64 (x10_1 + 1))) = some r := by rw [if_pos rfl] at H; exact H
                      clear H
                      have H := H1
                      clear H1
                      have H' := Aside0.mk H
                      clear H
                      have hcz22_0 : wc.cell? ⟨gb102, 0, none⟩ = some (.string ((rd_T62 l0 x10_1).f0.f0)) := (blk_cell BK102.out 0).trans rfl
                      have hcz22_1 : wc.cell? ⟨gb102, 1, none⟩ = some (.int .i64 ((rd_T62 l0 x10_1).f0.f1)) := (blk_cell BK102.out 1).trans rfl
                      have hcz22_2 : wc.cell? ⟨gb102, 2, none⟩ = some (.int .i64 ((rd_T62 l0 x10_1).f0.f2)) := (blk_cell BK102.out 2).trans rfl
                      have hcz22_3 : wc.cell? ⟨gb102, 3, none⟩ = some (.int .i64 ((rd_T62 l0 x10_1).f0.f3)) := (blk_cell BK102.out 3).trans rfl
                      have hcz22_4 : wc.cell? ⟨gb102, 4, none⟩ = some (.int .i64 ((rd_T62 l0 x10_1).f1)) := (blk_cell BK102.out 4).trans rfl
                      have hfz22_0 := blk_frozen BK102.out 0
                      have hfz22_1 := blk_frozen BK102.out 1
                      have hfz22_2 := blk_frozen BK102.out 2
                      have hfz22_3 := blk_frozen BK102.out 3
                      have hfz22_4 := blk_frozen BK102.out 4
                      go_wp2_with (first | ((with_reducible refine gate_callee (f := 49) rfl ?_); refine goesL_ (some 31) rfl rfl Try.func49 (by kernel_rfl) rfl #[.int .i64 ((rd_T62 l0 x10_1).f1)] rfl (by (try simp only [List.map_toArray, List.map_cons, List.map_nil]); first | done | rfl | (simp only [List.length_drop, List.length_take]; rfl)) ?_; (with_reducible refine (mark_price.calls ((rd_T62 l0 x10_1).f1) true _ A20.out).mono ?_); rintro e w' ⟨rfl, ⟨nd, rfl⟩⟩; refine ⟨_, rfl, ?_⟩))
                      go_roundg kj5
                      case measure => have := HK1.out; have := HJ5.out; omega
                      case rel => exact ⟨(wrap64 (x10_1 + 1)), (by first | rfl | (simp; done) | (simp [*]; done)), H', ⟨by have := HK1.out; have := HJ5.out; omega⟩, ⟨by repeat (first | (with_reducible first | exact HB.out | apply below_alloc | apply pw_below_drewN | apply below_drew1 | refine below_set ?_ GE102.out) | exact HB.out)⟩⟩
                    · replace c21 := Bool.eq_false_iff.mpr c21
                      subst c21
                      have H1 : (some 17) = some r := by rw [if_neg (show ¬ (false = true) by decide)] at H; exact H
                      clear H
                      have H := H1
                      clear H1
                      obtain rfl := Option.some.inj H
                      have hcz23_0 : wc.cell? ⟨gb102, 0, none⟩ = some (.string ((rd_T62 l0 x10_1).f0.f0)) := (blk_cell BK102.out 0).trans rfl
                      have hcz23_1 : wc.cell? ⟨gb102, 1, none⟩ = some (.int .i64 ((rd_T62 l0 x10_1).f0.f1)) := (blk_cell BK102.out 1).trans rfl
                      have hcz23_2 : wc.cell? ⟨gb102, 2, none⟩ = some (.int .i64 ((rd_T62 l0 x10_1).f0.f2)) := (blk_cell BK102.out 2).trans rfl
                      have hcz23_3 : wc.cell? ⟨gb102, 3, none⟩ = some (.int .i64 ((rd_T62 l0 x10_1).f0.f3)) := (blk_cell BK102.out 3).trans rfl
                      have hcz23_4 : wc.cell? ⟨gb102, 4, none⟩ = some (.int .i64 ((rd_T62 l0 x10_1).f1)) := (blk_cell BK102.out 4).trans rfl
                      have hfz23_0 := blk_frozen BK102.out 0
                      have hfz23_1 := blk_frozen BK102.out 1
                      have hfz23_2 := blk_frozen BK102.out 2
                      have hfz23_3 := blk_frozen BK102.out 3
                      have hfz23_4 := blk_frozen BK102.out 4
                      go_wp2_with (first | ((with_reducible refine gate_callee (f := 49) rfl ?_); refine goesL_ (some 31) rfl rfl Try.func49 (by kernel_rfl) rfl #[.int .i64 ((rd_T62 l0 x10_1).f1)] rfl (by (try simp only [List.map_toArray, List.map_cons, List.map_nil]); first | done | rfl | (simp only [List.length_drop, List.length_take]; rfl)) ?_; (with_reducible refine (mark_price.calls ((rd_T62 l0 x10_1).f1) false _ A20.out).mono ?_); rintro e w' ⟨rfl, ⟨nd, rfl⟩⟩; refine ⟨_, rfl, ?_⟩))
                      go_ret
                      exact ⟨by first | rfl | (simp [errW_none, errW_some] <;> rfl) | (simp [*, errW_none, errW_some] <;> rfl), by repeat (first | (with_reducible first | exact HB.out | apply below_alloc | apply pw_below_drewN | apply below_drew1 | refine below_set ?_ GE102.out) | exact HB.out)⟩
            · rw [if_neg c5] at H
              exact absurd H (by simp)
          · rw [if_neg c4] at H
            exact absurd H (by simp)
        · rw [if_neg c3] at H
          have c3b0 : decide (x10_1 < (l0.length : Int)) = false := decide_eq_false c3
          clear c3
          obtain rfl := Option.some.inj H
          go_wp2
          go_ret
          exact ⟨by first | rfl | (simp [errW_none, errW_some] <;> rfl) | (simp [*, errW_none, errW_some] <;> rfl), by repeat (first | (with_reducible first | exact HB.out | apply below_alloc | apply pw_below_drewN | apply below_drew1) | exact HB.out)⟩
end Go.Proofs.Ytocndpddghefhaa.X
end
section
namespace Go.Proofs.Ytocndpddghefhaa.X
open Go.RowKit Go.Proofs.YtocndpddghefhaaW.PrintWords Go.Proofs.YtocndpddghefhaaW.PrintLast Go.Proofs.YtocndpddghefhaaW.PrintMore
attribute [local go_sem] max2_int min2_int max_two min_two max_three min_three max_four min_four
set_option linter.unusedVariables false
set_option linter.unusedSimpArgs false
def serB (a b : S60) : Bool := a.f0.toList == b.f0.toList && (a.f1 == b.f1 && (a.f2 == b.f2 && a.f3 == b.f3))
def fnd (s : S60) : List S62 → Int → Int
  | [], _ => -1
  | m :: r, i => if serB m.f0 s = true then i else fnd s r (i + 1)
theorem fnd_rng (s : S60) : ∀ (l : List S62) (i : Nat), fnd s l i = -1 ∨ ∃ j : Nat, fnd s l i = ((i + j : Nat) : Int) ∧ j < l.length
  | [], i => Or.inl rfl
  | m :: r, i => by
    rw [fnd]
    by_cases c : serB m.f0 s = true
    · rw [if_pos c]; exact Or.inr ⟨0, rfl, by simp⟩
    · rw [if_neg c]
      have e : ((i : Int) + 1) = ((i + 1 : Nat) : Int) := by omega
      rw [e]
      rcases fnd_rng s r (i + 1) with h | ⟨j, h1, h2⟩
      · exact Or.inl h
      · exact Or.inr ⟨j + 1, by rw [h1]; omega, by simp; omega⟩
attribute [local go_sem high] eqA60
set_option maxHeartbeats 1600000 in
set_option maxRecDepth 100000 in
theorem find_lit (m : S62) (s : S60) (g : Nat) (w : World) (hg : w.heap[g]? = some (.cells #[.string s.f0, .int .i64 s.f1, .int .i64 s.f2, .int .i64 s.f3] 60 (0, 0))) :
    Calls Try.prog 67 #[.agg #[.string m.f0.f0, .int .i64 m.f0.f1, .int .i64 m.f0.f2, .int .i64 m.f0.f3, .int .i64 m.f1], .pointer (some ⟨g, 0, none⟩)] w fun e w' => e = .returned (.bool (serB m.f0 s)) ∧ Below w.heap.size w w' := by
  have hc0 : ∀ o, (w.alloc o).cell? ⟨g, 0, none⟩ = some (.string s.f0) := fun o => blk_cell (blk_alloc hg o) 0
  have hc1 : ∀ o, (w.alloc o).cell? ⟨g, 1, none⟩ = some (.int .i64 s.f1) := fun o => blk_cell (blk_alloc hg o) 1
  have hc2 : ∀ o, (w.alloc o).cell? ⟨g, 2, none⟩ = some (.int .i64 s.f2) := fun o => blk_cell (blk_alloc hg o) 2
  have hc3 : ∀ o, (w.alloc o).cell? ⟨g, 3, none⟩ = some (.int .i64 s.f3) := fun o => blk_cell (blk_alloc hg o) 3
  obtain ⟨b, hb⟩ : ∃ b, serB m.f0 s = b := ⟨_, rfl⟩
  have hb' := hb
  unfold serB at hb'
  rw [hb]
  go_enter Try.func67, Try.ntmps67
  go_wp2
  go_ret
  exact ⟨by first | rfl | (simp; done) | (simp [*]; done), (Below.refl _ _).alloc (Nat.le_refl _) _⟩
set_option maxHeartbeats 1600000 in
set_option maxRecDepth 100000 in
theorem index_calls (A : Option Addr) (c : Nat) (l : List S62) (s : S60) (g : Nat) (w : World) (hr : Kd.C k62 w A l.length l) (hg : w.heap[g]? = some (.cells #[.string s.f0, .int .i64 s.f1, .int .i64 s.f2, .int .i64 s.f3] 60 (0, 0))) :
    Calls Try.prog 66 #[.slice A l.length c, .func (.func 67) #[] #[.pointer (some ⟨g, 0, none⟩)]] w fun e w' => e = .returned (.int .i64 (fnd s l 0)) ∧ Below w.heap.size w w' := by
  have HR := Aside0.mk hr
  have HG := Aside0.mk hg
  have hlen := (show l.length ≤ 9223372036854775807 from Kd.C_max hr)
  clear hr hg
  go_enter Try.func66, Try.ntmps66
  go_wp2_with fail
  go_loopg [8] l.length (fun kq v8 wr => ∃ i : Nat, v8 = .int .i64 (i : Int) ∧ Aside0 (kq + i = l.length) ∧ Aside0 (fnd s (l.drop i) i = fnd s l 0) ∧ Aside0 (Below w.heap.size w wr))
  case atStart => exact ⟨0, rfl, ⟨by omega⟩, ⟨rfl⟩, ⟨Below.refl _ _⟩⟩
  case round =>
    obtain ⟨i, rfl, HK, HF, HB2⟩ := hrel
    by_cases hlt : i < l.length
    · have hti : rd_T62 l (i : Int) = l[i] := by simp [rd_T62, hlt]
      obtain ⟨ad, ea, hx0, hx1, hx2, hx3, hx4⟩ := at_T62 HR.out (i : Int) (by omega) (by omega)
      cases ea
      rw [Int.toNat_natCast] at hx0 hx1 hx2 hx3 hx4
      replace hx0 := (HB2.out.cell (World.block_lt_of_cell? w _ hx0)).trans hx0
      replace hx1 := (HB2.out.cell (World.block_lt_of_cell? w _ hx1)).trans hx1
      replace hx2 := (HB2.out.cell (World.block_lt_of_cell? w _ hx2)).trans hx2
      replace hx3 := (HB2.out.cell (World.block_lt_of_cell? w _ hx3)).trans hx3
      replace hx4 := (HB2.out.cell (World.block_lt_of_cell? w _ hx4)).trans hx4
      rw [hti] at hx0 hx1 hx2 hx3 hx4
      have hf := HF.out
      rw [(List.getElem_cons_drop hlt).symm, fnd] at hf
      generalize l[i] = t at hx0 hx1 hx2 hx3 hx4 hf
      clear hti HF
      cases hb : serB t.f0 s with
      | true =>
        rw [hb, if_pos rfl] at hf
        have HBB := Aside0.mk hb
        have HF := Aside0.mk hf
        clear hb hf
        go_wp2_with (go_at_call 67; refine (find_lit t s g _ (blk_below HG.out HB2.out)).mono ?_; rw [HBB.out]; rintro e1 w1 ⟨rfl, hb1⟩; have HB3 := Aside0.mk (below_step HB2.out hb1); clear hb1)
        go_ret
        exact ⟨by rw [← HF.out]; rfl, HB3.out⟩
      | false =>
        rw [hb, if_neg (by decide)] at hf
        have HBB := Aside0.mk hb
        have e1 : ((i : Int) + 1) = ((i + 1 : Nat) : Int) := by omega
        rw [e1] at hf
        have HF := Aside0.mk hf
        clear hb hf e1
        go_wp2_with (go_at_call 67; refine (find_lit t s g _ (blk_below HG.out HB2.out)).mono ?_; rw [HBB.out]; rintro e1 w1 ⟨rfl, hb1⟩; have HB3 := Aside0.mk (below_step HB2.out hb1); clear hb1)
        go_roundg (gk - 1)
        case measure => have := HK.out; omega
        case rel => exact ⟨i + 1, by go_num, ⟨by have := HK.out; omega⟩, HF, HB3⟩
    · have hf := HF.out
      rw [List.drop_of_length_le (by omega), fnd] at hf
      have HF := Aside0.mk hf
      clear hf
      go_wp2_with fail
      go_ret
      exact ⟨by rw [← HF.out]; rfl, HB2.out⟩
def mark_Find.f (l : List S62) (s0 : ByteArray) (s1 s2 s3 : Int) : Option (Int × Bool) := if fnd ⟨s0, s1, s2, s3⟩ l 0 < 0 then some (0, false) else some ((rd_T62 l (fnd ⟨s0, s1, s2, s3⟩ l 0)).f1, true)
set_option maxHeartbeats 1600000 in
set_option maxRecDepth 100000 in
theorem mark_Find.calls (A0 : Option Addr) (c0 : Nat) (l0 : List S62) (a1_0 : ByteArray) (a1_1 a1_2 a1_3 : Int) (r1 : Int) (r2 : Bool) (w : World) (hr0 : Kd.C k62 w A0 l0.length l0) (hc0 : l0.length ≤ c0) (h : mark_Find.f l0 a1_0 a1_1 a1_2 a1_3 = some (r1, r2)) :
    Calls Try.prog 31 #[.slice A0 l0.length c0, .agg #[.string a1_0, .int .i64 a1_1, .int .i64 a1_2, .int .i64 a1_3]] w fun e w' => e = .returned (.tuple #[.int .i64 r1, .bool r2]) ∧ Below w.heap.size w w' := by
  unfold mark_Find.f at h
  have HR := Aside0.mk hr0
  have HB2 := Aside0.mk (Below.refl w.heap.size w)
  have HBA := Aside0.mk ((Below.refl w.heap.size w).alloc (Nat.le_refl _) (.cells #[.string a1_0, .int .i64 a1_1, .int .i64 a1_2, .int .i64 a1_3] 60))
  clear hr0
  rcases fnd_rng ⟨a1_0, a1_1, a1_2, a1_3⟩ l0 0 with hn | ⟨j, hj, hjl⟩
  · rw [show ((0 : Nat) : Int) = 0 from rfl] at hn
    rw [hn, if_pos (by decide)] at h
    obtain ⟨rfl, rfl⟩ : 0 = r1 ∧ false = r2 := by simpa using h
    have HN := Aside0.mk hn
    clear h hn
    go_enter Try.func31, Try.ntmps31
    go_wp2_with (go_at_call 66; refine (index_calls _ _ l0 ⟨a1_0, a1_1, a1_2, a1_3⟩ w.heap.size _ (Kd.C_alloc HR.out _) (blk_new w _)).mono ?_; rw [HN.out]; rintro e1 w1 ⟨rfl, hb1⟩; have HB3 := Aside0.mk (below_step HBA.out hb1); clear hb1)
    go_ret2
    exact ⟨by first | rfl | (simp; done) | (simp [*]; done), HB3.out⟩
  · rw [show ((0 : Nat) : Int) = 0 from rfl, Nat.zero_add] at hj
    have hti : rd_T62 l0 (j : Int) = l0[j] := by simp [rd_T62, hjl]
    rw [hj, if_neg (by omega), hti] at h
    obtain ⟨rfl, rfl⟩ : l0[j].f1 = r1 ∧ true = r2 := by simpa using h
    have HN := Aside0.mk hj
    obtain ⟨ad, ea, hx0, hx1, hx2, hx3, hx4⟩ := at_T62 HR.out (j : Int) (by omega) (by omega)
    cases ea
    rw [Int.toNat_natCast, hti] at hx4
    have HX4 := Aside0.mk hx4
    have hjn : (j : Int) < (l0.length : Int) := by omega
    generalize l0[j].f1 = z at HX4
    clear h hj hti hx0 hx1 hx2 hx3 hx4
    go_enter Try.func31, Try.ntmps31
    go_wp2_with (go_at_call 66; refine (index_calls _ _ l0 ⟨a1_0, a1_1, a1_2, a1_3⟩ w.heap.size _ (Kd.C_alloc HR.out _) (blk_new w _)).mono ?_; rw [HN.out]; rintro e1 w1 ⟨rfl, hb1⟩; have HB3 := Aside0.mk (below_step HBA.out hb1); have hx := (HB3.out.cell (World.block_lt_of_cell? w _ HX4.out)).trans HX4.out; clear hb1)
    go_ret2
    exact ⟨by first | rfl | (simp; done) | (simp [*]; done), HB3.out⟩
end Go.Proofs.Ytocndpddghefhaa.X
end
section
namespace Go.Proofs.Ytocndpddghefhaa.X
open Go.RowKit Go.Proofs.YtocndpddghefhaaW.PrintWords Go.Proofs.YtocndpddghefhaaW.PrintLast Go.Proofs.YtocndpddghefhaaW.PrintMore
attribute [local go_sem] max2_int min2_int max_two min_two max_three min_three max_four min_four
set_option linter.unusedVariables false
set_option linter.unusedSimpArgs false
def api_Mark_63.f (l : List S62) : Option (List S62) := if l.length < 137438953472 then some l else none
set_option maxHeartbeats 1600000 in
set_option maxRecDepth 100000 in
theorem api_Mark_63.calls (A0 : Option Addr) (c0 : Nat) (l0 : List S62) (r : List S62) (w : World) (hr0 : Kd.C k62 w A0 l0.length l0) (hc0 : l0.length ≤ c0) (h : api_Mark_63.f l0 = some r) :
    Calls Try.prog 63 #[.slice A0 l0.length c0] w fun e w' => ∃ v0_ : Value, e = .returned (v0_) ∧ Kd.R k62 62 w' w.heap.size (fun _ => True) v0_ r ∧ Below w.heap.size w w' := by
  unfold api_Mark_63.f at h
  by_cases hlim : l0.length < 137438953472
  case neg => rw [if_neg hlim] at h; exact absurd h (by simp)
  case pos =>
    rw [if_pos hlim] at h
    obtain rfl := Option.some.inj h
    have HR := Aside0.mk hr0
    have HL := Aside0.mk hlim
    clear h hlim hr0
    cases A0 with
    | none =>
      have hnil := fun W => Lib.run_eql_slice_nil (P := Try.prog) W 58 62 none 0 c0 0 0 Try.underlying58
      have h0 : l0 = [] := by
        by_cases hp : 0 < l0.length
        · obtain ⟨a, ha, _⟩ := HR.out.2.2 hp
          cases ha
        · exact List.length_eq_zero_iff.1 (by omega)
      subst h0
      go_enter Try.func63, Try.ntmps63
      go_wp2
      go_ret
      exact ⟨_, rfl, Kd.R_nil _ _ _ _ _, Below.refl _ _⟩
    | some ad =>
      have hnil := fun W => Lib.run_eql_slice_nil (P := Try.prog) W 58 62 (some ad) l0.length c0 0 0 Try.underlying58
      go_enter Try.func63, Try.ntmps63
      go_wp2_with (first
        | ((with_reducible refine gate_dst (N := 5) rfl ?_); (try (refine gate_guard (by rfl) ?_; dsimp only)); refine Kd.R_lit k62 _ 62 ?hg (N := 5) ?hd (xs := ([] : List S62)) (inner := []) (ok := fun _ => True) (okp := fun _ => True) ?hr ?hp (fun _ hk => hk) trivial (Below.refl _ _) (Nat.le_refl _) (by simp) ?_; (case hd => rfl); (case hg => rfl); (case hr => first | (go_simp; done) | (go_simp; rfl)); (case hp => exact (Reps.none _ _)); intro v1 w1 ho hb hg_ hnew_; clear hg_ hnew_; have HO := Aside0.mk ho; have HB := Aside0.mk hb; clear ho hb)
        | ((with_reducible refine gate_builtin (b := .append) (xs := #[.tmp 5, .tmp 6]) rfl ?_); at_builtin; refine Kd.R_append_rows k62 (w0 := w) w.heap.size rfl (.tmp 5) (.tmp 6) 58 62 _ _ rfl Try.underlying58 info62 rfl (by decide) (by omega) v1 ([] : List S62) l0 _ _ _ (fun _ => True) (fun _ => False) rfl rfl ?aO ?aR (fun _ _ h => h) (fun _ h => h.elim) (fun _ _ => trivial) ?aB ?aS ?aL ?_; (case aO => exact HO.out); (case aR => exact (Kd.C_below HR.out HB.out)); (case aB => exact HB.out); (case aS => exact (below_size HB.out)); (case aL => have := HL.out; simp; omega); intro v2 w2 ho hb hg hat; have HO2 := Aside0.mk ho; have HB2 := Aside0.mk hb; clear ho hb hg hat))
      go_ret
      exact ⟨_, rfl, by simpa using HO2.out, HB2.out⟩
end Go.Proofs.Ytocndpddghefhaa.X
end
section
namespace Go.Proofs.Ytocndpddghefhaa.X
open Go.RowKit Go.Proofs.YtocndpddghefhaaW.PrintWords
theorem run_copy_rows {P : Program} (w : World) (dT sT ty elem : TypeId) (g o dLen dCap : Nat) (a : Addr) (sLen sCap sz : Nat) (cur : Array Value) (t : TypeId) (cs : List Value)
    (hu : P.underlying dT = some (.slice elem)) (hs : (P.info? elem).map (·.size) = some sz)
    (hg : w.heap[g]? = some (.cells cur t (0, 0))) (hn : cs.length = Nat.min sLen dLen * sz)
    (hsrc : ∀ j v, cs[j]? = some v → w.cell? (a.add j) = some v) (hfit : o + cs.length ≤ cur.size) (h1 : ∀ v ∈ cs, v.oneCell' = true) :
    (Builtin.copy_ #[dT, sT] ty #[.slice (some ⟨g, o, none⟩) dLen dCap, .slice (some a) sLen sCap]).run P w =
      .ok (goInt (Nat.min sLen dLen)) (w.setRow g (cur.toList.take o ++ cs ++ cur.toList.drop (o + cs.length)).toArray) := by
  have hl := run_loadCells_list (P := P) w a cs hsrc
  have hst := run_storeCells_at P g o t cs 0 cur w hg (by simpa using hfit) h1
  cases hq : P.info? elem with
  | none => simp [hq] at hs
  | some i =>
    have hi : i.size = sz := by simpa [hq] using hs
    rw [hn] at hl
    simp [Builtin.copy_, run_underlying hu, Builtin.lenOf, Builtin.firstCells, sizeOf, typeInfo, hq, hi, hl, hst]
theorem R_cap {α : Type} (d : Kd α) {e base : Nat} {w : World} {ok : Nat → Prop} {A : Option Addr} {n c : Nat} {xs : List α} (h : d.R e w base ok (.slice A n c) xs) : c ≤ 9223372036854775807 := by
  obtain ⟨_, inner, ⟨_, h2⟩, _⟩ := h
  rcases h2 with ⟨he, _⟩ | ⟨g, cap, cur, he, _, _, _, hc, _⟩
  · injection he with _ _ h3; omega
  · injection he with _ _ h3; unfold maxLen at hc; omega
theorem below_drew {B : Nat} {w0 w : World} (h : Below B w0 w) : Below B w0 w.drew := ⟨h.os, h.tape, h.output, h.size, h.block⟩
theorem kept_setRow {w W : World} {S : Nat → Prop} (h : Kept w W S) {g : Nat} (hg : S g ∨ w.heap.size ≤ g) (cs : Array Value) : Kept w (W.setRow g cs) S :=
  ⟨by rw [setRow_size]; exact h.1, fun i hi hn => by
    rw [setRow_other W g i cs (by
      rintro rfl
      rcases hg with hg | hg
      · exact hn hg
      · omega)]
    exact h.2 i hi hn⟩
theorem read_apart {α : Type} (d : Kd α) (hs : 0 < d.sz) {w : World} {S : Nat → Prop} {ad : Addr} {x : α} (h : ∀ W', Kept w W' S → d.C W' (some ad) 1 [x]) {g : Nat} {cur : Array Value} {t : TypeId} (hg : w.heap[g]? = some (.cells cur t (0, 0))) (hS : S g) : ad.block ≠ g := by
  rintro rfl
  obtain ⟨_, _, h3⟩ := h (w.setRow ad.block #[]) (kept_setRow (Kept.refl _ _) (.inl hS) _)
  obtain ⟨ad', he, h4⟩ := h3 (by omega)
  obtain ⟨c, hc, _, hcell⟩ := h4 0 x rfl
  injection he with he
  subst he
  have h0 := hcell 0 (c[0]'(by omega)) (List.getElem?_eq_getElem (by omega))
  have e : ((ad.add (0 * d.sz + 0)) : Addr).block = ad.block := by unfold Addr.add; split <;> rfl
  unfold World.cell? at h0
  rw [e, setRow_heap w ad.block cur #[] t _ hg] at h0
  simp at h0
theorem run_overlaps_row {P : Program} (w : World) (tS tR e : TypeId) (ht : P.underlying tS = some (.slice e)) (size : Nat) (hz : ∀ w, (Go.sizeOf e).run P w = .ok size w)
    (a : Addr) (g o la ca lb cb : Nat) (cur : Array Value) (t : TypeId) (v : Value) (hne : a.block ≠ g) (ha : w.cell? a = some v) (hg : w.heap[g]? = some (.cells cur t (0, 0))) (hc : 0 < cur.size) :
    (Extern.SlicesOverlaps.overlaps #[tS, tS] #[tR] #[.slice (some a) la ca, .slice (some ⟨g, o, none⟩) lb cb]).run P w = .ok (.bool false) w := by
  have hnb : (a.block != g) = true := by simpa using hne
  have hnb' : (a.block == g) = false := by simpa using hne
  have hsb : w.shape? g = some (t, cur.size) := by simp [World.shape?, hg]
  have hfb : ∀ k, w.frozen? ⟨g, k, none⟩ = false := fun k => by simp [World.frozen?, hg]
  obtain ⟨tA, kA, hsa⟩ : ∃ tA kA, w.shape? a.block = some (tA, kA + 1) := by
    unfold World.cell? at ha
    split at ha
    · rename_i c el fr hh
      split at ha
      · cases ha
      · have hlt : a.off < c.size := (Array.getElem?_eq_some_iff.1 ha).1
        exact ⟨el, c.size - 1, by simp [World.shape?, hh]; omega⟩
    · cases ha
  obtain ⟨kB, hkB⟩ : ∃ kB, cur.size = kB + 1 := ⟨cur.size - 1, by omega⟩
  rw [hkB] at hsb
  have hb : ∀ {β γ : Type} (x : Sem β) (f : β → Sem γ), Sem.bind x f = x >>= f := fun _ _ => rfl
  conv => lhs; arg 2; whnf
  by_cases h0 : la = 0 ∨ lb = 0 ∨ size = 0
  · simp [Sem.run, hb, ht, hz, h0]
  · simp [Sem.run, hb, ht, hz, h0, hnb, hnb', frozen, noView, viewAt, mayBeOne, stringish, shape, hsa, hsb, hfb]
section
variable {α : Type} (d : Kd α) (hE : d.E = [])
include hE
theorem M_any {w w1 : World} {base : Nat} {ok ok' : Nat → Prop} {x : α} {cs : List Value} (h : d.M w base ok x cs) : d.M w1 base ok' x cs := by
  have h1 : d.M w base (fun _ => False) x cs := d.M_mono (fun k hk => by
    obtain ⟨_, _, _, q, hq, _⟩ := hk
    rw [hE] at hq
    simp at hq) (d.M_bound h)
  exact d.M_mono (fun k hk => hk.elim) (d.M_move (fun k hk => hk.elim) h1)
theorem R_row {e base : Nat} {W w0 : World} {ok ok0 : Nat → Prop} (g cap : Nat) (cur : Array Value) (ys : List α) (inner : List Value) (hg : W.heap[g]? = some (.cells cur e (0, 0))) (hb : base ≤ g) (ho : ok g)
    (hn : ys.length ≤ cap) (hc : cap ≤ maxLen) (hs : cur.size = cap * d.sz) (ht : cur.toList.take (ys.length * d.sz) = inner) (hr : Reps (d.M w0 base ok0) d.sz ys inner) : d.R e W base ok (.slice (some ⟨g, 0, none⟩) ys.length cap) ys :=
  ⟨fun k hk => by
    have : g = k := by simpa [Value.ownBlock] using hk
    exact this ▸ ho, inner, ⟨hr.1, .inr ⟨g, cap, cur, rfl, hb, hg, hn, hc, hs, ht⟩⟩, hr.imp_ (fun _ _ hp => M_any d hE hp)⟩
end
theorem R_row_open {α : Type} (d : Kd α) {e base : Nat} {w : World} {ok : Nat → Prop} {v : Value} {xs : List α} (h : d.R e w base ok v xs) (hn : 0 < xs.length) :
    ∃ g cap cur, v = .slice (some ⟨g, 0, none⟩) xs.length cap ∧ base ≤ g ∧ ok g ∧ w.heap[g]? = some (.cells cur e (0, 0)) ∧ xs.length ≤ cap ∧ cap ≤ maxLen ∧ cur.size = cap * d.sz ∧ Reps (d.M w base (fun _ => True)) d.sz xs (cur.toList.take (xs.length * d.sz)) := by
  obtain ⟨h0, inner, ⟨h1, h2⟩, hr⟩ := h
  rcases h2 with ⟨_, he⟩ | ⟨g, cap, cur, rfl, hb, hg, hnc, hc, hs, ht⟩
  · omega
  · exact ⟨g, cap, cur, rfl, hb, h0 g (by simp [Value.ownBlock]), hg, hnc, hc, hs, by rw [ht]; exact hr.imp_ (fun _ _ hp => d.M_mono (fun _ _ => trivial) hp)⟩
theorem C_one {α : Type} (d : Kd α) {w : World} {A : Option Addr} {x : α} (h : d.C w A 1 [x]) : ∃ ad vcs, A = some ad ∧ vcs.length = d.sz ∧ d.K w x vcs ∧ ∀ i u, vcs[i]? = some u → w.cell? (ad.add i) = some u := by
  obtain ⟨_, _, h3⟩ := h
  obtain ⟨ad, rfl, h4⟩ := h3 (by omega)
  obtain ⟨c, hc, hR, hcell⟩ := h4 0 x rfl
  exact ⟨ad, c, rfl, hc, hR, fun i u hi => by have := hcell i u hi; rwa [Nat.zero_mul, Nat.zero_add] at this⟩
theorem reps_single {α : Type} {R : α → List Value → Prop} {size : Nat} {x : α} {c : List Value} (h : R x c) (hc : c.length = size) : Reps R size [x] c := by
  have := (Reps.none R size).snoc h hc
  simpa using this
theorem reps_ins {α : Type} {R : α → List Value → Prop} {size i : Nat} {xs : List α} {x : α} {inner vcs : List Value} (h : Reps R size xs inner) (hi : i ≤ xs.length) (hx : R x vcs) (hc : vcs.length = size) :
    Reps R size (xs.take i ++ [x] ++ xs.drop i) (inner.take (i * size) ++ vcs ++ inner.drop (i * size)) :=
  Kd.reps_append (Kd.reps_append (Kd.reps_take h hi) (reps_single hx hc)) (Kd.reps_drop h)
theorem ins_cells (cur inner vcs : List Value) (n i sz cap : Nat) (hi : i < n) (hn : n + 1 ≤ cap) (hl : cur.length = cap * sz) (hin : cur.take (n * sz) = inner) (hv : vcs.length = sz) :
    let cs := inner.drop (i * sz)
    let c1 := cur.take ((i + 1) * sz) ++ cs ++ cur.drop ((i + 1) * sz + cs.length)
    let c2 := c1.take (i * sz) ++ vcs ++ c1.drop (i * sz + vcs.length)
    cs.length = (n - i) * sz ∧ (i + 1) * sz + cs.length = (n + 1) * sz ∧ (n + 1) * sz ≤ cur.length ∧ c1.length = cur.length ∧ c2.length = cur.length ∧ c2.take ((n + 1) * sz) = inner.take (i * sz) ++ vcs ++ cs := by
  intro cs c1 c2
  have hm : ∀ {a b : Nat}, a ≤ b → a * sz ≤ b * sz := fun h => Nat.mul_le_mul_right _ h
  have e1 : (i + 1) * sz = i * sz + sz := by rw [Nat.add_mul, Nat.one_mul]
  have e2 : (n + 1) * sz = n * sz + sz := by rw [Nat.add_mul, Nat.one_mul]
  have e3 : (n - i) * sz = n * sz - i * sz := Nat.mul_sub_right_distrib n i sz
  have h1 := hm (show i ≤ n by omega)
  have h2 := hm hn
  have hil : inner.length = n * sz := by rw [← hin, List.length_take, hl]; omega
  have hcs : cs.length = (n - i) * sz := by show (inner.drop (i * sz)).length = _; rw [List.length_drop, hil, e3]
  have a1 : (i + 1) * sz + cs.length = (n + 1) * sz := by rw [hcs, e1, e2, e3]; omega
  have a2 : (n + 1) * sz ≤ cur.length := by rw [hl]; exact h2
  have b1 : (i + 1) * sz ≤ cur.length := by omega
  have l1 : c1.length = cur.length := by
    show (cur.take ((i + 1) * sz) ++ inner.drop (i * sz) ++ cur.drop ((i + 1) * sz + (inner.drop (i * sz)).length)).length = _
    simp only [List.length_append, List.length_take, List.length_drop, hil]
    omega
  have b2 : i * sz ≤ cur.length := by omega
  have t1 : c1.take (i * sz) = inner.take (i * sz) := by
    show (cur.take ((i + 1) * sz) ++ cs ++ cur.drop ((i + 1) * sz + cs.length)).take (i * sz) = _
    rw [List.append_assoc, List.take_append_of_le_length (by rw [List.length_take]; omega), List.take_take, ← hin, List.take_take]
    congr 1
    omega
  have t2 : c1.drop (i * sz + vcs.length) = cs ++ cur.drop ((i + 1) * sz + cs.length) := by
    show (cur.take ((i + 1) * sz) ++ cs ++ cur.drop ((i + 1) * sz + cs.length)).drop (i * sz + vcs.length) = _
    rw [hv, ← e1, List.append_assoc, List.drop_append_of_le_length (by rw [List.length_take]; omega), List.drop_of_length_le (by rw [List.length_take]; omega), List.nil_append]
  have c2e : c2 = inner.take (i * sz) ++ vcs ++ (cs ++ cur.drop ((i + 1) * sz + cs.length)) := by
    show c1.take (i * sz) ++ vcs ++ c1.drop (i * sz + vcs.length) = _
    rw [t1, t2]
  refine ⟨hcs, a1, a2, l1, ?_, ?_⟩
  · rw [c2e]
    simp only [List.length_append, List.length_take, List.length_drop, hil, hv]
    omega
  · rw [c2e, ← List.append_assoc, List.take_append_of_le_length (by simp only [List.length_append, List.length_take, hil, hv]; omega), List.take_of_length_le (by simp only [List.length_append, List.length_take, hil, hv]; omega)]
theorem ins_new (inner vcs Z : List Value) (n i sz cap : Nat) (hi : i < n) (hn : n + 1 ≤ cap) (hil : inner.length = n * sz) (hl : (inner.take (i * sz) ++ Z).length = cap * sz) (hv : vcs.length = sz) :
    let c0 := inner.take (i * sz) ++ Z
    let c1 := c0.take (i * sz) ++ vcs ++ c0.drop (i * sz + vcs.length)
    let cs := inner.drop (i * sz)
    let c2 := c1.take ((i + 1) * sz) ++ cs ++ c1.drop ((i + 1) * sz + cs.length)
    cs.length = (n - i) * sz ∧ i * sz + vcs.length ≤ c0.length ∧ (i + 1) * sz + cs.length = (n + 1) * sz ∧ (n + 1) * sz ≤ c1.length ∧ c1.length = c0.length ∧ c2.length = c0.length ∧ c2.take ((n + 1) * sz) = inner.take (i * sz) ++ vcs ++ cs := by
  intro c0 c1 cs c2
  have hm : ∀ {a b : Nat}, a ≤ b → a * sz ≤ b * sz := fun h => Nat.mul_le_mul_right _ h
  have e1 : (i + 1) * sz = i * sz + sz := by rw [Nat.add_mul, Nat.one_mul]
  have e2 : (n + 1) * sz = n * sz + sz := by rw [Nat.add_mul, Nat.one_mul]
  have e3 : (n - i) * sz = n * sz - i * sz := Nat.mul_sub_right_distrib n i sz
  have h1 := hm (show i ≤ n by omega)
  have h3 := hm (show i + 1 ≤ n by omega)
  have h2 := hm hn
  have hcs : cs.length = (n - i) * sz := by show (inner.drop (i * sz)).length = _; rw [List.length_drop, hil, e3]
  have a1 : (i + 1) * sz + cs.length = (n + 1) * sz := by rw [hcs, e1, e2, e3]; omega
  have l0 : c0.length = cap * sz := hl
  have a0 : i * sz + vcs.length ≤ c0.length := by omega
  have ht : (inner.take (i * sz)).length = i * sz := by rw [List.length_take]; omega
  have t0 : c0.take (i * sz) = inner.take (i * sz) := by
    show (inner.take (i * sz) ++ Z).take (i * sz) = _
    rw [List.take_append_of_le_length (by omega), List.take_of_length_le (by omega)]
  have l1 : c1.length = c0.length := by
    show (c0.take (i * sz) ++ vcs ++ c0.drop (i * sz + vcs.length)).length = _
    rw [List.length_append, List.length_append, List.length_take, List.length_drop]; omega
  have t1 : c1.take ((i + 1) * sz) = inner.take (i * sz) ++ vcs := by
    show (c0.take (i * sz) ++ vcs ++ c0.drop (i * sz + vcs.length)).take ((i + 1) * sz) = _
    rw [t0, List.take_append_of_le_length (by rw [List.length_append]; omega), List.take_of_length_le (by rw [List.length_append]; omega)]
  refine ⟨hcs, a0, a1, by omega, l1, ?_, ?_⟩
  · show (c1.take ((i + 1) * sz) ++ inner.drop (i * sz) ++ c1.drop ((i + 1) * sz + (inner.drop (i * sz)).length)).length = _
    simp only [List.length_append, List.length_take, List.length_drop, hil]
    omega
  · show (c1.take ((i + 1) * sz) ++ cs ++ c1.drop ((i + 1) * sz + cs.length)).take ((n + 1) * sz) = _
    rw [t1, List.take_append_of_le_length (by rw [List.length_append, List.length_append]; omega), List.take_of_length_le (by rw [List.length_append, List.length_append]; omega)]
section
variable {P : Program}
theorem sizeOf_of {e : TypeId} {sz : Nat} (hs : (P.info? e).map (·.size) = some sz) (w : World) : (Go.sizeOf e).run P w = .ok sz w := by
  cases hq : P.info? e with
  | none => simp [hq] at hs
  | some i =>
    have hi : i.size = sz := by simpa [hq] using hs
    simp [Go.sizeOf, typeInfo, hq, hi]
theorem add_block (a : Addr) (j : Nat) : (a.add j).block = a.block := by unfold Addr.add; split <;> rfl
theorem ins_room (t e : TypeId) (sz : Nat) (hu : P.underlying t = some (.slice e)) (hs : (P.info? e).map (·.size) = some sz) (_hs0 : 0 < sz)
    (g cap n i : Nat) (cur : Array Value) (inner : List Value) (ad : Addr) (c2 : Nat) (vcs : List Value) (w : World) (hi : i < n) (hroom : n + 1 ≤ cap)
    (hg : w.heap[g]? = some (.cells cur e (0, 0))) (hsz : cur.size = cap * sz) (hin : cur.toList.take (n * sz) = inner) (hione : ∀ u ∈ inner, u.oneCell' = true)
    (hvl : vcs.length = sz) (hvone : ∀ u ∈ vcs, u.oneCell' = true) (hvc : ∀ i u, vcs[i]? = some u → w.cell? (ad.add i) = some u) (hne : ad.block ≠ g) :
    ∃ d1 d2 : List Value,
      (∀ ty, (Builtin.copy_ #[t, t] ty #[.slice (some ⟨g, (i + 1) * sz, none⟩) (n - i) (cap - (i + 1)), .slice (some ⟨g, i * sz, none⟩) (n + 1 - i) (cap - i)]).run P w.drew = .ok (goInt (n - i : Nat)) (w.drew.setRow g d1.toArray)) ∧
      (∀ ty, (Builtin.copy_ #[t, t] ty #[.slice (some ⟨g, i * sz, none⟩) (n + 1 - i) (cap - i), .slice (some ad) 1 c2]).run P (w.drew.setRow g d1.toArray) = .ok (goInt (1 : Nat)) ((w.drew.setRow g d1.toArray).setRow g d2.toArray)) ∧
      d2.length = cur.size ∧ d2.take ((n + 1) * sz) = inner.take (i * sz) ++ vcs ++ inner.drop (i * sz) := by
  obtain ⟨k1, k2, k3, k4, k5, k6⟩ := ins_cells cur.toList inner vcs n i sz cap hi hroom (by simpa using hsz) hin hvl
  have hcl : cur.toList.length = cur.size := by simp
  have hil : inner.length = n * sz := by rw [← hin, List.length_take, hcl, hsz]; exact Nat.min_eq_left (Nat.mul_le_mul_right _ (by omega))
  have hw : w.drew.heap[g]? = some (.cells cur e (0, 0)) := hg
  have hcell : ∀ j v, (inner.drop (i * sz))[j]? = some v → w.drew.cell? ⟨g, i * sz + j, none⟩ = some v := by
    intro j v hj
    rw [List.getElem?_drop, ← hin, List.getElem?_take] at hj
    split at hj
    · simpa [World.cell?, hw] using hj
    · cases hj
  refine ⟨cur.toList.take ((i + 1) * sz) ++ inner.drop (i * sz) ++ cur.toList.drop ((i + 1) * sz + (inner.drop (i * sz)).length), _, fun ty => ?_, fun ty => ?_, k5.trans hcl, k6⟩
  · have h := run_copy_rows w.drew t t ty e g ((i + 1) * sz) (n - i) (cap - (i + 1)) ⟨g, i * sz, none⟩ (n + 1 - i) (cap - i) sz cur e (inner.drop (i * sz)) hu hs hw
      (by rw [k1, show Nat.min (n + 1 - i) (n - i) = n - i from Nat.min_eq_right (by omega)]) (fun j v hj => by rw [Addr.add_lit]; exact hcell j v hj) (by rw [k2, ← hcl]; exact k3) (fun v hv => hione v (List.mem_of_mem_drop hv))
    rw [show Nat.min (n + 1 - i) (n - i) = n - i from Nat.min_eq_right (by omega)] at h
    exact h
  · have h := run_copy_rows (w.drew.setRow g (cur.toList.take ((i + 1) * sz) ++ inner.drop (i * sz) ++ cur.toList.drop ((i + 1) * sz + (inner.drop (i * sz)).length)).toArray) t t ty e g (i * sz) (n + 1 - i) (cap - i) ad 1 c2 sz _ e vcs hu hs
      (setRow_heap w.drew g cur _ e _ hw) (by rw [hvl, show Nat.min 1 (n + 1 - i) = 1 from Nat.min_eq_left (by omega), Nat.one_mul])
      (fun j v hj => by rw [cell_setRow_other _ g _ _ (by rw [add_block]; exact hne)]; exact hvc j v hj)
      (by rw [List.size_toArray, k4, hvl]; have e1 : (i + 1) * sz = i * sz + sz := by rw [Nat.add_mul, Nat.one_mul]
          omega) hvone
    rw [show Nat.min 1 (n + 1 - i) = 1 from Nat.min_eq_left (by omega)] at h
    exact h
theorem ins_grow (t ti e : TypeId) (sz bytes : Nat) (z : Value) (hu : P.underlying t = some (.slice e)) (hti : P.underlying ti = some (.int .i64)) (hinfo : (P.info? e).map (fun i => (i.zero, i.size, i.bytes)) = some (some z, sz, bytes))
    (hzs : z.cells.size = sz) (hs0 : 0 < sz) (hb0 : 0 < bytes) (g cap n i : Nat) (cur : Array Value) (inner : List Value) (ad : Addr) (c2 : Nat) (vcs : List Value) (w : World) (hi : i < n) (hncap : n ≤ cap) (hroom : cap < n + 1) (hbig : (n + 1) * bytes ≤ 140737488355328)
    (hg : w.heap[g]? = some (.cells cur e (0, 0))) (hsz : cur.size = cap * sz) (hin : cur.toList.take (n * sz) = inner) (hione : ∀ u ∈ inner, u.oneCell' = true)
    (hvl : vcs.length = sz) (hvone : ∀ u ∈ vcs, u.oneCell' = true) (hvc : ∀ i u, vcs[i]? = some u → w.cell? (ad.add i) = some u) :
    ∃ (G : Nat) (W1 : World) (d1 d2 : List Value), n + 1 ≤ G ∧ G ≤ maxLen ∧ Below w.heap.size w W1 ∧ (∃ d0, W1.heap[w.heap.size]? = some (.cells d0 e (0, 0))) ∧
      (∀ ty, (Builtin.append_ #[t, ti] ty #[.slice (some ⟨g, 0, none⟩) i cap, .int .i64 ((n : Int) + 1 - i)]).run P w = .ok (.slice (some ⟨w.heap.size, 0, none⟩) (n + 1) G) W1) ∧
      (∀ ty, (Builtin.copy_ #[t, t] ty #[.slice (some ⟨w.heap.size, i * sz, none⟩) (n + 1 - i) (G - i), .slice (some ad) 1 c2]).run P W1 = .ok (goInt (1 : Nat)) (W1.setRow w.heap.size d1.toArray)) ∧
      (∀ ty, (Builtin.copy_ #[t, t] ty #[.slice (some ⟨w.heap.size, (i + 1) * sz, none⟩) (n - i) (G - (i + 1)), .slice (some ⟨g, i * sz, none⟩) (n - i) (cap - i)]).run P (W1.setRow w.heap.size d1.toArray).drew = .ok (goInt (n - i : Nat)) ((W1.setRow w.heap.size d1.toArray).drew.setRow w.heap.size d2.toArray)) ∧
      d2.length = G * sz ∧ d2.take ((n + 1) * sz) = inner.take (i * sz) ++ vcs ++ inner.drop (i * sz) := by
  obtain ⟨i0, hi0, hzz⟩ := Option.map_eq_some_iff.1 hinfo
  simp only [Prod.mk.injEq] at hzz
  obtain ⟨hz0, hz1, hz2⟩ := hzz
  have hs : (P.info? e).map (·.size) = some sz := by rw [hi0]; simp [hz1]
  have hcl : cur.toList.length = cur.size := by simp
  have hil : inner.length = n * sz := by rw [← hin, List.length_take, hcl, hsz]; exact Nat.min_eq_left (Nat.mul_le_mul_right _ hncap)
  have hle : n + 1 ≤ 140737488355328 := Nat.le_trans (Nat.le_mul_of_pos_right _ hb0) hbig
  have hgl : g < w.heap.size := (Array.getElem?_eq_some_iff.1 hg).1
  have hcell : ∀ j v, inner[j]? = some v → w.cell? ⟨g, j, none⟩ = some v := by
    intro j v hj
    rw [← hin, List.getElem?_take] at hj
    split at hj
    · simpa [World.cell?, hg] using hj
    · cases hj
  have hold : (Builtin.firstCells i0.size i (.slice (some ⟨g, 0, none⟩) i cap)).run P w.drew = .ok (inner.take (i * sz)).toArray w.drew := by
    rw [hz1]
    exact run_firstCells_some (P := P) w.drew sz i ⟨g, 0, none⟩ i cap (inner.take (i * sz)) (by rw [List.length_take, hil]; exact Nat.min_eq_left (Nat.mul_le_mul_right _ (by omega))) (fun j v hj => by
      rw [Addr.add_lit, Nat.zero_add]
      rw [List.getElem?_take] at hj
      split at hj
      · exact hcell j v hj
      · cases hj)
  have hkk : (n : Int) + 1 - (i : Int) = ((n + 1 - i : Nat) : Int) := by omega
  have hik : i + (n + 1 - i) = n + 1 := by omega
  have hgr := fun ty => Lib.run_append_grow_zeros (P := P) w t ti ty e i0 z .i64 .i64 hu hti hi0 hz0 (some ⟨g, 0, none⟩) i cap (inner.take (i * sz)) hold (n + 1 - i) (by omega) (by omega) (by omega) (by omega) (by rw [hz2]; exact Nat.le_trans (Nat.mul_le_mul_right bytes (show n + 1 - i ≤ n + 1 by omega)) (by omega)) (by rw [hz2, hik]; exact growslice_fits hroom hbig)
  rw [hik] at hgr
  obtain ⟨G, hG⟩ : ∃ G, G = grownCap w (n + 1) cap e := ⟨_, rfl⟩
  have hGn : n + 1 ≤ G := by rw [hG]; exact grownCap_ge w _ _ _
  have hG63 : G ≤ maxLen := by rw [hG]; exact grownCap_le_maxLen w (n + 1) cap e (by unfold maxLen; omega)
  rw [← hG] at hgr
  obtain ⟨Z, hZ⟩ : ∃ Z, Z = (Builtin.zeroCells z.cells (n + 1 - i)).toList ++ (Builtin.zeroCells z.cells (G - (n + 1))).toList := ⟨_, rfl⟩
  have hrow : (inner.take (i * sz)).toArray ++ Builtin.zeroCells z.cells (n + 1 - i) ++ Builtin.zeroCells z.cells (G - (n + 1)) = (inner.take (i * sz) ++ Z).toArray := by
    rw [hZ]; apply Array.toList_inj.1; simp
  rw [hrow] at hgr
  have hlen : (inner.take (i * sz) ++ Z).length = G * sz := by
    rw [List.length_append, List.length_take, hil, Nat.min_eq_left (Nat.mul_le_mul_right _ (show i ≤ n by omega)), hZ, List.length_append, Array.length_toList, Array.length_toList, size_zeroCells, size_zeroCells, hzs, ← Nat.add_mul, ← Nat.add_mul]
    congr 1; omega
  obtain ⟨k1, k2, k3, k4, k5, k6, k7⟩ := ins_new inner vcs Z n i sz G hi hGn hil hlen hvl
  have hnew : (w.drew.alloc (.cells (inner.take (i * sz) ++ Z).toArray e)).heap[w.heap.size]? = some (.cells (inner.take (i * sz) ++ Z).toArray e (0, 0)) := heap_alloc_new w.drew _
  have hbel : Below w.heap.size w (w.drew.alloc (.cells (inner.take (i * sz) ++ Z).toArray e)) := ⟨rfl, rfl, rfl, by simp, fun k hk => heap_alloc_old w.drew _ hk⟩
  have hcellW : ∀ a v, w.cell? a = some v → (w.drew.alloc (.cells (inner.take (i * sz) ++ Z).toArray e)).cell? a = some v := by
    intro a v ha
    have hlt : a.block < w.heap.size := block_lt_of_cell ha
    unfold World.cell? at ha ⊢
    rw [hbel.block _ hlt]
    exact ha
  refine ⟨G, w.drew.alloc (.cells (inner.take (i * sz) ++ Z).toArray e), (inner.take (i * sz) ++ Z).take (i * sz) ++ vcs ++ (inner.take (i * sz) ++ Z).drop (i * sz + vcs.length), _, hGn, hG63, hbel, ⟨_, hnew⟩, fun ty => by rw [hkk]; exact hgr ty, fun ty => ?_, fun ty => ?_, by rw [k6, hlen], k7⟩
  · have h := run_copy_rows (w.drew.alloc (.cells (inner.take (i * sz) ++ Z).toArray e)) t t ty e w.heap.size (i * sz) (n + 1 - i) (G - i) ad 1 c2 sz _ e vcs hu hs hnew (by rw [hvl, show Nat.min 1 (n + 1 - i) = 1 from Nat.min_eq_left (by omega), Nat.one_mul])
      (fun j v hj => hcellW _ v (hvc j v hj)) (by rw [List.size_toArray]; exact k2) hvone
    rw [show Nat.min 1 (n + 1 - i) = 1 from Nat.min_eq_left (by omega)] at h
    exact h
  · have hne : g ≠ w.heap.size := by omega
    have h := run_copy_rows ((w.drew.alloc (.cells (inner.take (i * sz) ++ Z).toArray e)).setRow w.heap.size ((inner.take (i * sz) ++ Z).take (i * sz) ++ vcs ++ (inner.take (i * sz) ++ Z).drop (i * sz + vcs.length)).toArray).drew t t ty e w.heap.size ((i + 1) * sz) (n - i) (G - (i + 1)) ⟨g, i * sz, none⟩ (n - i) (cap - i) sz _ e (inner.drop (i * sz)) hu hs
      (setRow_heap _ w.heap.size _ _ e _ hnew) (by rw [k1, show Nat.min (n - i) (n - i) = n - i from Nat.min_self _])
      (fun j v hj => by
        rw [Addr.add_lit]
        rw [List.getElem?_drop] at hj
        have := hcellW _ v (hcell _ v hj)
        rw [← this]
        exact cell_setRow_other _ w.heap.size _ ⟨g, i * sz + j, none⟩ hne) (by rw [List.size_toArray, k3]; exact k4) (fun v hv => hione v (List.mem_of_mem_drop hv))
    rw [show Nat.min (n - i) (n - i) = n - i from Nat.min_self _] at h
    exact h
end
end Go.Proofs.Ytocndpddghefhaa.X
end
section
namespace Go.Proofs.Ytocndpddghefhaa.X
open Go.RowKit Go.Proofs.YtocndpddghefhaaW.PrintWords Go.Proofs.YtocndpddghefhaaW.PrintLast Go.Proofs.YtocndpddghefhaaW.PrintMore
attribute [local go_sem] max2_int min2_int max_two min_two max_three min_three max_four min_four
set_option linter.unusedVariables false
set_option linter.unusedSimpArgs false
def api_Mark_64.f (l : List S62) (i : Int) (v : List S62) : Option (List S62) := if 0 ≤ i ∧ i ≤ (l.length : Int) ∧ l.length < 137438953471 ∧ v.length = 1 then some (l.take i.toNat ++ v ++ l.drop i.toNat) else none
set_option maxHeartbeats 1600000 in
set_option maxRecDepth 100000 in
theorem api_Mark_64.end_ (P0_ : Nat → Prop) (u9000_ : Value) (l0 : List S62) (A2 : Option Addr) (c2 : Nat) (l2 : List S62) (w0 w : World) (hB : Below w0.heap.size w0 w) (ho0 : Kd.R k62 62 w w0.heap.size P0_ u9000_ l0) (hr2 : ∀ W', Kept w W' (fun k_ => P0_ k_) → Kd.C k62 W' A2 l2.length l2) (hc2 : l2.length ≤ c2) (hlim : l0.length < 137438953471) (hv1 : l2.length = 1) :
    Calls Try.prog 64 #[u9000_, .int .i64 (l0.length : Int), .slice A2 l2.length c2] w fun e w' => ∃ v0_ : Value, e = .returned (v0_) ∧ Kd.R k62 62 w' w0.heap.size (fun k_ => (P0_ k_ ∨ w.heap.size ≤ k_)) v0_ (l0 ++ l2) ∧ Below w0.heap.size w0 w' ∧ Kept w w' (fun k_ => P0_ k_) := by
  obtain ⟨A0, c0, rfl⟩ := Kd.R_slice ho0
  have HO := Aside0.mk (Kd.R_mono ho0 (ok' := fun k_ => P0_ k_ ∨ w.heap.size ≤ k_) (fun k hk => .inl hk))
  have hblk : ∀ k, (Value.slice A0 l0.length c0).ownBlock = some k → P0_ k := ho0.1
  have HR := Aside0.mk hr2
  have HB := Aside0.mk hB
  have HV := Aside0.mk hblk
  have hle : l0.length ≤ c0 := by
    obtain ⟨A, c, he, hl, _⟩ := Kd.R_reads ho0
    injection he with _ _ h3
    omega
  have h64 := R_cap k62 ho0
  clear hr2 hB ho0 hblk
  have hm : ¬ ((l2.length : Int) = 0) := by omega
  go_enter Try.func64, Try.ntmps64
  go_wp2_with (first
    | ((with_reducible refine gate_builtin (b := .append) (xs := #[.tmp 23, .tmp 24]) rfl ?_); at_builtin; refine Kd.R_append_rows k62 (w0 := w0) w0.heap.size rfl (.tmp 23) (.tmp 24) 58 62 _ _ rfl Try.underlying58 info62 rfl (by decide) (by omega) _ l0 l2 _ _ _ (fun k_ => P0_ k_ ∨ w.heap.size ≤ k_) (fun _ => False) rfl rfl ?aO ?aR (fun _ _ h => h) (fun _ h => h.elim) (fun _ hk => .inr hk) ?aB ?aS ?aL ?_; (case aO => exact HO.out); (case aR => exact (HR.out _ (Kept.refl _ _))); (case aB => exact HB.out); (case aS => exact (below_size HB.out)); (case aL => have := hlim; simp; omega); intro v2 w2 ho hb hg hat; have HO2 := Aside0.mk ho; have HB2 := Aside0.mk hb; have HG2 := Aside0.mk hg; clear ho hb hg hat))
  all_goals go_ret
  all_goals exact ⟨_, rfl, HO2.out, HB2.out, Kept.of_grown HG2.out (Kept.refl _ _) (fun k hk => .inl (HV.out k hk))⟩
set_option maxHeartbeats 1600000 in
set_option maxRecDepth 100000 in
theorem api_Mark_64.room (g cap n i : Nat) (cur : Array Value) (inner : List Value) (ad : Addr) (c2 : Nat) (vcs : List Value) (w : World) (hi : i < n) (hroom : n + 1 ≤ cap) (hcap : cap ≤ 9223372036854775807)
    (hg : w.heap[g]? = some (.cells cur 62 (0, 0))) (hsz : cur.size = cap * 5) (hin : cur.toList.take (n * 5) = inner) (hione : ∀ u ∈ inner, u.oneCell' = true)
    (hvl : vcs.length = 5) (hvone : ∀ u ∈ vcs, u.oneCell' = true) (hvc : ∀ i u, vcs[i]? = some u → w.cell? (ad.add i) = some u) (hne : ad.block ≠ g) (h2 : 1 ≤ c2) :
    Calls Try.prog 64 #[.slice (some ⟨g, 0, none⟩) n cap, .int .i64 (i : Int), .slice (some ad) 1 c2] w fun e w' => e = .returned (.slice (some ⟨g, 0, none⟩) (n + 1) cap) ∧ ∃ cs : List Value, w' = w.drew.setRow g cs.toArray ∧ cs.length = cap * 5 ∧ cs.take ((n + 1) * 5) = inner.take (i * 5) ++ vcs ++ inner.drop (i * 5) := by
  have hs : (Try.prog.info? 62).map (·.size) = some 5 := by kernel_rfl
  obtain ⟨d1, d2, hc1, hc2, K5, K6⟩ := ins_room (P := Try.prog) 58 62 5 Try.underlying58 hs (by omega) g cap n i cur inner ad c2 vcs w hi hroom hg hsz hin hione hvl hvone hvc hne
  have hc1 := hc1 3
  have hc2 := hc2 3
  have K5 := Aside0.mk (K5.trans hsz)
  have K6 := Aside0.mk K6
  obtain ⟨v0, hv0⟩ : ∃ v, w.cell? ad = some v := ⟨vcs[0]'(by omega), by have := hvc 0 _ (List.getElem?_eq_getElem (by omega)); rwa [show ad.add 0 = ad from by unfold Addr.add; split <;> simp_all] at this⟩
  have hov : ∀ o lb cb, (callFunc 95 #[.slice (some ad) 1 c2, .slice (some ⟨g, o, none⟩) lb cb]).run Try.prog w = .ok (.value (.bool false)) w := fun o lb cb => by
    rw [run_callFunc_extern Try.func95 (by kernel_rfl) (by kernel_rfl) (by kernel_rfl) (e := Extern.SlicesOverlaps.overlaps #[58, 58] #[4]) (by kernel_rfl),
      run_overlaps_row w 58 4 62 Try.underlying58 5 (sizeOf_of hs) ad g o 1 c2 lb cb cur 62 v0 hne hv0 hg (by omega)]
    rfl
  clear hsz hin hione hvl hvone hvc hg hv0 hs
  have hw1 : IntKind.i64.wrap ((i : Int) + 1) = (i : Int) + 1 := by rw [IntKind.wrap_i64]; omega
  have hz2 : ¬ ((i : Int) = (n : Int)) := by omega
  have hb1 : (0 : Int) ≤ (i : Int) + 1 := by omega
  have hin' : i ≤ n := by omega
  have htn : ((i : Int) + 1).toNat = i + 1 := by omega
  have hb2 : ¬ (cap = i + 1) := by omega
  have hb3 : (i : Int) ≤ (n : Int) + 1 := by omega
  have hb4 : ¬ (cap = i) := by omega
  go_enter Try.func64, Try.ntmps64
  go_wp2_with (simp only [hov])
  go_region
  go_wp2
  go_ret
  exact ⟨rfl, d2, by rw [setRow_setRow], K5.out, K6.out⟩
set_option maxHeartbeats 1600000 in
set_option maxRecDepth 100000 in
theorem api_Mark_64.grow (g cap n i : Nat) (cur : Array Value) (inner : List Value) (ad : Addr) (c2 : Nat) (vcs : List Value) (w : World) (hi : i < n) (hncap : n ≤ cap) (hroom : cap < n + 1) (hlim : n < 137438953471)
    (hg : w.heap[g]? = some (.cells cur 62 (0, 0))) (hsz : cur.size = cap * 5) (hin : cur.toList.take (n * 5) = inner) (hione : ∀ u ∈ inner, u.oneCell' = true)
    (hvl : vcs.length = 5) (hvone : ∀ u ∈ vcs, u.oneCell' = true) (hvc : ∀ i u, vcs[i]? = some u → w.cell? (ad.add i) = some u) (h2 : 1 ≤ c2) :
    Calls Try.prog 64 #[.slice (some ⟨g, 0, none⟩) n cap, .int .i64 (i : Int), .slice (some ad) 1 c2] w fun e w' => ∃ G, e = .returned (.slice (some ⟨w.heap.size, 0, none⟩) (n + 1) G) ∧ n + 1 ≤ G ∧ G ≤ maxLen ∧ Below w.heap.size w w' ∧ ∃ cs : List Value, w'.heap[w.heap.size]? = some (.cells cs.toArray 62 (0, 0)) ∧ cs.length = G * 5 ∧ cs.take ((n + 1) * 5) = inner.take (i * 5) ++ vcs ++ inner.drop (i * 5) := by
  obtain ⟨G, W1, d1, d2, hGn, hG63, HB, HN, ha, hc1, hc2, K5, K6⟩ := ins_grow (P := Try.prog) 58 3 62 5 _ _ Try.underlying58 (by kernel_rfl) info62 rfl (by omega) (by omega) g cap n i cur inner ad c2 vcs w hi hncap hroom (by omega) hg hsz hin hione hvl hvone hvc
  have ha := ha 58
  have hc1 := hc1 3
  have hc2 := hc2 3
  have K5 := Aside0.mk K5
  have K6 := Aside0.mk K6
  have HB := Aside0.mk HB
  have HN := Aside0.mk HN
  have HG := Aside0.mk hG63
  have hG' : G ≤ 9223372036854775807 := hG63
  obtain ⟨H, hH⟩ : ∃ H, H = w.heap.size := ⟨_, rfl⟩
  rw [← hH] at HB HN ha hc1 hc2 ⊢
  clear hsz hin hione hvl hvone hvc hg hG63 hH
  have hw1 : IntKind.i64.wrap ((i : Int) + 1) = (i : Int) + 1 := by rw [IntKind.wrap_i64]; omega
  have hz2 : ¬ ((i : Int) = (n : Int)) := by omega
  have hb1 : (0 : Int) ≤ (i : Int) + 1 := by omega
  have hin' : i ≤ n := by omega
  have htn : ((i : Int) + 1).toNat = i + 1 := by omega
  have hb2 : ¬ (G = i + 1) := by omega
  have hb3 : (i : Int) ≤ (n : Int) + 1 := by omega
  have hb4 : ¬ (G = i) := by omega
  have hb5 : ¬ (cap = i) := by omega
  have hz3 : (cap : Int) < (n : Int) + 1 := by omega
  go_enter Try.func64, Try.ntmps64
  go_wp2_with (at_builtin; refine Lib.wpList_append_run _ rfl _ _ _ _ rfl _ _ rfl rfl _ _ ha ?_)
  go_region
  go_wp2
  go_ret
  obtain ⟨d0, hd0⟩ := HN.out
  refine ⟨G, rfl, hGn, HG.out, ?_, d2, setRow_heap _ H d1.toArray _ 62 _ (setRow_heap _ H d0 _ 62 _ hd0), K5.out, K6.out⟩
  exact below_setRow (below_drew (below_setRow HB.out (Nat.le_refl _) _)) (Nat.le_refl _) _
theorem api_Mark_64.calls (P0_ : Nat → Prop) (u9000_ : Value) (l0 : List S62) (a1 : Int) (A2 : Option Addr) (c2 : Nat) (l2 : List S62) (r : List S62) (w0 w : World) (hB : Below w0.heap.size w0 w) (ho0 : Kd.R k62 62 w w0.heap.size P0_ u9000_ l0) (hr2 : ∀ W', Kept w W' (fun k_ => P0_ k_) → Kd.C k62 W' A2 l2.length l2) (hc2 : l2.length ≤ c2) (h : api_Mark_64.f l0 a1 l2 = some r) :
    Calls Try.prog 64 #[u9000_, .int .i64 a1, .slice A2 l2.length c2] w fun e w' => ∃ v0_ : Value, e = .returned (v0_) ∧ Kd.R k62 62 w' w0.heap.size (fun k_ => (P0_ k_ ∨ w.heap.size ≤ k_)) v0_ r ∧ Below w0.heap.size w0 w' ∧ Kept w w' (fun k_ => P0_ k_) := by
  unfold api_Mark_64.f at h
  by_cases hc : 0 ≤ a1 ∧ a1 ≤ (l0.length : Int) ∧ l0.length < 137438953471 ∧ l2.length = 1
  case neg => rw [if_neg hc] at h; exact absurd h (by simp)
  case pos =>
    rw [if_pos hc] at h
    obtain rfl := Option.some.inj h
    obtain ⟨h1, h2, h3, h4⟩ := hc
    obtain ⟨i, rfl⟩ := Int.eq_ofNat_of_zero_le h1
    by_cases he : i = l0.length
    · subst he
      have e : l0.take (l0.length : Int).toNat ++ l2 ++ l0.drop (l0.length : Int).toNat = l0 ++ l2 := by simp
      rw [e]
      exact api_Mark_64.end_ P0_ u9000_ l0 A2 c2 l2 w0 w hB ho0 hr2 hc2 h3 h4
    · obtain ⟨x, rfl⟩ := List.length_eq_one_iff.1 h4
      obtain ⟨ad, vcs, rfl, hvl, hvK, hvc⟩ := C_one k62 (hr2 w (Kept.refl _ _))
      obtain ⟨g, cap, cur, rfl, hbg, hok, hg, hnc, hcm, hsz, hrep⟩ := R_row_open k62 ho0 (by omega)
      have hM : k62.M w w0.heap.size (fun _ => True) x vcs := hvK
      have hione := Kd.reps_one hrep (by decide) (fun _ _ hp => k62.K_one (k62.K_of_M hp))
      have hcm' : cap ≤ 9223372036854775807 := hcm
      have hreps := reps_ins hrep (i := i) (by omega) hM hvl
      have hlen : (l0.take i ++ [x] ++ l0.drop i).length = l0.length + 1 := by simp; omega
      rw [show ((i : Nat) : Int).toNat = i from Int.toNat_natCast i]
      by_cases hroom : l0.length + 1 ≤ cap
      · have hne := read_apart k62 (by decide) hr2 hg hok
        refine (api_Mark_64.room g cap l0.length i cur _ ad c2 vcs w (by omega) hroom hcm' hg hsz rfl hione hvl (k62.K_one hvK) hvc hne hc2).mono ?_
        rintro e w' ⟨rfl, cs, rfl, hcl, hct⟩
        refine ⟨_, rfl, ?_, ?_, ?_⟩
        · have := R_row k62 rfl (e := 62) (base := w0.heap.size) (W := w.drew.setRow g cs.toArray) (ok := fun k_ => (P0_ k_ ∨ w.heap.size ≤ k_)) g cap cs.toArray (l0.take i ++ [x] ++ l0.drop i) _ (setRow_heap w.drew g cur _ 62 _ hg) hbg (.inl hok) (by omega) hcm (by rw [List.size_toArray]; exact hcl) (by rw [hlen]; exact hct) hreps
          rw [hlen] at this
          exact this
        · exact below_setRow (below_drew hB) hbg _
        · exact kept_setRow (Kept.refl w _) (.inl hok) _
      · refine (api_Mark_64.grow g cap l0.length i cur _ ad c2 vcs w (by omega) hnc (by omega) h3 hg hsz rfl hione hvl (k62.K_one hvK) hvc hc2).mono ?_
        rintro e w' ⟨G, rfl, hGn, hG, hbel, cs, hnew, hcl, hct⟩
        refine ⟨_, rfl, ?_, hB.trans (hbel.mono hB.size), Kept.of_below hbel _⟩
        have := R_row k62 rfl (e := 62) (base := w0.heap.size) (W := w') (ok := fun k_ => (P0_ k_ ∨ w.heap.size ≤ k_)) w.heap.size G cs.toArray (l0.take i ++ [x] ++ l0.drop i) _ hnew hB.size (.inr (Nat.le_refl _)) (by omega) hG (by rw [List.size_toArray]; exact hcl) (by rw [hlen]; exact hct) hreps
        rw [hlen] at this
        exact this
end Go.Proofs.Ytocndpddghefhaa.X
end
section
namespace Go.Proofs.Ytocndpddghefhaa.X
open Go.RowKit Go.Proofs.YtocndpddghefhaaW.PrintWords Go.Proofs.YtocndpddghefhaaW.PrintLast Go.Proofs.YtocndpddghefhaaW.PrintMore
attribute [local go_sem] max2_int min2_int max_two min_two max_three min_three max_four min_four
set_option linter.unusedVariables false
set_option linter.unusedSimpArgs false
def cmpM (a b : S60) : Int := (series_Compare.f a.f0 a.f1 a.f2 a.f3 b.f0 b.f1 b.f2 b.f3).getD 0
theorem cmpM_some (a b : S60) : series_Compare.f a.f0 a.f1 a.f2 a.f3 b.f0 b.f1 b.f2 b.f3 = some (cmpM a b) := by
  have h : ∃ v, series_Compare.f a.f0 a.f1 a.f2 a.f3 b.f0 b.f1 b.f2 b.f3 = some v := by
    unfold series_Compare.f cmp_Compare_int.f cmp_Compare_string.f cmp_isNaN_int.f cmp_isNaN_string.f
    simp only [bne_self_eq_false, Option.bind_some, Bool.false_eq_true, if_false]
    repeat' split
    all_goals exact ⟨_, rfl⟩
  obtain ⟨v, e⟩ := h
  unfold cmpM
  rw [e]; rfl
theorem goesvM_ {P : Program} {ops : Array Oper} {Q : Exit → Act → World → Prop} {oi : Oper} {N : Option Tmp} {a : Act} {w : World} {K : Act → World → Prop} {f : FuncId} {fn : Func} {o : Operand} {ar : Array Operand} {ts : Array TypeId} (hf : P.funcs[f]? = some fn) (hname : (fn.name == "runtime.NumGoroutine") = false) (hb : fn.body.isSome = true) (args : Array Value)
    (hw : Region.wanted oi (yielded ops a.tmps) = true) (hN : oi.dst = N) (hop : oi.op = .call { callee := .value o, args := ar, argTypes := ts }) (ho : a.eval o = .func (.func f) #[] #[]) (hargs : ar.map a.eval = args)
    (h : Calls P f args w fun e w' => ∃ v, e = .returned v ∧ K (a.put N v) w') : if Region.wanted oi (yielded ops a.tmps) = true then Oper.wp P oi a w K Q else K (a.put N undef) w := by
  refine call_ f args hw hN ?_ h
  have he := enters_ hf hname hb args w
  unfold execOp
  simp [hop, resolve, Deferred.ofValue, invoke, ho, hargs, he]
set_option maxHeartbeats 1600000 in
set_option maxRecDepth 100000 in
theorem put_lit (m : S62) (s : S60) (r : Int) (w : World) (h : series_Compare.f m.f0.f0 m.f0.f1 m.f0.f2 m.f0.f3 s.f0 s.f1 s.f2 s.f3 = some r) : Calls Try.prog 61 #[.agg #[.string m.f0.f0, .int .i64 m.f0.f1, .int .i64 m.f0.f2, .int .i64 m.f0.f3, .int .i64 m.f1], .agg #[.string s.f0, .int .i64 s.f1, .int .i64 s.f2, .int .i64 s.f3]] w fun e w' => e = .returned (.int .i64 r) ∧ Below w.heap.size w w' := by
  have H := Aside0.mk h
  clear h
  go_enter Try.func61, Try.ntmps61
  go_wp2_with (go_at_call 62; refine (series_Compare.calls _ _ _ _ _ _ _ _ r _ H.out).mono ?_; rintro e1 w1 ⟨rfl, hb1⟩; have HB := Aside0.mk hb1; clear hb1)
  go_ret
  exact ⟨rfl, (((Below.refl w.heap.size w).alloc (Nat.le_refl _) _).alloc (by simp) _).trans (HB.out.mono (by simp; omega))⟩
def bsM (l : List S62) (s : S60) : Nat → Nat → Nat → Nat
  | 0, lo, _ => lo
  | k + 1, lo, hi => if lo < hi then (if cmpM (rd_T62 l (((lo + hi) / 2 : Nat) : Int)).f0 s < 0 then bsM l s k ((lo + hi) / 2 + 1) hi else bsM l s k lo ((lo + hi) / 2)) else lo
def markAt (l : List S62) (s : S60) : Nat := bsM l s l.length 0 l.length
def markIs (l : List S62) (s : S60) : Bool := decide (markAt l s < l.length) && (cmpM (rd_T62 l (markAt l s : Int)).f0 s == 0)
theorem bsM_le (l : List S62) (s : S60) : ∀ (k lo hi : Nat), lo ≤ hi → lo ≤ bsM l s k lo hi ∧ bsM l s k lo hi ≤ hi
  | 0, lo, hi, h => ⟨Nat.le_refl _, h⟩
  | k + 1, lo, hi, h => by
    unfold bsM
    by_cases c : lo < hi
    · rw [if_pos c]
      by_cases c2 : cmpM (rd_T62 l (((lo + hi) / 2 : Nat) : Int)).f0 s < 0
      · rw [if_pos c2]
        have := bsM_le l s k ((lo + hi) / 2 + 1) hi (by omega)
        omega
      · rw [if_neg c2]
        have := bsM_le l s k lo ((lo + hi) / 2) (by omega)
        omega
    · rw [if_neg c]; omega
set_option maxHeartbeats 4000000 in
set_option maxRecDepth 100000 in
theorem bsM_calls (A : Option Addr) (c : Nat) (l : List S62) (s : S60) (w : World) (hr : Kd.C k62 w A l.length l) (hl2 : l.length ≤ 4611686018427387903) :
    Calls Try.prog 60 #[.slice A l.length c, .agg #[.string s.f0, .int .i64 s.f1, .int .i64 s.f2, .int .i64 s.f3], .func (.func 61) #[] #[]] w fun e w' => e = .returned (.tuple #[.int .i64 (markAt l s : Int), .bool (markIs l s)]) ∧ Below w.heap.size w w' := by
  have HR := Aside0.mk hr
  have hlen := (show l.length ≤ 9223372036854775807 from Kd.C_max hr)
  clear hr
  go_enter Try.func60, Try.ntmps60
  go_wp2_with fail
  go_loopg [9, 10] l.length (fun kq v9 v10 wr => ∃ lo hi : Nat, v9 = .int .i64 (lo : Int) ∧ v10 = .int .i64 (hi : Int) ∧ Aside0 (lo ≤ hi ∧ hi ≤ l.length ∧ hi - lo ≤ kq) ∧ Aside0 (bsM l s kq lo hi = markAt l s) ∧ Aside0 (Below w.heap.size w wr) ∧ Aside0 (wr.heap[w.heap.size]? = some (.cells #[.string s.f0, .int .i64 s.f1, .int .i64 s.f2, .int .i64 s.f3] 60 (0, 0))))
  case atStart => exact ⟨0, l.length, rfl, rfl, ⟨by omega, by omega, by omega⟩, ⟨rfl⟩, ⟨(Below.refl _ _).alloc (Nat.le_refl _) _⟩, ⟨blk_new w _⟩⟩
  case round =>
    obtain ⟨lo, hi, rfl, rfl, HI, HF, HB2, HG2⟩ := hrel
    obtain ⟨i1, i2, i3⟩ := HI.out
    have hs0 : wr.cell? ⟨w.heap.size, 0, none⟩ = some (.string s.f0) := blk_cell HG2.out 0
    have hs1 : wr.cell? ⟨w.heap.size, 1, none⟩ = some (.int .i64 s.f1) := blk_cell HG2.out 1
    have hs2 : wr.cell? ⟨w.heap.size, 2, none⟩ = some (.int .i64 s.f2) := blk_cell HG2.out 2
    have hs3 : wr.cell? ⟨w.heap.size, 3, none⟩ = some (.int .i64 s.f3) := blk_cell HG2.out 3
    by_cases hlt : lo < hi
    · obtain ⟨mid, hm⟩ : ∃ mid, (lo + hi) / 2 = mid := ⟨_, rfl⟩
      have hlo : mid < l.length := by omega
      have hmw : wrap64 ((IntKind.u64.wrap (wrap64 ((lo : Int) + (hi : Int)))) / 2) = (mid : Int) := by
        simp only [IntKind.wrap, IntKind.signed, IntKind.bits, wrap64]
        simp
        omega
      obtain ⟨ad, ea, hx0, hx1, hx2, hx3, hx4⟩ := at_T62 HR.out (mid : Int) (by omega) (by omega)
      cases ea
      rw [Int.toNat_natCast] at hx0 hx1 hx2 hx3 hx4
      replace hx0 := (HB2.out.cell (World.block_lt_of_cell? w _ hx0)).trans hx0
      replace hx1 := (HB2.out.cell (World.block_lt_of_cell? w _ hx1)).trans hx1
      replace hx2 := (HB2.out.cell (World.block_lt_of_cell? w _ hx2)).trans hx2
      replace hx3 := (HB2.out.cell (World.block_lt_of_cell? w _ hx3)).trans hx3
      replace hx4 := (HB2.out.cell (World.block_lt_of_cell? w _ hx4)).trans hx4
      obtain ⟨t, ht⟩ : ∃ t, rd_T62 l (mid : Int) = t := ⟨_, rfl⟩
      rw [ht] at hx0 hx1 hx2 hx3 hx4
      obtain ⟨k', rfl⟩ : ∃ k', gk = k' + 1 := ⟨gk - 1, by omega⟩
      have hg := HF.out
      rw [bsM, if_pos hlt, hm, ht] at hg
      have hlm : lo ≤ mid := by omega
      have hmh : mid < hi := by omega
      have hmi : (mid : Int) < (l.length : Int) := by omega
      by_cases c : cmpM t.f0 s < 0
      · rw [if_pos c] at hg
        have HG4 := Aside0.mk hg
        have hcd := decide_eq_true c
        clear hg ht c
        have hmd : ((lo : Int) + (hi : Int)) / 2 = (mid : Int) := by omega
        go_wp2_with fail
        refine start_ (n := 8) (S := fun w' => w'.cell? (ad.add (mid * 5)) = some (.string t.f0.f0) ∧ w'.cell? ⟨(ad.add (mid * 5)).block, (ad.add (mid * 5)).off + 1, none⟩ = some (.int .i64 t.f0.f1) ∧ w'.cell? ⟨(ad.add (mid * 5)).block, (ad.add (mid * 5)).off + 2, none⟩ = some (.int .i64 t.f0.f2) ∧ w'.cell? ⟨(ad.add (mid * 5)).block, (ad.add (mid * 5)).off + 3, none⟩ = some (.int .i64 t.f0.f3) ∧ w'.cell? ⟨(ad.add (mid * 5)).block, (ad.add (mid * 5)).off + 4, none⟩ = some (.int .i64 t.f1) ∧ w'.cell? ⟨w.heap.size, 0, none⟩ = some (.string s.f0) ∧ w'.cell? ⟨w.heap.size, 1, none⟩ = some (.int .i64 s.f1) ∧ w'.cell? ⟨w.heap.size, 2, none⟩ = some (.int .i64 s.f2) ∧ w'.cell? ⟨w.heap.size, 3, none⟩ = some (.int .i64 s.f3)) (ds := [6]) #[false, false, false, false, false, false, false, false] (by kernel_rfl) rfl rfl ⟨hx0, hx1, hx2, hx3, hx4, hs0, hs1, hs2, hs3⟩ (fun hHeld => ?_)
        obtain ⟨E, hE⟩ : ∃ E, wr.drew = E := ⟨_, rfl⟩
        have HBE := Aside0.mk (show Below w.heap.size w E by rw [← hE]; exact below_drew1 HB2.out)
        have HGE := Aside0.mk (show E.heap[w.heap.size]? = some (.cells #[.string s.f0, .int .i64 s.f1, .int .i64 s.f2, .int .i64 s.f3] 60 (0, 0)) by rw [← hE]; exact HG2.out)
        rw [hE] at hHeld ⊢
        clear hE
        refine pure_ (i := 0) (N := some 24) (v := ?_) (a' := ?_) #[true, false, false, false, false, false, false, false] rfl rfl (by kernel_rfl) (fun _ _ _ h => h) (Or.inl ⟨by rfl, ?_⟩) ?_ ?_
        rotate_left
        · intro w'
          go_simp
          with_reducible rfl
        rotate_left
        · simp only [Act.put, List.setIfInBounds_toArray, List.set_cons_zero, List.set_cons_succ, i64_w, i32_w]
          rfl
        refine pure_ (i := 1) (N := some 25) (v := ?_) (a' := ?_) #[true, true, false, false, false, false, false, false] rfl rfl (by kernel_rfl) (fun _ _ _ h => h) (Or.inl ⟨by rfl, ?_⟩) ?_ ?_
        rotate_left
        · intro w'
          go_simp
          with_reducible rfl
        rotate_left
        · simp only [Act.put, List.setIfInBounds_toArray, List.set_cons_zero, List.set_cons_succ, i64_w, i32_w]
          rfl
        refine pure_ (i := 2) (N := some 26) (v := ?_) (a' := ?_) #[true, true, true, false, false, false, false, false] rfl rfl (by kernel_rfl) (fun _ _ _ h => h) (Or.inl ⟨by rfl, ?_⟩) ?_ ?_
        rotate_left
        · intro w'
          go_simp
          with_reducible rfl
        rotate_left
        · simp only [Act.put, List.setIfInBounds_toArray, List.set_cons_zero, List.set_cons_succ, i64_w, i32_w]
          rfl
        refine pure_ (i := 3) (N := some 27) (v := ?_) (a' := ?_) #[true, true, true, true, false, false, false, false] rfl rfl (by kernel_rfl) (fun _ _ _ h => h) (Or.inl ⟨by rfl, ?_⟩) ?_ ?_
        rotate_left
        · intro w'
          go_simp
          with_reducible rfl
        rotate_left
        · simp only [Act.put, List.setIfInBounds_toArray, List.set_cons_zero, List.set_cons_succ, i64_w, i32_w]
          rfl
        refine take_ (i := 4) (N := some 28) (v := ?_) (a' := ?_) #[true, true, true, true, true, false, false, false] rfl rfl (by kernel_rfl) (fun _ _ _ h => h) (Or.inl ⟨by rfl, ?_⟩) hHeld ?_ ?_
        rotate_left
        · rintro w' ⟨s0, s1, s2, s3, s4, s5, s6, s7, s8⟩
          go_simp
          with_reducible rfl
        rotate_left
        · simp only [Act.put, List.setIfInBounds_toArray, List.set_cons_zero, List.set_cons_succ, i64_w, i32_w]
          rfl
        refine take_ (i := 5) (N := some 29) (v := ?_) (a' := ?_) #[true, true, true, true, true, true, false, false] rfl rfl (by kernel_rfl) (fun _ _ _ h => h) (Or.inl ⟨by rfl, ?_⟩) hHeld ?_ ?_
        rotate_left
        · rintro w' ⟨s0, s1, s2, s3, s4, s5, s6, s7, s8⟩
          go_simp
          with_reducible rfl
        rotate_left
        · simp only [Act.put, List.setIfInBounds_toArray, List.set_cons_zero, List.set_cons_succ, i64_w, i32_w]
          rfl
        refine last_ (i := 6) (N := some 30) #[true, true, true, true, true, true, true, false] rfl rfl (by kernel_rfl) (by decide) (fun K hK => ?_)
        refine goesvM_ Try.func61 (by kernel_rfl) rfl #[.agg #[.string t.f0.f0, .int .i64 t.f0.f1, .int .i64 t.f0.f2, .int .i64 t.f0.f3, .int .i64 t.f1], .agg #[.string s.f0, .int .i64 s.f1, .int .i64 s.f2, .int .i64 s.f3]] (by rfl) rfl rfl rfl (by (try simp only [List.map_toArray, List.map_cons, List.map_nil]); first | done | rfl) ?_
        refine (put_lit t s (cmpM t.f0 s) _ (cmpM_some _ _)).mono ?_
        rintro e w3 ⟨rfl, hb3⟩
        refine ⟨_, rfl, ?_⟩
        have HB3 := Aside0.mk (below_step HBE.out hb3)
        have HG3 := Aside0.mk (blk_below HGE.out hb3)
        refine hK.out _ _ ?_
        clear hK K hb3
        refine norm_ (a' := ?_) ?_ ?_
        rotate_left
        · show Act.put _ (some 30) _ = _
          simp only [Act.put, List.setIfInBounds_toArray, List.set_cons_zero, List.set_cons_succ, i64_w, i32_w]
          rfl
        refine pure_ (i := 7) (N := some 31) (v := ?_) (a' := ?_) #[true, true, true, true, true, true, true, true] rfl rfl (by kernel_rfl) (fun _ _ _ h => h) (Or.inl ⟨by rfl, ?_⟩) ?_ ?_
        rotate_left
        · intro w'
          go_simp
          with_reducible rfl
        rotate_left
        · simp only [Act.put, List.setIfInBounds_toArray, List.set_cons_zero, List.set_cons_succ, i64_w, i32_w]
          rfl
        refine done_ (by kernel_rfl) ?_
        clear hHeld
        go_wp2
        go_roundg k'
        case measure => omega
        case rel => exact ⟨mid + 1, hi, by go_num, rfl, ⟨by omega, by omega, by omega⟩, HG4, HB3, HG3⟩
      · rw [if_neg c] at hg
        have HG4 := Aside0.mk hg
        have hcd := decide_eq_false c
        clear hg ht c
        have hmd : ((lo : Int) + (hi : Int)) / 2 = (mid : Int) := by omega
        go_wp2_with fail
        refine start_ (n := 8) (S := fun w' => w'.cell? (ad.add (mid * 5)) = some (.string t.f0.f0) ∧ w'.cell? ⟨(ad.add (mid * 5)).block, (ad.add (mid * 5)).off + 1, none⟩ = some (.int .i64 t.f0.f1) ∧ w'.cell? ⟨(ad.add (mid * 5)).block, (ad.add (mid * 5)).off + 2, none⟩ = some (.int .i64 t.f0.f2) ∧ w'.cell? ⟨(ad.add (mid * 5)).block, (ad.add (mid * 5)).off + 3, none⟩ = some (.int .i64 t.f0.f3) ∧ w'.cell? ⟨(ad.add (mid * 5)).block, (ad.add (mid * 5)).off + 4, none⟩ = some (.int .i64 t.f1) ∧ w'.cell? ⟨w.heap.size, 0, none⟩ = some (.string s.f0) ∧ w'.cell? ⟨w.heap.size, 1, none⟩ = some (.int .i64 s.f1) ∧ w'.cell? ⟨w.heap.size, 2, none⟩ = some (.int .i64 s.f2) ∧ w'.cell? ⟨w.heap.size, 3, none⟩ = some (.int .i64 s.f3)) (ds := [6]) #[false, false, false, false, false, false, false, false] (by kernel_rfl) rfl rfl ⟨hx0, hx1, hx2, hx3, hx4, hs0, hs1, hs2, hs3⟩ (fun hHeld => ?_)
        obtain ⟨E, hE⟩ : ∃ E, wr.drew = E := ⟨_, rfl⟩
        have HBE := Aside0.mk (show Below w.heap.size w E by rw [← hE]; exact below_drew1 HB2.out)
        have HGE := Aside0.mk (show E.heap[w.heap.size]? = some (.cells #[.string s.f0, .int .i64 s.f1, .int .i64 s.f2, .int .i64 s.f3] 60 (0, 0)) by rw [← hE]; exact HG2.out)
        rw [hE] at hHeld ⊢
        clear hE
        refine pure_ (i := 0) (N := some 24) (v := ?_) (a' := ?_) #[true, false, false, false, false, false, false, false] rfl rfl (by kernel_rfl) (fun _ _ _ h => h) (Or.inl ⟨by rfl, ?_⟩) ?_ ?_
        rotate_left
        · intro w'
          go_simp
          with_reducible rfl
        rotate_left
        · simp only [Act.put, List.setIfInBounds_toArray, List.set_cons_zero, List.set_cons_succ, i64_w, i32_w]
          rfl
        refine pure_ (i := 1) (N := some 25) (v := ?_) (a' := ?_) #[true, true, false, false, false, false, false, false] rfl rfl (by kernel_rfl) (fun _ _ _ h => h) (Or.inl ⟨by rfl, ?_⟩) ?_ ?_
        rotate_left
        · intro w'
          go_simp
          with_reducible rfl
        rotate_left
        · simp only [Act.put, List.setIfInBounds_toArray, List.set_cons_zero, List.set_cons_succ, i64_w, i32_w]
          rfl
        refine pure_ (i := 2) (N := some 26) (v := ?_) (a' := ?_) #[true, true, true, false, false, false, false, false] rfl rfl (by kernel_rfl) (fun _ _ _ h => h) (Or.inl ⟨by rfl, ?_⟩) ?_ ?_
        rotate_left
        · intro w'
          go_simp
          with_reducible rfl
        rotate_left
        · simp only [Act.put, List.setIfInBounds_toArray, List.set_cons_zero, List.set_cons_succ, i64_w, i32_w]
          rfl
        refine pure_ (i := 3) (N := some 27) (v := ?_) (a' := ?_) #[true, true, true, true, false, false, false, false] rfl rfl (by kernel_rfl) (fun _ _ _ h => h) (Or.inl ⟨by rfl, ?_⟩) ?_ ?_
        rotate_left
        · intro w'
          go_simp
          with_reducible rfl
        rotate_left
        · simp only [Act.put, List.setIfInBounds_toArray, List.set_cons_zero, List.set_cons_succ, i64_w, i32_w]
          rfl
        refine take_ (i := 4) (N := some 28) (v := ?_) (a' := ?_) #[true, true, true, true, true, false, false, false] rfl rfl (by kernel_rfl) (fun _ _ _ h => h) (Or.inl ⟨by rfl, ?_⟩) hHeld ?_ ?_
        rotate_left
        · rintro w' ⟨s0, s1, s2, s3, s4, s5, s6, s7, s8⟩
          go_simp
          with_reducible rfl
        rotate_left
        · simp only [Act.put, List.setIfInBounds_toArray, List.set_cons_zero, List.set_cons_succ, i64_w, i32_w]
          rfl
        refine take_ (i := 5) (N := some 29) (v := ?_) (a' := ?_) #[true, true, true, true, true, true, false, false] rfl rfl (by kernel_rfl) (fun _ _ _ h => h) (Or.inl ⟨by rfl, ?_⟩) hHeld ?_ ?_
        rotate_left
        · rintro w' ⟨s0, s1, s2, s3, s4, s5, s6, s7, s8⟩
          go_simp
          with_reducible rfl
        rotate_left
        · simp only [Act.put, List.setIfInBounds_toArray, List.set_cons_zero, List.set_cons_succ, i64_w, i32_w]
          rfl
        refine last_ (i := 6) (N := some 30) #[true, true, true, true, true, true, true, false] rfl rfl (by kernel_rfl) (by decide) (fun K hK => ?_)
        refine goesvM_ Try.func61 (by kernel_rfl) rfl #[.agg #[.string t.f0.f0, .int .i64 t.f0.f1, .int .i64 t.f0.f2, .int .i64 t.f0.f3, .int .i64 t.f1], .agg #[.string s.f0, .int .i64 s.f1, .int .i64 s.f2, .int .i64 s.f3]] (by rfl) rfl rfl rfl (by (try simp only [List.map_toArray, List.map_cons, List.map_nil]); first | done | rfl) ?_
        refine (put_lit t s (cmpM t.f0 s) _ (cmpM_some _ _)).mono ?_
        rintro e w3 ⟨rfl, hb3⟩
        refine ⟨_, rfl, ?_⟩
        have HB3 := Aside0.mk (below_step HBE.out hb3)
        have HG3 := Aside0.mk (blk_below HGE.out hb3)
        refine hK.out _ _ ?_
        clear hK K hb3
        refine norm_ (a' := ?_) ?_ ?_
        rotate_left
        · show Act.put _ (some 30) _ = _
          simp only [Act.put, List.setIfInBounds_toArray, List.set_cons_zero, List.set_cons_succ, i64_w, i32_w]
          rfl
        refine pure_ (i := 7) (N := some 31) (v := ?_) (a' := ?_) #[true, true, true, true, true, true, true, true] rfl rfl (by kernel_rfl) (fun _ _ _ h => h) (Or.inl ⟨by rfl, ?_⟩) ?_ ?_
        rotate_left
        · intro w'
          go_simp
          with_reducible rfl
        rotate_left
        · simp only [Act.put, List.setIfInBounds_toArray, List.set_cons_zero, List.set_cons_succ, i64_w, i32_w]
          rfl
        refine done_ (by kernel_rfl) ?_
        clear hHeld
        go_wp2
        go_roundg k'
        case measure => omega
        case rel => exact ⟨lo, mid, rfl, by go_num, ⟨by omega, by omega, by omega⟩, HG4, HB3, HG3⟩
    · have hat : markAt l s = lo := by
        have hg := HF.out
        cases gk with
        | zero => rw [← hg]; rfl
        | succ k' => rw [bsM, if_neg hlt] at hg; exact hg.symm
      have HAT := Aside0.mk hat
      clear hat
      by_cases hle : lo < l.length
      · obtain ⟨mid, rfl⟩ : ∃ mid, lo = mid := ⟨_, rfl⟩
        obtain ⟨ad, ea, hx0, hx1, hx2, hx3, hx4⟩ := at_T62 HR.out (lo : Int) (by omega) (by omega)
        cases ea
        rw [Int.toNat_natCast] at hx0 hx1 hx2 hx3 hx4
        replace hx0 := (HB2.out.cell (World.block_lt_of_cell? w _ hx0)).trans hx0
        replace hx1 := (HB2.out.cell (World.block_lt_of_cell? w _ hx1)).trans hx1
        replace hx2 := (HB2.out.cell (World.block_lt_of_cell? w _ hx2)).trans hx2
        replace hx3 := (HB2.out.cell (World.block_lt_of_cell? w _ hx3)).trans hx3
        replace hx4 := (HB2.out.cell (World.block_lt_of_cell? w _ hx4)).trans hx4
        have hIs : markIs l s = (cmpM (rd_T62 l (lo : Int)).f0 s == 0) := by
          unfold markIs
          rw [HAT.out, decide_eq_true hle, Bool.true_and]
        obtain ⟨t, ht⟩ : ∃ t, rd_T62 l (lo : Int) = t := ⟨_, rfl⟩
        rw [ht] at hx0 hx1 hx2 hx3 hx4 hIs
        have HIS := Aside0.mk hIs
        have hli : (lo : Int) < (l.length : Int) := by omega
        have hld := decide_eq_true hli
        have hb0 : (0 ≤ (lo : Int)) = True := eq_true (by omega)
        have hb1 : ((lo : Int) < (l.length : Int)) = True := eq_true (by omega)
        clear ht hIs
        go_wp2_with fail
        refine start_ (n := 16) (S := fun w' => w'.cell? (ad.add (lo * 5)) = some (.string t.f0.f0) ∧ w'.cell? ⟨(ad.add (lo * 5)).block, (ad.add (lo * 5)).off + 1, none⟩ = some (.int .i64 t.f0.f1) ∧ w'.cell? ⟨(ad.add (lo * 5)).block, (ad.add (lo * 5)).off + 2, none⟩ = some (.int .i64 t.f0.f2) ∧ w'.cell? ⟨(ad.add (lo * 5)).block, (ad.add (lo * 5)).off + 3, none⟩ = some (.int .i64 t.f0.f3) ∧ w'.cell? ⟨(ad.add (lo * 5)).block, (ad.add (lo * 5)).off + 4, none⟩ = some (.int .i64 t.f1) ∧ w'.cell? ⟨w.heap.size, 0, none⟩ = some (.string s.f0) ∧ w'.cell? ⟨w.heap.size, 1, none⟩ = some (.int .i64 s.f1) ∧ w'.cell? ⟨w.heap.size, 2, none⟩ = some (.int .i64 s.f2) ∧ w'.cell? ⟨w.heap.size, 3, none⟩ = some (.int .i64 s.f3)) (ds := [11]) #[false, false, false, false, false, false, false, false, false, false, false, false, false, false, false, false] (by kernel_rfl) rfl rfl ⟨hx0, hx1, hx2, hx3, hx4, hs0, hs1, hs2, hs3⟩ (fun hHeld => ?_)
        obtain ⟨E, hE⟩ : ∃ E, wr.drew = E := ⟨_, rfl⟩
        have HBE := Aside0.mk (show Below w.heap.size w E by rw [← hE]; exact below_drew1 HB2.out)
        rw [hE] at hHeld ⊢
        clear hE
        refine pure_ (i := 0) (N := some 35) (v := ?_) (a' := ?_) #[true, false, false, false, false, false, false, false, false, false, false, false, false, false, false, false] rfl rfl (by kernel_rfl) (fun _ _ _ h => h) (Or.inl ⟨by rfl, ?_⟩) ?_ ?_
        rotate_left
        · intro w'
          go_simp
          with_reducible rfl
        rotate_left
        · simp only [Act.put, List.setIfInBounds_toArray, List.set_cons_zero, List.set_cons_succ, i64_w, i32_w]
          rfl
        refine pure_ (i := 1) (N := some 36) (v := ?_) (a' := ?_) #[true, true, false, false, false, false, false, false, false, false, false, false, false, false, false, false] rfl rfl (by kernel_rfl) (fun _ _ _ h => h) (Or.inl ⟨by rfl, ?_⟩) ?_ ?_
        rotate_left
        · intro w'
          go_simp
          with_reducible rfl
        rotate_left
        · simp only [Act.put, List.setIfInBounds_toArray, List.set_cons_zero, List.set_cons_succ, i64_w, i32_w]
          rfl
        refine pure_ (i := 2) (N := some 37) (v := ?_) (a' := ?_) #[true, true, true, false, false, false, false, false, false, false, false, false, false, false, false, false] rfl rfl (by kernel_rfl) (fun _ _ _ h => h) (Or.inl ⟨by rfl, ?_⟩) ?_ ?_
        rotate_left
        · intro w'
          go_simp
          with_reducible rfl
        rotate_left
        · simp only [Act.put, List.setIfInBounds_toArray, List.set_cons_zero, List.set_cons_succ, i64_w, i32_w]
          rfl
        refine pure_ (i := 3) (N := some 38) (v := ?_) (a' := ?_) #[true, true, true, true, false, false, false, false, false, false, false, false, false, false, false, false] rfl rfl (by kernel_rfl) (fun _ _ _ h => h) (Or.inl ⟨by rfl, ?_⟩) ?_ ?_
        rotate_left
        · intro w'
          go_simp
          with_reducible rfl
        rotate_left
        · simp only [Act.put, List.setIfInBounds_toArray, List.set_cons_zero, List.set_cons_succ, i64_w, i32_w]
          rfl
        refine pure_ (i := 4) (N := some 39) (v := ?_) (a' := ?_) #[true, true, true, true, true, false, false, false, false, false, false, false, false, false, false, false] rfl rfl (by kernel_rfl) (fun _ _ _ h => h) (Or.inl ⟨by rfl, ?_⟩) ?_ ?_
        rotate_left
        · intro w'
          go_simp
          with_reducible rfl
        rotate_left
        · simp only [Act.put, List.setIfInBounds_toArray, List.set_cons_zero, List.set_cons_succ, i64_w, i32_w]
          rfl
        refine pure_ (i := 5) (N := some 40) (v := ?_) (a' := ?_) #[true, true, true, true, true, true, false, false, false, false, false, false, false, false, false, false] rfl rfl (by kernel_rfl) (fun _ _ _ h => h) (Or.inl ⟨by rfl, ?_⟩) ?_ ?_
        rotate_left
        · intro w'
          go_simp
          with_reducible rfl
        rotate_left
        · simp only [Act.put, List.setIfInBounds_toArray, List.set_cons_zero, List.set_cons_succ, i64_w, i32_w]
          rfl
        refine pure_ (i := 6) (N := some 41) (v := ?_) (a' := ?_) #[true, true, true, true, true, true, true, false, false, false, false, false, false, false, false, false] rfl rfl (by kernel_rfl) (fun _ _ _ h => h) (Or.inl ⟨by rfl, ?_⟩) ?_ ?_
        rotate_left
        · intro w'
          go_simp
          with_reducible rfl
        rotate_left
        · simp only [Act.put, List.setIfInBounds_toArray, List.set_cons_zero, List.set_cons_succ, i64_w, i32_w]
          rfl
        refine pure_ (i := 7) (N := some 42) (v := ?_) (a' := ?_) #[true, true, true, true, true, true, true, true, false, false, false, false, false, false, false, false] rfl rfl (by kernel_rfl) (fun _ _ _ h => h) (Or.inl ⟨by rfl, ?_⟩) ?_ ?_
        rotate_left
        · intro w'
          go_simp
          with_reducible rfl
        rotate_left
        · simp only [Act.put, List.setIfInBounds_toArray, List.set_cons_zero, List.set_cons_succ, i64_w, i32_w]
          rfl
        refine pure_ (i := 8) (N := some 43) (v := ?_) (a' := ?_) #[true, true, true, true, true, true, true, true, true, false, false, false, false, false, false, false] rfl rfl (by kernel_rfl) (fun _ _ _ h => h) (Or.inl ⟨by rfl, ?_⟩) ?_ ?_
        rotate_left
        · intro w'
          go_simp
          with_reducible rfl
        rotate_left
        · simp only [Act.put, List.setIfInBounds_toArray, List.set_cons_zero, List.set_cons_succ, i64_w, i32_w]
          rfl
        refine take_ (i := 9) (N := some 44) (v := ?_) (a' := ?_) #[true, true, true, true, true, true, true, true, true, true, false, false, false, false, false, false] rfl rfl (by kernel_rfl) (fun _ _ _ h => h) (Or.inl ⟨by rfl, ?_⟩) hHeld ?_ ?_
        rotate_left
        · rintro w' ⟨s0, s1, s2, s3, s4, s5, s6, s7, s8⟩
          go_simp
          with_reducible rfl
        rotate_left
        · simp only [Act.put, List.setIfInBounds_toArray, List.set_cons_zero, List.set_cons_succ, i64_w, i32_w]
          rfl
        refine take_ (i := 10) (N := some 45) (v := ?_) (a' := ?_) #[true, true, true, true, true, true, true, true, true, true, true, false, false, false, false, false] rfl rfl (by kernel_rfl) (fun _ _ _ h => h) (Or.inl ⟨by rfl, ?_⟩) hHeld ?_ ?_
        rotate_left
        · rintro w' ⟨s0, s1, s2, s3, s4, s5, s6, s7, s8⟩
          go_simp
          with_reducible rfl
        rotate_left
        · simp only [Act.put, List.setIfInBounds_toArray, List.set_cons_zero, List.set_cons_succ, i64_w, i32_w]
          rfl
        refine last_ (i := 11) (N := some 46) #[true, true, true, true, true, true, true, true, true, true, true, true, false, false, false, false] rfl rfl (by kernel_rfl) (by decide) (fun K hK => ?_)
        refine goesvM_ Try.func61 (by kernel_rfl) rfl #[.agg #[.string t.f0.f0, .int .i64 t.f0.f1, .int .i64 t.f0.f2, .int .i64 t.f0.f3, .int .i64 t.f1], .agg #[.string s.f0, .int .i64 s.f1, .int .i64 s.f2, .int .i64 s.f3]] (by rfl) rfl rfl rfl (by (try simp only [List.map_toArray, List.map_cons, List.map_nil]); first | done | rfl) ?_
        refine (put_lit t s (cmpM t.f0 s) _ (cmpM_some _ _)).mono ?_
        rintro e w3 ⟨rfl, hb3⟩
        refine ⟨_, rfl, ?_⟩
        have HB3 := Aside0.mk (below_step HBE.out hb3)
        refine hK.out _ _ ?_
        clear hK K hb3
        refine norm_ (a' := ?_) ?_ ?_
        rotate_left
        · show Act.put _ (some 46) _ = _
          simp only [Act.put, List.setIfInBounds_toArray, List.set_cons_zero, List.set_cons_succ, i64_w, i32_w]
          rfl
        refine pure_ (i := 12) (N := some 47) (v := ?_) (a' := ?_) #[true, true, true, true, true, true, true, true, true, true, true, true, true, false, false, false] rfl rfl (by kernel_rfl) (fun _ _ _ h => h) (Or.inl ⟨by rfl, ?_⟩) ?_ ?_
        rotate_left
        · intro w'
          go_simp
          with_reducible rfl
        rotate_left
        · simp only [Act.put, List.setIfInBounds_toArray, List.set_cons_zero, List.set_cons_succ, i64_w, i32_w]
          rfl
        refine pure_ (i := 13) (N := some 48) (v := ?_) (a' := ?_) #[true, true, true, true, true, true, true, true, true, true, true, true, true, true, false, false] rfl rfl (by kernel_rfl) (fun _ _ _ h => h) (Or.inl ⟨by rfl, ?_⟩) ?_ ?_
        rotate_left
        · intro w'
          go_simp
          with_reducible rfl
        rotate_left
        · simp only [Act.put, List.setIfInBounds_toArray, List.set_cons_zero, List.set_cons_succ, i64_w, i32_w]
          rfl
        refine pure_ (i := 14) (N := some 6) (v := ?_) (a' := ?_) #[true, true, true, true, true, true, true, true, true, true, true, true, true, true, true, false] rfl rfl (by kernel_rfl) (fun _ _ _ h => h) (Or.inl ⟨by rfl, ?_⟩) ?_ ?_
        rotate_left
        · intro w'
          go_simp
          with_reducible rfl
        rotate_left
        · simp only [Act.put, List.setIfInBounds_toArray, List.set_cons_zero, List.set_cons_succ, i64_w, i32_w]
          rfl
        refine pure_ (i := 15) (N := some 7) (v := ?_) (a' := ?_) #[true, true, true, true, true, true, true, true, true, true, true, true, true, true, true, true] rfl rfl (by kernel_rfl) (fun _ _ _ h => h) (Or.inl ⟨by rfl, ?_⟩) ?_ ?_
        rotate_left
        · intro w'
          go_simp
          with_reducible rfl
        rotate_left
        · simp only [Act.put, List.setIfInBounds_toArray, List.set_cons_zero, List.set_cons_succ, i64_w, i32_w]
          rfl
        refine done_ (by kernel_rfl) ?_
        clear hHeld
        go_wp2
        refine bodyPost_ret (v := .tuple #[.int .i64 (lo : Int), .bool (cmpM t.f0 s == 0)]) (by simp [results, Try.results60, go_sem]) rfl ⟨?_, HB3.out⟩
        rw [HAT.out, HIS.out]
      · have hIs : markIs l s = false := by
          unfold markIs
          rw [HAT.out, decide_eq_false hle, Bool.false_and]
        have HIS := Aside0.mk hIs
        have hld := decide_eq_false (show ¬ ((lo : Int) < (l.length : Int)) by omega)
        clear hIs
        go_wp2_with fail
        refine start_ (n := 16) (S := fun _ => True) (ds := []) #[false, false, false, false, false, false, false, false, false, false, false, false, false, false, false, false] (by kernel_rfl) rfl rfl trivial (fun hHeld => ?_)
        refine pure_ (i := 0) (N := some 35) (v := ?_) (a' := ?_) #[true, false, false, false, false, false, false, false, false, false, false, false, false, false, false, false] rfl rfl (by kernel_rfl) (fun _ _ _ h => h) (Or.inl ⟨by rfl, ?_⟩) ?_ ?_
        rotate_left
        · intro w'
          go_simp
          with_reducible rfl
        rotate_left
        · simp only [Act.put, List.setIfInBounds_toArray, List.set_cons_zero, List.set_cons_succ, i64_w, i32_w]
          rfl
        refine pure_ (i := 1) (N := some 36) (v := ?_) (a' := ?_) #[true, true, false, false, false, false, false, false, false, false, false, false, false, false, false, false] rfl rfl (by kernel_rfl) (fun _ _ _ h => h) (Or.inl ⟨by rfl, ?_⟩) ?_ ?_
        rotate_left
        · intro w'
          go_simp
          with_reducible rfl
        rotate_left
        · simp only [Act.put, List.setIfInBounds_toArray, List.set_cons_zero, List.set_cons_succ, i64_w, i32_w]
          rfl
        refine pure_ (i := 2) (N := some 37) (v := ?_) (a' := ?_) #[true, true, true, false, false, false, false, false, false, false, false, false, false, false, false, false] rfl rfl (by kernel_rfl) (fun _ _ _ h => h) (Or.inl ⟨by rfl, ?_⟩) ?_ ?_
        rotate_left
        · intro w'
          go_simp
          with_reducible rfl
        rotate_left
        · simp only [Act.put, List.setIfInBounds_toArray, List.set_cons_zero, List.set_cons_succ, i64_w, i32_w]
          rfl
        refine pure_ (i := 3) (N := some 38) (v := ?_) (a' := ?_) #[true, true, true, true, false, false, false, false, false, false, false, false, false, false, false, false] rfl rfl (by kernel_rfl) (fun _ _ _ h => h) (Or.inl ⟨by rfl, ?_⟩) ?_ ?_
        rotate_left
        · intro w'
          go_simp
          with_reducible rfl
        rotate_left
        · simp only [Act.put, List.setIfInBounds_toArray, List.set_cons_zero, List.set_cons_succ, i64_w, i32_w]
          rfl
        refine pure_ (i := 4) (N := some 39) (v := ?_) (a' := ?_) #[true, true, true, true, true, false, false, false, false, false, false, false, false, false, false, false] rfl rfl (by kernel_rfl) (fun _ _ _ h => h) (Or.inl ⟨by rfl, ?_⟩) ?_ ?_
        rotate_left
        · intro w'
          go_simp
          with_reducible rfl
        rotate_left
        · simp only [Act.put, List.setIfInBounds_toArray, List.set_cons_zero, List.set_cons_succ, i64_w, i32_w]
          rfl
        refine pure_ (i := 5) (N := some 40) (v := undef) (a' := ?_) #[true, true, true, true, true, true, false, false, false, false, false, false, false, false, false, false] rfl rfl (by kernel_rfl) (fun _ _ _ h => h) (Or.inr ⟨by rfl, rfl⟩) ?_ ?_
        rotate_left
        · simp only [Act.put, List.setIfInBounds_toArray, List.set_cons_zero, List.set_cons_succ, i64_w, i32_w]
          rfl
        refine pure_ (i := 6) (N := some 41) (v := undef) (a' := ?_) #[true, true, true, true, true, true, true, false, false, false, false, false, false, false, false, false] rfl rfl (by kernel_rfl) (fun _ _ _ h => h) (Or.inr ⟨by rfl, rfl⟩) ?_ ?_
        rotate_left
        · simp only [Act.put, List.setIfInBounds_toArray, List.set_cons_zero, List.set_cons_succ, i64_w, i32_w]
          rfl
        refine pure_ (i := 7) (N := some 42) (v := undef) (a' := ?_) #[true, true, true, true, true, true, true, true, false, false, false, false, false, false, false, false] rfl rfl (by kernel_rfl) (fun _ _ _ h => h) (Or.inr ⟨by rfl, rfl⟩) ?_ ?_
        rotate_left
        · simp only [Act.put, List.setIfInBounds_toArray, List.set_cons_zero, List.set_cons_succ, i64_w, i32_w]
          rfl
        refine pure_ (i := 8) (N := some 43) (v := undef) (a' := ?_) #[true, true, true, true, true, true, true, true, true, false, false, false, false, false, false, false] rfl rfl (by kernel_rfl) (fun _ _ _ h => h) (Or.inr ⟨by rfl, rfl⟩) ?_ ?_
        rotate_left
        · simp only [Act.put, List.setIfInBounds_toArray, List.set_cons_zero, List.set_cons_succ, i64_w, i32_w]
          rfl
        refine pure_ (i := 9) (N := some 44) (v := undef) (a' := ?_) #[true, true, true, true, true, true, true, true, true, true, false, false, false, false, false, false] rfl rfl (by kernel_rfl) (fun _ _ _ h => h) (Or.inr ⟨by rfl, rfl⟩) ?_ ?_
        rotate_left
        · simp only [Act.put, List.setIfInBounds_toArray, List.set_cons_zero, List.set_cons_succ, i64_w, i32_w]
          rfl
        refine pure_ (i := 10) (N := some 45) (v := undef) (a' := ?_) #[true, true, true, true, true, true, true, true, true, true, true, false, false, false, false, false] rfl rfl (by kernel_rfl) (fun _ _ _ h => h) (Or.inr ⟨by rfl, rfl⟩) ?_ ?_
        rotate_left
        · simp only [Act.put, List.setIfInBounds_toArray, List.set_cons_zero, List.set_cons_succ, i64_w, i32_w]
          rfl
        refine pure_ (i := 11) (N := some 46) (v := undef) (a' := ?_) #[true, true, true, true, true, true, true, true, true, true, true, true, false, false, false, false] rfl rfl (by kernel_rfl) (fun _ _ _ h => h) (Or.inr ⟨by rfl, rfl⟩) ?_ ?_
        rotate_left
        · simp only [Act.put, List.setIfInBounds_toArray, List.set_cons_zero, List.set_cons_succ, i64_w, i32_w]
          rfl
        refine pure_ (i := 12) (N := some 47) (v := undef) (a' := ?_) #[true, true, true, true, true, true, true, true, true, true, true, true, true, false, false, false] rfl rfl (by kernel_rfl) (fun _ _ _ h => h) (Or.inr ⟨by rfl, rfl⟩) ?_ ?_
        rotate_left
        · simp only [Act.put, List.setIfInBounds_toArray, List.set_cons_zero, List.set_cons_succ, i64_w, i32_w]
          rfl
        refine pure_ (i := 13) (N := some 48) (v := ?_) (a' := ?_) #[true, true, true, true, true, true, true, true, true, true, true, true, true, true, false, false] rfl rfl (by kernel_rfl) (fun _ _ _ h => h) (Or.inl ⟨by rfl, ?_⟩) ?_ ?_
        rotate_left
        · intro w'
          go_simp
          with_reducible rfl
        rotate_left
        · simp only [Act.put, List.setIfInBounds_toArray, List.set_cons_zero, List.set_cons_succ, i64_w, i32_w]
          rfl
        refine pure_ (i := 14) (N := some 6) (v := ?_) (a' := ?_) #[true, true, true, true, true, true, true, true, true, true, true, true, true, true, true, false] rfl rfl (by kernel_rfl) (fun _ _ _ h => h) (Or.inl ⟨by rfl, ?_⟩) ?_ ?_
        rotate_left
        · intro w'
          go_simp
          with_reducible rfl
        rotate_left
        · simp only [Act.put, List.setIfInBounds_toArray, List.set_cons_zero, List.set_cons_succ, i64_w, i32_w]
          rfl
        refine pure_ (i := 15) (N := some 7) (v := ?_) (a' := ?_) #[true, true, true, true, true, true, true, true, true, true, true, true, true, true, true, true] rfl rfl (by kernel_rfl) (fun _ _ _ h => h) (Or.inl ⟨by rfl, ?_⟩) ?_ ?_
        rotate_left
        · intro w'
          go_simp
          with_reducible rfl
        rotate_left
        · simp only [Act.put, List.setIfInBounds_toArray, List.set_cons_zero, List.set_cons_succ, i64_w, i32_w]
          rfl
        refine done_ (by kernel_rfl) ?_
        clear hHeld
        go_wp2
        refine bodyPost_ret (v := .tuple #[.int .i64 (lo : Int), .bool false]) (by simp [results, Try.results60, go_sem]) rfl ⟨?_, by first | exact HB2.out | exact below_drew1 HB2.out⟩
        rw [HAT.out, HIS.out]
def mark_Put.f (k : Nat) (l : List S62) (s0 : ByteArray) (s1 s2 s3 p : Int) : Option (List S62 × Int) := (mark_CheckAll.f k l).bind fun e => if e = 0 then ((mark_price.f p).bind fun b => if b = false then some ([], 17) else if l.length < 137438953470 then (if markIs l ⟨s0, s1, s2, s3⟩ = true then some (l.set (markAt l ⟨s0, s1, s2, s3⟩) ⟨⟨s0, s1, s2, s3⟩, p⟩, 0) else if 128 ≤ l.length then some ([], 8) else some (l.take (markAt l ⟨s0, s1, s2, s3⟩) ++ [⟨⟨s0, s1, s2, s3⟩, p⟩] ++ l.drop (markAt l ⟨s0, s1, s2, s3⟩), 0)) else none) else some ([], e)
theorem markIs_lt {l : List S62} {s : S60} (h : markIs l s = true) : markAt l s < l.length := by
  unfold markIs at h
  rw [Bool.and_eq_true] at h
  exact of_decide_eq_true h.1
theorem ins_put {l0 out : List S62} {m : S62} {a1_0 : ByteArray} {a1_1 a1_2 a1_3 a1_4 : Int} (at_ : Nat) (hi : api_Mark_64.f l0 (at_ : Int) [m] = some out) (hm : m = ⟨⟨a1_0, a1_1, a1_2, a1_3⟩, a1_4⟩) {A : Option Addr} {c : Nat} (w : World) {E : World} (hB : Below w.heap.size w E) (hO : Kd.R k62 62 E w.heap.size (fun _ => True) (.slice A l0.length c) l0)
    {Q : Ending → World → Prop} (h : ∀ v w5, Aside0 (Kd.R k62 62 w5 w.heap.size (fun _ => True) v out) → Aside0 (Below w.heap.size w w5) → Q (.returned v) w5) :
    Calls Try.prog 64 #[.slice A l0.length c, .int .i64 (at_ : Int), .slice (some ⟨E.heap.size, 0, none⟩) 1 1] (E.alloc (.cells #[.string a1_0, .int .i64 a1_1, .int .i64 a1_2, .int .i64 a1_3, .int .i64 a1_4] 62)) Q := by
  subst hm
  have hnn : (E.alloc (.cells #[.string a1_0, .int .i64 a1_1, .int .i64 a1_2, .int .i64 a1_3, .int .i64 a1_4] 62)).heap[E.heap.size]? = some (.cells #[.string a1_0, .int .i64 a1_1, .int .i64 a1_2, .int .i64 a1_3, .int .i64 a1_4] 62 (0, 0)) := blk_new _ _
  have hRn : Kd.R k62 62 (E.alloc (.cells #[.string a1_0, .int .i64 a1_1, .int .i64 a1_2, .int .i64 a1_3, .int .i64 a1_4] 62)) E.heap.size (fun k => E.heap.size ≤ k) (.slice (some ⟨E.heap.size, 0, none⟩) 1 1) [(⟨⟨a1_0, a1_1, a1_2, a1_3⟩, a1_4⟩ : S62)] := R_row k62 rfl (e := 62) (base := E.heap.size) (w0 := E) (ok0 := fun _ => True) E.heap.size 1 #[.string a1_0, .int .i64 a1_1, .int .i64 a1_2, .int .i64 a1_3, .int .i64 a1_4] [(⟨⟨a1_0, a1_1, a1_2, a1_3⟩, a1_4⟩ : S62)] [.string a1_0, .int .i64 a1_1, .int .i64 a1_2, .int .i64 a1_3, .int .i64 a1_4] hnn (Nat.le_refl _) (Nat.le_refl _) (Nat.le_refl _) (by decide) rfl rfl (Reps.c5 (k62_mkM _ _ _ (⟨⟨a1_0, a1_1, a1_2, a1_3⟩, a1_4⟩ : S62)) (Reps.none _ _))
  have hRo : Kd.R k62 62 (E.alloc (.cells #[.string a1_0, .int .i64 a1_1, .int .i64 a1_2, .int .i64 a1_3, .int .i64 a1_4] 62)) w.heap.size (fun k_ => some k_ = (Value.slice A l0.length c).ownBlock) (.slice A l0.length c) l0 := Kd.R_flat (fun h => h) (Kd.R_alloc hO _) (fun k hk _ => hk.symm)
  have hcn : ∀ W', Kept (E.alloc (.cells #[.string a1_0, .int .i64 a1_1, .int .i64 a1_2, .int .i64 a1_3, .int .i64 a1_4] 62)) W' (fun k_ => some k_ = (Value.slice A l0.length c).ownBlock) → Kd.C k62 W' (some ⟨E.heap.size, 0, none⟩) [(⟨⟨a1_0, a1_1, a1_2, a1_3⟩, a1_4⟩ : S62)].length [(⟨⟨a1_0, a1_1, a1_2, a1_3⟩, a1_4⟩ : S62)] := Kd.C_kept_own hRn (fun k hk hs => by have := Kd.R_lt hO k hs.symm; omega)
  refine (api_Mark_64.calls (fun k_ => some k_ = (Value.slice A l0.length c).ownBlock) _ l0 _ (some ⟨E.heap.size, 0, none⟩) 1 [(⟨⟨a1_0, a1_1, a1_2, a1_3⟩, a1_4⟩ : S62)] out w _ (hB.alloc hB.size _) hRo hcn (Nat.le_refl _) hi).mono ?_
  rintro e w5 ⟨v5, rfl, ho5, hb5, hk5⟩
  exact h _ _ ⟨Kd.R_mono ho5 (fun _ _ => trivial)⟩ ⟨hb5⟩
set_option maxHeartbeats 4000000 in
set_option maxRecDepth 100000 in
theorem mark_Put.calls (k : Nat) (A0 : Option Addr) (c0 : Nat) (l0 : List S62) (a1_0 : ByteArray) (a1_1 a1_2 a1_3 a1_4 : Int) (r1 : List S62) (r2 : Int) (w : World) (hr0 : Kd.C k62 w A0 l0.length l0) (hc0 : l0.length ≤ c0) (h : mark_Put.f k l0 a1_0 a1_1 a1_2 a1_3 a1_4 = some (r1, r2)) :
    Calls Try.prog 29 #[.slice A0 l0.length c0, .agg #[.string a1_0, .int .i64 a1_1, .int .i64 a1_2, .int .i64 a1_3, .int .i64 a1_4]] w fun e w' => ∃ v0_ : Value, e = .returned (.tuple #[v0_, .int .i64 r2]) ∧ Kd.R k62 62 w' w.heap.size (fun _ => True) v0_ r1 ∧ Below w.heap.size w w' := by
  unfold mark_Put.f at h
  obtain ⟨e, he, h⟩ := Option.bind_eq_some_iff.1 h
  have HC := Aside0.mk he
  have HR := Aside0.mk hr0
  have HBA := Aside0.mk ((Below.refl w.heap.size w).alloc (Nat.le_refl _) (.cells #[.string a1_0, .int .i64 a1_1, .int .i64 a1_2, .int .i64 a1_3, .int .i64 a1_4] 62))
  clear hr0 he
  by_cases e0 : e = 0
  · subst e0
    rw [if_pos rfl] at h
    obtain ⟨b, hb, h⟩ := Option.bind_eq_some_iff.1 h
    have HP := Aside0.mk hb
    clear hb
    cases b with
    | false =>
      rw [if_pos rfl] at h
      obtain ⟨rfl, rfl⟩ : [] = r1 ∧ 17 = r2 := by simpa using h
      clear h
      go_enter Try.func29, Try.ntmps29
      go_wp2_with (first | (go_at_call 33; refine (mark_CheckAll.calls k A0 c0 l0 _ _ (Kd.C_alloc HR.out _) hc0 HC.out).mono ?_; rintro e1 w1 ⟨rfl, hb1⟩; have HB1 := Aside0.mk (below_step HBA.out hb1); have HG1 := Aside0.mk (blk_below (blk_new w _) hb1); have HR1 := Aside0.mk (Kd.C_below (Kd.C_alloc HR.out _) hb1); have hx0 := blk_cell HG1.out 0; have hx1 := blk_cell HG1.out 1; have hx2 := blk_cell HG1.out 2; have hx3 := blk_cell HG1.out 3; have hx4 := blk_cell HG1.out 4; clear hb1) | (go_at_call 49; refine (mark_price.calls _ _ _ HP.out).mono ?_; rintro e1 w2 ⟨rfl, hd2⟩; have hb2 := hd2.below; have HB2 := Aside0.mk (below_step HB1.out hb2); have HG2 := Aside0.mk (blk_below HG1.out hb2); have HR2 := Aside0.mk (Kd.C_below HR1.out hb2); have hx0 := blk_cell HG2.out 0; have hx1 := blk_cell HG2.out 1; have hx2 := blk_cell HG2.out 2; have hx3 := blk_cell HG2.out 3; have hx4 := blk_cell HG2.out 4; clear hb2; clear hd2))
      refine bodyPost_ret (v := .tuple #[.slice none 0 0, .int .i64 17]) (by simp [results, Try.results29, go_sem]) rfl ⟨_, rfl, Kd.R_nil _ _ _ _ _, HB2.out⟩
    | true =>
      rw [if_neg (show ¬ (true = false) by decide)] at h
      by_cases hlim : l0.length < 137438953470
      case neg => rw [if_neg hlim] at h; cases h
      rw [if_pos hlim] at h
      have hl2 : l0.length ≤ 4611686018427387903 := by omega
      obtain ⟨s, hs⟩ : ∃ s, s = (⟨a1_0, a1_1, a1_2, a1_3⟩ : S60) := ⟨_, rfl⟩
      obtain ⟨m, hm⟩ : ∃ m, m = (⟨⟨a1_0, a1_1, a1_2, a1_3⟩, a1_4⟩ : S62) := ⟨_, rfl⟩
      rw [← hm, ← hs] at h
      have HS := Aside0.mk hs
      have HM := Aside0.mk hm
      clear hs hm
      have HCL := Aside0.mk (show api_Mark_63.f l0 = some l0 by unfold api_Mark_63.f; rw [if_pos (by omega)])
      by_cases hIs : markIs l0 s = true
      · rw [if_pos hIs] at h
        obtain ⟨rfl, rfl⟩ : l0.set (markAt l0 s) m = r1 ∧ 0 = r2 := by simpa using h
        have hlt := markIs_lt hIs
        have HIS := Aside0.mk hIs
        obtain ⟨at_, hat⟩ : ∃ n, markAt l0 s = n := ⟨_, rfl⟩
        rw [hat] at hlt ⊢
        have HAT := Aside0.mk hat
        have hb0 : (0 ≤ (at_ : Int)) = True := eq_true (by omega)
        have hb1 : ((at_ : Int) < (l0.length : Int)) = True := eq_true (by omega)
        have hlI : (at_ : Int) < (l0.length : Int) := by omega
        clear h hIs hat
        go_enter Try.func29, Try.ntmps29
        go_wp2_with (first | (go_at_call 33; refine (mark_CheckAll.calls k A0 c0 l0 _ _ (Kd.C_alloc HR.out _) hc0 HC.out).mono ?_; rintro e1 w1 ⟨rfl, hb1⟩; have HB1 := Aside0.mk (below_step HBA.out hb1); have HG1 := Aside0.mk (blk_below (blk_new w _) hb1); have HR1 := Aside0.mk (Kd.C_below (Kd.C_alloc HR.out _) hb1); have hx0 := blk_cell HG1.out 0; have hx1 := blk_cell HG1.out 1; have hx2 := blk_cell HG1.out 2; have hx3 := blk_cell HG1.out 3; have hx4 := blk_cell HG1.out 4; clear hb1) | (go_at_call 49; refine (mark_price.calls _ _ _ HP.out).mono ?_; rintro e1 w2 ⟨rfl, hd2⟩; have hb2 := hd2.below; have HB2 := Aside0.mk (below_step HB1.out hb2); have HG2 := Aside0.mk (blk_below HG1.out hb2); have HR2 := Aside0.mk (Kd.C_below HR1.out hb2); have hx0 := blk_cell HG2.out 0; have hx1 := blk_cell HG2.out 1; have hx2 := blk_cell HG2.out 2; have hx3 := blk_cell HG2.out 3; have hx4 := blk_cell HG2.out 4; clear hb2; clear hd2) | (go_at_call 60; refine (bsM_calls A0 c0 l0 ⟨a1_0, a1_1, a1_2, a1_3⟩ _ HR2.out hl2).mono ?_; rw [← HS.out, HAT.out, HIS.out]; rintro e1 w3 ⟨rfl, hb3⟩; have HB3 := Aside0.mk (below_step HB2.out hb3); have HG3 := Aside0.mk (blk_below HG2.out hb3); have HR3 := Aside0.mk (Kd.C_below HR2.out hb3); have hx0 := blk_cell HG3.out 0; have hx1 := blk_cell HG3.out 1; have hx2 := blk_cell HG3.out 2; have hx3 := blk_cell HG3.out 3; have hx4 := blk_cell HG3.out 4; clear hb3) | (go_at_call 63; refine (api_Mark_63.calls A0 c0 l0 l0 _ HR3.out hc0 HCL.out).mono ?_; rintro e w4 ⟨v4, rfl, ho4, hb4⟩; obtain ⟨g, cap, rfl, hgb, hgl, _⟩ := Kd.R_form ho4 (by omega); have HBX := HB3.out.size; have HO4 := Aside0.mk (Kd.R_lower ho4 HBX); have HB4 := Aside0.mk (below_step HB3.out hb4); have HG4 := Aside0.mk (blk_below HG3.out hb4); have hx0 := blk_cell HG4.out 0; have hx1 := blk_cell HG4.out 1; have hx2 := blk_cell HG4.out 2; have hx3 := blk_cell HG4.out 3; have hx4 := blk_cell HG4.out 4; clear ho4 hb4 HBX) | ((with_reducible refine gate_store (t := 62) (p := 32) rfl ?_); refine Aside0.out ?_))
        refine Aside0.mk ?_
        have hC4 := (Kd.R_reads' HO4.out).2.2
        obtain ⟨ad4, c, ead, hcl, _, hcc⟩ := Kd.C_get hC4 z62 (at_ : Int) (by omega) (by omega)
        obtain rfl : (⟨g, 0, none⟩ : Addr) = ad4 := Option.some.inj ead
        have hadd : ∀ k, (⟨g, 0, none⟩ : Addr).add k = ⟨g, k, none⟩ := fun k => by unfold Addr.add; split <;> simp_all
        simp only [hadd] at hcc
        have hsz : k62.sz = 5 := rfl
        refine Kd.R_store k62 (w0 := w) w.heap.size rfl rfl 62 (.tmp 32) (.tmp 31) rfl 62 (o' := at_ * 5) (at_ : Int) 0 l0 m (.agg #[.string a1_0, .int .i64 a1_1, .int .i64 a1_2, .int .i64 a1_3, .int .i64 a1_4]) [.string a1_0, .int .i64 a1_1, .int .i64 a1_2, .int .i64 a1_3, .int .i64 a1_4] c (fun _ => True) (fun _ => False) rfl (by rw [Int.toNat_natCast]; rfl) rfl rfl (by kernel_rfl) (fun q hq => ?_) HO4.out (by omega) (by omega) hcl hcc (show 0 + 5 ≤ 5 from Nat.le_refl _) ?_ (fun _ h => h.elim) HB4.out (fun w5 ho5 hb5 hg5 => ?_)
        · simp only [List.mem_cons, List.not_mem_nil, or_false] at hq
          rcases hq with rfl | rfl | rfl | rfl | rfl <;> rfl
        · rw [List.take_zero, List.nil_append, List.drop_of_length_le (by rw [hcl]; exact (show 5 ≤ 0 + 5 from Nat.le_refl _)), List.append_nil, HM.out]
          exact k62_mkM _ _ _ _
        rw [Int.toNat_natCast] at ho5
        have HO5 := Aside0.mk ho5
        have HB5 := Aside0.mk hb5
        clear ho5 hb5 hg5 hcc hcl ead hC4
        go_wp2
        refine bodyPost_ret (v := .tuple #[_, .int .i64 0]) (by simp [results, Try.results29, go_sem]) rfl ⟨_, rfl, HO5.out, HB5.out⟩
      · rw [if_neg hIs] at h
        have hIs : markIs l0 s = false := by simpa using hIs
        have HIS := Aside0.mk hIs
        have hle := (bsM_le l0 s l0.length 0 l0.length (Nat.zero_le _)).2
        rw [show bsM l0 s l0.length 0 l0.length = markAt l0 s from rfl] at hle
        obtain ⟨at_, hat⟩ : ∃ n, markAt l0 s = n := ⟨_, rfl⟩
        rw [hat] at h hle
        have HAT := Aside0.mk hat
        clear hIs hat
        by_cases h128 : 128 ≤ l0.length
        · rw [if_pos h128] at h
          obtain ⟨rfl, rfl⟩ : [] = r1 ∧ 8 = r2 := by simpa using h
          have hge := decide_eq_true (show (l0.length : Int) ≥ 128 by omega)
          have hge2 := decide_eq_true (show (128 : Int) ≤ (l0.length : Int) by omega)
          clear h h128
          go_enter Try.func29, Try.ntmps29
          go_wp2_with (first | (go_at_call 33; refine (mark_CheckAll.calls k A0 c0 l0 _ _ (Kd.C_alloc HR.out _) hc0 HC.out).mono ?_; rintro e1 w1 ⟨rfl, hb1⟩; have HB1 := Aside0.mk (below_step HBA.out hb1); have HG1 := Aside0.mk (blk_below (blk_new w _) hb1); have HR1 := Aside0.mk (Kd.C_below (Kd.C_alloc HR.out _) hb1); have hx0 := blk_cell HG1.out 0; have hx1 := blk_cell HG1.out 1; have hx2 := blk_cell HG1.out 2; have hx3 := blk_cell HG1.out 3; have hx4 := blk_cell HG1.out 4; clear hb1) | (go_at_call 49; refine (mark_price.calls _ _ _ HP.out).mono ?_; rintro e1 w2 ⟨rfl, hd2⟩; have hb2 := hd2.below; have HB2 := Aside0.mk (below_step HB1.out hb2); have HG2 := Aside0.mk (blk_below HG1.out hb2); have HR2 := Aside0.mk (Kd.C_below HR1.out hb2); have hx0 := blk_cell HG2.out 0; have hx1 := blk_cell HG2.out 1; have hx2 := blk_cell HG2.out 2; have hx3 := blk_cell HG2.out 3; have hx4 := blk_cell HG2.out 4; clear hb2; clear hd2) | (go_at_call 60; refine (bsM_calls A0 c0 l0 ⟨a1_0, a1_1, a1_2, a1_3⟩ _ HR2.out hl2).mono ?_; rw [← HS.out, HAT.out, HIS.out]; rintro e1 w3 ⟨rfl, hb3⟩; have HB3 := Aside0.mk (below_step HB2.out hb3); have HG3 := Aside0.mk (blk_below HG2.out hb3); have HR3 := Aside0.mk (Kd.C_below HR2.out hb3); have hx0 := blk_cell HG3.out 0; have hx1 := blk_cell HG3.out 1; have hx2 := blk_cell HG3.out 2; have hx3 := blk_cell HG3.out 3; have hx4 := blk_cell HG3.out 4; clear hb3) | (go_at_call 63; refine (api_Mark_63.calls A0 c0 l0 l0 _ HR3.out hc0 HCL.out).mono ?_; rintro e1 w4 ⟨v4, rfl, ho4, hb4⟩; obtain ⟨A4, c4, rfl⟩ := Kd.R_slice ho4; have HBX := HB3.out.size; have HO4 := Aside0.mk (Kd.R_lower ho4 HBX); have HB4 := Aside0.mk (below_step HB3.out hb4); have HG4 := Aside0.mk (blk_below HG3.out hb4); have hx0 := blk_cell HG4.out 0; have hx1 := blk_cell HG4.out 1; have hx2 := blk_cell HG4.out 2; have hx3 := blk_cell HG4.out 3; have hx4 := blk_cell HG4.out 4; clear ho4 hb4 HBX))
          refine bodyPost_ret (v := .tuple #[.slice none 0 0, .int .i64 8]) (by simp [results, Try.results29, go_sem]) rfl ⟨_, rfl, Kd.R_nil _ _ _ _ _, HB4.out⟩
        · rw [if_neg h128] at h
          obtain ⟨rfl, rfl⟩ : l0.take at_ ++ [m] ++ l0.drop at_ = r1 ∧ 0 = r2 := by simpa using h
          have hge := decide_eq_false (show ¬ (l0.length : Int) ≥ 128 by omega)
          have hge2 := decide_eq_false (show ¬ (128 : Int) ≤ (l0.length : Int) by omega)
          have hins : api_Mark_64.f l0 (at_ : Int) [m] = some (l0.take at_ ++ [m] ++ l0.drop at_) := by
            unfold api_Mark_64.f
            rw [if_pos ⟨by omega, by omega, by omega, rfl⟩, Int.toNat_natCast]
          obtain ⟨out, ho⟩ : ∃ o, o = l0.take at_ ++ [m] ++ l0.drop at_ := ⟨_, rfl⟩
          rw [← ho] at hins ⊢
          have HI := Aside0.mk hins
          clear h h128 hins ho
          go_enter Try.func29, Try.ntmps29
          go_wp2_with (first | (go_at_call 33; refine (mark_CheckAll.calls k A0 c0 l0 _ _ (Kd.C_alloc HR.out _) hc0 HC.out).mono ?_; rintro e1 w1 ⟨rfl, hb1⟩; have HB1 := Aside0.mk (below_step HBA.out hb1); have HG1 := Aside0.mk (blk_below (blk_new w _) hb1); have HR1 := Aside0.mk (Kd.C_below (Kd.C_alloc HR.out _) hb1); have hx0 := blk_cell HG1.out 0; have hx1 := blk_cell HG1.out 1; have hx2 := blk_cell HG1.out 2; have hx3 := blk_cell HG1.out 3; have hx4 := blk_cell HG1.out 4; clear hb1) | (go_at_call 49; refine (mark_price.calls _ _ _ HP.out).mono ?_; rintro e1 w2 ⟨rfl, hd2⟩; have hb2 := hd2.below; have HB2 := Aside0.mk (below_step HB1.out hb2); have HG2 := Aside0.mk (blk_below HG1.out hb2); have HR2 := Aside0.mk (Kd.C_below HR1.out hb2); have hx0 := blk_cell HG2.out 0; have hx1 := blk_cell HG2.out 1; have hx2 := blk_cell HG2.out 2; have hx3 := blk_cell HG2.out 3; have hx4 := blk_cell HG2.out 4; clear hb2; clear hd2) | (go_at_call 60; refine (bsM_calls A0 c0 l0 ⟨a1_0, a1_1, a1_2, a1_3⟩ _ HR2.out hl2).mono ?_; rw [← HS.out, HAT.out, HIS.out]; rintro e1 w3 ⟨rfl, hb3⟩; have HB3 := Aside0.mk (below_step HB2.out hb3); have HG3 := Aside0.mk (blk_below HG2.out hb3); have HR3 := Aside0.mk (Kd.C_below HR2.out hb3); have hx0 := blk_cell HG3.out 0; have hx1 := blk_cell HG3.out 1; have hx2 := blk_cell HG3.out 2; have hx3 := blk_cell HG3.out 3; have hx4 := blk_cell HG3.out 4; clear hb3) | (go_at_call 63; refine (api_Mark_63.calls A0 c0 l0 l0 _ HR3.out hc0 HCL.out).mono ?_; rintro e1 w4 ⟨v4, rfl, ho4, hb4⟩; obtain ⟨A4, c4, rfl⟩ := Kd.R_slice ho4; have HBX := HB3.out.size; have HO4 := Aside0.mk (Kd.R_lower ho4 HBX); have HB4 := Aside0.mk (below_step HB3.out hb4); have HG4 := Aside0.mk (blk_below HG3.out hb4); have hx0 := blk_cell HG4.out 0; have hx1 := blk_cell HG4.out 1; have hx2 := blk_cell HG4.out 2; have hx3 := blk_cell HG4.out 3; have hx4 := blk_cell HG4.out 4; clear ho4 hb4 HBX) | (go_at_call 64; refine ins_put at_ HI.out HM.out w HB4.out HO4.out ?_; rintro v5 w5 HO5 HB5; obtain ⟨A5, c5, rfl⟩ := Kd.R_slice HO5.out))
          refine bodyPost_ret (v := .tuple #[_, .int .i64 0]) (by simp [results, Try.results29, go_sem]) rfl ⟨_, rfl, HO5.out, HB5.out⟩
  · rw [if_neg e0] at h
    obtain ⟨rfl, rfl⟩ : [] = r1 ∧ e = r2 := by simpa using h
    clear h
    have hne : (e != 0) = true := by simpa using e0
    go_enter Try.func29, Try.ntmps29
    go_wp2_with (go_at_call 33; refine (mark_CheckAll.calls k A0 c0 l0 _ _ (Kd.C_alloc HR.out _) hc0 HC.out).mono ?_; rintro e1 w1 ⟨rfl, hb1⟩; have HB1 := Aside0.mk (below_step HBA.out hb1); have HG1 := Aside0.mk (blk_below (blk_new w _) hb1); have HR1 := Aside0.mk (Kd.C_below (Kd.C_alloc HR.out _) hb1); have hx0 := blk_cell HG1.out 0; have hx1 := blk_cell HG1.out 1; have hx2 := blk_cell HG1.out 2; have hx3 := blk_cell HG1.out 3; have hx4 := blk_cell HG1.out 4; clear hb1)
    refine bodyPost_ret (v := .tuple #[.slice none 0 0, .int .i64 e]) (by simp [results, Try.results29, go_sem]) rfl ⟨_, rfl, Kd.R_nil _ _ _ _ _, HB1.out⟩
end Go.Proofs.Ytocndpddghefhaa.X
end
section
namespace Go.Proofs.Ytocndpddghefhaa.X
open Go.RowKit Go.Proofs.YtocndpddghefhaaW.PrintWords Go.Proofs.YtocndpddghefhaaW.PrintLast Go.Proofs.YtocndpddghefhaaW.PrintMore
attribute [local go_sem] max2_int min2_int max_two min_two max_three min_three max_four min_four
set_option linter.unusedVariables false
set_option linter.unusedSimpArgs false
attribute [local go_sem high] eqA60
def contangolaw18_MarkPuts.f (k : Nat) (l0 : List (S62)) (a1_0 : ByteArray) (a1_1 : Int) (a1_2 : Int) (a1_3 : Int) (a1_4 : Int) (a2_0 : ByteArray) (a2_1 : Int) (a2_2 : Int) (a2_3 : Int) : Option (Bool) := (mark_Put.f k l0 a1_0 a1_1 a1_2 a1_3 a1_4).bind fun bt103 => (if bt103.2 = 0 then ((mark_Find.f bt103.1 a1_0 a1_1 a1_2 a1_3).bind fun bt108 => ((mark_Find.f l0 a2_0 a2_1 a2_2 a2_3).bind fun bt110 => ((mark_Find.f bt103.1 a2_0 a2_1 a2_2 a2_3).bind fun bt112 => (if bt108.1 = a1_4 then (if bt108.2 = true then (if (a2_0.toList == a1_0.toList && (a2_1 == a1_1 && (a2_2 == a1_2 && (a2_3 == a1_3)))) = true then ((mark_CheckAll.f k bt103.1).bind fun t114 => (if t114 = 0 then ((contangolaw18_goes.f k).bind fun t115 => (some t115)) else (none))) else (if bt110.1 = bt112.1 then (if (bt110.2 == bt112.2) = true then ((mark_CheckAll.f k bt103.1).bind fun t116 => (if t116 = 0 then ((contangolaw18_goes.f k).bind fun t117 => (some t117)) else (none))) else (none)) else (none))) else (none)) else (none))))) else (if (bt103.1.length : Int) = 0 then ((contangolaw18_goes.f k).bind fun t107 => (some t107)) else (none)))
set_option maxHeartbeats 8000000 in
set_option maxRecDepth 100000 in
theorem contangolaw18_MarkPuts.calls (k : Nat) (A0 : Option Addr) (c0 : Nat) (l0 : List (S62)) (a1_0 : ByteArray) (a1_1 : Int) (a1_2 : Int) (a1_3 : Int) (a1_4 : Int) (a2_0 : ByteArray) (a2_1 : Int) (a2_2 : Int) (a2_3 : Int) (r : Bool) (w : World) (hr0 : Kd.C k62 w A0 l0.length l0) (hc0 : l0.length ≤ c0) (h : contangolaw18_MarkPuts.f k l0 a1_0 a1_1 a1_2 a1_3 a1_4 a2_0 a2_1 a2_2 a2_3 = some r) :
    Calls Try.prog 11 #[.slice A0 l0.length c0, .agg #[.string a1_0, .int .i64 a1_1, .int .i64 a1_2, .int .i64 a1_3, .int .i64 a1_4], .agg #[.string a2_0, .int .i64 a2_1, .int .i64 a2_2, .int .i64 a2_3]] w fun e w' => e = .returned (.bool r) ∧ Below w.heap.size w w' := by
  have hu62 := Try.underlying62
  have hu60 := Try.underlying60
  have HR0 := Aside0.mk hr0
  have HC0 := Aside0.mk hc0
  clear hr0 hc0
  have HB := Aside0.mk (Below.refl w.heap.size w)
  have H : ((mark_Put.f k l0 a1_0 a1_1 a1_2 a1_3 a1_4).bind fun bt103 => (if bt103.2 = 0 then ((mark_Find.f bt103.1 a1_0 a1_1 a1_2 a1_3).bind fun bt108 => ((mark_Find.f l0 a2_0 a2_1 a2_2 a2_3).bind fun bt110 => ((mark_Find.f bt103.1 a2_0 a2_1 a2_2 a2_3).bind fun bt112 => (if bt108.1 = a1_4 then (if bt108.2 = true then (if (a2_0.toList == a1_0.toList && (a2_1 == a1_1 && (a2_2 == a1_2 && (a2_3 == a1_3)))) = true then ((mark_CheckAll.f k bt103.1).bind fun t114 => (if t114 = 0 then ((contangolaw18_goes.f k).bind fun t115 => (some t115)) else (none))) else (if bt110.1 = bt112.1 then (if (bt110.2 == bt112.2) = true then ((mark_CheckAll.f k bt103.1).bind fun t116 => (if t116 = 0 then ((contangolaw18_goes.f k).bind fun t117 => (some t117)) else (none))) else (none)) else (none))) else (none)) else (none))))) else (if (bt103.1.length : Int) = 0 then ((contangolaw18_goes.f k).bind fun t107 => (some t107)) else (none)))) = some r := h
  clear h
  replace H := Option.bind_eq_some_iff.mp H
  obtain ⟨⟨t103, t106⟩, A40, H⟩ := H
  replace H : (if t106 = 0 then ((mark_Find.f t103 a1_0 a1_1 a1_2 a1_3).bind fun bt108 => ((mark_Find.f l0 a2_0 a2_1 a2_2 a2_3).bind fun bt110 => ((mark_Find.f t103 a2_0 a2_1 a2_2 a2_3).bind fun bt112 => (if bt108.1 = a1_4 then (if bt108.2 = true then (if (a2_0.toList == a1_0.toList && (a2_1 == a1_1 && (a2_2 == a1_2 && (a2_3 == a1_3)))) = true then ((mark_CheckAll.f k t103).bind fun t114 => (if t114 = 0 then ((contangolaw18_goes.f k).bind fun t115 => (some t115)) else (none))) else (if bt110.1 = bt112.1 then (if (bt110.2 == bt112.2) = true then ((mark_CheckAll.f k t103).bind fun t116 => (if t116 = 0 then ((contangolaw18_goes.f k).bind fun t117 => (some t117)) else (none))) else (none)) else (none))) else (none)) else (none))))) else (if (t103.length : Int) = 0 then ((contangolaw18_goes.f k).bind fun t107 => (some t107)) else (none))) = some r := H
  have A4 := Aside0.mk A40
  clear A40
  by_cases c5 : t106 = 0
  · rw [if_pos c5] at H
    have c5b0 : (t106 == 0) = true := beq_iff_eq.mpr c5
    have c5b1 : (t106 != 0) = false := bne_eq_false_iff_eq.mpr c5
    clear c5
    replace H := Option.bind_eq_some_iff.mp H
    obtain ⟨⟨t108, t109⟩, A60, H⟩ := H
    replace H : ((mark_Find.f l0 a2_0 a2_1 a2_2 a2_3).bind fun bt110 => ((mark_Find.f t103 a2_0 a2_1 a2_2 a2_3).bind fun bt112 => (if t108 = a1_4 then (if t109 = true then (if (a2_0.toList == a1_0.toList && (a2_1 == a1_1 && (a2_2 == a1_2 && (a2_3 == a1_3)))) = true then ((mark_CheckAll.f k t103).bind fun t114 => (if t114 = 0 then ((contangolaw18_goes.f k).bind fun t115 => (some t115)) else (none))) else (if bt110.1 = bt112.1 then (if (bt110.2 == bt112.2) = true then ((mark_CheckAll.f k t103).bind fun t116 => (if t116 = 0 then ((contangolaw18_goes.f k).bind fun t117 => (some t117)) else (none))) else (none)) else (none))) else (none)) else (none)))) = some r := H
    have A6 := Aside0.mk A60
    clear A60
    replace H := Option.bind_eq_some_iff.mp H
    obtain ⟨⟨t110, t111⟩, A70, H⟩ := H
    replace H : ((mark_Find.f t103 a2_0 a2_1 a2_2 a2_3).bind fun bt112 => (if t108 = a1_4 then (if t109 = true then (if (a2_0.toList == a1_0.toList && (a2_1 == a1_1 && (a2_2 == a1_2 && (a2_3 == a1_3)))) = true then ((mark_CheckAll.f k t103).bind fun t114 => (if t114 = 0 then ((contangolaw18_goes.f k).bind fun t115 => (some t115)) else (none))) else (if t110 = bt112.1 then (if (t111 == bt112.2) = true then ((mark_CheckAll.f k t103).bind fun t116 => (if t116 = 0 then ((contangolaw18_goes.f k).bind fun t117 => (some t117)) else (none))) else (none)) else (none))) else (none)) else (none))) = some r := H
    have A7 := Aside0.mk A70
    clear A70
    replace H := Option.bind_eq_some_iff.mp H
    obtain ⟨⟨t112, t113⟩, A80, H⟩ := H
    replace H : (if t108 = a1_4 then (if t109 = true then (if (a2_0.toList == a1_0.toList && (a2_1 == a1_1 && (a2_2 == a1_2 && (a2_3 == a1_3)))) = true then ((mark_CheckAll.f k t103).bind fun t114 => (if t114 = 0 then ((contangolaw18_goes.f k).bind fun t115 => (some t115)) else (none))) else (if t110 = t112 then (if (t111 == t113) = true then ((mark_CheckAll.f k t103).bind fun t116 => (if t116 = 0 then ((contangolaw18_goes.f k).bind fun t117 => (some t117)) else (none))) else (none)) else (none))) else (none)) else (none)) = some r := H
    have A8 := Aside0.mk A80
    clear A80
    by_cases c9 : t108 = a1_4
    · rw [if_pos c9] at H
      have c9b0 : (t108 == a1_4) = true := beq_iff_eq.mpr c9
      have c9b1 : (t108 != a1_4) = false := bne_eq_false_iff_eq.mpr c9
      clear c9
      by_cases c10 : t109 = true
      · subst c10
        have H1 : (if (a2_0.toList == a1_0.toList && (a2_1 == a1_1 && (a2_2 == a1_2 && (a2_3 == a1_3)))) = true then ((mark_CheckAll.f k t103).bind fun t114 => (if t114 = 0 then ((contangolaw18_goes.f k).bind fun t115 => (some t115)) else (none))) else (if t110 = t112 then (if (t111 == t113) = true then ((mark_CheckAll.f k t103).bind fun t116 => (if t116 = 0 then ((contangolaw18_goes.f k).bind fun t117 => (some t117)) else (none))) else (none)) else (none))) = some r := by rw [if_pos rfl] at H; exact H
        clear H
        have H := H1
        clear H1
        by_cases c11 : (a2_0.toList == a1_0.toList && (a2_1 == a1_1 && (a2_2 == a1_2 && (a2_3 == a1_3)))) = true
        · rw [if_pos c11] at H
          have c11b0 : (a2_0.toList == a1_0.toList && (a2_1 == a1_1 && (a2_2 == a1_2 && (a2_3 == a1_3)))) = true := c11
          (try (have c11b1 : decide (a2_0.toList = a1_0.toList && (a2_1 == a1_1 && (a2_2 == a1_2 && (a2_3 == a1_3)))) = true := by simpa using c11))
          (try (have c11b2 : (a2_0.toList == a1_0.toList && (a2_1 == a1_1 && (a2_2 == a1_2 && (a2_3 == a1_3)))) = true := by simpa using c11))
          clear c11
          replace H := Option.bind_eq_some_iff.mp H
          obtain ⟨t114, A120, H⟩ := H
          replace H : (if t114 = 0 then ((contangolaw18_goes.f k).bind fun t115 => (some t115)) else (none)) = some r := H
          have A12 := Aside0.mk A120
          clear A120
          by_cases c13 : t114 = 0
          · rw [if_pos c13] at H
            have c13b0 : (t114 == 0) = true := beq_iff_eq.mpr c13
            have c13b1 : (t114 != 0) = false := bne_eq_false_iff_eq.mpr c13
            clear c13
            replace H := Option.bind_eq_some_iff.mp H
            obtain ⟨t115, A140, H⟩ := H
            replace H : (some t115) = some r := H
            have A14 := Aside0.mk A140
            clear A140
            obtain rfl := Option.some.inj H
            go_enter Try.func11, Try.ntmps11
            go_wp2_with (first | ((with_reducible refine gate_dst (N := 4) rfl ?_); refine box_event ?hg (N := 4) ?hd (cs := #[.string a1_0, .int .i64 a1_1, .int .i64 a1_2, .int .i64 a1_3, .int .i64 a1_4]) (t := 62) ?hr ?_; (case hd => rfl); (case hg => rfl); (case hr => first | (go_simp; done) | (go_simp; rfl)); intro gb101 hg w15 hbox hb; have n0_ := Aside0.mk (below_step (by repeat (first | (with_reducible first | exact HB.out | apply below_alloc | apply pw_below_drewN | apply below_drew1) | exact HB.out)) hb); have n1_ := Aside0.mk (hbox); have n2_ := Aside0.mk ((by rw [hg]; exact (below_size (by repeat (first | (with_reducible first | exact HB.out | apply below_alloc | apply pw_below_drewN | apply below_drew1) | exact HB.out))) : w.heap.size ≤ gb101)); have n3_ := Aside0.mk ((by rw [hg]; exact (below_size (by repeat (first | (with_reducible first | exact HB.out | apply below_alloc | apply pw_below_drewN | apply below_drew1) | exact HB.out))) : w.heap.size ≤ gb101)); clear HB; have HB := n0_; have BK101 := n1_; have GW101 := n2_; have GE101 := n3_; clear n0_ n1_ n2_ n3_; clear hb hbox hg) | ((with_reducible refine gate_dst (N := 5) rfl ?_); refine box_event ?hg (N := 5) ?hd (cs := #[.string a2_0, .int .i64 a2_1, .int .i64 a2_2, .int .i64 a2_3]) (t := 60) ?hr ?_; (case hd => rfl); (case hg => rfl); (case hr => first | (go_simp; done) | (go_simp; rfl)); intro gb102 hg w16 hbox hb; have n0_ := Aside0.mk (blk_below (g := gb101) (o := .cells #[.string a1_0, .int .i64 a1_1, .int .i64 a1_2, .int .i64 a1_3, .int .i64 a1_4] 62 (0, 0)) (by (with_reducible repeat (first | refine blk_drewN ?_ _ | refine blk_drew ?_ | refine blk_alloc ?_ _)); exact BK101.out) hb); have n1_ := Aside0.mk (below_step (by repeat (first | (with_reducible first | exact HB.out | apply below_alloc | apply pw_below_drewN | apply below_drew1 | refine below_set ?_ GE101.out) | exact HB.out)) hb); have n2_ := Aside0.mk (hbox); have n3_ := Aside0.mk ((by rw [hg]; exact (below_size (by repeat (first | (with_reducible first | exact HB.out | apply below_alloc | apply pw_below_drewN | apply below_drew1 | refine below_set ?_ GE101.out) | exact HB.out))) : w.heap.size ≤ gb102)); have n4_ := Aside0.mk ((by rw [hg]; exact (below_size (by repeat (first | (with_reducible first | exact HB.out | apply below_alloc | apply pw_below_drewN | apply below_drew1 | refine below_set ?_ GE101.out) | exact HB.out))) : w.heap.size ≤ gb102)); have n5_ := Aside0.mk ((by rw [hg]; exact Nat.ne_of_lt (blk_lt (g := gb101) (o := .cells #[.string a1_0, .int .i64 a1_1, .int .i64 a1_2, .int .i64 a1_3, .int .i64 a1_4] 62 (0, 0)) (by (with_reducible repeat (first | refine blk_drewN ?_ _ | refine blk_drew ?_ | refine blk_alloc ?_ _)); exact BK101.out)) : gb101 ≠ gb102)); have n6_ := Aside0.mk ((by rw [hg]; exact Nat.ne_of_gt (blk_lt (g := gb101) (o := .cells #[.string a1_0, .int .i64 a1_1, .int .i64 a1_2, .int .i64 a1_3, .int .i64 a1_4] 62 (0, 0)) (by (with_reducible repeat (first | refine blk_drewN ?_ _ | refine blk_drew ?_ | refine blk_alloc ?_ _)); exact BK101.out)) : gb102 ≠ gb101)); clear BK101; clear HB; have BK101 := n0_; have HB := n1_; have BK102 := n2_; have GW102 := n3_; have GE102 := n4_; have NB101_102 := n5_; have NB102_101 := n6_; clear n0_ n1_ n2_ n3_ n4_ n5_ n6_; clear hb hbox hg; have hnb17 := NB101_102.out; have hnc17 := NB102_101.out; have hcz18_0 : w16.cell? ⟨gb101, 0, none⟩ = some (.string a1_0) := (blk_cell BK101.out 0).trans rfl; have hcz18_1 : w16.cell? ⟨gb101, 1, none⟩ = some (.int .i64 a1_1) := (blk_cell BK101.out 1).trans rfl; have hcz18_2 : w16.cell? ⟨gb101, 2, none⟩ = some (.int .i64 a1_2) := (blk_cell BK101.out 2).trans rfl; have hcz18_3 : w16.cell? ⟨gb101, 3, none⟩ = some (.int .i64 a1_3) := (blk_cell BK101.out 3).trans rfl; have hcz18_4 : w16.cell? ⟨gb101, 4, none⟩ = some (.int .i64 a1_4) := (blk_cell BK101.out 4).trans rfl; have hfz18_0 := blk_frozen BK101.out 0; have hfz18_1 := blk_frozen BK101.out 1; have hfz18_2 := blk_frozen BK101.out 2; have hfz18_3 := blk_frozen BK101.out 3; have hfz18_4 := blk_frozen BK101.out 4) | ((with_reducible refine gate_callee (f := 29) rfl ?_); refine goesL_ (some 18) rfl rfl Try.func29 (by kernel_rfl) rfl #[.slice A0 l0.length c0, .agg #[.string a1_0, .int .i64 a1_1, .int .i64 a1_2, .int .i64 a1_3, .int .i64 a1_4]] rfl (by (try simp only [List.map_toArray, List.map_cons, List.map_nil]); first | done | rfl | (simp only [List.length_drop, List.length_take]; rfl)) ?_; (with_reducible refine (mark_Put.calls k _ _ l0 a1_0 a1_1 a1_2 a1_3 a1_4 t103 t106 _ ?side1 ?side2 A4.out).mono ?_); (case side1 => repeat (first | exact (Kd.C_below HR0.out HB.out) | (with_reducible refine Kd.C_alloc ?_ _) | (with_reducible refine Kd.C_drewN ?_ _) | (with_reducible refine Kd.C_drew ?_))); (case side2 => exact HC0.out); rintro e w19 ⟨v104, rfl, ho0, hb⟩; refine ⟨_, rfl, ?_⟩; have n0_ := Aside0.mk (Kd.R_lower (Kd.R_newB ho0 (g := gb101) (o := .cells #[.string a1_0, .int .i64 a1_1, .int .i64 a1_2, .int .i64 a1_3, .int .i64 a1_4] 62 (0, 0)) (by (with_reducible repeat (first | refine blk_drewN ?_ _ | refine blk_drew ?_ | refine blk_alloc ?_ _)); exact BK101.out)) (below_size (by repeat (first | (with_reducible first | exact HB.out | apply below_alloc | apply pw_below_drewN | apply below_drew1 | refine below_set ?_ GE101.out | refine below_set ?_ GE102.out) | exact HB.out)))); have n1_ := Aside0.mk (blk_below (g := gb101) (o := .cells #[.string a1_0, .int .i64 a1_1, .int .i64 a1_2, .int .i64 a1_3, .int .i64 a1_4] 62 (0, 0)) (by (with_reducible repeat (first | refine blk_drewN ?_ _ | refine blk_drew ?_ | refine blk_alloc ?_ _)); exact BK101.out) hb); have n2_ := Aside0.mk (blk_below (g := gb102) (o := .cells #[.string a2_0, .int .i64 a2_1, .int .i64 a2_2, .int .i64 a2_3] 60 (0, 0)) (by (with_reducible repeat (first | refine blk_drewN ?_ _ | refine blk_drew ?_ | refine blk_alloc ?_ _)); exact BK102.out) hb); have n3_ := Aside0.mk (below_step (by repeat (first | (with_reducible first | exact HB.out | apply below_alloc | apply pw_below_drewN | apply below_drew1 | refine below_set ?_ GE101.out | refine below_set ?_ GE102.out) | exact HB.out)) hb); clear BK101; clear BK102; clear HB; have HO105 := n0_; have BK101 := n1_; have BK102 := n2_; have HB := n3_; clear n0_ n1_ n2_ n3_; (try clear hb); (try clear hb2); (try clear hk); (try clear hi); (try clear ho0); have hcz20_0 : w19.cell? ⟨gb101, 0, none⟩ = some (.string a1_0) := (blk_cell BK101.out 0).trans rfl; have hcz20_1 : w19.cell? ⟨gb101, 1, none⟩ = some (.int .i64 a1_1) := (blk_cell BK101.out 1).trans rfl; have hcz20_2 : w19.cell? ⟨gb101, 2, none⟩ = some (.int .i64 a1_2) := (blk_cell BK101.out 2).trans rfl; have hcz20_3 : w19.cell? ⟨gb101, 3, none⟩ = some (.int .i64 a1_3) := (blk_cell BK101.out 3).trans rfl; have hcz20_4 : w19.cell? ⟨gb101, 4, none⟩ = some (.int .i64 a1_4) := (blk_cell BK101.out 4).trans rfl; have hfz20_0 := blk_frozen BK101.out 0; have hfz20_1 := blk_frozen BK101.out 1; have hfz20_2 := blk_frozen BK101.out 2; have hfz20_3 := blk_frozen BK101.out 3; have hfz20_4 := blk_frozen BK101.out 4; obtain ⟨Ao21, co21, eo21⟩ := Kd.R_slice HO105.out; subst eo21) | ((with_reducible refine gate_callee (f := 31) rfl ?_); refine goesL_ (some 33) rfl rfl Try.func31 (by kernel_rfl) rfl #[.slice Ao21 t103.length co21, .agg #[.string a1_0, .int .i64 a1_1, .int .i64 a1_2, .int .i64 a1_3]] rfl (by (try simp only [List.map_toArray, List.map_cons, List.map_nil]); first | done | rfl | (simp only [List.length_drop, List.length_take]; rfl)) ?_; (with_reducible refine (mark_Find.calls _ _ t103 a1_0 a1_1 a1_2 a1_3 t108 true _ ?side1 ?side2 A6.out).mono ?_); (case side1 => repeat (first | exact (Kd.R_reads' HO105.out).2.2 | (with_reducible refine Kd.C_alloc ?_ _) | (with_reducible refine Kd.C_drewN ?_ _) | (with_reducible refine Kd.C_drew ?_))); (case side2 => exact (Kd.R_reads' HO105.out).2.1); rintro e w22 ⟨rfl, hb⟩; refine ⟨_, rfl, ?_⟩; have n0_ := Aside0.mk (Kd.R_below (by (with_reducible repeat (first | apply Kd.R_alloc | apply Kd.R_drewN | apply Kd.R_drew)); exact HO105.out) hb); have n1_ := Aside0.mk (blk_below (g := gb101) (o := .cells #[.string a1_0, .int .i64 a1_1, .int .i64 a1_2, .int .i64 a1_3, .int .i64 a1_4] 62 (0, 0)) (by (with_reducible repeat (first | refine blk_drewN ?_ _ | refine blk_drew ?_ | refine blk_alloc ?_ _)); exact BK101.out) hb); have n2_ := Aside0.mk (blk_below (g := gb102) (o := .cells #[.string a2_0, .int .i64 a2_1, .int .i64 a2_2, .int .i64 a2_3] 60 (0, 0)) (by (with_reducible repeat (first | refine blk_drewN ?_ _ | refine blk_drew ?_ | refine blk_alloc ?_ _)); exact BK102.out) hb); have n3_ := Aside0.mk (below_step (by repeat (first | (with_reducible first | exact HB.out | apply below_alloc | apply pw_below_drewN | apply below_drew1 | refine below_set ?_ GE101.out | refine below_set ?_ GE102.out) | exact HB.out)) hb); clear HO105; clear BK101; clear BK102; clear HB; have HO105 := n0_; have BK101 := n1_; have BK102 := n2_; have HB := n3_; clear n0_ n1_ n2_ n3_; (try clear hb); (try clear hb2); (try clear hk); (try clear hi); have hcz23_0 : w22.cell? ⟨gb102, 0, none⟩ = some (.string a2_0) := (blk_cell BK102.out 0).trans rfl; have hcz23_1 : w22.cell? ⟨gb102, 1, none⟩ = some (.int .i64 a2_1) := (blk_cell BK102.out 1).trans rfl; have hcz23_2 : w22.cell? ⟨gb102, 2, none⟩ = some (.int .i64 a2_2) := (blk_cell BK102.out 2).trans rfl; have hcz23_3 : w22.cell? ⟨gb102, 3, none⟩ = some (.int .i64 a2_3) := (blk_cell BK102.out 3).trans rfl; have hfz23_0 := blk_frozen BK102.out 0; have hfz23_1 := blk_frozen BK102.out 1; have hfz23_2 := blk_frozen BK102.out 2; have hfz23_3 := blk_frozen BK102.out 3) | ((with_reducible refine gate_callee (f := 31) rfl ?_); refine goesL_ (some 39) rfl rfl Try.func31 (by kernel_rfl) rfl #[.slice A0 l0.length c0, .agg #[.string a2_0, .int .i64 a2_1, .int .i64 a2_2, .int .i64 a2_3]] rfl (by (try simp only [List.map_toArray, List.map_cons, List.map_nil]); first | done | rfl | (simp only [List.length_drop, List.length_take]; rfl)) ?_; (with_reducible refine (mark_Find.calls _ _ l0 a2_0 a2_1 a2_2 a2_3 t110 t111 _ ?side1 ?side2 A7.out).mono ?_); (case side1 => repeat (first | exact (Kd.C_below HR0.out HB.out) | (with_reducible refine Kd.C_alloc ?_ _) | (with_reducible refine Kd.C_drewN ?_ _) | (with_reducible refine Kd.C_drew ?_))); (case side2 => exact HC0.out); rintro e w24 ⟨rfl, hb⟩; refine ⟨_, rfl, ?_⟩; have n0_ := Aside0.mk (Kd.R_below (by (with_reducible repeat (first | apply Kd.R_alloc | apply Kd.R_drewN | apply Kd.R_drew)); exact HO105.out) hb); have n1_ := Aside0.mk (blk_below (g := gb101) (o := .cells #[.string a1_0, .int .i64 a1_1, .int .i64 a1_2, .int .i64 a1_3, .int .i64 a1_4] 62 (0, 0)) (by (with_reducible repeat (first | refine blk_drewN ?_ _ | refine blk_drew ?_ | refine blk_alloc ?_ _)); exact BK101.out) hb); have n2_ := Aside0.mk (blk_below (g := gb102) (o := .cells #[.string a2_0, .int .i64 a2_1, .int .i64 a2_2, .int .i64 a2_3] 60 (0, 0)) (by (with_reducible repeat (first | refine blk_drewN ?_ _ | refine blk_drew ?_ | refine blk_alloc ?_ _)); exact BK102.out) hb); have n3_ := Aside0.mk (below_step (by repeat (first | (with_reducible first | exact HB.out | apply below_alloc | apply pw_below_drewN | apply below_drew1 | refine below_set ?_ GE101.out | refine below_set ?_ GE102.out) | exact HB.out)) hb); clear HO105; clear BK101; clear BK102; clear HB; have HO105 := n0_; have BK101 := n1_; have BK102 := n2_; have HB := n3_; clear n0_ n1_ n2_ n3_; (try clear hb); (try clear hb2); (try clear hk); (try clear hi); have hcz25_0 : w24.cell? ⟨gb102, 0, none⟩ = some (.string a2_0) := (blk_cell BK102.out 0).trans rfl; have hcz25_1 : w24.cell? ⟨gb102, 1, none⟩ = some (.int .i64 a2_1) := (blk_cell BK102.out 1).trans rfl; have hcz25_2 : w24.cell? ⟨gb102, 2, none⟩ = some (.int .i64 a2_2) := (blk_cell BK102.out 2).trans rfl; have hcz25_3 : w24.cell? ⟨gb102, 3, none⟩ = some (.int .i64 a2_3) := (blk_cell BK102.out 3).trans rfl; have hfz25_0 := blk_frozen BK102.out 0; have hfz25_1 := blk_frozen BK102.out 1; have hfz25_2 := blk_frozen BK102.out 2; have hfz25_3 := blk_frozen BK102.out 3) | ((with_reducible refine gate_callee (f := 31) rfl ?_); refine goesL_ (some 45) rfl rfl Try.func31 (by kernel_rfl) rfl #[.slice Ao21 t103.length co21, .agg #[.string a2_0, .int .i64 a2_1, .int .i64 a2_2, .int .i64 a2_3]] rfl (by (try simp only [List.map_toArray, List.map_cons, List.map_nil]); first | done | rfl | (simp only [List.length_drop, List.length_take]; rfl)) ?_; (with_reducible refine (mark_Find.calls _ _ t103 a2_0 a2_1 a2_2 a2_3 t112 t113 _ ?side1 ?side2 A8.out).mono ?_); (case side1 => repeat (first | exact (Kd.R_reads' HO105.out).2.2 | (with_reducible refine Kd.C_alloc ?_ _) | (with_reducible refine Kd.C_drewN ?_ _) | (with_reducible refine Kd.C_drew ?_))); (case side2 => exact (Kd.R_reads' HO105.out).2.1); rintro e w26 ⟨rfl, hb⟩; refine ⟨_, rfl, ?_⟩; have n0_ := Aside0.mk (Kd.R_below (by (with_reducible repeat (first | apply Kd.R_alloc | apply Kd.R_drewN | apply Kd.R_drew)); exact HO105.out) hb); have n1_ := Aside0.mk (blk_below (g := gb101) (o := .cells #[.string a1_0, .int .i64 a1_1, .int .i64 a1_2, .int .i64 a1_3, .int .i64 a1_4] 62 (0, 0)) (by (with_reducible repeat (first | refine blk_drewN ?_ _ | refine blk_drew ?_ | refine blk_alloc ?_ _)); exact BK101.out) hb); have n2_ := Aside0.mk (blk_below (g := gb102) (o := .cells #[.string a2_0, .int .i64 a2_1, .int .i64 a2_2, .int .i64 a2_3] 60 (0, 0)) (by (with_reducible repeat (first | refine blk_drewN ?_ _ | refine blk_drew ?_ | refine blk_alloc ?_ _)); exact BK102.out) hb); have n3_ := Aside0.mk (below_step (by repeat (first | (with_reducible first | exact HB.out | apply below_alloc | apply pw_below_drewN | apply below_drew1 | refine below_set ?_ GE101.out | refine below_set ?_ GE102.out) | exact HB.out)) hb); clear HO105; clear BK101; clear BK102; clear HB; have HO105 := n0_; have BK101 := n1_; have BK102 := n2_; have HB := n3_; clear n0_ n1_ n2_ n3_; (try clear hb); (try clear hb2); (try clear hk); (try clear hi); have hcz27_0 : w26.cell? ⟨gb101, 0, none⟩ = some (.string a1_0) := (blk_cell BK101.out 0).trans rfl; have hcz27_1 : w26.cell? ⟨gb101, 1, none⟩ = some (.int .i64 a1_1) := (blk_cell BK101.out 1).trans rfl; have hcz27_2 : w26.cell? ⟨gb101, 2, none⟩ = some (.int .i64 a1_2) := (blk_cell BK101.out 2).trans rfl; have hcz27_3 : w26.cell? ⟨gb101, 3, none⟩ = some (.int .i64 a1_3) := (blk_cell BK101.out 3).trans rfl; have hcz27_4 : w26.cell? ⟨gb101, 4, none⟩ = some (.int .i64 a1_4) := (blk_cell BK101.out 4).trans rfl; have hfz27_0 := blk_frozen BK101.out 0; have hfz27_1 := blk_frozen BK101.out 1; have hfz27_2 := blk_frozen BK101.out 2; have hfz27_3 := blk_frozen BK101.out 3; have hfz27_4 := blk_frozen BK101.out 4; have hcz28_0 : w26.cell? ⟨gb102, 0, none⟩ = some (.string a2_0) := (blk_cell BK102.out 0).trans rfl; have hcz28_1 : w26.cell? ⟨gb102, 1, none⟩ = some (.int .i64 a2_1) := (blk_cell BK102.out 1).trans rfl; have hcz28_2 : w26.cell? ⟨gb102, 2, none⟩ = some (.int .i64 a2_2) := (blk_cell BK102.out 2).trans rfl; have hcz28_3 : w26.cell? ⟨gb102, 3, none⟩ = some (.int .i64 a2_3) := (blk_cell BK102.out 3).trans rfl; have hfz28_0 := blk_frozen BK102.out 0; have hfz28_1 := blk_frozen BK102.out 1; have hfz28_2 := blk_frozen BK102.out 2; have hfz28_3 := blk_frozen BK102.out 3) | (go_at_call 33; (with_reducible refine (mark_CheckAll.calls k _ _ t103 t114 _ ?side1 ?side2 A12.out).mono ?_); (case side1 => repeat (first | exact (Kd.R_reads' HO105.out).2.2 | (with_reducible refine Kd.C_alloc ?_ _) | (with_reducible refine Kd.C_drewN ?_ _) | (with_reducible refine Kd.C_drew ?_))); (case side2 => exact (Kd.R_reads' HO105.out).2.1); rintro e w29 ⟨rfl, hb⟩; have n0_ := Aside0.mk (Kd.R_below (by (with_reducible repeat (first | apply Kd.R_alloc | apply Kd.R_drewN | apply Kd.R_drew)); exact HO105.out) hb); have n1_ := Aside0.mk (blk_below (g := gb101) (o := .cells #[.string a1_0, .int .i64 a1_1, .int .i64 a1_2, .int .i64 a1_3, .int .i64 a1_4] 62 (0, 0)) (by (with_reducible repeat (first | refine blk_drewN ?_ _ | refine blk_drew ?_ | refine blk_alloc ?_ _)); exact BK101.out) hb); have n2_ := Aside0.mk (blk_below (g := gb102) (o := .cells #[.string a2_0, .int .i64 a2_1, .int .i64 a2_2, .int .i64 a2_3] 60 (0, 0)) (by (with_reducible repeat (first | refine blk_drewN ?_ _ | refine blk_drew ?_ | refine blk_alloc ?_ _)); exact BK102.out) hb); have n3_ := Aside0.mk (below_step (by repeat (first | (with_reducible first | exact HB.out | apply below_alloc | apply pw_below_drewN | apply below_drew1 | refine below_set ?_ GE101.out | refine below_set ?_ GE102.out) | exact HB.out)) hb); clear HO105; clear BK101; clear BK102; clear HB; have HO105 := n0_; have BK101 := n1_; have BK102 := n2_; have HB := n3_; clear n0_ n1_ n2_ n3_; (try clear hb); (try clear hb2); (try clear hk); (try clear hi)) | (go_at_call 20; (with_reducible refine (contangolaw18_goes.calls k  t115 _ A14.out).mono ?_); rintro e w30 ⟨rfl, hb⟩; have n0_ := Aside0.mk (Kd.R_below (by (with_reducible repeat (first | apply Kd.R_alloc | apply Kd.R_drewN | apply Kd.R_drew)); exact HO105.out) hb); have n1_ := Aside0.mk (blk_below (g := gb101) (o := .cells #[.string a1_0, .int .i64 a1_1, .int .i64 a1_2, .int .i64 a1_3, .int .i64 a1_4] 62 (0, 0)) (by (with_reducible repeat (first | refine blk_drewN ?_ _ | refine blk_drew ?_ | refine blk_alloc ?_ _)); exact BK101.out) hb); have n2_ := Aside0.mk (blk_below (g := gb102) (o := .cells #[.string a2_0, .int .i64 a2_1, .int .i64 a2_2, .int .i64 a2_3] 60 (0, 0)) (by (with_reducible repeat (first | refine blk_drewN ?_ _ | refine blk_drew ?_ | refine blk_alloc ?_ _)); exact BK102.out) hb); have n3_ := Aside0.mk (below_step (by repeat (first | (with_reducible first | exact HB.out | apply below_alloc | apply pw_below_drewN | apply below_drew1 | refine below_set ?_ GE101.out | refine below_set ?_ GE102.out) | exact HB.out)) hb); clear HO105; clear BK101; clear BK102; clear HB; have HO105 := n0_; have BK101 := n1_; have BK102 := n2_; have HB := n3_; clear n0_ n1_ n2_ n3_; (try clear hb); (try clear hb2); (try clear hk); (try clear hi)))
            go_ret
            exact ⟨by first | rfl | (simp [errW_none, errW_some] <;> rfl) | (simp [*, errW_none, errW_some] <;> rfl), by repeat (first | (with_reducible first | exact HB.out | apply below_alloc | apply pw_below_drewN | apply below_drew1 | refine below_set ?_ GE101.out | refine below_set ?_ GE102.out) | exact HB.out)⟩
          · rw [if_neg c13] at H
            exact absurd H (by simp)
        · rw [if_neg c11] at H
          have c11b0 : (a2_0.toList == a1_0.toList && (a2_1 == a1_1 && (a2_2 == a1_2 && (a2_3 == a1_3)))) = false := by simpa using c11
          (try (have c11b1 : decide (a2_0.toList = a1_0.toList && (a2_1 == a1_1 && (a2_2 == a1_2 && (a2_3 == a1_3)))) = false := by simpa using c11))
          (try (have c11b2 : (a2_0.toList == a1_0.toList && (a2_1 == a1_1 && (a2_2 == a1_2 && (a2_3 == a1_3)))) = false := by simpa using c11))
          (try (have c11b3 : ¬ (a2_0.toList = a1_0.toList && (a2_1 == a1_1 && (a2_2 == a1_2 && (a2_3 == a1_3)))) := by simpa using c11))
          clear c11
          by_cases c31 : t110 = t112
          · rw [if_pos c31] at H
            have c31b0 : (t110 == t112) = true := beq_iff_eq.mpr c31
            have c31b1 : (t110 != t112) = false := bne_eq_false_iff_eq.mpr c31
            clear c31
            by_cases c32 : (t111 == t113) = true
            · rw [if_pos c32] at H
              have c32b0 : (t111 == t113) = true := c32
              (try (have c32b1 : decide (t111 = t113) = true := by simpa using c32))
              (try (have c32b2 : (t111 == t113) = true := by simpa using c32))
              clear c32
              replace H := Option.bind_eq_some_iff.mp H
              obtain ⟨t116, A330, H⟩ := H
              replace H : (if t116 = 0 then ((contangolaw18_goes.f k).bind fun t117 => (some t117)) else (none)) = some r := H
              have A33 := Aside0.mk A330
              clear A330
              by_cases c34 : t116 = 0
              · rw [if_pos c34] at H
                have c34b0 : (t116 == 0) = true := beq_iff_eq.mpr c34
                have c34b1 : (t116 != 0) = false := bne_eq_false_iff_eq.mpr c34
                clear c34
                replace H := Option.bind_eq_some_iff.mp H
                obtain ⟨t117, A350, H⟩ := H
                replace H : (some t117) = some r := H
                have A35 := Aside0.mk A350
                clear A350
                obtain rfl := Option.some.inj H
                go_enter Try.func11, Try.ntmps11
                go_wp2_with (first | ((with_reducible refine gate_dst (N := 4) rfl ?_); refine box_event ?hg (N := 4) ?hd (cs := #[.string a1_0, .int .i64 a1_1, .int .i64 a1_2, .int .i64 a1_3, .int .i64 a1_4]) (t := 62) ?hr ?_; (case hd => rfl); (case hg => rfl); (case hr => first | (go_simp; done) | (go_simp; rfl)); intro gb101 hg w36 hbox hb; have n0_ := Aside0.mk (below_step (by repeat (first | (with_reducible first | exact HB.out | apply below_alloc | apply pw_below_drewN | apply below_drew1) | exact HB.out)) hb); have n1_ := Aside0.mk (hbox); have n2_ := Aside0.mk ((by rw [hg]; exact (below_size (by repeat (first | (with_reducible first | exact HB.out | apply below_alloc | apply pw_below_drewN | apply below_drew1) | exact HB.out))) : w.heap.size ≤ gb101)); have n3_ := Aside0.mk ((by rw [hg]; exact (below_size (by repeat (first | (with_reducible first | exact HB.out | apply below_alloc | apply pw_below_drewN | apply below_drew1) | exact HB.out))) : w.heap.size ≤ gb101)); clear HB; have HB := n0_; have BK101 := n1_; have GW101 := n2_; have GE101 := n3_; clear n0_ n1_ n2_ n3_; clear hb hbox hg) | ((with_reducible refine gate_dst (N := 5) rfl ?_); refine box_event ?hg (N := 5) ?hd (cs := #[.string a2_0, .int .i64 a2_1, .int .i64 a2_2, .int .i64 a2_3]) (t := 60) ?hr ?_; (case hd => rfl); (case hg => rfl); (case hr => first | (go_simp; done) | (go_simp; rfl)); intro gb102 hg w37 hbox hb; have n0_ := Aside0.mk (blk_below (g := gb101) (o := .cells #[.string a1_0, .int .i64 a1_1, .int .i64 a1_2, .int .i64 a1_3, .int .i64 a1_4] 62 (0, 0)) (by (with_reducible repeat (first | refine blk_drewN ?_ _ | refine blk_drew ?_ | refine blk_alloc ?_ _)); exact BK101.out) hb); have n1_ := Aside0.mk (below_step (by repeat (first | (with_reducible first | exact HB.out | apply below_alloc | apply pw_below_drewN | apply below_drew1 | refine below_set ?_ GE101.out) | exact HB.out)) hb); have n2_ := Aside0.mk (hbox); have n3_ := Aside0.mk ((by rw [hg]; exact (below_size (by repeat (first | (with_reducible first | exact HB.out | apply below_alloc | apply pw_below_drewN | apply below_drew1 | refine below_set ?_ GE101.out) | exact HB.out))) : w.heap.size ≤ gb102)); have n4_ := Aside0.mk ((by rw [hg]; exact (below_size (by repeat (first | (with_reducible first | exact HB.out | apply below_alloc | apply pw_below_drewN | apply below_drew1 | refine below_set ?_ GE101.out) | exact HB.out))) : w.heap.size ≤ gb102)); have n5_ := Aside0.mk ((by rw [hg]; exact Nat.ne_of_lt (blk_lt (g := gb101) (o := .cells #[.string a1_0, .int .i64 a1_1, .int .i64 a1_2, .int .i64 a1_3, .int .i64 a1_4] 62 (0, 0)) (by (with_reducible repeat (first | refine blk_drewN ?_ _ | refine blk_drew ?_ | refine blk_alloc ?_ _)); exact BK101.out)) : gb101 ≠ gb102)); have n6_ := Aside0.mk ((by rw [hg]; exact Nat.ne_of_gt (blk_lt (g := gb101) (o := .cells #[.string a1_0, .int .i64 a1_1, .int .i64 a1_2, .int .i64 a1_3, .int .i64 a1_4] 62 (0, 0)) (by (with_reducible repeat (first | refine blk_drewN ?_ _ | refine blk_drew ?_ | refine blk_alloc ?_ _)); exact BK101.out)) : gb102 ≠ gb101)); clear BK101; clear HB; have BK101 := n0_; have HB := n1_; have BK102 := n2_; have GW102 := n3_; have GE102 := n4_; have NB101_102 := n5_; have NB102_101 := n6_; clear n0_ n1_ n2_ n3_ n4_ n5_ n6_; clear hb hbox hg; have hnb38 := NB101_102.out; have hnc38 := NB102_101.out; have hcz39_0 : w37.cell? ⟨gb101, 0, none⟩ = some (.string a1_0) := (blk_cell BK101.out 0).trans rfl; have hcz39_1 : w37.cell? ⟨gb101, 1, none⟩ = some (.int .i64 a1_1) := (blk_cell BK101.out 1).trans rfl; have hcz39_2 : w37.cell? ⟨gb101, 2, none⟩ = some (.int .i64 a1_2) := (blk_cell BK101.out 2).trans rfl; have hcz39_3 : w37.cell? ⟨gb101, 3, none⟩ = some (.int .i64 a1_3) := (blk_cell BK101.out 3).trans rfl; have hcz39_4 : w37.cell? ⟨gb101, 4, none⟩ = some (.int .i64 a1_4) := (blk_cell BK101.out 4).trans rfl; have hfz39_0 := blk_frozen BK101.out 0; have hfz39_1 := blk_frozen BK101.out 1; have hfz39_2 := blk_frozen BK101.out 2; have hfz39_3 := blk_frozen BK101.out 3; have hfz39_4 := blk_frozen BK101.out 4) | ((with_reducible refine gate_callee (f := 29) rfl ?_); refine goesL_ (some 18) rfl rfl Try.func29 (by kernel_rfl) rfl #[.slice A0 l0.length c0, .agg #[.string a1_0, .int .i64 a1_1, .int .i64 a1_2, .int .i64 a1_3, .int .i64 a1_4]] rfl (by (try simp only [List.map_toArray, List.map_cons, List.map_nil]); first | done | rfl | (simp only [List.length_drop, List.length_take]; rfl)) ?_; (with_reducible refine (mark_Put.calls k _ _ l0 a1_0 a1_1 a1_2 a1_3 a1_4 t103 t106 _ ?side1 ?side2 A4.out).mono ?_); (case side1 => repeat (first | exact (Kd.C_below HR0.out HB.out) | (with_reducible refine Kd.C_alloc ?_ _) | (with_reducible refine Kd.C_drewN ?_ _) | (with_reducible refine Kd.C_drew ?_))); (case side2 => exact HC0.out); rintro e w40 ⟨v104, rfl, ho0, hb⟩; refine ⟨_, rfl, ?_⟩; have n0_ := Aside0.mk (Kd.R_lower (Kd.R_newB ho0 (g := gb101) (o := .cells #[.string a1_0, .int .i64 a1_1, .int .i64 a1_2, .int .i64 a1_3, .int .i64 a1_4] 62 (0, 0)) (by (with_reducible repeat (first | refine blk_drewN ?_ _ | refine blk_drew ?_ | refine blk_alloc ?_ _)); exact BK101.out)) (below_size (by repeat (first | (with_reducible first | exact HB.out | apply below_alloc | apply pw_below_drewN | apply below_drew1 | refine below_set ?_ GE101.out | refine below_set ?_ GE102.out) | exact HB.out)))); have n1_ := Aside0.mk (blk_below (g := gb101) (o := .cells #[.string a1_0, .int .i64 a1_1, .int .i64 a1_2, .int .i64 a1_3, .int .i64 a1_4] 62 (0, 0)) (by (with_reducible repeat (first | refine blk_drewN ?_ _ | refine blk_drew ?_ | refine blk_alloc ?_ _)); exact BK101.out) hb); have n2_ := Aside0.mk (blk_below (g := gb102) (o := .cells #[.string a2_0, .int .i64 a2_1, .int .i64 a2_2, .int .i64 a2_3] 60 (0, 0)) (by (with_reducible repeat (first | refine blk_drewN ?_ _ | refine blk_drew ?_ | refine blk_alloc ?_ _)); exact BK102.out) hb); have n3_ := Aside0.mk (below_step (by repeat (first | (with_reducible first | exact HB.out | apply below_alloc | apply pw_below_drewN | apply below_drew1 | refine below_set ?_ GE101.out | refine below_set ?_ GE102.out) | exact HB.out)) hb); clear BK101; clear BK102; clear HB; have HO105 := n0_; have BK101 := n1_; have BK102 := n2_; have HB := n3_; clear n0_ n1_ n2_ n3_; (try clear hb); (try clear hb2); (try clear hk); (try clear hi); (try clear ho0); have hcz41_0 : w40.cell? ⟨gb101, 0, none⟩ = some (.string a1_0) := (blk_cell BK101.out 0).trans rfl; have hcz41_1 : w40.cell? ⟨gb101, 1, none⟩ = some (.int .i64 a1_1) := (blk_cell BK101.out 1).trans rfl; have hcz41_2 : w40.cell? ⟨gb101, 2, none⟩ = some (.int .i64 a1_2) := (blk_cell BK101.out 2).trans rfl; have hcz41_3 : w40.cell? ⟨gb101, 3, none⟩ = some (.int .i64 a1_3) := (blk_cell BK101.out 3).trans rfl; have hcz41_4 : w40.cell? ⟨gb101, 4, none⟩ = some (.int .i64 a1_4) := (blk_cell BK101.out 4).trans rfl; have hfz41_0 := blk_frozen BK101.out 0; have hfz41_1 := blk_frozen BK101.out 1; have hfz41_2 := blk_frozen BK101.out 2; have hfz41_3 := blk_frozen BK101.out 3; have hfz41_4 := blk_frozen BK101.out 4; obtain ⟨Ao42, co42, eo42⟩ := Kd.R_slice HO105.out; subst eo42) | ((with_reducible refine gate_callee (f := 31) rfl ?_); refine goesL_ (some 33) rfl rfl Try.func31 (by kernel_rfl) rfl #[.slice Ao42 t103.length co42, .agg #[.string a1_0, .int .i64 a1_1, .int .i64 a1_2, .int .i64 a1_3]] rfl (by (try simp only [List.map_toArray, List.map_cons, List.map_nil]); first | done | rfl | (simp only [List.length_drop, List.length_take]; rfl)) ?_; (with_reducible refine (mark_Find.calls _ _ t103 a1_0 a1_1 a1_2 a1_3 t108 true _ ?side1 ?side2 A6.out).mono ?_); (case side1 => repeat (first | exact (Kd.R_reads' HO105.out).2.2 | (with_reducible refine Kd.C_alloc ?_ _) | (with_reducible refine Kd.C_drewN ?_ _) | (with_reducible refine Kd.C_drew ?_))); (case side2 => exact (Kd.R_reads' HO105.out).2.1); rintro e w43 ⟨rfl, hb⟩; refine ⟨_, rfl, ?_⟩; have n0_ := Aside0.mk (Kd.R_below (by (with_reducible repeat (first | apply Kd.R_alloc | apply Kd.R_drewN | apply Kd.R_drew)); exact HO105.out) hb); have n1_ := Aside0.mk (blk_below (g := gb101) (o := .cells #[.string a1_0, .int .i64 a1_1, .int .i64 a1_2, .int .i64 a1_3, .int .i64 a1_4] 62 (0, 0)) (by (with_reducible repeat (first | refine blk_drewN ?_ _ | refine blk_drew ?_ | refine blk_alloc ?_ _)); exact BK101.out) hb); have n2_ := Aside0.mk (blk_below (g := gb102) (o := .cells #[.string a2_0, .int .i64 a2_1, .int .i64 a2_2, .int .i64 a2_3] 60 (0, 0)) (by (with_reducible repeat (first | refine blk_drewN ?_ _ | refine blk_drew ?_ | refine blk_alloc ?_ _)); exact BK102.out) hb); have n3_ := Aside0.mk (below_step (by repeat (first | (with_reducible first | exact HB.out | apply below_alloc | apply pw_below_drewN | apply below_drew1 | refine below_set ?_ GE101.out | refine below_set ?_ GE102.out) | exact HB.out)) hb); clear HO105; clear BK101; clear BK102; clear HB; have HO105 := n0_; have BK101 := n1_; have BK102 := n2_; have HB := n3_; clear n0_ n1_ n2_ n3_; (try clear hb); (try clear hb2); (try clear hk); (try clear hi); have hcz44_0 : w43.cell? ⟨gb102, 0, none⟩ = some (.string a2_0) := (blk_cell BK102.out 0).trans rfl; have hcz44_1 : w43.cell? ⟨gb102, 1, none⟩ = some (.int .i64 a2_1) := (blk_cell BK102.out 1).trans rfl; have hcz44_2 : w43.cell? ⟨gb102, 2, none⟩ = some (.int .i64 a2_2) := (blk_cell BK102.out 2).trans rfl; have hcz44_3 : w43.cell? ⟨gb102, 3, none⟩ = some (.int .i64 a2_3) := (blk_cell BK102.out 3).trans rfl; have hfz44_0 := blk_frozen BK102.out 0; have hfz44_1 := blk_frozen BK102.out 1; have hfz44_2 := blk_frozen BK102.out 2; have hfz44_3 := blk_frozen BK102.out 3) | ((with_reducible refine gate_callee (f := 31) rfl ?_); refine goesL_ (some 39) rfl rfl Try.func31 (by kernel_rfl) rfl #[.slice A0 l0.length c0, .agg #[.string a2_0, .int .i64 a2_1, .int .i64 a2_2, .int .i64 a2_3]] rfl (by (try simp only [List.map_toArray, List.map_cons, List.map_nil]); first | done | rfl | (simp only [List.length_drop, List.length_take]; rfl)) ?_; (with_reducible refine (mark_Find.calls _ _ l0 a2_0 a2_1 a2_2 a2_3 t110 t111 _ ?side1 ?side2 A7.out).mono ?_); (case side1 => repeat (first | exact (Kd.C_below HR0.out HB.out) | (with_reducible refine Kd.C_alloc ?_ _) | (with_reducible refine Kd.C_drewN ?_ _) | (with_reducible refine Kd.C_drew ?_))); (case side2 => exact HC0.out); rintro e w45 ⟨rfl, hb⟩; refine ⟨_, rfl, ?_⟩; have n0_ := Aside0.mk (Kd.R_below (by (with_reducible repeat (first | apply Kd.R_alloc | apply Kd.R_drewN | apply Kd.R_drew)); exact HO105.out) hb); have n1_ := Aside0.mk (blk_below (g := gb101) (o := .cells #[.string a1_0, .int .i64 a1_1, .int .i64 a1_2, .int .i64 a1_3, .int .i64 a1_4] 62 (0, 0)) (by (with_reducible repeat (first | refine blk_drewN ?_ _ | refine blk_drew ?_ | refine blk_alloc ?_ _)); exact BK101.out) hb); have n2_ := Aside0.mk (blk_below (g := gb102) (o := .cells #[.string a2_0, .int .i64 a2_1, .int .i64 a2_2, .int .i64 a2_3] 60 (0, 0)) (by (with_reducible repeat (first | refine blk_drewN ?_ _ | refine blk_drew ?_ | refine blk_alloc ?_ _)); exact BK102.out) hb); have n3_ := Aside0.mk (below_step (by repeat (first | (with_reducible first | exact HB.out | apply below_alloc | apply pw_below_drewN | apply below_drew1 | refine below_set ?_ GE101.out | refine below_set ?_ GE102.out) | exact HB.out)) hb); clear HO105; clear BK101; clear BK102; clear HB; have HO105 := n0_; have BK101 := n1_; have BK102 := n2_; have HB := n3_; clear n0_ n1_ n2_ n3_; (try clear hb); (try clear hb2); (try clear hk); (try clear hi); have hcz46_0 : w45.cell? ⟨gb102, 0, none⟩ = some (.string a2_0) := (blk_cell BK102.out 0).trans rfl; have hcz46_1 : w45.cell? ⟨gb102, 1, none⟩ = some (.int .i64 a2_1) := (blk_cell BK102.out 1).trans rfl; have hcz46_2 : w45.cell? ⟨gb102, 2, none⟩ = some (.int .i64 a2_2) := (blk_cell BK102.out 2).trans rfl; have hcz46_3 : w45.cell? ⟨gb102, 3, none⟩ = some (.int .i64 a2_3) := (blk_cell BK102.out 3).trans rfl; have hfz46_0 := blk_frozen BK102.out 0; have hfz46_1 := blk_frozen BK102.out 1; have hfz46_2 := blk_frozen BK102.out 2; have hfz46_3 := blk_frozen BK102.out 3) | ((with_reducible refine gate_callee (f := 31) rfl ?_); refine goesL_ (some 45) rfl rfl Try.func31 (by kernel_rfl) rfl #[.slice Ao42 t103.length co42, .agg #[.string a2_0, .int .i64 a2_1, .int .i64 a2_2, .int .i64 a2_3]] rfl (by (try simp only [List.map_toArray, List.map_cons, List.map_nil]); first | done | rfl | (simp only [List.length_drop, List.length_take]; rfl)) ?_; (with_reducible refine (mark_Find.calls _ _ t103 a2_0 a2_1 a2_2 a2_3 t112 t113 _ ?side1 ?side2 A8.out).mono ?_); (case side1 => repeat (first | exact (Kd.R_reads' HO105.out).2.2 | (with_reducible refine Kd.C_alloc ?_ _) | (with_reducible refine Kd.C_drewN ?_ _) | (with_reducible refine Kd.C_drew ?_))); (case side2 => exact (Kd.R_reads' HO105.out).2.1); rintro e w47 ⟨rfl, hb⟩; refine ⟨_, rfl, ?_⟩; have n0_ := Aside0.mk (Kd.R_below (by (with_reducible repeat (first | apply Kd.R_alloc | apply Kd.R_drewN | apply Kd.R_drew)); exact HO105.out) hb); have n1_ := Aside0.mk (blk_below (g := gb101) (o := .cells #[.string a1_0, .int .i64 a1_1, .int .i64 a1_2, .int .i64 a1_3, .int .i64 a1_4] 62 (0, 0)) (by (with_reducible repeat (first | refine blk_drewN ?_ _ | refine blk_drew ?_ | refine blk_alloc ?_ _)); exact BK101.out) hb); have n2_ := Aside0.mk (blk_below (g := gb102) (o := .cells #[.string a2_0, .int .i64 a2_1, .int .i64 a2_2, .int .i64 a2_3] 60 (0, 0)) (by (with_reducible repeat (first | refine blk_drewN ?_ _ | refine blk_drew ?_ | refine blk_alloc ?_ _)); exact BK102.out) hb); have n3_ := Aside0.mk (below_step (by repeat (first | (with_reducible first | exact HB.out | apply below_alloc | apply pw_below_drewN | apply below_drew1 | refine below_set ?_ GE101.out | refine below_set ?_ GE102.out) | exact HB.out)) hb); clear HO105; clear BK101; clear BK102; clear HB; have HO105 := n0_; have BK101 := n1_; have BK102 := n2_; have HB := n3_; clear n0_ n1_ n2_ n3_; (try clear hb); (try clear hb2); (try clear hk); (try clear hi); have hcz48_0 : w47.cell? ⟨gb101, 0, none⟩ = some (.string a1_0) := (blk_cell BK101.out 0).trans rfl; have hcz48_1 : w47.cell? ⟨gb101, 1, none⟩ = some (.int .i64 a1_1) := (blk_cell BK101.out 1).trans rfl; have hcz48_2 : w47.cell? ⟨gb101, 2, none⟩ = some (.int .i64 a1_2) := (blk_cell BK101.out 2).trans rfl; have hcz48_3 : w47.cell? ⟨gb101, 3, none⟩ = some (.int .i64 a1_3) := (blk_cell BK101.out 3).trans rfl; have hcz48_4 : w47.cell? ⟨gb101, 4, none⟩ = some (.int .i64 a1_4) := (blk_cell BK101.out 4).trans rfl; have hfz48_0 := blk_frozen BK101.out 0; have hfz48_1 := blk_frozen BK101.out 1; have hfz48_2 := blk_frozen BK101.out 2; have hfz48_3 := blk_frozen BK101.out 3; have hfz48_4 := blk_frozen BK101.out 4; have hcz49_0 : w47.cell? ⟨gb102, 0, none⟩ = some (.string a2_0) := (blk_cell BK102.out 0).trans rfl; have hcz49_1 : w47.cell? ⟨gb102, 1, none⟩ = some (.int .i64 a2_1) := (blk_cell BK102.out 1).trans rfl; have hcz49_2 : w47.cell? ⟨gb102, 2, none⟩ = some (.int .i64 a2_2) := (blk_cell BK102.out 2).trans rfl; have hcz49_3 : w47.cell? ⟨gb102, 3, none⟩ = some (.int .i64 a2_3) := (blk_cell BK102.out 3).trans rfl; have hfz49_0 := blk_frozen BK102.out 0; have hfz49_1 := blk_frozen BK102.out 1; have hfz49_2 := blk_frozen BK102.out 2; have hfz49_3 := blk_frozen BK102.out 3) | (go_at_call 33; (with_reducible refine (mark_CheckAll.calls k _ _ t103 t116 _ ?side1 ?side2 A33.out).mono ?_); (case side1 => repeat (first | exact (Kd.R_reads' HO105.out).2.2 | (with_reducible refine Kd.C_alloc ?_ _) | (with_reducible refine Kd.C_drewN ?_ _) | (with_reducible refine Kd.C_drew ?_))); (case side2 => exact (Kd.R_reads' HO105.out).2.1); rintro e w50 ⟨rfl, hb⟩; have n0_ := Aside0.mk (Kd.R_below (by (with_reducible repeat (first | apply Kd.R_alloc | apply Kd.R_drewN | apply Kd.R_drew)); exact HO105.out) hb); have n1_ := Aside0.mk (blk_below (g := gb101) (o := .cells #[.string a1_0, .int .i64 a1_1, .int .i64 a1_2, .int .i64 a1_3, .int .i64 a1_4] 62 (0, 0)) (by (with_reducible repeat (first | refine blk_drewN ?_ _ | refine blk_drew ?_ | refine blk_alloc ?_ _)); exact BK101.out) hb); have n2_ := Aside0.mk (blk_below (g := gb102) (o := .cells #[.string a2_0, .int .i64 a2_1, .int .i64 a2_2, .int .i64 a2_3] 60 (0, 0)) (by (with_reducible repeat (first | refine blk_drewN ?_ _ | refine blk_drew ?_ | refine blk_alloc ?_ _)); exact BK102.out) hb); have n3_ := Aside0.mk (below_step (by repeat (first | (with_reducible first | exact HB.out | apply below_alloc | apply pw_below_drewN | apply below_drew1 | refine below_set ?_ GE101.out | refine below_set ?_ GE102.out) | exact HB.out)) hb); clear HO105; clear BK101; clear BK102; clear HB; have HO105 := n0_; have BK101 := n1_; have BK102 := n2_; have HB := n3_; clear n0_ n1_ n2_ n3_; (try clear hb); (try clear hb2); (try clear hk); (try clear hi)) | (go_at_call 20; (with_reducible refine (contangolaw18_goes.calls k  t117 _ A35.out).mono ?_); rintro e w51 ⟨rfl, hb⟩; have n0_ := Aside0.mk (Kd.R_below (by (with_reducible repeat (first | apply Kd.R_alloc | apply Kd.R_drewN | apply Kd.R_drew)); exact HO105.out) hb); have n1_ := Aside0.mk (blk_below (g := gb101) (o := .cells #[.string a1_0, .int .i64 a1_1, .int .i64 a1_2, .int .i64 a1_3, .int .i64 a1_4] 62 (0, 0)) (by (with_reducible repeat (first | refine blk_drewN ?_ _ | refine blk_drew ?_ | refine blk_alloc ?_ _)); exact BK101.out) hb); have n2_ := Aside0.mk (blk_below (g := gb102) (o := .cells #[.string a2_0, .int .i64 a2_1, .int .i64 a2_2, .int .i64 a2_3] 60 (0, 0)) (by (with_reducible repeat (first | refine blk_drewN ?_ _ | refine blk_drew ?_ | refine blk_alloc ?_ _)); exact BK102.out) hb); have n3_ := Aside0.mk (below_step (by repeat (first | (with_reducible first | exact HB.out | apply below_alloc | apply pw_below_drewN | apply below_drew1 | refine below_set ?_ GE101.out | refine below_set ?_ GE102.out) | exact HB.out)) hb); clear HO105; clear BK101; clear BK102; clear HB; have HO105 := n0_; have BK101 := n1_; have BK102 := n2_; have HB := n3_; clear n0_ n1_ n2_ n3_; (try clear hb); (try clear hb2); (try clear hk); (try clear hi)))
                go_ret
                exact ⟨by first | rfl | (simp [errW_none, errW_some] <;> rfl) | (simp [*, errW_none, errW_some] <;> rfl), by repeat (first | (with_reducible first | exact HB.out | apply below_alloc | apply pw_below_drewN | apply below_drew1 | refine below_set ?_ GE101.out | refine below_set ?_ GE102.out) | exact HB.out)⟩
              · rw [if_neg c34] at H
                exact absurd H (by simp)
            · rw [if_neg c32] at H
              exact absurd H (by simp)
          · rw [if_neg c31] at H
            exact absurd H (by simp)
      · replace c10 := Bool.eq_false_iff.mpr c10
        subst c10
        have H1 : (none) = some r := by rw [if_neg (show ¬ (false = true) by decide)] at H; exact H
        clear H
        have H := H1
        clear H1
        exact absurd H (by simp)
    · rw [if_neg c9] at H
      exact absurd H (by simp)
  · rw [if_neg c5] at H
    have c5b0 : (t106 == 0) = false := beq_eq_false_iff_ne.mpr c5
    have c5b1 : (t106 != 0) = true := bne_iff_ne.mpr c5
    by_cases c52 : (t103.length : Int) = 0
    · rw [if_pos c52] at H
      have c52b0 : ((t103.length : Int) == 0) = true := beq_iff_eq.mpr c52
      have c52b1 : ((t103.length : Int) != 0) = false := bne_eq_false_iff_eq.mpr c52
      clear c52
      replace H := Option.bind_eq_some_iff.mp H
      obtain ⟨t107, A530, H⟩ := H
      replace H : (some t107) = some r := H
      have A53 := Aside0.mk A530
      clear A530
      obtain rfl := Option.some.inj H
      go_enter Try.func11, Try.ntmps11
      go_wp2_with (first | ((with_reducible refine gate_dst (N := 4) rfl ?_); refine box_event ?hg (N := 4) ?hd (cs := #[.string a1_0, .int .i64 a1_1, .int .i64 a1_2, .int .i64 a1_3, .int .i64 a1_4]) (t := 62) ?hr ?_; (case hd => rfl); (case hg => rfl); (case hr => first | (go_simp; done) | (go_simp; rfl)); intro gb101 hg w54 hbox hb; have n0_ := Aside0.mk (below_step (by repeat (first | (with_reducible first | exact HB.out | apply below_alloc | apply pw_below_drewN | apply below_drew1) | exact HB.out)) hb); have n1_ := Aside0.mk (hbox); have n2_ := Aside0.mk ((by rw [hg]; exact (below_size (by repeat (first | (with_reducible first | exact HB.out | apply below_alloc | apply pw_below_drewN | apply below_drew1) | exact HB.out))) : w.heap.size ≤ gb101)); have n3_ := Aside0.mk ((by rw [hg]; exact (below_size (by repeat (first | (with_reducible first | exact HB.out | apply below_alloc | apply pw_below_drewN | apply below_drew1) | exact HB.out))) : w.heap.size ≤ gb101)); clear HB; have HB := n0_; have BK101 := n1_; have GW101 := n2_; have GE101 := n3_; clear n0_ n1_ n2_ n3_; clear hb hbox hg) | ((with_reducible refine gate_dst (N := 5) rfl ?_); refine box_event ?hg (N := 5) ?hd (cs := #[.string a2_0, .int .i64 a2_1, .int .i64 a2_2, .int .i64 a2_3]) (t := 60) ?hr ?_; (case hd => rfl); (case hg => rfl); (case hr => first | (go_simp; done) | (go_simp; rfl)); intro gb102 hg w55 hbox hb; have n0_ := Aside0.mk (blk_below (g := gb101) (o := .cells #[.string a1_0, .int .i64 a1_1, .int .i64 a1_2, .int .i64 a1_3, .int .i64 a1_4] 62 (0, 0)) (by (with_reducible repeat (first | refine blk_drewN ?_ _ | refine blk_drew ?_ | refine blk_alloc ?_ _)); exact BK101.out) hb); have n1_ := Aside0.mk (below_step (by repeat (first | (with_reducible first | exact HB.out | apply below_alloc | apply pw_below_drewN | apply below_drew1 | refine below_set ?_ GE101.out) | exact HB.out)) hb); have n2_ := Aside0.mk (hbox); have n3_ := Aside0.mk ((by rw [hg]; exact (below_size (by repeat (first | (with_reducible first | exact HB.out | apply below_alloc | apply pw_below_drewN | apply below_drew1 | refine below_set ?_ GE101.out) | exact HB.out))) : w.heap.size ≤ gb102)); have n4_ := Aside0.mk ((by rw [hg]; exact (below_size (by repeat (first | (with_reducible first | exact HB.out | apply below_alloc | apply pw_below_drewN | apply below_drew1 | refine below_set ?_ GE101.out) | exact HB.out))) : w.heap.size ≤ gb102)); have n5_ := Aside0.mk ((by rw [hg]; exact Nat.ne_of_lt (blk_lt (g := gb101) (o := .cells #[.string a1_0, .int .i64 a1_1, .int .i64 a1_2, .int .i64 a1_3, .int .i64 a1_4] 62 (0, 0)) (by (with_reducible repeat (first | refine blk_drewN ?_ _ | refine blk_drew ?_ | refine blk_alloc ?_ _)); exact BK101.out)) : gb101 ≠ gb102)); have n6_ := Aside0.mk ((by rw [hg]; exact Nat.ne_of_gt (blk_lt (g := gb101) (o := .cells #[.string a1_0, .int .i64 a1_1, .int .i64 a1_2, .int .i64 a1_3, .int .i64 a1_4] 62 (0, 0)) (by (with_reducible repeat (first | refine blk_drewN ?_ _ | refine blk_drew ?_ | refine blk_alloc ?_ _)); exact BK101.out)) : gb102 ≠ gb101)); clear BK101; clear HB; have BK101 := n0_; have HB := n1_; have BK102 := n2_; have GW102 := n3_; have GE102 := n4_; have NB101_102 := n5_; have NB102_101 := n6_; clear n0_ n1_ n2_ n3_ n4_ n5_ n6_; clear hb hbox hg; have hnb56 := NB101_102.out; have hnc56 := NB102_101.out; have hcz57_0 : w55.cell? ⟨gb101, 0, none⟩ = some (.string a1_0) := (blk_cell BK101.out 0).trans rfl; have hcz57_1 : w55.cell? ⟨gb101, 1, none⟩ = some (.int .i64 a1_1) := (blk_cell BK101.out 1).trans rfl; have hcz57_2 : w55.cell? ⟨gb101, 2, none⟩ = some (.int .i64 a1_2) := (blk_cell BK101.out 2).trans rfl; have hcz57_3 : w55.cell? ⟨gb101, 3, none⟩ = some (.int .i64 a1_3) := (blk_cell BK101.out 3).trans rfl; have hcz57_4 : w55.cell? ⟨gb101, 4, none⟩ = some (.int .i64 a1_4) := (blk_cell BK101.out 4).trans rfl; have hfz57_0 := blk_frozen BK101.out 0; have hfz57_1 := blk_frozen BK101.out 1; have hfz57_2 := blk_frozen BK101.out 2; have hfz57_3 := blk_frozen BK101.out 3; have hfz57_4 := blk_frozen BK101.out 4) | ((with_reducible refine gate_callee (f := 29) rfl ?_); refine goesL_ (some 18) rfl rfl Try.func29 (by kernel_rfl) rfl #[.slice A0 l0.length c0, .agg #[.string a1_0, .int .i64 a1_1, .int .i64 a1_2, .int .i64 a1_3, .int .i64 a1_4]] rfl (by (try simp only [List.map_toArray, List.map_cons, List.map_nil]); first | done | rfl | (simp only [List.length_drop, List.length_take]; rfl)) ?_; (with_reducible refine (mark_Put.calls k _ _ l0 a1_0 a1_1 a1_2 a1_3 a1_4 t103 t106 _ ?side1 ?side2 A4.out).mono ?_); (case side1 => repeat (first | exact (Kd.C_below HR0.out HB.out) | (with_reducible refine Kd.C_alloc ?_ _) | (with_reducible refine Kd.C_drewN ?_ _) | (with_reducible refine Kd.C_drew ?_))); (case side2 => exact HC0.out); rintro e w58 ⟨v104, rfl, ho0, hb⟩; refine ⟨_, rfl, ?_⟩; have n0_ := Aside0.mk (Kd.R_lower (Kd.R_newB ho0 (g := gb101) (o := .cells #[.string a1_0, .int .i64 a1_1, .int .i64 a1_2, .int .i64 a1_3, .int .i64 a1_4] 62 (0, 0)) (by (with_reducible repeat (first | refine blk_drewN ?_ _ | refine blk_drew ?_ | refine blk_alloc ?_ _)); exact BK101.out)) (below_size (by repeat (first | (with_reducible first | exact HB.out | apply below_alloc | apply pw_below_drewN | apply below_drew1 | refine below_set ?_ GE101.out | refine below_set ?_ GE102.out) | exact HB.out)))); have n1_ := Aside0.mk (blk_below (g := gb101) (o := .cells #[.string a1_0, .int .i64 a1_1, .int .i64 a1_2, .int .i64 a1_3, .int .i64 a1_4] 62 (0, 0)) (by (with_reducible repeat (first | refine blk_drewN ?_ _ | refine blk_drew ?_ | refine blk_alloc ?_ _)); exact BK101.out) hb); have n2_ := Aside0.mk (blk_below (g := gb102) (o := .cells #[.string a2_0, .int .i64 a2_1, .int .i64 a2_2, .int .i64 a2_3] 60 (0, 0)) (by (with_reducible repeat (first | refine blk_drewN ?_ _ | refine blk_drew ?_ | refine blk_alloc ?_ _)); exact BK102.out) hb); have n3_ := Aside0.mk (below_step (by repeat (first | (with_reducible first | exact HB.out | apply below_alloc | apply pw_below_drewN | apply below_drew1 | refine below_set ?_ GE101.out | refine below_set ?_ GE102.out) | exact HB.out)) hb); clear BK101; clear BK102; clear HB; have HO105 := n0_; have BK101 := n1_; have BK102 := n2_; have HB := n3_; clear n0_ n1_ n2_ n3_; (try clear hb); (try clear hb2); (try clear hk); (try clear hi); (try clear ho0); obtain ⟨Ao59, co59, eo59⟩ := Kd.R_slice HO105.out; subst eo59) | (go_at_call 20; (with_reducible refine (contangolaw18_goes.calls k  t107 _ A53.out).mono ?_); rintro e w60 ⟨rfl, hb⟩; have n0_ := Aside0.mk (Kd.R_below (by (with_reducible repeat (first | apply Kd.R_alloc | apply Kd.R_drewN | apply Kd.R_drew)); exact HO105.out) hb); have n1_ := Aside0.mk (blk_below (g := gb101) (o := .cells #[.string a1_0, .int .i64 a1_1, .int .i64 a1_2, .int .i64 a1_3, .int .i64 a1_4] 62 (0, 0)) (by (with_reducible repeat (first | refine blk_drewN ?_ _ | refine blk_drew ?_ | refine blk_alloc ?_ _)); exact BK101.out) hb); have n2_ := Aside0.mk (blk_below (g := gb102) (o := .cells #[.string a2_0, .int .i64 a2_1, .int .i64 a2_2, .int .i64 a2_3] 60 (0, 0)) (by (with_reducible repeat (first | refine blk_drewN ?_ _ | refine blk_drew ?_ | refine blk_alloc ?_ _)); exact BK102.out) hb); have n3_ := Aside0.mk (below_step (by repeat (first | (with_reducible first | exact HB.out | apply below_alloc | apply pw_below_drewN | apply below_drew1 | refine below_set ?_ GE101.out | refine below_set ?_ GE102.out) | exact HB.out)) hb); clear HO105; clear BK101; clear BK102; clear HB; have HO105 := n0_; have BK101 := n1_; have BK102 := n2_; have HB := n3_; clear n0_ n1_ n2_ n3_; (try clear hb); (try clear hb2); (try clear hk); (try clear hi)))
      go_ret
      exact ⟨by first | rfl | (simp [errW_none, errW_some] <;> rfl) | (simp [*, errW_none, errW_some] <;> rfl), by repeat (first | (with_reducible first | exact HB.out | apply below_alloc | apply pw_below_drewN | apply below_drew1 | refine below_set ?_ GE101.out | refine below_set ?_ GE102.out) | exact HB.out)⟩
    · rw [if_neg c52] at H
      exact absurd H (by simp)
end Go.Proofs.Ytocndpddghefhaa.X
end
section
namespace Go.Proofs.Ytocndpddghefhaa.Opn
open Go.ChangeShapes Go.WideShapes Go.Proofs.YtocndpddghefhaaW.PrintWords
set_option linter.unusedVariables false
set_option linter.unusedSimpArgs false
structure Opens (P : Program) (t : TypeId) {α : Type} (d : Kd α) (Ok : α → Prop) : Prop where
  sz : d.sz = P.cellsOf t
  opens : ∀ {H : Type} {enc : TypeId × Value → H} {w : World} {base : Nat} {spare : Nat → Bool} {held : Bool} {fuel : Nat} {cs : List Value} {x : DataW H × List MemPlace},
    DataW.trod enc P w base spare held fuel t cs = some x → (∀ n ∈ x.1.weights P t, n ≤ reachBytes) → ∃ v, d.K w v cs ∧ Ok v
theorem opens_int {P : Program} {t : TypeId} {k : IntKind} (ht : P.underlying t = some (.int k)) (hc : P.cellsOf t = 1) : Opens P t (Kd.int k) (fun n => (Lit.int k n).wf = true) := by
  refine ⟨hc.symm, fun h _ => ?_⟩
  obtain ⟨n, rfl, _, hw⟩ := DataW.trod_int ht h
  exact ⟨n, rfl, hw⟩
theorem opens_string {P : Program} {t : TypeId} (ht : P.underlying t = some .string) (hc : P.cellsOf t = 1) : Opens P t Kd.string (fun s => s.size ≤ 140737488351232) := by
  refine ⟨hc.symm, fun h hw => ?_⟩
  obtain ⟨s, rfl, rfl, hs⟩ := DataW.trod_string ht h
  refine ⟨s, rfl, ?_⟩
  have := hw s.data.toList.length (by simp [DataW.weights])
  rw [Array.length_toList] at this
  exact this
theorem weights_all {H : Type} {P : Program} {e : TypeId} : ∀ {ds : List (DataW H)} {j : Nat} {d : DataW H}, ds[j]? = some d → ∀ n ∈ d.weights P e, n ∈ DataW.weightsAll P e ds
  | d0 :: ds, 0, d, hd, n, hn => by
    simp only [List.getElem?_cons_zero, Option.some.injEq] at hd
    subst hd
    simp only [DataW.weightsAll, List.mem_append]
    exact Or.inl hn
  | d0 :: ds, j + 1, d, hd, n, hn => by
    simp only [List.getElem?_cons_succ] at hd
    simp only [DataW.weightsAll, List.mem_append]
    exact Or.inr (weights_all hd n hn)
  | [], _, _, hd, _, _ => by simp at hd
theorem list_of {α : Type} {n : Nat} {p : Nat → α → Prop} (h : ∀ i, i < n → ∃ x, p i x) : ∃ l : List α, l.length = n ∧ ∀ i x, l[i]? = some x → p i x := by
  induction n with
  | zero => exact ⟨[], rfl, fun i x hx => by simp at hx⟩
  | succ n ih =>
    obtain ⟨l, hl, hp⟩ := ih (fun i hi => h i (by omega))
    obtain ⟨x, hx⟩ := h n (by omega)
    refine ⟨l ++ [x], by simp [hl], fun i y hy => ?_⟩
    by_cases hi : i < l.length
    · rw [List.getElem?_append_left hi] at hy
      exact hp i y hy
    · rw [List.getElem?_append_right (by omega)] at hy
      have : i - l.length = 0 := by
        cases hk : i - l.length with
        | zero => rfl
        | succ m => rw [hk] at hy; simp at hy
      rw [this] at hy
      simp at hy
      subst hy
      have : i = n := by omega
      subst this
      exact hx
theorem opens_slice {P : Program} {t e : TypeId} {α : Type} {d : Kd α} {Ok : α → Prop} (h : Opens P e d Ok) (ht : P.underlying t = some (.slice e)) (hc : P.cellsOf t = 1) {B : Nat} (hB : P.bytesOf e = B) :
    Opens P t (Kd.slice e d) (fun l => l.length ≤ maxLen ∧ l.length * B ≤ 140737488351232 ∧ ∀ x ∈ l, Ok x) := by
  subst hB
  refine ⟨hc.symm, fun {H enc w base spare held fuel cs x} hx hw => ?_⟩
  rcases DataW.trod_slice ht hx with ⟨rfl, rfl⟩ | ⟨a, len, cap, elems, rest, n, _, rfl, rfl, hb, hl, hm, hlen, hel, hsp, hns⟩
  · exact ⟨[], ⟨none, 0, rfl, Nat.le_refl _, Kd.C_nil _ _⟩, by simp⟩
  simp only [DataW.weights, ht] at hw
  have hw1 : (elems.length + rest.length) * P.bytesOf e ≤ reachBytes := by
    have := hw ((elems.length + rest.length) * P.bytesOf e) (by simp)
    exact this
  have hone : ∀ i, i < len → ∃ v : α, ∃ c, w.cells? base (a.add (i * P.cellsOf e)) (P.cellsOf e) = some c ∧ d.K w v c ∧ Ok v := by
    intro i hi
    have h1 := hel i hi
    rw [List.getElem?_eq_getElem (by omega)] at h1
    obtain ⟨c, hc1, hc2⟩ := Option.bind_eq_some_iff.1 h1
    obtain ⟨v, hv, hok⟩ := h.opens hc2 (fun n hn => hw n (by
      simp only [List.mem_cons, List.mem_append]
      right; left
      refine weights_all (j := i) ?_ n hn
      rw [List.getElem?_map, List.getElem?_eq_getElem (by omega)]
      rfl))
    exact ⟨v, c, hc1, hv, hok⟩
  obtain ⟨l, hl1, hl2⟩ := list_of hone
  subst hl1
  refine ⟨l, ⟨some a, cap, rfl, hl, rfl, ?_, fun _ => ⟨a, rfl, fun j p hj => ?_⟩⟩, ?_, ?_, ?_⟩
  · unfold maxLen at hm; omega
  · obtain ⟨c, hc1, hc2, _⟩ := hl2 j p hj
    obtain ⟨_, hlen2, hcell⟩ := World.cells?_some hc1
    refine ⟨c, by rw [h.sz]; exact hlen2, hc2, fun i u hu => ?_⟩
    have hi : i < P.cellsOf e := by
      have := (List.getElem?_eq_some_iff.1 hu).1
      omega
    have := hcell i hi
    rw [hu, ← Deep.add_add, h.sz] at *
    exact this
  · exact Nat.le_trans hl hm
  · have h2 : l.length * P.bytesOf e ≤ (elems.length + rest.length) * P.bytesOf e := Nat.mul_le_mul_right _ (by omega)
    exact Nat.le_trans h2 hw1
  · intro x hx
    obtain ⟨j, hj⟩ := List.getElem?_of_mem hx
    obtain ⟨c, _, _, ho⟩ := hl2 j x hj
    exact ho
structure OpensF (P : Program) (fs : List Field) (off : Nat) {α : Type} (d : Kd α) (Ok : α → Prop) : Prop where
  opens : ∀ {H : Type} {enc : TypeId × Value → H} {w : World} {base : Nat} {spare : Nat → Bool} {held : Bool} {n : Nat} {cs : List Value} {xs : List (DataW H × List MemPlace)},
    xs.length = fs.length → (∀ (i : Nat) (f : Field), fs[i]? = some f → DataW.trod enc P w base spare held n f.type ((cs.drop f.offset).take (P.cellsOf f.type)) = xs[i]?) →
    (∀ m ∈ DataW.weightsEach P (fs.map (·.type)) (xs.map (·.1)), m ≤ reachBytes) → ∃ v, d.K w v ((cs.drop off).take d.sz) ∧ Ok v
theorem opensF_one {P : Program} {f : Field} {off : Nat} {α : Type} {d : Kd α} {Ok : α → Prop} (h : Opens P f.type d Ok) (ho : f.offset = off) : OpensF P [f] off d Ok := by
  refine ⟨fun {H enc w base spare held n cs xs} hl hx hw => ?_⟩
  match xs, hl with
  | [x], _ =>
    have h1 := hx 0 f rfl
    obtain ⟨v, hv, hok⟩ := h.opens h1 (fun n hn => hw n (by simpa [DataW.weightsEach] using hn))
    refine ⟨v, ?_, hok⟩
    rw [h.sz, ← ho]
    exact hv
theorem opensF_cons {P : Program} {f : Field} {fs : List Field} {off : Nat} {α β : Type} {d : Kd α} {d' : Kd β} {Ok : α → Prop} {Ok' : β → Prop} (h : Opens P f.type d Ok) (ho : f.offset = off) (h' : OpensF P fs (off + d.sz) d' Ok') :
    OpensF P (f :: fs) off (Kd.pair d d') (fun p => Ok p.1 ∧ Ok' p.2) := by
  refine ⟨fun {H enc w base spare held n cs xs} hl hx hw => ?_⟩
  match xs, hl with
  | x :: xs, hl =>
    have h1 := hx 0 f rfl
    obtain ⟨v, hv, hok⟩ := h.opens h1 (fun n hn => hw n (by
      simp only [List.map_cons, DataW.weightsEach, List.mem_append]; exact Or.inl hn))
    obtain ⟨v', hv', hok'⟩ := h'.opens (cs := cs) (xs := xs) (by simpa using hl) (fun i g hg => by
      have := hx (i + 1) g (by simpa using hg)
      simpa using this) (fun m hm => hw m (by simp only [List.map_cons, DataW.weightsEach, List.mem_append]; exact Or.inr hm))
    refine ⟨(v, v'), ⟨(cs.drop off).take d.sz, (cs.drop (off + d.sz)).take d'.sz, ?_, ?_, hv'⟩, hok, hok'⟩
    · show (cs.drop off).take (d.sz + d'.sz) = _
      rw [List.take_add, List.drop_drop]
    · rw [h.sz, ← ho]; exact hv
theorem opens_struct {P : Program} {t : TypeId} {fs : Array Field} {α β : Type} {d : Kd α} {Ok : α → Prop} (h : OpensF P fs.toList 0 d Ok) (ht : P.underlying t = some (.struct fs)) (hc : d.sz = P.cellsOf t) (f : β → α) (mk : α → β) (hf : ∀ a, f (mk a) = a) :
    Opens P t (Kd.iso d f) (fun b => Ok (f b)) := by
  refine ⟨hc, fun {H enc w base spare held fuel cs x} hx hw => ?_⟩
  obtain ⟨xs, n, _, rfl, hlen, hsz, hall⟩ := DataW.trod_struct ht hx
  simp only [DataW.weights, ht] at hw
  obtain ⟨v, hv, hok⟩ := h.opens (cs := cs) (xs := xs) (by simpa using hsz) (fun i f hf => hall i f (by simpa using hf)) hw
  refine ⟨mk v, ?_, by rw [hf]; exact hok⟩
  show d.K w (f (mk v)) cs
  rw [hf]
  rw [List.drop_zero, hc, ← hlen, List.take_length] at hv
  exact hv
theorem opens_imp {P : Program} {t : TypeId} {α : Type} {d : Kd α} {Ok Ok' : α → Prop} (h : Opens P t d Ok) (hi : ∀ v, Ok v → Ok' v) : Opens P t d Ok' :=
  ⟨h.sz, fun hx hw => let ⟨v, hv, ho⟩ := h.opens hx hw; ⟨v, hv, hi v ho⟩⟩
end Go.Proofs.Ytocndpddghefhaa.Opn
end
section
namespace Go.Proofs.Ytocndpddghefhaa.X
open Go.RowKit Go.Proofs.YtocndpddghefhaaW.PrintWords Go.Proofs.YtocndpddghefhaaW.PrintLast Go.Proofs.YtocndpddghefhaaW.PrintMore
attribute [local go_sem] max2_int min2_int max_two min_two max_three min_three max_four min_four
set_option linter.unusedVariables false
set_option linter.unusedSimpArgs false
def ok60 (v : S60) : Prop := v.f0.size ≤ 140737488351232 ∧ ((Lit.int .i64 v.f1).wf = true ∧ ((Lit.int .i64 v.f2).wf = true ∧ ((Lit.int .i64 v.f3).wf = true)))
theorem opens60 : Opn.Opens Try.prog 60 k60 ok60 := by
  have hu := Try.underlying60
  refine Opn.opens_imp (Opn.opens_struct (Ok := fun (p : ByteArray × (Int × (Int × (Int)))) => p.1.size ≤ 140737488351232 ∧ ((Lit.int .i64 p.2.1).wf = true ∧ ((Lit.int .i64 p.2.2.1).wf = true ∧ ((Lit.int .i64 p.2.2.2).wf = true)))) ?hF hu (by kernel_rfl) (fun x : S60 => (x.f0, x.f1, x.f2, x.f3)) (fun a => ⟨a.1, a.2.1, a.2.2.1, a.2.2.2⟩) (fun _ => rfl)) ?hI
  case hF =>
    refine Opn.opensF_cons (Ok := fun (p : ByteArray) => p.size ≤ 140737488351232) (Ok' := fun (p : Int × (Int × (Int))) => (Lit.int .i64 p.1).wf = true ∧ ((Lit.int .i64 p.2.1).wf = true ∧ ((Lit.int .i64 p.2.2).wf = true))) (h := ?_) (ho := ?_) (h' := ?_)
    · exact Opn.opens_string Try.underlying9 (by kernel_rfl)
    · rfl
    · skip
      refine Opn.opensF_cons (Ok := fun (p : Int) => (Lit.int .i64 p).wf = true) (Ok' := fun (p : Int × (Int)) => (Lit.int .i64 p.1).wf = true ∧ ((Lit.int .i64 p.2).wf = true)) (h := ?_) (ho := ?_) (h' := ?_)
      · exact Opn.opens_int Try.underlying3 (by kernel_rfl)
      · rfl
      · skip
        refine Opn.opensF_cons (Ok := fun (p : Int) => (Lit.int .i64 p).wf = true) (Ok' := fun (p : Int) => (Lit.int .i64 p).wf = true) (h := ?_) (ho := ?_) (h' := ?_)
        · exact Opn.opens_int Try.underlying3 (by kernel_rfl)
        · rfl
        · skip
          refine Opn.opensF_one (Ok := fun (p : Int) => (Lit.int .i64 p).wf = true) (h := ?_) (ho := ?_)
          · exact Opn.opens_int Try.underlying3 (by kernel_rfl)
          · rfl
  case hI => exact fun v h => h
def ok62 (v : S62) : Prop := ok60 v.f0 ∧ ((Lit.int .i64 v.f1).wf = true)
theorem opens62 : Opn.Opens Try.prog 62 k62 ok62 := by
  have hu := Try.underlying62
  refine Opn.opens_imp (Opn.opens_struct (Ok := fun (p : S60 × (Int)) => ok60 p.1 ∧ ((Lit.int .i64 p.2).wf = true)) ?hF hu (by kernel_rfl) (fun x : S62 => (x.f0, x.f1)) (fun a => ⟨a.1, a.2⟩) (fun _ => rfl)) ?hI
  case hF =>
    refine Opn.opensF_cons (Ok := fun (p : S60) => ok60 p) (Ok' := fun (p : Int) => (Lit.int .i64 p).wf = true) (h := ?_) (ho := ?_) (h' := ?_)
    · exact opens60
    · rfl
    · skip
      refine Opn.opensF_one (Ok := fun (p : Int) => (Lit.int .i64 p).wf = true) (h := ?_) (ho := ?_)
      · exact Opn.opens_int Try.underlying3 (by kernel_rfl)
      · rfl
  case hI => exact fun v h => h
end Go.Proofs.Ytocndpddghefhaa.X
end
section
namespace Go.Proofs.Ytocndpddghefhaa.P
open Go.RowKit Go.Proofs.YtocndpddghefhaaW.PrintWords Go.Proofs.YtocndpddghefhaaW.PrintMore Go.Proofs.Ytocndpddghefhaa.X
theorem Ev_succ {α : Type} {g : Nat → Option α} {r : α} (h : Ev (fun k => g (k + 1)) r) : Ev g r := Ev.step (fun _ => rfl) h
theorem Ev_bind {α β : Type} {g : Nat → Option α} {f : Nat → α → Option β} {a : α} {r : β} (h : Ev g a) (k : Ev (fun n => f n a) r) : Ev (fun n => (g n).bind (f n)) r := Ev.bind h k
theorem Ev_id {α : Type} {g : Nat → Option α} {r : α} (h : Ev g r) : Ev (fun n => (g n).bind fun x => some x) r := Ev.bind h (Ev.now _)
theorem w_id {x : Int} (h1 : -9223372036854775808 ≤ x) (h2 : x ≤ 9223372036854775807) : wrap64 x = x := by unfold wrap64; omega
theorem w_succ {i n : Nat} (h : i < n) (hn : n ≤ 9223372036854775807) : wrap64 ((i : Int) + 1) = ((i + 1 : Nat) : Int) := by rw [w_id (by omega) (by omega)]; omega
theorem w_pred {i : Nat} (h : 0 < i) (hn : i ≤ 9223372036854775807) : wrap64 ((i : Int) - 1) = ((i - 1 : Nat) : Int) := by rw [w_id (by omega) (by omega)]; omega
theorem drop_cons {α : Type} (l : List α) (i : Nat) (h : i < l.length) : l.drop i = l[i] :: l.drop (i + 1) := (List.getElem_cons_drop h).symm
theorem ba_ext {a b : ByteArray} (h : a.toList = b.toList) : a = b := by
  have e : ∀ c : ByteArray, c.toList = c.data.toList := fun c => ByteArray.toList_eq c
  rw [e, e] at h
  cases a; cases b
  congr 1
  exact Array.toList_inj.1 h
end Go.Proofs.Ytocndpddghefhaa.P
end
section
namespace Go.Proofs.Ytocndpddghefhaa.P
set_option linter.unusedVariables false
set_option linter.unusedSimpArgs false
open Go.RowKit Go.Proofs.YtocndpddghefhaaW.PrintWords Go.Proofs.YtocndpddghefhaaW.PrintMore Go.Proofs.Ytocndpddghefhaa.X
theorem bl_self : ∀ a : List UInt8, Op.bytesLess a a = false
  | [] => rfl
  | x :: a => by simp [Op.bytesLess, bl_self a]
theorem bl_not : ∀ a b : List UInt8, (!(Op.bytesLess a b || a == b)) = Op.bytesLess b a
  | [], [] => rfl
  | [], y :: b => by simp [Op.bytesLess]
  | x :: a, [] => by simp [Op.bytesLess]
  | x :: a, y :: b => by
    have ih := bl_not a b
    simp only [Op.bytesLess]
    by_cases h : x = y
    · subst h
      have : ¬ x < x := by simp
      simp only [this, decide_false, Bool.false_or, beq_self_eq_true, Bool.true_and, ← ih]
      congr 1
      simp
    · have h1 : (x == y) = false := by simpa using h
      have h2 : (y == x) = false := by simpa using fun e => h e.symm
      have h3 : (x :: a == y :: b) = false := by simp [h]
      rw [h1, h2, h3]
      simp only [Bool.false_and, Bool.or_false]
      have : decide (y < x) = !decide (x < y) := by
        rw [Bool.eq_iff_iff]
        simp only [decide_eq_true_eq, Bool.not_eq_true', decide_eq_false_iff_not, UInt8.lt_iff_toNat_lt]
        have : x.toNat ≠ y.toNat := fun e => h (UInt8.toNat_inj.1 e)
        omega
      rw [this]
theorem bl_eq {a b : List UInt8} (h : Op.bytesLess a b = false) (k : Op.bytesLess b a = false) : a = b := by
  have := bl_not a b
  rw [h, k] at this
  simpa using this
theorem bl_trans : ∀ a b c : List UInt8, Op.bytesLess a b = true → Op.bytesLess b c = true → Op.bytesLess a c = true
  | a, b, [], _, h => by cases b <;> simp [Op.bytesLess] at h
  | a, [], z :: c, h, _ => by cases a <;> simp [Op.bytesLess] at h
  | [], y :: b, z :: c, _, _ => by simp [Op.bytesLess]
  | x :: a, y :: b, z :: c, h, k => by
    simp only [Op.bytesLess, Bool.or_eq_true, Bool.and_eq_true, decide_eq_true_eq, beq_iff_eq] at h k ⊢
    rcases h with h | ⟨h, h'⟩ <;> rcases k with k | ⟨k, k'⟩
    · exact Or.inl (UInt8.lt_trans h k)
    · subst k; exact Or.inl h
    · subst h; exact Or.inl k
    · subst h k; exact Or.inr ⟨rfl, bl_trans a b c h' k'⟩
end Go.Proofs.Ytocndpddghefhaa.P
end
section
namespace Go.Proofs.Ytocndpddghefhaa.P
set_option linter.unusedVariables false
set_option linter.unusedSimpArgs false
open Go.RowKit Go.Proofs.YtocndpddghefhaaW.PrintWords Go.Proofs.YtocndpddghefhaaW.PrintMore Go.Proofs.Ytocndpddghefhaa.X
abbrev Ser := S60
def cmpI (a b : Int) : Int := if a < b then -1 else if a > b then 1 else 0
def cmpB (a b : ByteArray) : Int := if (Op.bytesLess a.toList b.toList) = true then -1 else if (Op.bytesLess b.toList a.toList) = true then 1 else 0
def cmpS (a b : Ser) : Int :=
  if a.f0.toList = b.f0.toList then (if a.f2 = b.f2 then (if a.f1 = b.f1 then cmpI a.f3 b.f3 else cmpI a.f1 b.f1) else cmpI a.f2 b.f2) else cmpB a.f0 b.f0
theorem cmpI_f (a b : Int) : cmp_Compare_int.f a b = some (cmpI a b) := by
  unfold cmp_Compare_int.f cmp_isNaN_int.f cmpI
  simp only [bne_self_eq_false, Option.bind_some, Bool.false_eq_true, if_false]
  split
  · rfl
  · split <;> rfl
theorem cmpB_f (a b : ByteArray) : cmp_Compare_string.f a b = some (cmpB a b) := by
  unfold cmp_Compare_string.f cmp_isNaN_string.f cmpB
  simp only [bne_self_eq_false, Option.bind_some, Bool.false_eq_true, if_false]
  split
  · rfl
  · split <;> rfl
theorem cmpS_f (a b : Ser) : series_Compare.f a.f0 a.f1 a.f2 a.f3 b.f0 b.f1 b.f2 b.f3 = some (cmpS a b) := by
  unfold series_Compare.f cmpS
  simp only [cmpI_f, cmpB_f, Option.bind_some]
  by_cases h0 : a.f0.toList = b.f0.toList
  · by_cases h2 : a.f2 = b.f2
    · by_cases h1 : a.f1 = b.f1
      · by_cases h3 : a.f3 = b.f3
        · simp [h0, h1, h2, h3, cmpI]
        · simp [h0, h1, h2, h3]
      · simp [h0, h1, h2]
    · simp [h0, h2]
  · simp [h0]
def eqS (a b : Ser) : Bool := a.f0.toList == b.f0.toList && (a.f1 == b.f1 && (a.f2 == b.f2 && a.f3 == b.f3))
theorem eqS_iff (a b : Ser) : eqS a b = true ↔ a = b := by
  constructor
  · intro h
    simp only [eqS, Bool.and_eq_true, beq_iff_eq] at h
    obtain ⟨h0, h1, h2, h3⟩ := h
    cases a; cases b
    simp only at h0 h1 h2 h3
    have := ba_ext h0
    subst this h1 h2 h3
    rfl
  · rintro rfl
    simp [eqS]
theorem eqS_refl (a : Ser) : eqS a a = true := (eqS_iff a a).2 rfl
theorem eqS_ne {a b : Ser} (h : a ≠ b) : eqS a b = false := by
  cases c : eqS a b with
  | false => rfl
  | true => exact absurd ((eqS_iff a b).1 c) h
theorem cmpS_lt (a b : Ser) : cmpS a b < 0 ↔ Op.bytesLess a.f0.toList b.f0.toList = true ∨ (a.f0.toList = b.f0.toList ∧ (a.f2 < b.f2 ∨ (a.f2 = b.f2 ∧ (a.f1 < b.f1 ∨ (a.f1 = b.f1 ∧ a.f3 < b.f3))))) := by
  by_cases h0 : a.f0.toList = b.f0.toList
  · have hb : Op.bytesLess a.f0.toList b.f0.toList = false := by rw [h0]; exact bl_self _
    have e : cmpS a b < 0 ↔ (a.f2 < b.f2 ∨ (a.f2 = b.f2 ∧ (a.f1 < b.f1 ∨ (a.f1 = b.f1 ∧ a.f3 < b.f3)))) := by
      unfold cmpS cmpI
      rw [if_pos h0]
      repeat' split
      all_goals omega
    rw [e, hb]
    exact ⟨fun h => Or.inr ⟨h0, h⟩, fun h => h.elim (fun x => by cases x) (fun x => x.2)⟩
  · have e : cmpS a b < 0 ↔ Op.bytesLess a.f0.toList b.f0.toList = true := by
      unfold cmpS cmpB
      rw [if_neg h0]
      by_cases h1 : Op.bytesLess a.f0.toList b.f0.toList = true
      · rw [if_pos h1]; exact ⟨fun _ => h1, fun _ => by omega⟩
      · rw [if_neg h1]
        refine ⟨fun h => ?_, fun h => absurd h h1⟩
        split at h <;> omega
    rw [e]
    exact ⟨Or.inl, fun h => h.elim id (fun x => absurd x.1 h0)⟩
theorem cmpS_zero {a b : Ser} (h : cmpS a b = 0) : a = b := by
  unfold cmpS at h
  by_cases h0 : a.f0.toList = b.f0.toList
  · rw [if_pos h0] at h
    unfold cmpI at h
    have : a.f2 = b.f2 ∧ a.f1 = b.f1 ∧ a.f3 = b.f3 := by
      by_cases h2 : a.f2 = b.f2
      · rw [if_pos h2] at h
        by_cases h1 : a.f1 = b.f1
        · rw [if_pos h1] at h
          refine ⟨h2, h1, ?_⟩
          split at h
          · omega
          · split at h <;> omega
        · rw [if_neg h1] at h
          split at h
          · omega
          · split at h <;> omega
      · rw [if_neg h2] at h
        split at h
        · omega
        · split at h <;> omega
    cases a; cases b
    simp only at h0 this
    have hb := ba_ext h0
    obtain ⟨e2, e1, e3⟩ := this
    subst hb e1 e2 e3
    rfl
  · rw [if_neg h0] at h
    unfold cmpB at h
    by_cases h1 : Op.bytesLess a.f0.toList b.f0.toList = true
    · rw [if_pos h1] at h; omega
    · rw [if_neg h1] at h
      by_cases h2 : Op.bytesLess b.f0.toList a.f0.toList = true
      · rw [if_pos h2] at h; omega
      · exact absurd (bl_eq (by simpa using h1) (by simpa using h2)) h0
theorem cmpS_self (a : Ser) : cmpS a a = 0 := by
  unfold cmpS cmpI
  rw [if_pos rfl, if_pos rfl, if_pos rfl, if_neg (by omega), if_neg (by omega)]
theorem cmpS_trans {a b c : Ser} (h1 : cmpS a b < 0) (h2 : cmpS b c < 0) : cmpS a c < 0 := by
  rw [cmpS_lt] at h1 h2 ⊢
  rcases h1 with h1 | ⟨e1, h1⟩
  · rcases h2 with h2 | ⟨e2, h2⟩
    · exact Or.inl (bl_trans _ _ _ h1 h2)
    · exact Or.inl (by rw [← e2]; exact h1)
  · rcases h2 with h2 | ⟨e2, h2⟩
    · exact Or.inl (by rw [e1]; exact h2)
    · exact Or.inr ⟨e1.trans e2, by omega⟩
theorem cmpS_ne {a b : Ser} (h : cmpS a b < 0) : a ≠ b := fun e => by
  rw [e, cmpS_self] at h
  omega
theorem cmpS_total {a b : Ser} (h : ¬ cmpS a b < 0) (h2 : a ≠ b) : cmpS b a < 0 := by
  rw [cmpS_lt] at h ⊢
  by_cases h0 : a.f0.toList = b.f0.toList
  · refine Or.inr ⟨h0.symm, ?_⟩
    have hn : ¬ (a.f2 < b.f2 ∨ (a.f2 = b.f2 ∧ (a.f1 < b.f1 ∨ (a.f1 = b.f1 ∧ a.f3 < b.f3)))) := fun x => h (Or.inr ⟨h0, x⟩)
    have hne : ¬ (a.f2 = b.f2 ∧ a.f1 = b.f1 ∧ a.f3 = b.f3) := by
      rintro ⟨e2, e1, e3⟩
      apply h2
      cases a; cases b
      simp only at h0 e1 e2 e3
      have hb := ba_ext h0
      subst hb e1 e2 e3
      rfl
    omega
  · refine Or.inl ?_
    cases hb : Op.bytesLess b.f0.toList a.f0.toList with
    | true => rfl
    | false =>
      have ha : Op.bytesLess a.f0.toList b.f0.toList = false := by
        cases x : Op.bytesLess a.f0.toList b.f0.toList with
        | false => rfl
        | true => exact absurd (Or.inl x) h
      exact absurd (bl_eq ha hb) h0
end Go.Proofs.Ytocndpddghefhaa.P
end
section
namespace Go.Proofs.Ytocndpddghefhaa.P
set_option linter.unusedVariables false
set_option linter.unusedSimpArgs false
open Go.RowKit Go.Proofs.YtocndpddghefhaaW.PrintWords Go.Proofs.YtocndpddghefhaaW.PrintMore Go.Proofs.Ytocndpddghefhaa.X
theorem Ev_if {α : Type} {c : Prop} [Decidable c] {f g : Nat → Option α} {r : α} (h1 : c → Ev f r) (h2 : ¬ c → Ev g r) : Ev (fun k => if c then f k else g k) r := by
  by_cases h : c
  · simp only [if_pos h]; exact h1 h
  · simp only [if_neg h]; exact h2 h
theorem and_iff (a b : Prop) [Decidable a] [Decidable b] : (decide a && decide b) = true ↔ a ∧ b := by simp
theorem mprice_f (n : Int) : mark_price.f n = some (decide (-16777216 ≤ n) && decide (n ≤ 16777216)) := by
  unfold mark_price.f
  by_cases h : n ≥ -16777216
  · rw [if_pos h, decide_eq_true (show -16777216 ≤ n from h), Bool.true_and]
  · rw [if_neg h, decide_eq_false (show ¬ -16777216 ≤ n from h), Bool.false_and]
end Go.Proofs.Ytocndpddghefhaa.P
end
