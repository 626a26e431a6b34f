/- For TradeLists: contracts, and facts on lists and numbers, that it uses (part 6). -/
import Derived.Test.YthpmmofleddpnaaDoorTradeListsc5
section
namespace Go.Proofs.YthpmmofleddpnaaDoor.X
open Go.RowKit Go.Proofs.YthpmmofleddpnaaDoorW.PrintWords Go.Proofs.YthpmmofleddpnaaDoorW.PrintLast Go.Proofs.YthpmmofleddpnaaDoorW.PrintMore
attribute [local go_sem] max2_int min2_int max_two min_two max_three min_three max_four min_four
set_option linter.unusedVariables false
set_option linter.unusedSimpArgs false
def contangoref12_Bust.l0 : Nat → List (S27) → Int → List (S27) → Bool → Int → Int → Int → Int → ByteArray → Int → Int → Int → Int → Int → ByteArray → ByteArray → ByteArray → ByteArray → Option ((List (S27)) × Int × Int × Int × ByteArray × Int × Int × Int × Int × Int × ByteArray × ByteArray × ByteArray × ByteArray × Int)
  | 0, _, _, _, _, _, _, _, _, _, _, _, _, _, _, _, _, _, _ => none
  | k + 1, x0, x1, x9, x10, x11, x117000, x117001, x117002, x117003, x117004, x117005, x117006, x117007, x117008, x117009, x117010, x117011, x117012 => if x11 < (x0.length : Int) then (if x10 = true then (if 0 ≤ x11 then (if x9.length < 977343669134 then (contangoref12_Bust.l0 k x0 x1 (x9 ++ [(⟨(rd_T27 x0 x11).f0, (rd_T27 x0 x11).f1, (rd_T27 x0 x11).f2, (⟨(rd_T27 x0 x11).f3.f0, (rd_T27 x0 x11).f3.f1, (rd_T27 x0 x11).f3.f2, (rd_T27 x0 x11).f3.f3⟩ : S23), (rd_T27 x0 x11).f4, (rd_T27 x0 x11).f5, (⟨(rd_T27 x0 x11).f6.f0, (rd_T27 x0 x11).f6.f1⟩ : S25), (⟨(rd_T27 x0 x11).f7.f0, (rd_T27 x0 x11).f7.f1⟩ : S25)⟩ : S27)]) x10 (wrap64 (x11 + 1)) x117000 x117001 x117002 x117003 x117004 x117005 x117006 x117007 x117008 x117009 x117010 x117011 x117012) else (none)) else (none)) else (if 0 ≤ x11 then (if ((rd_T27 x0 x11).f0) = x1 then (contangoref12_Bust.l0 k x0 x1 x9 true (wrap64 (x11 + 1)) x117000 x117001 x117002 x117003 x117004 x117005 x117006 x117007 x117008 x117009 x117010 x117011 x117012) else (if x9.length < 977343669134 then (contangoref12_Bust.l0 k x0 x1 (x9 ++ [(⟨(rd_T27 x0 x11).f0, (rd_T27 x0 x11).f1, (rd_T27 x0 x11).f2, (⟨(rd_T27 x0 x11).f3.f0, (rd_T27 x0 x11).f3.f1, (rd_T27 x0 x11).f3.f2, (rd_T27 x0 x11).f3.f3⟩ : S23), (rd_T27 x0 x11).f4, (rd_T27 x0 x11).f5, (⟨(rd_T27 x0 x11).f6.f0, (rd_T27 x0 x11).f6.f1⟩ : S25), (⟨(rd_T27 x0 x11).f7.f0, (rd_T27 x0 x11).f7.f1⟩ : S25)⟩ : S27)]) x10 (wrap64 (x11 + 1)) x117000 x117001 x117002 x117003 x117004 x117005 x117006 x117007 x117008 x117009 x117010 x117011 x117012) else (none))) else (none))) else (some (x9, x117000, x117001, x117002, x117003, x117004, x117005, x117006, x117007, x117008, x117009, x117010, x117011, x117012, 0))
def contangoref12_Bust.f (k : Nat) (l0 : List (S27)) (a1 : Int) : Option ((List (S27)) × Int × Int × Int × ByteArray × Int × Int × Int × Int × Int × ByteArray × ByteArray × ByteArray × ByteArray × Int) := (contangoref12_Find.f k l0 a1).bind fun bt102 => (if bt102.2.2.2.2.2.2.2.2.2.2.2.2.2 = true then (contangoref12_Bust.l0 k l0 a1 ([] : List (S27)) false 0 bt102.1 bt102.2.1 bt102.2.2.1 bt102.2.2.2.1 bt102.2.2.2.2.1 bt102.2.2.2.2.2.1 bt102.2.2.2.2.2.2.1 bt102.2.2.2.2.2.2.2.1 bt102.2.2.2.2.2.2.2.2.1 bt102.2.2.2.2.2.2.2.2.2.1 bt102.2.2.2.2.2.2.2.2.2.2.1 bt102.2.2.2.2.2.2.2.2.2.2.2.1 bt102.2.2.2.2.2.2.2.2.2.2.2.2.1) else (some (([] : List (S27)), bt102.1, bt102.2.1, bt102.2.2.1, bt102.2.2.2.1, bt102.2.2.2.2.1, bt102.2.2.2.2.2.1, bt102.2.2.2.2.2.2.1, bt102.2.2.2.2.2.2.2.1, bt102.2.2.2.2.2.2.2.2.1, bt102.2.2.2.2.2.2.2.2.2.1, bt102.2.2.2.2.2.2.2.2.2.2.1, bt102.2.2.2.2.2.2.2.2.2.2.2.1, bt102.2.2.2.2.2.2.2.2.2.2.2.2.1, 22)))
set_option maxHeartbeats 8000000 in
set_option maxRecDepth 100000 in
theorem contangoref12_Bust.calls (k : Nat) (A0 : Option Addr) (c0 : Nat) (l0 : List (S27)) (a1 : Int) (r1 : List (S27)) (r2 : Int) (r3 : Int) (r4 : Int) (r5 : ByteArray) (r6 : Int) (r7 : Int) (r8 : Int) (r9 : Int) (r10 : Int) (r11 : ByteArray) (r12 : ByteArray) (r13 : ByteArray) (r14 : ByteArray) (r15 : Int) (w : World) (hr0 : Kd.C k27 w A0 l0.length l0) (hc0 : l0.length ≤ c0) (h : contangoref12_Bust.f k l0 a1 = some (r1, r2, r3, r4, r5, r6, r7, r8, r9, r10, r11, r12, r13, r14, r15)) :
    Calls Tryd.prog 15 #[.slice A0 l0.length c0, .int .i64 a1] w fun e w' => ∃ v0_ : Value, e = .returned (.tuple #[v0_, .agg #[.int .i64 r2, .int .i64 r3, .int .i64 r4, .string r5, .int .i64 r6, .int .i64 r7, .int .i64 r8, .int .i64 r9, .int .i64 r10, .string r11, .string r12, .string r13, .string r14], .int .i64 r15]) ∧ Kd.R k27 27 w' w.heap.size (fun _ => True) v0_ r1 ∧ Below w.heap.size w w' := by
  have hu27 := Tryd.underlying27
  have HR0 := Aside0.mk hr0
  have HC0 := Aside0.mk hc0
  clear hr0 hc0
  have HB := Aside0.mk (Below.refl w.heap.size w)
  have H : ((contangoref12_Find.f k l0 a1).bind fun bt102 => (if bt102.2.2.2.2.2.2.2.2.2.2.2.2.2 = true then (contangoref12_Bust.l0 k l0 a1 ([] : List (S27)) false 0 bt102.1 bt102.2.1 bt102.2.2.1 bt102.2.2.2.1 bt102.2.2.2.2.1 bt102.2.2.2.2.2.1 bt102.2.2.2.2.2.2.1 bt102.2.2.2.2.2.2.2.1 bt102.2.2.2.2.2.2.2.2.1 bt102.2.2.2.2.2.2.2.2.2.1 bt102.2.2.2.2.2.2.2.2.2.2.1 bt102.2.2.2.2.2.2.2.2.2.2.2.1 bt102.2.2.2.2.2.2.2.2.2.2.2.2.1) else (some (([] : List (S27)), bt102.1, bt102.2.1, bt102.2.2.1, bt102.2.2.2.1, bt102.2.2.2.2.1, bt102.2.2.2.2.2.1, bt102.2.2.2.2.2.2.1, bt102.2.2.2.2.2.2.2.1, bt102.2.2.2.2.2.2.2.2.1, bt102.2.2.2.2.2.2.2.2.2.1, bt102.2.2.2.2.2.2.2.2.2.2.1, bt102.2.2.2.2.2.2.2.2.2.2.2.1, bt102.2.2.2.2.2.2.2.2.2.2.2.2.1, 22)))) = some (r1, r2, r3, r4, r5, r6, r7, r8, r9, r10, r11, r12, r13, r14, r15) := h
  clear h
  replace H := Option.bind_eq_some_iff.mp H
  obtain ⟨⟨t102, t103, t104, t105, t106, t107, t108, t109, t110, t111, t112, t113, t114, t115⟩, A30, H⟩ := H
  replace H : (if t115 = true then (contangoref12_Bust.l0 k l0 a1 ([] : List (S27)) false 0 t102 t103 t104 t105 t106 t107 t108 t109 t110 t111 t112 t113 t114) else (some (([] : List (S27)), t102, t103, t104, t105, t106, t107, t108, t109, t110, t111, t112, t113, t114, 22))) = some (r1, r2, r3, r4, r5, r6, r7, r8, r9, r10, r11, r12, r13, r14, r15) := H
  have A3 := Aside0.mk A30
  clear A30
  by_cases c4 : t115 = true
  · subst c4
    have H1 : (contangoref12_Bust.l0 k l0 a1 ([] : List (S27)) false 0 t102 t103 t104 t105 t106 t107 t108 t109 t110 t111 t112 t113 t114) = some (r1, r2, r3, r4, r5, r6, r7, r8, r9, r10, r11, r12, r13, r14, r15) := by rw [if_pos rfl] at H; exact H
    clear H
    have H := H1
    clear H1
    have H' := Aside0.mk H
    clear H
    go_enter Tryd.func15, Tryd.ntmps15
    go_wp2_with (first | ((with_reducible refine gate_dst (N := 5) rfl ?_); refine box_event ?hg (N := 5) ?hd (cs := #[.int .i64 0, .int .i64 0, .int .i64 0, .string (⟨#[]⟩ : ByteArray), .int .i64 0, .int .i64 0, .int .i64 0, .int .i64 0, .int .i64 0, .string (⟨#[]⟩ : ByteArray), .string (⟨#[]⟩ : ByteArray), .string (⟨#[]⟩ : ByteArray), .string (⟨#[]⟩ : ByteArray)]) (t := 27) ?hr ?_; (case hd => rfl); (case hg => rfl); (case hr => first | (go_simp; done) | (go_simp; rfl)); intro gb101 hg w5 hbox hb; have n0_ := Aside0.mk (below_step (by repeat (first | (with_reducible first | exact HB.out | apply below_alloc | apply pw_below_drewN | apply below_drew1) | exact HB.out)) hb); have n1_ := Aside0.mk (hbox); have n2_ := Aside0.mk ((by rw [hg]; exact (below_size (by repeat (first | (with_reducible first | exact HB.out | apply below_alloc | apply pw_below_drewN | apply below_drew1) | exact HB.out))) : w.heap.size ≤ gb101)); have n3_ := Aside0.mk ((by rw [hg]; exact (below_size (by repeat (first | (with_reducible first | exact HB.out | apply below_alloc | apply pw_below_drewN | apply below_drew1) | exact HB.out))) : w.heap.size ≤ gb101)); clear HB; have HB := n0_; have BK101 := n1_; have GW101 := n2_; have GE101 := n3_; clear n0_ n1_ n2_ n3_; clear hb hbox hg) | ((with_reducible refine gate_callee (f := 17) rfl ?_); refine goesL_ (some 15) rfl rfl Tryd.func17 (by kernel_rfl) rfl #[.slice A0 l0.length c0, .int .i64 a1] rfl (by (try simp only [List.map_toArray, List.map_cons, List.map_nil]); first | done | rfl | (simp only [List.length_drop, List.length_take]; rfl)) ?_; (with_reducible refine (contangoref12_Find.calls k _ _ l0 a1 t102 t103 t104 t105 t106 t107 t108 t109 t110 t111 t112 t113 t114 true _ ?side1 ?side2 A3.out).mono ?_); (case side1 => repeat (first | exact (Kd.C_below HR0.out HB.out) | (with_reducible refine Kd.C_alloc ?_ _) | (with_reducible refine Kd.C_drewN ?_ _) | (with_reducible refine Kd.C_drew ?_))); (case side2 => exact HC0.out); rintro e w6 ⟨rfl, hb⟩; refine ⟨_, rfl, ?_⟩; have n0_ := Aside0.mk (blk_below (g := gb101) (o := .cells #[.int .i64 0, .int .i64 0, .int .i64 0, .string (⟨#[]⟩ : ByteArray), .int .i64 0, .int .i64 0, .int .i64 0, .int .i64 0, .int .i64 0, .string (⟨#[]⟩ : ByteArray), .string (⟨#[]⟩ : ByteArray), .string (⟨#[]⟩ : ByteArray), .string (⟨#[]⟩ : ByteArray)] 27 (0, 0)) (by (with_reducible repeat (first | refine blk_drewN ?_ _ | refine blk_drew ?_ | refine blk_alloc ?_ _)); exact BK101.out) hb); have n1_ := Aside0.mk (below_step (by repeat (first | (with_reducible first | exact HB.out | apply below_alloc | apply pw_below_drewN | apply below_drew1 | refine below_set ?_ GE101.out) | exact HB.out)) hb); clear BK101; clear HB; have BK101 := n0_; have HB := n1_; clear n0_ n1_; (try clear hb); (try clear hb2); (try clear hk); (try clear hi)) | ((with_reducible refine gate_dst (N := 7) rfl ?_); refine box_event ?hg (N := 7) ?hd (cs := #[.int .i64 0, .int .i64 0, .int .i64 0, .string (⟨#[]⟩ : ByteArray), .int .i64 0, .int .i64 0, .int .i64 0, .int .i64 0, .int .i64 0, .string (⟨#[]⟩ : ByteArray), .string (⟨#[]⟩ : ByteArray), .string (⟨#[]⟩ : ByteArray), .string (⟨#[]⟩ : ByteArray)]) (t := 27) ?hr ?_; (case hd => rfl); (case hg => rfl); (case hr => first | (go_simp; done) | (go_simp; rfl)); intro gb116 hg w7 hbox hb; have n0_ := Aside0.mk (blk_below (g := gb101) (o := .cells #[.int .i64 0, .int .i64 0, .int .i64 0, .string (⟨#[]⟩ : ByteArray), .int .i64 0, .int .i64 0, .int .i64 0, .int .i64 0, .int .i64 0, .string (⟨#[]⟩ : ByteArray), .string (⟨#[]⟩ : ByteArray), .string (⟨#[]⟩ : ByteArray), .string (⟨#[]⟩ : ByteArray)] 27 (0, 0)) (by (with_reducible repeat (first | refine blk_drewN ?_ _ | refine blk_drew ?_ | refine blk_alloc ?_ _)); exact BK101.out) hb); have n1_ := Aside0.mk (below_step (by repeat (first | (with_reducible first | exact HB.out | apply below_alloc | apply pw_below_drewN | apply below_drew1 | refine below_set ?_ GE101.out) | exact HB.out)) hb); have n2_ := Aside0.mk (hbox); have n3_ := Aside0.mk ((by rw [hg]; exact (below_size (by repeat (first | (with_reducible first | exact HB.out | apply below_alloc | apply pw_below_drewN | apply below_drew1 | refine below_set ?_ GE101.out) | exact HB.out))) : w.heap.size ≤ gb116)); have n4_ := Aside0.mk ((by rw [hg]; exact (below_size (by repeat (first | (with_reducible first | exact HB.out | apply below_alloc | apply pw_below_drewN | apply below_drew1 | refine below_set ?_ GE101.out) | exact HB.out))) : w.heap.size ≤ gb116)); have n5_ := Aside0.mk ((by rw [hg]; exact Nat.ne_of_lt (blk_lt (g := gb101) (o := .cells #[.int .i64 0, .int .i64 0, .int .i64 0, .string (⟨#[]⟩ : ByteArray), .int .i64 0, .int .i64 0, .int .i64 0, .int .i64 0, .int .i64 0, .string (⟨#[]⟩ : ByteArray), .string (⟨#[]⟩ : ByteArray), .string (⟨#[]⟩ : ByteArray), .string (⟨#[]⟩ : ByteArray)] 27 (0, 0)) (by (with_reducible repeat (first | refine blk_drewN ?_ _ | refine blk_drew ?_ | refine blk_alloc ?_ _)); exact BK101.out)) : gb101 ≠ gb116)); have n6_ := Aside0.mk ((by rw [hg]; exact Nat.ne_of_gt (blk_lt (g := gb101) (o := .cells #[.int .i64 0, .int .i64 0, .int .i64 0, .string (⟨#[]⟩ : ByteArray), .int .i64 0, .int .i64 0, .int .i64 0, .int .i64 0, .int .i64 0, .string (⟨#[]⟩ : ByteArray), .string (⟨#[]⟩ : ByteArray), .string (⟨#[]⟩ : ByteArray), .string (⟨#[]⟩ : ByteArray)] 27 (0, 0)) (by (with_reducible repeat (first | refine blk_drewN ?_ _ | refine blk_drew ?_ | refine blk_alloc ?_ _)); exact BK101.out)) : gb116 ≠ gb101)); clear BK101; clear HB; have BK101 := n0_; have HB := n1_; have BK116 := n2_; have GW116 := n3_; have GE116 := n4_; have NB101_116 := n5_; have NB116_101 := n6_; clear n0_ n1_ n2_ n3_ n4_ n5_ n6_; clear hb hbox hg; have hnb8 := NB116_101.out; have hnc8 := NB101_116.out; have hcz9_0 : w7.cell? ⟨gb116, 0, none⟩ = some (.int .i64 0) := (blk_cell BK116.out 0).trans rfl; have hcz9_1 : w7.cell? ⟨gb116, 1, none⟩ = some (.int .i64 0) := (blk_cell BK116.out 1).trans rfl; have hcz9_2 : w7.cell? ⟨gb116, 2, none⟩ = some (.int .i64 0) := (blk_cell BK116.out 2).trans rfl; have hcz9_3 : w7.cell? ⟨gb116, 3, none⟩ = some (.string (⟨#[]⟩ : ByteArray)) := (blk_cell BK116.out 3).trans rfl; have hcz9_4 : w7.cell? ⟨gb116, 4, none⟩ = some (.int .i64 0) := (blk_cell BK116.out 4).trans rfl; have hcz9_5 : w7.cell? ⟨gb116, 5, none⟩ = some (.int .i64 0) := (blk_cell BK116.out 5).trans rfl; have hcz9_6 : w7.cell? ⟨gb116, 6, none⟩ = some (.int .i64 0) := (blk_cell BK116.out 6).trans rfl; have hcz9_7 : w7.cell? ⟨gb116, 7, none⟩ = some (.int .i64 0) := (blk_cell BK116.out 7).trans rfl; have hcz9_8 : w7.cell? ⟨gb116, 8, none⟩ = some (.int .i64 0) := (blk_cell BK116.out 8).trans rfl; have hcz9_9 : w7.cell? ⟨gb116, 9, none⟩ = some (.string (⟨#[]⟩ : ByteArray)) := (blk_cell BK116.out 9).trans rfl; have hcz9_10 : w7.cell? ⟨gb116, 10, none⟩ = some (.string (⟨#[]⟩ : ByteArray)) := (blk_cell BK116.out 10).trans rfl; have hcz9_11 : w7.cell? ⟨gb116, 11, none⟩ = some (.string (⟨#[]⟩ : ByteArray)) := (blk_cell BK116.out 11).trans rfl; have hcz9_12 : w7.cell? ⟨gb116, 12, none⟩ = some (.string (⟨#[]⟩ : ByteArray)) := (blk_cell BK116.out 12).trans rfl; have hfz9_0 := blk_frozen BK116.out 0; have hfz9_1 := blk_frozen BK116.out 1; have hfz9_2 := blk_frozen BK116.out 2; have hfz9_3 := blk_frozen BK116.out 3; have hfz9_4 := blk_frozen BK116.out 4; have hfz9_5 := blk_frozen BK116.out 5; have hfz9_6 := blk_frozen BK116.out 6; have hfz9_7 := blk_frozen BK116.out 7; have hfz9_8 := blk_frozen BK116.out 8; have hfz9_9 := blk_frozen BK116.out 9; have hfz9_10 := blk_frozen BK116.out 10; have hfz9_11 := blk_frozen BK116.out 11; have hfz9_12 := blk_frozen BK116.out 12))
    go_loopg [9, 10, 11] k (fun kq v9 v10 v11 w' => ∃ (x9_1 : List (S27)) (x10_1 : Bool) (x11_1 : Int), v10 = .bool x10_1 ∧ v11 = .int .i64 x11_1 ∧ Aside0 (contangoref12_Bust.l0 kq l0 a1 x9_1 x10_1 x11_1 t102 t103 t104 t105 t106 t107 t108 t109 t110 t111 t112 t113 t114 = some (r1, r2, r3, r4, r5, r6, r7, r8, r9, r10, r11, r12, r13, r14, r15)) ∧ Aside0 (kq ≤ k) ∧ Aside0 (Kd.R k27 27 w' w.heap.size (fun k_ => k_ ≠ gb101 ∧ k_ ≠ gb116) v9 x9_1) ∧ Aside0 (w'.heap[gb101]? = some (.cells #[.int .i64 0, .int .i64 0, .int .i64 0, .string (⟨#[]⟩ : ByteArray), .int .i64 0, .int .i64 0, .int .i64 0, .int .i64 0, .int .i64 0, .string (⟨#[]⟩ : ByteArray), .string (⟨#[]⟩ : ByteArray), .string (⟨#[]⟩ : ByteArray), .string (⟨#[]⟩ : ByteArray)] 27 (0, 0))) ∧ Aside0 (w'.heap[gb116]? = some (.cells #[.int .i64 t102, .int .i64 t103, .int .i64 t104, .string t105, .int .i64 t106, .int .i64 t107, .int .i64 t108, .int .i64 t109, .int .i64 t110, .string t111, .string t112, .string t113, .string t114] 27 (0, 0))) ∧ Aside0 (Below w.heap.size w w'))
    case atStart => exact ⟨(([] : List (S27))), (false), (0), (by first | rfl | (simp; done) | (simp [*]; done)), (by first | rfl | (simp; done) | (simp [*]; done)), H', ⟨Nat.le_refl _⟩, ⟨by first | exact Kd.R_nil _ _ _ _ _ | exact Kd.N_nil _ _ _ _ _ | exact Kd.V_nil _ _ _ _ _ | exact Kd.Q_nil _ _ _ _ _ | exact Kd.S_nil _ _ _ _ _⟩, ⟨by (with_reducible repeat (first | refine blk_drewN ?_ _ | refine blk_drew ?_ | refine blk_alloc ?_ _)); refine blk_far ?_ NB101_116.out _; (with_reducible repeat (first | refine blk_drewN ?_ _ | refine blk_drew ?_ | refine blk_alloc ?_ _)); refine blk_far ?_ NB101_116.out _; (with_reducible repeat (first | refine blk_drewN ?_ _ | refine blk_drew ?_ | refine blk_alloc ?_ _)); refine blk_far ?_ NB101_116.out _; (with_reducible repeat (first | refine blk_drewN ?_ _ | refine blk_drew ?_ | refine blk_alloc ?_ _)); refine blk_far ?_ NB101_116.out _; (with_reducible repeat (first | refine blk_drewN ?_ _ | refine blk_drew ?_ | refine blk_alloc ?_ _)); refine blk_far ?_ NB101_116.out _; (with_reducible repeat (first | refine blk_drewN ?_ _ | refine blk_drew ?_ | refine blk_alloc ?_ _)); refine blk_far ?_ NB101_116.out _; (with_reducible repeat (first | refine blk_drewN ?_ _ | refine blk_drew ?_ | refine blk_alloc ?_ _)); refine blk_far ?_ NB101_116.out _; (with_reducible repeat (first | refine blk_drewN ?_ _ | refine blk_drew ?_ | refine blk_alloc ?_ _)); refine blk_far ?_ NB101_116.out _; (with_reducible repeat (first | refine blk_drewN ?_ _ | refine blk_drew ?_ | refine blk_alloc ?_ _)); refine blk_far ?_ NB101_116.out _; (with_reducible repeat (first | refine blk_drewN ?_ _ | refine blk_drew ?_ | refine blk_alloc ?_ _)); refine blk_far ?_ NB101_116.out _; (with_reducible repeat (first | refine blk_drewN ?_ _ | refine blk_drew ?_ | refine blk_alloc ?_ _)); refine blk_far ?_ NB101_116.out _; (with_reducible repeat (first | refine blk_drewN ?_ _ | refine blk_drew ?_ | refine blk_alloc ?_ _)); refine blk_far ?_ NB101_116.out _; (with_reducible repeat (first | refine blk_drewN ?_ _ | refine blk_drew ?_ | refine blk_alloc ?_ _)); refine blk_far ?_ NB101_116.out _; (with_reducible repeat (first | refine blk_drewN ?_ _ | refine blk_drew ?_ | refine blk_alloc ?_ _)); exact BK101.out⟩, ⟨by (with_reducible repeat (first | refine blk_drewN ?_ _ | refine blk_drew ?_ | refine blk_alloc ?_ _)); refine blk_put (cs := #[.int .i64 t102, .int .i64 t103, .int .i64 t104, .string t105, .int .i64 t106, .int .i64 t107, .int .i64 t108, .int .i64 t109, .int .i64 t110, .string t111, .string t112, .string t113, .string (⟨#[]⟩ : ByteArray)]) ?_ 12 _ rfl; (with_reducible repeat (first | refine blk_drewN ?_ _ | refine blk_drew ?_ | refine blk_alloc ?_ _)); refine blk_put (cs := #[.int .i64 t102, .int .i64 t103, .int .i64 t104, .string t105, .int .i64 t106, .int .i64 t107, .int .i64 t108, .int .i64 t109, .int .i64 t110, .string t111, .string t112, .string (⟨#[]⟩ : ByteArray), .string (⟨#[]⟩ : ByteArray)]) ?_ 11 _ rfl; (with_reducible repeat (first | refine blk_drewN ?_ _ | refine blk_drew ?_ | refine blk_alloc ?_ _)); refine blk_put (cs := #[.int .i64 t102, .int .i64 t103, .int .i64 t104, .string t105, .int .i64 t106, .int .i64 t107, .int .i64 t108, .int .i64 t109, .int .i64 t110, .string t111, .string (⟨#[]⟩ : ByteArray), .string (⟨#[]⟩ : ByteArray), .string (⟨#[]⟩ : ByteArray)]) ?_ 10 _ rfl; (with_reducible repeat (first | refine blk_drewN ?_ _ | refine blk_drew ?_ | refine blk_alloc ?_ _)); refine blk_put (cs := #[.int .i64 t102, .int .i64 t103, .int .i64 t104, .string t105, .int .i64 t106, .int .i64 t107, .int .i64 t108, .int .i64 t109, .int .i64 t110, .string (⟨#[]⟩ : ByteArray), .string (⟨#[]⟩ : ByteArray), .string (⟨#[]⟩ : ByteArray), .string (⟨#[]⟩ : ByteArray)]) ?_ 9 _ rfl; (with_reducible repeat (first | refine blk_drewN ?_ _ | refine blk_drew ?_ | refine blk_alloc ?_ _)); refine blk_put (cs := #[.int .i64 t102, .int .i64 t103, .int .i64 t104, .string t105, .int .i64 t106, .int .i64 t107, .int .i64 t108, .int .i64 t109, .int .i64 0, .string (⟨#[]⟩ : ByteArray), .string (⟨#[]⟩ : ByteArray), .string (⟨#[]⟩ : ByteArray), .string (⟨#[]⟩ : ByteArray)]) ?_ 8 _ rfl; (with_reducible repeat (first | refine blk_drewN ?_ _ | refine blk_drew ?_ | refine blk_alloc ?_ _)); refine blk_put (cs := #[.int .i64 t102, .int .i64 t103, .int .i64 t104, .string t105, .int .i64 t106, .int .i64 t107, .int .i64 t108, .int .i64 0, .int .i64 0, .string (⟨#[]⟩ : ByteArray), .string (⟨#[]⟩ : ByteArray), .string (⟨#[]⟩ : ByteArray), .string (⟨#[]⟩ : ByteArray)]) ?_ 7 _ rfl; (with_reducible repeat (first | refine blk_drewN ?_ _ | refine blk_drew ?_ | refine blk_alloc ?_ _)); refine blk_put (cs := #[.int .i64 t102, .int .i64 t103, .int .i64 t104, .string t105, .int .i64 t106, .int .i64 t107, .int .i64 0, .int .i64 0, .int .i64 0, .string (⟨#[]⟩ : ByteArray), .string (⟨#[]⟩ : ByteArray), .string (⟨#[]⟩ : ByteArray), .string (⟨#[]⟩ : ByteArray)]) ?_ 6 _ rfl; (with_reducible repeat (first | refine blk_drewN ?_ _ | refine blk_drew ?_ | refine blk_alloc ?_ _)); refine blk_put (cs := #[.int .i64 t102, .int .i64 t103, .int .i64 t104, .string t105, .int .i64 t106, .int .i64 0, .int .i64 0, .int .i64 0, .int .i64 0, .string (⟨#[]⟩ : ByteArray), .string (⟨#[]⟩ : ByteArray), .string (⟨#[]⟩ : ByteArray), .string (⟨#[]⟩ : ByteArray)]) ?_ 5 _ rfl; (with_reducible repeat (first | refine blk_drewN ?_ _ | refine blk_drew ?_ | refine blk_alloc ?_ _)); refine blk_put (cs := #[.int .i64 t102, .int .i64 t103, .int .i64 t104, .string t105, .int .i64 0, .int .i64 0, .int .i64 0, .int .i64 0, .int .i64 0, .string (⟨#[]⟩ : ByteArray), .string (⟨#[]⟩ : ByteArray), .string (⟨#[]⟩ : ByteArray), .string (⟨#[]⟩ : ByteArray)]) ?_ 4 _ rfl; (with_reducible repeat (first | refine blk_drewN ?_ _ | refine blk_drew ?_ | refine blk_alloc ?_ _)); refine blk_put (cs := #[.int .i64 t102, .int .i64 t103, .int .i64 t104, .string (⟨#[]⟩ : ByteArray), .int .i64 0, .int .i64 0, .int .i64 0, .int .i64 0, .int .i64 0, .string (⟨#[]⟩ : ByteArray), .string (⟨#[]⟩ : ByteArray), .string (⟨#[]⟩ : ByteArray), .string (⟨#[]⟩ : ByteArray)]) ?_ 3 _ rfl; (with_reducible repeat (first | refine blk_drewN ?_ _ | refine blk_drew ?_ | refine blk_alloc ?_ _)); refine blk_put (cs := #[.int .i64 t102, .int .i64 t103, .int .i64 0, .string (⟨#[]⟩ : ByteArray), .int .i64 0, .int .i64 0, .int .i64 0, .int .i64 0, .int .i64 0, .string (⟨#[]⟩ : ByteArray), .string (⟨#[]⟩ : ByteArray), .string (⟨#[]⟩ : ByteArray), .string (⟨#[]⟩ : ByteArray)]) ?_ 2 _ rfl; (with_reducible repeat (first | refine blk_drewN ?_ _ | refine blk_drew ?_ | refine blk_alloc ?_ _)); refine blk_put (cs := #[.int .i64 t102, .int .i64 0, .int .i64 0, .string (⟨#[]⟩ : ByteArray), .int .i64 0, .int .i64 0, .int .i64 0, .int .i64 0, .int .i64 0, .string (⟨#[]⟩ : ByteArray), .string (⟨#[]⟩ : ByteArray), .string (⟨#[]⟩ : ByteArray), .string (⟨#[]⟩ : ByteArray)]) ?_ 1 _ rfl; (with_reducible repeat (first | refine blk_drewN ?_ _ | refine blk_drew ?_ | refine blk_alloc ?_ _)); refine blk_put (cs := #[.int .i64 0, .int .i64 0, .int .i64 0, .string (⟨#[]⟩ : ByteArray), .int .i64 0, .int .i64 0, .int .i64 0, .int .i64 0, .int .i64 0, .string (⟨#[]⟩ : ByteArray), .string (⟨#[]⟩ : ByteArray), .string (⟨#[]⟩ : ByteArray), .string (⟨#[]⟩ : ByteArray)]) ?_ 0 _ rfl; (with_reducible repeat (first | refine blk_drewN ?_ _ | refine blk_drew ?_ | refine blk_alloc ?_ _)); exact BK116.out⟩, ⟨by repeat (first | (with_reducible first | exact HB.out | apply below_alloc | apply pw_below_drewN | apply below_drew1 | refine below_set ?_ GE101.out | refine below_set ?_ GE116.out) | exact HB.out)⟩⟩
    case round =>
      clear H'
      try clear c1
      try clear p2
      try clear c4
      try clear c8
      try clear hcz9_0
      try clear hcz9_1
      try clear hcz9_10
      try clear hcz9_11
      try clear hcz9_12
      try clear hcz9_2
      try clear hcz9_3
      try clear hcz9_4
      try clear hcz9_5
      try clear hcz9_6
      try clear hcz9_7
      try clear hcz9_8
      try clear hcz9_9
      try clear hfz9_0
      try clear hfz9_1
      try clear hfz9_10
      try clear hfz9_11
      try clear hfz9_12
      try clear hfz9_2
      try clear hfz9_3
      try clear hfz9_4
      try clear hfz9_5
      try clear hfz9_6
      try clear hfz9_7
      try clear hfz9_8
      try clear hfz9_9
      obtain ⟨x9_1, x10_1, x11_1, rfl, rfl, HA, HK1, HO_9, BK101, BK116, HB⟩ := hrel
      cases gk with
      | zero => exact absurd HA.out (by simp [contangoref12_Bust.l0])
      | succ k1 =>
        have H := HA.out
        clear HA
        simp only [contangoref12_Bust.l0] at H
        by_cases c10 : x11_1 < (l0.length : Int)
        · rw [if_pos c10] at H
          have c10b0 : decide (x11_1 < (l0.length : Int)) = true := decide_eq_true c10
          clear c10
          by_cases c11 : x10_1 = true
          · subst c11
            have H1 : (if 0 ≤ x11_1 then (if x9_1.length < 977343669134 then (contangoref12_Bust.l0 k1 l0 a1 (x9_1 ++ [(⟨(rd_T27 l0 x11_1).f0, (rd_T27 l0 x11_1).f1, (rd_T27 l0 x11_1).f2, (⟨(rd_T27 l0 x11_1).f3.f0, (rd_T27 l0 x11_1).f3.f1, (rd_T27 l0 x11_1).f3.f2, (rd_T27 l0 x11_1).f3.f3⟩ : S23), (rd_T27 l0 x11_1).f4, (rd_T27 l0 x11_1).f5, (⟨(rd_T27 l0 x11_1).f6.f0, (rd_T27 l0 x11_1).f6.f1⟩ : S25), (⟨(rd_T27 l0 x11_1).f7.f0, (rd_T27 l0 x11_1).f7.f1⟩ : S25)⟩ : S27)]) true (wrap64 (x11_1 + 1)) t102 t103 t104 t105 t106 t107 t108 t109 t110 t111 t112 t113 t114) else (none)) else (none)) = some (r1, r2, r3, r4, r5, r6, r7, r8, r9, r10, r11, r12, r13, r14, r15) := by rw [if_pos rfl] at H; exact H
            clear H
            have H := H1
            clear H1
            by_cases c12 : 0 ≤ x11_1
            · rw [if_pos c12] at H
              have c12b0 : decide (0 ≤ x11_1) = true := decide_eq_true c12
              clear c12
              by_cases c13 : x9_1.length < 977343669134
              · rw [if_pos c13] at H
                have LMc13 := Aside0.mk c13
                clear c13
                obtain ⟨y118, hy118⟩ : ∃ y_ : List (S27), y_ = (x9_1 ++ [(⟨(rd_T27 l0 x11_1).f0, (rd_T27 l0 x11_1).f1, (rd_T27 l0 x11_1).f2, (⟨(rd_T27 l0 x11_1).f3.f0, (rd_T27 l0 x11_1).f3.f1, (rd_T27 l0 x11_1).f3.f2, (rd_T27 l0 x11_1).f3.f3⟩ : S23), (rd_T27 l0 x11_1).f4, (rd_T27 l0 x11_1).f5, (⟨(rd_T27 l0 x11_1).f6.f0, (rd_T27 l0 x11_1).f6.f1⟩ : S25), (⟨(rd_T27 l0 x11_1).f7.f0, (rd_T27 l0 x11_1).f7.f1⟩ : S25)⟩ : S27)]) := ⟨_, rfl⟩
                replace H : (contangoref12_Bust.l0 k1 l0 a1 y118 true (wrap64 (x11_1 + 1)) t102 t103 t104 t105 t106 t107 t108 t109 t110 t111 t112 t113 t114) = some (r1, r2, r3, r4, r5, r6, r7, r8, r9, r10, r11, r12, r13, r14, r15) := by first | (rw [hy118]; with_reducible exact H) | (have H2_ := (Option.bind_some _ _).symm.trans H; rw [hy118]; with_reducible exact H2_) | (have H2_ := (Option.bind_some _ _).symm.trans H; with_reducible exact H2_) | with_reducible exact H | (rw [hy118]; exact H) | exact H
                have Ny118 := Aside0.mk hy118
                clear hy118
                have H' := Aside0.mk H
                clear H
                have p117 : 0 ≤ (x11_1 : Int) := of_decide_eq_true (by first | (with_reducible assumption) | assumption)
                have q117 : x11_1 < (l0.length : Int) := of_decide_eq_true (by first | (with_reducible assumption) | assumption)
                obtain ⟨ad117, e117, hx117_0, hx117_1, hx117_2, hx117_3, hx117_4, hx117_5, hx117_6, hx117_7, hx117_8, hx117_9, hx117_10, hx117_11, hx117_12⟩ := at_T27 HR0.out x11_1 p117 q117
                cases e117
                replace hx117_0 := (HB.out.cell (World.block_lt_of_cell? w _ hx117_0)).trans hx117_0
                replace hx117_1 := (HB.out.cell (World.block_lt_of_cell? w _ hx117_1)).trans hx117_1
                replace hx117_2 := (HB.out.cell (World.block_lt_of_cell? w _ hx117_2)).trans hx117_2
                replace hx117_3 := (HB.out.cell (World.block_lt_of_cell? w _ hx117_3)).trans hx117_3
                replace hx117_4 := (HB.out.cell (World.block_lt_of_cell? w _ hx117_4)).trans hx117_4
                replace hx117_5 := (HB.out.cell (World.block_lt_of_cell? w _ hx117_5)).trans hx117_5
                replace hx117_6 := (HB.out.cell (World.block_lt_of_cell? w _ hx117_6)).trans hx117_6
                replace hx117_7 := (HB.out.cell (World.block_lt_of_cell? w _ hx117_7)).trans hx117_7
                replace hx117_8 := (HB.out.cell (World.block_lt_of_cell? w _ hx117_8)).trans hx117_8
                replace hx117_9 := (HB.out.cell (World.block_lt_of_cell? w _ hx117_9)).trans hx117_9
                replace hx117_10 := (HB.out.cell (World.block_lt_of_cell? w _ hx117_10)).trans hx117_10
                replace hx117_11 := (HB.out.cell (World.block_lt_of_cell? w _ hx117_11)).trans hx117_11
                replace hx117_12 := (HB.out.cell (World.block_lt_of_cell? w _ hx117_12)).trans hx117_12
                replace p117 := eq_true p117
                replace q117 := eq_true q117
                go_wp2_with (first | ((with_reducible refine gate_builtin (b := .append) (xs := #[.tmp 38, .tmp 43]) rfl ?_); at_builtin; refine Kd.R_append k27 (w0 := w) w.heap.size rfl (.tmp 38) (.tmp 43) 36 27 (.agg #[(.int .i64 0), (.int .i64 0), (.int .i64 0), (.string ⟨#[]⟩), (.int .i64 0), (.int .i64 0), (.int .i64 0), (.int .i64 0), (.int .i64 0), (.string ⟨#[]⟩), (.string ⟨#[]⟩), (.string ⟨#[]⟩), (.string ⟨#[]⟩)]) 144 rfl Tryd.underlying36 info27 rfl (by decide) (by omega) u9 x9_1 (⟨(rd_T27 l0 x11_1).f0, (rd_T27 l0 x11_1).f1, (rd_T27 l0 x11_1).f2, (⟨(rd_T27 l0 x11_1).f3.f0, (rd_T27 l0 x11_1).f3.f1, (rd_T27 l0 x11_1).f3.f2, (rd_T27 l0 x11_1).f3.f3⟩ : S23), (rd_T27 l0 x11_1).f4, (rd_T27 l0 x11_1).f5, (⟨(rd_T27 l0 x11_1).f6.f0, (rd_T27 l0 x11_1).f6.f1⟩ : S25), (⟨(rd_T27 l0 x11_1).f7.f0, (rd_T27 l0 x11_1).f7.f1⟩ : S25)⟩ : S27) [.int .i64 ((rd_T27 l0 x11_1).f0), .int .i64 ((rd_T27 l0 x11_1).f1), .int .i64 ((rd_T27 l0 x11_1).f2), .string ((rd_T27 l0 x11_1).f3.f0), .int .i64 ((rd_T27 l0 x11_1).f3.f1), .int .i64 ((rd_T27 l0 x11_1).f3.f2), .int .i64 ((rd_T27 l0 x11_1).f3.f3), .int .i64 ((rd_T27 l0 x11_1).f4), .int .i64 ((rd_T27 l0 x11_1).f5), .string ((rd_T27 l0 x11_1).f6.f0), .string ((rd_T27 l0 x11_1).f6.f1), .string ((rd_T27 l0 x11_1).f7.f0), .string ((rd_T27 l0 x11_1).f7.f1)] (fun k_ => k_ ≠ gb101 ∧ k_ ≠ gb116) (fun _ => False) rfl rfl ?aP (fun _ hk => hk.elim) ?aF ?aO ?aB ?aS ?aL ?_; (case aP => exact k27_mkM _ _ _ (⟨(rd_T27 l0 x11_1).f0, (rd_T27 l0 x11_1).f1, (rd_T27 l0 x11_1).f2, (⟨(rd_T27 l0 x11_1).f3.f0, (rd_T27 l0 x11_1).f3.f1, (rd_T27 l0 x11_1).f3.f2, (rd_T27 l0 x11_1).f3.f3⟩ : S23), (rd_T27 l0 x11_1).f4, (rd_T27 l0 x11_1).f5, (⟨(rd_T27 l0 x11_1).f6.f0, (rd_T27 l0 x11_1).f6.f1⟩ : S25), (⟨(rd_T27 l0 x11_1).f7.f0, (rd_T27 l0 x11_1).f7.f1⟩ : S25)⟩ : S27)); (case aB => exact (by repeat (first | (with_reducible first | exact HB.out | apply below_alloc | apply pw_below_drewN | apply below_drew1 | refine below_set ?_ GE101.out | refine below_set ?_ GE116.out) | exact HB.out))); (case aF => exact (fun k_ hk => ⟨Kd.freshB (g := gb101) (o := .cells #[.int .i64 0, .int .i64 0, .int .i64 0, .string (⟨#[]⟩ : ByteArray), .int .i64 0, .int .i64 0, .int .i64 0, .int .i64 0, .int .i64 0, .string (⟨#[]⟩ : ByteArray), .string (⟨#[]⟩ : ByteArray), .string (⟨#[]⟩ : ByteArray), .string (⟨#[]⟩ : ByteArray)] 27 (0, 0)) (by (with_reducible repeat (first | refine blk_drewN ?_ _ | refine blk_drew ?_ | refine blk_alloc ?_ _)); exact BK101.out) k_ hk, Kd.freshB (g := gb116) (o := .cells #[.int .i64 t102, .int .i64 t103, .int .i64 t104, .string t105, .int .i64 t106, .int .i64 t107, .int .i64 t108, .int .i64 t109, .int .i64 t110, .string t111, .string t112, .string t113, .string t114] 27 (0, 0)) (by (with_reducible repeat (first | refine blk_drewN ?_ _ | refine blk_drew ?_ | refine blk_alloc ?_ _)); exact BK116.out) k_ hk⟩)); (case aO => exact (by (with_reducible repeat (first | apply Kd.R_alloc | apply Kd.R_drewN | apply Kd.R_drew)); exact HO_9.out)); (case aS => exact (below_size (by repeat (first | (with_reducible first | exact HB.out | apply below_alloc | apply pw_below_drewN | apply below_drew1 | refine below_set ?_ GE101.out | refine below_set ?_ GE116.out) | exact HB.out)))); (case aL => have := LMc13.out; omega); intro v119 w14 ho hb hg hat; rw [← Ny118.out] at ho; have n0_ := Aside0.mk (blk_grown (g := gb101) (o := .cells #[.int .i64 0, .int .i64 0, .int .i64 0, .string (⟨#[]⟩ : ByteArray), .int .i64 0, .int .i64 0, .int .i64 0, .int .i64 0, .int .i64 0, .string (⟨#[]⟩ : ByteArray), .string (⟨#[]⟩ : ByteArray), .string (⟨#[]⟩ : ByteArray), .string (⟨#[]⟩ : ByteArray)] 27 (0, 0)) (by (with_reducible repeat (first | refine blk_drewN ?_ _ | refine blk_drew ?_ | refine blk_alloc ?_ _)); exact BK101.out) hg (Kd.R_away HO_9.out (fun _ hk => hk.1))); have n1_ := Aside0.mk (blk_grown (g := gb116) (o := .cells #[.int .i64 t102, .int .i64 t103, .int .i64 t104, .string t105, .int .i64 t106, .int .i64 t107, .int .i64 t108, .int .i64 t109, .int .i64 t110, .string t111, .string t112, .string t113, .string t114] 27 (0, 0)) (by (with_reducible repeat (first | refine blk_drewN ?_ _ | refine blk_drew ?_ | refine blk_alloc ?_ _)); exact BK116.out) hg (Kd.R_away HO_9.out (fun _ hk => hk.2))); have n2_ := Aside0.mk (hb); have n3_ := Aside0.mk (ho); clear BK101; clear BK116; clear HB; clear HO_9; have BK101 := n0_; have BK116 := n1_; have HB := n2_; have HO120 := n3_; clear n0_ n1_ n2_ n3_; clear ho hb hg hat))
                go_roundg k1
                case measure => have := HK1.out; omega
                case rel => exact ⟨(y118), (true), (wrap64 (x11_1 + 1)), (by first | rfl | (simp; done) | (simp [*]; done)), (by first | rfl | (simp; done) | (simp [*]; done)), H', ⟨by have := HK1.out; omega⟩, ⟨by (with_reducible repeat (first | apply Kd.R_alloc | apply Kd.R_drewN | apply Kd.R_drew)); exact HO120.out⟩, ⟨by (with_reducible repeat (first | refine blk_drewN ?_ _ | refine blk_drew ?_ | refine blk_alloc ?_ _)); exact BK101.out⟩, ⟨by (with_reducible repeat (first | refine blk_drewN ?_ _ | refine blk_drew ?_ | refine blk_alloc ?_ _)); exact BK116.out⟩, ⟨by repeat (first | (with_reducible first | exact HB.out | apply below_alloc | apply pw_below_drewN | apply below_drew1 | refine below_set ?_ GE101.out | refine below_set ?_ GE116.out) | exact HB.out)⟩⟩
              · rw [if_neg c13] at H
                exact absurd H (by simp)
            · rw [if_neg c12] at H
              exact absurd H (by simp)
          · replace c11 := Bool.eq_false_iff.mpr c11
            subst c11
            have H1 : (if 0 ≤ x11_1 then (if ((rd_T27 l0 x11_1).f0) = a1 then (contangoref12_Bust.l0 k1 l0 a1 x9_1 true (wrap64 (x11_1 + 1)) t102 t103 t104 t105 t106 t107 t108 t109 t110 t111 t112 t113 t114) else (if x9_1.length < 977343669134 then (contangoref12_Bust.l0 k1 l0 a1 (x9_1 ++ [(⟨(rd_T27 l0 x11_1).f0, (rd_T27 l0 x11_1).f1, (rd_T27 l0 x11_1).f2, (⟨(rd_T27 l0 x11_1).f3.f0, (rd_T27 l0 x11_1).f3.f1, (rd_T27 l0 x11_1).f3.f2, (rd_T27 l0 x11_1).f3.f3⟩ : S23), (rd_T27 l0 x11_1).f4, (rd_T27 l0 x11_1).f5, (⟨(rd_T27 l0 x11_1).f6.f0, (rd_T27 l0 x11_1).f6.f1⟩ : S25), (⟨(rd_T27 l0 x11_1).f7.f0, (rd_T27 l0 x11_1).f7.f1⟩ : S25)⟩ : S27)]) false (wrap64 (x11_1 + 1)) t102 t103 t104 t105 t106 t107 t108 t109 t110 t111 t112 t113 t114) else (none))) else (none)) = some (r1, r2, r3, r4, r5, r6, r7, r8, r9, r10, r11, r12, r13, r14, r15) := by rw [if_neg (show ¬ (false = true) by decide)] at H; exact H
            clear H
            have H := H1
            clear H1
            by_cases c15 : 0 ≤ x11_1
            · rw [if_pos c15] at H
              have c15b0 : decide (0 ≤ x11_1) = true := decide_eq_true c15
              clear c15
              by_cases c16 : ((rd_T27 l0 x11_1).f0) = a1
              · rw [if_pos c16] at H
                have c16b0 : (((rd_T27 l0 x11_1).f0) == a1) = true := beq_iff_eq.mpr c16
                have c16b1 : (((rd_T27 l0 x11_1).f0) != a1) = false := bne_eq_false_iff_eq.mpr c16
                clear c16
                have H' := Aside0.mk H
                clear H
                have p121 : 0 ≤ (x11_1 : Int) := of_decide_eq_true (by first | (with_reducible assumption) | assumption)
                have q121 : x11_1 < (l0.length : Int) := of_decide_eq_true (by first | (with_reducible assumption) | assumption)
                obtain ⟨ad121, e121, hx121_0, hx121_1, hx121_2, hx121_3, hx121_4, hx121_5, hx121_6, hx121_7, hx121_8, hx121_9, hx121_10, hx121_11, hx121_12⟩ := at_T27 HR0.out x11_1 p121 q121
                cases e121
                replace hx121_0 := (HB.out.cell (World.block_lt_of_cell? w _ hx121_0)).trans hx121_0
                replace hx121_1 := (HB.out.cell (World.block_lt_of_cell? w _ hx121_1)).trans hx121_1
                replace hx121_2 := (HB.out.cell (World.block_lt_of_cell? w _ hx121_2)).trans hx121_2
                replace hx121_3 := (HB.out.cell (World.block_lt_of_cell? w _ hx121_3)).trans hx121_3
                replace hx121_4 := (HB.out.cell (World.block_lt_of_cell? w _ hx121_4)).trans hx121_4
                replace hx121_5 := (HB.out.cell (World.block_lt_of_cell? w _ hx121_5)).trans hx121_5
                replace hx121_6 := (HB.out.cell (World.block_lt_of_cell? w _ hx121_6)).trans hx121_6
                replace hx121_7 := (HB.out.cell (World.block_lt_of_cell? w _ hx121_7)).trans hx121_7
                replace hx121_8 := (HB.out.cell (World.block_lt_of_cell? w _ hx121_8)).trans hx121_8
                replace hx121_9 := (HB.out.cell (World.block_lt_of_cell? w _ hx121_9)).trans hx121_9
                replace hx121_10 := (HB.out.cell (World.block_lt_of_cell? w _ hx121_10)).trans hx121_10
                replace hx121_11 := (HB.out.cell (World.block_lt_of_cell? w _ hx121_11)).trans hx121_11
                replace hx121_12 := (HB.out.cell (World.block_lt_of_cell? w _ hx121_12)).trans hx121_12
                replace p121 := eq_true p121
                replace q121 := eq_true q121
                go_wp2
                go_roundg k1
                case measure => have := HK1.out; omega
                case rel => exact ⟨(x9_1), (true), (wrap64 (x11_1 + 1)), (by first | rfl | (simp; done) | (simp [*]; done)), (by first | rfl | (simp; done) | (simp [*]; done)), H', ⟨by have := HK1.out; omega⟩, ⟨by (with_reducible repeat (first | apply Kd.R_alloc | apply Kd.R_drewN | apply Kd.R_drew)); exact HO_9.out⟩, ⟨by (with_reducible repeat (first | refine blk_drewN ?_ _ | refine blk_drew ?_ | refine blk_alloc ?_ _)); exact BK101.out⟩, ⟨by (with_reducible repeat (first | refine blk_drewN ?_ _ | refine blk_drew ?_ | refine blk_alloc ?_ _)); exact BK116.out⟩, ⟨by repeat (first | (with_reducible first | exact HB.out | apply below_alloc | apply pw_below_drewN | apply below_drew1 | refine below_set ?_ GE101.out | refine below_set ?_ GE116.out) | exact HB.out)⟩⟩
              · rw [if_neg c16] at H
                have c16b0 : (((rd_T27 l0 x11_1).f0) == a1) = false := beq_eq_false_iff_ne.mpr c16
                have c16b1 : (((rd_T27 l0 x11_1).f0) != a1) = true := bne_iff_ne.mpr c16
                by_cases c17 : x9_1.length < 977343669134
                · rw [if_pos c17] at H
                  have LMc17 := Aside0.mk c17
                  clear c17
                  obtain ⟨y123, hy123⟩ : ∃ y_ : List (S27), y_ = (x9_1 ++ [(⟨(rd_T27 l0 x11_1).f0, (rd_T27 l0 x11_1).f1, (rd_T27 l0 x11_1).f2, (⟨(rd_T27 l0 x11_1).f3.f0, (rd_T27 l0 x11_1).f3.f1, (rd_T27 l0 x11_1).f3.f2, (rd_T27 l0 x11_1).f3.f3⟩ : S23), (rd_T27 l0 x11_1).f4, (rd_T27 l0 x11_1).f5, (⟨(rd_T27 l0 x11_1).f6.f0, (rd_T27 l0 x11_1).f6.f1⟩ : S25), (⟨(rd_T27 l0 x11_1).f7.f0, (rd_T27 l0 x11_1).f7.f1⟩ : S25)⟩ : S27)]) := ⟨_, rfl⟩
                  replace H : (contangoref12_Bust.l0 k1 l0 a1 y123 false (wrap64 (x11_1 + 1)) t102 t103 t104 t105 t106 t107 t108 t109 t110 t111 t112 t113 t114) = some (r1, r2, r3, r4, r5, r6, r7, r8, r9, r10, r11, r12, r13, r14, r15) := by first | (rw [hy123]; with_reducible exact H) | (have H2_ := (Option.bind_some _ _).symm.trans H; rw [hy123]; with_reducible exact H2_) | (have H2_ := (Option.bind_some _ _).symm.trans H; with_reducible exact H2_) | with_reducible exact H | (rw [hy123]; exact H) | exact H
                  have Ny123 := Aside0.mk hy123
                  clear hy123
                  have H' := Aside0.mk H
                  clear H
                  have p121 : 0 ≤ (x11_1 : Int) := of_decide_eq_true (by first | (with_reducible assumption) | assumption)
                  have q121 : x11_1 < (l0.length : Int) := of_decide_eq_true (by first | (with_reducible assumption) | assumption)
                  obtain ⟨ad121, e121, hx121_0, hx121_1, hx121_2, hx121_3, hx121_4, hx121_5, hx121_6, hx121_7, hx121_8, hx121_9, hx121_10, hx121_11, hx121_12⟩ := at_T27 HR0.out x11_1 p121 q121
                  cases e121
                  replace hx121_0 := (HB.out.cell (World.block_lt_of_cell? w _ hx121_0)).trans hx121_0
                  replace hx121_1 := (HB.out.cell (World.block_lt_of_cell? w _ hx121_1)).trans hx121_1
                  replace hx121_2 := (HB.out.cell (World.block_lt_of_cell? w _ hx121_2)).trans hx121_2
                  replace hx121_3 := (HB.out.cell (World.block_lt_of_cell? w _ hx121_3)).trans hx121_3
                  replace hx121_4 := (HB.out.cell (World.block_lt_of_cell? w _ hx121_4)).trans hx121_4
                  replace hx121_5 := (HB.out.cell (World.block_lt_of_cell? w _ hx121_5)).trans hx121_5
                  replace hx121_6 := (HB.out.cell (World.block_lt_of_cell? w _ hx121_6)).trans hx121_6
                  replace hx121_7 := (HB.out.cell (World.block_lt_of_cell? w _ hx121_7)).trans hx121_7
                  replace hx121_8 := (HB.out.cell (World.block_lt_of_cell? w _ hx121_8)).trans hx121_8
                  replace hx121_9 := (HB.out.cell (World.block_lt_of_cell? w _ hx121_9)).trans hx121_9
                  replace hx121_10 := (HB.out.cell (World.block_lt_of_cell? w _ hx121_10)).trans hx121_10
                  replace hx121_11 := (HB.out.cell (World.block_lt_of_cell? w _ hx121_11)).trans hx121_11
                  replace hx121_12 := (HB.out.cell (World.block_lt_of_cell? w _ hx121_12)).trans hx121_12
                  replace p121 := eq_true p121
                  replace q121 := eq_true q121
                  have p122 : 0 ≤ (x11_1 : Int) := of_decide_eq_true (by first | (with_reducible assumption) | assumption)
                  have q122 : x11_1 < (l0.length : Int) := of_decide_eq_true (by first | (with_reducible assumption) | assumption)
                  obtain ⟨ad122, e122, hx122_0, hx122_1, hx122_2, hx122_3, hx122_4, hx122_5, hx122_6, hx122_7, hx122_8, hx122_9, hx122_10, hx122_11, hx122_12⟩ := at_T27 HR0.out x11_1 p122 q122
                  obtain rfl : ad121 = ad122 := (by injection e122)
                  replace hx122_0 := (HB.out.cell (World.block_lt_of_cell? w _ hx122_0)).trans hx122_0
                  replace hx122_1 := (HB.out.cell (World.block_lt_of_cell? w _ hx122_1)).trans hx122_1
                  replace hx122_2 := (HB.out.cell (World.block_lt_of_cell? w _ hx122_2)).trans hx122_2
                  replace hx122_3 := (HB.out.cell (World.block_lt_of_cell? w _ hx122_3)).trans hx122_3
                  replace hx122_4 := (HB.out.cell (World.block_lt_of_cell? w _ hx122_4)).trans hx122_4
                  replace hx122_5 := (HB.out.cell (World.block_lt_of_cell? w _ hx122_5)).trans hx122_5
                  replace hx122_6 := (HB.out.cell (World.block_lt_of_cell? w _ hx122_6)).trans hx122_6
                  replace hx122_7 := (HB.out.cell (World.block_lt_of_cell? w _ hx122_7)).trans hx122_7
                  replace hx122_8 := (HB.out.cell (World.block_lt_of_cell? w _ hx122_8)).trans hx122_8
                  replace hx122_9 := (HB.out.cell (World.block_lt_of_cell? w _ hx122_9)).trans hx122_9
                  replace hx122_10 := (HB.out.cell (World.block_lt_of_cell? w _ hx122_10)).trans hx122_10
                  replace hx122_11 := (HB.out.cell (World.block_lt_of_cell? w _ hx122_11)).trans hx122_11
                  replace hx122_12 := (HB.out.cell (World.block_lt_of_cell? w _ hx122_12)).trans hx122_12
                  replace p122 := eq_true p122
                  replace q122 := eq_true q122
                  go_wp2_with (first | ((with_reducible refine gate_builtin (b := .append) (xs := #[.tmp 38, .tmp 43]) rfl ?_); at_builtin; refine Kd.R_append k27 (w0 := w) w.heap.size rfl (.tmp 38) (.tmp 43) 36 27 (.agg #[(.int .i64 0), (.int .i64 0), (.int .i64 0), (.string ⟨#[]⟩), (.int .i64 0), (.int .i64 0), (.int .i64 0), (.int .i64 0), (.int .i64 0), (.string ⟨#[]⟩), (.string ⟨#[]⟩), (.string ⟨#[]⟩), (.string ⟨#[]⟩)]) 144 rfl Tryd.underlying36 info27 rfl (by decide) (by omega) u9 x9_1 (⟨(rd_T27 l0 x11_1).f0, (rd_T27 l0 x11_1).f1, (rd_T27 l0 x11_1).f2, (⟨(rd_T27 l0 x11_1).f3.f0, (rd_T27 l0 x11_1).f3.f1, (rd_T27 l0 x11_1).f3.f2, (rd_T27 l0 x11_1).f3.f3⟩ : S23), (rd_T27 l0 x11_1).f4, (rd_T27 l0 x11_1).f5, (⟨(rd_T27 l0 x11_1).f6.f0, (rd_T27 l0 x11_1).f6.f1⟩ : S25), (⟨(rd_T27 l0 x11_1).f7.f0, (rd_T27 l0 x11_1).f7.f1⟩ : S25)⟩ : S27) [.int .i64 ((rd_T27 l0 x11_1).f0), .int .i64 ((rd_T27 l0 x11_1).f1), .int .i64 ((rd_T27 l0 x11_1).f2), .string ((rd_T27 l0 x11_1).f3.f0), .int .i64 ((rd_T27 l0 x11_1).f3.f1), .int .i64 ((rd_T27 l0 x11_1).f3.f2), .int .i64 ((rd_T27 l0 x11_1).f3.f3), .int .i64 ((rd_T27 l0 x11_1).f4), .int .i64 ((rd_T27 l0 x11_1).f5), .string ((rd_T27 l0 x11_1).f6.f0), .string ((rd_T27 l0 x11_1).f6.f1), .string ((rd_T27 l0 x11_1).f7.f0), .string ((rd_T27 l0 x11_1).f7.f1)] (fun k_ => k_ ≠ gb101 ∧ k_ ≠ gb116) (fun _ => False) rfl rfl ?aP (fun _ hk => hk.elim) ?aF ?aO ?aB ?aS ?aL ?_; (case aP => exact k27_mkM _ _ _ (⟨(rd_T27 l0 x11_1).f0, (rd_T27 l0 x11_1).f1, (rd_T27 l0 x11_1).f2, (⟨(rd_T27 l0 x11_1).f3.f0, (rd_T27 l0 x11_1).f3.f1, (rd_T27 l0 x11_1).f3.f2, (rd_T27 l0 x11_1).f3.f3⟩ : S23), (rd_T27 l0 x11_1).f4, (rd_T27 l0 x11_1).f5, (⟨(rd_T27 l0 x11_1).f6.f0, (rd_T27 l0 x11_1).f6.f1⟩ : S25), (⟨(rd_T27 l0 x11_1).f7.f0, (rd_T27 l0 x11_1).f7.f1⟩ : S25)⟩ : S27)); (case aB => exact (by repeat (first | (with_reducible first | exact HB.out | apply below_alloc | apply pw_below_drewN | apply below_drew1 | refine below_set ?_ GE101.out | refine below_set ?_ GE116.out) | exact HB.out))); (case aF => exact (fun k_ hk => ⟨Kd.freshB (g := gb101) (o := .cells #[.int .i64 0, .int .i64 0, .int .i64 0, .string (⟨#[]⟩ : ByteArray), .int .i64 0, .int .i64 0, .int .i64 0, .int .i64 0, .int .i64 0, .string (⟨#[]⟩ : ByteArray), .string (⟨#[]⟩ : ByteArray), .string (⟨#[]⟩ : ByteArray), .string (⟨#[]⟩ : ByteArray)] 27 (0, 0)) (by (with_reducible repeat (first | refine blk_drewN ?_ _ | refine blk_drew ?_ | refine blk_alloc ?_ _)); exact BK101.out) k_ hk, Kd.freshB (g := gb116) (o := .cells #[.int .i64 t102, .int .i64 t103, .int .i64 t104, .string t105, .int .i64 t106, .int .i64 t107, .int .i64 t108, .int .i64 t109, .int .i64 t110, .string t111, .string t112, .string t113, .string t114] 27 (0, 0)) (by (with_reducible repeat (first | refine blk_drewN ?_ _ | refine blk_drew ?_ | refine blk_alloc ?_ _)); exact BK116.out) k_ hk⟩)); (case aO => exact (by (with_reducible repeat (first | apply Kd.R_alloc | apply Kd.R_drewN | apply Kd.R_drew)); exact HO_9.out)); (case aS => exact (below_size (by repeat (first | (with_reducible first | exact HB.out | apply below_alloc | apply pw_below_drewN | apply below_drew1 | refine below_set ?_ GE101.out | refine below_set ?_ GE116.out) | exact HB.out)))); (case aL => have := LMc17.out; omega); intro v124 w18 ho hb hg hat; rw [← Ny123.out] at ho; have n0_ := Aside0.mk (blk_grown (g := gb101) (o := .cells #[.int .i64 0, .int .i64 0, .int .i64 0, .string (⟨#[]⟩ : ByteArray), .int .i64 0, .int .i64 0, .int .i64 0, .int .i64 0, .int .i64 0, .string (⟨#[]⟩ : ByteArray), .string (⟨#[]⟩ : ByteArray), .string (⟨#[]⟩ : ByteArray), .string (⟨#[]⟩ : ByteArray)] 27 (0, 0)) (by (with_reducible repeat (first | refine blk_drewN ?_ _ | refine blk_drew ?_ | refine blk_alloc ?_ _)); exact BK101.out) hg (Kd.R_away HO_9.out (fun _ hk => hk.1))); have n1_ := Aside0.mk (blk_grown (g := gb116) (o := .cells #[.int .i64 t102, .int .i64 t103, .int .i64 t104, .string t105, .int .i64 t106, .int .i64 t107, .int .i64 t108, .int .i64 t109, .int .i64 t110, .string t111, .string t112, .string t113, .string t114] 27 (0, 0)) (by (with_reducible repeat (first | refine blk_drewN ?_ _ | refine blk_drew ?_ | refine blk_alloc ?_ _)); exact BK116.out) hg (Kd.R_away HO_9.out (fun _ hk => hk.2))); have n2_ := Aside0.mk (hb); have n3_ := Aside0.mk (ho); clear BK101; clear BK116; clear HB; clear HO_9; have BK101 := n0_; have BK116 := n1_; have HB := n2_; have HO125 := n3_; clear n0_ n1_ n2_ n3_; clear ho hb hg hat))
                  go_roundg k1
                  case measure => have := HK1.out; omega
                  case rel => exact ⟨(y123), (false), (wrap64 (x11_1 + 1)), (by first | rfl | (simp; done) | (simp [*]; done)), (by first | rfl | (simp; done) | (simp [*]; done)), H', ⟨by have := HK1.out; omega⟩, ⟨by (with_reducible repeat (first | apply Kd.R_alloc | apply Kd.R_drewN | apply Kd.R_drew)); exact HO125.out⟩, ⟨by (with_reducible repeat (first | refine blk_drewN ?_ _ | refine blk_drew ?_ | refine blk_alloc ?_ _)); exact BK101.out⟩, ⟨by (with_reducible repeat (first | refine blk_drewN ?_ _ | refine blk_drew ?_ | refine blk_alloc ?_ _)); exact BK116.out⟩, ⟨by repeat (first | (with_reducible first | exact HB.out | apply below_alloc | apply pw_below_drewN | apply below_drew1 | refine below_set ?_ GE101.out | refine below_set ?_ GE116.out) | exact HB.out)⟩⟩
                · rw [if_neg c17] at H
                  exact absurd H (by simp)
            · rw [if_neg c15] at H
              exact absurd H (by simp)
        · rw [if_neg c10] at H
          have c10b0 : decide (x11_1 < (l0.length : Int)) = false := decide_eq_false c10
          clear c10
          simp only [Option.some.injEq, Prod.mk.injEq] at H
          obtain ⟨rfl, rfl, rfl, rfl, rfl, rfl, rfl, rfl, rfl, rfl, rfl, rfl, rfl, rfl, rfl⟩ := H
          try go_wp2
          have n0_ := Aside0.mk (Kd.R_drew HO_9.out)
          have n1_ := Aside0.mk (blk_drew BK101.out)
          have n2_ := Aside0.mk (blk_drew BK116.out)
          have n3_ := Aside0.mk (below_drew1 HB.out)
          clear HO_9
          clear BK101
          clear BK116
          clear HB
          have HO_9 := n0_
          have BK101 := n1_
          have BK116 := n2_
          have HB := n3_
          clear n0_ n1_ n2_ n3_
          refine start_ (n := 5) (S := fun w' => w'.cell? ⟨gb116, 0, none⟩ = some (.int .i64 t102) ∧ w'.cell? ⟨gb116, 1, none⟩ = some (.int .i64 t103) ∧ w'.cell? ⟨gb116, 2, none⟩ = some (.int .i64 t104) ∧ w'.cell? ⟨gb116, 3, none⟩ = some (.string t105) ∧ w'.cell? ⟨gb116, 4, none⟩ = some (.int .i64 t106) ∧ w'.cell? ⟨gb116, 5, none⟩ = some (.int .i64 t107) ∧ w'.cell? ⟨gb116, 6, none⟩ = some (.int .i64 t108) ∧ w'.cell? ⟨gb116, 7, none⟩ = some (.int .i64 t109) ∧ w'.cell? ⟨gb116, 8, none⟩ = some (.int .i64 t110) ∧ w'.cell? ⟨gb116, 9, none⟩ = some (.string t111) ∧ w'.cell? ⟨gb116, 10, none⟩ = some (.string t112) ∧ w'.cell? ⟨gb116, 11, none⟩ = some (.string t113) ∧ w'.cell? ⟨gb116, 12, none⟩ = some (.string t114)) (ds := []) #[false, false, false, false, false] (by kernel_rfl) rfl rfl ⟨(blk_cell BK116.out 0).trans rfl, (blk_cell BK116.out 1).trans rfl, (blk_cell BK116.out 2).trans rfl, (blk_cell BK116.out 3).trans rfl, (blk_cell BK116.out 4).trans rfl, (blk_cell BK116.out 5).trans rfl, (blk_cell BK116.out 6).trans rfl, (blk_cell BK116.out 7).trans rfl, (blk_cell BK116.out 8).trans rfl, (blk_cell BK116.out 9).trans rfl, (blk_cell BK116.out 10).trans rfl, (blk_cell BK116.out 11).trans rfl, (blk_cell BK116.out 12).trans rfl⟩ (fun hHeld => ?_)
          generalize wr.drew = w19 at HO_9 BK101 BK116 HB hHeld ⊢
          refine pure_ (i := 0) (N := some 45) (v := ?_) (a' := ?_) #[true, false, false, false, false] rfl rfl (by kernel_rfl) (fun _ _ _ h => h) (Or.inl ⟨by rfl, ?_⟩) ?_ ?_
          rotate_left
          · intro w'
            go_simp
            with_reducible rfl
          rotate_left
          · simp only [Act.put, List.setIfInBounds_toArray, List.set_cons_zero, List.set_cons_succ, i64_w, i32_w]
            rfl
          refine pure_ (i := 2) (N := some 4) (v := ?_) (a' := ?_) #[true, false, true, false, false] rfl rfl (by kernel_rfl) (fun _ _ _ h => h) (Or.inl ⟨by rfl, ?_⟩) ?_ ?_
          rotate_left
          · intro w'
            go_simp
            with_reducible rfl
          rotate_left
          · simp only [Act.put, List.setIfInBounds_toArray, List.set_cons_zero, List.set_cons_succ, i64_w, i32_w]
            rfl
          refine take_ (i := 1) (N := some 46) (v := ?_) (a' := ?_) #[true, true, true, false, false] rfl rfl (by kernel_rfl) (fun _ _ _ h => h) (Or.inl ⟨by rfl, ?_⟩) hHeld ?_ ?_
          rotate_left
          · rintro w' ⟨s0, s1, s2, s3, s4, s5, s6, s7, s8, s9, s10, s11, s12⟩
            go_simp
            with_reducible rfl
          rotate_left
          · simp only [Act.put, List.setIfInBounds_toArray, List.set_cons_zero, List.set_cons_succ, i64_w, i32_w]
            rfl
          refine one_ (i := 3) (N := none) #[true, true, true, true, false] rfl rfl (by kernel_rfl) (by decide) (fun K hK => ?_)
          have hs20 : w19.cell? ⟨gb101, 0, none⟩ = some (.int .i64 0) := (blk_cell BK101.out 0).trans rfl
          have hfs20 := blk_frozen BK101.out 0
          have hns20_1 := NB116_101.out
          have hms20_1 := NB101_116.out
          have hs21 : w19.cell? ⟨gb101, 1, none⟩ = some (.int .i64 0) := (blk_cell BK101.out 1).trans rfl
          have hfs21 := blk_frozen BK101.out 1
          have hns21_1 := NB116_101.out
          have hms21_1 := NB101_116.out
          have hs22 : w19.cell? ⟨gb101, 2, none⟩ = some (.int .i64 0) := (blk_cell BK101.out 2).trans rfl
          have hfs22 := blk_frozen BK101.out 2
          have hns22_1 := NB116_101.out
          have hms22_1 := NB101_116.out
          have hs23 : w19.cell? ⟨gb101, 3, none⟩ = some (.string (⟨#[]⟩ : ByteArray)) := (blk_cell BK101.out 3).trans rfl
          have hfs23 := blk_frozen BK101.out 3
          have hns23_1 := NB116_101.out
          have hms23_1 := NB101_116.out
          have hs24 : w19.cell? ⟨gb101, 4, none⟩ = some (.int .i64 0) := (blk_cell BK101.out 4).trans rfl
          have hfs24 := blk_frozen BK101.out 4
          have hns24_1 := NB116_101.out
          have hms24_1 := NB101_116.out
          have hs25 : w19.cell? ⟨gb101, 5, none⟩ = some (.int .i64 0) := (blk_cell BK101.out 5).trans rfl
          have hfs25 := blk_frozen BK101.out 5
          have hns25_1 := NB116_101.out
          have hms25_1 := NB101_116.out
          have hs26 : w19.cell? ⟨gb101, 6, none⟩ = some (.int .i64 0) := (blk_cell BK101.out 6).trans rfl
          have hfs26 := blk_frozen BK101.out 6
          have hns26_1 := NB116_101.out
          have hms26_1 := NB101_116.out
          have hs27 : w19.cell? ⟨gb101, 7, none⟩ = some (.int .i64 0) := (blk_cell BK101.out 7).trans rfl
          have hfs27 := blk_frozen BK101.out 7
          have hns27_1 := NB116_101.out
          have hms27_1 := NB101_116.out
          have hs28 : w19.cell? ⟨gb101, 8, none⟩ = some (.int .i64 0) := (blk_cell BK101.out 8).trans rfl
          have hfs28 := blk_frozen BK101.out 8
          have hns28_1 := NB116_101.out
          have hms28_1 := NB101_116.out
          have hs29 : w19.cell? ⟨gb101, 9, none⟩ = some (.string (⟨#[]⟩ : ByteArray)) := (blk_cell BK101.out 9).trans rfl
          have hfs29 := blk_frozen BK101.out 9
          have hns29_1 := NB116_101.out
          have hms29_1 := NB101_116.out
          have hs30 : w19.cell? ⟨gb101, 10, none⟩ = some (.string (⟨#[]⟩ : ByteArray)) := (blk_cell BK101.out 10).trans rfl
          have hfs30 := blk_frozen BK101.out 10
          have hns30_1 := NB116_101.out
          have hms30_1 := NB101_116.out
          have hs31 : w19.cell? ⟨gb101, 11, none⟩ = some (.string (⟨#[]⟩ : ByteArray)) := (blk_cell BK101.out 11).trans rfl
          have hfs31 := blk_frozen BK101.out 11
          have hns31_1 := NB116_101.out
          have hms31_1 := NB101_116.out
          have hs32 : w19.cell? ⟨gb101, 12, none⟩ = some (.string (⟨#[]⟩ : ByteArray)) := (blk_cell BK101.out 12).trans rfl
          have hfs32 := blk_frozen BK101.out 12
          have hns32_1 := NB116_101.out
          have hms32_1 := NB101_116.out
          refine skip_ (w1 := ?_) (by rfl) rfl ?_ ?_
          rotate_left
          · go_simp
            rfl
          refine hK.out _ _ ⟨((cell_far (p := ⟨gb101, _, none⟩) NB116_101.out _).trans (((cell_far (p := ⟨gb101, _, none⟩) NB116_101.out _).trans (((cell_far (p := ⟨gb101, _, none⟩) NB116_101.out _).trans (((cell_far (p := ⟨gb101, _, none⟩) NB116_101.out _).trans (((cell_far (p := ⟨gb101, _, none⟩) NB116_101.out _).trans (((cell_far (p := ⟨gb101, _, none⟩) NB116_101.out _).trans (((cell_far (p := ⟨gb101, _, none⟩) NB116_101.out _).trans (((cell_far (p := ⟨gb101, _, none⟩) NB116_101.out _).trans (((cell_far (p := ⟨gb101, _, none⟩) NB116_101.out _).trans (((cell_far (p := ⟨gb101, _, none⟩) NB116_101.out _).trans (((cell_far (p := ⟨gb101, _, none⟩) NB116_101.out _).trans (((cell_far (p := ⟨gb101, _, none⟩) NB116_101.out _).trans (((cell_far (p := ⟨gb101, _, none⟩) NB116_101.out _).trans (hHeld.1)))))))))))))))))))))))))), ((cell_far (p := ⟨gb101, _, none⟩) NB116_101.out _).trans (((cell_far (p := ⟨gb101, _, none⟩) NB116_101.out _).trans (((cell_far (p := ⟨gb101, _, none⟩) NB116_101.out _).trans (((cell_far (p := ⟨gb101, _, none⟩) NB116_101.out _).trans (((cell_far (p := ⟨gb101, _, none⟩) NB116_101.out _).trans (((cell_far (p := ⟨gb101, _, none⟩) NB116_101.out _).trans (((cell_far (p := ⟨gb101, _, none⟩) NB116_101.out _).trans (((cell_far (p := ⟨gb101, _, none⟩) NB116_101.out _).trans (((cell_far (p := ⟨gb101, _, none⟩) NB116_101.out _).trans (((cell_far (p := ⟨gb101, _, none⟩) NB116_101.out _).trans (((cell_far (p := ⟨gb101, _, none⟩) NB116_101.out _).trans (((cell_far (p := ⟨gb101, _, none⟩) NB116_101.out _).trans (((cell_far (p := ⟨gb101, _, none⟩) NB116_101.out _).trans (hHeld.2.1)))))))))))))))))))))))))), ((cell_far (p := ⟨gb101, _, none⟩) NB116_101.out _).trans (((cell_far (p := ⟨gb101, _, none⟩) NB116_101.out _).trans (((cell_far (p := ⟨gb101, _, none⟩) NB116_101.out _).trans (((cell_far (p := ⟨gb101, _, none⟩) NB116_101.out _).trans (((cell_far (p := ⟨gb101, _, none⟩) NB116_101.out _).trans (((cell_far (p := ⟨gb101, _, none⟩) NB116_101.out _).trans (((cell_far (p := ⟨gb101, _, none⟩) NB116_101.out _).trans (((cell_far (p := ⟨gb101, _, none⟩) NB116_101.out _).trans (((cell_far (p := ⟨gb101, _, none⟩) NB116_101.out _).trans (((cell_far (p := ⟨gb101, _, none⟩) NB116_101.out _).trans (((cell_far (p := ⟨gb101, _, none⟩) NB116_101.out _).trans (((cell_far (p := ⟨gb101, _, none⟩) NB116_101.out _).trans (((cell_far (p := ⟨gb101, _, none⟩) NB116_101.out _).trans (hHeld.2.2.1)))))))))))))))))))))))))), ((cell_far (p := ⟨gb101, _, none⟩) NB116_101.out _).trans (((cell_far (p := ⟨gb101, _, none⟩) NB116_101.out _).trans (((cell_far (p := ⟨gb101, _, none⟩) NB116_101.out _).trans (((cell_far (p := ⟨gb101, _, none⟩) NB116_101.out _).trans (((cell_far (p := ⟨gb101, _, none⟩) NB116_101.out _).trans (((cell_far (p := ⟨gb101, _, none⟩) NB116_101.out _).trans (((cell_far (p := ⟨gb101, _, none⟩) NB116_101.out _).trans (((cell_far (p := ⟨gb101, _, none⟩) NB116_101.out _).trans (((cell_far (p := ⟨gb101, _, none⟩) NB116_101.out _).trans (((cell_far (p := ⟨gb101, _, none⟩) NB116_101.out _).trans (((cell_far (p := ⟨gb101, _, none⟩) NB116_101.out _).trans (((cell_far (p := ⟨gb101, _, none⟩) NB116_101.out _).trans (((cell_far (p := ⟨gb101, _, none⟩) NB116_101.out _).trans (hHeld.2.2.2.1)))))))))))))))))))))))))), ((cell_far (p := ⟨gb101, _, none⟩) NB116_101.out _).trans (((cell_far (p := ⟨gb101, _, none⟩) NB116_101.out _).trans (((cell_far (p := ⟨gb101, _, none⟩) NB116_101.out _).trans (((cell_far (p := ⟨gb101, _, none⟩) NB116_101.out _).trans (((cell_far (p := ⟨gb101, _, none⟩) NB116_101.out _).trans (((cell_far (p := ⟨gb101, _, none⟩) NB116_101.out _).trans (((cell_far (p := ⟨gb101, _, none⟩) NB116_101.out _).trans (((cell_far (p := ⟨gb101, _, none⟩) NB116_101.out _).trans (((cell_far (p := ⟨gb101, _, none⟩) NB116_101.out _).trans (((cell_far (p := ⟨gb101, _, none⟩) NB116_101.out _).trans (((cell_far (p := ⟨gb101, _, none⟩) NB116_101.out _).trans (((cell_far (p := ⟨gb101, _, none⟩) NB116_101.out _).trans (((cell_far (p := ⟨gb101, _, none⟩) NB116_101.out _).trans (hHeld.2.2.2.2.1)))))))))))))))))))))))))), ((cell_far (p := ⟨gb101, _, none⟩) NB116_101.out _).trans (((cell_far (p := ⟨gb101, _, none⟩) NB116_101.out _).trans (((cell_far (p := ⟨gb101, _, none⟩) NB116_101.out _).trans (((cell_far (p := ⟨gb101, _, none⟩) NB116_101.out _).trans (((cell_far (p := ⟨gb101, _, none⟩) NB116_101.out _).trans (((cell_far (p := ⟨gb101, _, none⟩) NB116_101.out _).trans (((cell_far (p := ⟨gb101, _, none⟩) NB116_101.out _).trans (((cell_far (p := ⟨gb101, _, none⟩) NB116_101.out _).trans (((cell_far (p := ⟨gb101, _, none⟩) NB116_101.out _).trans (((cell_far (p := ⟨gb101, _, none⟩) NB116_101.out _).trans (((cell_far (p := ⟨gb101, _, none⟩) NB116_101.out _).trans (((cell_far (p := ⟨gb101, _, none⟩) NB116_101.out _).trans (((cell_far (p := ⟨gb101, _, none⟩) NB116_101.out _).trans (hHeld.2.2.2.2.2.1)))))))))))))))))))))))))), ((cell_far (p := ⟨gb101, _, none⟩) NB116_101.out _).trans (((cell_far (p := ⟨gb101, _, none⟩) NB116_101.out _).trans (((cell_far (p := ⟨gb101, _, none⟩) NB116_101.out _).trans (((cell_far (p := ⟨gb101, _, none⟩) NB116_101.out _).trans (((cell_far (p := ⟨gb101, _, none⟩) NB116_101.out _).trans (((cell_far (p := ⟨gb101, _, none⟩) NB116_101.out _).trans (((cell_far (p := ⟨gb101, _, none⟩) NB116_101.out _).trans (((cell_far (p := ⟨gb101, _, none⟩) NB116_101.out _).trans (((cell_far (p := ⟨gb101, _, none⟩) NB116_101.out _).trans (((cell_far (p := ⟨gb101, _, none⟩) NB116_101.out _).trans (((cell_far (p := ⟨gb101, _, none⟩) NB116_101.out _).trans (((cell_far (p := ⟨gb101, _, none⟩) NB116_101.out _).trans (((cell_far (p := ⟨gb101, _, none⟩) NB116_101.out _).trans (hHeld.2.2.2.2.2.2.1)))))))))))))))))))))))))), ((cell_far (p := ⟨gb101, _, none⟩) NB116_101.out _).trans (((cell_far (p := ⟨gb101, _, none⟩) NB116_101.out _).trans (((cell_far (p := ⟨gb101, _, none⟩) NB116_101.out _).trans (((cell_far (p := ⟨gb101, _, none⟩) NB116_101.out _).trans (((cell_far (p := ⟨gb101, _, none⟩) NB116_101.out _).trans (((cell_far (p := ⟨gb101, _, none⟩) NB116_101.out _).trans (((cell_far (p := ⟨gb101, _, none⟩) NB116_101.out _).trans (((cell_far (p := ⟨gb101, _, none⟩) NB116_101.out _).trans (((cell_far (p := ⟨gb101, _, none⟩) NB116_101.out _).trans (((cell_far (p := ⟨gb101, _, none⟩) NB116_101.out _).trans (((cell_far (p := ⟨gb101, _, none⟩) NB116_101.out _).trans (((cell_far (p := ⟨gb101, _, none⟩) NB116_101.out _).trans (((cell_far (p := ⟨gb101, _, none⟩) NB116_101.out _).trans (hHeld.2.2.2.2.2.2.2.1)))))))))))))))))))))))))), ((cell_far (p := ⟨gb101, _, none⟩) NB116_101.out _).trans (((cell_far (p := ⟨gb101, _, none⟩) NB116_101.out _).trans (((cell_far (p := ⟨gb101, _, none⟩) NB116_101.out _).trans (((cell_far (p := ⟨gb101, _, none⟩) NB116_101.out _).trans (((cell_far (p := ⟨gb101, _, none⟩) NB116_101.out _).trans (((cell_far (p := ⟨gb101, _, none⟩) NB116_101.out _).trans (((cell_far (p := ⟨gb101, _, none⟩) NB116_101.out _).trans (((cell_far (p := ⟨gb101, _, none⟩) NB116_101.out _).trans (((cell_far (p := ⟨gb101, _, none⟩) NB116_101.out _).trans (((cell_far (p := ⟨gb101, _, none⟩) NB116_101.out _).trans (((cell_far (p := ⟨gb101, _, none⟩) NB116_101.out _).trans (((cell_far (p := ⟨gb101, _, none⟩) NB116_101.out _).trans (((cell_far (p := ⟨gb101, _, none⟩) NB116_101.out _).trans (hHeld.2.2.2.2.2.2.2.2.1)))))))))))))))))))))))))), ((cell_far (p := ⟨gb101, _, none⟩) NB116_101.out _).trans (((cell_far (p := ⟨gb101, _, none⟩) NB116_101.out _).trans (((cell_far (p := ⟨gb101, _, none⟩) NB116_101.out _).trans (((cell_far (p := ⟨gb101, _, none⟩) NB116_101.out _).trans (((cell_far (p := ⟨gb101, _, none⟩) NB116_101.out _).trans (((cell_far (p := ⟨gb101, _, none⟩) NB116_101.out _).trans (((cell_far (p := ⟨gb101, _, none⟩) NB116_101.out _).trans (((cell_far (p := ⟨gb101, _, none⟩) NB116_101.out _).trans (((cell_far (p := ⟨gb101, _, none⟩) NB116_101.out _).trans (((cell_far (p := ⟨gb101, _, none⟩) NB116_101.out _).trans (((cell_far (p := ⟨gb101, _, none⟩) NB116_101.out _).trans (((cell_far (p := ⟨gb101, _, none⟩) NB116_101.out _).trans (((cell_far (p := ⟨gb101, _, none⟩) NB116_101.out _).trans (hHeld.2.2.2.2.2.2.2.2.2.1)))))))))))))))))))))))))), ((cell_far (p := ⟨gb101, _, none⟩) NB116_101.out _).trans (((cell_far (p := ⟨gb101, _, none⟩) NB116_101.out _).trans (((cell_far (p := ⟨gb101, _, none⟩) NB116_101.out _).trans (((cell_far (p := ⟨gb101, _, none⟩) NB116_101.out _).trans (((cell_far (p := ⟨gb101, _, none⟩) NB116_101.out _).trans (((cell_far (p := ⟨gb101, _, none⟩) NB116_101.out _).trans (((cell_far (p := ⟨gb101, _, none⟩) NB116_101.out _).trans (((cell_far (p := ⟨gb101, _, none⟩) NB116_101.out _).trans (((cell_far (p := ⟨gb101, _, none⟩) NB116_101.out _).trans (((cell_far (p := ⟨gb101, _, none⟩) NB116_101.out _).trans (((cell_far (p := ⟨gb101, _, none⟩) NB116_101.out _).trans (((cell_far (p := ⟨gb101, _, none⟩) NB116_101.out _).trans (((cell_far (p := ⟨gb101, _, none⟩) NB116_101.out _).trans (hHeld.2.2.2.2.2.2.2.2.2.2.1)))))))))))))))))))))))))), ((cell_far (p := ⟨gb101, _, none⟩) NB116_101.out _).trans (((cell_far (p := ⟨gb101, _, none⟩) NB116_101.out _).trans (((cell_far (p := ⟨gb101, _, none⟩) NB116_101.out _).trans (((cell_far (p := ⟨gb101, _, none⟩) NB116_101.out _).trans (((cell_far (p := ⟨gb101, _, none⟩) NB116_101.out _).trans (((cell_far (p := ⟨gb101, _, none⟩) NB116_101.out _).trans (((cell_far (p := ⟨gb101, _, none⟩) NB116_101.out _).trans (((cell_far (p := ⟨gb101, _, none⟩) NB116_101.out _).trans (((cell_far (p := ⟨gb101, _, none⟩) NB116_101.out _).trans (((cell_far (p := ⟨gb101, _, none⟩) NB116_101.out _).trans (((cell_far (p := ⟨gb101, _, none⟩) NB116_101.out _).trans (((cell_far (p := ⟨gb101, _, none⟩) NB116_101.out _).trans (((cell_far (p := ⟨gb101, _, none⟩) NB116_101.out _).trans (hHeld.2.2.2.2.2.2.2.2.2.2.2.1)))))))))))))))))))))))))), ((cell_far (p := ⟨gb101, _, none⟩) NB116_101.out _).trans (((cell_far (p := ⟨gb101, _, none⟩) NB116_101.out _).trans (((cell_far (p := ⟨gb101, _, none⟩) NB116_101.out _).trans (((cell_far (p := ⟨gb101, _, none⟩) NB116_101.out _).trans (((cell_far (p := ⟨gb101, _, none⟩) NB116_101.out _).trans (((cell_far (p := ⟨gb101, _, none⟩) NB116_101.out _).trans (((cell_far (p := ⟨gb101, _, none⟩) NB116_101.out _).trans (((cell_far (p := ⟨gb101, _, none⟩) NB116_101.out _).trans (((cell_far (p := ⟨gb101, _, none⟩) NB116_101.out _).trans (((cell_far (p := ⟨gb101, _, none⟩) NB116_101.out _).trans (((cell_far (p := ⟨gb101, _, none⟩) NB116_101.out _).trans (((cell_far (p := ⟨gb101, _, none⟩) NB116_101.out _).trans (((cell_far (p := ⟨gb101, _, none⟩) NB116_101.out _).trans (hHeld.2.2.2.2.2.2.2.2.2.2.2.2))))))))))))))))))))))))))⟩ (fun hHeld => ?_)
          clear hK K
          refine pure_ (i := 4) (N := some 6) (v := ?_) (a' := ?_) #[true, true, true, true, true] rfl rfl (by kernel_rfl) (fun _ _ _ h => h) (Or.inl ⟨by rfl, ?_⟩) ?_ ?_
          rotate_left
          · intro w'
            go_simp
            with_reducible rfl
          rotate_left
          · simp only [Act.put, List.setIfInBounds_toArray, List.set_cons_zero, List.set_cons_succ, i64_w, i32_w]
            rfl
          refine done_ (by kernel_rfl) ?_
          try go_wp2
          refine bodyPost_ret (results_list (rs := [.tmp 4, .cell 5 27, .tmp 6]) rfl (by simp) (.tmp (.cell gb101 27 #[.int .i64 t102, .int .i64 t103, .int .i64 t104, .string t105, .int .i64 t106, .int .i64 t107, .int .i64 t108, .int .i64 t109, .int .i64 t110, .string t111, .string t112, .string t113, .string t114] (0, 0) _ rfl (by (with_reducible repeat (first | refine blk_drewN ?_ _ | refine blk_drew ?_ | refine blk_alloc ?_ _)); refine blk_put (cs := #[.int .i64 t102, .int .i64 t103, .int .i64 t104, .string t105, .int .i64 t106, .int .i64 t107, .int .i64 t108, .int .i64 t109, .int .i64 t110, .string t111, .string t112, .string t113, .string (⟨#[]⟩ : ByteArray)]) ?_ 12 _ rfl; (with_reducible repeat (first | refine blk_drewN ?_ _ | refine blk_drew ?_ | refine blk_alloc ?_ _)); refine blk_put (cs := #[.int .i64 t102, .int .i64 t103, .int .i64 t104, .string t105, .int .i64 t106, .int .i64 t107, .int .i64 t108, .int .i64 t109, .int .i64 t110, .string t111, .string t112, .string (⟨#[]⟩ : ByteArray), .string (⟨#[]⟩ : ByteArray)]) ?_ 11 _ rfl; (with_reducible repeat (first | refine blk_drewN ?_ _ | refine blk_drew ?_ | refine blk_alloc ?_ _)); refine blk_put (cs := #[.int .i64 t102, .int .i64 t103, .int .i64 t104, .string t105, .int .i64 t106, .int .i64 t107, .int .i64 t108, .int .i64 t109, .int .i64 t110, .string t111, .string (⟨#[]⟩ : ByteArray), .string (⟨#[]⟩ : ByteArray), .string (⟨#[]⟩ : ByteArray)]) ?_ 10 _ rfl; (with_reducible repeat (first | refine blk_drewN ?_ _ | refine blk_drew ?_ | refine blk_alloc ?_ _)); refine blk_put (cs := #[.int .i64 t102, .int .i64 t103, .int .i64 t104, .string t105, .int .i64 t106, .int .i64 t107, .int .i64 t108, .int .i64 t109, .int .i64 t110, .string (⟨#[]⟩ : ByteArray), .string (⟨#[]⟩ : ByteArray), .string (⟨#[]⟩ : ByteArray), .string (⟨#[]⟩ : ByteArray)]) ?_ 9 _ rfl; (with_reducible repeat (first | refine blk_drewN ?_ _ | refine blk_drew ?_ | refine blk_alloc ?_ _)); refine blk_put (cs := #[.int .i64 t102, .int .i64 t103, .int .i64 t104, .string t105, .int .i64 t106, .int .i64 t107, .int .i64 t108, .int .i64 t109, .int .i64 0, .string (⟨#[]⟩ : ByteArray), .string (⟨#[]⟩ : ByteArray), .string (⟨#[]⟩ : ByteArray), .string (⟨#[]⟩ : ByteArray)]) ?_ 8 _ rfl; (with_reducible repeat (first | refine blk_drewN ?_ _ | refine blk_drew ?_ | refine blk_alloc ?_ _)); refine blk_put (cs := #[.int .i64 t102, .int .i64 t103, .int .i64 t104, .string t105, .int .i64 t106, .int .i64 t107, .int .i64 t108, .int .i64 0, .int .i64 0, .string (⟨#[]⟩ : ByteArray), .string (⟨#[]⟩ : ByteArray), .string (⟨#[]⟩ : ByteArray), .string (⟨#[]⟩ : ByteArray)]) ?_ 7 _ rfl; (with_reducible repeat (first | refine blk_drewN ?_ _ | refine blk_drew ?_ | refine blk_alloc ?_ _)); refine blk_put (cs := #[.int .i64 t102, .int .i64 t103, .int .i64 t104, .string t105, .int .i64 t106, .int .i64 t107, .int .i64 0, .int .i64 0, .int .i64 0, .string (⟨#[]⟩ : ByteArray), .string (⟨#[]⟩ : ByteArray), .string (⟨#[]⟩ : ByteArray), .string (⟨#[]⟩ : ByteArray)]) ?_ 6 _ rfl; (with_reducible repeat (first | refine blk_drewN ?_ _ | refine blk_drew ?_ | refine blk_alloc ?_ _)); refine blk_put (cs := #[.int .i64 t102, .int .i64 t103, .int .i64 t104, .string t105, .int .i64 t106, .int .i64 0, .int .i64 0, .int .i64 0, .int .i64 0, .string (⟨#[]⟩ : ByteArray), .string (⟨#[]⟩ : ByteArray), .string (⟨#[]⟩ : ByteArray), .string (⟨#[]⟩ : ByteArray)]) ?_ 5 _ rfl; (with_reducible repeat (first | refine blk_drewN ?_ _ | refine blk_drew ?_ | refine blk_alloc ?_ _)); refine blk_put (cs := #[.int .i64 t102, .int .i64 t103, .int .i64 t104, .string t105, .int .i64 0, .int .i64 0, .int .i64 0, .int .i64 0, .int .i64 0, .string (⟨#[]⟩ : ByteArray), .string (⟨#[]⟩ : ByteArray), .string (⟨#[]⟩ : ByteArray), .string (⟨#[]⟩ : ByteArray)]) ?_ 4 _ rfl; (with_reducible repeat (first | refine blk_drewN ?_ _ | refine blk_drew ?_ | refine blk_alloc ?_ _)); refine blk_put (cs := #[.int .i64 t102, .int .i64 t103, .int .i64 t104, .string (⟨#[]⟩ : ByteArray), .int .i64 0, .int .i64 0, .int .i64 0, .int .i64 0, .int .i64 0, .string (⟨#[]⟩ : ByteArray), .string (⟨#[]⟩ : ByteArray), .string (⟨#[]⟩ : ByteArray), .string (⟨#[]⟩ : ByteArray)]) ?_ 3 _ rfl; (with_reducible repeat (first | refine blk_drewN ?_ _ | refine blk_drew ?_ | refine blk_alloc ?_ _)); refine blk_put (cs := #[.int .i64 t102, .int .i64 t103, .int .i64 0, .string (⟨#[]⟩ : ByteArray), .int .i64 0, .int .i64 0, .int .i64 0, .int .i64 0, .int .i64 0, .string (⟨#[]⟩ : ByteArray), .string (⟨#[]⟩ : ByteArray), .string (⟨#[]⟩ : ByteArray), .string (⟨#[]⟩ : ByteArray)]) ?_ 2 _ rfl; (with_reducible repeat (first | refine blk_drewN ?_ _ | refine blk_drew ?_ | refine blk_alloc ?_ _)); refine blk_put (cs := #[.int .i64 t102, .int .i64 0, .int .i64 0, .string (⟨#[]⟩ : ByteArray), .int .i64 0, .int .i64 0, .int .i64 0, .int .i64 0, .int .i64 0, .string (⟨#[]⟩ : ByteArray), .string (⟨#[]⟩ : ByteArray), .string (⟨#[]⟩ : ByteArray), .string (⟨#[]⟩ : ByteArray)]) ?_ 1 _ rfl; (with_reducible repeat (first | refine blk_drewN ?_ _ | refine blk_drew ?_ | refine blk_alloc ?_ _)); refine blk_put (cs := #[.int .i64 0, .int .i64 0, .int .i64 0, .string (⟨#[]⟩ : ByteArray), .int .i64 0, .int .i64 0, .int .i64 0, .int .i64 0, .int .i64 0, .string (⟨#[]⟩ : ByteArray), .string (⟨#[]⟩ : ByteArray), .string (⟨#[]⟩ : ByteArray), .string (⟨#[]⟩ : ByteArray)]) ?_ 0 _ rfl; (with_reducible repeat (first | refine blk_drewN ?_ _ | refine blk_drew ?_ | refine blk_alloc ?_ _)); exact BK101.out) Tryd.underlying27 rfl (by kernel_rfl) (.tmp .nil)))) rfl ?_
          exact ⟨_, by first | rfl | (simp [errW_none, errW_some] <;> rfl) | (simp [*, errW_none, errW_some] <;> rfl), by (with_reducible repeat (first | apply Kd.R_alloc | apply Kd.R_drewN | apply Kd.R_drew)); exact Kd.R_mono (Kd.R_far (p := ⟨gb101, 12, none⟩) (Kd.R_far (p := ⟨gb101, 11, none⟩) (Kd.R_far (p := ⟨gb101, 10, none⟩) (Kd.R_far (p := ⟨gb101, 9, none⟩) (Kd.R_far (p := ⟨gb101, 8, none⟩) (Kd.R_far (p := ⟨gb101, 7, none⟩) (Kd.R_far (p := ⟨gb101, 6, none⟩) (Kd.R_far (p := ⟨gb101, 5, none⟩) (Kd.R_far (p := ⟨gb101, 4, none⟩) (Kd.R_far (p := ⟨gb101, 3, none⟩) (Kd.R_far (p := ⟨gb101, 2, none⟩) (Kd.R_far (p := ⟨gb101, 1, none⟩) (Kd.R_far (p := ⟨gb101, 0, none⟩) (Kd.R_mono HO_9.out (fun k_ hk => (⟨hk, hk.1⟩ : _ ∧ k_ ≠ gb101))) (fun _ hk => hk.2) (.int .i64 t102)) (fun _ hk => hk.2) (.int .i64 t103)) (fun _ hk => hk.2) (.int .i64 t104)) (fun _ hk => hk.2) (.string t105)) (fun _ hk => hk.2) (.int .i64 t106)) (fun _ hk => hk.2) (.int .i64 t107)) (fun _ hk => hk.2) (.int .i64 t108)) (fun _ hk => hk.2) (.int .i64 t109)) (fun _ hk => hk.2) (.int .i64 t110)) (fun _ hk => hk.2) (.string t111)) (fun _ hk => hk.2) (.string t112)) (fun _ hk => hk.2) (.string t113)) (fun _ hk => hk.2) (.string t114)) (fun _ hk => trivial), by repeat (first | (with_reducible first | exact HB.out | apply below_alloc | apply pw_below_drewN | apply below_drew1 | refine below_set ?_ GE101.out | refine below_set ?_ GE116.out) | exact HB.out)⟩
  · replace c4 := Bool.eq_false_iff.mpr c4
    subst c4
    have H1 : (some (([] : List (S27)), t102, t103, t104, t105, t106, t107, t108, t109, t110, t111, t112, t113, t114, 22)) = some (r1, r2, r3, r4, r5, r6, r7, r8, r9, r10, r11, r12, r13, r14, r15) := by rw [if_neg (show ¬ (false = true) by decide)] at H; exact H
    clear H
    have H := H1
    clear H1
    simp only [Option.some.injEq, Prod.mk.injEq] at H
    obtain ⟨rfl, rfl, rfl, rfl, rfl, rfl, rfl, rfl, rfl, rfl, rfl, rfl, rfl, rfl, rfl⟩ := H
    go_enter Tryd.func15, Tryd.ntmps15
    try go_wp2_with (first | ((with_reducible refine gate_dst (N := 5) rfl ?_); refine box_event ?hg (N := 5) ?hd (cs := #[.int .i64 0, .int .i64 0, .int .i64 0, .string (⟨#[]⟩ : ByteArray), .int .i64 0, .int .i64 0, .int .i64 0, .int .i64 0, .int .i64 0, .string (⟨#[]⟩ : ByteArray), .string (⟨#[]⟩ : ByteArray), .string (⟨#[]⟩ : ByteArray), .string (⟨#[]⟩ : ByteArray)]) (t := 27) ?hr ?_; (case hd => rfl); (case hg => rfl); (case hr => first | (go_simp; done) | (go_simp; rfl)); intro gb101 hg w33 hbox hb; have n0_ := Aside0.mk (below_step (by repeat (first | (with_reducible first | exact HB.out | apply below_alloc | apply pw_below_drewN | apply below_drew1) | exact HB.out)) hb); have n1_ := Aside0.mk (hbox); have n2_ := Aside0.mk ((by rw [hg]; exact (below_size (by repeat (first | (with_reducible first | exact HB.out | apply below_alloc | apply pw_below_drewN | apply below_drew1) | exact HB.out))) : w.heap.size ≤ gb101)); have n3_ := Aside0.mk ((by rw [hg]; exact (below_size (by repeat (first | (with_reducible first | exact HB.out | apply below_alloc | apply pw_below_drewN | apply below_drew1) | exact HB.out))) : w.heap.size ≤ gb101)); clear HB; have HB := n0_; have BK101 := n1_; have GW101 := n2_; have GE101 := n3_; clear n0_ n1_ n2_ n3_; clear hb hbox hg) | ((with_reducible refine gate_callee (f := 17) rfl ?_); refine goesL_ (some 15) rfl rfl Tryd.func17 (by kernel_rfl) rfl #[.slice A0 l0.length c0, .int .i64 a1] rfl (by (try simp only [List.map_toArray, List.map_cons, List.map_nil]); first | done | rfl | (simp only [List.length_drop, List.length_take]; rfl)) ?_; (with_reducible refine (contangoref12_Find.calls k _ _ l0 a1 t102 t103 t104 t105 t106 t107 t108 t109 t110 t111 t112 t113 t114 false _ ?side1 ?side2 A3.out).mono ?_); (case side1 => repeat (first | exact (Kd.C_below HR0.out HB.out) | (with_reducible refine Kd.C_alloc ?_ _) | (with_reducible refine Kd.C_drewN ?_ _) | (with_reducible refine Kd.C_drew ?_))); (case side2 => exact HC0.out); rintro e w34 ⟨rfl, hb⟩; refine ⟨_, rfl, ?_⟩; have n0_ := Aside0.mk (blk_below (g := gb101) (o := .cells #[.int .i64 0, .int .i64 0, .int .i64 0, .string (⟨#[]⟩ : ByteArray), .int .i64 0, .int .i64 0, .int .i64 0, .int .i64 0, .int .i64 0, .string (⟨#[]⟩ : ByteArray), .string (⟨#[]⟩ : ByteArray), .string (⟨#[]⟩ : ByteArray), .string (⟨#[]⟩ : ByteArray)] 27 (0, 0)) (by (with_reducible repeat (first | refine blk_drewN ?_ _ | refine blk_drew ?_ | refine blk_alloc ?_ _)); exact BK101.out) hb); have n1_ := Aside0.mk (below_step (by repeat (first | (with_reducible first | exact HB.out | apply below_alloc | apply pw_below_drewN | apply below_drew1 | refine below_set ?_ GE101.out) | exact HB.out)) hb); clear BK101; clear HB; have BK101 := n0_; have HB := n1_; clear n0_ n1_; (try clear hb); (try clear hb2); (try clear hk); (try clear hi)) | ((with_reducible refine gate_dst (N := 7) rfl ?_); refine box_event ?hg (N := 7) ?hd (cs := #[.int .i64 0, .int .i64 0, .int .i64 0, .string (⟨#[]⟩ : ByteArray), .int .i64 0, .int .i64 0, .int .i64 0, .int .i64 0, .int .i64 0, .string (⟨#[]⟩ : ByteArray), .string (⟨#[]⟩ : ByteArray), .string (⟨#[]⟩ : ByteArray), .string (⟨#[]⟩ : ByteArray)]) (t := 27) ?hr ?_; (case hd => rfl); (case hg => rfl); (case hr => first | (go_simp; done) | (go_simp; rfl)); intro gb116 hg w35 hbox hb; have n0_ := Aside0.mk (blk_below (g := gb101) (o := .cells #[.int .i64 0, .int .i64 0, .int .i64 0, .string (⟨#[]⟩ : ByteArray), .int .i64 0, .int .i64 0, .int .i64 0, .int .i64 0, .int .i64 0, .string (⟨#[]⟩ : ByteArray), .string (⟨#[]⟩ : ByteArray), .string (⟨#[]⟩ : ByteArray), .string (⟨#[]⟩ : ByteArray)] 27 (0, 0)) (by (with_reducible repeat (first | refine blk_drewN ?_ _ | refine blk_drew ?_ | refine blk_alloc ?_ _)); exact BK101.out) hb); have n1_ := Aside0.mk (below_step (by repeat (first | (with_reducible first | exact HB.out | apply below_alloc | apply pw_below_drewN | apply below_drew1 | refine below_set ?_ GE101.out) | exact HB.out)) hb); have n2_ := Aside0.mk (hbox); have n3_ := Aside0.mk ((by rw [hg]; exact (below_size (by repeat (first | (with_reducible first | exact HB.out | apply below_alloc | apply pw_below_drewN | apply below_drew1 | refine below_set ?_ GE101.out) | exact HB.out))) : w.heap.size ≤ gb116)); have n4_ := Aside0.mk ((by rw [hg]; exact (below_size (by repeat (first | (with_reducible first | exact HB.out | apply below_alloc | apply pw_below_drewN | apply below_drew1 | refine below_set ?_ GE101.out) | exact HB.out))) : w.heap.size ≤ gb116)); have n5_ := Aside0.mk ((by rw [hg]; exact Nat.ne_of_lt (blk_lt (g := gb101) (o := .cells #[.int .i64 0, .int .i64 0, .int .i64 0, .string (⟨#[]⟩ : ByteArray), .int .i64 0, .int .i64 0, .int .i64 0, .int .i64 0, .int .i64 0, .string (⟨#[]⟩ : ByteArray), .string (⟨#[]⟩ : ByteArray), .string (⟨#[]⟩ : ByteArray), .string (⟨#[]⟩ : ByteArray)] 27 (0, 0)) (by (with_reducible repeat (first | refine blk_drewN ?_ _ | refine blk_drew ?_ | refine blk_alloc ?_ _)); exact BK101.out)) : gb101 ≠ gb116)); have n6_ := Aside0.mk ((by rw [hg]; exact Nat.ne_of_gt (blk_lt (g := gb101) (o := .cells #[.int .i64 0, .int .i64 0, .int .i64 0, .string (⟨#[]⟩ : ByteArray), .int .i64 0, .int .i64 0, .int .i64 0, .int .i64 0, .int .i64 0, .string (⟨#[]⟩ : ByteArray), .string (⟨#[]⟩ : ByteArray), .string (⟨#[]⟩ : ByteArray), .string (⟨#[]⟩ : ByteArray)] 27 (0, 0)) (by (with_reducible repeat (first | refine blk_drewN ?_ _ | refine blk_drew ?_ | refine blk_alloc ?_ _)); exact BK101.out)) : gb116 ≠ gb101)); clear BK101; clear HB; have BK101 := n0_; have HB := n1_; have BK116 := n2_; have GW116 := n3_; have GE116 := n4_; have NB101_116 := n5_; have NB116_101 := n6_; clear n0_ n1_ n2_ n3_ n4_ n5_ n6_; clear hb hbox hg; have hnb36 := NB116_101.out; have hnc36 := NB101_116.out; have hcz37_0 : w35.cell? ⟨gb116, 0, none⟩ = some (.int .i64 0) := (blk_cell BK116.out 0).trans rfl; have hcz37_1 : w35.cell? ⟨gb116, 1, none⟩ = some (.int .i64 0) := (blk_cell BK116.out 1).trans rfl; have hcz37_2 : w35.cell? ⟨gb116, 2, none⟩ = some (.int .i64 0) := (blk_cell BK116.out 2).trans rfl; have hcz37_3 : w35.cell? ⟨gb116, 3, none⟩ = some (.string (⟨#[]⟩ : ByteArray)) := (blk_cell BK116.out 3).trans rfl; have hcz37_4 : w35.cell? ⟨gb116, 4, none⟩ = some (.int .i64 0) := (blk_cell BK116.out 4).trans rfl; have hcz37_5 : w35.cell? ⟨gb116, 5, none⟩ = some (.int .i64 0) := (blk_cell BK116.out 5).trans rfl; have hcz37_6 : w35.cell? ⟨gb116, 6, none⟩ = some (.int .i64 0) := (blk_cell BK116.out 6).trans rfl; have hcz37_7 : w35.cell? ⟨gb116, 7, none⟩ = some (.int .i64 0) := (blk_cell BK116.out 7).trans rfl; have hcz37_8 : w35.cell? ⟨gb116, 8, none⟩ = some (.int .i64 0) := (blk_cell BK116.out 8).trans rfl; have hcz37_9 : w35.cell? ⟨gb116, 9, none⟩ = some (.string (⟨#[]⟩ : ByteArray)) := (blk_cell BK116.out 9).trans rfl; have hcz37_10 : w35.cell? ⟨gb116, 10, none⟩ = some (.string (⟨#[]⟩ : ByteArray)) := (blk_cell BK116.out 10).trans rfl; have hcz37_11 : w35.cell? ⟨gb116, 11, none⟩ = some (.string (⟨#[]⟩ : ByteArray)) := (blk_cell BK116.out 11).trans rfl; have hcz37_12 : w35.cell? ⟨gb116, 12, none⟩ = some (.string (⟨#[]⟩ : ByteArray)) := (blk_cell BK116.out 12).trans rfl; have hfz37_0 := blk_frozen BK116.out 0; have hfz37_1 := blk_frozen BK116.out 1; have hfz37_2 := blk_frozen BK116.out 2; have hfz37_3 := blk_frozen BK116.out 3; have hfz37_4 := blk_frozen BK116.out 4; have hfz37_5 := blk_frozen BK116.out 5; have hfz37_6 := blk_frozen BK116.out 6; have hfz37_7 := blk_frozen BK116.out 7; have hfz37_8 := blk_frozen BK116.out 8; have hfz37_9 := blk_frozen BK116.out 9; have hfz37_10 := blk_frozen BK116.out 10; have hfz37_11 := blk_frozen BK116.out 11; have hfz37_12 := blk_frozen BK116.out 12))
    have n0_ : Aside0 ((((((((((((((w35.setCell ⟨gb116, 0, none⟩ (.int .i64 t102)).setCell ⟨gb116, 1, none⟩ (.int .i64 t103)).setCell ⟨gb116, 2, none⟩ (.int .i64 t104)).setCell ⟨gb116, 3, none⟩ (.string t105)).setCell ⟨gb116, 4, none⟩ (.int .i64 t106)).setCell ⟨gb116, 5, none⟩ (.int .i64 t107)).setCell ⟨gb116, 6, none⟩ (.int .i64 t108)).setCell ⟨gb116, 7, none⟩ (.int .i64 t109)).setCell ⟨gb116, 8, none⟩ (.int .i64 t110)).setCell ⟨gb116, 9, none⟩ (.string t111)).setCell ⟨gb116, 10, none⟩ (.string t112)).setCell ⟨gb116, 11, none⟩ (.string t113)).setCell ⟨gb116, 12, none⟩ (.string t114)).heap[gb101]? = some (.cells #[.int .i64 0, .int .i64 0, .int .i64 0, .string (⟨#[]⟩ : ByteArray), .int .i64 0, .int .i64 0, .int .i64 0, .int .i64 0, .int .i64 0, .string (⟨#[]⟩ : ByteArray), .string (⟨#[]⟩ : ByteArray), .string (⟨#[]⟩ : ByteArray), .string (⟨#[]⟩ : ByteArray)] 27 (0, 0))) := ⟨by (with_reducible repeat (first | refine blk_drewN ?_ _ | refine blk_drew ?_ | refine blk_alloc ?_ _)); refine blk_far ?_ NB101_116.out _; (with_reducible repeat (first | refine blk_drewN ?_ _ | refine blk_drew ?_ | refine blk_alloc ?_ _)); refine blk_far ?_ NB101_116.out _; (with_reducible repeat (first | refine blk_drewN ?_ _ | refine blk_drew ?_ | refine blk_alloc ?_ _)); refine blk_far ?_ NB101_116.out _; (with_reducible repeat (first | refine blk_drewN ?_ _ | refine blk_drew ?_ | refine blk_alloc ?_ _)); refine blk_far ?_ NB101_116.out _; (with_reducible repeat (first | refine blk_drewN ?_ _ | refine blk_drew ?_ | refine blk_alloc ?_ _)); refine blk_far ?_ NB101_116.out _; (with_reducible repeat (first | refine blk_drewN ?_ _ | refine blk_drew ?_ | refine blk_alloc ?_ _)); refine blk_far ?_ NB101_116.out _; (with_reducible repeat (first | refine blk_drewN ?_ _ | refine blk_drew ?_ | refine blk_alloc ?_ _)); refine blk_far ?_ NB101_116.out _; (with_reducible repeat (first | refine blk_drewN ?_ _ | refine blk_drew ?_ | refine blk_alloc ?_ _)); refine blk_far ?_ NB101_116.out _; (with_reducible repeat (first | refine blk_drewN ?_ _ | refine blk_drew ?_ | refine blk_alloc ?_ _)); refine blk_far ?_ NB101_116.out _; (with_reducible repeat (first | refine blk_drewN ?_ _ | refine blk_drew ?_ | refine blk_alloc ?_ _)); refine blk_far ?_ NB101_116.out _; (with_reducible repeat (first | refine blk_drewN ?_ _ | refine blk_drew ?_ | refine blk_alloc ?_ _)); refine blk_far ?_ NB101_116.out _; (with_reducible repeat (first | refine blk_drewN ?_ _ | refine blk_drew ?_ | refine blk_alloc ?_ _)); refine blk_far ?_ NB101_116.out _; (with_reducible repeat (first | refine blk_drewN ?_ _ | refine blk_drew ?_ | refine blk_alloc ?_ _)); refine blk_far ?_ NB101_116.out _; (with_reducible repeat (first | refine blk_drewN ?_ _ | refine blk_drew ?_ | refine blk_alloc ?_ _)); exact BK101.out⟩
    have n1_ : Aside0 ((((((((((((((w35.setCell ⟨gb116, 0, none⟩ (.int .i64 t102)).setCell ⟨gb116, 1, none⟩ (.int .i64 t103)).setCell ⟨gb116, 2, none⟩ (.int .i64 t104)).setCell ⟨gb116, 3, none⟩ (.string t105)).setCell ⟨gb116, 4, none⟩ (.int .i64 t106)).setCell ⟨gb116, 5, none⟩ (.int .i64 t107)).setCell ⟨gb116, 6, none⟩ (.int .i64 t108)).setCell ⟨gb116, 7, none⟩ (.int .i64 t109)).setCell ⟨gb116, 8, none⟩ (.int .i64 t110)).setCell ⟨gb116, 9, none⟩ (.string t111)).setCell ⟨gb116, 10, none⟩ (.string t112)).setCell ⟨gb116, 11, none⟩ (.string t113)).setCell ⟨gb116, 12, none⟩ (.string t114)).heap[gb116]? = some (.cells #[.int .i64 t102, .int .i64 t103, .int .i64 t104, .string t105, .int .i64 t106, .int .i64 t107, .int .i64 t108, .int .i64 t109, .int .i64 t110, .string t111, .string t112, .string t113, .string t114] 27 (0, 0))) := ⟨by (with_reducible repeat (first | refine blk_drewN ?_ _ | refine blk_drew ?_ | refine blk_alloc ?_ _)); refine blk_put (cs := #[.int .i64 t102, .int .i64 t103, .int .i64 t104, .string t105, .int .i64 t106, .int .i64 t107, .int .i64 t108, .int .i64 t109, .int .i64 t110, .string t111, .string t112, .string t113, .string (⟨#[]⟩ : ByteArray)]) ?_ 12 _ rfl; (with_reducible repeat (first | refine blk_drewN ?_ _ | refine blk_drew ?_ | refine blk_alloc ?_ _)); refine blk_put (cs := #[.int .i64 t102, .int .i64 t103, .int .i64 t104, .string t105, .int .i64 t106, .int .i64 t107, .int .i64 t108, .int .i64 t109, .int .i64 t110, .string t111, .string t112, .string (⟨#[]⟩ : ByteArray), .string (⟨#[]⟩ : ByteArray)]) ?_ 11 _ rfl; (with_reducible repeat (first | refine blk_drewN ?_ _ | refine blk_drew ?_ | refine blk_alloc ?_ _)); refine blk_put (cs := #[.int .i64 t102, .int .i64 t103, .int .i64 t104, .string t105, .int .i64 t106, .int .i64 t107, .int .i64 t108, .int .i64 t109, .int .i64 t110, .string t111, .string (⟨#[]⟩ : ByteArray), .string (⟨#[]⟩ : ByteArray), .string (⟨#[]⟩ : ByteArray)]) ?_ 10 _ rfl; (with_reducible repeat (first | refine blk_drewN ?_ _ | refine blk_drew ?_ | refine blk_alloc ?_ _)); refine blk_put (cs := #[.int .i64 t102, .int .i64 t103, .int .i64 t104, .string t105, .int .i64 t106, .int .i64 t107, .int .i64 t108, .int .i64 t109, .int .i64 t110, .string (⟨#[]⟩ : ByteArray), .string (⟨#[]⟩ : ByteArray), .string (⟨#[]⟩ : ByteArray), .string (⟨#[]⟩ : ByteArray)]) ?_ 9 _ rfl; (with_reducible repeat (first | refine blk_drewN ?_ _ | refine blk_drew ?_ | refine blk_alloc ?_ _)); refine blk_put (cs := #[.int .i64 t102, .int .i64 t103, .int .i64 t104, .string t105, .int .i64 t106, .int .i64 t107, .int .i64 t108, .int .i64 t109, .int .i64 0, .string (⟨#[]⟩ : ByteArray), .string (⟨#[]⟩ : ByteArray), .string (⟨#[]⟩ : ByteArray), .string (⟨#[]⟩ : ByteArray)]) ?_ 8 _ rfl; (with_reducible repeat (first | refine blk_drewN ?_ _ | refine blk_drew ?_ | refine blk_alloc ?_ _)); refine blk_put (cs := #[.int .i64 t102, .int .i64 t103, .int .i64 t104, .string t105, .int .i64 t106, .int .i64 t107, .int .i64 t108, .int .i64 0, .int .i64 0, .string (⟨#[]⟩ : ByteArray), .string (⟨#[]⟩ : ByteArray), .string (⟨#[]⟩ : ByteArray), .string (⟨#[]⟩ : ByteArray)]) ?_ 7 _ rfl; (with_reducible repeat (first | refine blk_drewN ?_ _ | refine blk_drew ?_ | refine blk_alloc ?_ _)); refine blk_put (cs := #[.int .i64 t102, .int .i64 t103, .int .i64 t104, .string t105, .int .i64 t106, .int .i64 t107, .int .i64 0, .int .i64 0, .int .i64 0, .string (⟨#[]⟩ : ByteArray), .string (⟨#[]⟩ : ByteArray), .string (⟨#[]⟩ : ByteArray), .string (⟨#[]⟩ : ByteArray)]) ?_ 6 _ rfl; (with_reducible repeat (first | refine blk_drewN ?_ _ | refine blk_drew ?_ | refine blk_alloc ?_ _)); refine blk_put (cs := #[.int .i64 t102, .int .i64 t103, .int .i64 t104, .string t105, .int .i64 t106, .int .i64 0, .int .i64 0, .int .i64 0, .int .i64 0, .string (⟨#[]⟩ : ByteArray), .string (⟨#[]⟩ : ByteArray), .string (⟨#[]⟩ : ByteArray), .string (⟨#[]⟩ : ByteArray)]) ?_ 5 _ rfl; (with_reducible repeat (first | refine blk_drewN ?_ _ | refine blk_drew ?_ | refine blk_alloc ?_ _)); refine blk_put (cs := #[.int .i64 t102, .int .i64 t103, .int .i64 t104, .string t105, .int .i64 0, .int .i64 0, .int .i64 0, .int .i64 0, .int .i64 0, .string (⟨#[]⟩ : ByteArray), .string (⟨#[]⟩ : ByteArray), .string (⟨#[]⟩ : ByteArray), .string (⟨#[]⟩ : ByteArray)]) ?_ 4 _ rfl; (with_reducible repeat (first | refine blk_drewN ?_ _ | refine blk_drew ?_ | refine blk_alloc ?_ _)); refine blk_put (cs := #[.int .i64 t102, .int .i64 t103, .int .i64 t104, .string (⟨#[]⟩ : ByteArray), .int .i64 0, .int .i64 0, .int .i64 0, .int .i64 0, .int .i64 0, .string (⟨#[]⟩ : ByteArray), .string (⟨#[]⟩ : ByteArray), .string (⟨#[]⟩ : ByteArray), .string (⟨#[]⟩ : ByteArray)]) ?_ 3 _ rfl; (with_reducible repeat (first | refine blk_drewN ?_ _ | refine blk_drew ?_ | refine blk_alloc ?_ _)); refine blk_put (cs := #[.int .i64 t102, .int .i64 t103, .int .i64 0, .string (⟨#[]⟩ : ByteArray), .int .i64 0, .int .i64 0, .int .i64 0, .int .i64 0, .int .i64 0, .string (⟨#[]⟩ : ByteArray), .string (⟨#[]⟩ : ByteArray), .string (⟨#[]⟩ : ByteArray), .string (⟨#[]⟩ : ByteArray)]) ?_ 2 _ rfl; (with_reducible repeat (first | refine blk_drewN ?_ _ | refine blk_drew ?_ | refine blk_alloc ?_ _)); refine blk_put (cs := #[.int .i64 t102, .int .i64 0, .int .i64 0, .string (⟨#[]⟩ : ByteArray), .int .i64 0, .int .i64 0, .int .i64 0, .int .i64 0, .int .i64 0, .string (⟨#[]⟩ : ByteArray), .string (⟨#[]⟩ : ByteArray), .string (⟨#[]⟩ : ByteArray), .string (⟨#[]⟩ : ByteArray)]) ?_ 1 _ rfl; (with_reducible repeat (first | refine blk_drewN ?_ _ | refine blk_drew ?_ | refine blk_alloc ?_ _)); refine blk_put (cs := #[.int .i64 0, .int .i64 0, .int .i64 0, .string (⟨#[]⟩ : ByteArray), .int .i64 0, .int .i64 0, .int .i64 0, .int .i64 0, .int .i64 0, .string (⟨#[]⟩ : ByteArray), .string (⟨#[]⟩ : ByteArray), .string (⟨#[]⟩ : ByteArray), .string (⟨#[]⟩ : ByteArray)]) ?_ 0 _ rfl; (with_reducible repeat (first | refine blk_drewN ?_ _ | refine blk_drew ?_ | refine blk_alloc ?_ _)); exact BK116.out⟩
    have n2_ : Aside0 (Below w.heap.size w (((((((((((((w35.setCell ⟨gb116, 0, none⟩ (.int .i64 t102)).setCell ⟨gb116, 1, none⟩ (.int .i64 t103)).setCell ⟨gb116, 2, none⟩ (.int .i64 t104)).setCell ⟨gb116, 3, none⟩ (.string t105)).setCell ⟨gb116, 4, none⟩ (.int .i64 t106)).setCell ⟨gb116, 5, none⟩ (.int .i64 t107)).setCell ⟨gb116, 6, none⟩ (.int .i64 t108)).setCell ⟨gb116, 7, none⟩ (.int .i64 t109)).setCell ⟨gb116, 8, none⟩ (.int .i64 t110)).setCell ⟨gb116, 9, none⟩ (.string t111)).setCell ⟨gb116, 10, none⟩ (.string t112)).setCell ⟨gb116, 11, none⟩ (.string t113)).setCell ⟨gb116, 12, none⟩ (.string t114))) := ⟨by repeat (first | (with_reducible first | exact HB.out | apply below_alloc | apply pw_below_drewN | apply below_drew1 | refine below_set ?_ GE101.out | refine below_set ?_ GE116.out) | exact HB.out)⟩
    (try clear BK101)
    (try clear BK116)
    (try clear HB)
    generalize (((((((((((((w35.setCell ⟨gb116, 0, none⟩ (.int .i64 t102)).setCell ⟨gb116, 1, none⟩ (.int .i64 t103)).setCell ⟨gb116, 2, none⟩ (.int .i64 t104)).setCell ⟨gb116, 3, none⟩ (.string t105)).setCell ⟨gb116, 4, none⟩ (.int .i64 t106)).setCell ⟨gb116, 5, none⟩ (.int .i64 t107)).setCell ⟨gb116, 6, none⟩ (.int .i64 t108)).setCell ⟨gb116, 7, none⟩ (.int .i64 t109)).setCell ⟨gb116, 8, none⟩ (.int .i64 t110)).setCell ⟨gb116, 9, none⟩ (.string t111)).setCell ⟨gb116, 10, none⟩ (.string t112)).setCell ⟨gb116, 11, none⟩ (.string t113)).setCell ⟨gb116, 12, none⟩ (.string t114)) = w38 at n0_ n1_ n2_ ⊢
    have BK101 := n0_
    have BK116 := n1_
    have HB := n2_
    clear n0_ n1_ n2_
    have n0_ := Aside0.mk (blk_drew BK101.out)
    have n1_ := Aside0.mk (blk_drew BK116.out)
    have n2_ := Aside0.mk (below_drew1 HB.out)
    clear BK101
    clear BK116
    clear HB
    have BK101 := n0_
    have BK116 := n1_
    have HB := n2_
    clear n0_ n1_ n2_
    refine start_ (n := 4) (S := fun w' => w'.cell? ⟨gb116, 0, none⟩ = some (.int .i64 t102) ∧ w'.cell? ⟨gb116, 1, none⟩ = some (.int .i64 t103) ∧ w'.cell? ⟨gb116, 2, none⟩ = some (.int .i64 t104) ∧ w'.cell? ⟨gb116, 3, none⟩ = some (.string t105) ∧ w'.cell? ⟨gb116, 4, none⟩ = some (.int .i64 t106) ∧ w'.cell? ⟨gb116, 5, none⟩ = some (.int .i64 t107) ∧ w'.cell? ⟨gb116, 6, none⟩ = some (.int .i64 t108) ∧ w'.cell? ⟨gb116, 7, none⟩ = some (.int .i64 t109) ∧ w'.cell? ⟨gb116, 8, none⟩ = some (.int .i64 t110) ∧ w'.cell? ⟨gb116, 9, none⟩ = some (.string t111) ∧ w'.cell? ⟨gb116, 10, none⟩ = some (.string t112) ∧ w'.cell? ⟨gb116, 11, none⟩ = some (.string t113) ∧ w'.cell? ⟨gb116, 12, none⟩ = some (.string t114)) (ds := []) #[false, false, false, false] (by kernel_rfl) rfl rfl ⟨(blk_cell BK116.out 0).trans rfl, (blk_cell BK116.out 1).trans rfl, (blk_cell BK116.out 2).trans rfl, (blk_cell BK116.out 3).trans rfl, (blk_cell BK116.out 4).trans rfl, (blk_cell BK116.out 5).trans rfl, (blk_cell BK116.out 6).trans rfl, (blk_cell BK116.out 7).trans rfl, (blk_cell BK116.out 8).trans rfl, (blk_cell BK116.out 9).trans rfl, (blk_cell BK116.out 10).trans rfl, (blk_cell BK116.out 11).trans rfl, (blk_cell BK116.out 12).trans rfl⟩ (fun hHeld => ?_)
    generalize w38.drew = w39 at BK101 BK116 HB hHeld ⊢
    refine pure_ (i := 1) (N := some 4) (v := ?_) (a' := ?_) #[false, true, false, false] rfl rfl (by kernel_rfl) (fun _ _ _ h => h) (Or.inl ⟨by rfl, ?_⟩) ?_ ?_
    rotate_left
    · intro w'
      go_simp
      with_reducible rfl
    rotate_left
    · simp only [Act.put, List.setIfInBounds_toArray, List.set_cons_zero, List.set_cons_succ, i64_w, i32_w]
      rfl
    refine take_ (i := 0) (N := some 20) (v := ?_) (a' := ?_) #[true, true, false, false] rfl rfl (by kernel_rfl) (fun _ _ _ h => h) (Or.inl ⟨by rfl, ?_⟩) hHeld ?_ ?_
    rotate_left
    · rintro w' ⟨s0, s1, s2, s3, s4, s5, s6, s7, s8, s9, s10, s11, s12⟩
      go_simp
      with_reducible rfl
    rotate_left
    · simp only [Act.put, List.setIfInBounds_toArray, List.set_cons_zero, List.set_cons_succ, i64_w, i32_w]
      rfl
    refine one_ (i := 2) (N := none) #[true, true, true, false] rfl rfl (by kernel_rfl) (by decide) (fun K hK => ?_)
    have hs40 : w39.cell? ⟨gb101, 0, none⟩ = some (.int .i64 0) := (blk_cell BK101.out 0).trans rfl
    have hfs40 := blk_frozen BK101.out 0
    have hns40_1 := NB116_101.out
    have hms40_1 := NB101_116.out
    have hs41 : w39.cell? ⟨gb101, 1, none⟩ = some (.int .i64 0) := (blk_cell BK101.out 1).trans rfl
    have hfs41 := blk_frozen BK101.out 1
    have hns41_1 := NB116_101.out
    have hms41_1 := NB101_116.out
    have hs42 : w39.cell? ⟨gb101, 2, none⟩ = some (.int .i64 0) := (blk_cell BK101.out 2).trans rfl
    have hfs42 := blk_frozen BK101.out 2
    have hns42_1 := NB116_101.out
    have hms42_1 := NB101_116.out
    have hs43 : w39.cell? ⟨gb101, 3, none⟩ = some (.string (⟨#[]⟩ : ByteArray)) := (blk_cell BK101.out 3).trans rfl
    have hfs43 := blk_frozen BK101.out 3
    have hns43_1 := NB116_101.out
    have hms43_1 := NB101_116.out
    have hs44 : w39.cell? ⟨gb101, 4, none⟩ = some (.int .i64 0) := (blk_cell BK101.out 4).trans rfl
    have hfs44 := blk_frozen BK101.out 4
    have hns44_1 := NB116_101.out
    have hms44_1 := NB101_116.out
    have hs45 : w39.cell? ⟨gb101, 5, none⟩ = some (.int .i64 0) := (blk_cell BK101.out 5).trans rfl
    have hfs45 := blk_frozen BK101.out 5
    have hns45_1 := NB116_101.out
    have hms45_1 := NB101_116.out
    have hs46 : w39.cell? ⟨gb101, 6, none⟩ = some (.int .i64 0) := (blk_cell BK101.out 6).trans rfl
    have hfs46 := blk_frozen BK101.out 6
    have hns46_1 := NB116_101.out
    have hms46_1 := NB101_116.out
    have hs47 : w39.cell? ⟨gb101, 7, none⟩ = some (.int .i64 0) := (blk_cell BK101.out 7).trans rfl
    have hfs47 := blk_frozen BK101.out 7
    have hns47_1 := NB116_101.out
    have hms47_1 := NB101_116.out
    have hs48 : w39.cell? ⟨gb101, 8, none⟩ = some (.int .i64 0) := (blk_cell BK101.out 8).trans rfl
    have hfs48 := blk_frozen BK101.out 8
    have hns48_1 := NB116_101.out
    have hms48_1 := NB101_116.out
    have hs49 : w39.cell? ⟨gb101, 9, none⟩ = some (.string (⟨#[]⟩ : ByteArray)) := (blk_cell BK101.out 9).trans rfl
    have hfs49 := blk_frozen BK101.out 9
    have hns49_1 := NB116_101.out
    have hms49_1 := NB101_116.out
    have hs50 : w39.cell? ⟨gb101, 10, none⟩ = some (.string (⟨#[]⟩ : ByteArray)) := (blk_cell BK101.out 10).trans rfl
    have hfs50 := blk_frozen BK101.out 10
    have hns50_1 := NB116_101.out
    have hms50_1 := NB101_116.out
    have hs51 : w39.cell? ⟨gb101, 11, none⟩ = some (.string (⟨#[]⟩ : ByteArray)) := (blk_cell BK101.out 11).trans rfl
    have hfs51 := blk_frozen BK101.out 11
    have hns51_1 := NB116_101.out
    have hms51_1 := NB101_116.out
    have hs52 : w39.cell? ⟨gb101, 12, none⟩ = some (.string (⟨#[]⟩ : ByteArray)) := (blk_cell BK101.out 12).trans rfl
    have hfs52 := blk_frozen BK101.out 12
    have hns52_1 := NB116_101.out
    have hms52_1 := NB101_116.out
    refine skip_ (w1 := ?_) (by rfl) rfl ?_ ?_
    rotate_left
    · go_simp
      rfl
    refine hK.out _ _ ⟨((cell_far (p := ⟨gb101, _, none⟩) NB116_101.out _).trans (((cell_far (p := ⟨gb101, _, none⟩) NB116_101.out _).trans (((cell_far (p := ⟨gb101, _, none⟩) NB116_101.out _).trans (((cell_far (p := ⟨gb101, _, none⟩) NB116_101.out _).trans (((cell_far (p := ⟨gb101, _, none⟩) NB116_101.out _).trans (((cell_far (p := ⟨gb101, _, none⟩) NB116_101.out _).trans (((cell_far (p := ⟨gb101, _, none⟩) NB116_101.out _).trans (((cell_far (p := ⟨gb101, _, none⟩) NB116_101.out _).trans (((cell_far (p := ⟨gb101, _, none⟩) NB116_101.out _).trans (((cell_far (p := ⟨gb101, _, none⟩) NB116_101.out _).trans (((cell_far (p := ⟨gb101, _, none⟩) NB116_101.out _).trans (((cell_far (p := ⟨gb101, _, none⟩) NB116_101.out _).trans (((cell_far (p := ⟨gb101, _, none⟩) NB116_101.out _).trans (hHeld.1)))))))))))))))))))))))))), ((cell_far (p := ⟨gb101, _, none⟩) NB116_101.out _).trans (((cell_far (p := ⟨gb101, _, none⟩) NB116_101.out _).trans (((cell_far (p := ⟨gb101, _, none⟩) NB116_101.out _).trans (((cell_far (p := ⟨gb101, _, none⟩) NB116_101.out _).trans (((cell_far (p := ⟨gb101, _, none⟩) NB116_101.out _).trans (((cell_far (p := ⟨gb101, _, none⟩) NB116_101.out _).trans (((cell_far (p := ⟨gb101, _, none⟩) NB116_101.out _).trans (((cell_far (p := ⟨gb101, _, none⟩) NB116_101.out _).trans (((cell_far (p := ⟨gb101, _, none⟩) NB116_101.out _).trans (((cell_far (p := ⟨gb101, _, none⟩) NB116_101.out _).trans (((cell_far (p := ⟨gb101, _, none⟩) NB116_101.out _).trans (((cell_far (p := ⟨gb101, _, none⟩) NB116_101.out _).trans (((cell_far (p := ⟨gb101, _, none⟩) NB116_101.out _).trans (hHeld.2.1)))))))))))))))))))))))))), ((cell_far (p := ⟨gb101, _, none⟩) NB116_101.out _).trans (((cell_far (p := ⟨gb101, _, none⟩) NB116_101.out _).trans (((cell_far (p := ⟨gb101, _, none⟩) NB116_101.out _).trans (((cell_far (p := ⟨gb101, _, none⟩) NB116_101.out _).trans (((cell_far (p := ⟨gb101, _, none⟩) NB116_101.out _).trans (((cell_far (p := ⟨gb101, _, none⟩) NB116_101.out _).trans (((cell_far (p := ⟨gb101, _, none⟩) NB116_101.out _).trans (((cell_far (p := ⟨gb101, _, none⟩) NB116_101.out _).trans (((cell_far (p := ⟨gb101, _, none⟩) NB116_101.out _).trans (((cell_far (p := ⟨gb101, _, none⟩) NB116_101.out _).trans (((cell_far (p := ⟨gb101, _, none⟩) NB116_101.out _).trans (((cell_far (p := ⟨gb101, _, none⟩) NB116_101.out _).trans (((cell_far (p := ⟨gb101, _, none⟩) NB116_101.out _).trans (hHeld.2.2.1)))))))))))))))))))))))))), ((cell_far (p := ⟨gb101, _, none⟩) NB116_101.out _).trans (((cell_far (p := ⟨gb101, _, none⟩) NB116_101.out _).trans (((cell_far (p := ⟨gb101, _, none⟩) NB116_101.out _).trans (((cell_far (p := ⟨gb101, _, none⟩) NB116_101.out _).trans (((cell_far (p := ⟨gb101, _, none⟩) NB116_101.out _).trans (((cell_far (p := ⟨gb101, _, none⟩) NB116_101.out _).trans (((cell_far (p := ⟨gb101, _, none⟩) NB116_101.out _).trans (((cell_far (p := ⟨gb101, _, none⟩) NB116_101.out _).trans (((cell_far (p := ⟨gb101, _, none⟩) NB116_101.out _).trans (((cell_far (p := ⟨gb101, _, none⟩) NB116_101.out _).trans (((cell_far (p := ⟨gb101, _, none⟩) NB116_101.out _).trans (((cell_far (p := ⟨gb101, _, none⟩) NB116_101.out _).trans (((cell_far (p := ⟨gb101, _, none⟩) NB116_101.out _).trans (hHeld.2.2.2.1)))))))))))))))))))))))))), ((cell_far (p := ⟨gb101, _, none⟩) NB116_101.out _).trans (((cell_far (p := ⟨gb101, _, none⟩) NB116_101.out _).trans (((cell_far (p := ⟨gb101, _, none⟩) NB116_101.out _).trans (((cell_far (p := ⟨gb101, _, none⟩) NB116_101.out _).trans (((cell_far (p := ⟨gb101, _, none⟩) NB116_101.out _).trans (((cell_far (p := ⟨gb101, _, none⟩) NB116_101.out _).trans (((cell_far (p := ⟨gb101, _, none⟩) NB116_101.out _).trans (((cell_far (p := ⟨gb101, _, none⟩) NB116_101.out _).trans (((cell_far (p := ⟨gb101, _, none⟩) NB116_101.out _).trans (((cell_far (p := ⟨gb101, _, none⟩) NB116_101.out _).trans (((cell_far (p := ⟨gb101, _, none⟩) NB116_101.out _).trans (((cell_far (p := ⟨gb101, _, none⟩) NB116_101.out _).trans (((cell_far (p := ⟨gb101, _, none⟩) NB116_101.out _).trans (hHeld.2.2.2.2.1)))))))))))))))))))))))))), ((cell_far (p := ⟨gb101, _, none⟩) NB116_101.out _).trans (((cell_far (p := ⟨gb101, _, none⟩) NB116_101.out _).trans (((cell_far (p := ⟨gb101, _, none⟩) NB116_101.out _).trans (((cell_far (p := ⟨gb101, _, none⟩) NB116_101.out _).trans (((cell_far (p := ⟨gb101, _, none⟩) NB116_101.out _).trans (((cell_far (p := ⟨gb101, _, none⟩) NB116_101.out _).trans (((cell_far (p := ⟨gb101, _, none⟩) NB116_101.out _).trans (((cell_far (p := ⟨gb101, _, none⟩) NB116_101.out _).trans (((cell_far (p := ⟨gb101, _, none⟩) NB116_101.out _).trans (((cell_far (p := ⟨gb101, _, none⟩) NB116_101.out _).trans (((cell_far (p := ⟨gb101, _, none⟩) NB116_101.out _).trans (((cell_far (p := ⟨gb101, _, none⟩) NB116_101.out _).trans (((cell_far (p := ⟨gb101, _, none⟩) NB116_101.out _).trans (hHeld.2.2.2.2.2.1)))))))))))))))))))))))))), ((cell_far (p := ⟨gb101, _, none⟩) NB116_101.out _).trans (((cell_far (p := ⟨gb101, _, none⟩) NB116_101.out _).trans (((cell_far (p := ⟨gb101, _, none⟩) NB116_101.out _).trans (((cell_far (p := ⟨gb101, _, none⟩) NB116_101.out _).trans (((cell_far (p := ⟨gb101, _, none⟩) NB116_101.out _).trans (((cell_far (p := ⟨gb101, _, none⟩) NB116_101.out _).trans (((cell_far (p := ⟨gb101, _, none⟩) NB116_101.out _).trans (((cell_far (p := ⟨gb101, _, none⟩) NB116_101.out _).trans (((cell_far (p := ⟨gb101, _, none⟩) NB116_101.out _).trans (((cell_far (p := ⟨gb101, _, none⟩) NB116_101.out _).trans (((cell_far (p := ⟨gb101, _, none⟩) NB116_101.out _).trans (((cell_far (p := ⟨gb101, _, none⟩) NB116_101.out _).trans (((cell_far (p := ⟨gb101, _, none⟩) NB116_101.out _).trans (hHeld.2.2.2.2.2.2.1)))))))))))))))))))))))))), ((cell_far (p := ⟨gb101, _, none⟩) NB116_101.out _).trans (((cell_far (p := ⟨gb101, _, none⟩) NB116_101.out _).trans (((cell_far (p := ⟨gb101, _, none⟩) NB116_101.out _).trans (((cell_far (p := ⟨gb101, _, none⟩) NB116_101.out _).trans (((cell_far (p := ⟨gb101, _, none⟩) NB116_101.out _).trans (((cell_far (p := ⟨gb101, _, none⟩) NB116_101.out _).trans (((cell_far (p := ⟨gb101, _, none⟩) NB116_101.out _).trans (((cell_far (p := ⟨gb101, _, none⟩) NB116_101.out _).trans (((cell_far (p := ⟨gb101, _, none⟩) NB116_101.out _).trans (((cell_far (p := ⟨gb101, _, none⟩) NB116_101.out _).trans (((cell_far (p := ⟨gb101, _, none⟩) NB116_101.out _).trans (((cell_far (p := ⟨gb101, _, none⟩) NB116_101.out _).trans (((cell_far (p := ⟨gb101, _, none⟩) NB116_101.out _).trans (hHeld.2.2.2.2.2.2.2.1)))))))))))))))))))))))))), ((cell_far (p := ⟨gb101, _, none⟩) NB116_101.out _).trans (((cell_far (p := ⟨gb101, _, none⟩) NB116_101.out _).trans (((cell_far (p := ⟨gb101, _, none⟩) NB116_101.out _).trans (((cell_far (p := ⟨gb101, _, none⟩) NB116_101.out _).trans (((cell_far (p := ⟨gb101, _, none⟩) NB116_101.out _).trans (((cell_far (p := ⟨gb101, _, none⟩) NB116_101.out _).trans (((cell_far (p := ⟨gb101, _, none⟩) NB116_101.out _).trans (((cell_far (p := ⟨gb101, _, none⟩) NB116_101.out _).trans (((cell_far (p := ⟨gb101, _, none⟩) NB116_101.out _).trans (((cell_far (p := ⟨gb101, _, none⟩) NB116_101.out _).trans (((cell_far (p := ⟨gb101, _, none⟩) NB116_101.out _).trans (((cell_far (p := ⟨gb101, _, none⟩) NB116_101.out _).trans (((cell_far (p := ⟨gb101, _, none⟩) NB116_101.out _).trans (hHeld.2.2.2.2.2.2.2.2.1)))))))))))))))))))))))))), ((cell_far (p := ⟨gb101, _, none⟩) NB116_101.out _).trans (((cell_far (p := ⟨gb101, _, none⟩) NB116_101.out _).trans (((cell_far (p := ⟨gb101, _, none⟩) NB116_101.out _).trans (((cell_far (p := ⟨gb101, _, none⟩) NB116_101.out _).trans (((cell_far (p := ⟨gb101, _, none⟩) NB116_101.out _).trans (((cell_far (p := ⟨gb101, _, none⟩) NB116_101.out _).trans (((cell_far (p := ⟨gb101, _, none⟩) NB116_101.out _).trans (((cell_far (p := ⟨gb101, _, none⟩) NB116_101.out _).trans (((cell_far (p := ⟨gb101, _, none⟩) NB116_101.out _).trans (((cell_far (p := ⟨gb101, _, none⟩) NB116_101.out _).trans (((cell_far (p := ⟨gb101, _, none⟩) NB116_101.out _).trans (((cell_far (p := ⟨gb101, _, none⟩) NB116_101.out _).trans (((cell_far (p := ⟨gb101, _, none⟩) NB116_101.out _).trans (hHeld.2.2.2.2.2.2.2.2.2.1)))))))))))))))))))))))))), ((cell_far (p := ⟨gb101, _, none⟩) NB116_101.out _).trans (((cell_far (p := ⟨gb101, _, none⟩) NB116_101.out _).trans (((cell_far (p := ⟨gb101, _, none⟩) NB116_101.out _).trans (((cell_far (p := ⟨gb101, _, none⟩) NB116_101.out _).trans (((cell_far (p := ⟨gb101, _, none⟩) NB116_101.out _).trans (((cell_far (p := ⟨gb101, _, none⟩) NB116_101.out _).trans (((cell_far (p := ⟨gb101, _, none⟩) NB116_101.out _).trans (((cell_far (p := ⟨gb101, _, none⟩) NB116_101.out _).trans (((cell_far (p := ⟨gb101, _, none⟩) NB116_101.out _).trans (((cell_far (p := ⟨gb101, _, none⟩) NB116_101.out _).trans (((cell_far (p := ⟨gb101, _, none⟩) NB116_101.out _).trans (((cell_far (p := ⟨gb101, _, none⟩) NB116_101.out _).trans (((cell_far (p := ⟨gb101, _, none⟩) NB116_101.out _).trans (hHeld.2.2.2.2.2.2.2.2.2.2.1)))))))))))))))))))))))))), ((cell_far (p := ⟨gb101, _, none⟩) NB116_101.out _).trans (((cell_far (p := ⟨gb101, _, none⟩) NB116_101.out _).trans (((cell_far (p := ⟨gb101, _, none⟩) NB116_101.out _).trans (((cell_far (p := ⟨gb101, _, none⟩) NB116_101.out _).trans (((cell_far (p := ⟨gb101, _, none⟩) NB116_101.out _).trans (((cell_far (p := ⟨gb101, _, none⟩) NB116_101.out _).trans (((cell_far (p := ⟨gb101, _, none⟩) NB116_101.out _).trans (((cell_far (p := ⟨gb101, _, none⟩) NB116_101.out _).trans (((cell_far (p := ⟨gb101, _, none⟩) NB116_101.out _).trans (((cell_far (p := ⟨gb101, _, none⟩) NB116_101.out _).trans (((cell_far (p := ⟨gb101, _, none⟩) NB116_101.out _).trans (((cell_far (p := ⟨gb101, _, none⟩) NB116_101.out _).trans (((cell_far (p := ⟨gb101, _, none⟩) NB116_101.out _).trans (hHeld.2.2.2.2.2.2.2.2.2.2.2.1)))))))))))))))))))))))))), ((cell_far (p := ⟨gb101, _, none⟩) NB116_101.out _).trans (((cell_far (p := ⟨gb101, _, none⟩) NB116_101.out _).trans (((cell_far (p := ⟨gb101, _, none⟩) NB116_101.out _).trans (((cell_far (p := ⟨gb101, _, none⟩) NB116_101.out _).trans (((cell_far (p := ⟨gb101, _, none⟩) NB116_101.out _).trans (((cell_far (p := ⟨gb101, _, none⟩) NB116_101.out _).trans (((cell_far (p := ⟨gb101, _, none⟩) NB116_101.out _).trans (((cell_far (p := ⟨gb101, _, none⟩) NB116_101.out _).trans (((cell_far (p := ⟨gb101, _, none⟩) NB116_101.out _).trans (((cell_far (p := ⟨gb101, _, none⟩) NB116_101.out _).trans (((cell_far (p := ⟨gb101, _, none⟩) NB116_101.out _).trans (((cell_far (p := ⟨gb101, _, none⟩) NB116_101.out _).trans (((cell_far (p := ⟨gb101, _, none⟩) NB116_101.out _).trans (hHeld.2.2.2.2.2.2.2.2.2.2.2.2))))))))))))))))))))))))))⟩ (fun hHeld => ?_)
    clear hK K
    refine pure_ (i := 3) (N := some 6) (v := ?_) (a' := ?_) #[true, true, true, true] rfl rfl (by kernel_rfl) (fun _ _ _ h => h) (Or.inl ⟨by rfl, ?_⟩) ?_ ?_
    rotate_left
    · intro w'
      go_simp
      with_reducible rfl
    rotate_left
    · simp only [Act.put, List.setIfInBounds_toArray, List.set_cons_zero, List.set_cons_succ, i64_w, i32_w]
      rfl
    refine done_ (by kernel_rfl) ?_
    try go_wp2
    refine bodyPost_ret (results_list (rs := [.tmp 4, .cell 5 27, .tmp 6]) rfl (by simp) (.tmp (.cell gb101 27 #[.int .i64 t102, .int .i64 t103, .int .i64 t104, .string t105, .int .i64 t106, .int .i64 t107, .int .i64 t108, .int .i64 t109, .int .i64 t110, .string t111, .string t112, .string t113, .string t114] (0, 0) _ rfl (by (with_reducible repeat (first | refine blk_drewN ?_ _ | refine blk_drew ?_ | refine blk_alloc ?_ _)); refine blk_put (cs := #[.int .i64 t102, .int .i64 t103, .int .i64 t104, .string t105, .int .i64 t106, .int .i64 t107, .int .i64 t108, .int .i64 t109, .int .i64 t110, .string t111, .string t112, .string t113, .string (⟨#[]⟩ : ByteArray)]) ?_ 12 _ rfl; (with_reducible repeat (first | refine blk_drewN ?_ _ | refine blk_drew ?_ | refine blk_alloc ?_ _)); refine blk_put (cs := #[.int .i64 t102, .int .i64 t103, .int .i64 t104, .string t105, .int .i64 t106, .int .i64 t107, .int .i64 t108, .int .i64 t109, .int .i64 t110, .string t111, .string t112, .string (⟨#[]⟩ : ByteArray), .string (⟨#[]⟩ : ByteArray)]) ?_ 11 _ rfl; (with_reducible repeat (first | refine blk_drewN ?_ _ | refine blk_drew ?_ | refine blk_alloc ?_ _)); refine blk_put (cs := #[.int .i64 t102, .int .i64 t103, .int .i64 t104, .string t105, .int .i64 t106, .int .i64 t107, .int .i64 t108, .int .i64 t109, .int .i64 t110, .string t111, .string (⟨#[]⟩ : ByteArray), .string (⟨#[]⟩ : ByteArray), .string (⟨#[]⟩ : ByteArray)]) ?_ 10 _ rfl; (with_reducible repeat (first | refine blk_drewN ?_ _ | refine blk_drew ?_ | refine blk_alloc ?_ _)); refine blk_put (cs := #[.int .i64 t102, .int .i64 t103, .int .i64 t104, .string t105, .int .i64 t106, .int .i64 t107, .int .i64 t108, .int .i64 t109, .int .i64 t110, .string (⟨#[]⟩ : ByteArray), .string (⟨#[]⟩ : ByteArray), .string (⟨#[]⟩ : ByteArray), .string (⟨#[]⟩ : ByteArray)]) ?_ 9 _ rfl; (with_reducible repeat (first | refine blk_drewN ?_ _ | refine blk_drew ?_ | refine blk_alloc ?_ _)); refine blk_put (cs := #[.int .i64 t102, .int .i64 t103, .int .i64 t104, .string t105, .int .i64 t106, .int .i64 t107, .int .i64 t108, .int .i64 t109, .int .i64 0, .string (⟨#[]⟩ : ByteArray), .string (⟨#[]⟩ : ByteArray), .string (⟨#[]⟩ : ByteArray), .string (⟨#[]⟩ : ByteArray)]) ?_ 8 _ rfl; (with_reducible repeat (first | refine blk_drewN ?_ _ | refine blk_drew ?_ | refine blk_alloc ?_ _)); refine blk_put (cs := #[.int .i64 t102, .int .i64 t103, .int .i64 t104, .string t105, .int .i64 t106, .int .i64 t107, .int .i64 t108, .int .i64 0, .int .i64 0, .string (⟨#[]⟩ : ByteArray), .string (⟨#[]⟩ : ByteArray), .string (⟨#[]⟩ : ByteArray), .string (⟨#[]⟩ : ByteArray)]) ?_ 7 _ rfl; (with_reducible repeat (first | refine blk_drewN ?_ _ | refine blk_drew ?_ | refine blk_alloc ?_ _)); refine blk_put (cs := #[.int .i64 t102, .int .i64 t103, .int .i64 t104, .string t105, .int .i64 t106, .int .i64 t107, .int .i64 0, .int .i64 0, .int .i64 0, .string (⟨#[]⟩ : ByteArray), .string (⟨#[]⟩ : ByteArray), .string (⟨#[]⟩ : ByteArray), .string (⟨#[]⟩ : ByteArray)]) ?_ 6 _ rfl; (with_reducible repeat (first | refine blk_drewN ?_ _ | refine blk_drew ?_ | refine blk_alloc ?_ _)); refine blk_put (cs := #[.int .i64 t102, .int .i64 t103, .int .i64 t104, .string t105, .int .i64 t106, .int .i64 0, .int .i64 0, .int .i64 0, .int .i64 0, .string (⟨#[]⟩ : ByteArray), .string (⟨#[]⟩ : ByteArray), .string (⟨#[]⟩ : ByteArray), .string (⟨#[]⟩ : ByteArray)]) ?_ 5 _ rfl; (with_reducible repeat (first | refine blk_drewN ?_ _ | refine blk_drew ?_ | refine blk_alloc ?_ _)); refine blk_put (cs := #[.int .i64 t102, .int .i64 t103, .int .i64 t104, .string t105, .int .i64 0, .int .i64 0, .int .i64 0, .int .i64 0, .int .i64 0, .string (⟨#[]⟩ : ByteArray), .string (⟨#[]⟩ : ByteArray), .string (⟨#[]⟩ : ByteArray), .string (⟨#[]⟩ : ByteArray)]) ?_ 4 _ rfl; (with_reducible repeat (first | refine blk_drewN ?_ _ | refine blk_drew ?_ | refine blk_alloc ?_ _)); refine blk_put (cs := #[.int .i64 t102, .int .i64 t103, .int .i64 t104, .string (⟨#[]⟩ : ByteArray), .int .i64 0, .int .i64 0, .int .i64 0, .int .i64 0, .int .i64 0, .string (⟨#[]⟩ : ByteArray), .string (⟨#[]⟩ : ByteArray), .string (⟨#[]⟩ : ByteArray), .string (⟨#[]⟩ : ByteArray)]) ?_ 3 _ rfl; (with_reducible repeat (first | refine blk_drewN ?_ _ | refine blk_drew ?_ | refine blk_alloc ?_ _)); refine blk_put (cs := #[.int .i64 t102, .int .i64 t103, .int .i64 0, .string (⟨#[]⟩ : ByteArray), .int .i64 0, .int .i64 0, .int .i64 0, .int .i64 0, .int .i64 0, .string (⟨#[]⟩ : ByteArray), .string (⟨#[]⟩ : ByteArray), .string (⟨#[]⟩ : ByteArray), .string (⟨#[]⟩ : ByteArray)]) ?_ 2 _ rfl; (with_reducible repeat (first | refine blk_drewN ?_ _ | refine blk_drew ?_ | refine blk_alloc ?_ _)); refine blk_put (cs := #[.int .i64 t102, .int .i64 0, .int .i64 0, .string (⟨#[]⟩ : ByteArray), .int .i64 0, .int .i64 0, .int .i64 0, .int .i64 0, .int .i64 0, .string (⟨#[]⟩ : ByteArray), .string (⟨#[]⟩ : ByteArray), .string (⟨#[]⟩ : ByteArray), .string (⟨#[]⟩ : ByteArray)]) ?_ 1 _ rfl; (with_reducible repeat (first | refine blk_drewN ?_ _ | refine blk_drew ?_ | refine blk_alloc ?_ _)); refine blk_put (cs := #[.int .i64 0, .int .i64 0, .int .i64 0, .string (⟨#[]⟩ : ByteArray), .int .i64 0, .int .i64 0, .int .i64 0, .int .i64 0, .int .i64 0, .string (⟨#[]⟩ : ByteArray), .string (⟨#[]⟩ : ByteArray), .string (⟨#[]⟩ : ByteArray), .string (⟨#[]⟩ : ByteArray)]) ?_ 0 _ rfl; (with_reducible repeat (first | refine blk_drewN ?_ _ | refine blk_drew ?_ | refine blk_alloc ?_ _)); exact BK101.out) Tryd.underlying27 rfl (by kernel_rfl) (.tmp .nil)))) rfl ?_
    exact ⟨_, by first | rfl | (simp [errW_none, errW_some] <;> rfl) | (simp [*, errW_none, errW_some] <;> rfl), by first | exact Kd.R_nil _ _ _ _ _ | exact Kd.N_nil _ _ _ _ _ | exact Kd.V_nil _ _ _ _ _ | exact Kd.Q_nil _ _ _ _ _ | exact Kd.S_nil _ _ _ _ _, by repeat (first | (with_reducible first | exact HB.out | apply below_alloc | apply pw_below_drewN | apply below_drew1 | refine below_set ?_ GE101.out | refine below_set ?_ GE116.out) | exact HB.out)⟩
end Go.Proofs.YthpmmofleddpnaaDoor.X
end
section
namespace Go.Proofs.YthpmmofleddpnaaDoor.X
open Go.RowKit Go.Proofs.YthpmmofleddpnaaDoorW.PrintWords Go.Proofs.YthpmmofleddpnaaDoorW.PrintLast Go.Proofs.YthpmmofleddpnaaDoorW.PrintMore
attribute [local go_sem] max2_int min2_int max_two min_two max_three min_three max_four min_four
set_option linter.unusedVariables false
set_option linter.unusedSimpArgs false
theorem eqA23 (d : Nat) (w : World) (x0 y0 : ByteArray) (x1 y1 : Int) (x2 y2 : Int) (x3 y3 : Int) :
    (Op.equalIn (d + 2) 23 (.agg #[.string x0, .int .i64 x1, .int .i64 x2, .int .i64 x3]) (.agg #[.string y0, .int .i64 y1, .int .i64 y2, .int .i64 y3])).run Tryd.prog w = .ok (x0.toList == y0.toList && (x1 == y1 && (x2 == y2 && (x3 == y3)))) w := by
  refine eqA_of Tryd.underlying23 (by kernel_rfl) ?_
  refine eqf_cons (by rfl) (by go_simp; rfl) (by go_simp; rfl) (by go_simp) ?_
  refine eqf_cons (by rfl) (by go_simp; rfl) (by go_simp; rfl) (by go_simp) ?_
  refine eqf_cons (by rfl) (by go_simp; rfl) (by go_simp; rfl) (by go_simp) ?_
  exact eqf_last (by rfl) (by go_simp; rfl) (by go_simp; rfl) (by go_simp)
end Go.Proofs.YthpmmofleddpnaaDoor.X
end
section
namespace Go.Proofs.YthpmmofleddpnaaDoor.X
open Go.RowKit Go.Proofs.YthpmmofleddpnaaDoorW.PrintWords Go.Proofs.YthpmmofleddpnaaDoorW.PrintLast Go.Proofs.YthpmmofleddpnaaDoorW.PrintMore
attribute [local go_sem] max2_int min2_int max_two min_two max_three min_three max_four min_four
set_option linter.unusedVariables false
set_option linter.unusedSimpArgs false
theorem eqA27 (d : Nat) (w : World) (x0 y0 : Int) (x1 y1 : Int) (x2 y2 : Int) (x3 y3 : ByteArray) (x4 y4 : Int) (x5 y5 : Int) (x6 y6 : Int) (x7 y7 : Int) (x8 y8 : Int) (x9 y9 : ByteArray) (x10 y10 : ByteArray) (x11 y11 : ByteArray) (x12 y12 : ByteArray) :
    (Op.equalIn (d + 3) 27 (.agg #[.int .i64 x0, .int .i64 x1, .int .i64 x2, .string x3, .int .i64 x4, .int .i64 x5, .int .i64 x6, .int .i64 x7, .int .i64 x8, .string x9, .string x10, .string x11, .string x12]) (.agg #[.int .i64 y0, .int .i64 y1, .int .i64 y2, .string y3, .int .i64 y4, .int .i64 y5, .int .i64 y6, .int .i64 y7, .int .i64 y8, .string y9, .string y10, .string y11, .string y12])).run Tryd.prog w = .ok (x0 == y0 && (x1 == y1 && (x2 == y2 && ((x3.toList == y3.toList && (x4 == y4 && (x5 == y5 && (x6 == y6)))) && (x7 == y7 && (x8 == y8 && ((x9.toList == y9.toList && (x10.toList == y10.toList)) && ((x11.toList == y11.toList && (x12.toList == y12.toList)))))))))) w := by
  refine eqA_of Tryd.underlying27 (by kernel_rfl) ?_
  refine eqf_cons (by rfl) (by go_simp; rfl) (by go_simp; rfl) (by go_simp) ?_
  refine eqf_cons (by rfl) (by go_simp; rfl) (by go_simp; rfl) (by go_simp) ?_
  refine eqf_cons (by rfl) (by go_simp; rfl) (by go_simp; rfl) (by go_simp) ?_
  refine eqf_cons (by rfl) (by go_simp) (by go_simp) (eqA23 (d + 0) w _ _ _ _ _ _ _ _) ?_
  refine eqf_cons (by rfl) (by go_simp; rfl) (by go_simp; rfl) (by go_simp) ?_
  refine eqf_cons (by rfl) (by go_simp; rfl) (by go_simp; rfl) (by go_simp) ?_
  refine eqf_cons (by rfl) (by go_simp) (by go_simp) (eqA25 (d + 0) w _ _ _ _) ?_
  exact eqf_last (by rfl) (by go_simp) (by go_simp) (eqA25 (d + 0) w _ _ _ _)
end Go.Proofs.YthpmmofleddpnaaDoor.X
end
section
namespace Go.Proofs.YthpmmofleddpnaaDoor.X
open Go.RowKit Go.Proofs.YthpmmofleddpnaaDoorW.PrintWords Go.Proofs.YthpmmofleddpnaaDoorW.PrintLast Go.Proofs.YthpmmofleddpnaaDoorW.PrintMore
attribute [local go_sem] max2_int min2_int max_two min_two max_three min_three max_four min_four
set_option linter.unusedVariables false
set_option linter.unusedSimpArgs false
attribute [local go_sem high] eqA27
mutual
def contangoref12_Same.l0 : Nat → List (S27) → List (S27) → Int → Option (Bool)
  | 0, _, _, _ => none
  | k + 1, x0, x1, x5 => if x5 < (x0.length : Int) then (contangoref12_Same.j1 k x0 x1 x5 (decide (x5 < (x1.length : Int)))) else (contangoref12_Same.j1 k x0 x1 x5 false)
def contangoref12_Same.j1 : Nat → List (S27) → List (S27) → Int → Bool → Option (Bool)
  | 0, _, _, _, _ => none
  | k + 1, x0, x1, x5, x15 => if x15 = true then (if 0 ≤ x5 then (if x5 < (x0.length : Int) then (if x5 < (x1.length : Int) then (if (!(((rd_T27 x0 x5).f0) == ((rd_T27 x1 x5).f0)) || (!(((rd_T27 x0 x5).f1) == ((rd_T27 x1 x5).f1)) || (!(((rd_T27 x0 x5).f2) == ((rd_T27 x1 x5).f2)) || ((!((((rd_T27 x0 x5).f3.f0).toList) == (((rd_T27 x1 x5).f3.f0).toList)) || (!(((rd_T27 x0 x5).f3.f1) == ((rd_T27 x1 x5).f3.f1)) || (!(((rd_T27 x0 x5).f3.f2) == ((rd_T27 x1 x5).f3.f2)) || (!(((rd_T27 x0 x5).f3.f3) == ((rd_T27 x1 x5).f3.f3)))))) || (!(((rd_T27 x0 x5).f4) == ((rd_T27 x1 x5).f4)) || (!(((rd_T27 x0 x5).f5) == ((rd_T27 x1 x5).f5)) || ((!((((rd_T27 x0 x5).f6.f0).toList) == (((rd_T27 x1 x5).f6.f0).toList)) || (!((((rd_T27 x0 x5).f6.f1).toList) == (((rd_T27 x1 x5).f6.f1).toList)))) || ((!((((rd_T27 x0 x5).f7.f0).toList) == (((rd_T27 x1 x5).f7.f0).toList)) || (!((((rd_T27 x0 x5).f7.f1).toList) == (((rd_T27 x1 x5).f7.f1).toList)))))))))))) = true then (some false) else (contangoref12_Same.l0 k x0 x1 (wrap64 (x5 + 1)))) else (none)) else (none)) else (none)) else (some ((x0.length : Int) == (x1.length : Int)))
end
def contangoref12_Same.f (k : Nat) (l0 : List (S27)) (l1 : List (S27)) : Option (Bool) := contangoref12_Same.l0 k l0 l1 0
set_option maxHeartbeats 8000000 in
set_option maxRecDepth 100000 in
theorem contangoref12_Same.calls (k : Nat) (A0 : Option Addr) (c0 : Nat) (l0 : List (S27)) (A1 : Option Addr) (c1 : Nat) (l1 : List (S27)) (r : Bool) (w : World) (hr0 : Kd.C k27 w A0 l0.length l0) (hc0 : l0.length ≤ c0) (hr1 : Kd.C k27 w A1 l1.length l1) (hc1 : l1.length ≤ c1) (h : contangoref12_Same.f k l0 l1 = some r) :
    Calls Tryd.prog 18 #[.slice A0 l0.length c0, .slice A1 l1.length c1] w fun e w' => e = .returned (.bool r) ∧ Drawn0 w w' := by
  have hu27 := Tryd.underlying27
  have HR0 := Aside0.mk hr0
  have HC0 := Aside0.mk hc0
  clear hr0 hc0
  have HR1 := Aside0.mk hr1
  have HC1 := Aside0.mk hc1
  clear hr1 hc1
  have H : (contangoref12_Same.l0 k l0 l1 0) = some r := h
  clear h
  have H' := Aside0.mk H
  clear H
  go_enter Tryd.func18, Tryd.ntmps18
  go_wp2
  repeat (go_quiet (fail); try go_wp2)
  go_loopg [5] k (fun kq v5 w' => ∃ (x5_1 : Int), v5 = .int .i64 x5_1 ∧ Aside0 (contangoref12_Same.l0 kq l0 l1 x5_1 = some r) ∧ Aside0 (kq ≤ k) ∧ Drawn0 w w')
  case atStart => exact ⟨(0), (by first | rfl | (simp; done) | (simp [*]; done)), H', ⟨Nat.le_refl _⟩, by repeat (first | exact Drawn0.refl _ | apply Drawn0.step)⟩
  case round =>
    clear H'
    try clear c1
    try clear p2
    obtain ⟨x5_1, rfl, HA, HK1, ⟨m1, rfl⟩⟩ := hrel
    cases gk with
    | zero => exact absurd HA.out (by simp [contangoref12_Same.l0])
    | succ k1 =>
      have H := HA.out
      clear HA
      simp only [contangoref12_Same.l0] at H
      have HC3 := Aside0.mk H
      clear H
      go_upto_region 2 with (fail)
      repeat (go_quiet (fail); go_upto_region 2 with (fail))
      go_cut [15] (fun v15 wc => ∃ (kq : Nat) (x15_2 : Bool), v15 = .bool x15_2 ∧ Aside0 (contangoref12_Same.j1 kq l0 l1 x5_1 x15_2 = some r) ∧ Aside0 (kq ≤ k1) ∧ Drawn0 w wc)
      case first =>
        have H := HC3.out
        clear HC3
        by_cases c4 : x5_1 < (l0.length : Int)
        · rw [if_pos c4] at H
          have c4b0 : decide (x5_1 < (l0.length : Int)) = true := decide_eq_true c4
          clear c4
          (first | rw [c4b0] | (simp only [i64_w, i32_w]; rw [c4b0]) | skip)
          have H' := Aside0.mk H
          clear H
          go_wp2
          repeat (go_quiet (fail); try go_wp2)
          go_meet
          case rel => exact ⟨_, (decide (x5_1 < (l1.length : Int))), (by first | rfl | (simp; done) | (simp [*]; done)), H', ⟨by have := HK1.out; first | omega | exact Nat.le_refl _⟩, by repeat (first | exact Drawn0.refl _ | apply Drawn0.step)⟩
        · rw [if_neg c4] at H
          have c4b0 : decide (x5_1 < (l0.length : Int)) = false := decide_eq_false c4
          clear c4
          (first | rw [c4b0] | (simp only [i64_w, i32_w]; rw [c4b0]) | skip)
          have H' := Aside0.mk H
          clear H
          go_wp2
          repeat (go_quiet (fail); try go_wp2)
          go_meet
          case rel => exact ⟨_, (false), (by first | rfl | (simp; done) | (simp [*]; done)), H', ⟨by have := HK1.out; first | omega | exact Nat.le_refl _⟩, by repeat (first | exact Drawn0.refl _ | apply Drawn0.step)⟩
      case rest =>
        clear HC3
        try clear c1
        try clear p2
        try clear c4
        try clear c4b0
        try clear p2
        obtain ⟨kq, x15_2, rfl, HA, HJ2, ⟨mc2, rfl⟩⟩ := hcut
        cases kq with
        | zero => exact absurd HA.out (by simp [contangoref12_Same.j1])
        | succ kj2 =>
          have H := HA.out
          clear HA
          simp only [contangoref12_Same.j1] at H
          by_cases c5 : x15_2 = true
          · subst c5
            have H1 : (if 0 ≤ x5_1 then (if x5_1 < (l0.length : Int) then (if x5_1 < (l1.length : Int) then (if (!(((rd_T27 l0 x5_1).f0) == ((rd_T27 l1 x5_1).f0)) || (!(((rd_T27 l0 x5_1).f1) == ((rd_T27 l1 x5_1).f1)) || (!(((rd_T27 l0 x5_1).f2) == ((rd_T27 l1 x5_1).f2)) || ((!((((rd_T27 l0 x5_1).f3.f0).toList) == (((rd_T27 l1 x5_1).f3.f0).toList)) || (!(((rd_T27 l0 x5_1).f3.f1) == ((rd_T27 l1 x5_1).f3.f1)) || (!(((rd_T27 l0 x5_1).f3.f2) == ((rd_T27 l1 x5_1).f3.f2)) || (!(((rd_T27 l0 x5_1).f3.f3) == ((rd_T27 l1 x5_1).f3.f3)))))) || (!(((rd_T27 l0 x5_1).f4) == ((rd_T27 l1 x5_1).f4)) || (!(((rd_T27 l0 x5_1).f5) == ((rd_T27 l1 x5_1).f5)) || ((!((((rd_T27 l0 x5_1).f6.f0).toList) == (((rd_T27 l1 x5_1).f6.f0).toList)) || (!((((rd_T27 l0 x5_1).f6.f1).toList) == (((rd_T27 l1 x5_1).f6.f1).toList)))) || ((!((((rd_T27 l0 x5_1).f7.f0).toList) == (((rd_T27 l1 x5_1).f7.f0).toList)) || (!((((rd_T27 l0 x5_1).f7.f1).toList) == (((rd_T27 l1 x5_1).f7.f1).toList)))))))))))) = true then (some false) else (contangoref12_Same.l0 kj2 l0 l1 (wrap64 (x5_1 + 1)))) else (none)) else (none)) else (none)) = some r := by rw [if_pos rfl] at H; exact H
            clear H
            have H := H1
            clear H1
            by_cases c6 : 0 ≤ x5_1
            · rw [if_pos c6] at H
              have c6b0 : decide (0 ≤ x5_1) = true := decide_eq_true c6
              clear c6
              by_cases c7 : x5_1 < (l0.length : Int)
              · rw [if_pos c7] at H
                have c7b0 : decide (x5_1 < (l0.length : Int)) = true := decide_eq_true c7
                clear c7
                by_cases c8 : x5_1 < (l1.length : Int)
                · rw [if_pos c8] at H
                  have c8b0 : decide (x5_1 < (l1.length : Int)) = true := decide_eq_true c8
                  clear c8
                  by_cases c9 : (!(((rd_T27 l0 x5_1).f0) == ((rd_T27 l1 x5_1).f0)) || (!(((rd_T27 l0 x5_1).f1) == ((rd_T27 l1 x5_1).f1)) || (!(((rd_T27 l0 x5_1).f2) == ((rd_T27 l1 x5_1).f2)) || ((!((((rd_T27 l0 x5_1).f3.f0).toList) == (((rd_T27 l1 x5_1).f3.f0).toList)) || (!(((rd_T27 l0 x5_1).f3.f1) == ((rd_T27 l1 x5_1).f3.f1)) || (!(((rd_T27 l0 x5_1).f3.f2) == ((rd_T27 l1 x5_1).f3.f2)) || (!(((rd_T27 l0 x5_1).f3.f3) == ((rd_T27 l1 x5_1).f3.f3)))))) || (!(((rd_T27 l0 x5_1).f4) == ((rd_T27 l1 x5_1).f4)) || (!(((rd_T27 l0 x5_1).f5) == ((rd_T27 l1 x5_1).f5)) || ((!((((rd_T27 l0 x5_1).f6.f0).toList) == (((rd_T27 l1 x5_1).f6.f0).toList)) || (!((((rd_T27 l0 x5_1).f6.f1).toList) == (((rd_T27 l1 x5_1).f6.f1).toList)))) || ((!((((rd_T27 l0 x5_1).f7.f0).toList) == (((rd_T27 l1 x5_1).f7.f0).toList)) || (!((((rd_T27 l0 x5_1).f7.f1).toList) == (((rd_T27 l1 x5_1).f7.f1).toList)))))))))))) = true
                  · rw [if_pos c9] at H
                    have c9b0 : (!(((rd_T27 l0 x5_1).f0) == ((rd_T27 l1 x5_1).f0)) || (!(((rd_T27 l0 x5_1).f1) == ((rd_T27 l1 x5_1).f1)) || (!(((rd_T27 l0 x5_1).f2) == ((rd_T27 l1 x5_1).f2)) || ((!((((rd_T27 l0 x5_1).f3.f0).toList) == (((rd_T27 l1 x5_1).f3.f0).toList)) || (!(((rd_T27 l0 x5_1).f3.f1) == ((rd_T27 l1 x5_1).f3.f1)) || (!(((rd_T27 l0 x5_1).f3.f2) == ((rd_T27 l1 x5_1).f3.f2)) || (!(((rd_T27 l0 x5_1).f3.f3) == ((rd_T27 l1 x5_1).f3.f3)))))) || (!(((rd_T27 l0 x5_1).f4) == ((rd_T27 l1 x5_1).f4)) || (!(((rd_T27 l0 x5_1).f5) == ((rd_T27 l1 x5_1).f5)) || ((!((((rd_T27 l0 x5_1).f6.f0).toList) == (((rd_T27 l1 x5_1).f6.f0).toList)) || (!((((rd_T27 l0 x5_1).f6.f1).toList) == (((rd_T27 l1 x5_1).f6.f1).toList)))) || ((!((((rd_T27 l0 x5_1).f7.f0).toList) == (((rd_T27 l1 x5_1).f7.f0).toList)) || (!((((rd_T27 l0 x5_1).f7.f1).toList) == (((rd_T27 l1 x5_1).f7.f1).toList)))))))))))) = true := c9
                    clear c9
                    obtain rfl := Option.some.inj H
                    have p101 : 0 ≤ (x5_1 : Int) := of_decide_eq_true (by first | (with_reducible assumption) | assumption)
                    have q101 : x5_1 < (l0.length : Int) := of_decide_eq_true (by first | (with_reducible assumption) | assumption)
                    obtain ⟨ad101, e101, hx101_0, hx101_1, hx101_2, hx101_3, hx101_4, hx101_5, hx101_6, hx101_7, hx101_8, hx101_9, hx101_10, hx101_11, hx101_12⟩ := at_T27 HR0.out x5_1 p101 q101
                    cases e101
                    replace p101 := eq_true p101
                    replace q101 := eq_true q101
                    have p102 : 0 ≤ (x5_1 : Int) := of_decide_eq_true (by first | (with_reducible assumption) | assumption)
                    have q102 : x5_1 < (l1.length : Int) := of_decide_eq_true (by first | (with_reducible assumption) | assumption)
                    obtain ⟨ad102, e102, hx102_0, hx102_1, hx102_2, hx102_3, hx102_4, hx102_5, hx102_6, hx102_7, hx102_8, hx102_9, hx102_10, hx102_11, hx102_12⟩ := at_T27 HR1.out x5_1 p102 q102
                    cases e102
                    replace p102 := eq_true p102
                    replace q102 := eq_true q102
                    go_wp2
                    repeat (go_quiet (fail); try go_wp2)
                    go_ret
                    exact ⟨by first | rfl | (simp; done) | (simp [*]; done), by repeat (first | exact Drawn0.refl _ | apply Drawn0.step)⟩
                  · rw [if_neg c9] at H
                    have c9b0 : (!(((rd_T27 l0 x5_1).f0) == ((rd_T27 l1 x5_1).f0)) || (!(((rd_T27 l0 x5_1).f1) == ((rd_T27 l1 x5_1).f1)) || (!(((rd_T27 l0 x5_1).f2) == ((rd_T27 l1 x5_1).f2)) || ((!((((rd_T27 l0 x5_1).f3.f0).toList) == (((rd_T27 l1 x5_1).f3.f0).toList)) || (!(((rd_T27 l0 x5_1).f3.f1) == ((rd_T27 l1 x5_1).f3.f1)) || (!(((rd_T27 l0 x5_1).f3.f2) == ((rd_T27 l1 x5_1).f3.f2)) || (!(((rd_T27 l0 x5_1).f3.f3) == ((rd_T27 l1 x5_1).f3.f3)))))) || (!(((rd_T27 l0 x5_1).f4) == ((rd_T27 l1 x5_1).f4)) || (!(((rd_T27 l0 x5_1).f5) == ((rd_T27 l1 x5_1).f5)) || ((!((((rd_T27 l0 x5_1).f6.f0).toList) == (((rd_T27 l1 x5_1).f6.f0).toList)) || (!((((rd_T27 l0 x5_1).f6.f1).toList) == (((rd_T27 l1 x5_1).f6.f1).toList)))) || ((!((((rd_T27 l0 x5_1).f7.f0).toList) == (((rd_T27 l1 x5_1).f7.f0).toList)) || (!((((rd_T27 l0 x5_1).f7.f1).toList) == (((rd_T27 l1 x5_1).f7.f1).toList)))))))))))) = false := by simpa using c9
                    clear c9
                    have H' := Aside0.mk H
                    clear H
                    have p101 : 0 ≤ (x5_1 : Int) := of_decide_eq_true (by first | (with_reducible assumption) | assumption)
                    have q101 : x5_1 < (l0.length : Int) := of_decide_eq_true (by first | (with_reducible assumption) | assumption)
                    obtain ⟨ad101, e101, hx101_0, hx101_1, hx101_2, hx101_3, hx101_4, hx101_5, hx101_6, hx101_7, hx101_8, hx101_9, hx101_10, hx101_11, hx101_12⟩ := at_T27 HR0.out x5_1 p101 q101
                    cases e101
                    replace p101 := eq_true p101
                    replace q101 := eq_true q101
                    have p102 : 0 ≤ (x5_1 : Int) := of_decide_eq_true (by first | (with_reducible assumption) | assumption)
                    have q102 : x5_1 < (l1.length : Int) := of_decide_eq_true (by first | (with_reducible assumption) | assumption)
                    obtain ⟨ad102, e102, hx102_0, hx102_1, hx102_2, hx102_3, hx102_4, hx102_5, hx102_6, hx102_7, hx102_8, hx102_9, hx102_10, hx102_11, hx102_12⟩ := at_T27 HR1.out x5_1 p102 q102
                    cases e102
                    replace p102 := eq_true p102
                    replace q102 := eq_true q102
                    go_wp2
                    repeat (go_quiet (fail); try go_wp2)
                    go_roundg kj2
                    case measure => have := HK1.out; have := HJ2.out; omega
                    case rel => exact ⟨(wrap64 (x5_1 + 1)), (by first | rfl | (simp; done) | (simp [*]; done)), H', ⟨by have := HK1.out; have := HJ2.out; omega⟩, by repeat (first | exact Drawn0.refl _ | apply Drawn0.step)⟩
                · rw [if_neg c8] at H
                  exact absurd H (by simp)
              · rw [if_neg c7] at H
                exact absurd H (by simp)
            · rw [if_neg c6] at H
              exact absurd H (by simp)
          · replace c5 := Bool.eq_false_iff.mpr c5
            subst c5
            have H1 : (some ((l0.length : Int) == (l1.length : Int))) = some r := by rw [if_neg (show ¬ (false = true) by decide)] at H; exact H
            clear H
            have H := H1
            clear H1
            obtain rfl := Option.some.inj H
            go_wp2
            repeat (go_quiet (fail); try go_wp2)
            go_ret
            exact ⟨by first | rfl | (simp; done) | (simp [*]; done), by repeat (first | exact Drawn0.refl _ | apply Drawn0.step)⟩
end Go.Proofs.YthpmmofleddpnaaDoor.X
end
