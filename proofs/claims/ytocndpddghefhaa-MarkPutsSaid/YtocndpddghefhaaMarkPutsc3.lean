/- For MarkPuts: contracts, and facts on lists and numbers, that it uses (part 3). -/
import Derived.Test.YtocndpddghefhaaMarkPutsc2
section
namespace Go.Proofs.Ytocndpddghefhaa.X
open Go.RowKit Go.Proofs.YtocndpddghefhaaW.PrintWords Go.Proofs.YtocndpddghefhaaW.PrintLast Go.Proofs.YtocndpddghefhaaW.PrintMore
attribute [local go_sem] max2_int min2_int max_two min_two max_three min_three max_four min_four
set_option linter.unusedVariables false
set_option linter.unusedSimpArgs false
def tape_Last.f (l0 : List (S49)) : Option (Int × Int × Int × Bool) := if (l0.length : Int) = 0 then (some (0, 0, 0, false)) else (if 0 ≤ (wrap64 ((l0.length : Int) - 1)) then (if (wrap64 ((l0.length : Int) - 1)) < (l0.length : Int) then (some ((rd_T49 l0 (wrap64 ((l0.length : Int) - 1))).f0, (rd_T49 l0 (wrap64 ((l0.length : Int) - 1))).f1, (rd_T49 l0 (wrap64 ((l0.length : Int) - 1))).f2, true)) else (none)) else (none))
set_option maxHeartbeats 8000000 in
set_option maxRecDepth 100000 in
theorem tape_Last.calls (A0 : Option Addr) (c0 : Nat) (l0 : List (S49)) (r1 : Int) (r2 : Int) (r3 : Int) (r4 : Bool) (w : World) (hr0 : Kd.C k49 w A0 l0.length l0) (hc0 : l0.length ≤ c0) (h : tape_Last.f l0 = some (r1, r2, r3, r4)) :
    Calls Try.prog 81 #[.slice A0 l0.length c0] w fun e w' => e = .returned (.tuple #[.agg #[.int .i64 r1, .int .i64 r2, .int .i64 r3], .bool r4]) ∧ Below w.heap.size w w' := by
  have hu49 := Try.underlying49
  have HR0 := Aside0.mk hr0
  have HC0 := Aside0.mk hc0
  clear hr0 hc0
  have HB := Aside0.mk (Below.refl w.heap.size w)
  have H : (if (l0.length : Int) = 0 then (some (0, 0, 0, false)) else (if 0 ≤ (wrap64 ((l0.length : Int) - 1)) then (if (wrap64 ((l0.length : Int) - 1)) < (l0.length : Int) then (some ((rd_T49 l0 (wrap64 ((l0.length : Int) - 1))).f0, (rd_T49 l0 (wrap64 ((l0.length : Int) - 1))).f1, (rd_T49 l0 (wrap64 ((l0.length : Int) - 1))).f2, true)) else (none)) else (none))) = some (r1, r2, r3, r4) := h
  clear h
  by_cases c2 : (l0.length : Int) = 0
  · rw [if_pos c2] at H
    have c2b0 : ((l0.length : Int) == 0) = true := beq_iff_eq.mpr c2
    have c2b1 : ((l0.length : Int) != 0) = false := bne_eq_false_iff_eq.mpr c2
    clear c2
    simp only [Option.some.injEq, Prod.mk.injEq] at H
    obtain ⟨rfl, rfl, rfl, rfl⟩ := H
    go_enter Try.func81, Try.ntmps81
    go_wp2_with (first | ((with_reducible refine gate_dst (N := 2) rfl ?_); refine box_event ?hg (N := 2) ?hd (cs := #[.int .i64 0, .int .i64 0, .int .i64 0]) (t := 49) ?hr ?_; (case hd => rfl); (case hg => rfl); (case hr => first | (go_simp; done) | (go_simp; rfl)); intro gb101 hg w3 hbox hb; have n0_ := Aside0.mk (below_step (by repeat (first | (with_reducible first | exact HB.out | apply below_alloc | apply pw_below_drewN | apply below_drew1) | exact HB.out)) hb); have n1_ := Aside0.mk (hbox); have n2_ := Aside0.mk ((by rw [hg]; exact (below_size (by repeat (first | (with_reducible first | exact HB.out | apply below_alloc | apply pw_below_drewN | apply below_drew1) | exact HB.out))) : w.heap.size ≤ gb101)); have n3_ := Aside0.mk ((by rw [hg]; exact (below_size (by repeat (first | (with_reducible first | exact HB.out | apply below_alloc | apply pw_below_drewN | apply below_drew1) | exact HB.out))) : w.heap.size ≤ gb101)); clear HB; have HB := n0_; have BK101 := n1_; have GW101 := n2_; have GE101 := n3_; clear n0_ n1_ n2_ n3_; clear hb hbox hg; have hcz4_0 : w3.cell? ⟨gb101, 0, none⟩ = some (.int .i64 0) := (blk_cell BK101.out 0).trans rfl; have hcz4_1 : w3.cell? ⟨gb101, 1, none⟩ = some (.int .i64 0) := (blk_cell BK101.out 1).trans rfl; have hcz4_2 : w3.cell? ⟨gb101, 2, none⟩ = some (.int .i64 0) := (blk_cell BK101.out 2).trans rfl; have hfz4_0 := blk_frozen BK101.out 0; have hfz4_1 := blk_frozen BK101.out 1; have hfz4_2 := blk_frozen BK101.out 2))
    refine bodyPost_ret (results_ct rfl _ _ gb101 49 #[.int .i64 0, .int .i64 0, .int .i64 0] (0, 0) _ rfl (by (with_reducible repeat (first | refine blk_drewN ?_ _ | refine blk_drew ?_ | refine blk_alloc ?_ _)); refine blk_put (cs := #[.int .i64 0, .int .i64 0, .int .i64 0]) ?_ 2 _ rfl; (with_reducible repeat (first | refine blk_drewN ?_ _ | refine blk_drew ?_ | refine blk_alloc ?_ _)); refine blk_put (cs := #[.int .i64 0, .int .i64 0, .int .i64 0]) ?_ 1 _ rfl; (with_reducible repeat (first | refine blk_drewN ?_ _ | refine blk_drew ?_ | refine blk_alloc ?_ _)); refine blk_put (cs := #[.int .i64 0, .int .i64 0, .int .i64 0]) ?_ 0 _ rfl; (with_reducible repeat (first | refine blk_drewN ?_ _ | refine blk_drew ?_ | refine blk_alloc ?_ _)); exact BK101.out) Try.underlying49 rfl (by kernel_rfl)) rfl ?_
    exact ⟨by first | rfl | (simp [errW_none, errW_some] <;> rfl) | (simp [*, errW_none, errW_some] <;> rfl), by repeat (first | (with_reducible first | exact HB.out | apply below_alloc | apply pw_below_drewN | apply below_drew1 | refine below_set ?_ GE101.out) | exact HB.out)⟩
  · rw [if_neg c2] at H
    have c2b0 : ((l0.length : Int) == 0) = false := beq_eq_false_iff_ne.mpr c2
    have c2b1 : ((l0.length : Int) != 0) = true := bne_iff_ne.mpr c2
    have c2b2 : ¬ (l0 = []) := fun h_ => c2 (by rw [h_]; rfl)
    obtain ⟨ji5, hji5⟩ : ∃ j_ : Int, (wrap64 ((l0.length : Int) - 1)) = j_ := ⟨_, rfl⟩
    replace H : (if 0 ≤ (ji5) then (if (ji5) < (l0.length : Int) then (some ((rd_T49 l0 (ji5)).f0, (rd_T49 l0 (ji5)).f1, (rd_T49 l0 (ji5)).f2, true)) else (none)) else (none)) = some (r1, r2, r3, r4) := by first | (rw [hji5] at H; exact H) | (simp only [hji5] at H ⊢; exact H)
    have hji5w : (IntKind.i64.wrap ((l0.length : Int) - 1)) = ji5 := (i64_w _).trans hji5
    by_cases c6 : 0 ≤ (ji5)
    · rw [if_pos c6] at H
      have c6b0 : decide (0 ≤ (ji5)) = true := decide_eq_true c6
      clear c6
      by_cases c7 : (ji5) < (l0.length : Int)
      · rw [if_pos c7] at H
        have c7b0 : decide ((ji5) < (l0.length : Int)) = true := decide_eq_true c7
        clear c7
        simp only [Option.some.injEq, Prod.mk.injEq] at H
        obtain ⟨rfl, rfl, rfl, rfl⟩ := H
        go_enter Try.func81, Try.ntmps81
        go_wp2_with (first | ((with_reducible refine gate_dst (N := 2) rfl ?_); refine box_event ?hg (N := 2) ?hd (cs := #[.int .i64 0, .int .i64 0, .int .i64 0]) (t := 49) ?hr ?_; (case hd => rfl); (case hg => rfl); (case hr => first | (go_simp; done) | (go_simp; rfl)); intro gb101 hg w8 hbox hb; have n0_ := Aside0.mk (below_step (by repeat (first | (with_reducible first | exact HB.out | apply below_alloc | apply pw_below_drewN | apply below_drew1) | exact HB.out)) hb); have n1_ := Aside0.mk (hbox); have n2_ := Aside0.mk ((by rw [hg]; exact (below_size (by repeat (first | (with_reducible first | exact HB.out | apply below_alloc | apply pw_below_drewN | apply below_drew1) | exact HB.out))) : w.heap.size ≤ gb101)); have n3_ := Aside0.mk ((by rw [hg]; exact (below_size (by repeat (first | (with_reducible first | exact HB.out | apply below_alloc | apply pw_below_drewN | apply below_drew1) | exact HB.out))) : w.heap.size ≤ gb101)); clear HB; have HB := n0_; have BK101 := n1_; have GW101 := n2_; have GE101 := n3_; clear n0_ n1_ n2_ n3_; clear hb hbox hg; have p102 : 0 ≤ ((ji5) : Int) := of_decide_eq_true (by first | (with_reducible assumption) | assumption); have q102 : (ji5) < (l0.length : Int) := of_decide_eq_true (by first | (with_reducible assumption) | assumption); obtain ⟨ad102, e102, hx102_0, hx102_1, hx102_2⟩ := at_T49 HR0.out (ji5) p102 q102; cases e102; replace hx102_0 := (HB.out.cell (World.block_lt_of_cell? w _ hx102_0)).trans hx102_0; replace hx102_1 := (HB.out.cell (World.block_lt_of_cell? w _ hx102_1)).trans hx102_1; replace hx102_2 := (HB.out.cell (World.block_lt_of_cell? w _ hx102_2)).trans hx102_2; replace p102 := eq_true p102; replace q102 := eq_true q102; have hcz9_0 : w8.cell? ⟨gb101, 0, none⟩ = some (.int .i64 0) := (blk_cell BK101.out 0).trans rfl; have hcz9_1 : w8.cell? ⟨gb101, 1, none⟩ = some (.int .i64 0) := (blk_cell BK101.out 1).trans rfl; have hcz9_2 : w8.cell? ⟨gb101, 2, none⟩ = some (.int .i64 0) := (blk_cell BK101.out 2).trans rfl; have hfz9_0 := blk_frozen BK101.out 0; have hfz9_1 := blk_frozen BK101.out 1; have hfz9_2 := blk_frozen BK101.out 2))
        refine bodyPost_ret (results_ct rfl _ _ gb101 49 #[.int .i64 ((rd_T49 l0 (ji5)).f0), .int .i64 ((rd_T49 l0 (ji5)).f1), .int .i64 ((rd_T49 l0 (ji5)).f2)] (0, 0) _ rfl (by (with_reducible repeat (first | refine blk_drewN ?_ _ | refine blk_drew ?_ | refine blk_alloc ?_ _)); refine blk_put (cs := #[.int .i64 ((rd_T49 l0 (ji5)).f0), .int .i64 ((rd_T49 l0 (ji5)).f1), .int .i64 0]) ?_ 2 _ rfl; (with_reducible repeat (first | refine blk_drewN ?_ _ | refine blk_drew ?_ | refine blk_alloc ?_ _)); refine blk_put (cs := #[.int .i64 ((rd_T49 l0 (ji5)).f0), .int .i64 0, .int .i64 0]) ?_ 1 _ rfl; (with_reducible repeat (first | refine blk_drewN ?_ _ | refine blk_drew ?_ | refine blk_alloc ?_ _)); refine blk_put (cs := #[.int .i64 0, .int .i64 0, .int .i64 0]) ?_ 0 _ rfl; (with_reducible repeat (first | refine blk_drewN ?_ _ | refine blk_drew ?_ | refine blk_alloc ?_ _)); exact BK101.out) Try.underlying49 rfl (by kernel_rfl)) rfl ?_
        exact ⟨by first | rfl | (simp [errW_none, errW_some] <;> rfl) | (simp only [← hji5]; first | rfl | (simp [errW_none, errW_some] <;> rfl)) | (simp [*, errW_none, errW_some] <;> rfl), by repeat (first | (with_reducible first | exact HB.out | apply below_alloc | apply pw_below_drewN | apply below_drew1 | refine below_set ?_ GE101.out) | exact HB.out)⟩
      · rw [if_neg c7] at H
        exact absurd H (by simp)
    · rw [if_neg c6] at H
      exact absurd H (by simp)
end Go.Proofs.Ytocndpddghefhaa.X
end
section
namespace Go.Proofs.Ytocndpddghefhaa.X
open Go.RowKit Go.Proofs.YtocndpddghefhaaW.PrintWords Go.Proofs.YtocndpddghefhaaW.PrintLast Go.Proofs.YtocndpddghefhaaW.PrintMore
attribute [local go_sem] max2_int min2_int max_two min_two max_three min_three max_four min_four
set_option linter.unusedVariables false
set_option linter.unusedSimpArgs false
def volStep (t : S49) (s : Int) : Int × Bool := (wrap64 (s + t.f1), true)
set_option maxHeartbeats 1600000 in
theorem tape_over_Volume {σ : Type} (Inv : σ → World → Prop) (go : S49 → σ → σ × Bool) (A : Option Addr) (c : Nat) (l : List S49) (g1 : Nat) (w0 w : World)
    (hr : Kd.C k49 w0 A l.length l) (hb0 : Below w0.heap.size w0 w) (s0 : σ) (hI : Inv s0 w) (Ok : Nat → σ → Prop) (hOk : Ok 0 s0) (hOks : ∀ i t s, i < l.length → Ok i s → (go t s).2 = true → Ok (i + 1) (go t s).1)
    (hmono : ∀ s W W', Inv s W → Below W.heap.size W W' → Inv s W')
    (hstep : ∀ (t : S49) (s : σ) (i : Nat) (W : World), i < l.length → Ok i s → Below w0.heap.size w0 W → Inv s W → Calls Try.prog 58 #[.agg #[.int .i64 t.f0, .int .i64 t.f1, .int .i64 t.f2], .pointer (some ⟨g1, 0, none⟩)] W fun e W' => e = .returned (.bool (go t s).2) ∧ Inv (go t s).1 W' ∧ Below w0.heap.size w0 W' ∧ KT 76 W W') :
    Calls Try.prog 37 #[.agg #[.func (.func 58) #[] #[.pointer (some ⟨g1, 0, none⟩)]], .slice A l.length c] w fun e W' => (∃ b : Bool, e = .returned (.bool b)) ∧ Inv (goAll go l s0) W' ∧ Below w0.heap.size w0 W' := by
  have HR := Aside0.mk hr
  have HM := Aside0.mk hmono
  have HS := Aside0.mk hstep
  have HI := Aside0.mk hI
  have HO := Aside0.mk hOk
  have HOS := Aside0.mk hOks
  have HB := Aside0.mk hb0
  have hlen := (show l.length ≤ 9223372036854775807 from Kd.C_max hr)
  have hbs := hb0.size
  clear hr hmono hstep hI hb0 hOk hOks
  go_enter Try.func37, Try.ntmps37
  go_wp2_with fail
  go_loopg [9] l.length (fun kq v9 wr => ∃ (i : Nat) (s : σ), v9 = .int .i64 (i : Int) ∧ Aside0 (kq + i = l.length) ∧ Aside0 (Inv s wr) ∧ Aside0 (Ok i s) ∧ Aside0 (goAll go (l.drop i) s = goAll go l s0) ∧ Aside0 (Below w0.heap.size w0 wr) ∧ Aside0 (w.heap.size < wr.heap.size) ∧ Aside0 (wr.heap[w.heap.size]? = some (.cells #[.func (.func 58) #[] #[.pointer (some ⟨g1, 0, none⟩)]] 76 (0, 0))))
  case atStart => exact ⟨0, s0, rfl, ⟨by omega⟩, ⟨HM.out _ _ _ HI.out (below_alloc (Below.refl _ _) _)⟩, HO, ⟨rfl⟩, ⟨HB.out.alloc hbs _⟩, ⟨by simp⟩, ⟨blk_new w _⟩⟩
  case round =>
    obtain ⟨i, s, rfl, Hk, HI2, HO2, HG, HB2, HL, HF⟩ := hrel
    have hf := blk_one HF.out
    have hfl := HL.out
    by_cases hlt : i < l.length
    · obtain ⟨ad, ea, hx0, hx1, hx2⟩ := at_T49 HR.out (i : Int) (by omega) (by omega)
      cases ea
      replace hx0 := (HB2.out.cell (World.block_lt_of_cell? w0 _ hx0)).trans hx0
      replace hx1 := (HB2.out.cell (World.block_lt_of_cell? w0 _ hx1)).trans hx1
      replace hx2 := (HB2.out.cell (World.block_lt_of_cell? w0 _ hx2)).trans hx2
      have hti : rd_T49 l (i : Int) = l[i] := by simp [rd_T49, hlt]
      have hdrop : l.drop i = l[i] :: l.drop (i + 1) := (List.getElem_cons_drop hlt).symm
      rw [hti, Int.toNat_natCast] at hx0 hx1 hx2
      obtain ⟨t, ht⟩ : ∃ t, l[i] = t := ⟨_, rfl⟩
      rw [ht] at hx0 hx1 hx2 hdrop
      have HG2 := HG.out
      rw [hdrop, goAll_step] at HG2
      have HD := Aside0.mk HG2
      have HLT := Aside0.mk hlt
      clear hti ht hdrop HG2 HG
      cases hgo : (go t s).2 with
      | true =>
        have HGO := Aside0.mk hgo
        clear hgo
        go_wp2_with (go_at_call 58; refine (HS.out t s i _ HLT.out HO2.out (HB2.out.alloc (Nat.le_trans hbs (Nat.le_of_lt HL.out)) _) (HM.out _ _ _ HI2.out (below_alloc (Below.refl _ _) _))).mono ?_; rw [HGO.out]; rintro e W' ⟨rfl, hI3, hB3, hK3⟩; have HI3 := Aside0.mk hI3; have HB3 := Aside0.mk hB3; have HF3 := Aside0.mk (hK3 _ _ (blk_alloc HF.out _)); have HL3 := blk_lt HF3.out; clear hI3 hB3 hK3)
        go_roundg (gk - 1)
        case measure => have := Hk.out; omega
        case rel =>
          have hd := HD.out
          rw [HGO.out, if_pos rfl] at hd
          exact ⟨i + 1, _, by go_num, ⟨by have := Hk.out; omega⟩, HI3, ⟨HOS.out _ _ _ HLT.out HO2.out HGO.out⟩, ⟨hd⟩, HB3, ⟨HL3⟩, HF3⟩
      | false =>
        have HGO := Aside0.mk hgo
        clear hgo
        go_wp2_with (go_at_call 58; refine (HS.out t s i _ HLT.out HO2.out (HB2.out.alloc (Nat.le_trans hbs (Nat.le_of_lt HL.out)) _) (HM.out _ _ _ HI2.out (below_alloc (Below.refl _ _) _))).mono ?_; rw [HGO.out]; rintro e W' ⟨rfl, hI3, hB3, hK3⟩; have HI3 := Aside0.mk hI3; have HB3 := Aside0.mk hB3; clear hI3 hB3 hK3)
        go_ret
        have hd := HD.out
        rw [HGO.out, if_neg (by simp)] at hd
        rw [← hd]
        exact ⟨⟨_, rfl⟩, HI3.out, HB3.out⟩
    · go_wp2_with fail
      go_ret
      have hd := HG.out
      rw [List.drop_of_length_le (by omega)] at hd
      rw [← hd]
      exact ⟨⟨_, rfl⟩, HI2.out, HB2.out⟩
set_option maxHeartbeats 1600000 in
theorem tape_Volume_lit (t : S49) (n : Int) (g1 : Nat) (w0 w : World) (h1 : w.heap[g1]? = some (.cells #[.int .i64 n] 3 (0, 0))) (hb : Below w0.heap.size w0 w) (hg1 : w0.heap.size ≤ g1) :
    Calls Try.prog 58 #[.agg #[.int .i64 t.f0, .int .i64 t.f1, .int .i64 t.f2], .pointer (some ⟨g1, 0, none⟩)] w fun e w' => e = .returned (.bool (volStep t n).2) ∧ w'.heap[g1]? = some (.cells #[.int .i64 (volStep t n).1] 3 (0, 0)) ∧ Below w0.heap.size w0 w' ∧ KT 76 w w' := by
  have hc1 := blk_one h1
  have hf1 := blk_frozen h1 0
  have hl1 := blk_lt h1
  have H1 := Aside0.mk h1
  have HB := Aside0.mk hb
  clear h1 hb
  go_enter Try.func58, Try.ntmps58
  go_wp2
  go_ret
  exact ⟨rfl, blk_alloc (blk_put1 H1.out _) _, (HB.out.setCell hg1 _).alloc (by simp [World.setCell]; exact HB.out.size) _, ((KT.refl _ _).setCell H1.out (by decide) _).alloc _⟩
def tape_Volume.f (l : List S49) : Option (Int × Int) := (tape_Check.f l).bind fun e => if e = 0 then some (goAll volStep l 0, 0) else some (0, e)
set_option maxHeartbeats 1600000 in
theorem tape_Volume.calls (A0 : Option Addr) (c0 : Nat) (l0 : List S49) (r1 r2 : Int) (w : World) (hr0 : Kd.C k49 w A0 l0.length l0) (hc0 : l0.length ≤ c0) (h : tape_Volume.f l0 = some (r1, r2)) :
    Calls Try.prog 27 #[.slice A0 l0.length c0] w fun e w' => e = .returned (.tuple #[.int .i64 r1, .int .i64 r2]) ∧ Below w.heap.size w w' := by
  have HR := Aside0.mk hr0
  obtain ⟨e, he, h2⟩ := Option.bind_eq_some_iff.1 h
  have HE := Aside0.mk he
  have hbA : ∀ w1, Below (w.heap.size + 1) (w.alloc (.cells #[.int .i64 0] 3)) w1 → Below w.heap.size w w1 := fun w1 h1 => ((Below.refl _ _).alloc (Nat.le_refl _) _).trans (h1.mono (by omega))
  clear h hr0 he
  by_cases h0 : e = 0
  · rw [if_pos h0] at h2
    subst h0
    obtain ⟨rfl, rfl⟩ := Prod.mk.inj (Option.some.inj h2)
    clear h2
    go_enter Try.func27, Try.ntmps27
    go_wp2_with (go_at_call 47; refine (tape_Check.calls _ _ l0 0 _ (Kd.C_alloc HR.out _) hc0 HE.out).mono ?_; rintro e w1 ⟨rfl, hb1⟩; have HB1 := Aside0.mk hb1; clear hb1)
    have HB2 := Aside0.mk (hbA _ (by simpa using HB1.out))
    have HC := Aside0.mk (blk_below (blk_new w (.cells #[.int .i64 0] 3)) HB1.out)
    refine (tape_over_Volume (fun (s : Int) W => W.heap[w.heap.size]? = some (.cells #[.int .i64 s] 3 (0, 0))) volStep A0 c0 l0 w.heap.size w _ HR.out HB2.out 0 HC.out (fun _ _ => True) trivial (fun _ _ _ _ _ _ => trivial) (fun s W W' h hb => blk_below h hb) (fun t s _ W _ _ hb h1 => tape_Volume_lit t s _ w W h1 hb (Nat.le_refl _))).mono ?_
    rintro e w2 ⟨⟨b, rfl⟩, hI, hB⟩
    have HB3 := Aside0.mk hB
    have hcell := blk_one hI
    have hfr := blk_frozen hI 0
    clear hI hB
    go_wp2
    refine bodyPost_ret (v := .tuple #[.int .i64 (goAll volStep l0 0), .int .i64 0]) (by simp [results, Try.results27, go_sem, hcell]) rfl ⟨rfl, ?_⟩
    exact HB3.out.setCell (Nat.le_refl _) _
  · rw [if_neg h0] at h2
    obtain ⟨rfl, rfl⟩ := Prod.mk.inj (Option.some.inj h2)
    clear h2
    have hb0 : (e != 0) = true := bne_iff_ne.2 h0
    clear h0
    go_enter Try.func27, Try.ntmps27
    go_wp2_with (go_at_call 47; refine (tape_Check.calls _ _ l0 e _ (Kd.C_alloc HR.out _) hc0 HE.out).mono ?_; rintro e w1 ⟨rfl, hb1⟩; have HB1 := Aside0.mk hb1; have hC := blk_below (blk_new w (.cells #[.int .i64 0] 3)) hb1; have hcell := blk_one hC; have hfr := blk_frozen hC 0; clear hb1 hC)
    refine bodyPost_ret (v := .tuple #[.int .i64 0, .int .i64 e]) (by simp [results, Try.results27, go_sem, hcell]) rfl ⟨rfl, ?_⟩
    exact (hbA _ (by simpa using HB1.out)).setCell (Nat.le_refl _) _
end Go.Proofs.Ytocndpddghefhaa.X
end
section
namespace Go.Proofs.Ytocndpddghefhaa.X
open Go.RowKit Go.Proofs.YtocndpddghefhaaW.PrintWords Go.Proofs.YtocndpddghefhaaW.PrintLast Go.Proofs.YtocndpddghefhaaW.PrintMore
attribute [local go_sem] max2_int min2_int max_two min_two max_three min_three max_four min_four
set_option linter.unusedVariables false
set_option linter.unusedSimpArgs false
def vwapStep (t : S49) (s : Int) : Int × Bool := (wrap64 (s + wrap64 (t.f2 * t.f1)), true)
set_option maxHeartbeats 1600000 in
theorem tape_over_Vwap {σ : Type} (Inv : σ → World → Prop) (go : S49 → σ → σ × Bool) (A : Option Addr) (c : Nat) (l : List S49) (g1 : Nat) (w0 w : World)
    (hr : Kd.C k49 w0 A l.length l) (hb0 : Below w0.heap.size w0 w) (s0 : σ) (hI : Inv s0 w) (Ok : Nat → σ → Prop) (hOk : Ok 0 s0) (hOks : ∀ i t s, i < l.length → Ok i s → (go t s).2 = true → Ok (i + 1) (go t s).1)
    (hmono : ∀ s W W', Inv s W → Below W.heap.size W W' → Inv s W')
    (hstep : ∀ (t : S49) (s : σ) (i : Nat) (W : World), i < l.length → Ok i s → Below w0.heap.size w0 W → Inv s W → Calls Try.prog 36 #[.agg #[.int .i64 t.f0, .int .i64 t.f1, .int .i64 t.f2], .pointer (some ⟨g1, 0, none⟩)] W fun e W' => e = .returned (.bool (go t s).2) ∧ Inv (go t s).1 W' ∧ Below w0.heap.size w0 W' ∧ KT 76 W W') :
    Calls Try.prog 37 #[.agg #[.func (.func 36) #[] #[.pointer (some ⟨g1, 0, none⟩)]], .slice A l.length c] w fun e W' => (∃ b : Bool, e = .returned (.bool b)) ∧ Inv (goAll go l s0) W' ∧ Below w0.heap.size w0 W' := by
  have HR := Aside0.mk hr
  have HM := Aside0.mk hmono
  have HS := Aside0.mk hstep
  have HI := Aside0.mk hI
  have HO := Aside0.mk hOk
  have HOS := Aside0.mk hOks
  have HB := Aside0.mk hb0
  have hlen := (show l.length ≤ 9223372036854775807 from Kd.C_max hr)
  have hbs := hb0.size
  clear hr hmono hstep hI hb0 hOk hOks
  go_enter Try.func37, Try.ntmps37
  go_wp2_with fail
  go_loopg [9] l.length (fun kq v9 wr => ∃ (i : Nat) (s : σ), v9 = .int .i64 (i : Int) ∧ Aside0 (kq + i = l.length) ∧ Aside0 (Inv s wr) ∧ Aside0 (Ok i s) ∧ Aside0 (goAll go (l.drop i) s = goAll go l s0) ∧ Aside0 (Below w0.heap.size w0 wr) ∧ Aside0 (w.heap.size < wr.heap.size) ∧ Aside0 (wr.heap[w.heap.size]? = some (.cells #[.func (.func 36) #[] #[.pointer (some ⟨g1, 0, none⟩)]] 76 (0, 0))))
  case atStart => exact ⟨0, s0, rfl, ⟨by omega⟩, ⟨HM.out _ _ _ HI.out (below_alloc (Below.refl _ _) _)⟩, HO, ⟨rfl⟩, ⟨HB.out.alloc hbs _⟩, ⟨by simp⟩, ⟨blk_new w _⟩⟩
  case round =>
    obtain ⟨i, s, rfl, Hk, HI2, HO2, HG, HB2, HL, HF⟩ := hrel
    have hf := blk_one HF.out
    have hfl := HL.out
    by_cases hlt : i < l.length
    · obtain ⟨ad, ea, hx0, hx1, hx2⟩ := at_T49 HR.out (i : Int) (by omega) (by omega)
      cases ea
      replace hx0 := (HB2.out.cell (World.block_lt_of_cell? w0 _ hx0)).trans hx0
      replace hx1 := (HB2.out.cell (World.block_lt_of_cell? w0 _ hx1)).trans hx1
      replace hx2 := (HB2.out.cell (World.block_lt_of_cell? w0 _ hx2)).trans hx2
      have hti : rd_T49 l (i : Int) = l[i] := by simp [rd_T49, hlt]
      have hdrop : l.drop i = l[i] :: l.drop (i + 1) := (List.getElem_cons_drop hlt).symm
      rw [hti, Int.toNat_natCast] at hx0 hx1 hx2
      obtain ⟨t, ht⟩ : ∃ t, l[i] = t := ⟨_, rfl⟩
      rw [ht] at hx0 hx1 hx2 hdrop
      have HG2 := HG.out
      rw [hdrop, goAll_step] at HG2
      have HD := Aside0.mk HG2
      have HLT := Aside0.mk hlt
      clear hti ht hdrop HG2 HG
      cases hgo : (go t s).2 with
      | true =>
        have HGO := Aside0.mk hgo
        clear hgo
        go_wp2_with (go_at_call 36; refine (HS.out t s i _ HLT.out HO2.out (HB2.out.alloc (Nat.le_trans hbs (Nat.le_of_lt HL.out)) _) (HM.out _ _ _ HI2.out (below_alloc (Below.refl _ _) _))).mono ?_; rw [HGO.out]; rintro e W' ⟨rfl, hI3, hB3, hK3⟩; have HI3 := Aside0.mk hI3; have HB3 := Aside0.mk hB3; have HF3 := Aside0.mk (hK3 _ _ (blk_alloc HF.out _)); have HL3 := blk_lt HF3.out; clear hI3 hB3 hK3)
        go_roundg (gk - 1)
        case measure => have := Hk.out; omega
        case rel =>
          have hd := HD.out
          rw [HGO.out, if_pos rfl] at hd
          exact ⟨i + 1, _, by go_num, ⟨by have := Hk.out; omega⟩, HI3, ⟨HOS.out _ _ _ HLT.out HO2.out HGO.out⟩, ⟨hd⟩, HB3, ⟨HL3⟩, HF3⟩
      | false =>
        have HGO := Aside0.mk hgo
        clear hgo
        go_wp2_with (go_at_call 36; refine (HS.out t s i _ HLT.out HO2.out (HB2.out.alloc (Nat.le_trans hbs (Nat.le_of_lt HL.out)) _) (HM.out _ _ _ HI2.out (below_alloc (Below.refl _ _) _))).mono ?_; rw [HGO.out]; rintro e W' ⟨rfl, hI3, hB3, hK3⟩; have HI3 := Aside0.mk hI3; have HB3 := Aside0.mk hB3; clear hI3 hB3 hK3)
        go_ret
        have hd := HD.out
        rw [HGO.out, if_neg (by simp)] at hd
        rw [← hd]
        exact ⟨⟨_, rfl⟩, HI3.out, HB3.out⟩
    · go_wp2_with fail
      go_ret
      have hd := HG.out
      rw [List.drop_of_length_le (by omega)] at hd
      rw [← hd]
      exact ⟨⟨_, rfl⟩, HI2.out, HB2.out⟩
set_option maxHeartbeats 1600000 in
theorem tape_Vwap_lit (t : S49) (n : Int) (g1 : Nat) (w0 w : World) (h1 : w.heap[g1]? = some (.cells #[.int .i64 n] 3 (0, 0))) (hb : Below w0.heap.size w0 w) (hg1 : w0.heap.size ≤ g1) :
    Calls Try.prog 36 #[.agg #[.int .i64 t.f0, .int .i64 t.f1, .int .i64 t.f2], .pointer (some ⟨g1, 0, none⟩)] w fun e w' => e = .returned (.bool (vwapStep t n).2) ∧ w'.heap[g1]? = some (.cells #[.int .i64 (vwapStep t n).1] 3 (0, 0)) ∧ Below w0.heap.size w0 w' ∧ KT 76 w w' := by
  have hc1 := blk_one h1
  have hf1 := blk_frozen h1 0
  have hl1 := blk_lt h1
  have H1 := Aside0.mk h1
  have HB := Aside0.mk hb
  clear h1 hb
  go_enter Try.func36, Try.ntmps36
  go_wp2
  go_ret
  exact ⟨rfl, blk_alloc (blk_put1 H1.out _) _, (HB.out.setCell hg1 _).alloc (by simp [World.setCell]; exact HB.out.size) _, ((KT.refl _ _).setCell H1.out (by decide) _).alloc _⟩
def tape_Vwap.f (k : Nat) (l : List S49) (step mode : Int) : Option (Int × Int) := (tape_Volume.f l).bind fun v => if v.2 ≠ 0 then some (0, v.2) else if step < 1 then some (0, 16) else if 16777216 < step then some (0, 16) else if mode < 1 then some (0, 2) else if 5 < mode then some (0, 2) else if v.1 = 0 then some (0, 11) else
  (cents_MulDiv.f k (goAll vwapStep l 0) 1 (wrap64 (v.1 * step)) mode).bind fun n => if n.2 ≠ 0 then some (0, n.2) else some (wrap64 (n.1 * step), 0)
theorem tape_Vwap.mono : ∀ l step mode k, LeO (tape_Vwap.f k l step mode) (tape_Vwap.f (k + 1) l step mode) := by
  intro l step mode k
  unfold tape_Vwap.f
  refine LeO.bind (LeO.refl _) (fun v => ?_)
  repeat' (first | with_reducible exact LeO.refl _ | refine LeO.ite ?_ ?_)
  all_goals exact LeO.bind (cents_MulDiv.mono _ _ _ _ _) (fun _ => LeO.refl _)
set_option maxHeartbeats 1600000 in
set_option maxRecDepth 100000 in
theorem tape_Vwap.calls (k : Nat) (A0 : Option Addr) (c0 : Nat) (l0 : List S49) (a1 a2 : Int) (r1 r2 : Int) (w : World) (hr0 : Kd.C k49 w A0 l0.length l0) (hc0 : l0.length ≤ c0) (hh : tape_Vwap.f k l0 a1 a2 = some (r1, r2)) :
    Calls Try.prog 12 #[.slice A0 l0.length c0, .int .i64 a1, .int .i64 a2] w fun e w' => e = .returned (.tuple #[.int .i64 r1, .int .i64 r2]) ∧ Below w.heap.size w w' := by
  have HR := Aside0.mk hr0
  unfold tape_Vwap.f at hh
  obtain ⟨⟨n, e⟩, hv, h⟩ := Option.bind_eq_some_iff.1 hh
  have HV := Aside0.mk hv
  dsimp only at h
  clear hh hr0 hv
  by_cases h0 : e ≠ 0
  · rw [if_pos h0] at h
    obtain ⟨rfl, rfl⟩ : 0 = r1 ∧ e = r2 := by simpa using h
    have hb0 : (e != 0) = true := bne_iff_ne.2 h0
    clear h0 h
    go_enter Try.func12, Try.ntmps12
    go_wp2_with (go_at_call 27; (with_reducible refine (tape_Volume.calls _ _ l0 _ _ _ HR.out hc0 HV.out).mono ?_); rintro e1 w1 ⟨rfl, hb1⟩; have HB1 := Aside0.mk hb1; clear hb1)
    go_ret2
    exact ⟨by first | rfl | (simp; done) | (simp [*]; done), by exact HB1.out⟩
  rw [if_neg h0] at h
  obtain rfl : e = 0 := Decidable.not_not.1 h0
  clear h0
  by_cases d1 : a1 < 1
  · skip
    rw [if_pos d1] at h
    obtain ⟨rfl, rfl⟩ : 0 = r1 ∧ 16 = r2 := by simpa using h
    clear h
    replace d1 := decide_eq_true d1
    go_enter Try.func12, Try.ntmps12
    go_wp2_with (go_at_call 27; (with_reducible refine (tape_Volume.calls _ _ l0 _ _ _ HR.out hc0 HV.out).mono ?_); rintro e1 w1 ⟨rfl, hb1⟩; have HB1 := Aside0.mk hb1; clear hb1)
    go_ret2
    exact ⟨by first | rfl | (simp; done) | (simp [*]; done), by exact HB1.out⟩
  rw [if_neg d1] at h
  replace d1 := decide_eq_false d1
  by_cases d2 : 16777216 < a1
  · skip
    rw [if_pos d2] at h
    obtain ⟨rfl, rfl⟩ : 0 = r1 ∧ 16 = r2 := by simpa using h
    clear h
    replace d2 := decide_eq_true d2
    go_enter Try.func12, Try.ntmps12
    go_wp2_with (go_at_call 27; (with_reducible refine (tape_Volume.calls _ _ l0 _ _ _ HR.out hc0 HV.out).mono ?_); rintro e1 w1 ⟨rfl, hb1⟩; have HB1 := Aside0.mk hb1; clear hb1)
    go_ret2
    exact ⟨by first | rfl | (simp; done) | (simp [*]; done), by exact HB1.out⟩
  rw [if_neg d2] at h
  replace d2 := decide_eq_false d2
  by_cases d3 : a2 < 1
  · skip
    rw [if_pos d3] at h
    obtain ⟨rfl, rfl⟩ : 0 = r1 ∧ 2 = r2 := by simpa using h
    clear h
    replace d3 := decide_eq_true d3
    go_enter Try.func12, Try.ntmps12
    go_wp2_with (go_at_call 27; (with_reducible refine (tape_Volume.calls _ _ l0 _ _ _ HR.out hc0 HV.out).mono ?_); rintro e1 w1 ⟨rfl, hb1⟩; have HB1 := Aside0.mk hb1; clear hb1)
    go_ret2
    exact ⟨by first | rfl | (simp; done) | (simp [*]; done), by exact HB1.out⟩
  rw [if_neg d3] at h
  replace d3 := decide_eq_false d3
  by_cases d4 : 5 < a2
  · skip
    rw [if_pos d4] at h
    obtain ⟨rfl, rfl⟩ : 0 = r1 ∧ 2 = r2 := by simpa using h
    clear h
    replace d4 := decide_eq_true d4
    go_enter Try.func12, Try.ntmps12
    go_wp2_with (go_at_call 27; (with_reducible refine (tape_Volume.calls _ _ l0 _ _ _ HR.out hc0 HV.out).mono ?_); rintro e1 w1 ⟨rfl, hb1⟩; have HB1 := Aside0.mk hb1; clear hb1)
    go_ret2
    exact ⟨by first | rfl | (simp; done) | (simp [*]; done), by exact HB1.out⟩
  rw [if_neg d4] at h
  replace d4 := decide_eq_false d4
  by_cases d5 : n = 0
  · skip
    rw [if_pos d5] at h
    obtain ⟨rfl, rfl⟩ : 0 = r1 ∧ 11 = r2 := by simpa using h
    clear h
    replace d5 : (n == 0) = true := beq_iff_eq.2 d5
    go_enter Try.func12, Try.ntmps12
    go_wp2_with (go_at_call 27; (with_reducible refine (tape_Volume.calls _ _ l0 _ _ _ HR.out hc0 HV.out).mono ?_); rintro e1 w1 ⟨rfl, hb1⟩; have HB1 := Aside0.mk hb1; clear hb1)
    go_ret2
    exact ⟨by first | rfl | (simp; done) | (simp [*]; done), by exact HB1.out⟩
  rw [if_neg d5] at h
  replace d5 : (n == 0) = false := beq_eq_false_iff_ne.2 d5
  obtain ⟨⟨p, g⟩, hm, h1⟩ := Option.bind_eq_some_iff.1 h
  have HM := Aside0.mk hm
  dsimp only at h1
  clear h hm
  have fin : ∀ v : Value, True := fun _ => trivial
  go_enter Try.func12, Try.ntmps12
  go_wp2_with (go_at_call 27; (with_reducible refine (tape_Volume.calls _ _ l0 _ _ _ HR.out hc0 HV.out).mono ?_); rintro e1 w1 ⟨rfl, hb1⟩; have HB1 := Aside0.mk hb1; clear hb1)
  have hs1 := HB1.out.size
  refine (tape_over_Vwap (fun (s : Int) W => W.heap[w1.heap.size]? = some (.cells #[.int .i64 s] 3 (0, 0))) vwapStep A0 c0 l0 w1.heap.size w _ HR.out (HB1.out.alloc hs1 _) 0 (blk_new w1 _) (fun _ _ => True) trivial (fun _ _ _ _ _ _ => trivial) (fun s W W' h hb => blk_below h hb) (fun t s _ W _ _ hb h1 => tape_Vwap_lit t s _ w W h1 hb hs1)).mono ?_
  rintro e w2 ⟨⟨b, rfl⟩, hI, hB⟩
  have HB3 := Aside0.mk hB
  have hcell := blk_one hI
  clear hI hB
  by_cases g0 : g ≠ 0
  · rw [if_pos g0] at h1
    obtain ⟨rfl, rfl⟩ : 0 = r1 ∧ g = r2 := by simpa using h1
    have gb0 : (g != 0) = true := bne_iff_ne.2 g0
    clear g0 h1
    go_wp2_with (go_at_call 38; (with_reducible refine (cents_MulDiv.calls k _ _ _ _ _ _ _ HM.out).mono ?_); rintro e1 w3 ⟨rfl, hb3⟩; have HB4 := Aside0.mk hb3; clear hb3)
    go_ret2
    exact ⟨by first | rfl | (simp; done) | (simp [*]; done), HB3.out.trans (HB4.out.mono HB3.out.size)⟩
  · rw [if_neg g0] at h1
    obtain rfl : g = 0 := Decidable.not_not.1 g0
    obtain ⟨rfl, rfl⟩ : wrap64 (p * a1) = r1 ∧ 0 = r2 := by simpa using h1
    clear g0 h1
    go_wp2_with (go_at_call 38; (with_reducible refine (cents_MulDiv.calls k _ _ _ _ _ _ _ HM.out).mono ?_); rintro e1 w3 ⟨rfl, hb3⟩; have HB4 := Aside0.mk hb3; clear hb3)
    go_ret2
    exact ⟨by first | rfl | (simp; done) | (simp [*]; done), HB3.out.trans (HB4.out.mono HB3.out.size)⟩
end Go.Proofs.Ytocndpddghefhaa.X
end
section
namespace Go.Proofs.Ytocndpddghefhaa.X
open Go.RowKit Go.Proofs.YtocndpddghefhaaW.PrintWords Go.Proofs.YtocndpddghefhaaW.PrintLast Go.Proofs.YtocndpddghefhaaW.PrintMore
attribute [local go_sem] max2_int min2_int max_two min_two max_three min_three max_four min_four
set_option linter.unusedVariables false
set_option linter.unusedSimpArgs false
def winStep (from_ to_ : Int) (t : S49) (s : List S49) : List S49 × Bool := (if from_ ≤ t.f0 ∧ t.f0 ≤ to_ then s ++ [t] else s, true)
def tape_Window.f (l : List S49) (a b : Int) : Option (List S49) := if l.length < 5864062014805 then some (goAll (winStep a b) l []) else none
set_option maxHeartbeats 1600000 in
theorem tape_over_Window {σ : Type} (Inv : σ → World → Prop) (go : S49 → σ → σ × Bool) (A : Option Addr) (c : Nat) (l : List S49) (g1 g2 g3 : Nat) (w0 w : World)
    (hr : Kd.C k49 w0 A l.length l) (hb0 : Below w0.heap.size w0 w) (s0 : σ) (hI : Inv s0 w) (Ok : Nat → σ → Prop) (hOk : Ok 0 s0) (hOks : ∀ i t s, i < l.length → Ok i s → (go t s).2 = true → Ok (i + 1) (go t s).1)
    (hmono : ∀ s W W', Inv s W → Below W.heap.size W W' → Inv s W')
    (hstep : ∀ (t : S49) (s : σ) (i : Nat) (W : World), i < l.length → Ok i s → Below w0.heap.size w0 W → Inv s W → Calls Try.prog 59 #[.agg #[.int .i64 t.f0, .int .i64 t.f1, .int .i64 t.f2], .pointer (some ⟨g1, 0, none⟩), .pointer (some ⟨g2, 0, none⟩), .pointer (some ⟨g3, 0, none⟩)] W fun e W' => e = .returned (.bool (go t s).2) ∧ Inv (go t s).1 W' ∧ Below w0.heap.size w0 W' ∧ KT 76 W W') :
    Calls Try.prog 37 #[.agg #[.func (.func 59) #[] #[.pointer (some ⟨g1, 0, none⟩), .pointer (some ⟨g2, 0, none⟩), .pointer (some ⟨g3, 0, none⟩)]], .slice A l.length c] w fun e W' => (∃ b : Bool, e = .returned (.bool b)) ∧ Inv (goAll go l s0) W' ∧ Below w0.heap.size w0 W' := by
  have HR := Aside0.mk hr
  have HM := Aside0.mk hmono
  have HS := Aside0.mk hstep
  have HI := Aside0.mk hI
  have HO := Aside0.mk hOk
  have HOS := Aside0.mk hOks
  have HB := Aside0.mk hb0
  have hlen := (show l.length ≤ 9223372036854775807 from Kd.C_max hr)
  have hbs := hb0.size
  clear hr hmono hstep hI hb0 hOk hOks
  go_enter Try.func37, Try.ntmps37
  go_wp2_with fail
  go_loopg [9] l.length (fun kq v9 wr => ∃ (i : Nat) (s : σ), v9 = .int .i64 (i : Int) ∧ Aside0 (kq + i = l.length) ∧ Aside0 (Inv s wr) ∧ Aside0 (Ok i s) ∧ Aside0 (goAll go (l.drop i) s = goAll go l s0) ∧ Aside0 (Below w0.heap.size w0 wr) ∧ Aside0 (w.heap.size < wr.heap.size) ∧ Aside0 (wr.heap[w.heap.size]? = some (.cells #[.func (.func 59) #[] #[.pointer (some ⟨g1, 0, none⟩), .pointer (some ⟨g2, 0, none⟩), .pointer (some ⟨g3, 0, none⟩)]] 76 (0, 0))))
  case atStart => exact ⟨0, s0, rfl, ⟨by omega⟩, ⟨HM.out _ _ _ HI.out (below_alloc (Below.refl _ _) _)⟩, HO, ⟨rfl⟩, ⟨HB.out.alloc hbs _⟩, ⟨by simp⟩, ⟨blk_new w _⟩⟩
  case round =>
    obtain ⟨i, s, rfl, Hk, HI2, HO2, HG, HB2, HL, HF⟩ := hrel
    have hf := blk_one HF.out
    have hfl := HL.out
    by_cases hlt : i < l.length
    · obtain ⟨ad, ea, hx0, hx1, hx2⟩ := at_T49 HR.out (i : Int) (by omega) (by omega)
      cases ea
      replace hx0 := (HB2.out.cell (World.block_lt_of_cell? w0 _ hx0)).trans hx0
      replace hx1 := (HB2.out.cell (World.block_lt_of_cell? w0 _ hx1)).trans hx1
      replace hx2 := (HB2.out.cell (World.block_lt_of_cell? w0 _ hx2)).trans hx2
      have hti : rd_T49 l (i : Int) = l[i] := by simp [rd_T49, hlt]
      have hdrop : l.drop i = l[i] :: l.drop (i + 1) := (List.getElem_cons_drop hlt).symm
      rw [hti, Int.toNat_natCast] at hx0 hx1 hx2
      obtain ⟨t, ht⟩ : ∃ t, l[i] = t := ⟨_, rfl⟩
      rw [ht] at hx0 hx1 hx2 hdrop
      have HG2 := HG.out
      rw [hdrop, goAll_step] at HG2
      have HD := Aside0.mk HG2
      have HLT := Aside0.mk hlt
      clear hti ht hdrop HG2 HG
      cases hgo : (go t s).2 with
      | true =>
        have HGO := Aside0.mk hgo
        clear hgo
        go_wp2_with (go_at_call 59; refine (HS.out t s i _ HLT.out HO2.out (HB2.out.alloc (Nat.le_trans hbs (Nat.le_of_lt HL.out)) _) (HM.out _ _ _ HI2.out (below_alloc (Below.refl _ _) _))).mono ?_; rw [HGO.out]; rintro e W' ⟨rfl, hI3, hB3, hK3⟩; have HI3 := Aside0.mk hI3; have HB3 := Aside0.mk hB3; have HF3 := Aside0.mk (hK3 _ _ (blk_alloc HF.out _)); have HL3 := blk_lt HF3.out; clear hI3 hB3 hK3)
        go_roundg (gk - 1)
        case measure => have := Hk.out; omega
        case rel =>
          have hd := HD.out
          rw [HGO.out, if_pos rfl] at hd
          exact ⟨i + 1, _, by go_num, ⟨by have := Hk.out; omega⟩, HI3, ⟨HOS.out _ _ _ HLT.out HO2.out HGO.out⟩, ⟨hd⟩, HB3, ⟨HL3⟩, HF3⟩
      | false =>
        have HGO := Aside0.mk hgo
        clear hgo
        go_wp2_with (go_at_call 59; refine (HS.out t s i _ HLT.out HO2.out (HB2.out.alloc (Nat.le_trans hbs (Nat.le_of_lt HL.out)) _) (HM.out _ _ _ HI2.out (below_alloc (Below.refl _ _) _))).mono ?_; rw [HGO.out]; rintro e W' ⟨rfl, hI3, hB3, hK3⟩; have HI3 := Aside0.mk hI3; have HB3 := Aside0.mk hB3; clear hI3 hB3 hK3)
        go_ret
        have hd := HD.out
        rw [HGO.out, if_neg (by simp)] at hd
        rw [← hd]
        exact ⟨⟨_, rfl⟩, HI3.out, HB3.out⟩
    · go_wp2_with fail
      go_ret
      have hd := HG.out
      rw [List.drop_of_length_le (by omega)] at hd
      rw [← hd]
      exact ⟨⟨_, rfl⟩, HI2.out, HB2.out⟩
set_option maxRecDepth 100000 in
set_option maxHeartbeats 1600000 in
theorem tape_Window_lit (t : S49) (a b : Int) (out : List S49) (v : Value) (g1 g2 g3 : Nat) (w0 w : World) (h1 : w.heap[g1]? = some (.cells #[.int .i64 a] 3 (0, 0))) (h2 : w.heap[g2]? = some (.cells #[.int .i64 b] 3 (0, 0))) (h3 : w.heap[g3]? = some (.cells #[v] 22 (0, 0)))
    (hR : Kd.R k49 49 w w0.heap.size (fun k => k ≠ g3) v out) (hlim : out.length < 5864062014805) (hn1 : g1 ≠ g3) (hn2 : g2 ≠ g3) (hb : Below w0.heap.size w0 w) (hg3 : w0.heap.size ≤ g3) :
    Calls Try.prog 59 #[.agg #[.int .i64 t.f0, .int .i64 t.f1, .int .i64 t.f2], .pointer (some ⟨g1, 0, none⟩), .pointer (some ⟨g2, 0, none⟩), .pointer (some ⟨g3, 0, none⟩)] w fun e w' => e = .returned (.bool true) ∧ ((w'.heap[g1]? = some (.cells #[.int .i64 a] 3 (0, 0)) ∧ w'.heap[g2]? = some (.cells #[.int .i64 b] 3 (0, 0))) ∧ ∃ v', w'.heap[g3]? = some (.cells #[v'] 22 (0, 0)) ∧ Kd.R k49 49 w' w0.heap.size (fun k => k ≠ g3) v' (winStep a b t out).1) ∧ Below w0.heap.size w0 w' ∧ KT 76 w w' := by
  obtain ⟨Aq, cq, eq_⟩ := Kd.R_slice hR
  subst eq_
  have hc1 := blk_one h1
  have hc2 := blk_one h2
  have hc3 := blk_one h3
  have hf3 := blk_frozen h3 0
  have hl1 := blk_lt h1
  have hl2 := blk_lt h2
  have hl3 := blk_lt h3
  have H1 := Aside0.mk h1
  have H2 := Aside0.mk h2
  have H3 := Aside0.mk h3
  have HB := Aside0.mk hb
  have HR := Aside0.mk hR
  have HL := Aside0.mk hlim
  have hbs := hb.size
  clear h1 h2 h3 hb hR hlim
  by_cases c1 : a ≤ t.f0 ∧ t.f0 ≤ b
  · have HS := Aside0.mk (show (winStep a b t out).1 = out ++ [t] from if_pos c1)
    obtain ⟨c2, c3⟩ := c1
    go_enter Try.func59, Try.ntmps59
    go_wp2_with ((with_reducible refine gate_builtin (b := .append) (xs := #[.tmp 16, .tmp 18]) rfl ?_); at_builtin; refine Kd.R_append k49 (w0 := w0) w0.heap.size rfl (.tmp 16) (.tmp 18) 22 49 (.agg #[(.int .i64 0), (.int .i64 0), (.int .i64 0)]) 24 rfl Try.underlying22 info49 rfl (by decide) (by omega) (.slice Aq out.length cq) out t [.int .i64 t.f0, .int .i64 t.f1, .int .i64 t.f2] (fun k => k ≠ g3) (fun _ => False) rfl (by show Value.slice (some ⟨w.heap.size + 1, 0, none⟩) 1 1 = _; simp) ?aP (fun _ hk => hk.elim) ?aF ?aO ?aB ?aS ?aL ?_; (case aP => exact k49_mkM _ _ _ t); (case aB => exact (HB.out.alloc hbs _)); (case aF => exact (fun k hk => by simp at hk; omega)); (case aO => exact Kd.R_alloc HR.out _); (case aS => exact (by simp; omega)); (case aL => exact (by have := HL.out; omega)); intro v1 w5 ho hb hg hat; have HO := Aside0.mk ho; have HB5 := Aside0.mk hb; have K5 := Aside0.mk (((KT.refl 76 w).alloc _).grown hg (fun k hk => Kd.R_typed HR.out k hk |>.imp fun cs hcs => blk_alloc hcs _) (by decide)); have X1 := Aside0.mk (blk_grown (blk_alloc H1.out _) hg (Kd.R_ne (Kd.R_alloc HR.out (.cells #[.int .i64 t.f0, .int .i64 t.f1, .int .i64 t.f2] 49)) (blk_alloc H1.out (.cells #[.int .i64 t.f0, .int .i64 t.f1, .int .i64 t.f2] 49)) (by decide))); have X2 := Aside0.mk (blk_grown (blk_alloc H2.out _) hg (Kd.R_ne (Kd.R_alloc HR.out (.cells #[.int .i64 t.f0, .int .i64 t.f1, .int .i64 t.f2] 49)) (blk_alloc H2.out (.cells #[.int .i64 t.f0, .int .i64 t.f1, .int .i64 t.f2] 49)) (by decide))); have X3 := Aside0.mk (blk_grown (blk_alloc H3.out _) hg (Kd.R_ne (Kd.R_alloc HR.out (.cells #[.int .i64 t.f0, .int .i64 t.f1, .int .i64 t.f2] 49)) (blk_alloc H3.out (.cells #[.int .i64 t.f0, .int .i64 t.f1, .int .i64 t.f2] 49)) (by decide))); have y3 := blk_one X3.out; have y4 := blk_frozen X3.out 0; obtain ⟨Ar, cr, er⟩ := Kd.R_slice ho; clear ho hb hg hat; subst er)
    go_ret
    rw [HS.out]
    exact ⟨rfl, ⟨⟨blk_far X1.out hn1 _, blk_far X2.out hn2 _⟩, _, blk_put1 X3.out _, by simpa using Kd.R_far HO.out (p := ⟨g3, 0, none⟩) (fun k hk => hk) (.slice Ar (out ++ [t]).length cr)⟩, HB5.out.setCell hg3 _, K5.out.setCell X3.out (by decide) _⟩
  · have HS := Aside0.mk (show (winStep a b t out).1 = out from if_neg c1)
    by_cases c2 : a ≤ t.f0
    · have c3 : ¬ t.f0 ≤ b := fun h => c1 ⟨c2, h⟩
      clear c1
      go_enter Try.func59, Try.ntmps59
      go_wp2
      go_ret
      rw [HS.out]
      exact ⟨rfl, ⟨⟨blk_alloc H1.out _, blk_alloc H2.out _⟩, _, blk_alloc H3.out _, Kd.R_alloc HR.out _⟩, HB.out.alloc hbs _, (KT.refl _ _).alloc _⟩
    · clear c1
      go_enter Try.func59, Try.ntmps59
      go_wp2
      go_ret
      rw [HS.out]
      exact ⟨rfl, ⟨⟨blk_alloc H1.out _, blk_alloc H2.out _⟩, _, blk_alloc H3.out _, Kd.R_alloc HR.out _⟩, HB.out.alloc hbs _, (KT.refl _ _).alloc _⟩
set_option maxHeartbeats 1600000 in
theorem tape_Window.calls (A0 : Option Addr) (c0 : Nat) (l0 : List S49) (a1 a2 : Int) (r : List S49) (w : World) (hr0 : Kd.C k49 w A0 l0.length l0) (hc0 : l0.length ≤ c0) (h : tape_Window.f l0 a1 a2 = some r) :
    Calls Try.prog 28 #[.slice A0 l0.length c0, .int .i64 a1, .int .i64 a2] w fun e w' => ∃ v0_ : Value, e = .returned (v0_) ∧ Kd.R k49 49 w' w.heap.size (fun _ => True) v0_ r ∧ Below w.heap.size w w' := by
  have HR := Aside0.mk hr0
  unfold tape_Window.f at h
  by_cases hlen : l0.length < 5864062014805
  · rw [if_pos hlen] at h
    obtain rfl := Option.some.inj h
    have HL := Aside0.mk hlen
    clear h hr0 hlen
    go_enter Try.func28, Try.ntmps28
    go_wp2_with fail
    refine (tape_over_Window (fun (s : List S49) W => (W.heap[w.heap.size]? = some (.cells #[.int .i64 a1] 3 (0, 0)) ∧ W.heap[w.heap.size + 1]? = some (.cells #[.int .i64 a2] 3 (0, 0))) ∧ ∃ v, W.heap[w.heap.size + 2]? = some (.cells #[v] 22 (0, 0)) ∧ Kd.R k49 49 W w.heap.size (fun k => k ≠ w.heap.size + 2) v s) (winStep a1 a2) A0 c0 l0 w.heap.size (w.heap.size + 1) (w.heap.size + 2) w _ HR.out ((((Below.refl _ _).alloc (Nat.le_refl _) _).alloc (by simp) _).alloc (by simp; omega) _) [] ?hi (fun i s => s.length ≤ i) (Nat.le_refl _) ?ho ?hm ?hs).mono ?_
    case hi =>
      refine ⟨⟨blk_alloc (blk_alloc (blk_new w _) _) _, ?_⟩, .slice none 0 0, ?_, Kd.R_nil _ _ _ _ _⟩
      · have := blk_new (w.alloc (.cells #[.int .i64 a1] 3)) (.cells #[.int .i64 a2] 3)
        exact blk_alloc (by simpa using this) _
      · have := blk_new ((w.alloc (.cells #[.int .i64 a1] 3)).alloc (.cells #[.int .i64 a2] 3)) (.cells #[.slice none 0 0] 22)
        simpa using this
    case ho =>
      intro i t s _ hi _
      unfold winStep
      simp only
      split
      · simp; omega
      · omega
    case hm =>
      rintro s W W' ⟨⟨h1, h2⟩, v, h3, h4⟩ hb
      exact ⟨⟨blk_below h1 hb, blk_below h2 hb⟩, v, blk_below h3 hb, Kd.R_below h4 hb⟩
    case hs =>
      rintro t s i W hi hs hb ⟨⟨h1, h2⟩, v, h3, h4⟩
      exact tape_Window_lit t a1 a2 s v _ _ _ w W h1 h2 h3 h4 (by have := HL.out; omega) (by omega) (by omega) hb (by omega)
    rintro e w1 ⟨⟨b, rfl⟩, ⟨_, v, h3, h4⟩, hB1⟩
    obtain ⟨Aq, cq, eq_⟩ := Kd.R_slice h4
    subst eq_
    have hcell := blk_one h3
    have hfr := blk_frozen h3 0
    have H4 := Aside0.mk h4
    have HB1 := Aside0.mk hB1
    clear h3 h4 hB1
    go_wp2
    refine bodyPost_ret (v := .slice Aq (goAll (winStep a1 a2) l0 []).length cq) (by simp [results, Try.results28, go_sem, hcell]) rfl ⟨_, rfl, ?_, ?_⟩
    · exact Kd.R_mono (Kd.R_far H4.out (fun k hk => hk) _) (fun _ _ => trivial)
    · exact HB1.out.setCell (show w.heap.size ≤ w.heap.size + 1 + 1 by omega) _
  · rw [if_neg hlen] at h
    exact absurd h (by simp)
end Go.Proofs.Ytocndpddghefhaa.X
end
section
namespace Go.Proofs.Ytocndpddghefhaa.X
open Go.RowKit Go.Proofs.YtocndpddghefhaaW.PrintWords Go.Proofs.YtocndpddghefhaaW.PrintLast Go.Proofs.YtocndpddghefhaaW.PrintMore
attribute [local go_sem] max2_int min2_int max_two min_two max_three min_three max_four min_four
set_option linter.unusedVariables false
set_option linter.unusedSimpArgs false
def rule1F (k : Nat) (win : List S49) (p3 q3 : Int) : Option (Int × Bool) := (tape_Volume.f win).bind fun v => if v.1 < q3 then some (0, false) else (tape_Vwap.f k win p3 5).bind fun n => some (n.1, n.2 == 0)
def rule2F (k : Nat) (q4 q5 p3 : Int) : Option (Int × Bool) := (mark_Mid.f k q4 q5 p3).bind fun n => some (n.1, q4 != 0 && (q5 != 0 && n.2 == 0))
def rule3F (l : List S49) (q4 q5 : Int) : Option (Int × Bool) := (tape_Last.f l).bind fun t => some (if q5 = 0 then (if q4 = 0 then t.2.2.1 else mx t.2.2.1 q4) else mn (if q4 = 0 then t.2.2.1 else mx t.2.2.1 q4) q5, t.2.2.2)
def rule4F (k : Nat) (p0 : ByteArray) (p1 p2 p3 p4 p5 : Int) (p6 : Bool) (q6 q7 : Int) : Option (Int × Bool) := (cents_Clamp.f k (wrap64 (q6 + q7)) (-16777216) 16777216).bind fun c => (product_Round.f k p0 p1 p2 p3 p4 p5 p6 c 5).bind fun n => some (n.1, n.2 == 0)
set_option maxHeartbeats 1600000 in
set_option maxRecDepth 100000 in
theorem rule1_calls (k : Nat) (p0 : ByteArray) (p1 p2 p3 p4 p5 : Int) (p6 : Bool) (A : Option Addr) (c : Nat) (l : List S49) (q1 q2 q3 q4 q5 q6 q7 : Int) (win : List S49) (Aw : Option Addr) (cw b5 b3 b2 : Nat) (r1 : Int) (r2 : Bool) (w : World) (h5 : w.heap[b5]? = some (.cells #[.slice Aw win.length cw] 22 (0, 0))) (h3 : w.heap[b3]? = some (.cells #[.slice A l.length c, .int .i64 q1, .int .i64 q2, .int .i64 q3, .int .i64 q4, .int .i64 q5, .int .i64 q6, .int .i64 q7] 36 (0, 0))) (h2 : w.heap[b2]? = some (.cells #[.string p0, .int .i64 p1, .int .i64 p2, .int .i64 p3, .int .i64 p4, .int .i64 p5, .bool p6] 34 (0, 0))) (hC : Kd.C k49 w Aw win.length win) (hc : win.length ≤ cw) (h : rule1F k win p3 q3 = some (r1, r2)) :
    Calls Try.prog 78 #[.pointer (some ⟨b5, 0, none⟩), .pointer (some ⟨b3, 0, none⟩), .pointer (some ⟨b2, 0, none⟩)] w fun e w' => e = .returned (.tuple #[.int .i64 r1, .bool r2]) ∧ Below w.heap.size w w' := by
  unfold rule1F at h
  obtain ⟨⟨v1, v2⟩, hv, h1⟩ := Option.bind_eq_some_iff.1 h
  have HV := Aside0.mk hv
  have HC := Aside0.mk hC
  have hx5 := blk_one h5
  have hx3 : w.cell? ⟨b3, 3, none⟩ = some (.int .i64 q3) := blk_cell h3 3
  have hx2 : w.cell? ⟨b2, 3, none⟩ = some (.int .i64 p3) := blk_cell h2 3
  have H5 := Aside0.mk h5
  have H3 := Aside0.mk h3
  have H2 := Aside0.mk h2
  dsimp only at h1
  clear h hv hC h5 h3 h2
  by_cases c0 : v1 < q3
  · rw [if_pos c0] at h1
    obtain ⟨rfl, rfl⟩ : 0 = r1 ∧ false = r2 := by simpa using h1
    replace c0 := decide_eq_true c0
    clear h1
    go_enter Try.func78, Try.ntmps78
    go_wp2_with (go_at_call 27; (with_reducible refine (tape_Volume.calls _ _ win _ _ _ HC.out hc HV.out).mono ?_); rintro e1 w1 ⟨rfl, hb1⟩; have HBZ := Aside0.mk hb1; have hx5' := blk_one (blk_below H5.out hb1); have hx3' : w1.cell? ⟨b3, 3, none⟩ = some (.int .i64 q3) := blk_cell (blk_below H3.out hb1) 3; have hx2' : w1.cell? ⟨b2, 3, none⟩ = some (.int .i64 p3) := blk_cell (blk_below H2.out hb1) 3; have HC' := Aside0.mk (Kd.C_below HC.out hb1); clear hb1)
    go_ret2
    exact ⟨by first | rfl | (simp; done) | (simp [*]; done), HBZ.out⟩
  · rw [if_neg c0] at h1
    obtain ⟨⟨n1, n2⟩, hn, h2⟩ := Option.bind_eq_some_iff.1 h1
    obtain ⟨rfl, rfl⟩ : n1 = r1 ∧ (n2 == 0) = r2 := by simpa using h2
    have HN := Aside0.mk hn
    replace c0 := decide_eq_false c0
    clear h1 h2 hn
    go_enter Try.func78, Try.ntmps78
    go_wp2_with (first | (go_at_call 27; (with_reducible refine (tape_Volume.calls _ _ win _ _ _ HC.out hc HV.out).mono ?_); rintro e1 w1 ⟨rfl, hb1⟩; have HBZ := Aside0.mk hb1; have hx5' := blk_one (blk_below H5.out hb1); have hx3' : w1.cell? ⟨b3, 3, none⟩ = some (.int .i64 q3) := blk_cell (blk_below H3.out hb1) 3; have hx2' : w1.cell? ⟨b2, 3, none⟩ = some (.int .i64 p3) := blk_cell (blk_below H2.out hb1) 3; have HC' := Aside0.mk (Kd.C_below HC.out hb1); clear hb1) | (go_at_call 12; (with_reducible refine (tape_Vwap.calls k _ _ win _ _ _ _ _ HC'.out hc HN.out).mono ?_); rintro e1 w1 ⟨rfl, hb2⟩; have HBY := Aside0.mk hb2; clear hb2))
    go_ret2
    exact ⟨by first | rfl | (simp; done) | (simp [*]; done), HBZ.out.trans (HBY.out.mono HBZ.out.size)⟩
set_option maxHeartbeats 1600000 in
set_option maxRecDepth 100000 in
theorem rule2_calls (k : Nat) (p0 : ByteArray) (p1 p2 p3 p4 p5 : Int) (p6 : Bool) (A : Option Addr) (c : Nat) (l : List S49) (q1 q2 q3 q4 q5 q6 q7 : Int) (b3 b2 : Nat) (r1 : Int) (r2 : Bool) (w : World) (h3 : w.heap[b3]? = some (.cells #[.slice A l.length c, .int .i64 q1, .int .i64 q2, .int .i64 q3, .int .i64 q4, .int .i64 q5, .int .i64 q6, .int .i64 q7] 36 (0, 0))) (h2 : w.heap[b2]? = some (.cells #[.string p0, .int .i64 p1, .int .i64 p2, .int .i64 p3, .int .i64 p4, .int .i64 p5, .bool p6] 34 (0, 0))) (h : rule2F k q4 q5 p3 = some (r1, r2)) :
    Calls Try.prog 79 #[.pointer (some ⟨b3, 0, none⟩), .pointer (some ⟨b2, 0, none⟩)] w fun e w' => e = .returned (.tuple #[.int .i64 r1, .bool r2]) ∧ Below w.heap.size w w' := by
  unfold rule2F at h
  obtain ⟨⟨n1, n2⟩, hv, h1⟩ := Option.bind_eq_some_iff.1 h
  obtain ⟨rfl, rfl⟩ : n1 = r1 ∧ (q4 != 0 && (q5 != 0 && n2 == 0)) = r2 := by simpa using h1
  have HV := Aside0.mk hv
  have hx4 : w.cell? ⟨b3, 4, none⟩ = some (.int .i64 q4) := blk_cell h3 4
  have hx5 : w.cell? ⟨b3, 5, none⟩ = some (.int .i64 q5) := blk_cell h3 5
  have hx2 : w.cell? ⟨b2, 3, none⟩ = some (.int .i64 p3) := blk_cell h2 3
  have H3 := Aside0.mk h3
  clear h hv h1 h3 h2
  have go_ : ∀ x1 x2 x3 : Bool, (q4 != 0) = x1 → (q5 != 0) = x2 → (n2 == 0) = x3 → Calls Try.prog 79 #[.pointer (some ⟨b3, 0, none⟩), .pointer (some ⟨b2, 0, none⟩)] w fun e w' => e = .returned (.tuple #[.int .i64 n1, .bool (x1 && (x2 && x3))]) ∧ Below w.heap.size w w' := by
    intro x1 x2 x3 e1 e2 e3
    cases x1 <;> cases x2 <;> cases x3 <;>
    (go_enter Try.func79, Try.ntmps79
     go_wp2_with (go_at_call 21; (with_reducible refine (mark_Mid.calls k _ _ _ _ _ _ HV.out).mono ?_); rintro e1 w1 ⟨rfl, hb1⟩; have HBZ := Aside0.mk hb1; have hx4' : w1.cell? ⟨b3, 4, none⟩ = some (.int .i64 q4) := blk_cell (blk_below H3.out hb1) 4; have hx5' : w1.cell? ⟨b3, 5, none⟩ = some (.int .i64 q5) := blk_cell (blk_below H3.out hb1) 5; clear hb1)
     go_ret2
     exact ⟨by first | rfl | (simp; done) | (simp [*]; done), HBZ.out⟩)
  exact go_ _ _ _ rfl rfl rfl
set_option maxHeartbeats 1600000 in
set_option maxRecDepth 100000 in
theorem rule3_calls (p0 : ByteArray) (p1 p2 p3 p4 p5 : Int) (p6 : Bool) (A : Option Addr) (c : Nat) (l : List S49) (q1 q2 q3 q4 q5 q6 q7 : Int) (b3 : Nat) (r1 : Int) (r2 : Bool) (w : World) (h3 : w.heap[b3]? = some (.cells #[.slice A l.length c, .int .i64 q1, .int .i64 q2, .int .i64 q3, .int .i64 q4, .int .i64 q5, .int .i64 q6, .int .i64 q7] 36 (0, 0))) (hC : Kd.C k49 w A l.length l) (hc : l.length ≤ c) (h : rule3F l q4 q5 = some (r1, r2)) :
    Calls Try.prog 80 #[.pointer (some ⟨b3, 0, none⟩)] w fun e w' => e = .returned (.tuple #[.int .i64 r1, .bool r2]) ∧ Below w.heap.size w w' := by
  unfold rule3F at h
  obtain ⟨⟨t0, t1, t2, ok⟩, hv, h1⟩ := Option.bind_eq_some_iff.1 h
  obtain ⟨hr1, rfl⟩ : (if q5 = 0 then (if q4 = 0 then t2 else mx t2 q4) else mn (if q4 = 0 then t2 else mx t2 q4) q5) = r1 ∧ ok = r2 := by simpa using h1
  have HV := Aside0.mk hv
  have HC := Aside0.mk hC
  have hx0 : w.cell? ⟨b3, 0, none⟩ = some (.slice A l.length c) := blk_cell h3 0
  have H3 := Aside0.mk h3
  clear h hv h1 h3 hC
  by_cases c4 : q4 = 0
  · rw [if_pos c4] at hr1
    have d4 : (q4 != 0) = false := bne_eq_false_iff_eq.2 c4
    by_cases c5 : q5 = 0
    · rw [if_pos c5] at hr1
      have d5 : (q5 != 0) = false := bne_eq_false_iff_eq.2 c5
      subst hr1
      clear c4 c5
      go_enter Try.func80, Try.ntmps80
      go_wp2_with (go_at_call 81; (with_reducible refine (tape_Last.calls _ _ l _ _ _ _ _ HC.out hc HV.out).mono ?_); rintro e1 w1 ⟨rfl, hb1⟩; have HBZ := Aside0.mk hb1; have hx4' : ∀ o, (w1.alloc o).cell? ⟨b3, 4, none⟩ = some (.int .i64 q4) := fun o => blk_cell (blk_alloc (blk_below H3.out hb1) o) 4; have hx5' : ∀ o, (w1.alloc o).cell? ⟨b3, 5, none⟩ = some (.int .i64 q5) := fun o => blk_cell (blk_alloc (blk_below H3.out hb1) o) 5; clear hb1)
      go_ret2
      exact ⟨by first | rfl | (simp; done) | (simp [*]; done), below_alloc HBZ.out _⟩
    · rw [if_neg c5] at hr1
      have d5 : (q5 != 0) = true := bne_iff_ne.2 c5
      obtain ⟨y, hy⟩ : ∃ y, (if q5 < t2 then q5 else t2) = y := ⟨_, rfl⟩
      have hy' : mn t2 q5 = y := hy
      rw [hy'] at hr1
      subst hr1
      clear c4 c5 hy'
      go_enter Try.func80, Try.ntmps80
      go_wp2_with (go_at_call 81; (with_reducible refine (tape_Last.calls _ _ l _ _ _ _ _ HC.out hc HV.out).mono ?_); rintro e1 w1 ⟨rfl, hb1⟩; have HBZ := Aside0.mk hb1; have hx4' : ∀ o, (w1.alloc o).cell? ⟨b3, 4, none⟩ = some (.int .i64 q4) := fun o => blk_cell (blk_alloc (blk_below H3.out hb1) o) 4; have hx5' : ∀ o, (w1.alloc o).cell? ⟨b3, 5, none⟩ = some (.int .i64 q5) := fun o => blk_cell (blk_alloc (blk_below H3.out hb1) o) 5; clear hb1)
      go_ret2
      exact ⟨by first | rfl | (simp; done) | (simp [*]; done), below_alloc HBZ.out _⟩
  · rw [if_neg c4] at hr1
    have d4 : (q4 != 0) = true := bne_iff_ne.2 c4
    obtain ⟨z, hz⟩ : ∃ z, (if t2 < q4 then q4 else t2) = z := ⟨_, rfl⟩
    have hz' : mx t2 q4 = z := hz
    rw [hz'] at hr1
    by_cases c5 : q5 = 0
    · rw [if_pos c5] at hr1
      have d5 : (q5 != 0) = false := bne_eq_false_iff_eq.2 c5
      subst hr1
      clear c4 c5 hz'
      go_enter Try.func80, Try.ntmps80
      go_wp2_with (go_at_call 81; (with_reducible refine (tape_Last.calls _ _ l _ _ _ _ _ HC.out hc HV.out).mono ?_); rintro e1 w1 ⟨rfl, hb1⟩; have HBZ := Aside0.mk hb1; have hx4' : ∀ o, (w1.alloc o).cell? ⟨b3, 4, none⟩ = some (.int .i64 q4) := fun o => blk_cell (blk_alloc (blk_below H3.out hb1) o) 4; have hx5' : ∀ o, (w1.alloc o).cell? ⟨b3, 5, none⟩ = some (.int .i64 q5) := fun o => blk_cell (blk_alloc (blk_below H3.out hb1) o) 5; clear hb1)
      go_ret2
      exact ⟨by first | rfl | (simp; done) | (simp [*]; done), below_alloc HBZ.out _⟩
    · rw [if_neg c5] at hr1
      have d5 : (q5 != 0) = true := bne_iff_ne.2 c5
      obtain ⟨y, hy⟩ : ∃ y, (if q5 < z then q5 else z) = y := ⟨_, rfl⟩
      have hy' : mn z q5 = y := hy
      rw [hy'] at hr1
      subst hr1
      clear c4 c5 hz' hy'
      go_enter Try.func80, Try.ntmps80
      go_wp2_with (go_at_call 81; (with_reducible refine (tape_Last.calls _ _ l _ _ _ _ _ HC.out hc HV.out).mono ?_); rintro e1 w1 ⟨rfl, hb1⟩; have HBZ := Aside0.mk hb1; have hx4' : ∀ o, (w1.alloc o).cell? ⟨b3, 4, none⟩ = some (.int .i64 q4) := fun o => blk_cell (blk_alloc (blk_below H3.out hb1) o) 4; have hx5' : ∀ o, (w1.alloc o).cell? ⟨b3, 5, none⟩ = some (.int .i64 q5) := fun o => blk_cell (blk_alloc (blk_below H3.out hb1) o) 5; clear hb1)
      go_ret2
      exact ⟨by first | rfl | (simp; done) | (simp [*]; done), below_alloc HBZ.out _⟩
set_option maxHeartbeats 1600000 in
set_option maxRecDepth 100000 in
theorem rule4_calls (k : Nat) (p0 : ByteArray) (p1 p2 p3 p4 p5 : Int) (p6 : Bool) (A : Option Addr) (c : Nat) (l : List S49) (q1 q2 q3 q4 q5 q6 q7 : Int) (b2 b3 : Nat) (r1 : Int) (r2 : Bool) (w : World) (h2 : w.heap[b2]? = some (.cells #[.string p0, .int .i64 p1, .int .i64 p2, .int .i64 p3, .int .i64 p4, .int .i64 p5, .bool p6] 34 (0, 0))) (h3 : w.heap[b3]? = some (.cells #[.slice A l.length c, .int .i64 q1, .int .i64 q2, .int .i64 q3, .int .i64 q4, .int .i64 q5, .int .i64 q6, .int .i64 q7] 36 (0, 0))) (h : rule4F k p0 p1 p2 p3 p4 p5 p6 q6 q7 = some (r1, r2)) :
    Calls Try.prog 82 #[.pointer (some ⟨b2, 0, none⟩), .pointer (some ⟨b3, 0, none⟩)] w fun e w' => e = .returned (.tuple #[.int .i64 r1, .bool r2]) ∧ Below w.heap.size w w' := by
  unfold rule4F at h
  obtain ⟨cl, hv, h1⟩ := Option.bind_eq_some_iff.1 h
  obtain ⟨⟨n1, n2⟩, hn, h4⟩ := Option.bind_eq_some_iff.1 h1
  obtain ⟨rfl, rfl⟩ : n1 = r1 ∧ (n2 == 0) = r2 := by simpa using h4
  have HV := Aside0.mk hv
  have HN := Aside0.mk hn
  have hx6 : w.cell? ⟨b3, 6, none⟩ = some (.int .i64 q6) := blk_cell h3 6
  have hx7 : w.cell? ⟨b3, 7, none⟩ = some (.int .i64 q7) := blk_cell h3 7
  have hy0 : w.cell? ⟨b2, 0, none⟩ = some (.string p0) := blk_cell h2 0
  have hy1 : w.cell? ⟨b2, 1, none⟩ = some (.int .i64 p1) := blk_cell h2 1
  have hy2 : w.cell? ⟨b2, 2, none⟩ = some (.int .i64 p2) := blk_cell h2 2
  have hy3 : w.cell? ⟨b2, 3, none⟩ = some (.int .i64 p3) := blk_cell h2 3
  have hy4 : w.cell? ⟨b2, 4, none⟩ = some (.int .i64 p4) := blk_cell h2 4
  have hy5 : w.cell? ⟨b2, 5, none⟩ = some (.int .i64 p5) := blk_cell h2 5
  have hy6 : w.cell? ⟨b2, 6, none⟩ = some (.bool p6) := blk_cell h2 6
  clear h hv h1 h3 h2 hn h4
  go_enter Try.func82, Try.ntmps82
  go_wp2
  refine start_ (n := 13) (S := fun w' => w'.cell? ⟨b2, 0, none⟩ = some (.string p0) ∧ w'.cell? ⟨b2, 1, none⟩ = some (.int .i64 p1) ∧ w'.cell? ⟨b2, 2, none⟩ = some (.int .i64 p2) ∧ w'.cell? ⟨b2, 3, none⟩ = some (.int .i64 p3) ∧ w'.cell? ⟨b2, 4, none⟩ = some (.int .i64 p4) ∧ w'.cell? ⟨b2, 5, none⟩ = some (.int .i64 p5) ∧ w'.cell? ⟨b2, 6, none⟩ = some (.bool p6) ∧ w'.cell? ⟨b3, 6, none⟩ = some (.int .i64 q6) ∧ w'.cell? ⟨b3, 7, none⟩ = some (.int .i64 q7)) (ds := [7]) #[false, false, false, false, false, false, false, false, false, false, false, false, false] (by kernel_rfl) rfl rfl ⟨hy0, hy1, hy2, hy3, hy4, hy5, hy6, hx6, hx7⟩ (fun hHeld => ?_)
  refine pure_ (i := 1) (N := some 8) (v := ?_) (a' := ?_) #[false, true, false, false, false, false, false, false, false, false, false, false, false] rfl rfl (by kernel_rfl) (fun _ _ _ h => h) (Or.inl ⟨by rfl, ?_⟩) ?_ ?_
  rotate_left
  · intro w'
    go_simp
    with_reducible rfl
  rotate_left
  · simp only [Act.put, List.setIfInBounds_toArray, List.set_cons_zero, List.set_cons_succ, i64_w, i32_w]
    rfl
  refine pure_ (i := 3) (N := some 10) (v := ?_) (a' := ?_) #[false, true, false, true, false, false, false, false, false, false, false, false, false] rfl rfl (by kernel_rfl) (fun _ _ _ h => h) (Or.inl ⟨by rfl, ?_⟩) ?_ ?_
  rotate_left
  · intro w'
    go_simp
    with_reducible rfl
  rotate_left
  · simp only [Act.put, List.setIfInBounds_toArray, List.set_cons_zero, List.set_cons_succ, i64_w, i32_w]
    rfl
  refine take_ (i := 0) (N := some 7) (v := ?_) (a' := ?_) #[true, true, false, true, false, false, false, false, false, false, false, false, false] rfl rfl (by kernel_rfl) (fun _ _ _ h => h) (Or.inl ⟨by rfl, ?_⟩) hHeld ?_ ?_
  rotate_left
  · rintro w' ⟨s0, s1, s2, s3, s4, s5, s6, s7, s8⟩
    go_simp
    with_reducible rfl
  rotate_left
  · simp only [Act.put, List.setIfInBounds_toArray, List.set_cons_zero, List.set_cons_succ, i64_w, i32_w]
    rfl
  refine take_ (i := 2) (N := some 9) (v := ?_) (a' := ?_) #[true, true, true, true, false, false, false, false, false, false, false, false, false] rfl rfl (by kernel_rfl) (fun _ _ _ h => h) (Or.inl ⟨by rfl, ?_⟩) hHeld ?_ ?_
  rotate_left
  · rintro w' ⟨s0, s1, s2, s3, s4, s5, s6, s7, s8⟩
    go_simp
    with_reducible rfl
  rotate_left
  · simp only [Act.put, List.setIfInBounds_toArray, List.set_cons_zero, List.set_cons_succ, i64_w, i32_w]
    rfl
  refine take_ (i := 4) (N := some 11) (v := ?_) (a' := ?_) #[true, true, true, true, true, false, false, false, false, false, false, false, false] rfl rfl (by kernel_rfl) (fun _ _ _ h => h) (Or.inl ⟨by rfl, ?_⟩) hHeld ?_ ?_
  rotate_left
  · rintro w' ⟨s0, s1, s2, s3, s4, s5, s6, s7, s8⟩
    go_simp
    with_reducible rfl
  rotate_left
  · simp only [Act.put, List.setIfInBounds_toArray, List.set_cons_zero, List.set_cons_succ, i64_w, i32_w]
    rfl
  refine pure_ (i := 5) (N := some 12) (v := ?_) (a' := ?_) #[true, true, true, true, true, true, false, false, false, false, false, false, false] rfl rfl (by kernel_rfl) (fun _ _ _ h => h) (Or.inl ⟨by rfl, ?_⟩) ?_ ?_
  rotate_left
  · intro w'
    go_simp
    with_reducible rfl
  rotate_left
  · simp only [Act.put, List.setIfInBounds_toArray, List.set_cons_zero, List.set_cons_succ, i64_w, i32_w]
    rfl
  refine one_ (i := 6) (N := some 13) #[true, true, true, true, true, true, true, false, false, false, false, false, false] rfl rfl (by kernel_rfl) (by decide) (fun K hK => ?_)
  refine goes_ Try.func43 (by kernel_rfl) rfl #[.int .i64 (wrap64 (q6 + q7)), .int .i64 (-16777216), .int .i64 16777216] (by rfl) rfl rfl (by (try simp only [List.map_toArray, List.map_cons, List.map_nil]); first | done | rfl) ?_
  refine (cents_Clamp.calls k _ _ _ cl _ HV.out).mono ?_
  rintro e w1 ⟨rfl, ⟨nd, rfl⟩⟩
  refine ⟨_, rfl, ?_⟩
  refine hK.out _ _ hHeld ?_
  clear hK K
  intro hHeld
  refine norm_ (a' := ?_) ?_ ?_
  rotate_left
  · show Act.put _ (some 13) _ = _
    simp only [Act.put, List.setIfInBounds_toArray, List.set_cons_zero, List.set_cons_succ, i64_w, i32_w]
    rfl
  refine last_ (i := 7) (N := some 14) #[true, true, true, true, true, true, true, true, false, false, false, false, false] rfl rfl (by kernel_rfl) (by decide) (fun K hK => ?_)
  refine goes_ Try.func83 (by kernel_rfl) rfl #[.agg #[.string p0, .int .i64 p1, .int .i64 p2, .int .i64 p3, .int .i64 p4, .int .i64 p5, .bool p6], .int .i64 cl, .int .i64 5] (by rfl) rfl rfl (by (try simp only [List.map_toArray, List.map_cons, List.map_nil]); first | done | rfl) ?_
  refine (product_Round.calls k p0 p1 p2 p3 p4 p5 p6 cl 5 n1 n2 _ HN.out).mono ?_
  rintro e w2 ⟨rfl, hb2⟩
  have HB2 := Aside0.mk hb2
  refine ⟨_, rfl, ?_⟩
  refine hK.out _ _ ?_
  clear hK K hb2
  refine norm_ (a' := ?_) ?_ ?_
  rotate_left
  · show Act.put _ (some 14) _ = _
    simp only [Act.put, List.setIfInBounds_toArray, List.set_cons_zero, List.set_cons_succ, i64_w, i32_w]
    rfl
  refine pure_ (i := 8) (N := some 6) (v := ?_) (a' := ?_) #[true, true, true, true, true, true, true, true, true, false, false, false, false] rfl rfl (by kernel_rfl) (fun _ _ _ h => h) (Or.inl ⟨by rfl, ?_⟩) ?_ ?_
  rotate_left
  · intro w'
    go_simp
    with_reducible rfl
  rotate_left
  · simp only [Act.put, List.setIfInBounds_toArray, List.set_cons_zero, List.set_cons_succ, i64_w, i32_w]
    rfl
  refine pure_ (i := 9) (N := some 15) (v := ?_) (a' := ?_) #[true, true, true, true, true, true, true, true, true, true, false, false, false] rfl rfl (by kernel_rfl) (fun _ _ _ h => h) (Or.inl ⟨by rfl, ?_⟩) ?_ ?_
  rotate_left
  · intro w'
    go_simp
    with_reducible rfl
  rotate_left
  · simp only [Act.put, List.setIfInBounds_toArray, List.set_cons_zero, List.set_cons_succ, i64_w, i32_w]
    rfl
  refine pure_ (i := 10) (N := some 16) (v := ?_) (a' := ?_) #[true, true, true, true, true, true, true, true, true, true, true, false, false] rfl rfl (by kernel_rfl) (fun _ _ _ h => h) (Or.inl ⟨by rfl, ?_⟩) ?_ ?_
  rotate_left
  · intro w'
    go_simp
    with_reducible rfl
  rotate_left
  · simp only [Act.put, List.setIfInBounds_toArray, List.set_cons_zero, List.set_cons_succ, i64_w, i32_w]
    rfl
  refine pure_ (i := 11) (N := some 4) (v := ?_) (a' := ?_) #[true, true, true, true, true, true, true, true, true, true, true, true, false] rfl rfl (by kernel_rfl) (fun _ _ _ h => h) (Or.inl ⟨by rfl, ?_⟩) ?_ ?_
  rotate_left
  · intro w'
    go_simp
    with_reducible rfl
  rotate_left
  · simp only [Act.put, List.setIfInBounds_toArray, List.set_cons_zero, List.set_cons_succ, i64_w, i32_w]
    rfl
  refine pure_ (i := 12) (N := some 5) (v := ?_) (a' := ?_) #[true, true, true, true, true, true, true, true, true, true, true, true, true] rfl rfl (by kernel_rfl) (fun _ _ _ h => h) (Or.inl ⟨by rfl, ?_⟩) ?_ ?_
  rotate_left
  · intro w'
    go_simp
    with_reducible rfl
  rotate_left
  · simp only [Act.put, List.setIfInBounds_toArray, List.set_cons_zero, List.set_cons_succ, i64_w, i32_w]
    rfl
  refine done_ (by kernel_rfl) ?_
  clear hHeld
  go_wp2
  go_ret2
  exact ⟨by first | rfl | (simp; done) | (simp [*]; done), Below.trans (below_drew1 (Below.refl _ _)) ⟨HB2.out.os, HB2.out.tape, HB2.out.output, HB2.out.size, HB2.out.block⟩⟩
set_option maxHeartbeats 1600000 in
set_option maxRecDepth 100000 in
theorem mark_rules_calls (p0 : ByteArray) (p1 p2 p3 p4 p5 : Int) (p6 : Bool) (A : Option Addr) (c : Nat) (l : List S49) (q1 q2 q3 q4 q5 q6 q7 : Int) (win : List S49) (w : World) (hr : Kd.C k49 w A l.length l) (hc : l.length ≤ c) (h : tape_Window.f l q1 q2 = some win) :
    Calls Try.prog 42 #[.agg #[.string p0, .int .i64 p1, .int .i64 p2, .int .i64 p3, .int .i64 p4, .int .i64 p5, .bool p6], .agg #[.slice A l.length c, .int .i64 q1, .int .i64 q2, .int .i64 q3, .int .i64 q4, .int .i64 q5, .int .i64 q6, .int .i64 q7]] w fun e w' => ∃ (b2 b3 b5 b6 : Nat) (Aw : Option Addr) (cw : Nat), e = .returned (.slice (some ⟨b6, 0, none⟩) 4 4) ∧ w'.heap[b6]? = some (.cells #[.int .i64 1, .func (.func 78) #[] #[.pointer (some ⟨b5, 0, none⟩), .pointer (some ⟨b3, 0, none⟩), .pointer (some ⟨b2, 0, none⟩)], .int .i64 2, .func (.func 79) #[] #[.pointer (some ⟨b3, 0, none⟩), .pointer (some ⟨b2, 0, none⟩)], .int .i64 3, .func (.func 80) #[] #[.pointer (some ⟨b3, 0, none⟩)], .int .i64 4, .func (.func 82) #[] #[.pointer (some ⟨b2, 0, none⟩), .pointer (some ⟨b3, 0, none⟩)]] 84 (0, 0)) ∧ w'.heap[b2]? = some (.cells #[.string p0, .int .i64 p1, .int .i64 p2, .int .i64 p3, .int .i64 p4, .int .i64 p5, .bool p6] 34 (0, 0)) ∧ w'.heap[b3]? = some (.cells #[.slice A l.length c, .int .i64 q1, .int .i64 q2, .int .i64 q3, .int .i64 q4, .int .i64 q5, .int .i64 q6, .int .i64 q7] 36 (0, 0)) ∧ w'.heap[b5]? = some (.cells #[.slice Aw win.length cw] 22 (0, 0)) ∧ Kd.C k49 w' Aw win.length win ∧ win.length ≤ cw ∧ Below w.heap.size w w' := by
  have HR := Aside0.mk hr
  have HW := Aside0.mk h
  obtain ⟨W1, hW1⟩ : ∃ W, w.alloc (.cells #[.string p0, .int .i64 p1, .int .i64 p2, .int .i64 p3, .int .i64 p4, .int .i64 p5, .bool p6] 34) = W := ⟨_, rfl⟩
  have k2 := blk_new w (.cells #[.string p0, .int .i64 p1, .int .i64 p2, .int .i64 p3, .int .i64 p4, .int .i64 p5, .bool p6] 34)
  have hs1 : W1.heap.size = w.heap.size + 1 := by rw [← hW1]; simp
  rw [hW1] at k2
  obtain ⟨W2, hW2⟩ : ∃ W, W1.alloc (.cells #[.slice A l.length c, .int .i64 q1, .int .i64 q2, .int .i64 q3, .int .i64 q4, .int .i64 q5, .int .i64 q6, .int .i64 q7] 36) = W := ⟨_, rfl⟩
  have k3 := blk_new W1 (.cells #[.slice A l.length c, .int .i64 q1, .int .i64 q2, .int .i64 q3, .int .i64 q4, .int .i64 q5, .int .i64 q6, .int .i64 q7] 36)
  have k2 := blk_alloc k2 (.cells #[.slice A l.length c, .int .i64 q1, .int .i64 q2, .int .i64 q3, .int .i64 q4, .int .i64 q5, .int .i64 q6, .int .i64 q7] 36)
  rw [hW2, hs1] at k3
  rw [hW2] at k2
  have hB2 : Below w.heap.size w W2 := by rw [← hW2, ← hW1]; exact ((Below.refl _ _).alloc (Nat.le_refl _) _).alloc (by simp) _
  have hC2 : Kd.C k49 W2 A l.length l := Kd.C_below hr hB2
  have hx0 : W2.cell? ⟨w.heap.size + 1, 0, none⟩ = some (.slice A l.length c) := blk_cell k3 0
  have hx1 : W2.cell? ⟨w.heap.size + 1, 1, none⟩ = some (.int .i64 q1) := blk_cell k3 1
  have hx2 : W2.cell? ⟨w.heap.size + 1, 2, none⟩ = some (.int .i64 q2) := blk_cell k3 2
  have K2 := Aside0.mk k2
  have K3 := Aside0.mk k3
  have HB2 := Aside0.mk hB2
  have HC2 := Aside0.mk hC2
  clear hr h k2 k3 hB2 hC2
  go_enter Try.func42, Try.ntmps42
  go_wp2_with (go_at_call 28; (with_reducible refine (tape_Window.calls _ _ l _ _ win _ HC2.out hc HW.out).mono ?_); rintro e1 w1 ⟨v1, rfl, ho, hb1⟩; obtain ⟨Aw, cw, ev⟩ := Kd.R_slice ho; subst ev; have HO := Aside0.mk ho; have HBZ := Aside0.mk hb1; clear ho hb1)
  go_ret
  have hsz : (w1.alloc (.cells #[.slice Aw win.length cw] 22)).heap.size = w1.heap.size + 1 := by simp
  have k5 := blk_new w1 (.cells #[.slice Aw win.length cw] 22)
  have hr := Kd.R_reads' HO.out
  have hBw : Below w.heap.size w w1 := HB2.out.trans (HBZ.out.mono HB2.out.size)
  refine ⟨w.heap.size, w.heap.size + 1, w1.heap.size, w1.heap.size + 1, Aw, cw, rfl, ?_, blk_alloc (blk_alloc (blk_below K2.out HBZ.out) _) _, blk_alloc (blk_alloc (blk_below K3.out HBZ.out) _) _, blk_alloc k5 _, Kd.C_alloc (Kd.C_alloc hr.2.2 _) _, hr.2.1, (hBw.alloc hBw.size _).alloc (by simp; exact Nat.le_succ_of_le hBw.size) _⟩
  have k6 := blk_new (w1.alloc (.cells #[.slice Aw win.length cw] 22)) (.cells #[.int .i64 1, .func (.func 78) #[] #[.pointer (some ⟨w1.heap.size, 0, none⟩), .pointer (some ⟨w.heap.size + 1, 0, none⟩), .pointer (some ⟨w.heap.size, 0, none⟩)], .int .i64 2, .func (.func 79) #[] #[.pointer (some ⟨w.heap.size + 1, 0, none⟩), .pointer (some ⟨w.heap.size, 0, none⟩)], .int .i64 3, .func (.func 80) #[] #[.pointer (some ⟨w.heap.size + 1, 0, none⟩)], .int .i64 4, .func (.func 82) #[] #[.pointer (some ⟨w.heap.size, 0, none⟩), .pointer (some ⟨w.heap.size + 1, 0, none⟩)]] 84)
  rw [hsz] at k6
  exact k6
def priceGo (k : Nat) (p4 p5 : Int) : Int → List (Option (Int × Bool)) → Option (Int × Int × Int)
  | _, [] => some (0, 0, 17)
  | i, o :: t => o.bind fun r => if r.2 = true then (cents_Clamp.f k r.1 p4 p5).bind fun n => some (n, i, 0) else priceGo k p4 p5 (i + 1) t
def mark_Price.f (k : Nat) (p0 : ByteArray) (p1 p2 p3 p4 p5 : Int) (p6 : Bool) (l : List S49) (q1 q2 q3 q4 q5 q6 q7 : Int) : Option (Int × Int × Int) := (mark_Check.f k p0 p1 p2 p3 p4 p5 p6 l q1 q2 q3 q4 q5 q6 q7).bind fun e => if e ≠ 0 then some (0, 0, e) else (tape_Window.f l q1 q2).bind fun win => priceGo k p4 p5 1 [rule1F k win p3 q3, rule2F k q4 q5 p3, rule3F l q4 q5, rule4F k p0 p1 p2 p3 p4 p5 p6 q6 q7]
theorem rule1_mono (k : Nat) (win : List S49) (p3 q3 : Int) : LeO (rule1F k win p3 q3) (rule1F (k + 1) win p3 q3) := by
  unfold rule1F
  exact LeO.bind (LeO.refl _) (fun _ => LeO.ite (LeO.refl _) (LeO.bind (tape_Vwap.mono _ _ _ _) (fun _ => LeO.refl _)))
theorem rule2_mono (k : Nat) (q4 q5 p3 : Int) : LeO (rule2F k q4 q5 p3) (rule2F (k + 1) q4 q5 p3) := by
  unfold rule2F
  exact LeO.bind (mark_Mid.mono _ _ _ _) (fun _ => LeO.refl _)
theorem rule4_mono (k : Nat) (p0 : ByteArray) (p1 p2 p3 p4 p5 : Int) (p6 : Bool) (q6 q7 : Int) : LeO (rule4F k p0 p1 p2 p3 p4 p5 p6 q6 q7) (rule4F (k + 1) p0 p1 p2 p3 p4 p5 p6 q6 q7) := by
  unfold rule4F
  exact LeO.bind (cents_Clamp.mono _ _ _ _) (fun _ => LeO.bind (product_Round.mono _ _ _ _ _ _ _ _ _ _) (fun _ => LeO.refl _))
theorem price_step (k : Nat) (p4 p5 i : Int) {o o' : Option (Int × Bool)} {t t' : List (Option (Int × Bool))} (h : LeO o o') (ht : LeO (priceGo k p4 p5 (i + 1) t) (priceGo (k + 1) p4 p5 (i + 1) t')) : LeO (priceGo k p4 p5 i (o :: t)) (priceGo (k + 1) p4 p5 i (o' :: t')) := by
  simp only [priceGo]
  exact LeO.bind h (fun _ => LeO.ite (LeO.bind (cents_Clamp.mono _ _ _ _) (fun _ => LeO.refl _)) ht)
theorem mark_Price.mono : ∀ p0 p1 p2 p3 p4 p5 p6 l q1 q2 q3 q4 q5 q6 q7 k, LeO (mark_Price.f k p0 p1 p2 p3 p4 p5 p6 l q1 q2 q3 q4 q5 q6 q7) (mark_Price.f (k + 1) p0 p1 p2 p3 p4 p5 p6 l q1 q2 q3 q4 q5 q6 q7) := by
  intro p0 p1 p2 p3 p4 p5 p6 l q1 q2 q3 q4 q5 q6 q7 k
  unfold mark_Price.f
  refine LeO.bind (mark_Check.mono _ _ _ _ _ _ _ _ _ _ _ _ _ _ _ _) (fun e => LeO.ite (LeO.refl _) (LeO.bind (LeO.refl _) (fun win => ?_)))
  exact price_step k p4 p5 1 (rule1_mono k _ _ _) (price_step k p4 p5 _ (rule2_mono k _ _ _) (price_step k p4 p5 _ (LeO.refl _) (price_step k p4 p5 _ (rule4_mono k _ _ _ _ _ _ _ _ _) (LeO.refl _))))
theorem run_store_fnM {P : Program} {w : World} (a : Addr) (m : Mode) (f : Fn) (x y : Array Value) : (store a (.func f x y) m).run P w = stored P w a (.func f x y) m := run_store P w a _ m rfl
attribute [local go_sem] run_store_fnM
set_option maxHeartbeats 4000000 in
set_option maxRecDepth 100000 in
theorem mark_Price.calls (k : Nat) (p0 : ByteArray) (p1 p2 p3 p4 p5 : Int) (p6 : Bool) (A : Option Addr) (c : Nat) (l : List S49) (q1 q2 q3 q4 q5 q6 q7 : Int) (r1 r2 r3 : Int) (w : World) (hr : Kd.C k49 w A l.length l) (hc : l.length ≤ c) (h0 : mark_Price.f k p0 p1 p2 p3 p4 p5 p6 l q1 q2 q3 q4 q5 q6 q7 = some (r1, r2, r3)) :
    Calls Try.prog 16 #[.agg #[.string p0, .int .i64 p1, .int .i64 p2, .int .i64 p3, .int .i64 p4, .int .i64 p5, .bool p6], .agg #[.slice A l.length c, .int .i64 q1, .int .i64 q2, .int .i64 q3, .int .i64 q4, .int .i64 q5, .int .i64 q6, .int .i64 q7]] w fun e w' => e = .returned (.tuple #[.int .i64 r1, .int .i64 r2, .int .i64 r3]) ∧ Below w.heap.size w w' := by
  unfold mark_Price.f at h0
  obtain ⟨e, he, h⟩ := Option.bind_eq_some_iff.1 h0
  have HE := Aside0.mk he
  obtain ⟨W1, hW1⟩ : ∃ W, w.alloc (.cells #[.string p0, .int .i64 p1, .int .i64 p2, .int .i64 p3, .int .i64 p4, .int .i64 p5, .bool p6] 34) = W := ⟨_, rfl⟩
  have k2 := blk_new w (.cells #[.string p0, .int .i64 p1, .int .i64 p2, .int .i64 p3, .int .i64 p4, .int .i64 p5, .bool p6] 34)
  have hs1 : W1.heap.size = w.heap.size + 1 := by rw [← hW1]; simp
  rw [hW1] at k2
  obtain ⟨W2, hW2⟩ : ∃ W, W1.alloc (.cells #[.slice A l.length c, .int .i64 q1, .int .i64 q2, .int .i64 q3, .int .i64 q4, .int .i64 q5, .int .i64 q6, .int .i64 q7] 36) = W := ⟨_, rfl⟩
  have k3 := blk_new W1 (.cells #[.slice A l.length c, .int .i64 q1, .int .i64 q2, .int .i64 q3, .int .i64 q4, .int .i64 q5, .int .i64 q6, .int .i64 q7] 36)
  have k2 := blk_alloc k2 (.cells #[.slice A l.length c, .int .i64 q1, .int .i64 q2, .int .i64 q3, .int .i64 q4, .int .i64 q5, .int .i64 q6, .int .i64 q7] 36)
  rw [hW2, hs1] at k3
  rw [hW2] at k2
  have hB2 : Below w.heap.size w W2 := by rw [← hW2, ← hW1]; exact ((Below.refl _ _).alloc (Nat.le_refl _) _).alloc (by simp) _
  have hC2 : Kd.C k49 W2 A l.length l := Kd.C_below hr hB2
  have hxp0 : W2.cell? ⟨w.heap.size, 0, none⟩ = some (.string p0) := blk_cell k2 0
  have hxp1 : W2.cell? ⟨w.heap.size, 1, none⟩ = some (.int .i64 p1) := blk_cell k2 1
  have hxp2 : W2.cell? ⟨w.heap.size, 2, none⟩ = some (.int .i64 p2) := blk_cell k2 2
  have hxp3 : W2.cell? ⟨w.heap.size, 3, none⟩ = some (.int .i64 p3) := blk_cell k2 3
  have hxp4 : W2.cell? ⟨w.heap.size, 4, none⟩ = some (.int .i64 p4) := blk_cell k2 4
  have hxp5 : W2.cell? ⟨w.heap.size, 5, none⟩ = some (.int .i64 p5) := blk_cell k2 5
  have hxp6 : W2.cell? ⟨w.heap.size, 6, none⟩ = some (.bool p6) := blk_cell k2 6
  have hxq0 : W2.cell? ⟨w.heap.size + 1, 0, none⟩ = some (.slice A l.length c) := blk_cell k3 0
  have hxq1 : W2.cell? ⟨w.heap.size + 1, 1, none⟩ = some (.int .i64 q1) := blk_cell k3 1
  have hxq2 : W2.cell? ⟨w.heap.size + 1, 2, none⟩ = some (.int .i64 q2) := blk_cell k3 2
  have hxq3 : W2.cell? ⟨w.heap.size + 1, 3, none⟩ = some (.int .i64 q3) := blk_cell k3 3
  have hxq4 : W2.cell? ⟨w.heap.size + 1, 4, none⟩ = some (.int .i64 q4) := blk_cell k3 4
  have hxq5 : W2.cell? ⟨w.heap.size + 1, 5, none⟩ = some (.int .i64 q5) := blk_cell k3 5
  have hxq6 : W2.cell? ⟨w.heap.size + 1, 6, none⟩ = some (.int .i64 q6) := blk_cell k3 6
  have hxq7 : W2.cell? ⟨w.heap.size + 1, 7, none⟩ = some (.int .i64 q7) := blk_cell k3 7
  have HRl := Aside0.mk hr
  have K2 := Aside0.mk k2
  have K3 := Aside0.mk k3
  have HB2 := Aside0.mk hB2
  have HC2 := Aside0.mk hC2
  clear hr h0 he k2 k3 hB2 hC2
  by_cases e0 : e ≠ 0
  · rw [if_pos e0] at h
    obtain ⟨rfl, rfl, rfl⟩ : 0 = r1 ∧ 0 = r2 ∧ e = r3 := by simpa using h
    have hne : (e != 0) = true := bne_iff_ne.2 e0
    clear h e0
    go_enter Try.func16, Try.ntmps16
    go_wp2_with (go_at_call 18; (with_reducible refine (mark_Check.calls k p0 p1 p2 p3 p4 p5 p6 _ _ l q1 q2 q3 q4 q5 q6 q7 _ _ HC2.out hc HE.out).mono ?_); rintro e1 w1 ⟨rfl, hb1⟩; have HBZ := Aside0.mk hb1; clear hb1)
    refine bodyPost_ret (v := .tuple #[.int .i64 0, .int .i64 0, .int .i64 e]) (by simp [results, Try.results16, go_sem]) rfl ⟨rfl, HB2.out.trans (HBZ.out.mono HB2.out.size)⟩
  rw [if_neg e0] at h
  obtain rfl : e = 0 := Decidable.not_not.1 e0
  clear e0
  obtain ⟨win, hw, h1⟩ := Option.bind_eq_some_iff.1 h
  have HG := Aside0.mk h1
  have HW := Aside0.mk hw
  clear h hw h1
  go_enter Try.func16, Try.ntmps16
  go_wp2_with (first | (go_at_call 18; (with_reducible refine (mark_Check.calls k p0 p1 p2 p3 p4 p5 p6 _ _ l q1 q2 q3 q4 q5 q6 q7 _ _ HC2.out hc HE.out).mono ?_); rintro e1 w1 ⟨rfl, hb1⟩; have HBZ := Aside0.mk hb1; have HC9 := Aside0.mk (Kd.C_below HC2.out hb1); have hyp0 : w1.cell? ⟨w.heap.size, 0, none⟩ = some (.string p0) := blk_cell (blk_below K2.out hb1) 0; have hyp1 : w1.cell? ⟨w.heap.size, 1, none⟩ = some (.int .i64 p1) := blk_cell (blk_below K2.out hb1) 1; have hyp2 : w1.cell? ⟨w.heap.size, 2, none⟩ = some (.int .i64 p2) := blk_cell (blk_below K2.out hb1) 2; have hyp3 : w1.cell? ⟨w.heap.size, 3, none⟩ = some (.int .i64 p3) := blk_cell (blk_below K2.out hb1) 3; have hyp4 : w1.cell? ⟨w.heap.size, 4, none⟩ = some (.int .i64 p4) := blk_cell (blk_below K2.out hb1) 4; have hyp5 : w1.cell? ⟨w.heap.size, 5, none⟩ = some (.int .i64 p5) := blk_cell (blk_below K2.out hb1) 5; have hyp6 : w1.cell? ⟨w.heap.size, 6, none⟩ = some (.bool p6) := blk_cell (blk_below K2.out hb1) 6; have hyq0 : w1.cell? ⟨w.heap.size + 1, 0, none⟩ = some (.slice A l.length c) := blk_cell (blk_below K3.out hb1) 0; have hyq1 : w1.cell? ⟨w.heap.size + 1, 1, none⟩ = some (.int .i64 q1) := blk_cell (blk_below K3.out hb1) 1; have hyq2 : w1.cell? ⟨w.heap.size + 1, 2, none⟩ = some (.int .i64 q2) := blk_cell (blk_below K3.out hb1) 2; have hyq3 : w1.cell? ⟨w.heap.size + 1, 3, none⟩ = some (.int .i64 q3) := blk_cell (blk_below K3.out hb1) 3; have hyq4 : w1.cell? ⟨w.heap.size + 1, 4, none⟩ = some (.int .i64 q4) := blk_cell (blk_below K3.out hb1) 4; have hyq5 : w1.cell? ⟨w.heap.size + 1, 5, none⟩ = some (.int .i64 q5) := blk_cell (blk_below K3.out hb1) 5; have hyq6 : w1.cell? ⟨w.heap.size + 1, 6, none⟩ = some (.int .i64 q6) := blk_cell (blk_below K3.out hb1) 6; have hyq7 : w1.cell? ⟨w.heap.size + 1, 7, none⟩ = some (.int .i64 q7) := blk_cell (blk_below K3.out hb1) 7; clear hb1) | (go_at_call 42; (with_reducible refine (mark_rules_calls p0 p1 p2 p3 p4 p5 p6 _ _ l q1 q2 q3 q4 q5 q6 q7 win _ HC9.out hc HW.out).mono ?_); rintro e2 w2 ⟨b2, b3, b5, b6, Aw, cw, rfl, hu6, hu2, hu3, hu5, hcw, hcl, hb2⟩; have HBR := Aside0.mk hb2; have HRU := Aside0.mk (And.intro hu6 (And.intro hu2 (And.intro hu3 hu5))); have HCW := Aside0.mk hcw; have HCWL := Aside0.mk hcl; clear hb2 hu6 hu2 hu3 hu5 hcw hcl))
  have hP := blk_below (blk_below K2.out HBZ.out) HBR.out
  have HBW := Aside0.mk (HB2.out.trans ((HBZ.out.mono HB2.out.size).trans (HBR.out.mono (Nat.le_trans HB2.out.size HBZ.out.size))))
  have HP := Aside0.mk hP
  clear hP hxp0 hxp1 hxp2 hxp3 hxp4 hxp5 hxp6 hxq0 hxq1 hxq2 hxq3 hxq4 hxq5 hxq6 hxq7 hyp0 hyp1 hyp2 hyp3 hyp4 hyp5 hyp6 hyq0 hyq1 hyq2 hyq3 hyq4 hyq5 hyq6 hyq7
  go_loopg [22] 4 (fun kq v22 wr => ∃ (i : Nat), v22 = .int .i64 (i : Int) ∧ Aside0 (kq + i = 4) ∧ Aside0 (priceGo k p4 p5 ((i : Int) + 1) ([rule1F k win p3 q3, rule2F k q4 q5 p3, rule3F l q4 q5, rule4F k p0 p1 p2 p3 p4 p5 p6 q6 q7].drop i) = some (r1, r2, r3)) ∧ Aside0 (wr.heap[b6]? = some (.cells #[.int .i64 1, .func (.func 78) #[] #[.pointer (some ⟨b5, 0, none⟩), .pointer (some ⟨b3, 0, none⟩), .pointer (some ⟨b2, 0, none⟩)], .int .i64 2, .func (.func 79) #[] #[.pointer (some ⟨b3, 0, none⟩), .pointer (some ⟨b2, 0, none⟩)], .int .i64 3, .func (.func 80) #[] #[.pointer (some ⟨b3, 0, none⟩)], .int .i64 4, .func (.func 82) #[] #[.pointer (some ⟨b2, 0, none⟩), .pointer (some ⟨b3, 0, none⟩)]] 84 (0, 0)) ∧ wr.heap[b2]? = some (.cells #[.string p0, .int .i64 p1, .int .i64 p2, .int .i64 p3, .int .i64 p4, .int .i64 p5, .bool p6] 34 (0, 0)) ∧ wr.heap[b3]? = some (.cells #[.slice A l.length c, .int .i64 q1, .int .i64 q2, .int .i64 q3, .int .i64 q4, .int .i64 q5, .int .i64 q6, .int .i64 q7] 36 (0, 0)) ∧ wr.heap[b5]? = some (.cells #[.slice Aw win.length cw] 22 (0, 0))) ∧ Aside0 (Kd.C k49 wr Aw win.length win) ∧ Aside0 (wr.heap[w.heap.size]? = some (.cells #[.string p0, .int .i64 p1, .int .i64 p2, .int .i64 p3, .int .i64 p4, .int .i64 p5, .bool p6] 34 (0, 0))) ∧ Aside0 (Below w.heap.size w wr))
  case atStart => exact ⟨0, rfl, ⟨by omega⟩, HG, HRU, HCW, HP, HBW⟩
  case round =>
    obtain ⟨i, rfl, Hk, HG2, HU, HC3, HP2, HB3⟩ := hrel
    have hi : i = 0 ∨ i = 1 ∨ i = 2 ∨ i = 3 ∨ i = 4 := by have := Hk.out; omega
    obtain ⟨h6, h2, h3, h5⟩ := HU.out
    have own4 : wr.cell? ⟨w.heap.size, 4, none⟩ = some (.int .i64 p4) := blk_cell HP2.out 4
    have own5 : wr.cell? ⟨w.heap.size, 5, none⟩ = some (.int .i64 p5) := blk_cell HP2.out 5
    have HCl := Aside0.mk (Kd.C_below HRl.out HB3.out)
    rcases hi with rfl | rfl | rfl | rfl | rfl

    · have hg := HG2.out
      simp only [List.drop_succ_cons, List.drop_zero, priceGo] at hg
      obtain ⟨⟨v, o⟩, ho, hg1⟩ := Option.bind_eq_some_iff.1 hg
      have HO := Aside0.mk ho
      dsimp only at hg1
      have x0 : wr.cell? ⟨b6, 0, none⟩ = some (.int .i64 1) := blk_cell h6 0
      have x1 : wr.cell? ⟨b6, 1, none⟩ = some (.func (.func 78) #[] #[.pointer (some ⟨b5, 0, none⟩), .pointer (some ⟨b3, 0, none⟩), .pointer (some ⟨b2, 0, none⟩)]) := blk_cell h6 1
      clear hg ho HG2
      cases o with
      | true =>
        rw [if_pos rfl] at hg1
        obtain ⟨cl, hcl, hg2⟩ := Option.bind_eq_some_iff.1 hg1
        obtain ⟨rfl, rfl, rfl⟩ : cl = r1 ∧ _ = r2 ∧ 0 = r3 := by simpa using hg2
        have HCLA := Aside0.mk hcl
        clear hg1 hg2 hcl
        go_wp2_with (go_at_call 78; (refine (rule1_calls k p0 p1 p2 p3 p4 p5 p6 _ _ l q1 q2 q3 q4 q5 q6 q7 win Aw cw b5 b3 b2 v _ _ (blk_alloc h5 _) (blk_alloc h3 _) (blk_alloc h2 _) (Kd.C_alloc HC3.out _) HCWL.out HO.out).mono ?_); rintro e1 w5 ⟨rfl, hb5⟩; have HB5 := Aside0.mk hb5; clear hb5)
        have y0 : w5.cell? ⟨wr.heap.size, 0, none⟩ = some (.int .i64 1) := blk_cell (blk_below (blk_new wr (.cells #[.int .i64 1, .func (.func 78) #[] #[.pointer (some ⟨b5, 0, none⟩), .pointer (some ⟨b3, 0, none⟩), .pointer (some ⟨b2, 0, none⟩)]] 84)) HB5.out) 0
        have z4 : w5.cell? ⟨w.heap.size, 4, none⟩ = some (.int .i64 p4) := blk_cell (blk_below (blk_alloc HP2.out (.cells #[.int .i64 1, .func (.func 78) #[] #[.pointer (some ⟨b5, 0, none⟩), .pointer (some ⟨b3, 0, none⟩), .pointer (some ⟨b2, 0, none⟩)]] 84)) HB5.out) 4
        have z5 : w5.cell? ⟨w.heap.size, 5, none⟩ = some (.int .i64 p5) := blk_cell (blk_below (blk_alloc HP2.out (.cells #[.int .i64 1, .func (.func 78) #[] #[.pointer (some ⟨b5, 0, none⟩), .pointer (some ⟨b3, 0, none⟩), .pointer (some ⟨b2, 0, none⟩)]] 84)) HB5.out) 5
        refine start_ (n := 11) (S := fun w' => w'.cell? ⟨w.heap.size, 4, none⟩ = some (.int .i64 p4) ∧ w'.cell? ⟨w.heap.size, 5, none⟩ = some (.int .i64 p5) ∧ w'.cell? ⟨wr.heap.size, 0, none⟩ = some (.int .i64 1)) (ds := []) #[false, false, false, false, false, false, false, false, false, false, false] (by kernel_rfl) rfl rfl ⟨z4, z5, y0⟩ (fun hHeld => ?_)
        refine pure_ (i := 0) (N := some 33) (v := ?_) (a' := ?_) #[true, false, false, false, false, false, false, false, false, false, false] rfl rfl (by kernel_rfl) (fun _ _ _ h => h) (Or.inl ⟨by rfl, ?_⟩) ?_ ?_
        rotate_left
        · intro w'
          go_simp
          with_reducible rfl
        rotate_left
        · simp only [Act.put, List.setIfInBounds_toArray, List.set_cons_zero, List.set_cons_succ, i64_w, i32_w]
          rfl
        refine pure_ (i := 1) (N := some 34) (v := ?_) (a' := ?_) #[true, true, false, false, false, false, false, false, false, false, false] rfl rfl (by kernel_rfl) (fun _ _ _ h => h) (Or.inl ⟨by rfl, ?_⟩) ?_ ?_
        rotate_left
        · intro w'
          go_simp
          with_reducible rfl
        rotate_left
        · simp only [Act.put, List.setIfInBounds_toArray, List.set_cons_zero, List.set_cons_succ, i64_w, i32_w]
          rfl
        refine pure_ (i := 3) (N := some 36) (v := ?_) (a' := ?_) #[true, true, false, true, false, false, false, false, false, false, false] rfl rfl (by kernel_rfl) (fun _ _ _ h => h) (Or.inl ⟨by rfl, ?_⟩) ?_ ?_
        rotate_left
        · intro w'
          go_simp
          with_reducible rfl
        rotate_left
        · simp only [Act.put, List.setIfInBounds_toArray, List.set_cons_zero, List.set_cons_succ, i64_w, i32_w]
          rfl
        refine pure_ (i := 6) (N := some 39) (v := ?_) (a' := ?_) #[true, true, false, true, false, false, true, false, false, false, false] rfl rfl (by kernel_rfl) (fun _ _ _ h => h) (Or.inl ⟨by rfl, ?_⟩) ?_ ?_
        rotate_left
        · intro w'
          go_simp
          with_reducible rfl
        rotate_left
        · simp only [Act.put, List.setIfInBounds_toArray, List.set_cons_zero, List.set_cons_succ, i64_w, i32_w]
          rfl
        refine take_ (i := 2) (N := some 35) (v := ?_) (a' := ?_) #[true, true, true, true, false, false, true, false, false, false, false] rfl rfl (by kernel_rfl) (fun _ _ _ h => h) (Or.inl ⟨by rfl, ?_⟩) hHeld ?_ ?_
        rotate_left
        · rintro w' ⟨s0, s1, s2⟩
          go_simp
          with_reducible rfl
        rotate_left
        · simp only [Act.put, List.setIfInBounds_toArray, List.set_cons_zero, List.set_cons_succ, i64_w, i32_w]
          rfl
        refine take_ (i := 4) (N := some 37) (v := ?_) (a' := ?_) #[true, true, true, true, true, false, true, false, false, false, false] rfl rfl (by kernel_rfl) (fun _ _ _ h => h) (Or.inl ⟨by rfl, ?_⟩) hHeld ?_ ?_
        rotate_left
        · rintro w' ⟨s0, s1, s2⟩
          go_simp
          with_reducible rfl
        rotate_left
        · simp only [Act.put, List.setIfInBounds_toArray, List.set_cons_zero, List.set_cons_succ, i64_w, i32_w]
          rfl
        refine take_ (i := 7) (N := some 40) (v := ?_) (a' := ?_) #[true, true, true, true, true, false, true, true, false, false, false] rfl rfl (by kernel_rfl) (fun _ _ _ h => h) (Or.inl ⟨by rfl, ?_⟩) hHeld ?_ ?_
        rotate_left
        · rintro w' ⟨s0, s1, s2⟩
          go_simp
          with_reducible rfl
        rotate_left
        · simp only [Act.put, List.setIfInBounds_toArray, List.set_cons_zero, List.set_cons_succ, i64_w, i32_w]
          rfl
        refine one_ (i := 5) (N := some 38) #[true, true, true, true, true, true, true, true, false, false, false] rfl rfl (by kernel_rfl) (by decide) (fun K hK => ?_)
        refine goes_ Try.func43 (by kernel_rfl) rfl #[.int .i64 v, .int .i64 p4, .int .i64 p5] (by rfl) rfl rfl (by (try simp only [List.map_toArray, List.map_cons, List.map_nil]); first | done | rfl) ?_
        refine (cents_Clamp.calls k _ _ _ cl _ HCLA.out).mono ?_
        rintro e w6 ⟨rfl, ⟨nd, rfl⟩⟩
        refine ⟨_, rfl, ?_⟩
        refine hK.out _ _ hHeld ?_
        clear hK K
        intro hHeld
        refine norm_ (a' := ?_) ?_ ?_
        rotate_left
        · show Act.put _ (some 38) _ = _
          simp only [Act.put, List.setIfInBounds_toArray, List.set_cons_zero, List.set_cons_succ, i64_w, i32_w]
          rfl
        refine pure_ (i := 8) (N := some 4) (v := ?_) (a' := ?_) #[true, true, true, true, true, true, true, true, true, false, false] rfl rfl (by kernel_rfl) (fun _ _ _ h => h) (Or.inl ⟨by rfl, ?_⟩) ?_ ?_
        rotate_left
        · intro w'
          go_simp
          with_reducible rfl
        rotate_left
        · simp only [Act.put, List.setIfInBounds_toArray, List.set_cons_zero, List.set_cons_succ, i64_w, i32_w]
          rfl
        refine pure_ (i := 9) (N := some 5) (v := ?_) (a' := ?_) #[true, true, true, true, true, true, true, true, true, true, false] rfl rfl (by kernel_rfl) (fun _ _ _ h => h) (Or.inl ⟨by rfl, ?_⟩) ?_ ?_
        rotate_left
        · intro w'
          go_simp
          with_reducible rfl
        rotate_left
        · simp only [Act.put, List.setIfInBounds_toArray, List.set_cons_zero, List.set_cons_succ, i64_w, i32_w]
          rfl
        refine pure_ (i := 10) (N := some 6) (v := ?_) (a' := ?_) #[true, true, true, true, true, true, true, true, true, true, true] rfl rfl (by kernel_rfl) (fun _ _ _ h => h) (Or.inl ⟨by rfl, ?_⟩) ?_ ?_
        rotate_left
        · intro w'
          go_simp
          with_reducible rfl
        rotate_left
        · simp only [Act.put, List.setIfInBounds_toArray, List.set_cons_zero, List.set_cons_succ, i64_w, i32_w]
          rfl
        refine done_ (by kernel_rfl) ?_
        clear hHeld
        go_wp2
        have hBr : Below w.heap.size w w5 := (HB3.out.alloc HB3.out.size (.cells #[.int .i64 1, .func (.func 78) #[] #[.pointer (some ⟨b5, 0, none⟩), .pointer (some ⟨b3, 0, none⟩), .pointer (some ⟨b2, 0, none⟩)]] 84)).trans (HB5.out.mono (Nat.le_trans HB3.out.size (by simp)))
        refine bodyPost_ret (v := .tuple #[.int .i64 cl, .int .i64 1, .int .i64 0]) (by simp [results, Try.results16, go_sem]) rfl ⟨rfl, pw_below_drewN (below_drew1 hBr) _⟩
      | false =>
        rw [if_neg (by decide)] at hg1
        have HG3 := Aside0.mk hg1
        clear hg1
        go_wp2_with (go_at_call 78; (refine (rule1_calls k p0 p1 p2 p3 p4 p5 p6 _ _ l q1 q2 q3 q4 q5 q6 q7 win Aw cw b5 b3 b2 v _ _ (blk_alloc h5 _) (blk_alloc h3 _) (blk_alloc h2 _) (Kd.C_alloc HC3.out _) HCWL.out HO.out).mono ?_); rintro e1 w5 ⟨rfl, hb5⟩; have HB5 := Aside0.mk hb5; clear hb5)
        have hBr : Below w.heap.size w w5 := (HB3.out.alloc HB3.out.size (.cells #[.int .i64 1, .func (.func 78) #[] #[.pointer (some ⟨b5, 0, none⟩), .pointer (some ⟨b3, 0, none⟩), .pointer (some ⟨b2, 0, none⟩)]] 84)).trans (HB5.out.mono (Nat.le_trans HB3.out.size (by simp)))
        go_roundg (gk - 1)
        case measure => have := Hk.out; omega
        case rel => exact ⟨1, by go_num, ⟨by have := Hk.out; omega⟩, HG3, ⟨blk_below (blk_alloc h6 _) HB5.out, blk_below (blk_alloc h2 _) HB5.out, blk_below (blk_alloc h3 _) HB5.out, blk_below (blk_alloc h5 _) HB5.out⟩, ⟨Kd.C_below (Kd.C_alloc HC3.out _) HB5.out⟩, ⟨blk_below (blk_alloc HP2.out _) HB5.out⟩, ⟨hBr⟩⟩
    · have hg := HG2.out
      simp only [List.drop_succ_cons, List.drop_zero, priceGo] at hg
      obtain ⟨⟨v, o⟩, ho, hg1⟩ := Option.bind_eq_some_iff.1 hg
      have HO := Aside0.mk ho
      dsimp only at hg1
      have x0 : wr.cell? ⟨b6, 2, none⟩ = some (.int .i64 2) := blk_cell h6 2
      have x1 : wr.cell? ⟨b6, 3, none⟩ = some (.func (.func 79) #[] #[.pointer (some ⟨b3, 0, none⟩), .pointer (some ⟨b2, 0, none⟩)]) := blk_cell h6 3
      clear hg ho HG2
      cases o with
      | true =>
        rw [if_pos rfl] at hg1
        obtain ⟨cl, hcl, hg2⟩ := Option.bind_eq_some_iff.1 hg1
        obtain ⟨rfl, rfl, rfl⟩ : cl = r1 ∧ _ = r2 ∧ 0 = r3 := by simpa using hg2
        have HCLA := Aside0.mk hcl
        clear hg1 hg2 hcl
        go_wp2_with (go_at_call 79; (refine (rule2_calls k p0 p1 p2 p3 p4 p5 p6 A c l q1 q2 q3 q4 q5 q6 q7 b3 b2 v _ _ (blk_alloc h3 _) (blk_alloc h2 _) HO.out).mono ?_); rintro e1 w5 ⟨rfl, hb5⟩; have HB5 := Aside0.mk hb5; clear hb5)
        have y0 : w5.cell? ⟨wr.heap.size, 0, none⟩ = some (.int .i64 2) := blk_cell (blk_below (blk_new wr (.cells #[.int .i64 2, .func (.func 79) #[] #[.pointer (some ⟨b3, 0, none⟩), .pointer (some ⟨b2, 0, none⟩)]] 84)) HB5.out) 0
        have z4 : w5.cell? ⟨w.heap.size, 4, none⟩ = some (.int .i64 p4) := blk_cell (blk_below (blk_alloc HP2.out (.cells #[.int .i64 2, .func (.func 79) #[] #[.pointer (some ⟨b3, 0, none⟩), .pointer (some ⟨b2, 0, none⟩)]] 84)) HB5.out) 4
        have z5 : w5.cell? ⟨w.heap.size, 5, none⟩ = some (.int .i64 p5) := blk_cell (blk_below (blk_alloc HP2.out (.cells #[.int .i64 2, .func (.func 79) #[] #[.pointer (some ⟨b3, 0, none⟩), .pointer (some ⟨b2, 0, none⟩)]] 84)) HB5.out) 5
        refine start_ (n := 11) (S := fun w' => w'.cell? ⟨w.heap.size, 4, none⟩ = some (.int .i64 p4) ∧ w'.cell? ⟨w.heap.size, 5, none⟩ = some (.int .i64 p5) ∧ w'.cell? ⟨wr.heap.size, 0, none⟩ = some (.int .i64 2)) (ds := []) #[false, false, false, false, false, false, false, false, false, false, false] (by kernel_rfl) rfl rfl ⟨z4, z5, y0⟩ (fun hHeld => ?_)
        refine pure_ (i := 0) (N := some 33) (v := ?_) (a' := ?_) #[true, false, false, false, false, false, false, false, false, false, false] rfl rfl (by kernel_rfl) (fun _ _ _ h => h) (Or.inl ⟨by rfl, ?_⟩) ?_ ?_
        rotate_left
        · intro w'
          go_simp
          with_reducible rfl
        rotate_left
        · simp only [Act.put, List.setIfInBounds_toArray, List.set_cons_zero, List.set_cons_succ, i64_w, i32_w]
          rfl
        refine pure_ (i := 1) (N := some 34) (v := ?_) (a' := ?_) #[true, true, false, false, false, false, false, false, false, false, false] rfl rfl (by kernel_rfl) (fun _ _ _ h => h) (Or.inl ⟨by rfl, ?_⟩) ?_ ?_
        rotate_left
        · intro w'
          go_simp
          with_reducible rfl
        rotate_left
        · simp only [Act.put, List.setIfInBounds_toArray, List.set_cons_zero, List.set_cons_succ, i64_w, i32_w]
          rfl
        refine pure_ (i := 3) (N := some 36) (v := ?_) (a' := ?_) #[true, true, false, true, false, false, false, false, false, false, false] rfl rfl (by kernel_rfl) (fun _ _ _ h => h) (Or.inl ⟨by rfl, ?_⟩) ?_ ?_
        rotate_left
        · intro w'
          go_simp
          with_reducible rfl
        rotate_left
        · simp only [Act.put, List.setIfInBounds_toArray, List.set_cons_zero, List.set_cons_succ, i64_w, i32_w]
          rfl
        refine pure_ (i := 6) (N := some 39) (v := ?_) (a' := ?_) #[true, true, false, true, false, false, true, false, false, false, false] rfl rfl (by kernel_rfl) (fun _ _ _ h => h) (Or.inl ⟨by rfl, ?_⟩) ?_ ?_
        rotate_left
        · intro w'
          go_simp
          with_reducible rfl
        rotate_left
        · simp only [Act.put, List.setIfInBounds_toArray, List.set_cons_zero, List.set_cons_succ, i64_w, i32_w]
          rfl
        refine take_ (i := 2) (N := some 35) (v := ?_) (a' := ?_) #[true, true, true, true, false, false, true, false, false, false, false] rfl rfl (by kernel_rfl) (fun _ _ _ h => h) (Or.inl ⟨by rfl, ?_⟩) hHeld ?_ ?_
        rotate_left
        · rintro w' ⟨s0, s1, s2⟩
          go_simp
          with_reducible rfl
        rotate_left
        · simp only [Act.put, List.setIfInBounds_toArray, List.set_cons_zero, List.set_cons_succ, i64_w, i32_w]
          rfl
        refine take_ (i := 4) (N := some 37) (v := ?_) (a' := ?_) #[true, true, true, true, true, false, true, false, false, false, false] rfl rfl (by kernel_rfl) (fun _ _ _ h => h) (Or.inl ⟨by rfl, ?_⟩) hHeld ?_ ?_
        rotate_left
        · rintro w' ⟨s0, s1, s2⟩
          go_simp
          with_reducible rfl
        rotate_left
        · simp only [Act.put, List.setIfInBounds_toArray, List.set_cons_zero, List.set_cons_succ, i64_w, i32_w]
          rfl
        refine take_ (i := 7) (N := some 40) (v := ?_) (a' := ?_) #[true, true, true, true, true, false, true, true, false, false, false] rfl rfl (by kernel_rfl) (fun _ _ _ h => h) (Or.inl ⟨by rfl, ?_⟩) hHeld ?_ ?_
        rotate_left
        · rintro w' ⟨s0, s1, s2⟩
          go_simp
          with_reducible rfl
        rotate_left
        · simp only [Act.put, List.setIfInBounds_toArray, List.set_cons_zero, List.set_cons_succ, i64_w, i32_w]
          rfl
        refine one_ (i := 5) (N := some 38) #[true, true, true, true, true, true, true, true, false, false, false] rfl rfl (by kernel_rfl) (by decide) (fun K hK => ?_)
        refine goes_ Try.func43 (by kernel_rfl) rfl #[.int .i64 v, .int .i64 p4, .int .i64 p5] (by rfl) rfl rfl (by (try simp only [List.map_toArray, List.map_cons, List.map_nil]); first | done | rfl) ?_
        refine (cents_Clamp.calls k _ _ _ cl _ HCLA.out).mono ?_
        rintro e w6 ⟨rfl, ⟨nd, rfl⟩⟩
        refine ⟨_, rfl, ?_⟩
        refine hK.out _ _ hHeld ?_
        clear hK K
        intro hHeld
        refine norm_ (a' := ?_) ?_ ?_
        rotate_left
        · show Act.put _ (some 38) _ = _
          simp only [Act.put, List.setIfInBounds_toArray, List.set_cons_zero, List.set_cons_succ, i64_w, i32_w]
          rfl
        refine pure_ (i := 8) (N := some 4) (v := ?_) (a' := ?_) #[true, true, true, true, true, true, true, true, true, false, false] rfl rfl (by kernel_rfl) (fun _ _ _ h => h) (Or.inl ⟨by rfl, ?_⟩) ?_ ?_
        rotate_left
        · intro w'
          go_simp
          with_reducible rfl
        rotate_left
        · simp only [Act.put, List.setIfInBounds_toArray, List.set_cons_zero, List.set_cons_succ, i64_w, i32_w]
          rfl
        refine pure_ (i := 9) (N := some 5) (v := ?_) (a' := ?_) #[true, true, true, true, true, true, true, true, true, true, false] rfl rfl (by kernel_rfl) (fun _ _ _ h => h) (Or.inl ⟨by rfl, ?_⟩) ?_ ?_
        rotate_left
        · intro w'
          go_simp
          with_reducible rfl
        rotate_left
        · simp only [Act.put, List.setIfInBounds_toArray, List.set_cons_zero, List.set_cons_succ, i64_w, i32_w]
          rfl
        refine pure_ (i := 10) (N := some 6) (v := ?_) (a' := ?_) #[true, true, true, true, true, true, true, true, true, true, true] rfl rfl (by kernel_rfl) (fun _ _ _ h => h) (Or.inl ⟨by rfl, ?_⟩) ?_ ?_
        rotate_left
        · intro w'
          go_simp
          with_reducible rfl
        rotate_left
        · simp only [Act.put, List.setIfInBounds_toArray, List.set_cons_zero, List.set_cons_succ, i64_w, i32_w]
          rfl
        refine done_ (by kernel_rfl) ?_
        clear hHeld
        go_wp2
        have hBr : Below w.heap.size w w5 := (HB3.out.alloc HB3.out.size (.cells #[.int .i64 2, .func (.func 79) #[] #[.pointer (some ⟨b3, 0, none⟩), .pointer (some ⟨b2, 0, none⟩)]] 84)).trans (HB5.out.mono (Nat.le_trans HB3.out.size (by simp)))
        refine bodyPost_ret (v := .tuple #[.int .i64 cl, .int .i64 2, .int .i64 0]) (by simp [results, Try.results16, go_sem]) rfl ⟨rfl, pw_below_drewN (below_drew1 hBr) _⟩
      | false =>
        rw [if_neg (by decide)] at hg1
        have HG3 := Aside0.mk hg1
        clear hg1
        go_wp2_with (go_at_call 79; (refine (rule2_calls k p0 p1 p2 p3 p4 p5 p6 A c l q1 q2 q3 q4 q5 q6 q7 b3 b2 v _ _ (blk_alloc h3 _) (blk_alloc h2 _) HO.out).mono ?_); rintro e1 w5 ⟨rfl, hb5⟩; have HB5 := Aside0.mk hb5; clear hb5)
        have hBr : Below w.heap.size w w5 := (HB3.out.alloc HB3.out.size (.cells #[.int .i64 2, .func (.func 79) #[] #[.pointer (some ⟨b3, 0, none⟩), .pointer (some ⟨b2, 0, none⟩)]] 84)).trans (HB5.out.mono (Nat.le_trans HB3.out.size (by simp)))
        go_roundg (gk - 1)
        case measure => have := Hk.out; omega
        case rel => exact ⟨2, by go_num, ⟨by have := Hk.out; omega⟩, HG3, ⟨blk_below (blk_alloc h6 _) HB5.out, blk_below (blk_alloc h2 _) HB5.out, blk_below (blk_alloc h3 _) HB5.out, blk_below (blk_alloc h5 _) HB5.out⟩, ⟨Kd.C_below (Kd.C_alloc HC3.out _) HB5.out⟩, ⟨blk_below (blk_alloc HP2.out _) HB5.out⟩, ⟨hBr⟩⟩
    · have hg := HG2.out
      simp only [List.drop_succ_cons, List.drop_zero, priceGo] at hg
      obtain ⟨⟨v, o⟩, ho, hg1⟩ := Option.bind_eq_some_iff.1 hg
      have HO := Aside0.mk ho
      dsimp only at hg1
      have x0 : wr.cell? ⟨b6, 4, none⟩ = some (.int .i64 3) := blk_cell h6 4
      have x1 : wr.cell? ⟨b6, 5, none⟩ = some (.func (.func 80) #[] #[.pointer (some ⟨b3, 0, none⟩)]) := blk_cell h6 5
      clear hg ho HG2
      cases o with
      | true =>
        rw [if_pos rfl] at hg1
        obtain ⟨cl, hcl, hg2⟩ := Option.bind_eq_some_iff.1 hg1
        obtain ⟨rfl, rfl, rfl⟩ : cl = r1 ∧ _ = r2 ∧ 0 = r3 := by simpa using hg2
        have HCLA := Aside0.mk hcl
        clear hg1 hg2 hcl
        go_wp2_with (go_at_call 80; (refine (rule3_calls p0 p1 p2 p3 p4 p5 p6 A c l q1 q2 q3 q4 q5 q6 q7 b3 v _ _ (blk_alloc h3 _) (Kd.C_alloc HCl.out _) hc HO.out).mono ?_); rintro e1 w5 ⟨rfl, hb5⟩; have HB5 := Aside0.mk hb5; clear hb5)
        have y0 : w5.cell? ⟨wr.heap.size, 0, none⟩ = some (.int .i64 3) := blk_cell (blk_below (blk_new wr (.cells #[.int .i64 3, .func (.func 80) #[] #[.pointer (some ⟨b3, 0, none⟩)]] 84)) HB5.out) 0
        have z4 : w5.cell? ⟨w.heap.size, 4, none⟩ = some (.int .i64 p4) := blk_cell (blk_below (blk_alloc HP2.out (.cells #[.int .i64 3, .func (.func 80) #[] #[.pointer (some ⟨b3, 0, none⟩)]] 84)) HB5.out) 4
        have z5 : w5.cell? ⟨w.heap.size, 5, none⟩ = some (.int .i64 p5) := blk_cell (blk_below (blk_alloc HP2.out (.cells #[.int .i64 3, .func (.func 80) #[] #[.pointer (some ⟨b3, 0, none⟩)]] 84)) HB5.out) 5
        refine start_ (n := 11) (S := fun w' => w'.cell? ⟨w.heap.size, 4, none⟩ = some (.int .i64 p4) ∧ w'.cell? ⟨w.heap.size, 5, none⟩ = some (.int .i64 p5) ∧ w'.cell? ⟨wr.heap.size, 0, none⟩ = some (.int .i64 3)) (ds := []) #[false, false, false, false, false, false, false, false, false, false, false] (by kernel_rfl) rfl rfl ⟨z4, z5, y0⟩ (fun hHeld => ?_)
        refine pure_ (i := 0) (N := some 33) (v := ?_) (a' := ?_) #[true, false, false, false, false, false, false, false, false, false, false] rfl rfl (by kernel_rfl) (fun _ _ _ h => h) (Or.inl ⟨by rfl, ?_⟩) ?_ ?_
        rotate_left
        · intro w'
          go_simp
          with_reducible rfl
        rotate_left
        · simp only [Act.put, List.setIfInBounds_toArray, List.set_cons_zero, List.set_cons_succ, i64_w, i32_w]
          rfl
        refine pure_ (i := 1) (N := some 34) (v := ?_) (a' := ?_) #[true, true, false, false, false, false, false, false, false, false, false] rfl rfl (by kernel_rfl) (fun _ _ _ h => h) (Or.inl ⟨by rfl, ?_⟩) ?_ ?_
        rotate_left
        · intro w'
          go_simp
          with_reducible rfl
        rotate_left
        · simp only [Act.put, List.setIfInBounds_toArray, List.set_cons_zero, List.set_cons_succ, i64_w, i32_w]
          rfl
        refine pure_ (i := 3) (N := some 36) (v := ?_) (a' := ?_) #[true, true, false, true, false, false, false, false, false, false, false] rfl rfl (by kernel_rfl) (fun _ _ _ h => h) (Or.inl ⟨by rfl, ?_⟩) ?_ ?_
        rotate_left
        · intro w'
          go_simp
          with_reducible rfl
        rotate_left
        · simp only [Act.put, List.setIfInBounds_toArray, List.set_cons_zero, List.set_cons_succ, i64_w, i32_w]
          rfl
        refine pure_ (i := 6) (N := some 39) (v := ?_) (a' := ?_) #[true, true, false, true, false, false, true, false, false, false, false] rfl rfl (by kernel_rfl) (fun _ _ _ h => h) (Or.inl ⟨by rfl, ?_⟩) ?_ ?_
        rotate_left
        · intro w'
          go_simp
          with_reducible rfl
        rotate_left
        · simp only [Act.put, List.setIfInBounds_toArray, List.set_cons_zero, List.set_cons_succ, i64_w, i32_w]
          rfl
        refine take_ (i := 2) (N := some 35) (v := ?_) (a' := ?_) #[true, true, true, true, false, false, true, false, false, false, false] rfl rfl (by kernel_rfl) (fun _ _ _ h => h) (Or.inl ⟨by rfl, ?_⟩) hHeld ?_ ?_
        rotate_left
        · rintro w' ⟨s0, s1, s2⟩
          go_simp
          with_reducible rfl
        rotate_left
        · simp only [Act.put, List.setIfInBounds_toArray, List.set_cons_zero, List.set_cons_succ, i64_w, i32_w]
          rfl
        refine take_ (i := 4) (N := some 37) (v := ?_) (a' := ?_) #[true, true, true, true, true, false, true, false, false, false, false] rfl rfl (by kernel_rfl) (fun _ _ _ h => h) (Or.inl ⟨by rfl, ?_⟩) hHeld ?_ ?_
        rotate_left
        · rintro w' ⟨s0, s1, s2⟩
          go_simp
          with_reducible rfl
        rotate_left
        · simp only [Act.put, List.setIfInBounds_toArray, List.set_cons_zero, List.set_cons_succ, i64_w, i32_w]
          rfl
        refine take_ (i := 7) (N := some 40) (v := ?_) (a' := ?_) #[true, true, true, true, true, false, true, true, false, false, false] rfl rfl (by kernel_rfl) (fun _ _ _ h => h) (Or.inl ⟨by rfl, ?_⟩) hHeld ?_ ?_
        rotate_left
        · rintro w' ⟨s0, s1, s2⟩
          go_simp
          with_reducible rfl
        rotate_left
        · simp only [Act.put, List.setIfInBounds_toArray, List.set_cons_zero, List.set_cons_succ, i64_w, i32_w]
          rfl
        refine one_ (i := 5) (N := some 38) #[true, true, true, true, true, true, true, true, false, false, false] rfl rfl (by kernel_rfl) (by decide) (fun K hK => ?_)
        refine goes_ Try.func43 (by kernel_rfl) rfl #[.int .i64 v, .int .i64 p4, .int .i64 p5] (by rfl) rfl rfl (by (try simp only [List.map_toArray, List.map_cons, List.map_nil]); first | done | rfl) ?_
        refine (cents_Clamp.calls k _ _ _ cl _ HCLA.out).mono ?_
        rintro e w6 ⟨rfl, ⟨nd, rfl⟩⟩
        refine ⟨_, rfl, ?_⟩
        refine hK.out _ _ hHeld ?_
        clear hK K
        intro hHeld
        refine norm_ (a' := ?_) ?_ ?_
        rotate_left
        · show Act.put _ (some 38) _ = _
          simp only [Act.put, List.setIfInBounds_toArray, List.set_cons_zero, List.set_cons_succ, i64_w, i32_w]
          rfl
        refine pure_ (i := 8) (N := some 4) (v := ?_) (a' := ?_) #[true, true, true, true, true, true, true, true, true, false, false] rfl rfl (by kernel_rfl) (fun _ _ _ h => h) (Or.inl ⟨by rfl, ?_⟩) ?_ ?_
        rotate_left
        · intro w'
          go_simp
          with_reducible rfl
        rotate_left
        · simp only [Act.put, List.setIfInBounds_toArray, List.set_cons_zero, List.set_cons_succ, i64_w, i32_w]
          rfl
        refine pure_ (i := 9) (N := some 5) (v := ?_) (a' := ?_) #[true, true, true, true, true, true, true, true, true, true, false] rfl rfl (by kernel_rfl) (fun _ _ _ h => h) (Or.inl ⟨by rfl, ?_⟩) ?_ ?_
        rotate_left
        · intro w'
          go_simp
          with_reducible rfl
        rotate_left
        · simp only [Act.put, List.setIfInBounds_toArray, List.set_cons_zero, List.set_cons_succ, i64_w, i32_w]
          rfl
        refine pure_ (i := 10) (N := some 6) (v := ?_) (a' := ?_) #[true, true, true, true, true, true, true, true, true, true, true] rfl rfl (by kernel_rfl) (fun _ _ _ h => h) (Or.inl ⟨by rfl, ?_⟩) ?_ ?_
        rotate_left
        · intro w'
          go_simp
          with_reducible rfl
        rotate_left
        · simp only [Act.put, List.setIfInBounds_toArray, List.set_cons_zero, List.set_cons_succ, i64_w, i32_w]
          rfl
        refine done_ (by kernel_rfl) ?_
        clear hHeld
        go_wp2
        have hBr : Below w.heap.size w w5 := (HB3.out.alloc HB3.out.size (.cells #[.int .i64 3, .func (.func 80) #[] #[.pointer (some ⟨b3, 0, none⟩)]] 84)).trans (HB5.out.mono (Nat.le_trans HB3.out.size (by simp)))
        refine bodyPost_ret (v := .tuple #[.int .i64 cl, .int .i64 3, .int .i64 0]) (by simp [results, Try.results16, go_sem]) rfl ⟨rfl, pw_below_drewN (below_drew1 hBr) _⟩
      | false =>
        rw [if_neg (by decide)] at hg1
        have HG3 := Aside0.mk hg1
        clear hg1
        go_wp2_with (go_at_call 80; (refine (rule3_calls p0 p1 p2 p3 p4 p5 p6 A c l q1 q2 q3 q4 q5 q6 q7 b3 v _ _ (blk_alloc h3 _) (Kd.C_alloc HCl.out _) hc HO.out).mono ?_); rintro e1 w5 ⟨rfl, hb5⟩; have HB5 := Aside0.mk hb5; clear hb5)
        have hBr : Below w.heap.size w w5 := (HB3.out.alloc HB3.out.size (.cells #[.int .i64 3, .func (.func 80) #[] #[.pointer (some ⟨b3, 0, none⟩)]] 84)).trans (HB5.out.mono (Nat.le_trans HB3.out.size (by simp)))
        go_roundg (gk - 1)
        case measure => have := Hk.out; omega
        case rel => exact ⟨3, by go_num, ⟨by have := Hk.out; omega⟩, HG3, ⟨blk_below (blk_alloc h6 _) HB5.out, blk_below (blk_alloc h2 _) HB5.out, blk_below (blk_alloc h3 _) HB5.out, blk_below (blk_alloc h5 _) HB5.out⟩, ⟨Kd.C_below (Kd.C_alloc HC3.out _) HB5.out⟩, ⟨blk_below (blk_alloc HP2.out _) HB5.out⟩, ⟨hBr⟩⟩
    · have hg := HG2.out
      simp only [List.drop_succ_cons, List.drop_zero, priceGo] at hg
      obtain ⟨⟨v, o⟩, ho, hg1⟩ := Option.bind_eq_some_iff.1 hg
      have HO := Aside0.mk ho
      dsimp only at hg1
      have x0 : wr.cell? ⟨b6, 6, none⟩ = some (.int .i64 4) := blk_cell h6 6
      have x1 : wr.cell? ⟨b6, 7, none⟩ = some (.func (.func 82) #[] #[.pointer (some ⟨b2, 0, none⟩), .pointer (some ⟨b3, 0, none⟩)]) := blk_cell h6 7
      clear hg ho HG2
      cases o with
      | true =>
        rw [if_pos rfl] at hg1
        obtain ⟨cl, hcl, hg2⟩ := Option.bind_eq_some_iff.1 hg1
        obtain ⟨rfl, rfl, rfl⟩ : cl = r1 ∧ _ = r2 ∧ 0 = r3 := by simpa using hg2
        have HCLA := Aside0.mk hcl
        clear hg1 hg2 hcl
        go_wp2_with (go_at_call 82; (refine (rule4_calls k p0 p1 p2 p3 p4 p5 p6 A c l q1 q2 q3 q4 q5 q6 q7 b2 b3 v _ _ (blk_alloc h2 _) (blk_alloc h3 _) HO.out).mono ?_); rintro e1 w5 ⟨rfl, hb5⟩; have HB5 := Aside0.mk hb5; clear hb5)
        have y0 : w5.cell? ⟨wr.heap.size, 0, none⟩ = some (.int .i64 4) := blk_cell (blk_below (blk_new wr (.cells #[.int .i64 4, .func (.func 82) #[] #[.pointer (some ⟨b2, 0, none⟩), .pointer (some ⟨b3, 0, none⟩)]] 84)) HB5.out) 0
        have z4 : w5.cell? ⟨w.heap.size, 4, none⟩ = some (.int .i64 p4) := blk_cell (blk_below (blk_alloc HP2.out (.cells #[.int .i64 4, .func (.func 82) #[] #[.pointer (some ⟨b2, 0, none⟩), .pointer (some ⟨b3, 0, none⟩)]] 84)) HB5.out) 4
        have z5 : w5.cell? ⟨w.heap.size, 5, none⟩ = some (.int .i64 p5) := blk_cell (blk_below (blk_alloc HP2.out (.cells #[.int .i64 4, .func (.func 82) #[] #[.pointer (some ⟨b2, 0, none⟩), .pointer (some ⟨b3, 0, none⟩)]] 84)) HB5.out) 5
        refine start_ (n := 11) (S := fun w' => w'.cell? ⟨w.heap.size, 4, none⟩ = some (.int .i64 p4) ∧ w'.cell? ⟨w.heap.size, 5, none⟩ = some (.int .i64 p5) ∧ w'.cell? ⟨wr.heap.size, 0, none⟩ = some (.int .i64 4)) (ds := []) #[false, false, false, false, false, false, false, false, false, false, false] (by kernel_rfl) rfl rfl ⟨z4, z5, y0⟩ (fun hHeld => ?_)
        refine pure_ (i := 0) (N := some 33) (v := ?_) (a' := ?_) #[true, false, false, false, false, false, false, false, false, false, false] rfl rfl (by kernel_rfl) (fun _ _ _ h => h) (Or.inl ⟨by rfl, ?_⟩) ?_ ?_
        rotate_left
        · intro w'
          go_simp
          with_reducible rfl
        rotate_left
        · simp only [Act.put, List.setIfInBounds_toArray, List.set_cons_zero, List.set_cons_succ, i64_w, i32_w]
          rfl
        refine pure_ (i := 1) (N := some 34) (v := ?_) (a' := ?_) #[true, true, false, false, false, false, false, false, false, false, false] rfl rfl (by kernel_rfl) (fun _ _ _ h => h) (Or.inl ⟨by rfl, ?_⟩) ?_ ?_
        rotate_left
        · intro w'
          go_simp
          with_reducible rfl
        rotate_left
        · simp only [Act.put, List.setIfInBounds_toArray, List.set_cons_zero, List.set_cons_succ, i64_w, i32_w]
          rfl
        refine pure_ (i := 3) (N := some 36) (v := ?_) (a' := ?_) #[true, true, false, true, false, false, false, false, false, false, false] rfl rfl (by kernel_rfl) (fun _ _ _ h => h) (Or.inl ⟨by rfl, ?_⟩) ?_ ?_
        rotate_left
        · intro w'
          go_simp
          with_reducible rfl
        rotate_left
        · simp only [Act.put, List.setIfInBounds_toArray, List.set_cons_zero, List.set_cons_succ, i64_w, i32_w]
          rfl
        refine pure_ (i := 6) (N := some 39) (v := ?_) (a' := ?_) #[true, true, false, true, false, false, true, false, false, false, false] rfl rfl (by kernel_rfl) (fun _ _ _ h => h) (Or.inl ⟨by rfl, ?_⟩) ?_ ?_
        rotate_left
        · intro w'
          go_simp
          with_reducible rfl
        rotate_left
        · simp only [Act.put, List.setIfInBounds_toArray, List.set_cons_zero, List.set_cons_succ, i64_w, i32_w]
          rfl
        refine take_ (i := 2) (N := some 35) (v := ?_) (a' := ?_) #[true, true, true, true, false, false, true, false, false, false, false] rfl rfl (by kernel_rfl) (fun _ _ _ h => h) (Or.inl ⟨by rfl, ?_⟩) hHeld ?_ ?_
        rotate_left
        · rintro w' ⟨s0, s1, s2⟩
          go_simp
          with_reducible rfl
        rotate_left
        · simp only [Act.put, List.setIfInBounds_toArray, List.set_cons_zero, List.set_cons_succ, i64_w, i32_w]
          rfl
        refine take_ (i := 4) (N := some 37) (v := ?_) (a' := ?_) #[true, true, true, true, true, false, true, false, false, false, false] rfl rfl (by kernel_rfl) (fun _ _ _ h => h) (Or.inl ⟨by rfl, ?_⟩) hHeld ?_ ?_
        rotate_left
        · rintro w' ⟨s0, s1, s2⟩
          go_simp
          with_reducible rfl
        rotate_left
        · simp only [Act.put, List.setIfInBounds_toArray, List.set_cons_zero, List.set_cons_succ, i64_w, i32_w]
          rfl
        refine take_ (i := 7) (N := some 40) (v := ?_) (a' := ?_) #[true, true, true, true, true, false, true, true, false, false, false] rfl rfl (by kernel_rfl) (fun _ _ _ h => h) (Or.inl ⟨by rfl, ?_⟩) hHeld ?_ ?_
        rotate_left
        · rintro w' ⟨s0, s1, s2⟩
          go_simp
          with_reducible rfl
        rotate_left
        · simp only [Act.put, List.setIfInBounds_toArray, List.set_cons_zero, List.set_cons_succ, i64_w, i32_w]
          rfl
        refine one_ (i := 5) (N := some 38) #[true, true, true, true, true, true, true, true, false, false, false] rfl rfl (by kernel_rfl) (by decide) (fun K hK => ?_)
        refine goes_ Try.func43 (by kernel_rfl) rfl #[.int .i64 v, .int .i64 p4, .int .i64 p5] (by rfl) rfl rfl (by (try simp only [List.map_toArray, List.map_cons, List.map_nil]); first | done | rfl) ?_
        refine (cents_Clamp.calls k _ _ _ cl _ HCLA.out).mono ?_
        rintro e w6 ⟨rfl, ⟨nd, rfl⟩⟩
        refine ⟨_, rfl, ?_⟩
        refine hK.out _ _ hHeld ?_
        clear hK K
        intro hHeld
        refine norm_ (a' := ?_) ?_ ?_
        rotate_left
        · show Act.put _ (some 38) _ = _
          simp only [Act.put, List.setIfInBounds_toArray, List.set_cons_zero, List.set_cons_succ, i64_w, i32_w]
          rfl
        refine pure_ (i := 8) (N := some 4) (v := ?_) (a' := ?_) #[true, true, true, true, true, true, true, true, true, false, false] rfl rfl (by kernel_rfl) (fun _ _ _ h => h) (Or.inl ⟨by rfl, ?_⟩) ?_ ?_
        rotate_left
        · intro w'
          go_simp
          with_reducible rfl
        rotate_left
        · simp only [Act.put, List.setIfInBounds_toArray, List.set_cons_zero, List.set_cons_succ, i64_w, i32_w]
          rfl
        refine pure_ (i := 9) (N := some 5) (v := ?_) (a' := ?_) #[true, true, true, true, true, true, true, true, true, true, false] rfl rfl (by kernel_rfl) (fun _ _ _ h => h) (Or.inl ⟨by rfl, ?_⟩) ?_ ?_
        rotate_left
        · intro w'
          go_simp
          with_reducible rfl
        rotate_left
        · simp only [Act.put, List.setIfInBounds_toArray, List.set_cons_zero, List.set_cons_succ, i64_w, i32_w]
          rfl
        refine pure_ (i := 10) (N := some 6) (v := ?_) (a' := ?_) #[true, true, true, true, true, true, true, true, true, true, true] rfl rfl (by kernel_rfl) (fun _ _ _ h => h) (Or.inl ⟨by rfl, ?_⟩) ?_ ?_
        rotate_left
        · intro w'
          go_simp
          with_reducible rfl
        rotate_left
        · simp only [Act.put, List.setIfInBounds_toArray, List.set_cons_zero, List.set_cons_succ, i64_w, i32_w]
          rfl
        refine done_ (by kernel_rfl) ?_
        clear hHeld
        go_wp2
        have hBr : Below w.heap.size w w5 := (HB3.out.alloc HB3.out.size (.cells #[.int .i64 4, .func (.func 82) #[] #[.pointer (some ⟨b2, 0, none⟩), .pointer (some ⟨b3, 0, none⟩)]] 84)).trans (HB5.out.mono (Nat.le_trans HB3.out.size (by simp)))
        refine bodyPost_ret (v := .tuple #[.int .i64 cl, .int .i64 4, .int .i64 0]) (by simp [results, Try.results16, go_sem]) rfl ⟨rfl, pw_below_drewN (below_drew1 hBr) _⟩
      | false =>
        rw [if_neg (by decide)] at hg1
        have HG3 := Aside0.mk hg1
        clear hg1
        go_wp2_with (go_at_call 82; (refine (rule4_calls k p0 p1 p2 p3 p4 p5 p6 A c l q1 q2 q3 q4 q5 q6 q7 b2 b3 v _ _ (blk_alloc h2 _) (blk_alloc h3 _) HO.out).mono ?_); rintro e1 w5 ⟨rfl, hb5⟩; have HB5 := Aside0.mk hb5; clear hb5)
        have hBr : Below w.heap.size w w5 := (HB3.out.alloc HB3.out.size (.cells #[.int .i64 4, .func (.func 82) #[] #[.pointer (some ⟨b2, 0, none⟩), .pointer (some ⟨b3, 0, none⟩)]] 84)).trans (HB5.out.mono (Nat.le_trans HB3.out.size (by simp)))
        go_roundg (gk - 1)
        case measure => have := Hk.out; omega
        case rel => exact ⟨4, by go_num, ⟨by have := Hk.out; omega⟩, HG3, ⟨blk_below (blk_alloc h6 _) HB5.out, blk_below (blk_alloc h2 _) HB5.out, blk_below (blk_alloc h3 _) HB5.out, blk_below (blk_alloc h5 _) HB5.out⟩, ⟨Kd.C_below (Kd.C_alloc HC3.out _) HB5.out⟩, ⟨blk_below (blk_alloc HP2.out _) HB5.out⟩, ⟨hBr⟩⟩
    · have hg := HG2.out
      simp only [List.drop_succ_cons, List.drop_zero, priceGo] at hg
      obtain ⟨rfl, rfl, rfl⟩ : 0 = r1 ∧ 0 = r2 ∧ 17 = r3 := by simpa using hg
      clear hg HG2
      go_wp2
      refine bodyPost_ret (v := .tuple #[.int .i64 0, .int .i64 0, .int .i64 17]) (by simp [results, Try.results16, go_sem]) rfl ⟨rfl, HB3.out⟩
end Go.Proofs.Ytocndpddghefhaa.X
end
section
namespace Go.Proofs.Ytocndpddghefhaa.X
open Go.RowKit Go.Proofs.YtocndpddghefhaaW.PrintWords Go.Proofs.YtocndpddghefhaaW.PrintLast Go.Proofs.YtocndpddghefhaaW.PrintMore
attribute [local go_sem] max2_int min2_int max_two min_two max_three min_three max_four min_four
set_option linter.unusedVariables false
set_option linter.unusedSimpArgs false
def contangolaw18_goes.f (k : Nat)  : Option (Bool) := (some (([(⟨150, 6, 20⟩ : S49), (⟨160, 4, 30⟩ : S49)] : List (S49)) : List (S49))).bind fun y101 => ((contangolaw18_oil.f).bind fun bt105 => ((mark_Price.f k bt105.1 bt105.2.1 bt105.2.2.1 bt105.2.2.2.1 bt105.2.2.2.2.1 bt105.2.2.2.2.2.1 bt105.2.2.2.2.2.2 y101 100 200 10 0 0 50 0).bind fun bt112 => (if 1 ≤ (y101.length : Int) then ((contangolaw18_oil.f).bind fun bt118 => ((mark_Price.f k bt118.1 bt118.2.1 bt118.2.2.1 bt118.2.2.2.1 bt118.2.2.2.2.1 bt118.2.2.2.2.2.1 bt118.2.2.2.2.2.2 (y101.take (1 : Int).toNat) 100 200 10 25 0 50 0).bind fun bt125 => ((contangolaw18_oil.f).bind fun bt128 => ((mark_Price.f k bt128.1 bt128.2.1 bt128.2.2.1 bt128.2.2.2.1 bt128.2.2.2.2.1 bt128.2.2.2.2.2.1 bt128.2.2.2.2.2.2 ([] : List (S49)) 100 200 10 0 0 50 (-7)).bind fun bt135 => ((mark_Mid.f k 20 25 5).bind fun bt138 => (if bt112.1 = 25 then (if bt112.2.1 = 1 then (if bt112.2.2 = 0 then (if bt125.1 = 25 then (if bt125.2.1 = 3 then (if bt125.2.2 = 0 then (if bt135.1 = 45 then (if bt135.2.1 = 4 then (if bt135.2.2 = 0 then (if bt138.1 = 20 then (some (bt138.2 == 0)) else (none)) else (none)) else (none)) else (none)) else (none)) else (none)) else (none)) else (none)) else (none)) else (none))))))) else (none))))
theorem contangolaw18_goes.mono : ∀ k, LeO (contangolaw18_goes.f k ) (contangolaw18_goes.f (k + 1) ) := by
  intro  k
  unfold contangolaw18_goes.f
  repeat' first
      | (with_reducible exact mark_Mid.mono _ _ _ _)
      | (with_reducible exact mark_Price.mono _ _ _ _ _ _ _ _ _ _ _ _ _ _ _ _)
      | (with_reducible exact LeO.refl _)
      | (with_reducible exact LeO.none _)
      | (with_reducible refine LeO.ite ?_ ?_)
      | (with_reducible refine LeO.bind ?_ (fun _ => ?_))
      | exact mark_Mid.mono _ _ _ _
      | exact mark_Price.mono _ _ _ _ _ _ _ _ _ _ _ _ _ _ _ _
      | exact LeO.none _
      | refine LeO.ite ?_ ?_
      | refine LeO.bind ?_ (fun _ => ?_)
def contangolaw18_goes.T2 : Bool × List (List Nat × List Nat) := (true, [([], []), ([], []), ([0, 1, 0], [0, 1]), ([2], [2]), ([3], [3]), ([3], [3]), ([3], [3]), ([4, 2, 0, 1, 2, 3, 4], [4]), ([5, 7, 0, 1, 2, 3, 4, 5, 7], [5]), ([6, 8, 0, 1, 2, 3, 4, 5, 6, 7, 8], [6])])
def contangolaw18_goes.B2 : List Nat := [0, 0, 3, 7, 15, 15, 15, 31, 191, 511]
theorem contangolaw18_goes.tab2 : rtab .any (opsOf Try.f20 2) = contangolaw18_goes.T2 := by kernel_rfl
theorem contangolaw18_goes.bits2 : waitsOk contangolaw18_goes.T2.2 contangolaw18_goes.B2 = true := by kernel_rfl
def contangolaw18_goes.T5 : Bool × List (List Nat × List Nat) := (true, [([], []), ([], []), ([0, 1, 0], [0, 1]), ([2], [2]), ([3], [3]), ([3], [3]), ([3], [3]), ([4, 2, 0, 1, 2, 3, 4], [4]), ([5, 7, 0, 1, 2, 3, 4, 5, 7], [5]), ([6, 8, 0, 1, 2, 3, 4, 5, 6, 7, 8], [6])])
def contangolaw18_goes.B5 : List Nat := [0, 0, 3, 7, 15, 15, 15, 31, 191, 511]
theorem contangolaw18_goes.tab5 : rtab .any (opsOf Try.f20 5) = contangolaw18_goes.T5 := by kernel_rfl
theorem contangolaw18_goes.bits5 : waitsOk contangolaw18_goes.T5.2 contangolaw18_goes.B5 = true := by kernel_rfl
set_option maxHeartbeats 8000000 in
set_option maxRecDepth 100000 in
theorem contangolaw18_goes.calls (k : Nat)  (r : Bool) (w : World) (h : contangolaw18_goes.f k  = some r) :
    Calls Try.prog 20 #[] w fun e w' => e = .returned (.bool r) ∧ Below w.heap.size w w' := by
  have hu49 := Try.underlying49
  have hu36 := Try.underlying36
  have HB := Aside0.mk (Below.refl w.heap.size w)
  have H : ((some (([(⟨150, 6, 20⟩ : S49), (⟨160, 4, 30⟩ : S49)] : List (S49)) : List (S49))).bind fun y101 => ((contangolaw18_oil.f).bind fun bt105 => ((mark_Price.f k bt105.1 bt105.2.1 bt105.2.2.1 bt105.2.2.2.1 bt105.2.2.2.2.1 bt105.2.2.2.2.2.1 bt105.2.2.2.2.2.2 y101 100 200 10 0 0 50 0).bind fun bt112 => (if 1 ≤ (y101.length : Int) then ((contangolaw18_oil.f).bind fun bt118 => ((mark_Price.f k bt118.1 bt118.2.1 bt118.2.2.1 bt118.2.2.2.1 bt118.2.2.2.2.1 bt118.2.2.2.2.2.1 bt118.2.2.2.2.2.2 (y101.take (1 : Int).toNat) 100 200 10 25 0 50 0).bind fun bt125 => ((contangolaw18_oil.f).bind fun bt128 => ((mark_Price.f k bt128.1 bt128.2.1 bt128.2.2.1 bt128.2.2.2.1 bt128.2.2.2.2.1 bt128.2.2.2.2.2.1 bt128.2.2.2.2.2.2 ([] : List (S49)) 100 200 10 0 0 50 (-7)).bind fun bt135 => ((mark_Mid.f k 20 25 5).bind fun bt138 => (if bt112.1 = 25 then (if bt112.2.1 = 1 then (if bt112.2.2 = 0 then (if bt125.1 = 25 then (if bt125.2.1 = 3 then (if bt125.2.2 = 0 then (if bt135.1 = 45 then (if bt135.2.1 = 4 then (if bt135.2.2 = 0 then (if bt138.1 = 20 then (some (bt138.2 == 0)) else (none)) else (none)) else (none)) else (none)) else (none)) else (none)) else (none)) else (none)) else (none)) else (none))))))) else (none))))) = some r := h
  clear h
  obtain ⟨y101, hy101⟩ : ∃ y_ : List (S49), y_ = (([(⟨150, 6, 20⟩ : S49), (⟨160, 4, 30⟩ : S49)] : List (S49))) := ⟨_, rfl⟩
  replace H : ((contangolaw18_oil.f).bind fun bt105 => ((mark_Price.f k bt105.1 bt105.2.1 bt105.2.2.1 bt105.2.2.2.1 bt105.2.2.2.2.1 bt105.2.2.2.2.2.1 bt105.2.2.2.2.2.2 y101 100 200 10 0 0 50 0).bind fun bt112 => (if 1 ≤ (y101.length : Int) then ((contangolaw18_oil.f).bind fun bt118 => ((mark_Price.f k bt118.1 bt118.2.1 bt118.2.2.1 bt118.2.2.2.1 bt118.2.2.2.2.1 bt118.2.2.2.2.2.1 bt118.2.2.2.2.2.2 (y101.take (1 : Int).toNat) 100 200 10 25 0 50 0).bind fun bt125 => ((contangolaw18_oil.f).bind fun bt128 => ((mark_Price.f k bt128.1 bt128.2.1 bt128.2.2.1 bt128.2.2.2.1 bt128.2.2.2.2.1 bt128.2.2.2.2.2.1 bt128.2.2.2.2.2.2 ([] : List (S49)) 100 200 10 0 0 50 (-7)).bind fun bt135 => ((mark_Mid.f k 20 25 5).bind fun bt138 => (if bt112.1 = 25 then (if bt112.2.1 = 1 then (if bt112.2.2 = 0 then (if bt125.1 = 25 then (if bt125.2.1 = 3 then (if bt125.2.2 = 0 then (if bt135.1 = 45 then (if bt135.2.1 = 4 then (if bt135.2.2 = 0 then (if bt138.1 = 20 then (some (bt138.2 == 0)) else (none)) else (none)) else (none)) else (none)) else (none)) else (none)) else (none)) else (none)) else (none)) else (none))))))) else (none)))) = some r := by first | (rw [hy101]; with_reducible exact H) | (have H2_ := (Option.bind_some _ _).symm.trans H; rw [hy101]; with_reducible exact H2_) | (have H2_ := (Option.bind_some _ _).symm.trans H; with_reducible exact H2_) | with_reducible exact H | (rw [hy101]; exact H) | exact H
  have Ny101 := Aside0.mk hy101
  clear hy101
  replace H := Option.bind_eq_some_iff.mp H
  obtain ⟨⟨t105, t106, t107, t108, t109, t110, t111⟩, A10, H⟩ := H
  replace H : ((mark_Price.f k t105 t106 t107 t108 t109 t110 t111 y101 100 200 10 0 0 50 0).bind fun bt112 => (if 1 ≤ (y101.length : Int) then ((contangolaw18_oil.f).bind fun bt118 => ((mark_Price.f k bt118.1 bt118.2.1 bt118.2.2.1 bt118.2.2.2.1 bt118.2.2.2.2.1 bt118.2.2.2.2.2.1 bt118.2.2.2.2.2.2 (y101.take (1 : Int).toNat) 100 200 10 25 0 50 0).bind fun bt125 => ((contangolaw18_oil.f).bind fun bt128 => ((mark_Price.f k bt128.1 bt128.2.1 bt128.2.2.1 bt128.2.2.2.1 bt128.2.2.2.2.1 bt128.2.2.2.2.2.1 bt128.2.2.2.2.2.2 ([] : List (S49)) 100 200 10 0 0 50 (-7)).bind fun bt135 => ((mark_Mid.f k 20 25 5).bind fun bt138 => (if bt112.1 = 25 then (if bt112.2.1 = 1 then (if bt112.2.2 = 0 then (if bt125.1 = 25 then (if bt125.2.1 = 3 then (if bt125.2.2 = 0 then (if bt135.1 = 45 then (if bt135.2.1 = 4 then (if bt135.2.2 = 0 then (if bt138.1 = 20 then (some (bt138.2 == 0)) else (none)) else (none)) else (none)) else (none)) else (none)) else (none)) else (none)) else (none)) else (none)) else (none))))))) else (none))) = some r := H
  have A1 := Aside0.mk A10
  clear A10
  replace H := Option.bind_eq_some_iff.mp H
  obtain ⟨⟨t112, t113, t114⟩, A20, H⟩ := H
  replace H : (if 1 ≤ (y101.length : Int) then ((contangolaw18_oil.f).bind fun bt118 => ((mark_Price.f k bt118.1 bt118.2.1 bt118.2.2.1 bt118.2.2.2.1 bt118.2.2.2.2.1 bt118.2.2.2.2.2.1 bt118.2.2.2.2.2.2 (y101.take (1 : Int).toNat) 100 200 10 25 0 50 0).bind fun bt125 => ((contangolaw18_oil.f).bind fun bt128 => ((mark_Price.f k bt128.1 bt128.2.1 bt128.2.2.1 bt128.2.2.2.1 bt128.2.2.2.2.1 bt128.2.2.2.2.2.1 bt128.2.2.2.2.2.2 ([] : List (S49)) 100 200 10 0 0 50 (-7)).bind fun bt135 => ((mark_Mid.f k 20 25 5).bind fun bt138 => (if t112 = 25 then (if t113 = 1 then (if t114 = 0 then (if bt125.1 = 25 then (if bt125.2.1 = 3 then (if bt125.2.2 = 0 then (if bt135.1 = 45 then (if bt135.2.1 = 4 then (if bt135.2.2 = 0 then (if bt138.1 = 20 then (some (bt138.2 == 0)) else (none)) else (none)) else (none)) else (none)) else (none)) else (none)) else (none)) else (none)) else (none)) else (none))))))) else (none)) = some r := H
  have A2 := Aside0.mk A20
  clear A20
  by_cases c3 : 1 ≤ (y101.length : Int)
  · rw [if_pos c3] at H
    have c3b0 := eq_true c3
    have c3b1 : decide (1 ≤ (y101.length : Int)) = true := decide_eq_true c3
    clear c3
    obtain ⟨y115, hy115⟩ : ∃ y_ : List (S49), y_ = (y101.take (1 : Int).toNat) := ⟨_, rfl⟩
    replace H : ((contangolaw18_oil.f).bind fun bt118 => ((mark_Price.f k bt118.1 bt118.2.1 bt118.2.2.1 bt118.2.2.2.1 bt118.2.2.2.2.1 bt118.2.2.2.2.2.1 bt118.2.2.2.2.2.2 y115 100 200 10 25 0 50 0).bind fun bt125 => ((contangolaw18_oil.f).bind fun bt128 => ((mark_Price.f k bt128.1 bt128.2.1 bt128.2.2.1 bt128.2.2.2.1 bt128.2.2.2.2.1 bt128.2.2.2.2.2.1 bt128.2.2.2.2.2.2 ([] : List (S49)) 100 200 10 0 0 50 (-7)).bind fun bt135 => ((mark_Mid.f k 20 25 5).bind fun bt138 => (if t112 = 25 then (if t113 = 1 then (if t114 = 0 then (if bt125.1 = 25 then (if bt125.2.1 = 3 then (if bt125.2.2 = 0 then (if bt135.1 = 45 then (if bt135.2.1 = 4 then (if bt135.2.2 = 0 then (if bt138.1 = 20 then (some (bt138.2 == 0)) else (none)) else (none)) else (none)) else (none)) else (none)) else (none)) else (none)) else (none)) else (none)) else (none))))))) = some r := by first | (rw [hy115]; with_reducible exact H) | (have H2_ := (Option.bind_some _ _).symm.trans H; rw [hy115]; with_reducible exact H2_) | (have H2_ := (Option.bind_some _ _).symm.trans H; with_reducible exact H2_) | with_reducible exact H | (rw [hy115]; exact H) | exact H
    have Ny115 := Aside0.mk hy115
    clear hy115
    replace H := Option.bind_eq_some_iff.mp H
    obtain ⟨⟨t118, t119, t120, t121, t122, t123, t124⟩, A40, H⟩ := H
    replace H : ((mark_Price.f k t118 t119 t120 t121 t122 t123 t124 y115 100 200 10 25 0 50 0).bind fun bt125 => ((contangolaw18_oil.f).bind fun bt128 => ((mark_Price.f k bt128.1 bt128.2.1 bt128.2.2.1 bt128.2.2.2.1 bt128.2.2.2.2.1 bt128.2.2.2.2.2.1 bt128.2.2.2.2.2.2 ([] : List (S49)) 100 200 10 0 0 50 (-7)).bind fun bt135 => ((mark_Mid.f k 20 25 5).bind fun bt138 => (if t112 = 25 then (if t113 = 1 then (if t114 = 0 then (if bt125.1 = 25 then (if bt125.2.1 = 3 then (if bt125.2.2 = 0 then (if bt135.1 = 45 then (if bt135.2.1 = 4 then (if bt135.2.2 = 0 then (if bt138.1 = 20 then (some (bt138.2 == 0)) else (none)) else (none)) else (none)) else (none)) else (none)) else (none)) else (none)) else (none)) else (none)) else (none)))))) = some r := H
    have A4 := Aside0.mk A40
    clear A40
    replace H := Option.bind_eq_some_iff.mp H
    obtain ⟨⟨t125, t126, t127⟩, A50, H⟩ := H
    replace H : ((contangolaw18_oil.f).bind fun bt128 => ((mark_Price.f k bt128.1 bt128.2.1 bt128.2.2.1 bt128.2.2.2.1 bt128.2.2.2.2.1 bt128.2.2.2.2.2.1 bt128.2.2.2.2.2.2 ([] : List (S49)) 100 200 10 0 0 50 (-7)).bind fun bt135 => ((mark_Mid.f k 20 25 5).bind fun bt138 => (if t112 = 25 then (if t113 = 1 then (if t114 = 0 then (if t125 = 25 then (if t126 = 3 then (if t127 = 0 then (if bt135.1 = 45 then (if bt135.2.1 = 4 then (if bt135.2.2 = 0 then (if bt138.1 = 20 then (some (bt138.2 == 0)) else (none)) else (none)) else (none)) else (none)) else (none)) else (none)) else (none)) else (none)) else (none)) else (none))))) = some r := H
    have A5 := Aside0.mk A50
    clear A50
    replace H := Option.bind_eq_some_iff.mp H
    obtain ⟨⟨t128, t129, t130, t131, t132, t133, t134⟩, A60, H⟩ := H
    replace H : ((mark_Price.f k t128 t129 t130 t131 t132 t133 t134 ([] : List (S49)) 100 200 10 0 0 50 (-7)).bind fun bt135 => ((mark_Mid.f k 20 25 5).bind fun bt138 => (if t112 = 25 then (if t113 = 1 then (if t114 = 0 then (if t125 = 25 then (if t126 = 3 then (if t127 = 0 then (if bt135.1 = 45 then (if bt135.2.1 = 4 then (if bt135.2.2 = 0 then (if bt138.1 = 20 then (some (bt138.2 == 0)) else (none)) else (none)) else (none)) else (none)) else (none)) else (none)) else (none)) else (none)) else (none)) else (none)))) = some r := H
    have A6 := Aside0.mk A60
    clear A60
    replace H := Option.bind_eq_some_iff.mp H
    obtain ⟨⟨t135, t136, t137⟩, A70, H⟩ := H
    replace H : ((mark_Mid.f k 20 25 5).bind fun bt138 => (if t112 = 25 then (if t113 = 1 then (if t114 = 0 then (if t125 = 25 then (if t126 = 3 then (if t127 = 0 then (if t135 = 45 then (if t136 = 4 then (if t137 = 0 then (if bt138.1 = 20 then (some (bt138.2 == 0)) else (none)) else (none)) else (none)) else (none)) else (none)) else (none)) else (none)) else (none)) else (none)) else (none))) = some r := H
    have A7 := Aside0.mk A70
    clear A70
    replace H := Option.bind_eq_some_iff.mp H
    obtain ⟨⟨t138, t139⟩, A80, H⟩ := H
    replace H : (if t112 = 25 then (if t113 = 1 then (if t114 = 0 then (if t125 = 25 then (if t126 = 3 then (if t127 = 0 then (if t135 = 45 then (if t136 = 4 then (if t137 = 0 then (if t138 = 20 then (some (t139 == 0)) else (none)) else (none)) else (none)) else (none)) else (none)) else (none)) else (none)) else (none)) else (none)) else (none)) = some r := H
    have A8 := Aside0.mk A80
    clear A80
    by_cases c9 : t112 = 25
    · rw [if_pos c9] at H
      have c9b0 : (t112 == 25) = true := beq_iff_eq.mpr c9
      have c9b1 : (t112 != 25) = false := bne_eq_false_iff_eq.mpr c9
      clear c9
      by_cases c10 : t113 = 1
      · rw [if_pos c10] at H
        have c10b0 : (t113 == 1) = true := beq_iff_eq.mpr c10
        have c10b1 : (t113 != 1) = false := bne_eq_false_iff_eq.mpr c10
        clear c10
        by_cases c11 : t114 = 0
        · rw [if_pos c11] at H
          have c11b0 : (t114 == 0) = true := beq_iff_eq.mpr c11
          have c11b1 : (t114 != 0) = false := bne_eq_false_iff_eq.mpr c11
          clear c11
          by_cases c12 : t125 = 25
          · rw [if_pos c12] at H
            have c12b0 : (t125 == 25) = true := beq_iff_eq.mpr c12
            have c12b1 : (t125 != 25) = false := bne_eq_false_iff_eq.mpr c12
            clear c12
            by_cases c13 : t126 = 3
            · rw [if_pos c13] at H
              have c13b0 : (t126 == 3) = true := beq_iff_eq.mpr c13
              have c13b1 : (t126 != 3) = false := bne_eq_false_iff_eq.mpr c13
              clear c13
              by_cases c14 : t127 = 0
              · rw [if_pos c14] at H
                have c14b0 : (t127 == 0) = true := beq_iff_eq.mpr c14
                have c14b1 : (t127 != 0) = false := bne_eq_false_iff_eq.mpr c14
                clear c14
                by_cases c15 : t135 = 45
                · rw [if_pos c15] at H
                  have c15b0 : (t135 == 45) = true := beq_iff_eq.mpr c15
                  have c15b1 : (t135 != 45) = false := bne_eq_false_iff_eq.mpr c15
                  clear c15
                  by_cases c16 : t136 = 4
                  · rw [if_pos c16] at H
                    have c16b0 : (t136 == 4) = true := beq_iff_eq.mpr c16
                    have c16b1 : (t136 != 4) = false := bne_eq_false_iff_eq.mpr c16
                    clear c16
                    by_cases c17 : t137 = 0
                    · rw [if_pos c17] at H
                      have c17b0 : (t137 == 0) = true := beq_iff_eq.mpr c17
                      have c17b1 : (t137 != 0) = false := bne_eq_false_iff_eq.mpr c17
                      clear c17
                      by_cases c18 : t138 = 20
                      · rw [if_pos c18] at H
                        have c18b0 : (t138 == 20) = true := beq_iff_eq.mpr c18
                        have c18b1 : (t138 != 20) = false := bne_eq_false_iff_eq.mpr c18
                        clear c18
                        obtain rfl := Option.some.inj H
                        go_enter Try.func20, Try.ntmps20
                        try go_wp2_with (first | ((with_reducible refine gate_dst (N := 15) rfl ?_); refine Kd.R_lit k49 _ 49 ?hg (N := 15) ?hd (xs := ([(⟨150, 6, 20⟩ : S49), (⟨160, 4, 30⟩ : S49)] : List (S49))) (inner := [.int .i64 150, .int .i64 6, .int .i64 20, .int .i64 160, .int .i64 4, .int .i64 30]) (ok := fun _ => True) (okp := fun _ => True) ?hr ?hp (fun _ hk => hk) trivial (Below.refl _ _) (Nat.le_refl _) (by simp) ?_; (case hd => rfl); (case hg => rfl); (case hr => first | (go_simp; done) | (go_simp; rfl)); (case hp => exact (Reps.c3 (show Kd.M k49 _ _ _ (⟨150, 6, 20⟩ : S49) [.int .i64 150, .int .i64 6, .int .i64 20] from (k49_mkM _ _ _ (⟨150, 6, 20⟩ : S49) )) (Reps.c3 (show Kd.M k49 _ _ _ (⟨160, 4, 30⟩ : S49) [.int .i64 160, .int .i64 4, .int .i64 30] from (k49_mkM _ _ _ (⟨160, 4, 30⟩ : S49) )) (Reps.none _ _)))); intro v102 w19 ho20 hb hg_ hnew_; clear hg_ hnew_; (first | rw [← Ny101.out] at ho20 | (simp only [Int.reduceToNat] at ho20; rw [← Ny101.out] at ho20)); have n0_ := Aside0.mk (Kd.R_lower ho20 (below_size (by repeat (first | (with_reducible first | exact HB.out | apply below_alloc | apply pw_below_drewN | apply below_drew1) | exact HB.out)))); have n1_ := Aside0.mk (below_step (by repeat (first | (with_reducible first | exact HB.out | apply below_alloc | apply pw_below_drewN | apply below_drew1) | exact HB.out)) hb); clear HB; have HO103 := n0_; have HB := n1_; clear n0_ n1_; clear hb ho20; obtain ⟨Ao21, co21, eo21⟩ := Kd.R_slice HO103.out; subst eo21) | ((with_reducible refine gate_dst (N := 1) rfl ?_); refine box_event ?hg (N := 1) ?hd (cs := #[.slice none 0 0, .int .i64 0, .int .i64 0, .int .i64 0, .int .i64 0, .int .i64 0, .int .i64 0, .int .i64 0]) (t := 36) ?hr ?_; (case hd => rfl); (case hg => rfl); (case hr => first | (go_simp; done) | (go_simp; rfl)); intro gb104 hg w22 hbox hb; have n0_ := Aside0.mk (Kd.R_below (by (with_reducible repeat (first | apply Kd.R_alloc | apply Kd.R_drewN | apply Kd.R_drew)); exact HO103.out) hb); have n1_ := Aside0.mk (below_step (by repeat (first | (with_reducible first | exact HB.out | apply below_alloc | apply pw_below_drewN | apply below_drew1) | exact HB.out)) hb); have n2_ := Aside0.mk (hbox); have n3_ := Aside0.mk ((by rw [hg]; exact (below_size (by repeat (first | (with_reducible first | exact HB.out | apply below_alloc | apply pw_below_drewN | apply below_drew1) | exact HB.out))) : w.heap.size ≤ gb104)); have n4_ := Aside0.mk ((by rw [hg]; exact (below_size (by repeat (first | (with_reducible first | exact HB.out | apply below_alloc | apply pw_below_drewN | apply below_drew1) | exact HB.out))) : w.heap.size ≤ gb104)); clear HO103; clear HB; have HO103 := n0_; have HB := n1_; have BK104 := n2_; have GW104 := n3_; have GE104 := n4_; clear n0_ n1_ n2_ n3_ n4_; clear hb hbox hg; have hcz23_0 : w22.cell? ⟨gb104, 0, none⟩ = some (.slice none 0 0) := (blk_cell BK104.out 0).trans rfl; have hcz23_1 : w22.cell? ⟨gb104, 1, none⟩ = some (.int .i64 0) := (blk_cell BK104.out 1).trans rfl; have hcz23_2 : w22.cell? ⟨gb104, 2, none⟩ = some (.int .i64 0) := (blk_cell BK104.out 2).trans rfl; have hcz23_3 : w22.cell? ⟨gb104, 3, none⟩ = some (.int .i64 0) := (blk_cell BK104.out 3).trans rfl; have hcz23_4 : w22.cell? ⟨gb104, 4, none⟩ = some (.int .i64 0) := (blk_cell BK104.out 4).trans rfl; have hcz23_5 : w22.cell? ⟨gb104, 5, none⟩ = some (.int .i64 0) := (blk_cell BK104.out 5).trans rfl; have hcz23_6 : w22.cell? ⟨gb104, 6, none⟩ = some (.int .i64 0) := (blk_cell BK104.out 6).trans rfl; have hcz23_7 : w22.cell? ⟨gb104, 7, none⟩ = some (.int .i64 0) := (blk_cell BK104.out 7).trans rfl; have hfz23_0 := blk_frozen BK104.out 0; have hfz23_1 := blk_frozen BK104.out 1; have hfz23_2 := blk_frozen BK104.out 2; have hfz23_3 := blk_frozen BK104.out 3; have hfz23_4 := blk_frozen BK104.out 4; have hfz23_5 := blk_frozen BK104.out 5; have hfz23_6 := blk_frozen BK104.out 6; have hfz23_7 := blk_frozen BK104.out 7))
                        have n0_ : Aside0 (Kd.R k49 49 ((((((((w22.setCell ⟨gb104, 0, none⟩ (.slice Ao21 y101.length co21)).setCell ⟨gb104, 1, none⟩ (.int .i64 100)).setCell ⟨gb104, 2, none⟩ (.int .i64 200)).setCell ⟨gb104, 3, none⟩ (.int .i64 10)).setCell ⟨gb104, 4, none⟩ (.int .i64 0)).setCell ⟨gb104, 5, none⟩ (.int .i64 0)).setCell ⟨gb104, 6, none⟩ (.int .i64 50)).setCell ⟨gb104, 7, none⟩ (.int .i64 0)) w.heap.size (fun _ => True) (.slice Ao21 y101.length co21) y101) := ⟨by (with_reducible repeat (first | apply Kd.R_alloc | apply Kd.R_drewN | apply Kd.R_drew)); exact Kd.R_mono (Kd.R_far (p := ⟨gb104, 7, none⟩) (Kd.R_far (p := ⟨gb104, 6, none⟩) (Kd.R_far (p := ⟨gb104, 5, none⟩) (Kd.R_far (p := ⟨gb104, 4, none⟩) (Kd.R_far (p := ⟨gb104, 3, none⟩) (Kd.R_far (p := ⟨gb104, 2, none⟩) (Kd.R_far (p := ⟨gb104, 1, none⟩) (Kd.R_far (p := ⟨gb104, 0, none⟩) (Kd.R_types HO103.out BK104.out (by decide)) (fun _ hk => hk.2) (.slice Ao21 y101.length co21)) (fun _ hk => hk.2) (.int .i64 100)) (fun _ hk => hk.2) (.int .i64 200)) (fun _ hk => hk.2) (.int .i64 10)) (fun _ hk => hk.2) (.int .i64 0)) (fun _ hk => hk.2) (.int .i64 0)) (fun _ hk => hk.2) (.int .i64 50)) (fun _ hk => hk.2) (.int .i64 0)) (fun _ hk => trivial)⟩
                        have n1_ : Aside0 (((((((((w22.setCell ⟨gb104, 0, none⟩ (.slice Ao21 y101.length co21)).setCell ⟨gb104, 1, none⟩ (.int .i64 100)).setCell ⟨gb104, 2, none⟩ (.int .i64 200)).setCell ⟨gb104, 3, none⟩ (.int .i64 10)).setCell ⟨gb104, 4, none⟩ (.int .i64 0)).setCell ⟨gb104, 5, none⟩ (.int .i64 0)).setCell ⟨gb104, 6, none⟩ (.int .i64 50)).setCell ⟨gb104, 7, none⟩ (.int .i64 0)).heap[gb104]? = some (.cells #[.slice Ao21 y101.length co21, .int .i64 100, .int .i64 200, .int .i64 10, .int .i64 0, .int .i64 0, .int .i64 50, .int .i64 0] 36 (0, 0))) := ⟨by (with_reducible repeat (first | refine blk_drewN ?_ _ | refine blk_drew ?_ | refine blk_alloc ?_ _)); refine blk_put (cs := #[.slice Ao21 y101.length co21, .int .i64 100, .int .i64 200, .int .i64 10, .int .i64 0, .int .i64 0, .int .i64 50, .int .i64 0]) ?_ 7 _ rfl; (with_reducible repeat (first | refine blk_drewN ?_ _ | refine blk_drew ?_ | refine blk_alloc ?_ _)); refine blk_put (cs := #[.slice Ao21 y101.length co21, .int .i64 100, .int .i64 200, .int .i64 10, .int .i64 0, .int .i64 0, .int .i64 0, .int .i64 0]) ?_ 6 _ rfl; (with_reducible repeat (first | refine blk_drewN ?_ _ | refine blk_drew ?_ | refine blk_alloc ?_ _)); refine blk_put (cs := #[.slice Ao21 y101.length co21, .int .i64 100, .int .i64 200, .int .i64 10, .int .i64 0, .int .i64 0, .int .i64 0, .int .i64 0]) ?_ 5 _ rfl; (with_reducible repeat (first | refine blk_drewN ?_ _ | refine blk_drew ?_ | refine blk_alloc ?_ _)); refine blk_put (cs := #[.slice Ao21 y101.length co21, .int .i64 100, .int .i64 200, .int .i64 10, .int .i64 0, .int .i64 0, .int .i64 0, .int .i64 0]) ?_ 4 _ rfl; (with_reducible repeat (first | refine blk_drewN ?_ _ | refine blk_drew ?_ | refine blk_alloc ?_ _)); refine blk_put (cs := #[.slice Ao21 y101.length co21, .int .i64 100, .int .i64 200, .int .i64 0, .int .i64 0, .int .i64 0, .int .i64 0, .int .i64 0]) ?_ 3 _ rfl; (with_reducible repeat (first | refine blk_drewN ?_ _ | refine blk_drew ?_ | refine blk_alloc ?_ _)); refine blk_put (cs := #[.slice Ao21 y101.length co21, .int .i64 100, .int .i64 0, .int .i64 0, .int .i64 0, .int .i64 0, .int .i64 0, .int .i64 0]) ?_ 2 _ rfl; (with_reducible repeat (first | refine blk_drewN ?_ _ | refine blk_drew ?_ | refine blk_alloc ?_ _)); refine blk_put (cs := #[.slice Ao21 y101.length co21, .int .i64 0, .int .i64 0, .int .i64 0, .int .i64 0, .int .i64 0, .int .i64 0, .int .i64 0]) ?_ 1 _ rfl; (with_reducible repeat (first | refine blk_drewN ?_ _ | refine blk_drew ?_ | refine blk_alloc ?_ _)); refine blk_put (cs := #[.slice none 0 0, .int .i64 0, .int .i64 0, .int .i64 0, .int .i64 0, .int .i64 0, .int .i64 0, .int .i64 0]) ?_ 0 _ rfl; (with_reducible repeat (first | refine blk_drewN ?_ _ | refine blk_drew ?_ | refine blk_alloc ?_ _)); exact BK104.out⟩
                        have n2_ : Aside0 (Below w.heap.size w ((((((((w22.setCell ⟨gb104, 0, none⟩ (.slice Ao21 y101.length co21)).setCell ⟨gb104, 1, none⟩ (.int .i64 100)).setCell ⟨gb104, 2, none⟩ (.int .i64 200)).setCell ⟨gb104, 3, none⟩ (.int .i64 10)).setCell ⟨gb104, 4, none⟩ (.int .i64 0)).setCell ⟨gb104, 5, none⟩ (.int .i64 0)).setCell ⟨gb104, 6, none⟩ (.int .i64 50)).setCell ⟨gb104, 7, none⟩ (.int .i64 0))) := ⟨by repeat (first | (with_reducible first | exact HB.out | apply below_alloc | apply pw_below_drewN | apply below_drew1 | refine below_set ?_ GE104.out) | exact HB.out)⟩
                        (try clear HO103)
                        (try clear BK104)
                        (try clear HB)
                        generalize ((((((((w22.setCell ⟨gb104, 0, none⟩ (.slice Ao21 y101.length co21)).setCell ⟨gb104, 1, none⟩ (.int .i64 100)).setCell ⟨gb104, 2, none⟩ (.int .i64 200)).setCell ⟨gb104, 3, none⟩ (.int .i64 10)).setCell ⟨gb104, 4, none⟩ (.int .i64 0)).setCell ⟨gb104, 5, none⟩ (.int .i64 0)).setCell ⟨gb104, 6, none⟩ (.int .i64 50)).setCell ⟨gb104, 7, none⟩ (.int .i64 0)) = w24 at n0_ n1_ n2_ ⊢
                        have HO103 := n0_
                        have BK104 := n1_
                        have HB := n2_
                        clear n0_ n1_ n2_
                        have n0_ := Aside0.mk (Kd.R_drew HO103.out)
                        have n1_ := Aside0.mk (blk_drew BK104.out)
                        have n2_ := Aside0.mk (below_drew1 HB.out)
                        clear HO103
                        clear BK104
                        clear HB
                        have HO103 := n0_
                        have BK104 := n1_
                        have HB := n2_
                        clear n0_ n1_ n2_
                        refine start_ (n := 10) (S := fun w' => w'.cell? ⟨gb104, 0, none⟩ = some (.slice Ao21 y101.length co21) ∧ w'.cell? ⟨gb104, 1, none⟩ = some (.int .i64 100) ∧ w'.cell? ⟨gb104, 2, none⟩ = some (.int .i64 200) ∧ w'.cell? ⟨gb104, 3, none⟩ = some (.int .i64 10) ∧ w'.cell? ⟨gb104, 4, none⟩ = some (.int .i64 0) ∧ w'.cell? ⟨gb104, 5, none⟩ = some (.int .i64 0) ∧ w'.cell? ⟨gb104, 6, none⟩ = some (.int .i64 50) ∧ w'.cell? ⟨gb104, 7, none⟩ = some (.int .i64 0)) (ds := []) #[false, false, false, false, false, false, false, false, false, false] (by kernel_rfl) rfl rfl ⟨(blk_cell BK104.out 0).trans rfl, (blk_cell BK104.out 1).trans rfl, (blk_cell BK104.out 2).trans rfl, (blk_cell BK104.out 3).trans rfl, (blk_cell BK104.out 4).trans rfl, (blk_cell BK104.out 5).trans rfl, (blk_cell BK104.out 6).trans rfl, (blk_cell BK104.out 7).trans rfl⟩ (fun hHeld => ?_); refine with_tabW contangolaw18_goes.tab2 contangolaw18_goes.bits2 (fun HT_ HW_ => ?_)
                        generalize w24.drew = w25 at HO103 BK104 HB hHeld ⊢
                        refine take_ (i := 1) (N := some 19) (v := ?_) (a' := ?_) #[false, true, false, false, false, false, false, false, false, false] rfl rfl (take_ofW HT_.out HW_.out (by kernel_rfl)) (fun _ _ _ h => h) (Or.inl ⟨by rfl, ?_⟩) hHeld ?_ ?_
                        rotate_left
                        · rintro w' ⟨s0, s1, s2, s3, s4, s5, s6, s7⟩
                          go_simp
                          with_reducible rfl
                        rotate_left
                        · simp only [Act.put, List.setIfInBounds_toArray, List.set_cons_zero, List.set_cons_succ, i64_w, i32_w]
                          rfl
                        refine one_ (i := 0) (N := some 18) #[true, true, false, false, false, false, false, false, false, false] rfl rfl (one_of HT_.out (by kernel_rfl)) (by decide) (fun K hK => ?_)
                        refine goes_ Try.func54 (by kernel_rfl) rfl #[] (by rfl) rfl rfl (by (try simp only [List.map_toArray, List.map_cons, List.map_nil]); first | done | rfl | (simp only [List.length_drop, List.length_take]; rfl)) ?_
                        with_reducible refine (contangolaw18_oil.calls  t105 t106 t107 t108 t109 t110 t111 _ A1.out).mono ?_
                        rintro e w26 ⟨rfl, hb⟩
                        refine ⟨_, rfl, ?_⟩
                        have n0_ := Aside0.mk (Kd.R_below (by (with_reducible repeat (first | apply Kd.R_alloc | apply Kd.R_drewN | apply Kd.R_drew)); exact HO103.out) hb)
                        have n1_ := Aside0.mk (blk_below (g := gb104) (o := .cells #[.slice Ao21 y101.length co21, .int .i64 100, .int .i64 200, .int .i64 10, .int .i64 0, .int .i64 0, .int .i64 50, .int .i64 0] 36 (0, 0)) (by (with_reducible repeat (first | refine blk_drewN ?_ _ | refine blk_drew ?_ | refine blk_alloc ?_ _)); exact BK104.out) hb)
                        have n2_ := Aside0.mk (below_step (by repeat (first | (with_reducible first | exact HB.out | apply below_alloc | apply pw_below_drewN | apply below_drew1 | refine below_set ?_ GE104.out) | exact HB.out)) hb)
                        clear HO103
                        clear BK104
                        clear HB
                        have HO103 := n0_
                        have BK104 := n1_
                        have HB := n2_
                        clear n0_ n1_ n2_
                        (try clear hb)
                        (try clear hb2)
                        (try clear hk)
                        (try clear hi)
                        refine hK.out _ _ ⟨(blk_cell BK104.out 0).trans rfl, (blk_cell BK104.out 1).trans rfl, (blk_cell BK104.out 2).trans rfl, (blk_cell BK104.out 3).trans rfl, (blk_cell BK104.out 4).trans rfl, (blk_cell BK104.out 5).trans rfl, (blk_cell BK104.out 6).trans rfl, (blk_cell BK104.out 7).trans rfl⟩ (fun hHeld => ?_)
                        clear hK K
                        refine norm_ (a' := ?_) ?_ ?_
                        rotate_left
                        · show Act.put _ (some 18) _ = _
                          simp only [Act.put, List.setIfInBounds_toArray, List.set_cons_zero, List.set_cons_succ, i64_w, i32_w]
                          rfl
                        refine one_ (i := 2) (N := some 20) #[true, true, true, false, false, false, false, false, false, false] rfl rfl (one_of HT_.out (by kernel_rfl)) (by decide) (fun K hK => ?_)
                        refine goes_ Try.func16 (by kernel_rfl) rfl #[.agg #[.string t105, .int .i64 t106, .int .i64 t107, .int .i64 t108, .int .i64 t109, .int .i64 t110, .bool t111], .agg #[.slice Ao21 y101.length co21, .int .i64 100, .int .i64 200, .int .i64 10, .int .i64 0, .int .i64 0, .int .i64 50, .int .i64 0]] (by rfl) rfl rfl (by (try simp only [List.map_toArray, List.map_cons, List.map_nil]); first | done | rfl | (simp only [List.length_drop, List.length_take]; rfl)) ?_
                        with_reducible refine (mark_Price.calls k t105 t106 t107 t108 t109 t110 t111 _ _ y101 100 200 10 0 0 50 0 t112 t113 t114 _ ?side1 ?side2 A2.out).mono ?_
                        (case side1 => repeat (first | exact (Kd.R_reads' HO103.out).2.2 | (with_reducible refine Kd.C_alloc ?_ _) | (with_reducible refine Kd.C_drewN ?_ _) | (with_reducible refine Kd.C_drew ?_)))
                        (case side2 => exact (Kd.R_reads' HO103.out).2.1)
                        rintro e w27 ⟨rfl, hb⟩
                        refine ⟨_, rfl, ?_⟩
                        have n0_ := Aside0.mk (Kd.R_below (by (with_reducible repeat (first | apply Kd.R_alloc | apply Kd.R_drewN | apply Kd.R_drew)); exact HO103.out) hb)
                        have n1_ := Aside0.mk (blk_below (g := gb104) (o := .cells #[.slice Ao21 y101.length co21, .int .i64 100, .int .i64 200, .int .i64 10, .int .i64 0, .int .i64 0, .int .i64 50, .int .i64 0] 36 (0, 0)) (by (with_reducible repeat (first | refine blk_drewN ?_ _ | refine blk_drew ?_ | refine blk_alloc ?_ _)); exact BK104.out) hb)
                        have n2_ := Aside0.mk (below_step (by repeat (first | (with_reducible first | exact HB.out | apply below_alloc | apply pw_below_drewN | apply below_drew1 | refine below_set ?_ GE104.out) | exact HB.out)) hb)
                        clear HO103
                        clear BK104
                        clear HB
                        have HO103 := n0_
                        have BK104 := n1_
                        have HB := n2_
                        clear n0_ n1_ n2_
                        (try clear hb)
                        (try clear hb2)
                        (try clear hk)
                        (try clear hi)
                        refine hK.out _ _ ⟨(blk_cell BK104.out 0).trans rfl, (blk_cell BK104.out 1).trans rfl, (blk_cell BK104.out 2).trans rfl, (blk_cell BK104.out 3).trans rfl, (blk_cell BK104.out 4).trans rfl, (blk_cell BK104.out 5).trans rfl, (blk_cell BK104.out 6).trans rfl, (blk_cell BK104.out 7).trans rfl⟩ (fun hHeld => ?_)
                        clear hK K
                        refine norm_ (a' := ?_) ?_ ?_
                        rotate_left
                        · show Act.put _ (some 20) _ = _
                          simp only [Act.put, List.setIfInBounds_toArray, List.set_cons_zero, List.set_cons_succ, i64_w, i32_w]
                          rfl
                        refine pure_ (i := 3) (N := some 17) (v := ?_) (a' := ?_) #[true, true, true, true, false, false, false, false, false, false] rfl rfl (any_of HT_.out (by kernel_rfl)) (fun _ _ _ h => h) (Or.inl ⟨by rfl, ?_⟩) ?_ ?_
                        rotate_left
                        · intro w'
                          go_simp
                          with_reducible rfl
                        rotate_left
                        · simp only [Act.put, List.setIfInBounds_toArray, List.set_cons_zero, List.set_cons_succ, i64_w, i32_w]
                          rfl
                        refine pure_ (i := 4) (N := some 21) (v := ?_) (a' := ?_) #[true, true, true, true, true, false, false, false, false, false] rfl rfl (any_of HT_.out (by kernel_rfl)) (fun _ _ _ h => h) (Or.inl ⟨by rfl, ?_⟩) ?_ ?_
                        rotate_left
                        · intro w'
                          go_simp
                          with_reducible rfl
                        rotate_left
                        · simp only [Act.put, List.setIfInBounds_toArray, List.set_cons_zero, List.set_cons_succ, i64_w, i32_w]
                          rfl
                        refine pure_ (i := 5) (N := some 22) (v := ?_) (a' := ?_) #[true, true, true, true, true, true, false, false, false, false] rfl rfl (any_of HT_.out (by kernel_rfl)) (fun _ _ _ h => h) (Or.inl ⟨by rfl, ?_⟩) ?_ ?_
                        rotate_left
                        · intro w'
                          go_simp
                          with_reducible rfl
                        rotate_left
                        · simp only [Act.put, List.setIfInBounds_toArray, List.set_cons_zero, List.set_cons_succ, i64_w, i32_w]
                          rfl
                        refine pure_ (i := 6) (N := some 23) (v := ?_) (a' := ?_) #[true, true, true, true, true, true, true, false, false, false] rfl rfl (any_of HT_.out (by kernel_rfl)) (fun _ _ _ h => h) (Or.inl ⟨by rfl, ?_⟩) ?_ ?_
                        rotate_left
                        · intro w'
                          go_simp
                          with_reducible rfl
                        rotate_left
                        · simp only [Act.put, List.setIfInBounds_toArray, List.set_cons_zero, List.set_cons_succ, i64_w, i32_w]
                          rfl
                        refine pure_ (i := 7) (N := some 2) (v := ?_) (a' := ?_) #[true, true, true, true, true, true, true, true, false, false] rfl rfl (any_of HT_.out (by kernel_rfl)) (fun _ _ _ h => h) (Or.inl ⟨by rfl, ?_⟩) ?_ ?_
                        rotate_left
                        · intro w'
                          go_simp
                          with_reducible rfl
                        rotate_left
                        · simp only [Act.put, List.setIfInBounds_toArray, List.set_cons_zero, List.set_cons_succ, i64_w, i32_w]
                          rfl
                        refine pure_ (i := 8) (N := some 3) (v := ?_) (a' := ?_) #[true, true, true, true, true, true, true, true, true, false] rfl rfl (any_of HT_.out (by kernel_rfl)) (fun _ _ _ h => h) (Or.inl ⟨by rfl, ?_⟩) ?_ ?_
                        rotate_left
                        · intro w'
                          go_simp
                          with_reducible rfl
                        rotate_left
                        · simp only [Act.put, List.setIfInBounds_toArray, List.set_cons_zero, List.set_cons_succ, i64_w, i32_w]
                          rfl
                        refine pure_ (i := 9) (N := some 4) (v := ?_) (a' := ?_) #[true, true, true, true, true, true, true, true, true, true] rfl rfl (any_of HT_.out (by kernel_rfl)) (fun _ _ _ h => h) (Or.inl ⟨by rfl, ?_⟩) ?_ ?_
                        rotate_left
                        · intro w'
                          go_simp
                          with_reducible rfl
                        rotate_left
                        · simp only [Act.put, List.setIfInBounds_toArray, List.set_cons_zero, List.set_cons_succ, i64_w, i32_w]
                          rfl
                        refine done_ (done_of HT_.out (by kernel_rfl)) ?_
                        have hcz28_0 : w27.cell? ⟨gb104, 0, none⟩ = some (.slice Ao21 y101.length co21) := (blk_cell BK104.out 0).trans rfl
                        have hcz28_1 : w27.cell? ⟨gb104, 1, none⟩ = some (.int .i64 100) := (blk_cell BK104.out 1).trans rfl
                        have hcz28_2 : w27.cell? ⟨gb104, 2, none⟩ = some (.int .i64 200) := (blk_cell BK104.out 2).trans rfl
                        have hcz28_3 : w27.cell? ⟨gb104, 3, none⟩ = some (.int .i64 10) := (blk_cell BK104.out 3).trans rfl
                        have hcz28_4 : w27.cell? ⟨gb104, 4, none⟩ = some (.int .i64 0) := (blk_cell BK104.out 4).trans rfl
                        have hcz28_5 : w27.cell? ⟨gb104, 5, none⟩ = some (.int .i64 0) := (blk_cell BK104.out 5).trans rfl
                        have hcz28_6 : w27.cell? ⟨gb104, 6, none⟩ = some (.int .i64 50) := (blk_cell BK104.out 6).trans rfl
                        have hcz28_7 : w27.cell? ⟨gb104, 7, none⟩ = some (.int .i64 0) := (blk_cell BK104.out 7).trans rfl
                        have hfz28_0 := blk_frozen BK104.out 0
                        have hfz28_1 := blk_frozen BK104.out 1
                        have hfz28_2 := blk_frozen BK104.out 2
                        have hfz28_3 := blk_frozen BK104.out 3
                        have hfz28_4 := blk_frozen BK104.out 4
                        have hfz28_5 := blk_frozen BK104.out 5
                        have hfz28_6 := blk_frozen BK104.out 6
                        have hfz28_7 := blk_frozen BK104.out 7
                        have q29 : (1 : Int) ≤ ((y101.length : Int) : Int) := of_decide_eq_true (by first | (with_reducible assumption) | assumption)
                        obtain ⟨i029, hi029, _, hsz29, _⟩ := info_parts info49
                        have hcut29 := cut_to (P := Try.prog) 22 49 .i64 Try.underlying22 hi029 Ao21 y101.length co21 1 (by omega) q29 (Kd.R_reads' HO103.out).2.1
                        have hr29 := Kd.R_take (m := (1 : Int).toNat) HO103.out (by omega)
                        have hy29 : y115.length = (1 : Int).toNat := (by rw [Ny115.out, List.length_take]; omega)
                        rw [← Ny115.out] at hr29
                        rw [← hy29] at hr29 hcut29
                        clear hy29 hi029 hsz29 HO103
                        have HO117 := Aside0.mk hr29
                        clear hr29
                        replace q29 := eq_true q29
                        try go_wp2
                        have n0_ : Aside0 (Kd.R k49 49 ((w27.setCell ⟨gb104, 0, none⟩ (.slice Ao21 y115.length co21)).setCell ⟨gb104, 4, none⟩ (.int .i64 25)) w.heap.size (fun _ => True) (.slice Ao21 y115.length co21) y115) := ⟨by (with_reducible repeat (first | apply Kd.R_alloc | apply Kd.R_drewN | apply Kd.R_drew)); exact Kd.R_mono (Kd.R_far (p := ⟨gb104, 4, none⟩) (Kd.R_far (p := ⟨gb104, 0, none⟩) (Kd.R_types HO117.out BK104.out (by decide)) (fun _ hk => hk.2) (.slice Ao21 y115.length co21)) (fun _ hk => hk.2) (.int .i64 25)) (fun _ hk => trivial)⟩
                        have n1_ : Aside0 (((w27.setCell ⟨gb104, 0, none⟩ (.slice Ao21 y115.length co21)).setCell ⟨gb104, 4, none⟩ (.int .i64 25)).heap[gb104]? = some (.cells #[.slice Ao21 y115.length co21, .int .i64 100, .int .i64 200, .int .i64 10, .int .i64 25, .int .i64 0, .int .i64 50, .int .i64 0] 36 (0, 0))) := ⟨by (with_reducible repeat (first | refine blk_drewN ?_ _ | refine blk_drew ?_ | refine blk_alloc ?_ _)); refine blk_put (cs := #[.slice Ao21 y115.length co21, .int .i64 100, .int .i64 200, .int .i64 10, .int .i64 0, .int .i64 0, .int .i64 50, .int .i64 0]) ?_ 4 _ rfl; (with_reducible repeat (first | refine blk_drewN ?_ _ | refine blk_drew ?_ | refine blk_alloc ?_ _)); refine blk_put (cs := #[.slice Ao21 y101.length co21, .int .i64 100, .int .i64 200, .int .i64 10, .int .i64 0, .int .i64 0, .int .i64 50, .int .i64 0]) ?_ 0 _ rfl; (with_reducible repeat (first | refine blk_drewN ?_ _ | refine blk_drew ?_ | refine blk_alloc ?_ _)); exact BK104.out⟩
                        have n2_ : Aside0 (Below w.heap.size w ((w27.setCell ⟨gb104, 0, none⟩ (.slice Ao21 y115.length co21)).setCell ⟨gb104, 4, none⟩ (.int .i64 25))) := ⟨by repeat (first | (with_reducible first | exact HB.out | apply below_alloc | apply pw_below_drewN | apply below_drew1 | refine below_set ?_ GE104.out) | exact HB.out)⟩
                        (try clear HO117)
                        (try clear BK104)
                        (try clear HB)
                        generalize ((w27.setCell ⟨gb104, 0, none⟩ (.slice Ao21 y115.length co21)).setCell ⟨gb104, 4, none⟩ (.int .i64 25)) = w30 at n0_ n1_ n2_ ⊢
                        have HO117 := n0_
                        have BK104 := n1_
                        have HB := n2_
                        clear n0_ n1_ n2_
                        have n0_ := Aside0.mk (Kd.R_drew HO117.out)
                        have n1_ := Aside0.mk (blk_drew BK104.out)
                        have n2_ := Aside0.mk (below_drew1 HB.out)
                        clear HO117
                        clear BK104
                        clear HB
                        have HO117 := n0_
                        have BK104 := n1_
                        have HB := n2_
                        clear n0_ n1_ n2_
                        refine start_ (n := 10) (S := fun w' => w'.cell? ⟨gb104, 0, none⟩ = some (.slice Ao21 y115.length co21) ∧ w'.cell? ⟨gb104, 1, none⟩ = some (.int .i64 100) ∧ w'.cell? ⟨gb104, 2, none⟩ = some (.int .i64 200) ∧ w'.cell? ⟨gb104, 3, none⟩ = some (.int .i64 10) ∧ w'.cell? ⟨gb104, 4, none⟩ = some (.int .i64 25) ∧ w'.cell? ⟨gb104, 5, none⟩ = some (.int .i64 0) ∧ w'.cell? ⟨gb104, 6, none⟩ = some (.int .i64 50) ∧ w'.cell? ⟨gb104, 7, none⟩ = some (.int .i64 0)) (ds := []) #[false, false, false, false, false, false, false, false, false, false] (by kernel_rfl) rfl rfl ⟨(blk_cell BK104.out 0).trans rfl, (blk_cell BK104.out 1).trans rfl, (blk_cell BK104.out 2).trans rfl, (blk_cell BK104.out 3).trans rfl, (blk_cell BK104.out 4).trans rfl, (blk_cell BK104.out 5).trans rfl, (blk_cell BK104.out 6).trans rfl, (blk_cell BK104.out 7).trans rfl⟩ (fun hHeld => ?_); refine with_tabW contangolaw18_goes.tab5 contangolaw18_goes.bits5 (fun HT_ HW_ => ?_)
                        generalize w30.drew = w31 at HO117 BK104 HB hHeld ⊢
                        refine take_ (i := 1) (N := some 31) (v := ?_) (a' := ?_) #[false, true, false, false, false, false, false, false, false, false] rfl rfl (take_ofW HT_.out HW_.out (by kernel_rfl)) (fun _ _ _ h => h) (Or.inl ⟨by rfl, ?_⟩) hHeld ?_ ?_
                        rotate_left
                        · rintro w' ⟨s0, s1, s2, s3, s4, s5, s6, s7⟩
                          go_simp
                          with_reducible rfl
                        rotate_left
                        · simp only [Act.put, List.setIfInBounds_toArray, List.set_cons_zero, List.set_cons_succ, i64_w, i32_w]
                          rfl
                        refine one_ (i := 0) (N := some 30) #[true, true, false, false, false, false, false, false, false, false] rfl rfl (one_of HT_.out (by kernel_rfl)) (by decide) (fun K hK => ?_)
                        refine goes_ Try.func54 (by kernel_rfl) rfl #[] (by rfl) rfl rfl (by (try simp only [List.map_toArray, List.map_cons, List.map_nil]); first | done | rfl | (simp only [List.length_drop, List.length_take]; rfl)) ?_
                        with_reducible refine (contangolaw18_oil.calls  t118 t119 t120 t121 t122 t123 t124 _ A4.out).mono ?_
                        rintro e w32 ⟨rfl, hb⟩
                        refine ⟨_, rfl, ?_⟩
                        have n0_ := Aside0.mk (Kd.R_below (by (with_reducible repeat (first | apply Kd.R_alloc | apply Kd.R_drewN | apply Kd.R_drew)); exact HO117.out) hb)
                        have n1_ := Aside0.mk (blk_below (g := gb104) (o := .cells #[.slice Ao21 y115.length co21, .int .i64 100, .int .i64 200, .int .i64 10, .int .i64 25, .int .i64 0, .int .i64 50, .int .i64 0] 36 (0, 0)) (by (with_reducible repeat (first | refine blk_drewN ?_ _ | refine blk_drew ?_ | refine blk_alloc ?_ _)); exact BK104.out) hb)
                        have n2_ := Aside0.mk (below_step (by repeat (first | (with_reducible first | exact HB.out | apply below_alloc | apply pw_below_drewN | apply below_drew1 | refine below_set ?_ GE104.out) | exact HB.out)) hb)
                        clear HO117
                        clear BK104
                        clear HB
                        have HO117 := n0_
                        have BK104 := n1_
                        have HB := n2_
                        clear n0_ n1_ n2_
                        (try clear hb)
                        (try clear hb2)
                        (try clear hk)
                        (try clear hi)
                        refine hK.out _ _ ⟨(blk_cell BK104.out 0).trans rfl, (blk_cell BK104.out 1).trans rfl, (blk_cell BK104.out 2).trans rfl, (blk_cell BK104.out 3).trans rfl, (blk_cell BK104.out 4).trans rfl, (blk_cell BK104.out 5).trans rfl, (blk_cell BK104.out 6).trans rfl, (blk_cell BK104.out 7).trans rfl⟩ (fun hHeld => ?_)
                        clear hK K
                        refine norm_ (a' := ?_) ?_ ?_
                        rotate_left
                        · show Act.put _ (some 30) _ = _
                          simp only [Act.put, List.setIfInBounds_toArray, List.set_cons_zero, List.set_cons_succ, i64_w, i32_w]
                          rfl
                        refine one_ (i := 2) (N := some 32) #[true, true, true, false, false, false, false, false, false, false] rfl rfl (one_of HT_.out (by kernel_rfl)) (by decide) (fun K hK => ?_)
                        refine goes_ Try.func16 (by kernel_rfl) rfl #[.agg #[.string t118, .int .i64 t119, .int .i64 t120, .int .i64 t121, .int .i64 t122, .int .i64 t123, .bool t124], .agg #[.slice Ao21 y115.length co21, .int .i64 100, .int .i64 200, .int .i64 10, .int .i64 25, .int .i64 0, .int .i64 50, .int .i64 0]] (by rfl) rfl rfl (by (try simp only [List.map_toArray, List.map_cons, List.map_nil]); first | done | rfl | (simp only [List.length_drop, List.length_take]; rfl)) ?_
                        with_reducible refine (mark_Price.calls k t118 t119 t120 t121 t122 t123 t124 _ _ y115 100 200 10 25 0 50 0 t125 t126 t127 _ ?side1 ?side2 A5.out).mono ?_
                        (case side1 => repeat (first | exact (Kd.R_reads' HO117.out).2.2 | (with_reducible refine Kd.C_alloc ?_ _) | (with_reducible refine Kd.C_drewN ?_ _) | (with_reducible refine Kd.C_drew ?_)))
                        (case side2 => exact (Kd.R_reads' HO117.out).2.1)
                        rintro e w33 ⟨rfl, hb⟩
                        refine ⟨_, rfl, ?_⟩
                        have n0_ := Aside0.mk (Kd.R_below (by (with_reducible repeat (first | apply Kd.R_alloc | apply Kd.R_drewN | apply Kd.R_drew)); exact HO117.out) hb)
                        have n1_ := Aside0.mk (blk_below (g := gb104) (o := .cells #[.slice Ao21 y115.length co21, .int .i64 100, .int .i64 200, .int .i64 10, .int .i64 25, .int .i64 0, .int .i64 50, .int .i64 0] 36 (0, 0)) (by (with_reducible repeat (first | refine blk_drewN ?_ _ | refine blk_drew ?_ | refine blk_alloc ?_ _)); exact BK104.out) hb)
                        have n2_ := Aside0.mk (below_step (by repeat (first | (with_reducible first | exact HB.out | apply below_alloc | apply pw_below_drewN | apply below_drew1 | refine below_set ?_ GE104.out) | exact HB.out)) hb)
                        clear HO117
                        clear BK104
                        clear HB
                        have HO117 := n0_
                        have BK104 := n1_
                        have HB := n2_
                        clear n0_ n1_ n2_
                        (try clear hb)
                        (try clear hb2)
                        (try clear hk)
                        (try clear hi)
                        refine hK.out _ _ ⟨(blk_cell BK104.out 0).trans rfl, (blk_cell BK104.out 1).trans rfl, (blk_cell BK104.out 2).trans rfl, (blk_cell BK104.out 3).trans rfl, (blk_cell BK104.out 4).trans rfl, (blk_cell BK104.out 5).trans rfl, (blk_cell BK104.out 6).trans rfl, (blk_cell BK104.out 7).trans rfl⟩ (fun hHeld => ?_)
                        clear hK K
                        refine norm_ (a' := ?_) ?_ ?_
                        rotate_left
                        · show Act.put _ (some 32) _ = _
                          simp only [Act.put, List.setIfInBounds_toArray, List.set_cons_zero, List.set_cons_succ, i64_w, i32_w]
                          rfl
                        refine pure_ (i := 3) (N := some 29) (v := ?_) (a' := ?_) #[true, true, true, true, false, false, false, false, false, false] rfl rfl (any_of HT_.out (by kernel_rfl)) (fun _ _ _ h => h) (Or.inl ⟨by rfl, ?_⟩) ?_ ?_
                        rotate_left
                        · intro w'
                          go_simp
                          with_reducible rfl
                        rotate_left
                        · simp only [Act.put, List.setIfInBounds_toArray, List.set_cons_zero, List.set_cons_succ, i64_w, i32_w]
                          rfl
                        refine pure_ (i := 4) (N := some 33) (v := ?_) (a' := ?_) #[true, true, true, true, true, false, false, false, false, false] rfl rfl (any_of HT_.out (by kernel_rfl)) (fun _ _ _ h => h) (Or.inl ⟨by rfl, ?_⟩) ?_ ?_
                        rotate_left
                        · intro w'
                          go_simp
                          with_reducible rfl
                        rotate_left
                        · simp only [Act.put, List.setIfInBounds_toArray, List.set_cons_zero, List.set_cons_succ, i64_w, i32_w]
                          rfl
                        refine pure_ (i := 5) (N := some 34) (v := ?_) (a' := ?_) #[true, true, true, true, true, true, false, false, false, false] rfl rfl (any_of HT_.out (by kernel_rfl)) (fun _ _ _ h => h) (Or.inl ⟨by rfl, ?_⟩) ?_ ?_
                        rotate_left
                        · intro w'
                          go_simp
                          with_reducible rfl
                        rotate_left
                        · simp only [Act.put, List.setIfInBounds_toArray, List.set_cons_zero, List.set_cons_succ, i64_w, i32_w]
                          rfl
                        refine pure_ (i := 6) (N := some 35) (v := ?_) (a' := ?_) #[true, true, true, true, true, true, true, false, false, false] rfl rfl (any_of HT_.out (by kernel_rfl)) (fun _ _ _ h => h) (Or.inl ⟨by rfl, ?_⟩) ?_ ?_
                        rotate_left
                        · intro w'
                          go_simp
                          with_reducible rfl
                        rotate_left
                        · simp only [Act.put, List.setIfInBounds_toArray, List.set_cons_zero, List.set_cons_succ, i64_w, i32_w]
                          rfl
                        refine pure_ (i := 7) (N := some 5) (v := ?_) (a' := ?_) #[true, true, true, true, true, true, true, true, false, false] rfl rfl (any_of HT_.out (by kernel_rfl)) (fun _ _ _ h => h) (Or.inl ⟨by rfl, ?_⟩) ?_ ?_
                        rotate_left
                        · intro w'
                          go_simp
                          with_reducible rfl
                        rotate_left
                        · simp only [Act.put, List.setIfInBounds_toArray, List.set_cons_zero, List.set_cons_succ, i64_w, i32_w]
                          rfl
                        refine pure_ (i := 8) (N := some 6) (v := ?_) (a' := ?_) #[true, true, true, true, true, true, true, true, true, false] rfl rfl (any_of HT_.out (by kernel_rfl)) (fun _ _ _ h => h) (Or.inl ⟨by rfl, ?_⟩) ?_ ?_
                        rotate_left
                        · intro w'
                          go_simp
                          with_reducible rfl
                        rotate_left
                        · simp only [Act.put, List.setIfInBounds_toArray, List.set_cons_zero, List.set_cons_succ, i64_w, i32_w]
                          rfl
                        refine pure_ (i := 9) (N := some 7) (v := ?_) (a' := ?_) #[true, true, true, true, true, true, true, true, true, true] rfl rfl (any_of HT_.out (by kernel_rfl)) (fun _ _ _ h => h) (Or.inl ⟨by rfl, ?_⟩) ?_ ?_
                        rotate_left
                        · intro w'
                          go_simp
                          with_reducible rfl
                        rotate_left
                        · simp only [Act.put, List.setIfInBounds_toArray, List.set_cons_zero, List.set_cons_succ, i64_w, i32_w]
                          rfl
                        refine done_ (done_of HT_.out (by kernel_rfl)) ?_
                        try go_wp2_with (first | ((with_reducible refine gate_callee (f := 54) rfl ?_); refine goesL_ (some 37) rfl rfl Try.func54 (by kernel_rfl) rfl #[] rfl (by (try simp only [List.map_toArray, List.map_cons, List.map_nil]); first | done | rfl | (simp only [List.length_drop, List.length_take]; rfl)) ?_; (with_reducible refine (contangolaw18_oil.calls  t128 t129 t130 t131 t132 t133 t134 _ A6.out).mono ?_); rintro e w34 ⟨rfl, hb⟩; refine ⟨_, rfl, ?_⟩; have n0_ := Aside0.mk (Kd.R_below (by (with_reducible repeat (first | apply Kd.R_alloc | apply Kd.R_drewN | apply Kd.R_drew)); exact HO117.out) hb); have n1_ := Aside0.mk (blk_below (g := gb104) (o := .cells #[.slice Ao21 y115.length co21, .int .i64 100, .int .i64 200, .int .i64 10, .int .i64 25, .int .i64 0, .int .i64 50, .int .i64 0] 36 (0, 0)) (by (with_reducible repeat (first | refine blk_drewN ?_ _ | refine blk_drew ?_ | refine blk_alloc ?_ _)); exact BK104.out) hb); have n2_ := Aside0.mk (below_step (by repeat (first | (with_reducible first | exact HB.out | apply below_alloc | apply pw_below_drewN | apply below_drew1 | refine below_set ?_ GE104.out) | exact HB.out)) hb); clear HO117; clear BK104; clear HB; have HO117 := n0_; have BK104 := n1_; have HB := n2_; clear n0_ n1_ n2_; (try clear hb); (try clear hb2); (try clear hk); (try clear hi)) | ((with_reducible refine gate_callee (f := 16) rfl ?_); refine goesL_ (some 39) rfl rfl Try.func16 (by kernel_rfl) rfl #[.agg #[.string t128, .int .i64 t129, .int .i64 t130, .int .i64 t131, .int .i64 t132, .int .i64 t133, .bool t134], .agg #[.slice none 0 0, .int .i64 100, .int .i64 200, .int .i64 10, .int .i64 0, .int .i64 0, .int .i64 50, .int .i64 (-7)]] rfl (by (try simp only [List.map_toArray, List.map_cons, List.map_nil]); first | done | rfl | (simp only [List.length_drop, List.length_take]; rfl)) ?_; (refine (mark_Price.calls k t128 t129 t130 t131 t132 t133 t134 _ _ ([] : List (S49)) 100 200 10 0 0 50 (-7) t135 t136 t137 _ ?side1 ?side2 A7.out).mono ?_); (case side1 => exact Kd.C_nil _ _); (case side2 => exact Nat.le_refl _); rintro e w35 ⟨rfl, hb⟩; refine ⟨_, rfl, ?_⟩; have n0_ := Aside0.mk (Kd.R_below (by (with_reducible repeat (first | apply Kd.R_alloc | apply Kd.R_drewN | apply Kd.R_drew)); exact HO117.out) hb); have n1_ := Aside0.mk (blk_below (g := gb104) (o := .cells #[.slice Ao21 y115.length co21, .int .i64 100, .int .i64 200, .int .i64 10, .int .i64 25, .int .i64 0, .int .i64 50, .int .i64 0] 36 (0, 0)) (by (with_reducible repeat (first | refine blk_drewN ?_ _ | refine blk_drew ?_ | refine blk_alloc ?_ _)); exact BK104.out) hb); have n2_ := Aside0.mk (below_step (by repeat (first | (with_reducible first | exact HB.out | apply below_alloc | apply pw_below_drewN | apply below_drew1 | refine below_set ?_ GE104.out) | exact HB.out)) hb); clear HO117; clear BK104; clear HB; have HO117 := n0_; have BK104 := n1_; have HB := n2_; clear n0_ n1_ n2_; (try clear hb); (try clear hb2); (try clear hk); (try clear hi)) | ((with_reducible refine gate_callee (f := 21) rfl ?_); refine goesL_ (some 44) rfl rfl Try.func21 (by kernel_rfl) rfl #[.int .i64 20, .int .i64 25, .int .i64 5] rfl (by (try simp only [List.map_toArray, List.map_cons, List.map_nil]); first | done | rfl | (simp only [List.length_drop, List.length_take]; rfl)) ?_; (with_reducible refine (mark_Mid.calls k 20 25 5 t138 t139 _ A8.out).mono ?_); rintro e w36 ⟨rfl, hb⟩; refine ⟨_, rfl, ?_⟩; have n0_ := Aside0.mk (Kd.R_below (by (with_reducible repeat (first | apply Kd.R_alloc | apply Kd.R_drewN | apply Kd.R_drew)); exact HO117.out) hb); have n1_ := Aside0.mk (blk_below (g := gb104) (o := .cells #[.slice Ao21 y115.length co21, .int .i64 100, .int .i64 200, .int .i64 10, .int .i64 25, .int .i64 0, .int .i64 50, .int .i64 0] 36 (0, 0)) (by (with_reducible repeat (first | refine blk_drewN ?_ _ | refine blk_drew ?_ | refine blk_alloc ?_ _)); exact BK104.out) hb); have n2_ := Aside0.mk (below_step (by repeat (first | (with_reducible first | exact HB.out | apply below_alloc | apply pw_below_drewN | apply below_drew1 | refine below_set ?_ GE104.out) | exact HB.out)) hb); clear HO117; clear BK104; clear HB; have HO117 := n0_; have BK104 := n1_; have HB := n2_; clear n0_ n1_ n2_; (try clear hb); (try clear hb2); (try clear hk); (try clear hi)))
                        go_ret
                        exact ⟨by first | rfl | (simp [errW_none, errW_some] <;> rfl) | (simp [*, errW_none, errW_some] <;> rfl), by repeat (first | (with_reducible first | exact HB.out | apply below_alloc | apply pw_below_drewN | apply below_drew1 | refine below_set ?_ GE104.out) | exact HB.out)⟩
                      · rw [if_neg c18] at H
                        exact absurd H (by simp)
                    · rw [if_neg c17] at H
                      exact absurd H (by simp)
                  · rw [if_neg c16] at H
                    exact absurd H (by simp)
                · rw [if_neg c15] at H
                  exact absurd H (by simp)
              · rw [if_neg c14] at H
                exact absurd H (by simp)
            · rw [if_neg c13] at H
              exact absurd H (by simp)
          · rw [if_neg c12] at H
            exact absurd H (by simp)
        · rw [if_neg c11] at H
          exact absurd H (by simp)
      · rw [if_neg c10] at H
        exact absurd H (by simp)
    · rw [if_neg c9] at H
      exact absurd H (by simp)
  · rw [if_neg c3] at H
    exact absurd H (by simp)
end Go.Proofs.Ytocndpddghefhaa.X
end
section
namespace Go.Proofs.Ytocndpddghefhaa.X
open Go.RowKit Go.Proofs.YtocndpddghefhaaW.PrintWords Go.Proofs.YtocndpddghefhaaW.PrintLast Go.Proofs.YtocndpddghefhaaW.PrintMore
attribute [local go_sem] max2_int min2_int max_two min_two max_three min_three max_four min_four
set_option linter.unusedVariables false
set_option linter.unusedSimpArgs false
def cmp_isNaN_int.f (a0 : Int) : Option (Bool) := some (a0 != a0)
set_option maxHeartbeats 8000000 in
set_option maxRecDepth 100000 in
theorem cmp_isNaN_int.calls (a0 : Int) (r : Bool) (w : World) (h : cmp_isNaN_int.f a0 = some r) :
    Calls Try.prog 105 #[.int .i64 a0] w fun e w' => e = .returned (.bool r) ∧ Drawn0 w w' := by
  have H : (some (a0 != a0)) = some r := h
  clear h
  obtain rfl := Option.some.inj H
  go_enter Try.func105, Try.ntmps105
  go_wp2
  go_ret
  exact ⟨by first | rfl | (simp; done) | (simp [*]; done), by repeat (first | exact Drawn0.refl _ | apply Drawn0.step)⟩
end Go.Proofs.Ytocndpddghefhaa.X
end
section
namespace Go.Proofs.Ytocndpddghefhaa.X
open Go.RowKit Go.Proofs.YtocndpddghefhaaW.PrintWords Go.Proofs.YtocndpddghefhaaW.PrintLast Go.Proofs.YtocndpddghefhaaW.PrintMore
attribute [local go_sem] max2_int min2_int max_two min_two max_three min_three max_four min_four
set_option linter.unusedVariables false
set_option linter.unusedSimpArgs false
def cmp_Compare_int.f (a0 : Int) (a1 : Int) : Option (Int) := (cmp_isNaN_int.f a0).bind fun t101 => ((cmp_isNaN_int.f a1).bind fun t102 => (if t101 = true then (if t102 = true then (some 0) else (some (-1))) else (if t102 = true then (some 1) else (if a0 < a1 then (some (-1)) else (if a0 > a1 then (some 1) else (some 0))))))
set_option maxHeartbeats 8000000 in
set_option maxRecDepth 100000 in
theorem cmp_Compare_int.calls (a0 : Int) (a1 : Int) (r : Int) (w : World) (h : cmp_Compare_int.f a0 a1 = some r) :
    Calls Try.prog 94 #[.int .i64 a0, .int .i64 a1] w fun e w' => e = .returned (.int .i64 r) ∧ Drawn0 w w' := by
  have H : ((cmp_isNaN_int.f a0).bind fun t101 => ((cmp_isNaN_int.f a1).bind fun t102 => (if t101 = true then (if t102 = true then (some 0) else (some (-1))) else (if t102 = true then (some 1) else (if a0 < a1 then (some (-1)) else (if a0 > a1 then (some 1) else (some 0))))))) = some r := h
  clear h
  replace H := Option.bind_eq_some_iff.mp H
  obtain ⟨t101, A30, H⟩ := H
  replace H : ((cmp_isNaN_int.f a1).bind fun t102 => (if t101 = true then (if t102 = true then (some 0) else (some (-1))) else (if t102 = true then (some 1) else (if a0 < a1 then (some (-1)) else (if a0 > a1 then (some 1) else (some 0)))))) = some r := H
  have A3 := Aside0.mk A30
  clear A30
  replace H := Option.bind_eq_some_iff.mp H
  obtain ⟨t102, A40, H⟩ := H
  replace H : (if t101 = true then (if t102 = true then (some 0) else (some (-1))) else (if t102 = true then (some 1) else (if a0 < a1 then (some (-1)) else (if a0 > a1 then (some 1) else (some 0))))) = some r := H
  have A4 := Aside0.mk A40
  clear A40
  by_cases c5 : t101 = true
  · subst c5
    have H1 : (if t102 = true then (some 0) else (some (-1))) = some r := by rw [if_pos rfl] at H; exact H
    clear H
    have H := H1
    clear H1
    by_cases c6 : t102 = true
    · subst c6
      have H1 : (some 0) = some r := by rw [if_pos rfl] at H; exact H
      clear H
      have H := H1
      clear H1
      obtain rfl := Option.some.inj H
      go_enter Try.func94, Try.ntmps94
      go_wp2_with (first | ((with_reducible refine gate_callee (f := 105) rfl ?_); refine goesL_ (some 8) rfl rfl Try.func105 (by kernel_rfl) rfl #[.int .i64 a0] rfl (by (try simp only [List.map_toArray, List.map_cons, List.map_nil]); first | done | rfl | (simp only [List.length_drop, List.length_take]; rfl)) ?_; (with_reducible refine (cmp_isNaN_int.calls a0 true _ A3.out).mono ?_); rintro e w' ⟨rfl, ⟨nd, rfl⟩⟩; refine ⟨_, rfl, ?_⟩) | ((with_reducible refine gate_callee (f := 105) rfl ?_); refine goesL_ (some 10) rfl rfl Try.func105 (by kernel_rfl) rfl #[.int .i64 a1] rfl (by (try simp only [List.map_toArray, List.map_cons, List.map_nil]); first | done | rfl | (simp only [List.length_drop, List.length_take]; rfl)) ?_; (with_reducible refine (cmp_isNaN_int.calls a1 true _ A4.out).mono ?_); rintro e w' ⟨rfl, ⟨nd, rfl⟩⟩; refine ⟨_, rfl, ?_⟩))
      go_ret
      exact ⟨by first | rfl | (simp; done) | (simp [*]; done), by repeat (first | exact Drawn0.refl _ | apply Drawn0.step)⟩
    · replace c6 := Bool.eq_false_iff.mpr c6
      subst c6
      have H1 : (some (-1)) = some r := by rw [if_neg (show ¬ (false = true) by decide)] at H; exact H
      clear H
      have H := H1
      clear H1
      obtain rfl := Option.some.inj H
      go_enter Try.func94, Try.ntmps94
      go_wp2_with (first | ((with_reducible refine gate_callee (f := 105) rfl ?_); refine goesL_ (some 8) rfl rfl Try.func105 (by kernel_rfl) rfl #[.int .i64 a0] rfl (by (try simp only [List.map_toArray, List.map_cons, List.map_nil]); first | done | rfl | (simp only [List.length_drop, List.length_take]; rfl)) ?_; (with_reducible refine (cmp_isNaN_int.calls a0 true _ A3.out).mono ?_); rintro e w' ⟨rfl, ⟨nd, rfl⟩⟩; refine ⟨_, rfl, ?_⟩) | ((with_reducible refine gate_callee (f := 105) rfl ?_); refine goesL_ (some 10) rfl rfl Try.func105 (by kernel_rfl) rfl #[.int .i64 a1] rfl (by (try simp only [List.map_toArray, List.map_cons, List.map_nil]); first | done | rfl | (simp only [List.length_drop, List.length_take]; rfl)) ?_; (with_reducible refine (cmp_isNaN_int.calls a1 false _ A4.out).mono ?_); rintro e w' ⟨rfl, ⟨nd, rfl⟩⟩; refine ⟨_, rfl, ?_⟩))
      go_ret
      exact ⟨by first | rfl | (simp; done) | (simp [*]; done), by repeat (first | exact Drawn0.refl _ | apply Drawn0.step)⟩
  · replace c5 := Bool.eq_false_iff.mpr c5
    subst c5
    have H1 : (if t102 = true then (some 1) else (if a0 < a1 then (some (-1)) else (if a0 > a1 then (some 1) else (some 0)))) = some r := by rw [if_neg (show ¬ (false = true) by decide)] at H; exact H
    clear H
    have H := H1
    clear H1
    by_cases c7 : t102 = true
    · subst c7
      have H1 : (some 1) = some r := by rw [if_pos rfl] at H; exact H
      clear H
      have H := H1
      clear H1
      obtain rfl := Option.some.inj H
      go_enter Try.func94, Try.ntmps94
      go_wp2_with (first | ((with_reducible refine gate_callee (f := 105) rfl ?_); refine goesL_ (some 8) rfl rfl Try.func105 (by kernel_rfl) rfl #[.int .i64 a0] rfl (by (try simp only [List.map_toArray, List.map_cons, List.map_nil]); first | done | rfl | (simp only [List.length_drop, List.length_take]; rfl)) ?_; (with_reducible refine (cmp_isNaN_int.calls a0 false _ A3.out).mono ?_); rintro e w' ⟨rfl, ⟨nd, rfl⟩⟩; refine ⟨_, rfl, ?_⟩) | ((with_reducible refine gate_callee (f := 105) rfl ?_); refine goesL_ (some 10) rfl rfl Try.func105 (by kernel_rfl) rfl #[.int .i64 a1] rfl (by (try simp only [List.map_toArray, List.map_cons, List.map_nil]); first | done | rfl | (simp only [List.length_drop, List.length_take]; rfl)) ?_; (with_reducible refine (cmp_isNaN_int.calls a1 true _ A4.out).mono ?_); rintro e w' ⟨rfl, ⟨nd, rfl⟩⟩; refine ⟨_, rfl, ?_⟩))
      go_ret
      exact ⟨by first | rfl | (simp; done) | (simp [*]; done), by repeat (first | exact Drawn0.refl _ | apply Drawn0.step)⟩
    · replace c7 := Bool.eq_false_iff.mpr c7
      subst c7
      have H1 : (if a0 < a1 then (some (-1)) else (if a0 > a1 then (some 1) else (some 0))) = some r := by rw [if_neg (show ¬ (false = true) by decide)] at H; exact H
      clear H
      have H := H1
      clear H1
      by_cases c8 : a0 < a1
      · rw [if_pos c8] at H
        have c8b0 : decide (a0 < a1) = true := decide_eq_true c8
        clear c8
        obtain rfl := Option.some.inj H
        go_enter Try.func94, Try.ntmps94
        go_wp2_with (first | ((with_reducible refine gate_callee (f := 105) rfl ?_); refine goesL_ (some 8) rfl rfl Try.func105 (by kernel_rfl) rfl #[.int .i64 a0] rfl (by (try simp only [List.map_toArray, List.map_cons, List.map_nil]); first | done | rfl | (simp only [List.length_drop, List.length_take]; rfl)) ?_; (with_reducible refine (cmp_isNaN_int.calls a0 false _ A3.out).mono ?_); rintro e w' ⟨rfl, ⟨nd, rfl⟩⟩; refine ⟨_, rfl, ?_⟩) | ((with_reducible refine gate_callee (f := 105) rfl ?_); refine goesL_ (some 10) rfl rfl Try.func105 (by kernel_rfl) rfl #[.int .i64 a1] rfl (by (try simp only [List.map_toArray, List.map_cons, List.map_nil]); first | done | rfl | (simp only [List.length_drop, List.length_take]; rfl)) ?_; (with_reducible refine (cmp_isNaN_int.calls a1 false _ A4.out).mono ?_); rintro e w' ⟨rfl, ⟨nd, rfl⟩⟩; refine ⟨_, rfl, ?_⟩))
        go_ret
        exact ⟨by first | rfl | (simp; done) | (simp [*]; done), by repeat (first | exact Drawn0.refl _ | apply Drawn0.step)⟩
      · rw [if_neg c8] at H
        have c8b0 : decide (a0 < a1) = false := decide_eq_false c8
        clear c8
        by_cases c9 : a0 > a1
        · rw [if_pos c9] at H
          have c9b0 : decide (a1 < a0) = true := decide_eq_true c9
          clear c9
          obtain rfl := Option.some.inj H
          go_enter Try.func94, Try.ntmps94
          go_wp2_with (first | ((with_reducible refine gate_callee (f := 105) rfl ?_); refine goesL_ (some 8) rfl rfl Try.func105 (by kernel_rfl) rfl #[.int .i64 a0] rfl (by (try simp only [List.map_toArray, List.map_cons, List.map_nil]); first | done | rfl | (simp only [List.length_drop, List.length_take]; rfl)) ?_; (with_reducible refine (cmp_isNaN_int.calls a0 false _ A3.out).mono ?_); rintro e w' ⟨rfl, ⟨nd, rfl⟩⟩; refine ⟨_, rfl, ?_⟩) | ((with_reducible refine gate_callee (f := 105) rfl ?_); refine goesL_ (some 10) rfl rfl Try.func105 (by kernel_rfl) rfl #[.int .i64 a1] rfl (by (try simp only [List.map_toArray, List.map_cons, List.map_nil]); first | done | rfl | (simp only [List.length_drop, List.length_take]; rfl)) ?_; (with_reducible refine (cmp_isNaN_int.calls a1 false _ A4.out).mono ?_); rintro e w' ⟨rfl, ⟨nd, rfl⟩⟩; refine ⟨_, rfl, ?_⟩))
          go_ret
          exact ⟨by first | rfl | (simp; done) | (simp [*]; done), by repeat (first | exact Drawn0.refl _ | apply Drawn0.step)⟩
        · rw [if_neg c9] at H
          have c9b0 : decide (a1 < a0) = false := decide_eq_false c9
          clear c9
          obtain rfl := Option.some.inj H
          go_enter Try.func94, Try.ntmps94
          go_wp2_with (first | ((with_reducible refine gate_callee (f := 105) rfl ?_); refine goesL_ (some 8) rfl rfl Try.func105 (by kernel_rfl) rfl #[.int .i64 a0] rfl (by (try simp only [List.map_toArray, List.map_cons, List.map_nil]); first | done | rfl | (simp only [List.length_drop, List.length_take]; rfl)) ?_; (with_reducible refine (cmp_isNaN_int.calls a0 false _ A3.out).mono ?_); rintro e w' ⟨rfl, ⟨nd, rfl⟩⟩; refine ⟨_, rfl, ?_⟩) | ((with_reducible refine gate_callee (f := 105) rfl ?_); refine goesL_ (some 10) rfl rfl Try.func105 (by kernel_rfl) rfl #[.int .i64 a1] rfl (by (try simp only [List.map_toArray, List.map_cons, List.map_nil]); first | done | rfl | (simp only [List.length_drop, List.length_take]; rfl)) ?_; (with_reducible refine (cmp_isNaN_int.calls a1 false _ A4.out).mono ?_); rintro e w' ⟨rfl, ⟨nd, rfl⟩⟩; refine ⟨_, rfl, ?_⟩))
          go_ret
          exact ⟨by first | rfl | (simp; done) | (simp [*]; done), by repeat (first | exact Drawn0.refl _ | apply Drawn0.step)⟩
end Go.Proofs.Ytocndpddghefhaa.X
end
section
namespace Go.Proofs.Ytocndpddghefhaa.X
open Go.RowKit Go.Proofs.YtocndpddghefhaaW.PrintWords Go.Proofs.YtocndpddghefhaaW.PrintLast Go.Proofs.YtocndpddghefhaaW.PrintMore
attribute [local go_sem] max2_int min2_int max_two min_two max_three min_three max_four min_four
set_option linter.unusedVariables false
set_option linter.unusedSimpArgs false
def cmp_isNaN_string.f (a0 : ByteArray) : Option (Bool) := some (a0.toList != a0.toList)
set_option maxHeartbeats 8000000 in
set_option maxRecDepth 100000 in
theorem cmp_isNaN_string.calls (a0 : ByteArray) (r : Bool) (w : World) (h : cmp_isNaN_string.f a0 = some r) :
    Calls Try.prog 104 #[.string a0] w fun e w' => e = .returned (.bool r) ∧ Drawn0 w w' := by
  have H : (some (a0.toList != a0.toList)) = some r := h
  clear h
  obtain rfl := Option.some.inj H
  go_enter Try.func104, Try.ntmps104
  go_wp2
  go_ret
  exact ⟨by first | rfl | (simp; done) | (simp [*]; done), by repeat (first | exact Drawn0.refl _ | apply Drawn0.step)⟩
end Go.Proofs.Ytocndpddghefhaa.X
end
section
namespace Go.Proofs.Ytocndpddghefhaa.X
open Go.RowKit Go.Proofs.YtocndpddghefhaaW.PrintWords Go.Proofs.YtocndpddghefhaaW.PrintLast Go.Proofs.YtocndpddghefhaaW.PrintMore
attribute [local go_sem] max2_int min2_int max_two min_two max_three min_three max_four min_four
set_option linter.unusedVariables false
set_option linter.unusedSimpArgs false
def cmp_Compare_string.f (a0 : ByteArray) (a1 : ByteArray) : Option (Int) := (cmp_isNaN_string.f a0).bind fun t101 => ((cmp_isNaN_string.f a1).bind fun t102 => (if t101 = true then (if t102 = true then (some 0) else (some (-1))) else (if t102 = true then (some 1) else (if (Op.bytesLess a0.toList a1.toList) = true then (some (-1)) else (if (Op.bytesLess a1.toList a0.toList) = true then (some 1) else (some 0))))))
set_option maxHeartbeats 8000000 in
set_option maxRecDepth 100000 in
theorem cmp_Compare_string.calls (a0 : ByteArray) (a1 : ByteArray) (r : Int) (w : World) (h : cmp_Compare_string.f a0 a1 = some r) :
    Calls Try.prog 93 #[.string a0, .string a1] w fun e w' => e = .returned (.int .i64 r) ∧ Drawn0 w w' := by
  have H : ((cmp_isNaN_string.f a0).bind fun t101 => ((cmp_isNaN_string.f a1).bind fun t102 => (if t101 = true then (if t102 = true then (some 0) else (some (-1))) else (if t102 = true then (some 1) else (if (Op.bytesLess a0.toList a1.toList) = true then (some (-1)) else (if (Op.bytesLess a1.toList a0.toList) = true then (some 1) else (some 0))))))) = some r := h
  clear h
  replace H := Option.bind_eq_some_iff.mp H
  obtain ⟨t101, A30, H⟩ := H
  replace H : ((cmp_isNaN_string.f a1).bind fun t102 => (if t101 = true then (if t102 = true then (some 0) else (some (-1))) else (if t102 = true then (some 1) else (if (Op.bytesLess a0.toList a1.toList) = true then (some (-1)) else (if (Op.bytesLess a1.toList a0.toList) = true then (some 1) else (some 0)))))) = some r := H
  have A3 := Aside0.mk A30
  clear A30
  replace H := Option.bind_eq_some_iff.mp H
  obtain ⟨t102, A40, H⟩ := H
  replace H : (if t101 = true then (if t102 = true then (some 0) else (some (-1))) else (if t102 = true then (some 1) else (if (Op.bytesLess a0.toList a1.toList) = true then (some (-1)) else (if (Op.bytesLess a1.toList a0.toList) = true then (some 1) else (some 0))))) = some r := H
  have A4 := Aside0.mk A40
  clear A40
  by_cases c5 : t101 = true
  · subst c5
    have H1 : (if t102 = true then (some 0) else (some (-1))) = some r := by rw [if_pos rfl] at H; exact H
    clear H
    have H := H1
    clear H1
    by_cases c6 : t102 = true
    · subst c6
      have H1 : (some 0) = some r := by rw [if_pos rfl] at H; exact H
      clear H
      have H := H1
      clear H1
      obtain rfl := Option.some.inj H
      go_enter Try.func93, Try.ntmps93
      go_wp2_with (first | ((with_reducible refine gate_callee (f := 104) rfl ?_); refine goesL_ (some 8) rfl rfl Try.func104 (by kernel_rfl) rfl #[.string a0] rfl (by (try simp only [List.map_toArray, List.map_cons, List.map_nil]); first | done | rfl | (simp only [List.length_drop, List.length_take]; rfl)) ?_; (with_reducible refine (cmp_isNaN_string.calls a0 true _ A3.out).mono ?_); rintro e w' ⟨rfl, ⟨nd, rfl⟩⟩; refine ⟨_, rfl, ?_⟩) | ((with_reducible refine gate_callee (f := 104) rfl ?_); refine goesL_ (some 10) rfl rfl Try.func104 (by kernel_rfl) rfl #[.string a1] rfl (by (try simp only [List.map_toArray, List.map_cons, List.map_nil]); first | done | rfl | (simp only [List.length_drop, List.length_take]; rfl)) ?_; (with_reducible refine (cmp_isNaN_string.calls a1 true _ A4.out).mono ?_); rintro e w' ⟨rfl, ⟨nd, rfl⟩⟩; refine ⟨_, rfl, ?_⟩))
      go_ret
      exact ⟨by first | rfl | (simp; done) | (simp [*]; done), by repeat (first | exact Drawn0.refl _ | apply Drawn0.step)⟩
    · replace c6 := Bool.eq_false_iff.mpr c6
      subst c6
      have H1 : (some (-1)) = some r := by rw [if_neg (show ¬ (false = true) by decide)] at H; exact H
      clear H
      have H := H1
      clear H1
      obtain rfl := Option.some.inj H
      go_enter Try.func93, Try.ntmps93
      go_wp2_with (first | ((with_reducible refine gate_callee (f := 104) rfl ?_); refine goesL_ (some 8) rfl rfl Try.func104 (by kernel_rfl) rfl #[.string a0] rfl (by (try simp only [List.map_toArray, List.map_cons, List.map_nil]); first | done | rfl | (simp only [List.length_drop, List.length_take]; rfl)) ?_; (with_reducible refine (cmp_isNaN_string.calls a0 true _ A3.out).mono ?_); rintro e w' ⟨rfl, ⟨nd, rfl⟩⟩; refine ⟨_, rfl, ?_⟩) | ((with_reducible refine gate_callee (f := 104) rfl ?_); refine goesL_ (some 10) rfl rfl Try.func104 (by kernel_rfl) rfl #[.string a1] rfl (by (try simp only [List.map_toArray, List.map_cons, List.map_nil]); first | done | rfl | (simp only [List.length_drop, List.length_take]; rfl)) ?_; (with_reducible refine (cmp_isNaN_string.calls a1 false _ A4.out).mono ?_); rintro e w' ⟨rfl, ⟨nd, rfl⟩⟩; refine ⟨_, rfl, ?_⟩))
      go_ret
      exact ⟨by first | rfl | (simp; done) | (simp [*]; done), by repeat (first | exact Drawn0.refl _ | apply Drawn0.step)⟩
  · replace c5 := Bool.eq_false_iff.mpr c5
    subst c5
    have H1 : (if t102 = true then (some 1) else (if (Op.bytesLess a0.toList a1.toList) = true then (some (-1)) else (if (Op.bytesLess a1.toList a0.toList) = true then (some 1) else (some 0)))) = some r := by rw [if_neg (show ¬ (false = true) by decide)] at H; exact H
    clear H
    have H := H1
    clear H1
    by_cases c7 : t102 = true
    · subst c7
      have H1 : (some 1) = some r := by rw [if_pos rfl] at H; exact H
      clear H
      have H := H1
      clear H1
      obtain rfl := Option.some.inj H
      go_enter Try.func93, Try.ntmps93
      go_wp2_with (first | ((with_reducible refine gate_callee (f := 104) rfl ?_); refine goesL_ (some 8) rfl rfl Try.func104 (by kernel_rfl) rfl #[.string a0] rfl (by (try simp only [List.map_toArray, List.map_cons, List.map_nil]); first | done | rfl | (simp only [List.length_drop, List.length_take]; rfl)) ?_; (with_reducible refine (cmp_isNaN_string.calls a0 false _ A3.out).mono ?_); rintro e w' ⟨rfl, ⟨nd, rfl⟩⟩; refine ⟨_, rfl, ?_⟩) | ((with_reducible refine gate_callee (f := 104) rfl ?_); refine goesL_ (some 10) rfl rfl Try.func104 (by kernel_rfl) rfl #[.string a1] rfl (by (try simp only [List.map_toArray, List.map_cons, List.map_nil]); first | done | rfl | (simp only [List.length_drop, List.length_take]; rfl)) ?_; (with_reducible refine (cmp_isNaN_string.calls a1 true _ A4.out).mono ?_); rintro e w' ⟨rfl, ⟨nd, rfl⟩⟩; refine ⟨_, rfl, ?_⟩))
      go_ret
      exact ⟨by first | rfl | (simp; done) | (simp [*]; done), by repeat (first | exact Drawn0.refl _ | apply Drawn0.step)⟩
    · replace c7 := Bool.eq_false_iff.mpr c7
      subst c7
      have H1 : (if (Op.bytesLess a0.toList a1.toList) = true then (some (-1)) else (if (Op.bytesLess a1.toList a0.toList) = true then (some 1) else (some 0))) = some r := by rw [if_neg (show ¬ (false = true) by decide)] at H; exact H
      clear H
      have H := H1
      clear H1
      by_cases c8 : (Op.bytesLess a0.toList a1.toList) = true
      · rw [if_pos c8] at H
        have c8b0 : (Op.bytesLess a0.toList a1.toList) = true := c8
        clear c8
        obtain rfl := Option.some.inj H
        go_enter Try.func93, Try.ntmps93
        go_wp2_with (first | ((with_reducible refine gate_callee (f := 104) rfl ?_); refine goesL_ (some 8) rfl rfl Try.func104 (by kernel_rfl) rfl #[.string a0] rfl (by (try simp only [List.map_toArray, List.map_cons, List.map_nil]); first | done | rfl | (simp only [List.length_drop, List.length_take]; rfl)) ?_; (with_reducible refine (cmp_isNaN_string.calls a0 false _ A3.out).mono ?_); rintro e w' ⟨rfl, ⟨nd, rfl⟩⟩; refine ⟨_, rfl, ?_⟩) | ((with_reducible refine gate_callee (f := 104) rfl ?_); refine goesL_ (some 10) rfl rfl Try.func104 (by kernel_rfl) rfl #[.string a1] rfl (by (try simp only [List.map_toArray, List.map_cons, List.map_nil]); first | done | rfl | (simp only [List.length_drop, List.length_take]; rfl)) ?_; (with_reducible refine (cmp_isNaN_string.calls a1 false _ A4.out).mono ?_); rintro e w' ⟨rfl, ⟨nd, rfl⟩⟩; refine ⟨_, rfl, ?_⟩))
        go_ret
        exact ⟨by first | rfl | (simp; done) | (simp [*]; done), by repeat (first | exact Drawn0.refl _ | apply Drawn0.step)⟩
      · rw [if_neg c8] at H
        have c8b0 : (Op.bytesLess a0.toList a1.toList) = false := by simpa using c8
        clear c8
        by_cases c9 : (Op.bytesLess a1.toList a0.toList) = true
        · rw [if_pos c9] at H
          have c9b0 : (Op.bytesLess a1.toList a0.toList) = true := c9
          clear c9
          obtain rfl := Option.some.inj H
          go_enter Try.func93, Try.ntmps93
          go_wp2_with (first | ((with_reducible refine gate_callee (f := 104) rfl ?_); refine goesL_ (some 8) rfl rfl Try.func104 (by kernel_rfl) rfl #[.string a0] rfl (by (try simp only [List.map_toArray, List.map_cons, List.map_nil]); first | done | rfl | (simp only [List.length_drop, List.length_take]; rfl)) ?_; (with_reducible refine (cmp_isNaN_string.calls a0 false _ A3.out).mono ?_); rintro e w' ⟨rfl, ⟨nd, rfl⟩⟩; refine ⟨_, rfl, ?_⟩) | ((with_reducible refine gate_callee (f := 104) rfl ?_); refine goesL_ (some 10) rfl rfl Try.func104 (by kernel_rfl) rfl #[.string a1] rfl (by (try simp only [List.map_toArray, List.map_cons, List.map_nil]); first | done | rfl | (simp only [List.length_drop, List.length_take]; rfl)) ?_; (with_reducible refine (cmp_isNaN_string.calls a1 false _ A4.out).mono ?_); rintro e w' ⟨rfl, ⟨nd, rfl⟩⟩; refine ⟨_, rfl, ?_⟩))
          go_ret
          exact ⟨by first | rfl | (simp; done) | (simp [*]; done), by repeat (first | exact Drawn0.refl _ | apply Drawn0.step)⟩
        · rw [if_neg c9] at H
          have c9b0 : (Op.bytesLess a1.toList a0.toList) = false := by simpa using c9
          clear c9
          obtain rfl := Option.some.inj H
          go_enter Try.func93, Try.ntmps93
          go_wp2_with (first | ((with_reducible refine gate_callee (f := 104) rfl ?_); refine goesL_ (some 8) rfl rfl Try.func104 (by kernel_rfl) rfl #[.string a0] rfl (by (try simp only [List.map_toArray, List.map_cons, List.map_nil]); first | done | rfl | (simp only [List.length_drop, List.length_take]; rfl)) ?_; (with_reducible refine (cmp_isNaN_string.calls a0 false _ A3.out).mono ?_); rintro e w' ⟨rfl, ⟨nd, rfl⟩⟩; refine ⟨_, rfl, ?_⟩) | ((with_reducible refine gate_callee (f := 104) rfl ?_); refine goesL_ (some 10) rfl rfl Try.func104 (by kernel_rfl) rfl #[.string a1] rfl (by (try simp only [List.map_toArray, List.map_cons, List.map_nil]); first | done | rfl | (simp only [List.length_drop, List.length_take]; rfl)) ?_; (with_reducible refine (cmp_isNaN_string.calls a1 false _ A4.out).mono ?_); rintro e w' ⟨rfl, ⟨nd, rfl⟩⟩; refine ⟨_, rfl, ?_⟩))
          go_ret
          exact ⟨by first | rfl | (simp; done) | (simp [*]; done), by repeat (first | exact Drawn0.refl _ | apply Drawn0.step)⟩
end Go.Proofs.Ytocndpddghefhaa.X
end
section
namespace Go.Proofs.Ytocndpddghefhaa.X
open Go.RowKit Go.Proofs.YtocndpddghefhaaW.PrintWords Go.Proofs.YtocndpddghefhaaW.PrintLast Go.Proofs.YtocndpddghefhaaW.PrintMore
attribute [local go_sem] max2_int min2_int max_two min_two max_three min_three max_four min_four
set_option linter.unusedVariables false
set_option linter.unusedSimpArgs false
theorem eqA60 (d : Nat) (w : World) (x0 y0 : ByteArray) (x1 y1 : Int) (x2 y2 : Int) (x3 y3 : Int) :
    (Op.equalIn (d + 2) 60 (.agg #[.string x0, .int .i64 x1, .int .i64 x2, .int .i64 x3]) (.agg #[.string y0, .int .i64 y1, .int .i64 y2, .int .i64 y3])).run Try.prog w = .ok (x0.toList == y0.toList && (x1 == y1 && (x2 == y2 && (x3 == y3)))) w := by
  refine eqA_of Try.underlying60 (by kernel_rfl) ?_
  refine eqf_cons (by rfl) (by go_simp; rfl) (by go_simp; rfl) (by go_simp) ?_
  refine eqf_cons (by rfl) (by go_simp; rfl) (by go_simp; rfl) (by go_simp) ?_
  refine eqf_cons (by rfl) (by go_simp; rfl) (by go_simp; rfl) (by go_simp) ?_
  exact eqf_last (by rfl) (by go_simp; rfl) (by go_simp; rfl) (by go_simp)
end Go.Proofs.Ytocndpddghefhaa.X
end
section
namespace Go.Proofs.Ytocndpddghefhaa.X
open Go.RowKit Go.Proofs.YtocndpddghefhaaW.PrintWords Go.Proofs.YtocndpddghefhaaW.PrintLast Go.Proofs.YtocndpddghefhaaW.PrintMore
attribute [local go_sem] max2_int min2_int max_two min_two max_three min_three max_four min_four
set_option linter.unusedVariables false
set_option linter.unusedSimpArgs false
attribute [local go_sem high] eqA60
def series_Compare.f (a0_0 : ByteArray) (a0_1 : Int) (a0_2 : Int) (a0_3 : Int) (a1_0 : ByteArray) (a1_1 : Int) (a1_2 : Int) (a1_3 : Int) : Option (Int) := if (a0_0.toList == a1_0.toList && (a0_1 == a1_1 && (a0_2 == a1_2 && (a0_3 == a1_3)))) = true then (some 0) else (if a0_0.toList = a1_0.toList then (if a0_2 = a1_2 then (if a0_1 = a1_1 then ((cmp_Compare_int.f a0_3 a1_3).bind fun t105 => (some t105)) else ((cmp_Compare_int.f a0_1 a1_1).bind fun t106 => (some t106))) else ((cmp_Compare_int.f a0_2 a1_2).bind fun t104 => (some t104))) else ((cmp_Compare_string.f a0_0 a1_0).bind fun t103 => (some t103)))
set_option maxHeartbeats 8000000 in
set_option maxRecDepth 100000 in
theorem series_Compare.calls (a0_0 : ByteArray) (a0_1 : Int) (a0_2 : Int) (a0_3 : Int) (a1_0 : ByteArray) (a1_1 : Int) (a1_2 : Int) (a1_3 : Int) (r : Int) (w : World) (h : series_Compare.f a0_0 a0_1 a0_2 a0_3 a1_0 a1_1 a1_2 a1_3 = some r) :
    Calls Try.prog 62 #[.agg #[.string a0_0, .int .i64 a0_1, .int .i64 a0_2, .int .i64 a0_3], .agg #[.string a1_0, .int .i64 a1_1, .int .i64 a1_2, .int .i64 a1_3]] w fun e w' => e = .returned (.int .i64 r) ∧ Below w.heap.size w w' := by
  have hu60 := Try.underlying60
  have HB := Aside0.mk (Below.refl w.heap.size w)
  have H : (if (a0_0.toList == a1_0.toList && (a0_1 == a1_1 && (a0_2 == a1_2 && (a0_3 == a1_3)))) = true then (some 0) else (if a0_0.toList = a1_0.toList then (if a0_2 = a1_2 then (if a0_1 = a1_1 then ((cmp_Compare_int.f a0_3 a1_3).bind fun t105 => (some t105)) else ((cmp_Compare_int.f a0_1 a1_1).bind fun t106 => (some t106))) else ((cmp_Compare_int.f a0_2 a1_2).bind fun t104 => (some t104))) else ((cmp_Compare_string.f a0_0 a1_0).bind fun t103 => (some t103)))) = some r := h
  clear h
  by_cases c3 : (a0_0.toList == a1_0.toList && (a0_1 == a1_1 && (a0_2 == a1_2 && (a0_3 == a1_3)))) = true
  · rw [if_pos c3] at H
    have c3b0 : (a0_0.toList == a1_0.toList && (a0_1 == a1_1 && (a0_2 == a1_2 && (a0_3 == a1_3)))) = true := c3
    (try (have c3b1 : decide (a0_0.toList = a1_0.toList && (a0_1 == a1_1 && (a0_2 == a1_2 && (a0_3 == a1_3)))) = true := by simpa using c3))
    (try (have c3b2 : (a0_0.toList == a1_0.toList && (a0_1 == a1_1 && (a0_2 == a1_2 && (a0_3 == a1_3)))) = true := by simpa using c3))
    clear c3
    obtain rfl := Option.some.inj H
    try (have cz_ := c3b0; simp only [c9b0, c10b0, c11b0, Bool.true_and, Bool.and_true] at cz_; have cy_ : decide (a0_3 = a1_3) = false := by simpa using cz_)
    go_enter Try.func62, Try.ntmps62
    go_wp2_with (first | ((with_reducible refine gate_dst (N := 2) rfl ?_); refine box_event ?hg (N := 2) ?hd (cs := #[.string a0_0, .int .i64 a0_1, .int .i64 a0_2, .int .i64 a0_3]) (t := 60) ?hr ?_; (case hd => rfl); (case hg => rfl); (case hr => first | (go_simp; done) | (go_simp; rfl)); intro gb101 hg w4 hbox hb; have n0_ := Aside0.mk (below_step (by repeat (first | (with_reducible first | exact HB.out | apply below_alloc | apply pw_below_drewN | apply below_drew1) | exact HB.out)) hb); have n1_ := Aside0.mk (hbox); have n2_ := Aside0.mk ((by rw [hg]; exact (below_size (by repeat (first | (with_reducible first | exact HB.out | apply below_alloc | apply pw_below_drewN | apply below_drew1) | exact HB.out))) : w.heap.size ≤ gb101)); have n3_ := Aside0.mk ((by rw [hg]; exact (below_size (by repeat (first | (with_reducible first | exact HB.out | apply below_alloc | apply pw_below_drewN | apply below_drew1) | exact HB.out))) : w.heap.size ≤ gb101)); clear HB; have HB := n0_; have BK101 := n1_; have GW101 := n2_; have GE101 := n3_; clear n0_ n1_ n2_ n3_; clear hb hbox hg) | ((with_reducible refine gate_dst (N := 3) rfl ?_); refine box_event ?hg (N := 3) ?hd (cs := #[.string a1_0, .int .i64 a1_1, .int .i64 a1_2, .int .i64 a1_3]) (t := 60) ?hr ?_; (case hd => rfl); (case hg => rfl); (case hr => first | (go_simp; done) | (go_simp; rfl)); intro gb102 hg w5 hbox hb; have n0_ := Aside0.mk (blk_below (g := gb101) (o := .cells #[.string a0_0, .int .i64 a0_1, .int .i64 a0_2, .int .i64 a0_3] 60 (0, 0)) (by (with_reducible repeat (first | refine blk_drewN ?_ _ | refine blk_drew ?_ | refine blk_alloc ?_ _)); exact BK101.out) hb); have n1_ := Aside0.mk (below_step (by repeat (first | (with_reducible first | exact HB.out | apply below_alloc | apply pw_below_drewN | apply below_drew1 | refine below_set ?_ GE101.out) | exact HB.out)) hb); have n2_ := Aside0.mk (hbox); have n3_ := Aside0.mk ((by rw [hg]; exact (below_size (by repeat (first | (with_reducible first | exact HB.out | apply below_alloc | apply pw_below_drewN | apply below_drew1 | refine below_set ?_ GE101.out) | exact HB.out))) : w.heap.size ≤ gb102)); have n4_ := Aside0.mk ((by rw [hg]; exact (below_size (by repeat (first | (with_reducible first | exact HB.out | apply below_alloc | apply pw_below_drewN | apply below_drew1 | refine below_set ?_ GE101.out) | exact HB.out))) : w.heap.size ≤ gb102)); have n5_ := Aside0.mk ((by rw [hg]; exact Nat.ne_of_lt (blk_lt (g := gb101) (o := .cells #[.string a0_0, .int .i64 a0_1, .int .i64 a0_2, .int .i64 a0_3] 60 (0, 0)) (by (with_reducible repeat (first | refine blk_drewN ?_ _ | refine blk_drew ?_ | refine blk_alloc ?_ _)); exact BK101.out)) : gb101 ≠ gb102)); have n6_ := Aside0.mk ((by rw [hg]; exact Nat.ne_of_gt (blk_lt (g := gb101) (o := .cells #[.string a0_0, .int .i64 a0_1, .int .i64 a0_2, .int .i64 a0_3] 60 (0, 0)) (by (with_reducible repeat (first | refine blk_drewN ?_ _ | refine blk_drew ?_ | refine blk_alloc ?_ _)); exact BK101.out)) : gb102 ≠ gb101)); clear BK101; clear HB; have BK101 := n0_; have HB := n1_; have BK102 := n2_; have GW102 := n3_; have GE102 := n4_; have NB101_102 := n5_; have NB102_101 := n6_; clear n0_ n1_ n2_ n3_ n4_ n5_ n6_; clear hb hbox hg; have hnb6 := NB101_102.out; have hnc6 := NB102_101.out; have hcz7_0 : w5.cell? ⟨gb101, 0, none⟩ = some (.string a0_0) := (blk_cell BK101.out 0).trans rfl; have hcz7_1 : w5.cell? ⟨gb101, 1, none⟩ = some (.int .i64 a0_1) := (blk_cell BK101.out 1).trans rfl; have hcz7_2 : w5.cell? ⟨gb101, 2, none⟩ = some (.int .i64 a0_2) := (blk_cell BK101.out 2).trans rfl; have hcz7_3 : w5.cell? ⟨gb101, 3, none⟩ = some (.int .i64 a0_3) := (blk_cell BK101.out 3).trans rfl; have hfz7_0 := blk_frozen BK101.out 0; have hfz7_1 := blk_frozen BK101.out 1; have hfz7_2 := blk_frozen BK101.out 2; have hfz7_3 := blk_frozen BK101.out 3; have hcz8_0 : w5.cell? ⟨gb102, 0, none⟩ = some (.string a1_0) := (blk_cell BK102.out 0).trans rfl; have hcz8_1 : w5.cell? ⟨gb102, 1, none⟩ = some (.int .i64 a1_1) := (blk_cell BK102.out 1).trans rfl; have hcz8_2 : w5.cell? ⟨gb102, 2, none⟩ = some (.int .i64 a1_2) := (blk_cell BK102.out 2).trans rfl; have hcz8_3 : w5.cell? ⟨gb102, 3, none⟩ = some (.int .i64 a1_3) := (blk_cell BK102.out 3).trans rfl; have hfz8_0 := blk_frozen BK102.out 0; have hfz8_1 := blk_frozen BK102.out 1; have hfz8_2 := blk_frozen BK102.out 2; have hfz8_3 := blk_frozen BK102.out 3))
    go_ret
    exact ⟨by first | rfl | (simp [errW_none, errW_some] <;> rfl) | (simp [*, errW_none, errW_some] <;> rfl), by repeat (first | (with_reducible first | exact HB.out | apply below_alloc | apply pw_below_drewN | apply below_drew1 | refine below_set ?_ GE101.out | refine below_set ?_ GE102.out) | exact HB.out)⟩
  · rw [if_neg c3] at H
    have c3b0 : (a0_0.toList == a1_0.toList && (a0_1 == a1_1 && (a0_2 == a1_2 && (a0_3 == a1_3)))) = false := by simpa using c3
    (try (have c3b1 : decide (a0_0.toList = a1_0.toList && (a0_1 == a1_1 && (a0_2 == a1_2 && (a0_3 == a1_3)))) = false := by simpa using c3))
    (try (have c3b2 : (a0_0.toList == a1_0.toList && (a0_1 == a1_1 && (a0_2 == a1_2 && (a0_3 == a1_3)))) = false := by simpa using c3))
    (try (have c3b3 : ¬ (a0_0.toList = a1_0.toList && (a0_1 == a1_1 && (a0_2 == a1_2 && (a0_3 == a1_3)))) := by simpa using c3))
    clear c3
    by_cases c9 : a0_0.toList = a1_0.toList
    · rw [if_pos c9] at H
      have c9b0 : (a0_0.toList == a1_0.toList) = true := beq_iff_eq.mpr c9
      have c9b1 : (a0_0.toList != a1_0.toList) = false := bne_eq_false_iff_eq.mpr c9
      clear c9
      by_cases c10 : a0_2 = a1_2
      · rw [if_pos c10] at H
        have c10b0 : (a0_2 == a1_2) = true := beq_iff_eq.mpr c10
        have c10b1 : (a0_2 != a1_2) = false := bne_eq_false_iff_eq.mpr c10
        clear c10
        by_cases c11 : a0_1 = a1_1
        · rw [if_pos c11] at H
          have c11b0 : (a0_1 == a1_1) = true := beq_iff_eq.mpr c11
          have c11b1 : (a0_1 != a1_1) = false := bne_eq_false_iff_eq.mpr c11
          clear c11
          replace H := Option.bind_eq_some_iff.mp H
          obtain ⟨t105, A120, H⟩ := H
          replace H : (some t105) = some r := H
          have A12 := Aside0.mk A120
          clear A120
          obtain rfl := Option.some.inj H
          try (have cz_ := c3b0; simp only [c9b0, c10b0, c11b0, Bool.true_and, Bool.and_true] at cz_; have cy_ : decide (a0_3 = a1_3) = false := by simpa using cz_)
          go_enter Try.func62, Try.ntmps62
          go_wp2_with (first | ((with_reducible refine gate_dst (N := 2) rfl ?_); refine box_event ?hg (N := 2) ?hd (cs := #[.string a0_0, .int .i64 a0_1, .int .i64 a0_2, .int .i64 a0_3]) (t := 60) ?hr ?_; (case hd => rfl); (case hg => rfl); (case hr => first | (go_simp; done) | (go_simp; rfl)); intro gb101 hg w13 hbox hb; have n0_ := Aside0.mk (below_step (by repeat (first | (with_reducible first | exact HB.out | apply below_alloc | apply pw_below_drewN | apply below_drew1) | exact HB.out)) hb); have n1_ := Aside0.mk (hbox); have n2_ := Aside0.mk ((by rw [hg]; exact (below_size (by repeat (first | (with_reducible first | exact HB.out | apply below_alloc | apply pw_below_drewN | apply below_drew1) | exact HB.out))) : w.heap.size ≤ gb101)); have n3_ := Aside0.mk ((by rw [hg]; exact (below_size (by repeat (first | (with_reducible first | exact HB.out | apply below_alloc | apply pw_below_drewN | apply below_drew1) | exact HB.out))) : w.heap.size ≤ gb101)); clear HB; have HB := n0_; have BK101 := n1_; have GW101 := n2_; have GE101 := n3_; clear n0_ n1_ n2_ n3_; clear hb hbox hg) | ((with_reducible refine gate_dst (N := 3) rfl ?_); refine box_event ?hg (N := 3) ?hd (cs := #[.string a1_0, .int .i64 a1_1, .int .i64 a1_2, .int .i64 a1_3]) (t := 60) ?hr ?_; (case hd => rfl); (case hg => rfl); (case hr => first | (go_simp; done) | (go_simp; rfl)); intro gb102 hg w14 hbox hb; have n0_ := Aside0.mk (blk_below (g := gb101) (o := .cells #[.string a0_0, .int .i64 a0_1, .int .i64 a0_2, .int .i64 a0_3] 60 (0, 0)) (by (with_reducible repeat (first | refine blk_drewN ?_ _ | refine blk_drew ?_ | refine blk_alloc ?_ _)); exact BK101.out) hb); have n1_ := Aside0.mk (below_step (by repeat (first | (with_reducible first | exact HB.out | apply below_alloc | apply pw_below_drewN | apply below_drew1 | refine below_set ?_ GE101.out) | exact HB.out)) hb); have n2_ := Aside0.mk (hbox); have n3_ := Aside0.mk ((by rw [hg]; exact (below_size (by repeat (first | (with_reducible first | exact HB.out | apply below_alloc | apply pw_below_drewN | apply below_drew1 | refine below_set ?_ GE101.out) | exact HB.out))) : w.heap.size ≤ gb102)); have n4_ := Aside0.mk ((by rw [hg]; exact (below_size (by repeat (first | (with_reducible first | exact HB.out | apply below_alloc | apply pw_below_drewN | apply below_drew1 | refine below_set ?_ GE101.out) | exact HB.out))) : w.heap.size ≤ gb102)); have n5_ := Aside0.mk ((by rw [hg]; exact Nat.ne_of_lt (blk_lt (g := gb101) (o := .cells #[.string a0_0, .int .i64 a0_1, .int .i64 a0_2, .int .i64 a0_3] 60 (0, 0)) (by (with_reducible repeat (first | refine blk_drewN ?_ _ | refine blk_drew ?_ | refine blk_alloc ?_ _)); exact BK101.out)) : gb101 ≠ gb102)); have n6_ := Aside0.mk ((by rw [hg]; exact Nat.ne_of_gt (blk_lt (g := gb101) (o := .cells #[.string a0_0, .int .i64 a0_1, .int .i64 a0_2, .int .i64 a0_3] 60 (0, 0)) (by (with_reducible repeat (first | refine blk_drewN ?_ _ | refine blk_drew ?_ | refine blk_alloc ?_ _)); exact BK101.out)) : gb102 ≠ gb101)); clear BK101; clear HB; have BK101 := n0_; have HB := n1_; have BK102 := n2_; have GW102 := n3_; have GE102 := n4_; have NB101_102 := n5_; have NB102_101 := n6_; clear n0_ n1_ n2_ n3_ n4_ n5_ n6_; clear hb hbox hg; have hnb15 := NB101_102.out; have hnc15 := NB102_101.out; have hcz16_0 : w14.cell? ⟨gb101, 0, none⟩ = some (.string a0_0) := (blk_cell BK101.out 0).trans rfl; have hcz16_1 : w14.cell? ⟨gb101, 1, none⟩ = some (.int .i64 a0_1) := (blk_cell BK101.out 1).trans rfl; have hcz16_2 : w14.cell? ⟨gb101, 2, none⟩ = some (.int .i64 a0_2) := (blk_cell BK101.out 2).trans rfl; have hcz16_3 : w14.cell? ⟨gb101, 3, none⟩ = some (.int .i64 a0_3) := (blk_cell BK101.out 3).trans rfl; have hfz16_0 := blk_frozen BK101.out 0; have hfz16_1 := blk_frozen BK101.out 1; have hfz16_2 := blk_frozen BK101.out 2; have hfz16_3 := blk_frozen BK101.out 3; have hcz17_0 : w14.cell? ⟨gb102, 0, none⟩ = some (.string a1_0) := (blk_cell BK102.out 0).trans rfl; have hcz17_1 : w14.cell? ⟨gb102, 1, none⟩ = some (.int .i64 a1_1) := (blk_cell BK102.out 1).trans rfl; have hcz17_2 : w14.cell? ⟨gb102, 2, none⟩ = some (.int .i64 a1_2) := (blk_cell BK102.out 2).trans rfl; have hcz17_3 : w14.cell? ⟨gb102, 3, none⟩ = some (.int .i64 a1_3) := (blk_cell BK102.out 3).trans rfl; have hfz17_0 := blk_frozen BK102.out 0; have hfz17_1 := blk_frozen BK102.out 1; have hfz17_2 := blk_frozen BK102.out 2; have hfz17_3 := blk_frozen BK102.out 3) | ((with_reducible refine gate_callee (f := 94) rfl ?_); refine goesL_ (some 42) rfl rfl Try.func94 (by kernel_rfl) rfl #[.int .i64 a0_3, .int .i64 a1_3] rfl (by (try simp only [List.map_toArray, List.map_cons, List.map_nil]); first | done | rfl | (simp only [List.length_drop, List.length_take]; rfl)) ?_; (with_reducible refine (cmp_Compare_int.calls a0_3 a1_3 t105 _ A12.out).mono ?_); rintro e w' ⟨rfl, ⟨nd, rfl⟩⟩; refine ⟨_, rfl, ?_⟩))
          go_ret
          exact ⟨by first | rfl | (simp [errW_none, errW_some] <;> rfl) | (simp [*, errW_none, errW_some] <;> rfl), by repeat (first | (with_reducible first | exact HB.out | apply below_alloc | apply pw_below_drewN | apply below_drew1 | refine below_set ?_ GE101.out | refine below_set ?_ GE102.out) | exact HB.out)⟩
        · rw [if_neg c11] at H
          have c11b0 : (a0_1 == a1_1) = false := beq_eq_false_iff_ne.mpr c11
          have c11b1 : (a0_1 != a1_1) = true := bne_iff_ne.mpr c11
          replace H := Option.bind_eq_some_iff.mp H
          obtain ⟨t106, A180, H⟩ := H
          replace H : (some t106) = some r := H
          have A18 := Aside0.mk A180
          clear A180
          obtain rfl := Option.some.inj H
          try (have cz_ := c3b0; simp only [c9b0, c10b0, c11b0, Bool.true_and, Bool.and_true] at cz_; have cy_ : decide (a0_3 = a1_3) = false := by simpa using cz_)
          go_enter Try.func62, Try.ntmps62
          go_wp2_with (first | ((with_reducible refine gate_dst (N := 2) rfl ?_); refine box_event ?hg (N := 2) ?hd (cs := #[.string a0_0, .int .i64 a0_1, .int .i64 a0_2, .int .i64 a0_3]) (t := 60) ?hr ?_; (case hd => rfl); (case hg => rfl); (case hr => first | (go_simp; done) | (go_simp; rfl)); intro gb101 hg w19 hbox hb; have n0_ := Aside0.mk (below_step (by repeat (first | (with_reducible first | exact HB.out | apply below_alloc | apply pw_below_drewN | apply below_drew1) | exact HB.out)) hb); have n1_ := Aside0.mk (hbox); have n2_ := Aside0.mk ((by rw [hg]; exact (below_size (by repeat (first | (with_reducible first | exact HB.out | apply below_alloc | apply pw_below_drewN | apply below_drew1) | exact HB.out))) : w.heap.size ≤ gb101)); have n3_ := Aside0.mk ((by rw [hg]; exact (below_size (by repeat (first | (with_reducible first | exact HB.out | apply below_alloc | apply pw_below_drewN | apply below_drew1) | exact HB.out))) : w.heap.size ≤ gb101)); clear HB; have HB := n0_; have BK101 := n1_; have GW101 := n2_; have GE101 := n3_; clear n0_ n1_ n2_ n3_; clear hb hbox hg) | ((with_reducible refine gate_dst (N := 3) rfl ?_); refine box_event ?hg (N := 3) ?hd (cs := #[.string a1_0, .int .i64 a1_1, .int .i64 a1_2, .int .i64 a1_3]) (t := 60) ?hr ?_; (case hd => rfl); (case hg => rfl); (case hr => first | (go_simp; done) | (go_simp; rfl)); intro gb102 hg w20 hbox hb; have n0_ := Aside0.mk (blk_below (g := gb101) (o := .cells #[.string a0_0, .int .i64 a0_1, .int .i64 a0_2, .int .i64 a0_3] 60 (0, 0)) (by (with_reducible repeat (first | refine blk_drewN ?_ _ | refine blk_drew ?_ | refine blk_alloc ?_ _)); exact BK101.out) hb); have n1_ := Aside0.mk (below_step (by repeat (first | (with_reducible first | exact HB.out | apply below_alloc | apply pw_below_drewN | apply below_drew1 | refine below_set ?_ GE101.out) | exact HB.out)) hb); have n2_ := Aside0.mk (hbox); have n3_ := Aside0.mk ((by rw [hg]; exact (below_size (by repeat (first | (with_reducible first | exact HB.out | apply below_alloc | apply pw_below_drewN | apply below_drew1 | refine below_set ?_ GE101.out) | exact HB.out))) : w.heap.size ≤ gb102)); have n4_ := Aside0.mk ((by rw [hg]; exact (below_size (by repeat (first | (with_reducible first | exact HB.out | apply below_alloc | apply pw_below_drewN | apply below_drew1 | refine below_set ?_ GE101.out) | exact HB.out))) : w.heap.size ≤ gb102)); have n5_ := Aside0.mk ((by rw [hg]; exact Nat.ne_of_lt (blk_lt (g := gb101) (o := .cells #[.string a0_0, .int .i64 a0_1, .int .i64 a0_2, .int .i64 a0_3] 60 (0, 0)) (by (with_reducible repeat (first | refine blk_drewN ?_ _ | refine blk_drew ?_ | refine blk_alloc ?_ _)); exact BK101.out)) : gb101 ≠ gb102)); have n6_ := Aside0.mk ((by rw [hg]; exact Nat.ne_of_gt (blk_lt (g := gb101) (o := .cells #[.string a0_0, .int .i64 a0_1, .int .i64 a0_2, .int .i64 a0_3] 60 (0, 0)) (by (with_reducible repeat (first | refine blk_drewN ?_ _ | refine blk_drew ?_ | refine blk_alloc ?_ _)); exact BK101.out)) : gb102 ≠ gb101)); clear BK101; clear HB; have BK101 := n0_; have HB := n1_; have BK102 := n2_; have GW102 := n3_; have GE102 := n4_; have NB101_102 := n5_; have NB102_101 := n6_; clear n0_ n1_ n2_ n3_ n4_ n5_ n6_; clear hb hbox hg; have hnb21 := NB101_102.out; have hnc21 := NB102_101.out; have hcz22_0 : w20.cell? ⟨gb101, 0, none⟩ = some (.string a0_0) := (blk_cell BK101.out 0).trans rfl; have hcz22_1 : w20.cell? ⟨gb101, 1, none⟩ = some (.int .i64 a0_1) := (blk_cell BK101.out 1).trans rfl; have hcz22_2 : w20.cell? ⟨gb101, 2, none⟩ = some (.int .i64 a0_2) := (blk_cell BK101.out 2).trans rfl; have hcz22_3 : w20.cell? ⟨gb101, 3, none⟩ = some (.int .i64 a0_3) := (blk_cell BK101.out 3).trans rfl; have hfz22_0 := blk_frozen BK101.out 0; have hfz22_1 := blk_frozen BK101.out 1; have hfz22_2 := blk_frozen BK101.out 2; have hfz22_3 := blk_frozen BK101.out 3; have hcz23_0 : w20.cell? ⟨gb102, 0, none⟩ = some (.string a1_0) := (blk_cell BK102.out 0).trans rfl; have hcz23_1 : w20.cell? ⟨gb102, 1, none⟩ = some (.int .i64 a1_1) := (blk_cell BK102.out 1).trans rfl; have hcz23_2 : w20.cell? ⟨gb102, 2, none⟩ = some (.int .i64 a1_2) := (blk_cell BK102.out 2).trans rfl; have hcz23_3 : w20.cell? ⟨gb102, 3, none⟩ = some (.int .i64 a1_3) := (blk_cell BK102.out 3).trans rfl; have hfz23_0 := blk_frozen BK102.out 0; have hfz23_1 := blk_frozen BK102.out 1; have hfz23_2 := blk_frozen BK102.out 2; have hfz23_3 := blk_frozen BK102.out 3) | ((with_reducible refine gate_callee (f := 94) rfl ?_); refine goesL_ (some 37) rfl rfl Try.func94 (by kernel_rfl) rfl #[.int .i64 a0_1, .int .i64 a1_1] rfl (by (try simp only [List.map_toArray, List.map_cons, List.map_nil]); first | done | rfl | (simp only [List.length_drop, List.length_take]; rfl)) ?_; (with_reducible refine (cmp_Compare_int.calls a0_1 a1_1 t106 _ A18.out).mono ?_); rintro e w' ⟨rfl, ⟨nd, rfl⟩⟩; refine ⟨_, rfl, ?_⟩))
          go_ret
          exact ⟨by first | rfl | (simp [errW_none, errW_some] <;> rfl) | (simp [*, errW_none, errW_some] <;> rfl), by repeat (first | (with_reducible first | exact HB.out | apply below_alloc | apply pw_below_drewN | apply below_drew1 | refine below_set ?_ GE101.out | refine below_set ?_ GE102.out) | exact HB.out)⟩
      · rw [if_neg c10] at H
        have c10b0 : (a0_2 == a1_2) = false := beq_eq_false_iff_ne.mpr c10
        have c10b1 : (a0_2 != a1_2) = true := bne_iff_ne.mpr c10
        replace H := Option.bind_eq_some_iff.mp H
        obtain ⟨t104, A240, H⟩ := H
        replace H : (some t104) = some r := H
        have A24 := Aside0.mk A240
        clear A240
        obtain rfl := Option.some.inj H
        try (have cz_ := c3b0; simp only [c9b0, c10b0, c11b0, Bool.true_and, Bool.and_true] at cz_; have cy_ : decide (a0_3 = a1_3) = false := by simpa using cz_)
        go_enter Try.func62, Try.ntmps62
        go_wp2_with (first | ((with_reducible refine gate_dst (N := 2) rfl ?_); refine box_event ?hg (N := 2) ?hd (cs := #[.string a0_0, .int .i64 a0_1, .int .i64 a0_2, .int .i64 a0_3]) (t := 60) ?hr ?_; (case hd => rfl); (case hg => rfl); (case hr => first | (go_simp; done) | (go_simp; rfl)); intro gb101 hg w25 hbox hb; have n0_ := Aside0.mk (below_step (by repeat (first | (with_reducible first | exact HB.out | apply below_alloc | apply pw_below_drewN | apply below_drew1) | exact HB.out)) hb); have n1_ := Aside0.mk (hbox); have n2_ := Aside0.mk ((by rw [hg]; exact (below_size (by repeat (first | (with_reducible first | exact HB.out | apply below_alloc | apply pw_below_drewN | apply below_drew1) | exact HB.out))) : w.heap.size ≤ gb101)); have n3_ := Aside0.mk ((by rw [hg]; exact (below_size (by repeat (first | (with_reducible first | exact HB.out | apply below_alloc | apply pw_below_drewN | apply below_drew1) | exact HB.out))) : w.heap.size ≤ gb101)); clear HB; have HB := n0_; have BK101 := n1_; have GW101 := n2_; have GE101 := n3_; clear n0_ n1_ n2_ n3_; clear hb hbox hg) | ((with_reducible refine gate_dst (N := 3) rfl ?_); refine box_event ?hg (N := 3) ?hd (cs := #[.string a1_0, .int .i64 a1_1, .int .i64 a1_2, .int .i64 a1_3]) (t := 60) ?hr ?_; (case hd => rfl); (case hg => rfl); (case hr => first | (go_simp; done) | (go_simp; rfl)); intro gb102 hg w26 hbox hb; have n0_ := Aside0.mk (blk_below (g := gb101) (o := .cells #[.string a0_0, .int .i64 a0_1, .int .i64 a0_2, .int .i64 a0_3] 60 (0, 0)) (by (with_reducible repeat (first | refine blk_drewN ?_ _ | refine blk_drew ?_ | refine blk_alloc ?_ _)); exact BK101.out) hb); have n1_ := Aside0.mk (below_step (by repeat (first | (with_reducible first | exact HB.out | apply below_alloc | apply pw_below_drewN | apply below_drew1 | refine below_set ?_ GE101.out) | exact HB.out)) hb); have n2_ := Aside0.mk (hbox); have n3_ := Aside0.mk ((by rw [hg]; exact (below_size (by repeat (first | (with_reducible first | exact HB.out | apply below_alloc | apply pw_below_drewN | apply below_drew1 | refine below_set ?_ GE101.out) | exact HB.out))) : w.heap.size ≤ gb102)); have n4_ := Aside0.mk ((by rw [hg]; exact (below_size (by repeat (first | (with_reducible first | exact HB.out | apply below_alloc | apply pw_below_drewN | apply below_drew1 | refine below_set ?_ GE101.out) | exact HB.out))) : w.heap.size ≤ gb102)); have n5_ := Aside0.mk ((by rw [hg]; exact Nat.ne_of_lt (blk_lt (g := gb101) (o := .cells #[.string a0_0, .int .i64 a0_1, .int .i64 a0_2, .int .i64 a0_3] 60 (0, 0)) (by (with_reducible repeat (first | refine blk_drewN ?_ _ | refine blk_drew ?_ | refine blk_alloc ?_ _)); exact BK101.out)) : gb101 ≠ gb102)); have n6_ := Aside0.mk ((by rw [hg]; exact Nat.ne_of_gt (blk_lt (g := gb101) (o := .cells #[.string a0_0, .int .i64 a0_1, .int .i64 a0_2, .int .i64 a0_3] 60 (0, 0)) (by (with_reducible repeat (first | refine blk_drewN ?_ _ | refine blk_drew ?_ | refine blk_alloc ?_ _)); exact BK101.out)) : gb102 ≠ gb101)); clear BK101; clear HB; have BK101 := n0_; have HB := n1_; have BK102 := n2_; have GW102 := n3_; have GE102 := n4_; have NB101_102 := n5_; have NB102_101 := n6_; clear n0_ n1_ n2_ n3_ n4_ n5_ n6_; clear hb hbox hg; have hnb27 := NB101_102.out; have hnc27 := NB102_101.out; have hcz28_0 : w26.cell? ⟨gb101, 0, none⟩ = some (.string a0_0) := (blk_cell BK101.out 0).trans rfl; have hcz28_1 : w26.cell? ⟨gb101, 1, none⟩ = some (.int .i64 a0_1) := (blk_cell BK101.out 1).trans rfl; have hcz28_2 : w26.cell? ⟨gb101, 2, none⟩ = some (.int .i64 a0_2) := (blk_cell BK101.out 2).trans rfl; have hcz28_3 : w26.cell? ⟨gb101, 3, none⟩ = some (.int .i64 a0_3) := (blk_cell BK101.out 3).trans rfl; have hfz28_0 := blk_frozen BK101.out 0; have hfz28_1 := blk_frozen BK101.out 1; have hfz28_2 := blk_frozen BK101.out 2; have hfz28_3 := blk_frozen BK101.out 3; have hcz29_0 : w26.cell? ⟨gb102, 0, none⟩ = some (.string a1_0) := (blk_cell BK102.out 0).trans rfl; have hcz29_1 : w26.cell? ⟨gb102, 1, none⟩ = some (.int .i64 a1_1) := (blk_cell BK102.out 1).trans rfl; have hcz29_2 : w26.cell? ⟨gb102, 2, none⟩ = some (.int .i64 a1_2) := (blk_cell BK102.out 2).trans rfl; have hcz29_3 : w26.cell? ⟨gb102, 3, none⟩ = some (.int .i64 a1_3) := (blk_cell BK102.out 3).trans rfl; have hfz29_0 := blk_frozen BK102.out 0; have hfz29_1 := blk_frozen BK102.out 1; have hfz29_2 := blk_frozen BK102.out 2; have hfz29_3 := blk_frozen BK102.out 3) | ((with_reducible refine gate_callee (f := 94) rfl ?_); refine goesL_ (some 27) rfl rfl Try.func94 (by kernel_rfl) rfl #[.int .i64 a0_2, .int .i64 a1_2] rfl (by (try simp only [List.map_toArray, List.map_cons, List.map_nil]); first | done | rfl | (simp only [List.length_drop, List.length_take]; rfl)) ?_; (with_reducible refine (cmp_Compare_int.calls a0_2 a1_2 t104 _ A24.out).mono ?_); rintro e w' ⟨rfl, ⟨nd, rfl⟩⟩; refine ⟨_, rfl, ?_⟩))
        go_ret
        exact ⟨by first | rfl | (simp [errW_none, errW_some] <;> rfl) | (simp [*, errW_none, errW_some] <;> rfl), by repeat (first | (with_reducible first | exact HB.out | apply below_alloc | apply pw_below_drewN | apply below_drew1 | refine below_set ?_ GE101.out | refine below_set ?_ GE102.out) | exact HB.out)⟩
    · rw [if_neg c9] at H
      have c9b0 : (a0_0.toList == a1_0.toList) = false := beq_eq_false_iff_ne.mpr c9
      have c9b1 : (a0_0.toList != a1_0.toList) = true := bne_iff_ne.mpr c9
      replace H := Option.bind_eq_some_iff.mp H
      obtain ⟨t103, A300, H⟩ := H
      replace H : (some t103) = some r := H
      have A30 := Aside0.mk A300
      clear A300
      obtain rfl := Option.some.inj H
      try (have cz_ := c3b0; simp only [c9b0, c10b0, c11b0, Bool.true_and, Bool.and_true] at cz_; have cy_ : decide (a0_3 = a1_3) = false := by simpa using cz_)
      go_enter Try.func62, Try.ntmps62
      go_wp2_with (first | ((with_reducible refine gate_dst (N := 2) rfl ?_); refine box_event ?hg (N := 2) ?hd (cs := #[.string a0_0, .int .i64 a0_1, .int .i64 a0_2, .int .i64 a0_3]) (t := 60) ?hr ?_; (case hd => rfl); (case hg => rfl); (case hr => first | (go_simp; done) | (go_simp; rfl)); intro gb101 hg w31 hbox hb; have n0_ := Aside0.mk (below_step (by repeat (first | (with_reducible first | exact HB.out | apply below_alloc | apply pw_below_drewN | apply below_drew1) | exact HB.out)) hb); have n1_ := Aside0.mk (hbox); have n2_ := Aside0.mk ((by rw [hg]; exact (below_size (by repeat (first | (with_reducible first | exact HB.out | apply below_alloc | apply pw_below_drewN | apply below_drew1) | exact HB.out))) : w.heap.size ≤ gb101)); have n3_ := Aside0.mk ((by rw [hg]; exact (below_size (by repeat (first | (with_reducible first | exact HB.out | apply below_alloc | apply pw_below_drewN | apply below_drew1) | exact HB.out))) : w.heap.size ≤ gb101)); clear HB; have HB := n0_; have BK101 := n1_; have GW101 := n2_; have GE101 := n3_; clear n0_ n1_ n2_ n3_; clear hb hbox hg) | ((with_reducible refine gate_dst (N := 3) rfl ?_); refine box_event ?hg (N := 3) ?hd (cs := #[.string a1_0, .int .i64 a1_1, .int .i64 a1_2, .int .i64 a1_3]) (t := 60) ?hr ?_; (case hd => rfl); (case hg => rfl); (case hr => first | (go_simp; done) | (go_simp; rfl)); intro gb102 hg w32 hbox hb; have n0_ := Aside0.mk (blk_below (g := gb101) (o := .cells #[.string a0_0, .int .i64 a0_1, .int .i64 a0_2, .int .i64 a0_3] 60 (0, 0)) (by (with_reducible repeat (first | refine blk_drewN ?_ _ | refine blk_drew ?_ | refine blk_alloc ?_ _)); exact BK101.out) hb); have n1_ := Aside0.mk (below_step (by repeat (first | (with_reducible first | exact HB.out | apply below_alloc | apply pw_below_drewN | apply below_drew1 | refine below_set ?_ GE101.out) | exact HB.out)) hb); have n2_ := Aside0.mk (hbox); have n3_ := Aside0.mk ((by rw [hg]; exact (below_size (by repeat (first | (with_reducible first | exact HB.out | apply below_alloc | apply pw_below_drewN | apply below_drew1 | refine below_set ?_ GE101.out) | exact HB.out))) : w.heap.size ≤ gb102)); have n4_ := Aside0.mk ((by rw [hg]; exact (below_size (by repeat (first | (with_reducible first | exact HB.out | apply below_alloc | apply pw_below_drewN | apply below_drew1 | refine below_set ?_ GE101.out) | exact HB.out))) : w.heap.size ≤ gb102)); have n5_ := Aside0.mk ((by rw [hg]; exact Nat.ne_of_lt (blk_lt (g := gb101) (o := .cells #[.string a0_0, .int .i64 a0_1, .int .i64 a0_2, .int .i64 a0_3] 60 (0, 0)) (by (with_reducible repeat (first | refine blk_drewN ?_ _ | refine blk_drew ?_ | refine blk_alloc ?_ _)); exact BK101.out)) : gb101 ≠ gb102)); have n6_ := Aside0.mk ((by rw [hg]; exact Nat.ne_of_gt (blk_lt (g := gb101) (o := .cells #[.string a0_0, .int .i64 a0_1, .int .i64 a0_2, .int .i64 a0_3] 60 (0, 0)) (by (with_reducible repeat (first | refine blk_drewN ?_ _ | refine blk_drew ?_ | refine blk_alloc ?_ _)); exact BK101.out)) : gb102 ≠ gb101)); clear BK101; clear HB; have BK101 := n0_; have HB := n1_; have BK102 := n2_; have GW102 := n3_; have GE102 := n4_; have NB101_102 := n5_; have NB102_101 := n6_; clear n0_ n1_ n2_ n3_ n4_ n5_ n6_; clear hb hbox hg; have hnb33 := NB101_102.out; have hnc33 := NB102_101.out; have hcz34_0 : w32.cell? ⟨gb101, 0, none⟩ = some (.string a0_0) := (blk_cell BK101.out 0).trans rfl; have hcz34_1 : w32.cell? ⟨gb101, 1, none⟩ = some (.int .i64 a0_1) := (blk_cell BK101.out 1).trans rfl; have hcz34_2 : w32.cell? ⟨gb101, 2, none⟩ = some (.int .i64 a0_2) := (blk_cell BK101.out 2).trans rfl; have hcz34_3 : w32.cell? ⟨gb101, 3, none⟩ = some (.int .i64 a0_3) := (blk_cell BK101.out 3).trans rfl; have hfz34_0 := blk_frozen BK101.out 0; have hfz34_1 := blk_frozen BK101.out 1; have hfz34_2 := blk_frozen BK101.out 2; have hfz34_3 := blk_frozen BK101.out 3; have hcz35_0 : w32.cell? ⟨gb102, 0, none⟩ = some (.string a1_0) := (blk_cell BK102.out 0).trans rfl; have hcz35_1 : w32.cell? ⟨gb102, 1, none⟩ = some (.int .i64 a1_1) := (blk_cell BK102.out 1).trans rfl; have hcz35_2 : w32.cell? ⟨gb102, 2, none⟩ = some (.int .i64 a1_2) := (blk_cell BK102.out 2).trans rfl; have hcz35_3 : w32.cell? ⟨gb102, 3, none⟩ = some (.int .i64 a1_3) := (blk_cell BK102.out 3).trans rfl; have hfz35_0 := blk_frozen BK102.out 0; have hfz35_1 := blk_frozen BK102.out 1; have hfz35_2 := blk_frozen BK102.out 2; have hfz35_3 := blk_frozen BK102.out 3) | ((with_reducible refine gate_callee (f := 93) rfl ?_); refine goesL_ (some 17) rfl rfl Try.func93 (by kernel_rfl) rfl #[.string a0_0, .string a1_0] rfl (by (try simp only [List.map_toArray, List.map_cons, List.map_nil]); first | done | rfl | (simp only [List.length_drop, List.length_take]; rfl)) ?_; (with_reducible refine (cmp_Compare_string.calls a0_0 a1_0 t103 _ A30.out).mono ?_); rintro e w' ⟨rfl, ⟨nd, rfl⟩⟩; refine ⟨_, rfl, ?_⟩))
      go_ret
      exact ⟨by first | rfl | (simp [errW_none, errW_some] <;> rfl) | (simp [*, errW_none, errW_some] <;> rfl), by repeat (first | (with_reducible first | exact HB.out | apply below_alloc | apply pw_below_drewN | apply below_drew1 | refine below_set ?_ GE101.out | refine below_set ?_ GE102.out) | exact HB.out)⟩
end Go.Proofs.Ytocndpddghefhaa.X
end
