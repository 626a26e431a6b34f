/- For TopLives: contracts, and facts on lists and numbers, that it uses (part 3). -/
import Derived.Test.YtliooghmpkdmoaaGreatDoorTopLivesc2
section
namespace Go.Proofs.YtliooghmpkdmoaaGreatDoor.X
open Go.RowKit Go.Proofs.YtliooghmpkdmoaaGreatDoorW.PrintWords Go.Proofs.YtliooghmpkdmoaaGreatDoorW.PrintLast Go.Proofs.YtliooghmpkdmoaaGreatDoorW.PrintMore
attribute [local go_sem] max2_int min2_int max_two min_two max_three min_three max_four min_four
set_option linter.unusedVariables false
set_option linter.unusedSimpArgs false
def idxA (p : S110 → Bool) : List S110 → Int → Int
  | [], _ => -1
  | x :: r, i => if p x = true then i else idxA p r (i + 1)
theorem idxA_rng (p : S110 → Bool) : ∀ (l : List S110) (i : Nat), idxA p l (i : Int) = -1 ∨ ∃ j : Nat, j < l.length ∧ idxA p l (i : Int) = ((i + j : Nat) : Int)
  | [], i => Or.inl rfl
  | x :: r, i => by
    unfold idxA
    by_cases h : p x = true
    · rw [if_pos h]; exact Or.inr ⟨0, by simp, rfl⟩
    · rw [if_neg h]
      rcases idxA_rng p r (i + 1) with h1 | ⟨j, h1, h2⟩
      · exact Or.inl h1
      · exact Or.inr ⟨j + 1, by simp; omega, by rw [show (i : Int) + 1 = ((i + 1 : Nat) : Int) by omega, h2]; congr 1; omega⟩
set_option maxHeartbeats 1600000 in
set_option maxRecDepth 100000 in
theorem litA (s0 : ByteArray) (s1 : Int) (p q : ByteArray) (g : Nat) (w : World) (hg : w.heap[g]? = some (.cells #[.string p, .string q] 28 (0, 0))) :
    Calls Tryz.prog 87 #[.agg #[.string s0, .int .i64 s1], .pointer (some ⟨g, 0, none⟩)] w fun e w' => e = .returned (.bool (s0.toList == q.toList)) ∧ Below w.heap.size w w' := by
  have hc0 : ∀ o, (w.alloc o).cell? ⟨g, 1, none⟩ = some (.string q) := fun o => blk_cell (blk_alloc hg o) 1
  go_enter Tryz.func87, Tryz.ntmps87
  go_wp2
  go_ret
  exact ⟨eqs, (Below.refl _ _).alloc (Nat.le_refl _) _⟩
set_option maxHeartbeats 1600000 in
set_option maxRecDepth 100000 in
theorem ixA_calls (A : Option Addr) (c : Nat) (l : List S110) (p q : ByteArray) (g : Nat) (w : World) (hr : Kd.C k110 w A l.length l) (hg : w.heap[g]? = some (.cells #[.string p, .string q] 28 (0, 0))) :
    Calls Tryz.prog 86 #[.slice A l.length c, .func (.func 87) #[] #[.pointer (some ⟨g, 0, none⟩)]] w fun e w' => e = .returned (.int .i64 (idxA (fun t => t.f0.toList == q.toList) l 0)) ∧ Below w.heap.size w w' := by
  have HR := Aside0.mk hr
  have HG := Aside0.mk hg
  have hlen := (show l.length ≤ 9223372036854775807 from Kd.C_max hr)
  clear hr hg
  go_enter Tryz.func86, Tryz.ntmps86
  go_wp2_with fail
  go_loopg [8] l.length (fun kq v8 wr => ∃ i : Nat, v8 = .int .i64 (i : Int) ∧ Aside0 (kq + i = l.length) ∧ Aside0 (idxA (fun t => t.f0.toList == q.toList) (l.drop i) (i : Int) = idxA (fun t => t.f0.toList == q.toList) l 0) ∧ Aside0 (Below w.heap.size w wr))
  case atStart => exact ⟨0, rfl, ⟨by omega⟩, ⟨rfl⟩, ⟨Below.refl _ _⟩⟩
  case round =>
    obtain ⟨i, rfl, HK, HF, HB2⟩ := hrel
    by_cases hlt : i < l.length
    · have hti : rd_T110 l (i : Int) = l[i] := by simp [rd_T110, hlt]
      obtain ⟨ad, ea, hx0, hx1⟩ := at_T110 HR.out (i : Int) (by omega) (by omega)
      cases ea
      rw [Int.toNat_natCast] at hx0 hx1
      replace hx0 := (HB2.out.cell (World.block_lt_of_cell? w _ hx0)).trans hx0
      replace hx1 := (HB2.out.cell (World.block_lt_of_cell? w _ hx1)).trans hx1
      rw [hti] at hx0 hx1
      have hf := HF.out
      rw [(List.getElem_cons_drop hlt).symm, idxA] at hf
      generalize l[i] = t at hx0 hx1 hf
      clear hti HF
      by_cases hb : (t.f0.toList == q.toList) = true
      · rw [if_pos hb] at hf
        have HBB := Aside0.mk hb
        have HF := Aside0.mk hf
        clear hb hf
        go_wp2_with (go_at_call 87; refine (litA t.f0 t.f1 p q g _ (blk_below HG.out HB2.out)).mono ?_; rw [HBB.out]; rintro e1 w1 ⟨rfl, hb1⟩; have HB3 := Aside0.mk (below_step HB2.out hb1); clear hb1)
        exact bodyPost_ret (v := .int .i64 (i : Int)) (by simp [results, Tryz.results86, go_sem]) rfl ⟨by rw [← HF.out], HB3.out⟩
      · rw [if_neg hb] at hf
        have HBB := Aside0.mk (show (t.f0.toList == q.toList) = false by simpa using hb)
        have HF := Aside0.mk hf
        clear hb hf
        go_wp2_with (go_at_call 87; refine (litA t.f0 t.f1 p q g _ (blk_below HG.out HB2.out)).mono ?_; rw [HBB.out]; rintro e1 w1 ⟨rfl, hb1⟩; have HB3 := Aside0.mk (below_step HB2.out hb1); clear hb1)
        go_roundg (gk - 1)
        case measure => have := HK.out; omega
        case rel => exact ⟨i + 1, by go_num, ⟨by have := HK.out; omega⟩, ⟨by have := HF.out; simpa using this⟩, HB3⟩
    · have hf := HF.out
      rw [List.drop_of_length_le (by omega), idxA] at hf
      have HF := Aside0.mk hf
      clear hf
      go_wp2_with fail
      exact bodyPost_ret (v := .int .i64 (-1)) (by simp [results, Tryz.results86, go_sem]) rfl ⟨by rw [← HF.out], HB2.out⟩
def accM (q : ByteArray) (l : List S110) : ByteArray × Int × Bool := if idxA (fun t => t.f0.toList == q.toList) l 0 < 0 then ((⟨#[]⟩ : ByteArray), 0, false) else ((rd_T110 l (idxA (fun t => t.f0.toList == q.toList) l 0)).f0, (rd_T110 l (idxA (fun t => t.f0.toList == q.toList) l 0)).f1, true)
def member_Account.f (l : List S107) (p q : ByteArray) : Option (ByteArray × Int × Bool) := (member_Find.f l p).bind fun t => some (accM q t.2.2.1)
set_option maxHeartbeats 1600000 in
set_option maxRecDepth 100000 in
theorem member_Account.calls (A0 : Option Addr) (c0 : Nat) (l0 : List S107) (a1_0 a1_1 : ByteArray) (r1 : ByteArray) (r2 : Int) (r3 : Bool) (w : World) (hr0 : Kd.C k107 w A0 l0.length l0) (hc0 : l0.length ≤ c0) (h : member_Account.f l0 a1_0 a1_1 = some (r1, r2, r3)) :
    Calls Tryz.prog 61 #[.slice A0 l0.length c0, .agg #[.string a1_0, .string a1_1]] w fun e w' => e = .returned (.tuple #[.agg #[.string r1, .int .i64 r2], .bool r3]) ∧ Below w.heap.size w w' := by
  unfold member_Account.f at h
  obtain ⟨⟨t1, t2, t3, t4⟩, hF, h⟩ := Option.bind_eq_some_iff.1 h
  replace h := Option.some.inj h
  dsimp only at h
  have HF := Aside0.mk hF
  have HR := Aside0.mk hr0
  have HC := Aside0.mk hc0
  clear hF hr0 hc0
  have HBA := Aside0.mk (below_alloc (below_alloc (Below.refl w.heap.size w) (.cells #[.string a1_0, .string a1_1] 28)) (.cells #[.string (⟨#[]⟩ : ByteArray), .int .i64 0] 110))
  have HQA := Aside0.mk (blk_alloc (blk_new w (.cells #[.string a1_0, .string a1_1] 28)) (.cells #[.string (⟨#[]⟩ : ByteArray), .int .i64 0] 110))
  have HZA := Aside0.mk (show ((w.alloc (.cells #[.string a1_0, .string a1_1] 28)).alloc (.cells #[.string (⟨#[]⟩ : ByteArray), .int .i64 0] 110)).heap[w.heap.size + 1]? = some (.cells #[.string (⟨#[]⟩ : ByteArray), .int .i64 0] 110 (0, 0)) from by simpa using blk_new (w.alloc (.cells #[.string a1_0, .string a1_1] 28)) (.cells #[.string (⟨#[]⟩ : ByteArray), .int .i64 0] 110))
  unfold accM at h
  obtain ⟨j, hj⟩ : ∃ j, idxA (fun t => t.f0.toList == a1_1.toList) t3 0 = j := ⟨_, rfl⟩
  have HJ := Aside0.mk hj
  have hrng : j = -1 ∨ ∃ i : Nat, i < t3.length ∧ j = (i : Int) := by
    rcases idxA_rng (fun t => t.f0.toList == a1_1.toList) t3 0 with h | ⟨i, h, h2⟩
    · exact Or.inl (hj.symm.trans h)
    · exact Or.inr ⟨i, h, by rw [Nat.zero_add] at h2; exact hj.symm.trans h2⟩
  rw [hj] at h
  clear hj
  by_cases hneg : j < 0
  · rw [if_pos hneg] at h
    simp only [Prod.mk.injEq] at h
    obtain ⟨rfl, rfl, rfl⟩ := h
    have hb := decide_eq_true hneg
    clear hneg hrng
    go_enter Tryz.func61, Tryz.ntmps61
    go_wp2_with (first
      | (go_at_call 60; refine (member_Find.calls _ _ l0 a1_0 t1 t2 t3 t4 _ (Kd.C_below HR.out HBA.out) HC.out HF.out).mono ?_; rintro e1 w1 ⟨v2, rfl, hv2, hb1⟩; obtain ⟨A2, c2, rfl⟩ := Kd.R_slice hv2; have HV2 := Aside0.mk (Kd.R_reads' hv2).2.2; have HZ1 := Aside0.mk (blk_below HZA.out hb1); have HQ1 := Aside0.mk (blk_below HQA.out hb1); have HB1 := Aside0.mk (below_step HBA.out hb1); clear hv2 hb1)
      | (go_at_call 86; refine (ixA_calls A2 c2 t3 a1_0 a1_1 w.heap.size _ (Kd.C_alloc HV2.out _) (blk_alloc HQ1.out _)).mono ?_; rw [HJ.out]; rintro e2 w2 ⟨rfl, hb2⟩; have HB2 := Aside0.mk (below_step (below_alloc HB1.out _) hb2); have HZ2 := Aside0.mk (blk_below (blk_alloc HZ1.out _) hb2); have zc0 : w2.cell? ⟨w.heap.size + 1, 0, none⟩ = some (.string (⟨#[]⟩ : ByteArray)) := blk_cell HZ2.out 0; have zf0 : w2.frozen? ⟨w.heap.size + 1, 0, none⟩ = false := blk_frozen HZ2.out 0; have zc1 : w2.cell? ⟨w.heap.size + 1, 1, none⟩ = some (.int .i64 0) := blk_cell HZ2.out 1; have zf1 : w2.frozen? ⟨w.heap.size + 1, 1, none⟩ = false := blk_frozen HZ2.out 1; clear hb2))
    refine bodyPost_ret (results_ct rfl _ _ (w.heap.size + 1) 110 #[.string (⟨#[]⟩ : ByteArray), .int .i64 0] (0, 0) _ rfl (blk_put (cs := #[.string (⟨#[]⟩ : ByteArray), .int .i64 0]) (blk_put (cs := #[.string (⟨#[]⟩ : ByteArray), .int .i64 0]) (HZ2.out) 0 _ rfl) 1 _ rfl) Tryz.underlying110 rfl (by kernel_rfl)) rfl ⟨rfl, ?_⟩
    exact (Below.setCell (Below.setCell HB2.out (p := ⟨w.heap.size + 1, 0, none⟩) (Nat.le_succ _) _) (p := ⟨w.heap.size + 1, 1, none⟩) (Nat.le_succ _) _)
  · rw [if_neg hneg] at h
    obtain ⟨i, hi, hji⟩ := hrng.resolve_left (by omega)
    have hb := decide_eq_false hneg
    have p0 := eq_true (show 0 ≤ j by omega)
    have q0 := eq_true (show j < (t3.length : Int) by omega)
    have hj0 : 0 ≤ j := by omega
    have hj1 : j < (t3.length : Int) := by omega
    have HJR := Aside0.mk (show 0 ≤ j ∧ j < (t3.length : Int) from ⟨hj0, hj1⟩)
    generalize hT : rd_T110 t3 j = T at h
    have HT := Aside0.mk hT
    simp only [Prod.mk.injEq] at h
    obtain ⟨rfl, rfl, rfl⟩ := h
    clear hneg hrng hji hi hj0 hj1 hT
    go_enter Tryz.func61, Tryz.ntmps61
    go_wp2_with (first
      | (go_at_call 60; refine (member_Find.calls _ _ l0 a1_0 t1 t2 t3 t4 _ (Kd.C_below HR.out HBA.out) HC.out HF.out).mono ?_; rintro e1 w1 ⟨v2, rfl, hv2, hb1⟩; obtain ⟨A2, c2, rfl⟩ := Kd.R_slice hv2; have HV2 := Aside0.mk (Kd.R_reads' hv2).2.2; have HZ1 := Aside0.mk (blk_below HZA.out hb1); have HQ1 := Aside0.mk (blk_below HQA.out hb1); have HB1 := Aside0.mk (below_step HBA.out hb1); clear hv2 hb1)
      | (go_at_call 86; refine (ixA_calls A2 c2 t3 a1_0 a1_1 w.heap.size _ (Kd.C_alloc HV2.out _) (blk_alloc HQ1.out _)).mono ?_; rw [HJ.out]; rintro e2 w2 ⟨rfl, hb2⟩; have HB2 := Aside0.mk (below_step (below_alloc HB1.out _) hb2); have HZ2 := Aside0.mk (blk_below (blk_alloc HZ1.out _) hb2); have hm2 : w2.cell? ⟨w1.heap.size, 2, none⟩ = some (.slice A2 t3.length c2) := blk_cell (blk_below (blk_new w1 _) hb2) 2; obtain ⟨ad, ea, hx0, hx1⟩ := at_T110 (Kd.C_below (Kd.C_alloc HV2.out _) hb2) j HJR.out.1 HJR.out.2; cases ea; rw [HT.out] at hx0 hx1; have zc0 : w2.cell? ⟨w.heap.size + 1, 0, none⟩ = some (.string (⟨#[]⟩ : ByteArray)) := blk_cell HZ2.out 0; have zf0 : w2.frozen? ⟨w.heap.size + 1, 0, none⟩ = false := blk_frozen HZ2.out 0; have zc1 : w2.cell? ⟨w.heap.size + 1, 1, none⟩ = some (.int .i64 0) := blk_cell HZ2.out 1; have zf1 : w2.frozen? ⟨w.heap.size + 1, 1, none⟩ = false := blk_frozen HZ2.out 1; clear hb2))
    refine bodyPost_ret (results_ct rfl _ _ (w.heap.size + 1) 110 #[.string T.f0, .int .i64 T.f1] (0, 0) _ rfl (blk_put (cs := #[.string T.f0, .int .i64 0]) (blk_put (cs := #[.string (⟨#[]⟩ : ByteArray), .int .i64 0]) (HZ2.out) 0 _ rfl) 1 _ rfl) Tryz.underlying110 rfl (by kernel_rfl)) rfl ⟨rfl, ?_⟩
    exact (Below.setCell (Below.setCell HB2.out (p := ⟨w.heap.size + 1, 0, none⟩) (Nat.le_succ _) _) (p := ⟨w.heap.size + 1, 1, none⟩) (Nat.le_succ _) _)
def slices_Index_int_int.l0 : Nat → List Int → Int → Int → Int → Option (Int)
  | 0, _, _, _, _ => none
  | k + 1, x0, x1, x7, x8 => if x8 < x7 then (if 0 ≤ x8 then (if x8 < (x0.length : Int) then (if x1 = (rd x0 x8) then (some x8) else (slices_Index_int_int.l0 k x0 x1 x7 (wrap64 (x8 + 1)))) else (none)) else (none)) else (some (-1))
def slices_Index_int_int.f (k : Nat) (l0 : List Int) (a1 : Int) : Option (Int) := slices_Index_int_int.l0 k l0 a1 (l0.length : Int) 0
theorem slices_Index_int_int.mono_l : ∀ k, (∀ y0 y1 y2 y3, LeO (slices_Index_int_int.l0 k y0 y1 y2 y3) (slices_Index_int_int.l0 (k + 1) y0 y1 y2 y3))
  | 0 => fun _ _ _ _ r h => by simp [slices_Index_int_int.l0] at h
  | k + 1 => by
    have ih0 := slices_Index_int_int.mono_l k
    · intro y0 y1 y2 y3
      unfold slices_Index_int_int.l0
      repeat' first
      | (with_reducible exact ih0 _ _ _ _)
      | (with_reducible exact LeO.refl _)
      | (with_reducible exact LeO.none _)
      | (with_reducible refine LeO.ite ?_ ?_)
      | (with_reducible refine LeO.bind ?_ (fun _ => ?_))
      | exact ih0 _ _ _ _
      | exact LeO.none _
      | refine LeO.ite ?_ ?_
      | refine LeO.bind ?_ (fun _ => ?_)
theorem slices_Index_int_int.mono : ∀ a0 a1 k, LeO (slices_Index_int_int.f k a0 a1) (slices_Index_int_int.f (k + 1) a0 a1) := by
  intro a0 a1 k
  have ih0 := slices_Index_int_int.mono_l k
  unfold slices_Index_int_int.f
  repeat' first
      | (with_reducible exact ih0 _ _ _ _)
      | (with_reducible exact LeO.refl _)
      | (with_reducible exact LeO.none _)
      | (with_reducible refine LeO.ite ?_ ?_)
      | (with_reducible refine LeO.bind ?_ (fun _ => ?_))
      | exact ih0 _ _ _ _
      | exact LeO.none _
      | refine LeO.ite ?_ ?_
      | refine LeO.bind ?_ (fun _ => ?_)
set_option maxHeartbeats 8000000 in
set_option maxRecDepth 100000 in
theorem slices_Index_int_int.calls (k : Nat) (A0 : Option Addr) (c0 : Nat) (l0 : List Int) (a1 : Int) (r : Int) (w : World) (hr0 : Kd.C (Kd.int .i64) w A0 l0.length l0) (hc0 : l0.length ≤ c0) (h : slices_Index_int_int.f k l0 a1 = some r) :
    Calls Tryz.prog 88 #[.slice A0 l0.length c0, .int .i64 a1] w fun e w' => e = .returned (.int .i64 r) ∧ Drawn0 w w' := by
  have HR0 := Aside0.mk hr0
  have HC0 := Aside0.mk hc0
  clear hr0 hc0
  have H : (slices_Index_int_int.l0 k l0 a1 (l0.length : Int) 0) = some r := h
  clear h
  have H' := Aside0.mk H
  clear H
  go_enter Tryz.func88, Tryz.ntmps88
  go_wp2
  go_loopg [8] k (fun kq v8 w' => ∃ (x8_1 : Int), v8 = .int .i64 x8_1 ∧ Aside0 (slices_Index_int_int.l0 kq l0 a1 (l0.length : Int) x8_1 = some r) ∧ Aside0 (kq ≤ k) ∧ Drawn0 w w')
  case atStart => exact ⟨(0), eqs, H', ⟨Nat.le_refl _⟩, drz⟩
  case round =>
    clear H'
    try clear p2
    obtain ⟨x8_1, rfl, HA, HK1, ⟨m1, rfl⟩⟩ := hrel
    cases gk with
    | zero => exact absurd HA.out (by simp [slices_Index_int_int.l0])
    | succ k1 =>
      have H := HA.out
      clear HA
      simp only [slices_Index_int_int.l0] at H
      by_cases c3 : x8_1 < (l0.length : Int)
      · rw [if_pos c3] at H
        have c3b0 := decide_eq_true c3
        clear c3
        by_cases c4 : 0 ≤ x8_1
        · rw [if_pos c4] at H
          have c4b0 := decide_eq_true c4
          clear c4
          by_cases c5 : x8_1 < (l0.length : Int)
          · rw [if_pos c5] at H
            have c5b0 := decide_eq_true c5
            clear c5
            by_cases c6 : a1 = (rd l0 x8_1)
            · rw [if_pos c6] at H
              have c6b0 : (a1 == (rd l0 x8_1)) = true := beq_iff_eq.mpr c6
              have c6b1 : (a1 != (rd l0 x8_1)) = false := bne_eq_false_iff_eq.mpr c6
              clear c6
              obtain rfl := Option.some.inj H
              have p101 : 0 ≤ (x8_1 : Int) := dt
              have q101 : x8_1 < (l0.length : Int) := dt
              obtain ⟨ad101, e101, hx101_0⟩ := Kd.at_int HR0.out x8_1 p101 q101
              cases e101
              replace p101 := eq_true p101
              replace q101 := eq_true q101
              go_wp2
              go_ret
              exact ⟨eqs, drz⟩
            · rw [if_neg c6] at H
              have c6b0 : (a1 == (rd l0 x8_1)) = false := beq_eq_false_iff_ne.mpr c6
              have c6b1 : (a1 != (rd l0 x8_1)) = true := bne_iff_ne.mpr c6
              have H' := Aside0.mk H
              clear H
              have p101 : 0 ≤ (x8_1 : Int) := dt
              have q101 : x8_1 < (l0.length : Int) := dt
              obtain ⟨ad101, e101, hx101_0⟩ := Kd.at_int HR0.out x8_1 p101 q101
              cases e101
              replace p101 := eq_true p101
              replace q101 := eq_true q101
              go_wp2
              go_roundg k1
              case measure => have := HK1.out; omega
              case rel => exact ⟨(wrap64 (x8_1 + 1)), eqs, H', ⟨hko⟩, drz⟩
          · rw [if_neg c5] at H
            exact absurd H (by simp)
        · rw [if_neg c4] at H
          exact absurd H (by simp)
      · rw [if_neg c3] at H
        have c3b0 := decide_eq_false c3
        clear c3
        obtain rfl := Option.some.inj H
        go_wp2
        go_ret
        exact ⟨eqs, drz⟩
def slices_Contains_int_int.f (k : Nat) (l0 : List Int) (a1 : Int) : Option (Bool) := (slices_Index_int_int.f k l0 a1).bind fun t101 => (some (decide (t101 ≥ 0)))
theorem slices_Contains_int_int.mono : ∀ a0 a1 k, LeO (slices_Contains_int_int.f k a0 a1) (slices_Contains_int_int.f (k + 1) a0 a1) := by
  intro a0 a1 k
  unfold slices_Contains_int_int.f
  repeat' first
      | (with_reducible exact slices_Index_int_int.mono _ _ _)
      | (with_reducible exact LeO.refl _)
      | (with_reducible exact LeO.none _)
      | (with_reducible refine LeO.ite ?_ ?_)
      | (with_reducible refine LeO.bind ?_ (fun _ => ?_))
      | exact slices_Index_int_int.mono _ _ _
      | exact LeO.none _
      | refine LeO.ite ?_ ?_
      | refine LeO.bind ?_ (fun _ => ?_)
set_option maxHeartbeats 8000000 in
set_option maxRecDepth 100000 in
theorem slices_Contains_int_int.calls (k : Nat) (A0 : Option Addr) (c0 : Nat) (l0 : List Int) (a1 : Int) (r : Bool) (w : World) (hr0 : Kd.C (Kd.int .i64) w A0 l0.length l0) (hc0 : l0.length ≤ c0) (h : slices_Contains_int_int.f k l0 a1 = some r) :
    Calls Tryz.prog 62 #[.slice A0 l0.length c0, .int .i64 a1] w fun e w' => e = .returned (.bool r) ∧ Drawn0 w w' := by
  have HR0 := Aside0.mk hr0
  have HC0 := Aside0.mk hc0
  clear hr0 hc0
  have H : ((slices_Index_int_int.f k l0 a1).bind fun t101 => (some (decide (t101 ≥ 0)))) = some r := h
  clear h
  replace H := bnd H
  obtain ⟨t101, A30, H⟩ := H
  have A3 := Aside0.mk A30
  clear A30
  obtain rfl := Option.some.inj H
  go_enter Tryz.func62, Tryz.ntmps62
  go_wp2_with (first | ((with_reducible refine gate_callee (f := 88) rfl ?_); refine goesL_ (some 7) rfl rfl Tryz.func88 (by kernel_rfl) rfl #[.slice A0 l0.length c0, .int .i64 a1] rfl arg ?_; (with_reducible refine (slices_Index_int_int.calls k _ _ l0 a1 t101 _ ?side1 ?side2 A3.out).mono ?_); (case side1 => repeat (first | exact HR0.out | (with_reducible refine Kd.C_alloc ?_ _) | (with_reducible refine Kd.C_drewN ?_ _) | (with_reducible refine Kd.C_drew ?_))); (case side2 => exact HC0.out); rintro e w' ⟨rfl, ⟨nd, rfl⟩⟩; refine ⟨_, rfl, ?_⟩))
  go_ret
  exact ⟨eqs, drz⟩
def member_May.f (k : Nat) (l0 : List (S107)) (a1_0 : ByteArray) (a1_1 : ByteArray) (a2 : Int) : Option (Int) := (member_Find.f l0 a1_0).bind fun bt102 => (if bt102.2.2.2 = true then ((member_Account.f l0 a1_0 a1_1).bind fun bt109 => (if bt109.2.2 = true then (if bt102.2.1 = 1 then (some 0) else (if bt102.2.1 = 2 then (if a2 = 1 then (some 13) else (if a2 = 3 then (some 13) else (some 0))) else (if bt102.2.1 = 3 then ((slices_Contains_int_int.f k (([4, 5, 6, 7, 8] : List Int)) a2).bind fun t116 => (if t116 = true then (some 0) else (some 13))) else (some 13)))) else (some 21))) else (some 20))
set_option maxHeartbeats 8000000 in
set_option maxRecDepth 100000 in
theorem member_May.calls (k : Nat) (A0 : Option Addr) (c0 : Nat) (l0 : List (S107)) (a1_0 : ByteArray) (a1_1 : ByteArray) (a2 : Int) (r : Int) (w : World) (hr0 : Kd.C k107 w A0 l0.length l0) (hc0 : l0.length ≤ c0) (h : member_May.f k l0 a1_0 a1_1 a2 = some r) :
    Calls Tryz.prog 27 #[.slice A0 l0.length c0, .agg #[.string a1_0, .string a1_1], .int .i64 a2] w fun e w' => e = .returned (.int .i64 r) ∧ Below w.heap.size w w' := by
  have hu28 := Tryz.underlying28
  have hu107 := Tryz.underlying107
  have hu110 := Tryz.underlying110
  have HR0 := Aside0.mk hr0
  have HC0 := Aside0.mk hc0
  clear hr0 hc0
  have HB := Aside0.mk (Below.refl w.heap.size w)
  have H : ((member_Find.f l0 a1_0).bind fun bt102 => (if bt102.2.2.2 = true then ((member_Account.f l0 a1_0 a1_1).bind fun bt109 => (if bt109.2.2 = true then (if bt102.2.1 = 1 then (some 0) else (if bt102.2.1 = 2 then (if a2 = 1 then (some 13) else (if a2 = 3 then (some 13) else (some 0))) else (if bt102.2.1 = 3 then ((slices_Contains_int_int.f k (([4, 5, 6, 7, 8] : List Int)) a2).bind fun t116 => (if t116 = true then (some 0) else (some 13))) else (some 13)))) else (some 21))) else (some 20))) = some r := h
  clear h
  replace H := bnd H
  obtain ⟨⟨t102, t103, t104, t107⟩, A40, H⟩ := H
  replace H : (if t107 = true then ((member_Account.f l0 a1_0 a1_1).bind fun bt109 => (if bt109.2.2 = true then (if t103 = 1 then (some 0) else (if t103 = 2 then (if a2 = 1 then (some 13) else (if a2 = 3 then (some 13) else (some 0))) else (if t103 = 3 then ((slices_Contains_int_int.f k (([4, 5, 6, 7, 8] : List Int)) a2).bind fun t116 => (if t116 = true then (some 0) else (some 13))) else (some 13)))) else (some 21))) else (some 20)) = some r := H
  have A4 := Aside0.mk A40
  clear A40
  by_cases c5 : t107 = true
  · subst c5
    rw [if_pos rfl] at H
    replace H := bnd H
    obtain ⟨⟨t109, t110, t111⟩, A60, H⟩ := H
    replace H : (if t111 = true then (if t103 = 1 then (some 0) else (if t103 = 2 then (if a2 = 1 then (some 13) else (if a2 = 3 then (some 13) else (some 0))) else (if t103 = 3 then ((slices_Contains_int_int.f k (([4, 5, 6, 7, 8] : List Int)) a2).bind fun t116 => (if t116 = true then (some 0) else (some 13))) else (some 13)))) else (some 21)) = some r := H
    have A6 := Aside0.mk A60
    clear A60
    go_enter Tryz.func27, Tryz.ntmps27
    go_wp2_with (first | ((with_reducible refine gate_dst (N := 4) rfl ?_); refine box_event ?hg (N := 4) ?hd (cs := #[.string a1_0, .string a1_1]) (t := 28) ?hr ?_; (case hd => rfl); (case hg => rfl); (case hr => first | (go_simp; done) | (go_simp; rfl)); intro gb101 hg w9 hbox hb; have BK101 := Aside0.mk (hbox); have GW101 := Aside0.mk ((gsz hg : w.heap.size ≤ gb101)); have GE101 := Aside0.mk ((gsz hg : w.heap.size ≤ gb101)); replace HB := Aside0.mk (below_step bel hb); clear hb hbox hg; obtain ⟨hcz10_0, hcz10_1, hfz10_0, hfz10_1⟩ := cz2 BK101.out) | ((with_reducible refine gate_callee (f := 60) rfl ?_); refine goesL_ (some 16) rfl rfl Tryz.func60 (by kernel_rfl) rfl #[.slice A0 l0.length c0, .string a1_0] rfl arg ?_; (with_reducible refine (member_Find.calls _ _ l0 a1_0 t102 t103 t104 true _ ?side1 ?side2 A4.out).mono ?_); (case side1 => repeat (first | exact (Kd.C_below HR0.out HB.out) | (with_reducible refine Kd.C_alloc ?_ _) | (with_reducible refine Kd.C_drewN ?_ _) | (with_reducible refine Kd.C_drew ?_))); (case side2 => exact HC0.out); rintro e w11 ⟨v105, rfl, ho0, hb⟩; refine ⟨_, rfl, ?_⟩; have HO106 := Aside0.mk (Kd.R_lower ho0 (below_size bel)); replace BK101 := Aside0.mk (blk_below (g := gb101) (bw BK101.out) hb); replace HB := Aside0.mk (below_step bel hb); (try clear hb); (try clear hb2); (try clear hk); (try clear hi); (try clear ho0)) | ((with_reducible refine gate_dst (N := 7) rfl ?_); refine Aside0.out ?_))
    by_cases c7 : t111 = true
    · subst c7
      rw [if_pos rfl] at H
      refine Aside0.mk ?_
      (refine box_event ?hg (N := 7) ?hd (cs := #[.string (⟨#[]⟩ : ByteArray), .int .i64 0, .slice none 0 0]) (t := 107) ?hr ?_; (case hd => rfl); (case hg => rfl); (case hr => first | (go_simp; done) | (go_simp; rfl)); intro gb108 hg w12 hbox hb; replace HO106 := Aside0.mk (Kd.R_below (kr HO106.out) hb); have BK108 := Aside0.mk (hbox); have GW108 := Aside0.mk ((gsz hg : w.heap.size ≤ gb108)); have GE108 := Aside0.mk ((gsz hg : w.heap.size ≤ gb108)); have NB101_108 := Aside0.mk ((nlt hg (bw BK101.out) : gb101 ≠ gb108)); have NB108_101 := Aside0.mk ((ngt hg (bw BK101.out) : gb108 ≠ gb101)); replace BK101 := Aside0.mk (blk_below (g := gb101) (bw BK101.out) hb); replace HB := Aside0.mk (below_step bel hb); clear hb hbox hg; have hnb13 := NB108_101.out; have hnc13 := NB101_108.out; obtain ⟨hcz14_0, hcz14_1, hcz14_2, hfz14_0, hfz14_1, hfz14_2⟩ := cz3 BK108.out; obtain ⟨Ao15, co15, eo15⟩ := Kd.R_slice HO106.out; subst eo15; obtain ⟨hcz16_0, hcz16_1, hfz16_0, hfz16_1⟩ := cz2 BK101.out)
      go_wp2_with (first | ((with_reducible refine gate_callee (f := 61) rfl ?_); refine goesL_ (some 24) rfl rfl Tryz.func61 (by kernel_rfl) rfl #[.slice A0 l0.length c0, .agg #[.string a1_0, .string a1_1]] rfl arg ?_; (with_reducible refine (member_Account.calls _ _ l0 a1_0 a1_1 t109 t110 true _ ?side1 ?side2 A6.out).mono ?_); (case side1 => exact Kd.C_below HR0.out bel); (case side2 => exact HC0.out); rintro e w17 ⟨rfl, hb⟩; refine ⟨_, rfl, ?_⟩; replace HO106 := Aside0.mk (Kd.R_below (by (with_reducible repeat (first | apply Kd.R_alloc | apply Kd.R_drewN | apply Kd.R_drew)); exact (Kd.R_mono (Kd.R_far (p := ⟨gb108, 2, none⟩) (Kd.R_far (p := ⟨gb108, 1, none⟩) (Kd.R_far (p := ⟨gb108, 0, none⟩) (Kd.R_types HO106.out BK108.out (by decide)) (fun _ hk => hk.2) (.string t102)) (fun _ hk => hk.2) (.int .i64 t103)) (fun _ hk => hk.2) (.slice Ao15 t104.length co15)) (fun _ h_ => h_.1))) hb); replace BK101 := Aside0.mk (blk_below (g := gb101) (o := .cells #[.string a1_0, .string a1_1] 28 (0, 0)) (bs BK101.out) hb); replace BK108 := Aside0.mk (blk_below (g := gb108) (o := .cells #[.string t102, .int .i64 t103, .slice Ao15 t104.length co15] 107 (0, 0)) (bs BK108.out) hb); replace HB := Aside0.mk (below_step bel hb); (try clear hb); (try clear hb2); (try clear hk); (try clear hi)) | ((with_reducible refine gate_dst (N := 9) rfl ?_); refine Aside0.out ?_))
      by_cases c8 : t103 = 1
      · rw [if_pos c8] at H
        have c8b0 : (t103 == 1) = true := beq_iff_eq.mpr c8
        have c8b1 : (t103 != 1) = false := bne_eq_false_iff_eq.mpr c8
        clear c8
        obtain rfl := Option.some.inj H
        refine Aside0.mk ?_
        (refine box_event ?hg (N := 9) ?hd (cs := #[.string (⟨#[]⟩ : ByteArray), .int .i64 0]) (t := 110) ?hr ?_; (case hd => rfl); (case hg => rfl); (case hr => first | (go_simp; done) | (go_simp; rfl)); intro gb112 hg w18 hbox hb; replace HO106 := Aside0.mk (Kd.R_below (Kd.R_elderB (kr HO106.out) gb112 (Nat.le_of_eq hg.symm)) hb); have BK112 := Aside0.mk (hbox); have GW112 := Aside0.mk ((gsz hg : w.heap.size ≤ gb112)); have GE112 := Aside0.mk ((gsz hg : w.heap.size ≤ gb112)); have NB101_112 := Aside0.mk ((nlt hg (bw BK101.out) : gb101 ≠ gb112)); have NB112_101 := Aside0.mk ((ngt hg (bw BK101.out) : gb112 ≠ gb101)); replace BK101 := Aside0.mk (blk_below (g := gb101) (bw BK101.out) hb); have NB108_112 := Aside0.mk ((nlt hg (bw BK108.out) : gb108 ≠ gb112)); have NB112_108 := Aside0.mk ((ngt hg (bw BK108.out) : gb112 ≠ gb108)); replace BK108 := Aside0.mk (blk_below (g := gb108) (bw BK108.out) hb); replace HB := Aside0.mk (below_step bel hb); clear hb hbox hg; have hnb19 := NB112_101.out; have hnc19 := NB101_112.out; have hnb20 := NB112_108.out; have hnc20 := NB108_112.out; obtain ⟨hcz21_0, hcz21_1, hfz21_0, hfz21_1⟩ := cz2 BK112.out; obtain ⟨hcz22_0, hcz22_1, hcz22_2, hfz22_0, hfz22_1, hfz22_2⟩ := cz3 BK108.out)
        go_wp2_with (fail)
        go_ret
        exact ⟨ers, bel⟩
      · rw [if_neg c8] at H
        have c8b0 : (t103 == 1) = false := beq_eq_false_iff_ne.mpr c8
        have c8b1 : (t103 != 1) = true := bne_iff_ne.mpr c8
        by_cases c23 : t103 = 2
        · rw [if_pos c23] at H
          have c23b0 : (t103 == 2) = true := beq_iff_eq.mpr c23
          have c23b1 : (t103 != 2) = false := bne_eq_false_iff_eq.mpr c23
          clear c23
          by_cases c24 : a2 = 1
          · rw [if_pos c24] at H
            have c24b0 : (a2 == 1) = true := beq_iff_eq.mpr c24
            have c24b1 : (a2 != 1) = false := bne_eq_false_iff_eq.mpr c24
            clear c24
            obtain rfl := Option.some.inj H
            refine Aside0.mk ?_
            (refine box_event ?hg (N := 9) ?hd (cs := #[.string (⟨#[]⟩ : ByteArray), .int .i64 0]) (t := 110) ?hr ?_; (case hd => rfl); (case hg => rfl); (case hr => first | (go_simp; done) | (go_simp; rfl)); intro gb112 hg w34 hbox hb; replace HO106 := Aside0.mk (Kd.R_below (Kd.R_elderB (kr HO106.out) gb112 (Nat.le_of_eq hg.symm)) hb); have BK112 := Aside0.mk (hbox); have GW112 := Aside0.mk ((gsz hg : w.heap.size ≤ gb112)); have GE112 := Aside0.mk ((gsz hg : w.heap.size ≤ gb112)); have NB101_112 := Aside0.mk ((nlt hg (bw BK101.out) : gb101 ≠ gb112)); have NB112_101 := Aside0.mk ((ngt hg (bw BK101.out) : gb112 ≠ gb101)); replace BK101 := Aside0.mk (blk_below (g := gb101) (bw BK101.out) hb); have NB108_112 := Aside0.mk ((nlt hg (bw BK108.out) : gb108 ≠ gb112)); have NB112_108 := Aside0.mk ((ngt hg (bw BK108.out) : gb112 ≠ gb108)); replace BK108 := Aside0.mk (blk_below (g := gb108) (bw BK108.out) hb); replace HB := Aside0.mk (below_step bel hb); clear hb hbox hg; have hnb35 := NB112_101.out; have hnc35 := NB101_112.out; have hnb36 := NB112_108.out; have hnc36 := NB108_112.out; obtain ⟨hcz37_0, hcz37_1, hfz37_0, hfz37_1⟩ := cz2 BK112.out; obtain ⟨hcz38_0, hcz38_1, hcz38_2, hfz38_0, hfz38_1, hfz38_2⟩ := cz3 BK108.out)
            go_wp2_with (fail)
            go_ret
            exact ⟨ers, bel⟩
          · rw [if_neg c24] at H
            have c24b0 : (a2 == 1) = false := beq_eq_false_iff_ne.mpr c24
            have c24b1 : (a2 != 1) = true := bne_iff_ne.mpr c24
            by_cases c39 : a2 = 3
            · rw [if_pos c39] at H
              have c39b0 : (a2 == 3) = true := beq_iff_eq.mpr c39
              have c39b1 : (a2 != 3) = false := bne_eq_false_iff_eq.mpr c39
              clear c39
              obtain rfl := Option.some.inj H
              refine Aside0.mk ?_
              (refine box_event ?hg (N := 9) ?hd (cs := #[.string (⟨#[]⟩ : ByteArray), .int .i64 0]) (t := 110) ?hr ?_; (case hd => rfl); (case hg => rfl); (case hr => first | (go_simp; done) | (go_simp; rfl)); intro gb112 hg w49 hbox hb; replace HO106 := Aside0.mk (Kd.R_below (Kd.R_elderB (kr HO106.out) gb112 (Nat.le_of_eq hg.symm)) hb); have BK112 := Aside0.mk (hbox); have GW112 := Aside0.mk ((gsz hg : w.heap.size ≤ gb112)); have GE112 := Aside0.mk ((gsz hg : w.heap.size ≤ gb112)); have NB101_112 := Aside0.mk ((nlt hg (bw BK101.out) : gb101 ≠ gb112)); have NB112_101 := Aside0.mk ((ngt hg (bw BK101.out) : gb112 ≠ gb101)); replace BK101 := Aside0.mk (blk_below (g := gb101) (bw BK101.out) hb); have NB108_112 := Aside0.mk ((nlt hg (bw BK108.out) : gb108 ≠ gb112)); have NB112_108 := Aside0.mk ((ngt hg (bw BK108.out) : gb112 ≠ gb108)); replace BK108 := Aside0.mk (blk_below (g := gb108) (bw BK108.out) hb); replace HB := Aside0.mk (below_step bel hb); clear hb hbox hg; have hnb50 := NB112_101.out; have hnc50 := NB101_112.out; have hnb51 := NB112_108.out; have hnc51 := NB108_112.out; obtain ⟨hcz52_0, hcz52_1, hfz52_0, hfz52_1⟩ := cz2 BK112.out; obtain ⟨hcz53_0, hcz53_1, hcz53_2, hfz53_0, hfz53_1, hfz53_2⟩ := cz3 BK108.out)
              go_wp2_with (fail)
              go_ret
              exact ⟨ers, bel⟩
            · rw [if_neg c39] at H
              have c39b0 : (a2 == 3) = false := beq_eq_false_iff_ne.mpr c39
              have c39b1 : (a2 != 3) = true := bne_iff_ne.mpr c39
              obtain rfl := Option.some.inj H
              refine Aside0.mk ?_
              (refine box_event ?hg (N := 9) ?hd (cs := #[.string (⟨#[]⟩ : ByteArray), .int .i64 0]) (t := 110) ?hr ?_; (case hd => rfl); (case hg => rfl); (case hr => first | (go_simp; done) | (go_simp; rfl)); intro gb112 hg w63 hbox hb; replace HO106 := Aside0.mk (Kd.R_below (Kd.R_elderB (kr HO106.out) gb112 (Nat.le_of_eq hg.symm)) hb); have BK112 := Aside0.mk (hbox); have GW112 := Aside0.mk ((gsz hg : w.heap.size ≤ gb112)); have GE112 := Aside0.mk ((gsz hg : w.heap.size ≤ gb112)); have NB101_112 := Aside0.mk ((nlt hg (bw BK101.out) : gb101 ≠ gb112)); have NB112_101 := Aside0.mk ((ngt hg (bw BK101.out) : gb112 ≠ gb101)); replace BK101 := Aside0.mk (blk_below (g := gb101) (bw BK101.out) hb); have NB108_112 := Aside0.mk ((nlt hg (bw BK108.out) : gb108 ≠ gb112)); have NB112_108 := Aside0.mk ((ngt hg (bw BK108.out) : gb112 ≠ gb108)); replace BK108 := Aside0.mk (blk_below (g := gb108) (bw BK108.out) hb); replace HB := Aside0.mk (below_step bel hb); clear hb hbox hg; have hnb64 := NB112_101.out; have hnc64 := NB101_112.out; have hnb65 := NB112_108.out; have hnc65 := NB108_112.out; obtain ⟨hcz66_0, hcz66_1, hfz66_0, hfz66_1⟩ := cz2 BK112.out; obtain ⟨hcz67_0, hcz67_1, hcz67_2, hfz67_0, hfz67_1, hfz67_2⟩ := cz3 BK108.out)
              go_wp2_with (fail)
              go_ret
              exact ⟨ers, bel⟩
        · rw [if_neg c23] at H
          have c23b0 : (t103 == 2) = false := beq_eq_false_iff_ne.mpr c23
          have c23b1 : (t103 != 2) = true := bne_iff_ne.mpr c23
          by_cases c68 : t103 = 3
          · rw [if_pos c68] at H
            have c68b0 : (t103 == 3) = true := beq_iff_eq.mpr c68
            have c68b1 : (t103 != 3) = false := bne_eq_false_iff_eq.mpr c68
            clear c68
            obtain ⟨y113, hy113⟩ : ∃ y_ : List Int, y_ = (([4, 5, 6, 7, 8] : List Int)) := ⟨_, rfl⟩
            replace H : ((slices_Contains_int_int.f k y113 a2).bind fun t116 => (if t116 = true then (some 0) else (some 13))) = some r := by first | (rw [hy113]; with_reducible exact H) | (have H2_ := (Option.bind_some _ _).symm.trans H; rw [hy113]; with_reducible exact H2_) | (have H2_ := (Option.bind_some _ _).symm.trans H; with_reducible exact H2_) | with_reducible exact H | (rw [hy113]; exact H) | exact H
            have Ny113 := Aside0.mk hy113
            clear hy113
            replace H := bnd H
            obtain ⟨t116, A690, H⟩ := H
            have A69 := Aside0.mk A690
            clear A690
            refine Aside0.mk ?_
            (refine box_event ?hg (N := 9) ?hd (cs := #[.string (⟨#[]⟩ : ByteArray), .int .i64 0]) (t := 110) ?hr ?_; (case hd => rfl); (case hg => rfl); (case hr => first | (go_simp; done) | (go_simp; rfl)); intro gb112 hg w80 hbox hb; replace HO106 := Aside0.mk (Kd.R_below (Kd.R_elderB (kr HO106.out) gb112 (Nat.le_of_eq hg.symm)) hb); have BK112 := Aside0.mk (hbox); have GW112 := Aside0.mk ((gsz hg : w.heap.size ≤ gb112)); have GE112 := Aside0.mk ((gsz hg : w.heap.size ≤ gb112)); have NB101_112 := Aside0.mk ((nlt hg (bw BK101.out) : gb101 ≠ gb112)); have NB112_101 := Aside0.mk ((ngt hg (bw BK101.out) : gb112 ≠ gb101)); replace BK101 := Aside0.mk (blk_below (g := gb101) (bw BK101.out) hb); have NB108_112 := Aside0.mk ((nlt hg (bw BK108.out) : gb108 ≠ gb112)); have NB112_108 := Aside0.mk ((ngt hg (bw BK108.out) : gb112 ≠ gb108)); replace BK108 := Aside0.mk (blk_below (g := gb108) (bw BK108.out) hb); replace HB := Aside0.mk (below_step bel hb); clear hb hbox hg; have hnb81 := NB112_101.out; have hnc81 := NB101_112.out; have hnb82 := NB112_108.out; have hnc82 := NB108_112.out; obtain ⟨hcz83_0, hcz83_1, hfz83_0, hfz83_1⟩ := cz2 BK112.out; obtain ⟨hcz84_0, hcz84_1, hcz84_2, hfz84_0, hfz84_1, hfz84_2⟩ := cz3 BK108.out)
            go_wp2_with (((with_reducible refine gate_dst (N := 43) rfl ?_); refine Aside0.out ?_))
            by_cases c70 : t116 = true
            · subst c70
              rw [if_pos rfl] at H
              obtain rfl := Option.some.inj H
              refine Aside0.mk ?_
              (refine Kd.R_lit (Kd.int .i64) _ 3 ?hg (N := 43) ?hd (xs := ([4, 5, 6, 7, 8] : List Int)) (inner := [.int .i64 4, .int .i64 5, .int .i64 6, .int .i64 7, .int .i64 8]) (ok := fun _ => True) (okp := fun _ => True) ?hr ?hp (fun _ hk => hk) trivial (Below.refl _ _) (Nat.le_refl _) (by simp) ?_; (case hd => rfl); (case hg => rfl); (case hr => first | (go_simp; done) | (go_simp; rfl)); (case hp => exact (Reps.one (show Kd.M (Kd.int .i64) _ _ _ 4 [.int .i64 4] from rfl) (Reps.one (show Kd.M (Kd.int .i64) _ _ _ 5 [.int .i64 5] from rfl) (Reps.one (show Kd.M (Kd.int .i64) _ _ _ 6 [.int .i64 6] from rfl) (Reps.one (show Kd.M (Kd.int .i64) _ _ _ 7 [.int .i64 7] from rfl) (Reps.one (show Kd.M (Kd.int .i64) _ _ _ 8 [.int .i64 8] from rfl) (Reps.none _ _))))))); intro v114 w85 ho86 hb hg_ hnew_; clear hg_ hnew_; (first | rw [← Ny113.out] at ho86 | (simp only [Int.reduceToNat] at ho86; rw [← Ny113.out] at ho86)); replace HO106 := Aside0.mk (Kd.R_below (by (with_reducible repeat (first | apply Kd.R_alloc | apply Kd.R_drewN | apply Kd.R_drew)); exact (Kd.R_mono (Kd.R_far (p := ⟨gb112, 1, none⟩) (Kd.R_far (p := ⟨gb112, 0, none⟩) (Kd.R_mono HO106.out (fun k_ hk => (⟨hk, hk.2⟩ : _ ∧ k_ ≠ gb112))) (fun _ hk => hk.2) (.string t109)) (fun _ hk => hk.2) (.int .i64 t110)) (fun _ h_ => h_.1))) hb); have HO115 := Aside0.mk (Kd.R_lower ho86 (below_size bel)); replace BK101 := Aside0.mk (blk_below (g := gb101) (o := .cells #[.string a1_0, .string a1_1] 28 (0, 0)) (bs BK101.out) hb); replace BK108 := Aside0.mk (blk_below (g := gb108) (o := .cells #[.string t102, .int .i64 t103, .slice Ao15 t104.length co15] 107 (0, 0)) (bs BK108.out) hb); replace BK112 := Aside0.mk (blk_below (g := gb112) (o := .cells #[.string t109, .int .i64 t110] 110 (0, 0)) (bs BK112.out) hb); replace HB := Aside0.mk (below_step bel hb); clear hb ho86; obtain ⟨Ao87, co87, eo87⟩ := Kd.R_slice HO115.out; subst eo87)
              go_wp2_with (((with_reducible refine gate_callee (f := 62) rfl ?_); refine goesL_ (some 45) rfl rfl Tryz.func62 (by kernel_rfl) rfl #[.slice Ao87 y113.length co87, .int .i64 a2] rfl arg ?_; (with_reducible refine (slices_Contains_int_int.calls k _ _ y113 a2 true _ ?side1 ?side2 A69.out).mono ?_); (case side1 => repeat (first | exact (Kd.R_reads' HO115.out).2.2 | (with_reducible refine Kd.C_alloc ?_ _) | (with_reducible refine Kd.C_drewN ?_ _) | (with_reducible refine Kd.C_drew ?_))); (case side2 => exact (Kd.R_reads' HO115.out).2.1); rintro e w' ⟨rfl, ⟨nd, rfl⟩⟩; refine ⟨_, rfl, ?_⟩))
              go_ret
              exact ⟨ers, bel⟩
            · replace c70 := Bool.eq_false_iff.mpr c70
              subst c70
              rw [if_neg (show ¬ (false = true) by decide)] at H
              obtain rfl := Option.some.inj H
              refine Aside0.mk ?_
              (refine Kd.R_lit (Kd.int .i64) _ 3 ?hg (N := 43) ?hd (xs := ([4, 5, 6, 7, 8] : List Int)) (inner := [.int .i64 4, .int .i64 5, .int .i64 6, .int .i64 7, .int .i64 8]) (ok := fun _ => True) (okp := fun _ => True) ?hr ?hp (fun _ hk => hk) trivial (Below.refl _ _) (Nat.le_refl _) (by simp) ?_; (case hd => rfl); (case hg => rfl); (case hr => first | (go_simp; done) | (go_simp; rfl)); (case hp => exact (Reps.one (show Kd.M (Kd.int .i64) _ _ _ 4 [.int .i64 4] from rfl) (Reps.one (show Kd.M (Kd.int .i64) _ _ _ 5 [.int .i64 5] from rfl) (Reps.one (show Kd.M (Kd.int .i64) _ _ _ 6 [.int .i64 6] from rfl) (Reps.one (show Kd.M (Kd.int .i64) _ _ _ 7 [.int .i64 7] from rfl) (Reps.one (show Kd.M (Kd.int .i64) _ _ _ 8 [.int .i64 8] from rfl) (Reps.none _ _))))))); intro v114 w102 ho103 hb hg_ hnew_; clear hg_ hnew_; (first | rw [← Ny113.out] at ho103 | (simp only [Int.reduceToNat] at ho103; rw [← Ny113.out] at ho103)); replace HO106 := Aside0.mk (Kd.R_below (by (with_reducible repeat (first | apply Kd.R_alloc | apply Kd.R_drewN | apply Kd.R_drew)); exact (Kd.R_mono (Kd.R_far (p := ⟨gb112, 1, none⟩) (Kd.R_far (p := ⟨gb112, 0, none⟩) (Kd.R_mono HO106.out (fun k_ hk => (⟨hk, hk.2⟩ : _ ∧ k_ ≠ gb112))) (fun _ hk => hk.2) (.string t109)) (fun _ hk => hk.2) (.int .i64 t110)) (fun _ h_ => h_.1))) hb); have HO115 := Aside0.mk (Kd.R_lower ho103 (below_size bel)); replace BK101 := Aside0.mk (blk_below (g := gb101) (o := .cells #[.string a1_0, .string a1_1] 28 (0, 0)) (bs BK101.out) hb); replace BK108 := Aside0.mk (blk_below (g := gb108) (o := .cells #[.string t102, .int .i64 t103, .slice Ao15 t104.length co15] 107 (0, 0)) (bs BK108.out) hb); replace BK112 := Aside0.mk (blk_below (g := gb112) (o := .cells #[.string t109, .int .i64 t110] 110 (0, 0)) (bs BK112.out) hb); replace HB := Aside0.mk (below_step bel hb); clear hb ho103; obtain ⟨Ao104, co104, eo104⟩ := Kd.R_slice HO115.out; subst eo104)
              go_wp2_with (((with_reducible refine gate_callee (f := 62) rfl ?_); refine goesL_ (some 45) rfl rfl Tryz.func62 (by kernel_rfl) rfl #[.slice Ao104 y113.length co104, .int .i64 a2] rfl arg ?_; (with_reducible refine (slices_Contains_int_int.calls k _ _ y113 a2 false _ ?side1 ?side2 A69.out).mono ?_); (case side1 => repeat (first | exact (Kd.R_reads' HO115.out).2.2 | (with_reducible refine Kd.C_alloc ?_ _) | (with_reducible refine Kd.C_drewN ?_ _) | (with_reducible refine Kd.C_drew ?_))); (case side2 => exact (Kd.R_reads' HO115.out).2.1); rintro e w' ⟨rfl, ⟨nd, rfl⟩⟩; refine ⟨_, rfl, ?_⟩))
              go_ret
              exact ⟨ers, bel⟩
          · rw [if_neg c68] at H
            have c68b0 : (t103 == 3) = false := beq_eq_false_iff_ne.mpr c68
            have c68b1 : (t103 != 3) = true := bne_iff_ne.mpr c68
            obtain rfl := Option.some.inj H
            refine Aside0.mk ?_
            (refine box_event ?hg (N := 9) ?hd (cs := #[.string (⟨#[]⟩ : ByteArray), .int .i64 0]) (t := 110) ?hr ?_; (case hd => rfl); (case hg => rfl); (case hr => first | (go_simp; done) | (go_simp; rfl)); intro gb112 hg w114 hbox hb; replace HO106 := Aside0.mk (Kd.R_below (Kd.R_elderB (kr HO106.out) gb112 (Nat.le_of_eq hg.symm)) hb); have BK112 := Aside0.mk (hbox); have GW112 := Aside0.mk ((gsz hg : w.heap.size ≤ gb112)); have GE112 := Aside0.mk ((gsz hg : w.heap.size ≤ gb112)); have NB101_112 := Aside0.mk ((nlt hg (bw BK101.out) : gb101 ≠ gb112)); have NB112_101 := Aside0.mk ((ngt hg (bw BK101.out) : gb112 ≠ gb101)); replace BK101 := Aside0.mk (blk_below (g := gb101) (bw BK101.out) hb); have NB108_112 := Aside0.mk ((nlt hg (bw BK108.out) : gb108 ≠ gb112)); have NB112_108 := Aside0.mk ((ngt hg (bw BK108.out) : gb112 ≠ gb108)); replace BK108 := Aside0.mk (blk_below (g := gb108) (bw BK108.out) hb); replace HB := Aside0.mk (below_step bel hb); clear hb hbox hg; have hnb115 := NB112_101.out; have hnc115 := NB101_112.out; have hnb116 := NB112_108.out; have hnc116 := NB108_112.out; obtain ⟨hcz117_0, hcz117_1, hfz117_0, hfz117_1⟩ := cz2 BK112.out; obtain ⟨hcz118_0, hcz118_1, hcz118_2, hfz118_0, hfz118_1, hfz118_2⟩ := cz3 BK108.out)
            go_wp2_with (fail)
            go_ret
            exact ⟨ers, bel⟩
    · replace c7 := Bool.eq_false_iff.mpr c7
      subst c7
      rw [if_neg (show ¬ (false = true) by decide)] at H
      obtain rfl := Option.some.inj H
      refine Aside0.mk ?_
      (refine box_event ?hg (N := 7) ?hd (cs := #[.string (⟨#[]⟩ : ByteArray), .int .i64 0, .slice none 0 0]) (t := 107) ?hr ?_; (case hd => rfl); (case hg => rfl); (case hr => first | (go_simp; done) | (go_simp; rfl)); intro gb108 hg w122 hbox hb; replace HO106 := Aside0.mk (Kd.R_below (kr HO106.out) hb); have BK108 := Aside0.mk (hbox); have GW108 := Aside0.mk ((gsz hg : w.heap.size ≤ gb108)); have GE108 := Aside0.mk ((gsz hg : w.heap.size ≤ gb108)); have NB101_108 := Aside0.mk ((nlt hg (bw BK101.out) : gb101 ≠ gb108)); have NB108_101 := Aside0.mk ((ngt hg (bw BK101.out) : gb108 ≠ gb101)); replace BK101 := Aside0.mk (blk_below (g := gb101) (bw BK101.out) hb); replace HB := Aside0.mk (below_step bel hb); clear hb hbox hg; have hnb123 := NB108_101.out; have hnc123 := NB101_108.out; obtain ⟨hcz124_0, hcz124_1, hcz124_2, hfz124_0, hfz124_1, hfz124_2⟩ := cz3 BK108.out; obtain ⟨Ao125, co125, eo125⟩ := Kd.R_slice HO106.out; subst eo125; obtain ⟨hcz126_0, hcz126_1, hfz126_0, hfz126_1⟩ := cz2 BK101.out)
      go_wp2_with (first | ((with_reducible refine gate_callee (f := 61) rfl ?_); refine goesL_ (some 24) rfl rfl Tryz.func61 (by kernel_rfl) rfl #[.slice A0 l0.length c0, .agg #[.string a1_0, .string a1_1]] rfl arg ?_; (with_reducible refine (member_Account.calls _ _ l0 a1_0 a1_1 t109 t110 false _ ?side1 ?side2 A6.out).mono ?_); (case side1 => exact Kd.C_below HR0.out bel); (case side2 => exact HC0.out); rintro e w127 ⟨rfl, hb⟩; refine ⟨_, rfl, ?_⟩; replace HO106 := Aside0.mk (Kd.R_below (by (with_reducible repeat (first | apply Kd.R_alloc | apply Kd.R_drewN | apply Kd.R_drew)); exact (Kd.R_mono (Kd.R_far (p := ⟨gb108, 2, none⟩) (Kd.R_far (p := ⟨gb108, 1, none⟩) (Kd.R_far (p := ⟨gb108, 0, none⟩) (Kd.R_types HO106.out BK108.out (by decide)) (fun _ hk => hk.2) (.string t102)) (fun _ hk => hk.2) (.int .i64 t103)) (fun _ hk => hk.2) (.slice Ao125 t104.length co125)) (fun _ h_ => h_.1))) hb); replace BK101 := Aside0.mk (blk_below (g := gb101) (o := .cells #[.string a1_0, .string a1_1] 28 (0, 0)) (bs BK101.out) hb); replace BK108 := Aside0.mk (blk_below (g := gb108) (o := .cells #[.string t102, .int .i64 t103, .slice Ao125 t104.length co125] 107 (0, 0)) (bs BK108.out) hb); replace HB := Aside0.mk (below_step bel hb); (try clear hb); (try clear hb2); (try clear hk); (try clear hi)) | ((with_reducible refine gate_dst (N := 9) rfl ?_); refine box_event ?hg (N := 9) ?hd (cs := #[.string (⟨#[]⟩ : ByteArray), .int .i64 0]) (t := 110) ?hr ?_; (case hd => rfl); (case hg => rfl); (case hr => first | (go_simp; done) | (go_simp; rfl)); intro gb112 hg w128 hbox hb; replace HO106 := Aside0.mk (Kd.R_below (Kd.R_elderB (kr HO106.out) gb112 (Nat.le_of_eq hg.symm)) hb); have BK112 := Aside0.mk (hbox); have GW112 := Aside0.mk ((gsz hg : w.heap.size ≤ gb112)); have GE112 := Aside0.mk ((gsz hg : w.heap.size ≤ gb112)); have NB101_112 := Aside0.mk ((nlt hg (bw BK101.out) : gb101 ≠ gb112)); have NB112_101 := Aside0.mk ((ngt hg (bw BK101.out) : gb112 ≠ gb101)); replace BK101 := Aside0.mk (blk_below (g := gb101) (bw BK101.out) hb); have NB108_112 := Aside0.mk ((nlt hg (bw BK108.out) : gb108 ≠ gb112)); have NB112_108 := Aside0.mk ((ngt hg (bw BK108.out) : gb112 ≠ gb108)); replace BK108 := Aside0.mk (blk_below (g := gb108) (bw BK108.out) hb); replace HB := Aside0.mk (below_step bel hb); clear hb hbox hg; have hnb129 := NB112_101.out; have hnc129 := NB101_112.out; have hnb130 := NB112_108.out; have hnc130 := NB108_112.out; obtain ⟨hcz131_0, hcz131_1, hfz131_0, hfz131_1⟩ := cz2 BK112.out))
      go_ret
      exact ⟨ers, bel⟩
  · replace c5 := Bool.eq_false_iff.mpr c5
    subst c5
    rw [if_neg (show ¬ (false = true) by decide)] at H
    obtain rfl := Option.some.inj H
    go_enter Tryz.func27, Tryz.ntmps27
    go_wp2_with (first | ((with_reducible refine gate_dst (N := 4) rfl ?_); refine box_event ?hg (N := 4) ?hd (cs := #[.string a1_0, .string a1_1]) (t := 28) ?hr ?_; (case hd => rfl); (case hg => rfl); (case hr => first | (go_simp; done) | (go_simp; rfl)); intro gb101 hg w132 hbox hb; have BK101 := Aside0.mk (hbox); have GW101 := Aside0.mk ((gsz hg : w.heap.size ≤ gb101)); have GE101 := Aside0.mk ((gsz hg : w.heap.size ≤ gb101)); replace HB := Aside0.mk (below_step bel hb); clear hb hbox hg; obtain ⟨hcz133_0, hcz133_1, hfz133_0, hfz133_1⟩ := cz2 BK101.out) | ((with_reducible refine gate_callee (f := 60) rfl ?_); refine goesL_ (some 16) rfl rfl Tryz.func60 (by kernel_rfl) rfl #[.slice A0 l0.length c0, .string a1_0] rfl arg ?_; (with_reducible refine (member_Find.calls _ _ l0 a1_0 t102 t103 t104 false _ ?side1 ?side2 A4.out).mono ?_); (case side1 => repeat (first | exact (Kd.C_below HR0.out HB.out) | (with_reducible refine Kd.C_alloc ?_ _) | (with_reducible refine Kd.C_drewN ?_ _) | (with_reducible refine Kd.C_drew ?_))); (case side2 => exact HC0.out); rintro e w134 ⟨v105, rfl, ho0, hb⟩; refine ⟨_, rfl, ?_⟩; have HO106 := Aside0.mk (Kd.R_lower ho0 (below_size bel)); replace BK101 := Aside0.mk (blk_below (g := gb101) (bw BK101.out) hb); replace HB := Aside0.mk (below_step bel hb); (try clear hb); (try clear hb2); (try clear hk); (try clear hi); (try clear ho0)) | ((with_reducible refine gate_dst (N := 7) rfl ?_); refine box_event ?hg (N := 7) ?hd (cs := #[.string (⟨#[]⟩ : ByteArray), .int .i64 0, .slice none 0 0]) (t := 107) ?hr ?_; (case hd => rfl); (case hg => rfl); (case hr => first | (go_simp; done) | (go_simp; rfl)); intro gb108 hg w135 hbox hb; replace HO106 := Aside0.mk (Kd.R_below (kr HO106.out) hb); have BK108 := Aside0.mk (hbox); have GW108 := Aside0.mk ((gsz hg : w.heap.size ≤ gb108)); have GE108 := Aside0.mk ((gsz hg : w.heap.size ≤ gb108)); have NB101_108 := Aside0.mk ((nlt hg (bw BK101.out) : gb101 ≠ gb108)); have NB108_101 := Aside0.mk ((ngt hg (bw BK101.out) : gb108 ≠ gb101)); replace BK101 := Aside0.mk (blk_below (g := gb101) (bw BK101.out) hb); replace HB := Aside0.mk (below_step bel hb); clear hb hbox hg; have hnb136 := NB108_101.out; have hnc136 := NB101_108.out; obtain ⟨hcz137_0, hcz137_1, hcz137_2, hfz137_0, hfz137_1, hfz137_2⟩ := cz3 BK108.out; obtain ⟨Ao138, co138, eo138⟩ := Kd.R_slice HO106.out; subst eo138))
    go_ret
    exact ⟨ers, bel⟩
def fstP (name : ByteArray) : List S50 → S50 × Bool
  | [] => (z50, false)
  | p :: r => if p.f0.toList = name.toList then (p, true) else fstP name r
def vP (p : S50) : Array Value := #[.string p.f0, .int .i64 p.f1, .int .i64 p.f2, .int .i64 p.f3, .int .i64 p.f4, .int .i64 p.f5, .bool p.f6]
set_option maxHeartbeats 1600000 in
set_option maxRecDepth 100000 in
theorem findP_lit (m : S50) (s : ByteArray) (g : Nat) (w : World) (hg : w.heap[g]? = some (.cells #[.string s] 9 (0, 0))) :
    Calls Tryz.prog 42 #[.agg #[.string m.f0, .int .i64 m.f1, .int .i64 m.f2, .int .i64 m.f3, .int .i64 m.f4, .int .i64 m.f5, .bool m.f6], .pointer (some ⟨g, 0, none⟩)] w fun e w' => e = .returned (.bool (m.f0.toList == s.toList)) ∧ Below w.heap.size w w' := by
  have hc0 : ∀ o, (w.alloc o).cell? ⟨g, 0, none⟩ = some (.string s) := fun o => blk_cell (blk_alloc hg o) 0
  go_enter Tryz.func42, Tryz.ntmps42
  go_wp2
  go_ret
  exact ⟨eqs, (Below.refl _ _).alloc (Nat.le_refl _) _⟩
set_option maxHeartbeats 1600000 in
set_option maxRecDepth 100000 in
theorem firstP_calls (A : Option Addr) (c : Nat) (l : List S50) (s : ByteArray) (g : Nat) (w : World) (hr : Kd.C k50 w A l.length l) (hg : w.heap[g]? = some (.cells #[.string s] 9 (0, 0))) :
    Calls Tryz.prog 41 #[.slice A l.length c, .func (.func 42) #[] #[.pointer (some ⟨g, 0, none⟩)]] w fun e w' => e = .returned (.tuple #[.agg (vP (fstP s l).1), .bool (fstP s l).2]) ∧ Below w.heap.size w w' := by
  have HR := Aside0.mk hr
  have HG := Aside0.mk hg
  have hlen := (show l.length ≤ 9223372036854775807 from Kd.C_max hr)
  clear hr hg
  go_enter Tryz.func41, Tryz.ntmps41
  go_wp2_with fail
  go_loopg [11] l.length (fun kq v11 wr => ∃ i : Nat, v11 = .int .i64 (i : Int) ∧ Aside0 (kq + i = l.length) ∧ Aside0 (fstP s (l.drop i) = fstP s l) ∧ Aside0 (wr.heap[w.heap.size]? = some (.cells (vP z50) 50 (0, 0))) ∧ Aside0 (Below w.heap.size w wr))
  case atStart => exact ⟨0, rfl, ⟨by omega⟩, ⟨rfl⟩, ⟨blk_new _ _⟩, ⟨below_alloc (Below.refl _ _) _⟩⟩
  case round =>
    obtain ⟨i, rfl, HK, HF, HL, HB2⟩ := hrel
    by_cases hlt : i < l.length
    · have hti : rd_T50 l (i : Int) = l[i] := by simp [rd_T50, hlt]
      obtain ⟨ad, ea, hx0, hx1, hx2, hx3, hx4, hx5, hx6⟩ := at_T50 HR.out (i : Int) (by omega) (by omega)
      cases ea
      rw [Int.toNat_natCast] at hx0 hx1 hx2 hx3 hx4 hx5 hx6
      replace hx0 := (HB2.out.cell (World.block_lt_of_cell? w _ hx0)).trans hx0
      replace hx1 := (HB2.out.cell (World.block_lt_of_cell? w _ hx1)).trans hx1
      replace hx2 := (HB2.out.cell (World.block_lt_of_cell? w _ hx2)).trans hx2
      replace hx3 := (HB2.out.cell (World.block_lt_of_cell? w _ hx3)).trans hx3
      replace hx4 := (HB2.out.cell (World.block_lt_of_cell? w _ hx4)).trans hx4
      replace hx5 := (HB2.out.cell (World.block_lt_of_cell? w _ hx5)).trans hx5
      replace hx6 := (HB2.out.cell (World.block_lt_of_cell? w _ hx6)).trans hx6
      rw [hti] at hx0 hx1 hx2 hx3 hx4 hx5 hx6
      have hf := HF.out
      rw [(List.getElem_cons_drop hlt).symm, fstP] at hf
      generalize l[i] = t at hx0 hx1 hx2 hx3 hx4 hx5 hx6 hf
      clear hti HF
      by_cases hb : t.f0.toList = s.toList
      · rw [if_pos hb] at hf
        have HBB := Aside0.mk (beq_iff_eq.2 hb)
        have HF := Aside0.mk hf
        clear hb hf
        go_wp2_with (go_at_call 42; refine (findP_lit t s g _ (blk_below (blk_below HG.out HB2.out) (below_alloc (Below.refl _ _) _))).mono ?_; rw [HBB.out]; rintro e1 w1 ⟨rfl, hb1⟩; have HB3 := Aside0.mk (below_step (below_alloc HB2.out _) hb1); have HT := blk_below (blk_new wr (.cells #[.string t.f0, .int .i64 t.f1, .int .i64 t.f2, .int .i64 t.f3, .int .i64 t.f4, .int .i64 t.f5, .bool t.f6] 50)) hb1; have HL3 := blk_below (blk_alloc HL.out (.cells #[.string t.f0, .int .i64 t.f1, .int .i64 t.f2, .int .i64 t.f3, .int .i64 t.f4, .int .i64 t.f5, .bool t.f6] 50)) hb1; have hz0 : w1.cell? ⟨wr.heap.size, 0, none⟩ = some (.string t.f0) := blk_cell HT 0; have hz1 : w1.cell? ⟨wr.heap.size, 1, none⟩ = some (.int .i64 t.f1) := blk_cell HT 1; have hz2 : w1.cell? ⟨wr.heap.size, 2, none⟩ = some (.int .i64 t.f2) := blk_cell HT 2; have hz3 : w1.cell? ⟨wr.heap.size, 3, none⟩ = some (.int .i64 t.f3) := blk_cell HT 3; have hz4 : w1.cell? ⟨wr.heap.size, 4, none⟩ = some (.int .i64 t.f4) := blk_cell HT 4; have hz5 : w1.cell? ⟨wr.heap.size, 5, none⟩ = some (.int .i64 t.f5) := blk_cell HT 5; have hz6 : w1.cell? ⟨wr.heap.size, 6, none⟩ = some (.bool t.f6) := blk_cell HT 6; have hfc0 : w1.cell? ⟨w.heap.size, 0, none⟩ = some (.string z50.f0) := blk_cell HL3 0; have hfc1 : w1.cell? ⟨w.heap.size, 1, none⟩ = some (.int .i64 z50.f1) := blk_cell HL3 1; have hfc2 : w1.cell? ⟨w.heap.size, 2, none⟩ = some (.int .i64 z50.f2) := blk_cell HL3 2; have hfc3 : w1.cell? ⟨w.heap.size, 3, none⟩ = some (.int .i64 z50.f3) := blk_cell HL3 3; have hfc4 : w1.cell? ⟨w.heap.size, 4, none⟩ = some (.int .i64 z50.f4) := blk_cell HL3 4; have hfc5 : w1.cell? ⟨w.heap.size, 5, none⟩ = some (.int .i64 z50.f5) := blk_cell HL3 5; have hfc6 : w1.cell? ⟨w.heap.size, 6, none⟩ = some (.bool z50.f6) := blk_cell HL3 6; have hf0 : w1.frozen? ⟨w.heap.size, 0, none⟩ = false := blk_frozen HL3 0; have hf1 : w1.frozen? ⟨w.heap.size, 1, none⟩ = false := blk_frozen HL3 1; have hf2 : w1.frozen? ⟨w.heap.size, 2, none⟩ = false := blk_frozen HL3 2; have hf3 : w1.frozen? ⟨w.heap.size, 3, none⟩ = false := blk_frozen HL3 3; have hf4 : w1.frozen? ⟨w.heap.size, 4, none⟩ = false := blk_frozen HL3 4; have hf5 : w1.frozen? ⟨w.heap.size, 5, none⟩ = false := blk_frozen HL3 5; have hf6 : w1.frozen? ⟨w.heap.size, 6, none⟩ = false := blk_frozen HL3 6; have HL4 := Aside0.mk HL3; clear hb1 HT HL3)
        refine bodyPost_ret (results_ct rfl _ _ w.heap.size 50 (vP t) (0, 0) _ rfl (blk_set (blk_set (blk_set (blk_set (blk_set (blk_set (blk_set (HL4.out) 0 _) 1 _) 2 _) 3 _) 4 _) 5 _) 6 _) Tryz.underlying50 rfl (by kernel_rfl)) rfl ⟨?_, ?_⟩
        · rw [← HF.out]; rfl
        · exact (Below.setCell (Below.setCell (Below.setCell (Below.setCell (Below.setCell (Below.setCell (Below.setCell HB3.out (p := ⟨w.heap.size, 0, none⟩) (by first | exact Nat.le_refl _ | exact Nat.le_succ _) _) (p := ⟨w.heap.size, 1, none⟩) (by first | exact Nat.le_refl _ | exact Nat.le_succ _) _) (p := ⟨w.heap.size, 2, none⟩) (by first | exact Nat.le_refl _ | exact Nat.le_succ _) _) (p := ⟨w.heap.size, 3, none⟩) (by first | exact Nat.le_refl _ | exact Nat.le_succ _) _) (p := ⟨w.heap.size, 4, none⟩) (by first | exact Nat.le_refl _ | exact Nat.le_succ _) _) (p := ⟨w.heap.size, 5, none⟩) (by first | exact Nat.le_refl _ | exact Nat.le_succ _) _) (p := ⟨w.heap.size, 6, none⟩) (by first | exact Nat.le_refl _ | exact Nat.le_succ _) _)
      · rw [if_neg hb] at hf
        have HBB := Aside0.mk (beq_eq_false_iff_ne.2 hb)
        have HF := Aside0.mk hf
        clear hb hf
        go_wp2_with (go_at_call 42; refine (findP_lit t s g _ (blk_below (blk_below HG.out HB2.out) (below_alloc (Below.refl _ _) _))).mono ?_; rw [HBB.out]; rintro e1 w1 ⟨rfl, hb1⟩; have HB3 := Aside0.mk (below_step (below_alloc HB2.out _) hb1); have HL4 := Aside0.mk (blk_below (blk_alloc HL.out (.cells #[.string t.f0, .int .i64 t.f1, .int .i64 t.f2, .int .i64 t.f3, .int .i64 t.f4, .int .i64 t.f5, .bool t.f6] 50)) hb1); clear hb1)
        go_roundg (gk - 1)
        case measure => have := HK.out; omega
        case rel => exact ⟨i + 1, by go_num, ⟨by have := HK.out; omega⟩, HF, HL4, HB3⟩
    · have hf := HF.out
      rw [List.drop_of_length_le (by omega), fstP] at hf
      have HF := Aside0.mk hf
      have HLL := HL.out
      have hfc0 : ∀ o, (wr.alloc o).cell? ⟨w.heap.size, 0, none⟩ = some (.string z50.f0) := fun o => blk_cell (blk_alloc HLL o) 0
      have hfc1 : ∀ o, (wr.alloc o).cell? ⟨w.heap.size, 1, none⟩ = some (.int .i64 z50.f1) := fun o => blk_cell (blk_alloc HLL o) 1
      have hfc2 : ∀ o, (wr.alloc o).cell? ⟨w.heap.size, 2, none⟩ = some (.int .i64 z50.f2) := fun o => blk_cell (blk_alloc HLL o) 2
      have hfc3 : ∀ o, (wr.alloc o).cell? ⟨w.heap.size, 3, none⟩ = some (.int .i64 z50.f3) := fun o => blk_cell (blk_alloc HLL o) 3
      have hfc4 : ∀ o, (wr.alloc o).cell? ⟨w.heap.size, 4, none⟩ = some (.int .i64 z50.f4) := fun o => blk_cell (blk_alloc HLL o) 4
      have hfc5 : ∀ o, (wr.alloc o).cell? ⟨w.heap.size, 5, none⟩ = some (.int .i64 z50.f5) := fun o => blk_cell (blk_alloc HLL o) 5
      have hfc6 : ∀ o, (wr.alloc o).cell? ⟨w.heap.size, 6, none⟩ = some (.bool z50.f6) := fun o => blk_cell (blk_alloc HLL o) 6
      have hf0 : ∀ o, (wr.alloc o).frozen? ⟨w.heap.size, 0, none⟩ = false := fun o => blk_frozen (blk_alloc HLL o) 0
      have hf1 : ∀ o, (wr.alloc o).frozen? ⟨w.heap.size, 1, none⟩ = false := fun o => blk_frozen (blk_alloc HLL o) 1
      have hf2 : ∀ o, (wr.alloc o).frozen? ⟨w.heap.size, 2, none⟩ = false := fun o => blk_frozen (blk_alloc HLL o) 2
      have hf3 : ∀ o, (wr.alloc o).frozen? ⟨w.heap.size, 3, none⟩ = false := fun o => blk_frozen (blk_alloc HLL o) 3
      have hf4 : ∀ o, (wr.alloc o).frozen? ⟨w.heap.size, 4, none⟩ = false := fun o => blk_frozen (blk_alloc HLL o) 4
      have hf5 : ∀ o, (wr.alloc o).frozen? ⟨w.heap.size, 5, none⟩ = false := fun o => blk_frozen (blk_alloc HLL o) 5
      have hf6 : ∀ o, (wr.alloc o).frozen? ⟨w.heap.size, 6, none⟩ = false := fun o => blk_frozen (blk_alloc HLL o) 6
      clear hf HLL
      go_wp2_with fail
      refine bodyPost_ret (results_ct rfl _ _ w.heap.size 50 (vP z50) (0, 0) _ rfl (blk_set (blk_set (blk_set (blk_set (blk_set (blk_set (blk_set (blk_alloc HL.out _) 0 _) 1 _) 2 _) 3 _) 4 _) 5 _) 6 _) Tryz.underlying50 rfl (by kernel_rfl)) rfl ⟨?_, ?_⟩
      · rw [← HF.out]; rfl
      · exact (Below.setCell (Below.setCell (Below.setCell (Below.setCell (Below.setCell (Below.setCell (Below.setCell (below_alloc HB2.out _) (p := ⟨w.heap.size, 0, none⟩) (by first | exact Nat.le_refl _ | exact Nat.le_succ _) _) (p := ⟨w.heap.size, 1, none⟩) (by first | exact Nat.le_refl _ | exact Nat.le_succ _) _) (p := ⟨w.heap.size, 2, none⟩) (by first | exact Nat.le_refl _ | exact Nat.le_succ _) _) (p := ⟨w.heap.size, 3, none⟩) (by first | exact Nat.le_refl _ | exact Nat.le_succ _) _) (p := ⟨w.heap.size, 4, none⟩) (by first | exact Nat.le_refl _ | exact Nat.le_succ _) _) (p := ⟨w.heap.size, 5, none⟩) (by first | exact Nat.le_refl _ | exact Nat.le_succ _) _) (p := ⟨w.heap.size, 6, none⟩) (by first | exact Nat.le_refl _ | exact Nat.le_succ _) _)
def product_Find.f (l : List S50) (s : ByteArray) : Option (ByteArray × Int × Int × Int × Int × Int × Bool × Bool) := some ((fstP s l).1.f0, (fstP s l).1.f1, (fstP s l).1.f2, (fstP s l).1.f3, (fstP s l).1.f4, (fstP s l).1.f5, (fstP s l).1.f6, (fstP s l).2)
set_option maxHeartbeats 1600000 in
set_option maxRecDepth 100000 in
theorem product_Find.calls (A0 : Option Addr) (c0 : Nat) (l0 : List S50) (a1 : ByteArray) (r1 : ByteArray) (r2 r3 r4 r5 r6 : Int) (r7 r8 : Bool) (w : World) (hr0 : Kd.C k50 w A0 l0.length l0) (hc0 : l0.length ≤ c0) (h : product_Find.f l0 a1 = some (r1, r2, r3, r4, r5, r6, r7, r8)) :
    Calls Tryz.prog 13 #[.slice A0 l0.length c0, .string a1] w fun e w' => e = .returned (.tuple #[.agg #[.string r1, .int .i64 r2, .int .i64 r3, .int .i64 r4, .int .i64 r5, .int .i64 r6, .bool r7], .bool r8]) ∧ Below w.heap.size w w' := by
  unfold product_Find.f at h
  simp only [Option.some.injEq, Prod.mk.injEq] at h
  obtain ⟨rfl, rfl, rfl, rfl, rfl, rfl, rfl, rfl⟩ := h
  have HR := Aside0.mk hr0
  have HBA := Aside0.mk (below_alloc (below_alloc (Below.refl w.heap.size w) (.cells #[.string a1] 9)) (.cells #[.string (⟨#[]⟩ : ByteArray), .int .i64 0, .int .i64 0, .int .i64 0, .int .i64 0, .int .i64 0, .bool false] 50))
  have hsz : ∀ o, (w.alloc o).heap.size = w.heap.size + 1 := fun o => by simp
  have HZ := Aside0.mk (show ((w.alloc (.cells #[.string a1] 9)).alloc (.cells #[.string (⟨#[]⟩ : ByteArray), .int .i64 0, .int .i64 0, .int .i64 0, .int .i64 0, .int .i64 0, .bool false] 50)).heap[w.heap.size + 1]? = some (.cells #[.string (⟨#[]⟩ : ByteArray), .int .i64 0, .int .i64 0, .int .i64 0, .int .i64 0, .int .i64 0, .bool false] 50 (0, 0)) by rw [← hsz (.cells #[.string a1] 9)]; exact blk_new _ _)
  clear hsz
  generalize hp : fstP a1 l0 = p
  have HP := Aside0.mk hp
  clear hr0 hp
  go_enter Tryz.func13, Tryz.ntmps13
  go_wp2_with (go_at_call 41; refine (firstP_calls _ _ l0 a1 w.heap.size _ (Kd.C_alloc (Kd.C_alloc HR.out _) _) (blk_alloc (blk_new w _) _)).mono ?_; rw [HP.out, vP]; rintro e1 w1 ⟨rfl, hb1⟩; have HB3 := Aside0.mk (below_step HBA.out hb1); have HT := blk_below HZ.out hb1; have hfc0 : w1.cell? ⟨w.heap.size + 1, 0, none⟩ = some (.string z50.f0) := blk_cell HT 0; have hfc1 : w1.cell? ⟨w.heap.size + 1, 1, none⟩ = some (.int .i64 z50.f1) := blk_cell HT 1; have hfc2 : w1.cell? ⟨w.heap.size + 1, 2, none⟩ = some (.int .i64 z50.f2) := blk_cell HT 2; have hfc3 : w1.cell? ⟨w.heap.size + 1, 3, none⟩ = some (.int .i64 z50.f3) := blk_cell HT 3; have hfc4 : w1.cell? ⟨w.heap.size + 1, 4, none⟩ = some (.int .i64 z50.f4) := blk_cell HT 4; have hfc5 : w1.cell? ⟨w.heap.size + 1, 5, none⟩ = some (.int .i64 z50.f5) := blk_cell HT 5; have hfc6 : w1.cell? ⟨w.heap.size + 1, 6, none⟩ = some (.bool z50.f6) := blk_cell HT 6; have hf0 : w1.frozen? ⟨w.heap.size + 1, 0, none⟩ = false := blk_frozen HT 0; have hf1 : w1.frozen? ⟨w.heap.size + 1, 1, none⟩ = false := blk_frozen HT 1; have hf2 : w1.frozen? ⟨w.heap.size + 1, 2, none⟩ = false := blk_frozen HT 2; have hf3 : w1.frozen? ⟨w.heap.size + 1, 3, none⟩ = false := blk_frozen HT 3; have hf4 : w1.frozen? ⟨w.heap.size + 1, 4, none⟩ = false := blk_frozen HT 4; have hf5 : w1.frozen? ⟨w.heap.size + 1, 5, none⟩ = false := blk_frozen HT 5; have hf6 : w1.frozen? ⟨w.heap.size + 1, 6, none⟩ = false := blk_frozen HT 6; have HT4 := Aside0.mk HT; clear hb1 HT)
  refine bodyPost_ret (results_ct rfl _ _ (w.heap.size + 1) 50 (vP p.1) (0, 0) _ rfl (blk_set (blk_set (blk_set (blk_set (blk_set (blk_set (blk_set (HT4.out) 0 _) 1 _) 2 _) 3 _) 4 _) 5 _) 6 _) Tryz.underlying50 rfl (by kernel_rfl)) rfl ⟨rfl, ?_⟩
  exact (Below.setCell (Below.setCell (Below.setCell (Below.setCell (Below.setCell (Below.setCell (Below.setCell HB3.out (p := ⟨w.heap.size + 1, 0, none⟩) (by first | exact Nat.le_refl _ | exact Nat.le_succ _) _) (p := ⟨w.heap.size + 1, 1, none⟩) (by first | exact Nat.le_refl _ | exact Nat.le_succ _) _) (p := ⟨w.heap.size + 1, 2, none⟩) (by first | exact Nat.le_refl _ | exact Nat.le_succ _) _) (p := ⟨w.heap.size + 1, 3, none⟩) (by first | exact Nat.le_refl _ | exact Nat.le_succ _) _) (p := ⟨w.heap.size + 1, 4, none⟩) (by first | exact Nat.le_refl _ | exact Nat.le_succ _) _) (p := ⟨w.heap.size + 1, 5, none⟩) (by first | exact Nat.le_refl _ | exact Nat.le_succ _) _) (p := ⟨w.heap.size + 1, 6, none⟩) (by first | exact Nat.le_refl _ | exact Nat.le_succ _) _)
def product_within.f (a0 : Int) (a1 : Int) : Option (Bool) := if a0 ≥ (wrap64 (-a1)) then (some (decide (a0 ≤ a1))) else (some false)
set_option maxHeartbeats 8000000 in
set_option maxRecDepth 100000 in
theorem product_within.calls (a0 : Int) (a1 : Int) (r : Bool) (w : World) (h : product_within.f a0 a1 = some r) :
    Calls Tryz.prog 77 #[.int .i64 a0, .int .i64 a1] w fun e w' => e = .returned (.bool r) ∧ Drawn0 w w' := by
  have H : (if a0 ≥ (wrap64 (-a1)) then (some (decide (a0 ≤ a1))) else (some false)) = some r := h
  clear h
  by_cases c3 : a0 ≥ (wrap64 (-a1))
  · rw [if_pos c3] at H
    have c3b0 : decide ((wrap64 (-a1)) ≤ a0) = true := decide_eq_true c3
    clear c3
    obtain rfl := Option.some.inj H
    go_enter Tryz.func77, Tryz.ntmps77
    go_wp2
    go_ret
    exact ⟨eqs, drz⟩
  · rw [if_neg c3] at H
    have c3b0 : decide ((wrap64 (-a1)) ≤ a0) = false := decide_eq_false c3
    clear c3
    obtain rfl := Option.some.inj H
    go_enter Tryz.func77, Tryz.ntmps77
    go_wp2
    go_ret
    exact ⟨eqs, drz⟩
theorem eqA50 (d : Nat) (w : World) (x0 y0 : ByteArray) (x1 y1 : Int) (x2 y2 : Int) (x3 y3 : Int) (x4 y4 : Int) (x5 y5 : Int) (x6 y6 : Bool) :
    (Op.equalIn (d + 2) 50 (.agg #[.string x0, .int .i64 x1, .int .i64 x2, .int .i64 x3, .int .i64 x4, .int .i64 x5, .bool x6]) (.agg #[.string y0, .int .i64 y1, .int .i64 y2, .int .i64 y3, .int .i64 y4, .int .i64 y5, .bool y6])).run Tryz.prog w = .ok (x0.toList == y0.toList && (x1 == y1 && (x2 == y2 && (x3 == y3 && (x4 == y4 && (x5 == y5 && (x6 == y6))))))) w := by
  refine eqA_of Tryz.underlying50 (by kernel_rfl) ?_
  refine eqf_cons (by rfl) (by go_simp; rfl) (by go_simp; rfl) (by go_simp) ?_
  refine eqf_cons (by rfl) (by go_simp; rfl) (by go_simp; rfl) (by go_simp) ?_
  refine eqf_cons (by rfl) (by go_simp; rfl) (by go_simp; rfl) (by go_simp) ?_
  refine eqf_cons (by rfl) (by go_simp; rfl) (by go_simp; rfl) (by go_simp) ?_
  refine eqf_cons (by rfl) (by go_simp; rfl) (by go_simp; rfl) (by go_simp) ?_
  refine eqf_cons (by rfl) (by go_simp; rfl) (by go_simp; rfl) (by go_simp) ?_
  exact eqf_last (by rfl) (by go_simp; rfl) (by go_simp; rfl) (by go_simp)
end Go.Proofs.YtliooghmpkdmoaaGreatDoor.X
end
section
namespace Go.Proofs.YtliooghmpkdmoaaGreatDoor.X
open Go.RowKit Go.Proofs.YtliooghmpkdmoaaGreatDoorW.PrintWords Go.Proofs.YtliooghmpkdmoaaGreatDoorW.PrintLast Go.Proofs.YtliooghmpkdmoaaGreatDoorW.PrintMore
attribute [local go_sem] max2_int min2_int max_two min_two max_three min_three max_four min_four
set_option linter.unusedVariables false
set_option linter.unusedSimpArgs false
attribute [local go_sem high] eqA50
mutual
def product_Check.j0 : Nat → Bool → ByteArray → Int → Int → Int → Int → Int → Bool → Option (Int)
  | 0, _, _, _, _, _, _, _, _ => none
  | k + 1, x3, x102000, x102001, x102002, x102003, x102004, x102005, x102006 => if x3 = true then (some 10) else (if x102001 < 0 then (product_Check.j1 k true x102000 x102001 x102002 x102003 x102004 x102005 x102006) else (product_Check.j1 k (decide (x102001 ≥ 8)) x102000 x102001 x102002 x102003 x102004 x102005 x102006))
def product_Check.j1 : Nat → Bool → ByteArray → Int → Int → Int → Int → Int → Bool → Option (Int)
  | 0, _, _, _, _, _, _, _, _ => none
  | k + 1, x13, x102000, x102001, x102002, x102003, x102004, x102005, x102006 => if x13 = true then (some 25) else (if x102002 < 1 then (product_Check.j2 k true x102000 x102001 x102002 x102003 x102004 x102005 x102006) else (product_Check.j2 k (decide (x102002 > 4096)) x102000 x102001 x102002 x102003 x102004 x102005 x102006))
def product_Check.j2 : Nat → Bool → ByteArray → Int → Int → Int → Int → Int → Bool → Option (Int)
  | 0, _, _, _, _, _, _, _, _ => none
  | k + 1, x22, x102000, x102001, x102002, x102003, x102004, x102005, x102006 => if x22 = true then (some 2) else (if x102003 < 1 then (product_Check.j3 k true x102000 x102001 x102002 x102003 x102004 x102005 x102006) else (product_Check.j3 k (decide (x102003 > 16777216)) x102000 x102001 x102002 x102003 x102004 x102005 x102006))
def product_Check.j3 : Nat → Bool → ByteArray → Int → Int → Int → Int → Int → Bool → Option (Int)
  | 0, _, _, _, _, _, _, _, _ => none
  | k + 1, x31, x102000, x102001, x102002, x102003, x102004, x102005, x102006 => if x31 = true then (some 16) else ((product_within.f x102004 16777216).bind fun t103 => (if t103 = true then ((product_within.f x102005 16777216).bind fun t104 => (if t104 = true then (if x102004 > x102005 then (some 17) else (if x102003 = 0 then (none) else (if (Int.tmod x102004 x102003) = 0 then (if (Int.tmod x102005 x102003) = 0 then (some 0) else (some 17)) else (some 17)))) else (some 17))) else (some 17)))
end
def product_Check.f (k : Nat) (a0_0 : ByteArray) (a0_1 : Int) (a0_2 : Int) (a0_3 : Int) (a0_4 : Int) (a0_5 : Int) (a0_6 : Bool) : Option (Int) := if (a0_0.toList == ([] : List UInt8) && (a0_1 == 0 && (a0_2 == 0 && (a0_3 == 0 && (a0_4 == 0 && (a0_5 == 0 && (!a0_6))))))) = true then (product_Check.j0 k true a0_0 a0_1 a0_2 a0_3 a0_4 a0_5 a0_6) else ((words_Name.f k a0_0).bind fun t102 => (product_Check.j0 k (!t102) a0_0 a0_1 a0_2 a0_3 a0_4 a0_5 a0_6))
set_option maxHeartbeats 8000000 in
set_option maxRecDepth 100000 in
theorem product_Check.calls (k : Nat) (a0_0 : ByteArray) (a0_1 : Int) (a0_2 : Int) (a0_3 : Int) (a0_4 : Int) (a0_5 : Int) (a0_6 : Bool) (r : Int) (w : World) (h : product_Check.f k a0_0 a0_1 a0_2 a0_3 a0_4 a0_5 a0_6 = some r) :
    Calls Tryz.prog 46 #[.agg #[.string a0_0, .int .i64 a0_1, .int .i64 a0_2, .int .i64 a0_3, .int .i64 a0_4, .int .i64 a0_5, .bool a0_6]] w fun e w' => e = .returned (.int .i64 r) ∧ Below w.heap.size w w' := by
  have hu50 := Tryz.underlying50
  have HB := Aside0.mk (Below.refl w.heap.size w)
  have H : (if (a0_0.toList == ([] : List UInt8) && (a0_1 == 0 && (a0_2 == 0 && (a0_3 == 0 && (a0_4 == 0 && (a0_5 == 0 && (!a0_6))))))) = true then (product_Check.j0 k true a0_0 a0_1 a0_2 a0_3 a0_4 a0_5 a0_6) else ((words_Name.f k a0_0).bind fun t102 => (product_Check.j0 k (!t102) a0_0 a0_1 a0_2 a0_3 a0_4 a0_5 a0_6))) = some r := h
  clear h
  have HC2 := Aside0.mk H
  clear H
  go_enter Tryz.func46, Tryz.ntmps46
  go_upto_region 1 with (first | ((with_reducible refine gate_dst (N := 1) rfl ?_); refine box_event ?hg (N := 1) ?hd (cs := #[.string a0_0, .int .i64 a0_1, .int .i64 a0_2, .int .i64 a0_3, .int .i64 a0_4, .int .i64 a0_5, .bool a0_6]) (t := 50) ?hr ?_; (case hd => rfl); (case hg => rfl); (case hr => first | (go_simp; done) | (go_simp; rfl)); intro gb101 hg w3 hbox hb; have BK101 := Aside0.mk (hbox); have GW101 := Aside0.mk ((gsz hg : w.heap.size ≤ gb101)); have GE101 := Aside0.mk ((gsz hg : w.heap.size ≤ gb101)); replace HB := Aside0.mk (below_step bel hb); clear hb hbox hg))
  (try simp only [Act.put, List.setIfInBounds_toArray, List.set_cons_zero, List.set_cons_succ])
  go_cut [3] (fun v3 wc => ∃ (kq : Nat) (x3_1 : Bool), v3 = .bool x3_1 ∧ Aside0 (product_Check.j0 kq x3_1 a0_0 a0_1 a0_2 a0_3 a0_4 a0_5 a0_6 = some r) ∧ Aside0 (kq ≤ k) ∧ Aside0 (wc.heap[gb101]? = some (.cells #[.string a0_0, .int .i64 a0_1, .int .i64 a0_2, .int .i64 a0_3, .int .i64 a0_4, .int .i64 a0_5, .bool a0_6] 50 (0, 0))) ∧ Aside0 (Below w.heap.size w wc))
  case first =>
    have H := HC2.out
    clear HC2
    by_cases c4 : (a0_0.toList == ([] : List UInt8) && (a0_1 == 0 && (a0_2 == 0 && (a0_3 == 0 && (a0_4 == 0 && (a0_5 == 0 && (!a0_6))))))) = true
    · rw [if_pos c4] at H
      obtain ⟨c4f, c4g, c4n⟩ : ∃ f_ : Bool, f_ = true ∧ (a0_0.toList.isEmpty && (a0_1 == 0 && (a0_2 == 0 && (a0_3 == 0 && (a0_4 == 0 && (a0_5 == 0 && (!a0_6))))))) = f_ := ⟨_, by simpa using c4, rfl⟩
      clear c4
      have H' := Aside0.mk H
      clear H
      obtain ⟨hcz5_0, hcz5_1, hcz5_2, hcz5_3, hcz5_4, hcz5_5, hcz5_6, hfz5_0, hfz5_1, hfz5_2, hfz5_3, hfz5_4, hfz5_5, hfz5_6⟩ := cz7 BK101.out
      go_wp2
      go_meet
      case rel => exact ⟨_, (true), eqs, H', ⟨by first | omega | exact Nat.le_refl _⟩, ⟨bw BK101.out⟩, ⟨bel⟩⟩
    · rw [if_neg c4] at H
      obtain ⟨c4f, c4g, c4n⟩ : ∃ f_ : Bool, f_ = false ∧ (a0_0.toList.isEmpty && (a0_1 == 0 && (a0_2 == 0 && (a0_3 == 0 && (a0_4 == 0 && (a0_5 == 0 && (!a0_6))))))) = f_ := ⟨_, by simpa using c4, rfl⟩
      clear c4
      replace H := bnd H
      obtain ⟨t102, A60, H⟩ := H
      have A6 := Aside0.mk A60
      clear A60
      have H' := Aside0.mk H
      clear H
      obtain ⟨hcz7_0, hcz7_1, hcz7_2, hcz7_3, hcz7_4, hcz7_5, hcz7_6, hfz7_0, hfz7_1, hfz7_2, hfz7_3, hfz7_4, hfz7_5, hfz7_6⟩ := cz7 BK101.out
      go_wp2_with (first | (go_at_call 33; (with_reducible refine (words_Name.calls k a0_0 t102 _ A6.out).mono ?_); rintro e w' ⟨rfl, ⟨nd, rfl⟩⟩))
      go_meet
      case rel => exact ⟨_, (!t102), eqs, H', ⟨by first | omega | exact Nat.le_refl _⟩, ⟨bw BK101.out⟩, ⟨bel⟩⟩
  case rest =>
    clear HC2
    try clear p2
    try clear c4
    try clear c4b0
    try clear c4b1
    try clear c4b2
    try clear hcz5_0 hcz5_1 hcz5_2 hcz5_3 hcz5_4 hcz5_5 hcz5_6
    try clear hcz7_0 hcz7_1 hcz7_2 hcz7_3 hcz7_4 hcz7_5 hcz7_6
    try clear hfz5_0 hfz5_1 hfz5_2 hfz5_3 hfz5_4 hfz5_5 hfz5_6
    try clear hfz7_0 hfz7_1 hfz7_2 hfz7_3 hfz7_4 hfz7_5 hfz7_6
    obtain ⟨kq, x3_1, rfl, HA, HJ1, BK101, HB⟩ := hcut
    cases kq with
    | zero => exact absurd HA.out (by simp [product_Check.j0])
    | succ kj1 =>
      have H := HA.out
      clear HA
      simp only [product_Check.j0] at H
      by_cases c8 : x3_1 = true
      · subst c8
        rw [if_pos rfl] at H
        obtain rfl := Option.some.inj H
        go_wp2
        go_ret
        exact ⟨ers, bel⟩
      · replace c8 := Bool.eq_false_iff.mpr c8
        subst c8
        rw [if_neg (show ¬ (false = true) by decide)] at H
        have HC9 := Aside0.mk H
        clear H
        go_upto_region 3 with (fail)
        go_cut [13] (fun v13 wc => ∃ (kq : Nat) (x13_8 : Bool), v13 = .bool x13_8 ∧ Aside0 (product_Check.j1 kq x13_8 a0_0 a0_1 a0_2 a0_3 a0_4 a0_5 a0_6 = some r) ∧ Aside0 (kq ≤ kj1) ∧ Aside0 (wc.heap[gb101]? = some (.cells #[.string a0_0, .int .i64 a0_1, .int .i64 a0_2, .int .i64 a0_3, .int .i64 a0_4, .int .i64 a0_5, .bool a0_6] 50 (0, 0))) ∧ Aside0 (Below w.heap.size w wc))
        case first =>
          have H := HC9.out
          clear HC9
          by_cases c10 : a0_1 < 0
          · rw [if_pos c10] at H
            have c10b0 := decide_eq_true c10
            clear c10
            (first | rw [c10b0] | (simp only [i64_w, i32_w]; rw [c10b0]) | skip)
            have H' := Aside0.mk H
            clear H
            obtain ⟨hcz11_0, hcz11_1, hcz11_2, hcz11_3, hcz11_4, hcz11_5, hcz11_6, hfz11_0, hfz11_1, hfz11_2, hfz11_3, hfz11_4, hfz11_5, hfz11_6⟩ := cz7 BK101.out
            go_wp2
            go_meet
            case rel => exact ⟨_, (true), eqs, H', ⟨by have := HJ1.out; first | omega | exact Nat.le_refl _⟩, ⟨bw BK101.out⟩, ⟨bel⟩⟩
          · rw [if_neg c10] at H
            have c10b0 := decide_eq_false c10
            clear c10
            (first | rw [c10b0] | (simp only [i64_w, i32_w]; rw [c10b0]) | skip)
            have H' := Aside0.mk H
            clear H
            obtain ⟨hcz12_0, hcz12_1, hcz12_2, hcz12_3, hcz12_4, hcz12_5, hcz12_6, hfz12_0, hfz12_1, hfz12_2, hfz12_3, hfz12_4, hfz12_5, hfz12_6⟩ := cz7 BK101.out
            go_wp2
            go_meet
            case rel => exact ⟨_, (decide (a0_1 ≥ 8)), eqs, H', ⟨by have := HJ1.out; first | omega | exact Nat.le_refl _⟩, ⟨bw BK101.out⟩, ⟨bel⟩⟩
        case rest =>
          clear HC9
          try clear c1
          try clear p2
          try clear c4
          try clear c4b0
          try clear c4b1
          try clear c4b2
          try clear c8
          try clear c10
          try clear c10b0
          try clear hcz11_0 hcz11_1 hcz11_2 hcz11_3 hcz11_4 hcz11_5 hcz11_6
          try clear hcz12_0 hcz12_1 hcz12_2 hcz12_3 hcz12_4 hcz12_5 hcz12_6
          try clear hcz5_0 hcz5_1 hcz5_2 hcz5_3 hcz5_4 hcz5_5 hcz5_6
          try clear hcz7_0 hcz7_1 hcz7_2 hcz7_3 hcz7_4 hcz7_5 hcz7_6
          try clear hfz11_0 hfz11_1 hfz11_2 hfz11_3 hfz11_4 hfz11_5 hfz11_6
          try clear hfz12_0 hfz12_1 hfz12_2 hfz12_3 hfz12_4 hfz12_5 hfz12_6
          try clear hfz5_0 hfz5_1 hfz5_2 hfz5_3 hfz5_4 hfz5_5 hfz5_6
          try clear hfz7_0 hfz7_1 hfz7_2 hfz7_3 hfz7_4 hfz7_5 hfz7_6
          try clear p2
          obtain ⟨kq, x13_8, rfl, HA, HJ8, BK101, HB⟩ := hcut
          cases kq with
          | zero => exact absurd HA.out (by simp [product_Check.j1])
          | succ kj8 =>
            have H := HA.out
            clear HA
            simp only [product_Check.j1] at H
            by_cases c13 : x13_8 = true
            · subst c13
              rw [if_pos rfl] at H
              obtain rfl := Option.some.inj H
              go_wp2
              go_ret
              exact ⟨ers, bel⟩
            · replace c13 := Bool.eq_false_iff.mpr c13
              subst c13
              rw [if_neg (show ¬ (false = true) by decide)] at H
              have HC14 := Aside0.mk H
              clear H
              go_upto_region 5 with (fail)
              go_cut [22] (fun v22 wc => ∃ (kq : Nat) (x22_13 : Bool), v22 = .bool x22_13 ∧ Aside0 (product_Check.j2 kq x22_13 a0_0 a0_1 a0_2 a0_3 a0_4 a0_5 a0_6 = some r) ∧ Aside0 (kq ≤ kj8) ∧ Aside0 (wc.heap[gb101]? = some (.cells #[.string a0_0, .int .i64 a0_1, .int .i64 a0_2, .int .i64 a0_3, .int .i64 a0_4, .int .i64 a0_5, .bool a0_6] 50 (0, 0))) ∧ Aside0 (Below w.heap.size w wc))
              case first =>
                have H := HC14.out
                clear HC14
                by_cases c15 : a0_2 < 1
                · rw [if_pos c15] at H
                  have c15b0 := decide_eq_true c15
                  clear c15
                  (first | rw [c15b0] | (simp only [i64_w, i32_w]; rw [c15b0]) | skip)
                  have H' := Aside0.mk H
                  clear H
                  obtain ⟨hcz16_0, hcz16_1, hcz16_2, hcz16_3, hcz16_4, hcz16_5, hcz16_6, hfz16_0, hfz16_1, hfz16_2, hfz16_3, hfz16_4, hfz16_5, hfz16_6⟩ := cz7 BK101.out
                  go_wp2
                  go_meet
                  case rel => exact ⟨_, (true), eqs, H', ⟨by have := HJ1.out; have := HJ8.out; first | omega | exact Nat.le_refl _⟩, ⟨bw BK101.out⟩, ⟨bel⟩⟩
                · rw [if_neg c15] at H
                  have c15b0 := decide_eq_false c15
                  clear c15
                  (first | rw [c15b0] | (simp only [i64_w, i32_w]; rw [c15b0]) | skip)
                  have H' := Aside0.mk H
                  clear H
                  obtain ⟨hcz17_0, hcz17_1, hcz17_2, hcz17_3, hcz17_4, hcz17_5, hcz17_6, hfz17_0, hfz17_1, hfz17_2, hfz17_3, hfz17_4, hfz17_5, hfz17_6⟩ := cz7 BK101.out
                  go_wp2
                  go_meet
                  case rel => exact ⟨_, (decide (a0_2 > 4096)), eqs, H', ⟨by have := HJ1.out; have := HJ8.out; first | omega | exact Nat.le_refl _⟩, ⟨bw BK101.out⟩, ⟨bel⟩⟩
              case rest =>
                clear HC14
                try clear c1
                try clear p2
                try clear c4
                try clear c4b0
                try clear c4b1
                try clear c4b2
                try clear c8
                try clear c10
                try clear c10b0
                try clear c13
                try clear c15
                try clear c15b0
                try clear hcz11_0 hcz11_1 hcz11_2 hcz11_3 hcz11_4 hcz11_5 hcz11_6
                try clear hcz12_0 hcz12_1 hcz12_2 hcz12_3 hcz12_4 hcz12_5 hcz12_6
                try clear hcz16_0 hcz16_1 hcz16_2 hcz16_3 hcz16_4 hcz16_5 hcz16_6
                try clear hcz17_0 hcz17_1 hcz17_2 hcz17_3 hcz17_4 hcz17_5 hcz17_6
                try clear hcz5_0 hcz5_1 hcz5_2 hcz5_3 hcz5_4 hcz5_5 hcz5_6
                try clear hcz7_0 hcz7_1 hcz7_2 hcz7_3 hcz7_4 hcz7_5 hcz7_6
                try clear hfz11_0 hfz11_1 hfz11_2 hfz11_3 hfz11_4 hfz11_5 hfz11_6
                try clear hfz12_0 hfz12_1 hfz12_2 hfz12_3 hfz12_4 hfz12_5 hfz12_6
                try clear hfz16_0 hfz16_1 hfz16_2 hfz16_3 hfz16_4 hfz16_5 hfz16_6
                try clear hfz17_0 hfz17_1 hfz17_2 hfz17_3 hfz17_4 hfz17_5 hfz17_6
                try clear hfz5_0 hfz5_1 hfz5_2 hfz5_3 hfz5_4 hfz5_5 hfz5_6
                try clear hfz7_0 hfz7_1 hfz7_2 hfz7_3 hfz7_4 hfz7_5 hfz7_6
                try clear p2
                obtain ⟨kq, x22_13, rfl, HA, HJ13, BK101, HB⟩ := hcut
                cases kq with
                | zero => exact absurd HA.out (by simp [product_Check.j2])
                | succ kj13 =>
                  have H := HA.out
                  clear HA
                  simp only [product_Check.j2] at H
                  by_cases c18 : x22_13 = true
                  · subst c18
                    rw [if_pos rfl] at H
                    obtain rfl := Option.some.inj H
                    go_wp2
                    go_ret
                    exact ⟨ers, bel⟩
                  · replace c18 := Bool.eq_false_iff.mpr c18
                    subst c18
                    rw [if_neg (show ¬ (false = true) by decide)] at H
                    have HC19 := Aside0.mk H
                    clear H
                    go_upto_region 7 with (fail)
                    go_cut [31] (fun v31 wc => ∃ (kq : Nat) (x31_18 : Bool), v31 = .bool x31_18 ∧ Aside0 (product_Check.j3 kq x31_18 a0_0 a0_1 a0_2 a0_3 a0_4 a0_5 a0_6 = some r) ∧ Aside0 (kq ≤ kj13) ∧ Aside0 (wc.heap[gb101]? = some (.cells #[.string a0_0, .int .i64 a0_1, .int .i64 a0_2, .int .i64 a0_3, .int .i64 a0_4, .int .i64 a0_5, .bool a0_6] 50 (0, 0))) ∧ Aside0 (Below w.heap.size w wc))
                    case first =>
                      have H := HC19.out
                      clear HC19
                      by_cases c20 : a0_3 < 1
                      · rw [if_pos c20] at H
                        have c20b0 := decide_eq_true c20
                        clear c20
                        (first | rw [c20b0] | (simp only [i64_w, i32_w]; rw [c20b0]) | skip)
                        have H' := Aside0.mk H
                        clear H
                        obtain ⟨hcz21_0, hcz21_1, hcz21_2, hcz21_3, hcz21_4, hcz21_5, hcz21_6, hfz21_0, hfz21_1, hfz21_2, hfz21_3, hfz21_4, hfz21_5, hfz21_6⟩ := cz7 BK101.out
                        go_wp2
                        go_meet
                        case rel => exact ⟨_, (true), eqs, H', ⟨by have := HJ1.out; have := HJ8.out; have := HJ13.out; first | omega | exact Nat.le_refl _⟩, ⟨bw BK101.out⟩, ⟨bel⟩⟩
                      · rw [if_neg c20] at H
                        have c20b0 := decide_eq_false c20
                        clear c20
                        (first | rw [c20b0] | (simp only [i64_w, i32_w]; rw [c20b0]) | skip)
                        have H' := Aside0.mk H
                        clear H
                        obtain ⟨hcz22_0, hcz22_1, hcz22_2, hcz22_3, hcz22_4, hcz22_5, hcz22_6, hfz22_0, hfz22_1, hfz22_2, hfz22_3, hfz22_4, hfz22_5, hfz22_6⟩ := cz7 BK101.out
                        go_wp2
                        go_meet
                        case rel => exact ⟨_, (decide (a0_3 > 16777216)), eqs, H', ⟨by have := HJ1.out; have := HJ8.out; have := HJ13.out; first | omega | exact Nat.le_refl _⟩, ⟨bw BK101.out⟩, ⟨bel⟩⟩
                    case rest =>
                      clear HC19
                      try clear c1
                      try clear c2
                      try clear p2
                      try clear c4
                      try clear c4b0
                      try clear c4b1
                      try clear c4b2
                      try clear c8
                      try clear c10
                      try clear c10b0
                      try clear c13
                      try clear c15
                      try clear c15b0
                      try clear c18
                      try clear c20
                      try clear c20b0
                      try clear hcz11_0 hcz11_1 hcz11_2 hcz11_3 hcz11_4 hcz11_5 hcz11_6
                      try clear hcz12_0 hcz12_1 hcz12_2 hcz12_3 hcz12_4 hcz12_5 hcz12_6
                      try clear hcz16_0 hcz16_1 hcz16_2 hcz16_3 hcz16_4 hcz16_5 hcz16_6
                      try clear hcz17_0 hcz17_1 hcz17_2 hcz17_3 hcz17_4 hcz17_5 hcz17_6
                      try clear hcz21_0 hcz21_1 hcz21_2 hcz21_3 hcz21_4 hcz21_5 hcz21_6
                      try clear hcz22_0 hcz22_1 hcz22_2 hcz22_3 hcz22_4 hcz22_5 hcz22_6
                      try clear hcz5_0 hcz5_1 hcz5_2 hcz5_3 hcz5_4 hcz5_5 hcz5_6
                      try clear hcz7_0 hcz7_1 hcz7_2 hcz7_3 hcz7_4 hcz7_5 hcz7_6
                      try clear hfz11_0 hfz11_1 hfz11_2 hfz11_3 hfz11_4 hfz11_5 hfz11_6
                      try clear hfz12_0 hfz12_1 hfz12_2 hfz12_3 hfz12_4 hfz12_5 hfz12_6
                      try clear hfz16_0 hfz16_1 hfz16_2 hfz16_3 hfz16_4 hfz16_5 hfz16_6
                      try clear hfz17_0 hfz17_1 hfz17_2 hfz17_3 hfz17_4 hfz17_5 hfz17_6
                      try clear hfz21_0 hfz21_1 hfz21_2 hfz21_3 hfz21_4 hfz21_5 hfz21_6
                      try clear hfz22_0 hfz22_1 hfz22_2 hfz22_3 hfz22_4 hfz22_5 hfz22_6
                      try clear hfz5_0 hfz5_1 hfz5_2 hfz5_3 hfz5_4 hfz5_5 hfz5_6
                      try clear hfz7_0 hfz7_1 hfz7_2 hfz7_3 hfz7_4 hfz7_5 hfz7_6
                      try clear p2
                      obtain ⟨kq, x31_18, rfl, HA, HJ18, BK101, HB⟩ := hcut
                      cases kq with
                      | zero => exact absurd HA.out (by simp [product_Check.j3])
                      | succ kj18 =>
                        have H := HA.out
                        clear HA
                        simp only [product_Check.j3] at H
                        by_cases c23 : x31_18 = true
                        · subst c23
                          rw [if_pos rfl] at H
                          obtain rfl := Option.some.inj H
                          go_wp2
                          go_ret
                          exact ⟨ers, bel⟩
                        · replace c23 := Bool.eq_false_iff.mpr c23
                          subst c23
                          rw [if_neg (show ¬ (false = true) by decide)] at H
                          replace H := bnd H
                          obtain ⟨t103, A240, H⟩ := H
                          have A24 := Aside0.mk A240
                          clear A240
                          by_cases c25 : t103 = true
                          · subst c25
                            rw [if_pos rfl] at H
                            replace H := bnd H
                            obtain ⟨t104, A260, H⟩ := H
                            have A26 := Aside0.mk A260
                            clear A260
                            by_cases c27 : t104 = true
                            · subst c27
                              rw [if_pos rfl] at H
                              by_cases c28 : a0_4 > a0_5
                              · rw [if_pos c28] at H
                                have c28b0 : decide (a0_5 < a0_4) = true := decide_eq_true c28
                                clear c28
                                obtain rfl := Option.some.inj H
                                obtain ⟨hcz29_0, hcz29_1, hcz29_2, hcz29_3, hcz29_4, hcz29_5, hcz29_6, hfz29_0, hfz29_1, hfz29_2, hfz29_3, hfz29_4, hfz29_5, hfz29_6⟩ := cz7 BK101.out
                                go_wp2_with (first | ((with_reducible refine gate_callee (f := 77) rfl ?_); refine goesL_ (some 43) rfl rfl Tryz.func77 (by kernel_rfl) rfl #[.int .i64 a0_4, .int .i64 16777216] rfl arg ?_; (with_reducible refine (product_within.calls a0_4 16777216 true _ A24.out).mono ?_); rintro e w' ⟨rfl, ⟨nd, rfl⟩⟩; refine ⟨_, rfl, ?_⟩) | (go_at_call 77; (with_reducible refine (product_within.calls a0_5 16777216 true _ A26.out).mono ?_); rintro e w' ⟨rfl, ⟨nd, rfl⟩⟩))
                                go_ret
                                exact ⟨ers, bel⟩
                              · rw [if_neg c28] at H
                                have c28b0 : decide (a0_5 < a0_4) = false := decide_eq_false c28
                                clear c28
                                by_cases c30 : a0_3 = 0
                                · rw [if_pos c30] at H
                                  exact absurd H (by simp)
                                · rw [if_neg c30] at H
                                  have c30b0 : (a0_3 == 0) = false := beq_eq_false_iff_ne.mpr c30
                                  have c30b1 : (a0_3 != 0) = true := bne_iff_ne.mpr c30
                                  by_cases c31 : (Int.tmod a0_4 a0_3) = 0
                                  · rw [if_pos c31] at H
                                    have c31b0 : ((Int.tmod a0_4 a0_3) == 0) = true := beq_iff_eq.mpr c31
                                    have c31b1 : ((Int.tmod a0_4 a0_3) != 0) = false := bne_eq_false_iff_eq.mpr c31
                                    clear c31
                                    by_cases c32 : (Int.tmod a0_5 a0_3) = 0
                                    · rw [if_pos c32] at H
                                      have c32b0 : ((Int.tmod a0_5 a0_3) == 0) = true := beq_iff_eq.mpr c32
                                      have c32b1 : ((Int.tmod a0_5 a0_3) != 0) = false := bne_eq_false_iff_eq.mpr c32
                                      clear c32
                                      obtain rfl := Option.some.inj H
                                      obtain ⟨hcz33_0, hcz33_1, hcz33_2, hcz33_3, hcz33_4, hcz33_5, hcz33_6, hfz33_0, hfz33_1, hfz33_2, hfz33_3, hfz33_4, hfz33_5, hfz33_6⟩ := cz7 BK101.out
                                      go_wp2_with (first | ((with_reducible refine gate_callee (f := 77) rfl ?_); refine goesL_ (some 43) rfl rfl Tryz.func77 (by kernel_rfl) rfl #[.int .i64 a0_4, .int .i64 16777216] rfl arg ?_; (with_reducible refine (product_within.calls a0_4 16777216 true _ A24.out).mono ?_); rintro e w' ⟨rfl, ⟨nd, rfl⟩⟩; refine ⟨_, rfl, ?_⟩) | (go_at_call 77; (with_reducible refine (product_within.calls a0_5 16777216 true _ A26.out).mono ?_); rintro e w' ⟨rfl, ⟨nd, rfl⟩⟩))
                                      go_ret
                                      exact ⟨ers, bel⟩
                                    · rw [if_neg c32] at H
                                      have c32b0 : ((Int.tmod a0_5 a0_3) == 0) = false := beq_eq_false_iff_ne.mpr c32
                                      have c32b1 : ((Int.tmod a0_5 a0_3) != 0) = true := bne_iff_ne.mpr c32
                                      obtain rfl := Option.some.inj H
                                      obtain ⟨hcz34_0, hcz34_1, hcz34_2, hcz34_3, hcz34_4, hcz34_5, hcz34_6, hfz34_0, hfz34_1, hfz34_2, hfz34_3, hfz34_4, hfz34_5, hfz34_6⟩ := cz7 BK101.out
                                      go_wp2_with (first | ((with_reducible refine gate_callee (f := 77) rfl ?_); refine goesL_ (some 43) rfl rfl Tryz.func77 (by kernel_rfl) rfl #[.int .i64 a0_4, .int .i64 16777216] rfl arg ?_; (with_reducible refine (product_within.calls a0_4 16777216 true _ A24.out).mono ?_); rintro e w' ⟨rfl, ⟨nd, rfl⟩⟩; refine ⟨_, rfl, ?_⟩) | (go_at_call 77; (with_reducible refine (product_within.calls a0_5 16777216 true _ A26.out).mono ?_); rintro e w' ⟨rfl, ⟨nd, rfl⟩⟩))
                                      go_ret
                                      exact ⟨ers, bel⟩
                                  · rw [if_neg c31] at H
                                    have c31b0 : ((Int.tmod a0_4 a0_3) == 0) = false := beq_eq_false_iff_ne.mpr c31
                                    have c31b1 : ((Int.tmod a0_4 a0_3) != 0) = true := bne_iff_ne.mpr c31
                                    obtain rfl := Option.some.inj H
                                    obtain ⟨hcz35_0, hcz35_1, hcz35_2, hcz35_3, hcz35_4, hcz35_5, hcz35_6, hfz35_0, hfz35_1, hfz35_2, hfz35_3, hfz35_4, hfz35_5, hfz35_6⟩ := cz7 BK101.out
                                    go_wp2_with (first | ((with_reducible refine gate_callee (f := 77) rfl ?_); refine goesL_ (some 43) rfl rfl Tryz.func77 (by kernel_rfl) rfl #[.int .i64 a0_4, .int .i64 16777216] rfl arg ?_; (with_reducible refine (product_within.calls a0_4 16777216 true _ A24.out).mono ?_); rintro e w' ⟨rfl, ⟨nd, rfl⟩⟩; refine ⟨_, rfl, ?_⟩) | (go_at_call 77; (with_reducible refine (product_within.calls a0_5 16777216 true _ A26.out).mono ?_); rintro e w' ⟨rfl, ⟨nd, rfl⟩⟩))
                                    go_ret
                                    exact ⟨ers, bel⟩
                            · replace c27 := Bool.eq_false_iff.mpr c27
                              subst c27
                              rw [if_neg (show ¬ (false = true) by decide)] at H
                              obtain rfl := Option.some.inj H
                              obtain ⟨hcz36_0, hcz36_1, hcz36_2, hcz36_3, hcz36_4, hcz36_5, hcz36_6, hfz36_0, hfz36_1, hfz36_2, hfz36_3, hfz36_4, hfz36_5, hfz36_6⟩ := cz7 BK101.out
                              go_wp2_with (first | ((with_reducible refine gate_callee (f := 77) rfl ?_); refine goesL_ (some 43) rfl rfl Tryz.func77 (by kernel_rfl) rfl #[.int .i64 a0_4, .int .i64 16777216] rfl arg ?_; (with_reducible refine (product_within.calls a0_4 16777216 true _ A24.out).mono ?_); rintro e w' ⟨rfl, ⟨nd, rfl⟩⟩; refine ⟨_, rfl, ?_⟩) | (go_at_call 77; (with_reducible refine (product_within.calls a0_5 16777216 false _ A26.out).mono ?_); rintro e w' ⟨rfl, ⟨nd, rfl⟩⟩))
                              go_ret
                              exact ⟨ers, bel⟩
                          · replace c25 := Bool.eq_false_iff.mpr c25
                            subst c25
                            rw [if_neg (show ¬ (false = true) by decide)] at H
                            obtain rfl := Option.some.inj H
                            obtain ⟨hcz37_0, hcz37_1, hcz37_2, hcz37_3, hcz37_4, hcz37_5, hcz37_6, hfz37_0, hfz37_1, hfz37_2, hfz37_3, hfz37_4, hfz37_5, hfz37_6⟩ := cz7 BK101.out
                            go_wp2_with (first | ((with_reducible refine gate_callee (f := 77) rfl ?_); refine goesL_ (some 43) rfl rfl Tryz.func77 (by kernel_rfl) rfl #[.int .i64 a0_4, .int .i64 16777216] rfl arg ?_; (with_reducible refine (product_within.calls a0_4 16777216 false _ A24.out).mono ?_); rintro e w' ⟨rfl, ⟨nd, rfl⟩⟩; refine ⟨_, rfl, ?_⟩))
                            go_ret
                            exact ⟨ers, bel⟩
end Go.Proofs.YtliooghmpkdmoaaGreatDoor.X
end
section
namespace Go.Proofs.YtliooghmpkdmoaaGreatDoor.X
open Go.RowKit Go.Proofs.YtliooghmpkdmoaaGreatDoorW.PrintWords Go.Proofs.YtliooghmpkdmoaaGreatDoorW.PrintLast Go.Proofs.YtliooghmpkdmoaaGreatDoorW.PrintMore
attribute [local go_sem] max2_int min2_int max_two min_two max_three min_three max_four min_four
set_option linter.unusedVariables false
set_option linter.unusedSimpArgs false
def product_Price.j0 : Nat → Int → Bool → ByteArray → Int → Int → Int → Int → Int → Bool → Option (Int)
  | 0, _, _, _, _, _, _, _, _, _ => none
  | k + 1, x1, x20, x102000, x102001, x102002, x102003, x102004, x102005, x102006 => if x20 = true then (some 17) else (if x102003 = 0 then (none) else (if (Int.tmod x1 x102003) = 0 then (some 0) else (some 16)))
def product_Price.f (k : Nat) (a0_0 : ByteArray) (a0_1 : Int) (a0_2 : Int) (a0_3 : Int) (a0_4 : Int) (a0_5 : Int) (a0_6 : Bool) (a1 : Int) : Option (Int) := (product_Check.f k a0_0 a0_1 a0_2 a0_3 a0_4 a0_5 a0_6).bind fun t102 => (if t102 = 0 then (if a1 < a0_4 then (product_Price.j0 k a1 true a0_0 a0_1 a0_2 a0_3 a0_4 a0_5 a0_6) else (product_Price.j0 k a1 (decide (a1 > a0_5)) a0_0 a0_1 a0_2 a0_3 a0_4 a0_5 a0_6)) else (some t102))
set_option maxHeartbeats 8000000 in
set_option maxRecDepth 100000 in
theorem product_Price.calls (k : Nat) (a0_0 : ByteArray) (a0_1 : Int) (a0_2 : Int) (a0_3 : Int) (a0_4 : Int) (a0_5 : Int) (a0_6 : Bool) (a1 : Int) (r : Int) (w : World) (h : product_Price.f k a0_0 a0_1 a0_2 a0_3 a0_4 a0_5 a0_6 a1 = some r) :
    Calls Tryz.prog 25 #[.agg #[.string a0_0, .int .i64 a0_1, .int .i64 a0_2, .int .i64 a0_3, .int .i64 a0_4, .int .i64 a0_5, .bool a0_6], .int .i64 a1] w fun e w' => e = .returned (.int .i64 r) ∧ Below w.heap.size w w' := by
  have hu50 := Tryz.underlying50
  have HB := Aside0.mk (Below.refl w.heap.size w)
  have H : ((product_Check.f k a0_0 a0_1 a0_2 a0_3 a0_4 a0_5 a0_6).bind fun t102 => (if t102 = 0 then (if a1 < a0_4 then (product_Price.j0 k a1 true a0_0 a0_1 a0_2 a0_3 a0_4 a0_5 a0_6) else (product_Price.j0 k a1 (decide (a1 > a0_5)) a0_0 a0_1 a0_2 a0_3 a0_4 a0_5 a0_6)) else (some t102))) = some r := h
  clear h
  replace H := bnd H
  obtain ⟨t102, A30, H⟩ := H
  have A3 := Aside0.mk A30
  clear A30
  go_enter Tryz.func25, Tryz.ntmps25
  go_wp2_with (first | ((with_reducible refine gate_dst (N := 2) rfl ?_); refine box_event ?hg (N := 2) ?hd (cs := #[.string a0_0, .int .i64 a0_1, .int .i64 a0_2, .int .i64 a0_3, .int .i64 a0_4, .int .i64 a0_5, .bool a0_6]) (t := 50) ?hr ?_; (case hd => rfl); (case hg => rfl); (case hr => first | (go_simp; done) | (go_simp; rfl)); intro gb101 hg w6 hbox hb; have BK101 := Aside0.mk (hbox); have GW101 := Aside0.mk ((gsz hg : w.heap.size ≤ gb101)); have GE101 := Aside0.mk ((gsz hg : w.heap.size ≤ gb101)); replace HB := Aside0.mk (below_step bel hb); clear hb hbox hg; obtain ⟨hcz7_0, hcz7_1, hcz7_2, hcz7_3, hcz7_4, hcz7_5, hcz7_6, hfz7_0, hfz7_1, hfz7_2, hfz7_3, hfz7_4, hfz7_5, hfz7_6⟩ := cz7 BK101.out) | ((with_reducible refine gate_callee (f := 46) rfl ?_); refine Aside0.out ?_))
  by_cases c4 : t102 = 0
  · rw [if_pos c4] at H
    have c4b0 : (t102 == 0) = true := beq_iff_eq.mpr c4
    have c4b1 : (t102 != 0) = false := bne_eq_false_iff_eq.mpr c4
    clear c4
    have HC5 := Aside0.mk H
    clear H
    refine Aside0.mk ?_
    (refine goesL_ (some 7) rfl rfl Tryz.func46 (by kernel_rfl) rfl #[.agg #[.string a0_0, .int .i64 a0_1, .int .i64 a0_2, .int .i64 a0_3, .int .i64 a0_4, .int .i64 a0_5, .bool a0_6]] rfl arg ?_; (with_reducible refine (product_Check.calls k a0_0 a0_1 a0_2 a0_3 a0_4 a0_5 a0_6 t102 _ A3.out).mono ?_); rintro e w8 ⟨rfl, hb⟩; refine ⟨_, rfl, ?_⟩; replace BK101 := Aside0.mk (blk_below (g := gb101) (bw BK101.out) hb); replace HB := Aside0.mk (below_step bel hb); (try clear hb); (try clear hb2); (try clear hk); (try clear hi))
    go_upto_region 4 with (fail)
    (try simp only [Act.put, List.setIfInBounds_toArray, List.set_cons_zero, List.set_cons_succ])
    go_cut [20] (fun v20 wc => ∃ (kq : Nat) (x20_4 : Bool), v20 = .bool x20_4 ∧ Aside0 (product_Price.j0 kq a1 x20_4 a0_0 a0_1 a0_2 a0_3 a0_4 a0_5 a0_6 = some r) ∧ Aside0 (kq ≤ k) ∧ Aside0 (wc.heap[gb101]? = some (.cells #[.string a0_0, .int .i64 a0_1, .int .i64 a0_2, .int .i64 a0_3, .int .i64 a0_4, .int .i64 a0_5, .bool a0_6] 50 (0, 0))) ∧ Aside0 (Below w.heap.size w wc))
    case first =>
      have H := HC5.out
      clear HC5
      by_cases c9 : a1 < a0_4
      · rw [if_pos c9] at H
        have c9b0 := decide_eq_true c9
        clear c9
        (first | rw [c9b0] | (simp only [i64_w, i32_w]; rw [c9b0]) | skip)
        have H' := Aside0.mk H
        clear H
        obtain ⟨hcz10_0, hcz10_1, hcz10_2, hcz10_3, hcz10_4, hcz10_5, hcz10_6, hfz10_0, hfz10_1, hfz10_2, hfz10_3, hfz10_4, hfz10_5, hfz10_6⟩ := cz7 BK101.out
        go_wp2
        go_meet
        case rel => exact ⟨_, (true), eqs, H', ⟨by first | omega | exact Nat.le_refl _⟩, ⟨bw BK101.out⟩, ⟨bel⟩⟩
      · rw [if_neg c9] at H
        have c9b0 := decide_eq_false c9
        clear c9
        (first | rw [c9b0] | (simp only [i64_w, i32_w]; rw [c9b0]) | skip)
        have H' := Aside0.mk H
        clear H
        obtain ⟨hcz11_0, hcz11_1, hcz11_2, hcz11_3, hcz11_4, hcz11_5, hcz11_6, hfz11_0, hfz11_1, hfz11_2, hfz11_3, hfz11_4, hfz11_5, hfz11_6⟩ := cz7 BK101.out
        go_wp2
        go_meet
        case rel => exact ⟨_, (decide (a1 > a0_5)), eqs, H', ⟨by first | omega | exact Nat.le_refl _⟩, ⟨bw BK101.out⟩, ⟨bel⟩⟩
    case rest =>
      clear HC5
      try clear c2
      try clear p2
      try clear c4
      try clear c4b0
      try clear c4b1
      try clear c9
      try clear c9b0
      try clear hcz10_0 hcz10_1 hcz10_2 hcz10_3 hcz10_4 hcz10_5 hcz10_6
      try clear hcz11_0 hcz11_1 hcz11_2 hcz11_3 hcz11_4 hcz11_5 hcz11_6
      try clear hcz7_0 hcz7_1 hcz7_2 hcz7_3 hcz7_4 hcz7_5 hcz7_6
      try clear hfz10_0 hfz10_1 hfz10_2 hfz10_3 hfz10_4 hfz10_5 hfz10_6
      try clear hfz11_0 hfz11_1 hfz11_2 hfz11_3 hfz11_4 hfz11_5 hfz11_6
      try clear hfz7_0 hfz7_1 hfz7_2 hfz7_3 hfz7_4 hfz7_5 hfz7_6
      obtain ⟨kq, x20_4, rfl, HA, HJ4, BK101, HB⟩ := hcut
      cases kq with
      | zero => exact absurd HA.out (by simp [product_Price.j0])
      | succ kj4 =>
        have H := HA.out
        clear HA
        simp only [product_Price.j0] at H
        by_cases c12 : x20_4 = true
        · subst c12
          rw [if_pos rfl] at H
          obtain rfl := Option.some.inj H
          go_wp2
          go_ret
          exact ⟨ers, bel⟩
        · replace c12 := Bool.eq_false_iff.mpr c12
          subst c12
          rw [if_neg (show ¬ (false = true) by decide)] at H
          by_cases c13 : a0_3 = 0
          · rw [if_pos c13] at H
            exact absurd H (by simp)
          · rw [if_neg c13] at H
            have c13b0 : (a0_3 == 0) = false := beq_eq_false_iff_ne.mpr c13
            have c13b1 : (a0_3 != 0) = true := bne_iff_ne.mpr c13
            by_cases c14 : (Int.tmod a1 a0_3) = 0
            · rw [if_pos c14] at H
              have c14b0 : ((Int.tmod a1 a0_3) == 0) = true := beq_iff_eq.mpr c14
              have c14b1 : ((Int.tmod a1 a0_3) != 0) = false := bne_eq_false_iff_eq.mpr c14
              clear c14
              obtain rfl := Option.some.inj H
              obtain ⟨hcz15_0, hcz15_1, hcz15_2, hcz15_3, hcz15_4, hcz15_5, hcz15_6, hfz15_0, hfz15_1, hfz15_2, hfz15_3, hfz15_4, hfz15_5, hfz15_6⟩ := cz7 BK101.out
              go_wp2
              go_ret
              exact ⟨ers, bel⟩
            · rw [if_neg c14] at H
              have c14b0 : ((Int.tmod a1 a0_3) == 0) = false := beq_eq_false_iff_ne.mpr c14
              have c14b1 : ((Int.tmod a1 a0_3) != 0) = true := bne_iff_ne.mpr c14
              obtain rfl := Option.some.inj H
              obtain ⟨hcz16_0, hcz16_1, hcz16_2, hcz16_3, hcz16_4, hcz16_5, hcz16_6, hfz16_0, hfz16_1, hfz16_2, hfz16_3, hfz16_4, hfz16_5, hfz16_6⟩ := cz7 BK101.out
              go_wp2
              go_ret
              exact ⟨ers, bel⟩
  · rw [if_neg c4] at H
    have c4b0 : (t102 == 0) = false := beq_eq_false_iff_ne.mpr c4
    have c4b1 : (t102 != 0) = true := bne_iff_ne.mpr c4
    obtain rfl := Option.some.inj H
    refine Aside0.mk ?_
    (refine goesL_ (some 7) rfl rfl Tryz.func46 (by kernel_rfl) rfl #[.agg #[.string a0_0, .int .i64 a0_1, .int .i64 a0_2, .int .i64 a0_3, .int .i64 a0_4, .int .i64 a0_5, .bool a0_6]] rfl arg ?_; (with_reducible refine (product_Check.calls k a0_0 a0_1 a0_2 a0_3 a0_4 a0_5 a0_6 t102 _ A3.out).mono ?_); rintro e w19 ⟨rfl, hb⟩; refine ⟨_, rfl, ?_⟩; replace BK101 := Aside0.mk (blk_below (g := gb101) (bw BK101.out) hb); replace HB := Aside0.mk (below_step bel hb); (try clear hb); (try clear hb2); (try clear hk); (try clear hi))
    go_wp2_with (fail)
    go_ret
    exact ⟨ers, bel⟩
def product_CheckAll.l0 : Nat → List (S50) → List (S50) → Int → Int → Option (Int)
  | 0, _, _, _, _ => none
  | k + 1, x0, x9, x10, x11 => if x11 < x10 then (if 0 ≤ x11 then (if x11 < (x9.length : Int) then ((product_Check.f k ((rd_T50 x9 x11).f0) ((rd_T50 x9 x11).f1) ((rd_T50 x9 x11).f2) ((rd_T50 x9 x11).f3) ((rd_T50 x9 x11).f4) ((rd_T50 x9 x11).f5) ((rd_T50 x9 x11).f6)).bind fun t103 => (if t103 = 0 then (if x11 > 0 then (if 0 ≤ (wrap64 (x11 - 1)) then (if (wrap64 (x11 - 1)) < (x0.length : Int) then (if ((Op.bytesLess (((rd_T50 x0 (wrap64 (x11 - 1))).f0).toList) (((rd_T50 x9 x11).f0).toList)) = true) then (product_CheckAll.l0 k x0 x9 x10 (wrap64 (x11 + 1))) else (some 12)) else (none)) else (none)) else (product_CheckAll.l0 k x0 x9 x10 (wrap64 (x11 + 1)))) else (some t103))) else (none)) else (none)) else (some 0)
def product_CheckAll.f (k : Nat) (l0 : List (S50)) : Option (Int) := if (l0.length : Int) > 32 then (some 8) else (product_CheckAll.l0 k l0 l0 (l0.length : Int) 0)
set_option maxHeartbeats 8000000 in
set_option maxRecDepth 100000 in
theorem product_CheckAll.calls (k : Nat) (A0 : Option Addr) (c0 : Nat) (l0 : List (S50)) (r : Int) (w : World) (hr0 : Kd.C k50 w A0 l0.length l0) (hc0 : l0.length ≤ c0) (h : product_CheckAll.f k l0 = some r) :
    Calls Tryz.prog 55 #[.slice A0 l0.length c0] w fun e w' => e = .returned (.int .i64 r) ∧ Below w.heap.size w w' := by
  have hu50 := Tryz.underlying50
  have HR0 := Aside0.mk hr0
  have HC0 := Aside0.mk hc0
  clear hr0 hc0
  have HB := Aside0.mk (Below.refl w.heap.size w)
  have H : (if (l0.length : Int) > 32 then (some 8) else (product_CheckAll.l0 k l0 l0 (l0.length : Int) 0)) = some r := h
  clear h
  by_cases c2 : (l0.length : Int) > 32
  · rw [if_pos c2] at H
    have c2b0 : decide (32 < (l0.length : Int)) = true := decide_eq_true c2
    have c2b1 : decide (32 < l0.length) = true := decide_eq_true (by omega)
    clear c2
    obtain rfl := Option.some.inj H
    go_enter Tryz.func55, Tryz.ntmps55
    go_wp2
    repeat (go_quiet (fail); try go_wp2)
    go_ret
    exact ⟨ers, bel⟩
  · rw [if_neg c2] at H
    have c2b0 : decide (32 < (l0.length : Int)) = false := decide_eq_false c2
    have c2b1 : decide (32 < l0.length) = false := decide_eq_false (by omega)
    clear c2
    have H' := Aside0.mk H
    clear H
    go_enter Tryz.func55, Tryz.ntmps55
    go_wp2
    repeat (go_quiet (fail); try go_wp2)
    go_loopg [11] k (fun kq v11 w' => ∃ (x11_1 : Int), v11 = .int .i64 x11_1 ∧ Aside0 (product_CheckAll.l0 kq l0 l0 (l0.length : Int) x11_1 = some r) ∧ Aside0 (kq ≤ k) ∧ Aside0 (Below w.heap.size w w'))
    case atStart => exact ⟨(0), eqs, H', ⟨Nat.le_refl _⟩, ⟨bel⟩⟩
    case round =>
      clear H'
      try clear c2
      try clear c2b0
      try clear c2b1
      try clear p2
      obtain ⟨x11_1, rfl, HA, HK1, HB⟩ := hrel
      cases gk with
      | zero => exact absurd HA.out (by simp [product_CheckAll.l0])
      | succ k1 =>
        have H := HA.out
        clear HA
        simp only [product_CheckAll.l0] at H
        by_cases c3 : x11_1 < (l0.length : Int)
        · rw [if_pos c3] at H
          have c3b0 := decide_eq_true c3
          clear c3
          by_cases c4 : 0 ≤ x11_1
          · rw [if_pos c4] at H
            have c4b0 := decide_eq_true c4
            clear c4
            by_cases c5 : x11_1 < (l0.length : Int)
            · rw [if_pos c5] at H
              have c5b0 := decide_eq_true c5
              clear c5
              replace H := bnd H
              obtain ⟨t103, A60, H⟩ := H
              have A6 := Aside0.mk A60
              clear A60
              by_cases c7 : t103 = 0
              · rw [if_pos c7] at H
                have c7b0 : (t103 == 0) = true := beq_iff_eq.mpr c7
                have c7b1 : (t103 != 0) = false := bne_eq_false_iff_eq.mpr c7
                clear c7
                by_cases c8 : x11_1 > 0
                · rw [if_pos c8] at H
                  have c8b0 : decide (0 < x11_1) = true := decide_eq_true c8
                  clear c8
                  obtain ⟨ji9, hji9⟩ : ∃ j_ : Int, (wrap64 (x11_1 - 1)) = j_ := ⟨_, rfl⟩
                  replace H : (if 0 ≤ (ji9) then (if (ji9) < (l0.length : Int) then (if ((Op.bytesLess (((rd_T50 l0 (ji9)).f0).toList) (((rd_T50 l0 x11_1).f0).toList)) = true) then (product_CheckAll.l0 k1 l0 l0 (l0.length : Int) (wrap64 (x11_1 + 1))) else (some 12)) else (none)) else (none)) = some r := by first | (rw [hji9] at H; exact H) | (simp only [hji9] at H ⊢; exact H)
                  (try rw [hji9] at A6)
                  have hji9w : (IntKind.i64.wrap (x11_1 - 1)) = ji9 := (i64_w _).trans hji9
                  have p101 : 0 ≤ (x11_1 : Int) := dt
                  have q101 : x11_1 < (l0.length : Int) := dt
                  obtain ⟨ad101, e101, hx101_0, hx101_1, hx101_2, hx101_3, hx101_4, hx101_5, hx101_6⟩ := at_T50 HR0.out x11_1 p101 q101
                  cases e101
                  replace hx101_0 := (HB.out.cell (World.block_lt_of_cell? w _ hx101_0)).trans hx101_0
                  replace hx101_1 := (HB.out.cell (World.block_lt_of_cell? w _ hx101_1)).trans hx101_1
                  replace hx101_2 := (HB.out.cell (World.block_lt_of_cell? w _ hx101_2)).trans hx101_2
                  replace hx101_3 := (HB.out.cell (World.block_lt_of_cell? w _ hx101_3)).trans hx101_3
                  replace hx101_4 := (HB.out.cell (World.block_lt_of_cell? w _ hx101_4)).trans hx101_4
                  replace hx101_5 := (HB.out.cell (World.block_lt_of_cell? w _ hx101_5)).trans hx101_5
                  replace hx101_6 := (HB.out.cell (World.block_lt_of_cell? w _ hx101_6)).trans hx101_6
                  replace p101 := eq_true p101
                  replace q101 := eq_true q101
                  go_wp2_with (((with_reducible refine gate_dst (N := 4) rfl ?_); refine box_event ?hg (N := 4) ?hd (cs := #[.string (⟨#[]⟩ : ByteArray), .int .i64 0, .int .i64 0, .int .i64 0, .int .i64 0, .int .i64 0, .bool false]) (t := 50) ?hr ?_; (case hd => rfl); (case hg => rfl); (case hr => first | (go_simp; done) | (go_simp; rfl)); intro gb102 hg w13 hbox hb; have BK102 := Aside0.mk (hbox); have GW102 := Aside0.mk ((gsz hg : w.heap.size ≤ gb102)); have GE102 := Aside0.mk ((gsz hg : w.heap.size ≤ gb102)); replace HB := Aside0.mk (below_step bel hb); clear hb hbox hg; obtain ⟨hcz14_0, hcz14_1, hcz14_2, hcz14_3, hcz14_4, hcz14_5, hcz14_6, hfz14_0, hfz14_1, hfz14_2, hfz14_3, hfz14_4, hfz14_5, hfz14_6⟩ := cz7 BK102.out))
                  by_cases c10 : 0 ≤ (ji9)
                  · rw [if_pos c10] at H
                    have c10b0 := decide_eq_true c10
                    clear c10
                    by_cases c11 : (ji9) < (l0.length : Int)
                    · rw [if_pos c11] at H
                      have c11b0 := decide_eq_true c11
                      clear c11
                      by_cases c12 : ((Op.bytesLess (((rd_T50 l0 (ji9)).f0).toList) (((rd_T50 l0 x11_1).f0).toList)) = true)
                      · rw [if_pos c12] at H
                        have c12b0 : (Op.bytesLess (((rd_T50 l0 (ji9)).f0).toList) (((rd_T50 l0 x11_1).f0).toList)) = true := c12
                        clear c12
                        have H' := Aside0.mk H
                        clear H
                        go_wp2_with ((go_at_call 46; (with_reducible refine (product_Check.calls k1 ((rd_T50 l0 x11_1).f0) ((rd_T50 l0 x11_1).f1) ((rd_T50 l0 x11_1).f2) ((rd_T50 l0 x11_1).f3) ((rd_T50 l0 x11_1).f4) ((rd_T50 l0 x11_1).f5) ((rd_T50 l0 x11_1).f6) t103 _ A6.out).mono ?_); rintro e w15 ⟨rfl, hb⟩; replace BK102 := Aside0.mk (blk_below (g := gb102) (o := .cells #[.string ((rd_T50 l0 x11_1).f0), .int .i64 ((rd_T50 l0 x11_1).f1), .int .i64 ((rd_T50 l0 x11_1).f2), .int .i64 ((rd_T50 l0 x11_1).f3), .int .i64 ((rd_T50 l0 x11_1).f4), .int .i64 ((rd_T50 l0 x11_1).f5), .bool ((rd_T50 l0 x11_1).f6)] 50 (0, 0)) (bs BK102.out) hb); replace HB := Aside0.mk (below_step bel hb); (try clear hb); (try clear hb2); (try clear hk); (try clear hi); obtain ⟨hcz16_0, hcz16_1, hcz16_2, hcz16_3, hcz16_4, hcz16_5, hcz16_6, hfz16_0, hfz16_1, hfz16_2, hfz16_3, hfz16_4, hfz16_5, hfz16_6⟩ := cz7 BK102.out; have p104 : 0 ≤ ((ji9) : Int) := dt; have q104 : (ji9) < (l0.length : Int) := dt; obtain ⟨ad104, e104, hx104_0, hx104_1, hx104_2, hx104_3, hx104_4, hx104_5, hx104_6⟩ := at_T50 HR0.out (ji9) p104 q104; obtain rfl : ad101 = ad104 := (by injection e104); replace hx104_0 := (HB.out.cell (World.block_lt_of_cell? w _ hx104_0)).trans hx104_0; replace hx104_1 := (HB.out.cell (World.block_lt_of_cell? w _ hx104_1)).trans hx104_1; replace hx104_2 := (HB.out.cell (World.block_lt_of_cell? w _ hx104_2)).trans hx104_2; replace hx104_3 := (HB.out.cell (World.block_lt_of_cell? w _ hx104_3)).trans hx104_3; replace hx104_4 := (HB.out.cell (World.block_lt_of_cell? w _ hx104_4)).trans hx104_4; replace hx104_5 := (HB.out.cell (World.block_lt_of_cell? w _ hx104_5)).trans hx104_5; replace hx104_6 := (HB.out.cell (World.block_lt_of_cell? w _ hx104_6)).trans hx104_6; replace p104 := eq_true p104; replace q104 := eq_true q104))
                        repeat (go_quiet (first | ((with_reducible refine gate_dst (N := 4) rfl ?_); refine box_event ?hg (N := 4) ?hd (cs := #[.string (⟨#[]⟩ : ByteArray), .int .i64 0, .int .i64 0, .int .i64 0, .int .i64 0, .int .i64 0, .bool false]) (t := 50) ?hr ?_; (case hd => rfl); (case hg => rfl); (case hr => first | (go_simp; done) | (go_simp; rfl)); intro gb102 hg w13 hbox hb; have BK102 := Aside0.mk (hbox); have GW102 := Aside0.mk ((gsz hg : w.heap.size ≤ gb102)); have GE102 := Aside0.mk ((gsz hg : w.heap.size ≤ gb102)); replace HB := Aside0.mk (below_step bel hb); clear hb hbox hg; obtain ⟨hcz14_0, hcz14_1, hcz14_2, hcz14_3, hcz14_4, hcz14_5, hcz14_6, hfz14_0, hfz14_1, hfz14_2, hfz14_3, hfz14_4, hfz14_5, hfz14_6⟩ := cz7 BK102.out) | (go_at_call 46; (with_reducible refine (product_Check.calls k1 ((rd_T50 l0 x11_1).f0) ((rd_T50 l0 x11_1).f1) ((rd_T50 l0 x11_1).f2) ((rd_T50 l0 x11_1).f3) ((rd_T50 l0 x11_1).f4) ((rd_T50 l0 x11_1).f5) ((rd_T50 l0 x11_1).f6) t103 _ A6.out).mono ?_); rintro e w15 ⟨rfl, hb⟩; replace BK102 := Aside0.mk (blk_below (g := gb102) (o := .cells #[.string ((rd_T50 l0 x11_1).f0), .int .i64 ((rd_T50 l0 x11_1).f1), .int .i64 ((rd_T50 l0 x11_1).f2), .int .i64 ((rd_T50 l0 x11_1).f3), .int .i64 ((rd_T50 l0 x11_1).f4), .int .i64 ((rd_T50 l0 x11_1).f5), .bool ((rd_T50 l0 x11_1).f6)] 50 (0, 0)) (bs BK102.out) hb); replace HB := Aside0.mk (below_step bel hb); (try clear hb); (try clear hb2); (try clear hk); (try clear hi); obtain ⟨hcz16_0, hcz16_1, hcz16_2, hcz16_3, hcz16_4, hcz16_5, hcz16_6, hfz16_0, hfz16_1, hfz16_2, hfz16_3, hfz16_4, hfz16_5, hfz16_6⟩ := cz7 BK102.out; have p104 : 0 ≤ ((ji9) : Int) := dt; have q104 : (ji9) < (l0.length : Int) := dt; obtain ⟨ad104, e104, hx104_0, hx104_1, hx104_2, hx104_3, hx104_4, hx104_5, hx104_6⟩ := at_T50 HR0.out (ji9) p104 q104; obtain rfl : ad101 = ad104 := (by injection e104); replace hx104_0 := (HB.out.cell (World.block_lt_of_cell? w _ hx104_0)).trans hx104_0; replace hx104_1 := (HB.out.cell (World.block_lt_of_cell? w _ hx104_1)).trans hx104_1; replace hx104_2 := (HB.out.cell (World.block_lt_of_cell? w _ hx104_2)).trans hx104_2; replace hx104_3 := (HB.out.cell (World.block_lt_of_cell? w _ hx104_3)).trans hx104_3; replace hx104_4 := (HB.out.cell (World.block_lt_of_cell? w _ hx104_4)).trans hx104_4; replace hx104_5 := (HB.out.cell (World.block_lt_of_cell? w _ hx104_5)).trans hx104_5; replace hx104_6 := (HB.out.cell (World.block_lt_of_cell? w _ hx104_6)).trans hx104_6; replace p104 := eq_true p104; replace q104 := eq_true q104)); try go_wp2_with (first | ((with_reducible refine gate_dst (N := 4) rfl ?_); refine box_event ?hg (N := 4) ?hd (cs := #[.string (⟨#[]⟩ : ByteArray), .int .i64 0, .int .i64 0, .int .i64 0, .int .i64 0, .int .i64 0, .bool false]) (t := 50) ?hr ?_; (case hd => rfl); (case hg => rfl); (case hr => first | (go_simp; done) | (go_simp; rfl)); intro gb102 hg w13 hbox hb; have BK102 := Aside0.mk (hbox); have GW102 := Aside0.mk ((gsz hg : w.heap.size ≤ gb102)); have GE102 := Aside0.mk ((gsz hg : w.heap.size ≤ gb102)); replace HB := Aside0.mk (below_step bel hb); clear hb hbox hg; obtain ⟨hcz14_0, hcz14_1, hcz14_2, hcz14_3, hcz14_4, hcz14_5, hcz14_6, hfz14_0, hfz14_1, hfz14_2, hfz14_3, hfz14_4, hfz14_5, hfz14_6⟩ := cz7 BK102.out) | (go_at_call 46; (with_reducible refine (product_Check.calls k1 ((rd_T50 l0 x11_1).f0) ((rd_T50 l0 x11_1).f1) ((rd_T50 l0 x11_1).f2) ((rd_T50 l0 x11_1).f3) ((rd_T50 l0 x11_1).f4) ((rd_T50 l0 x11_1).f5) ((rd_T50 l0 x11_1).f6) t103 _ A6.out).mono ?_); rintro e w15 ⟨rfl, hb⟩; replace BK102 := Aside0.mk (blk_below (g := gb102) (o := .cells #[.string ((rd_T50 l0 x11_1).f0), .int .i64 ((rd_T50 l0 x11_1).f1), .int .i64 ((rd_T50 l0 x11_1).f2), .int .i64 ((rd_T50 l0 x11_1).f3), .int .i64 ((rd_T50 l0 x11_1).f4), .int .i64 ((rd_T50 l0 x11_1).f5), .bool ((rd_T50 l0 x11_1).f6)] 50 (0, 0)) (bs BK102.out) hb); replace HB := Aside0.mk (below_step bel hb); (try clear hb); (try clear hb2); (try clear hk); (try clear hi); obtain ⟨hcz16_0, hcz16_1, hcz16_2, hcz16_3, hcz16_4, hcz16_5, hcz16_6, hfz16_0, hfz16_1, hfz16_2, hfz16_3, hfz16_4, hfz16_5, hfz16_6⟩ := cz7 BK102.out; have p104 : 0 ≤ ((ji9) : Int) := dt; have q104 : (ji9) < (l0.length : Int) := dt; obtain ⟨ad104, e104, hx104_0, hx104_1, hx104_2, hx104_3, hx104_4, hx104_5, hx104_6⟩ := at_T50 HR0.out (ji9) p104 q104; obtain rfl : ad101 = ad104 := (by injection e104); replace hx104_0 := (HB.out.cell (World.block_lt_of_cell? w _ hx104_0)).trans hx104_0; replace hx104_1 := (HB.out.cell (World.block_lt_of_cell? w _ hx104_1)).trans hx104_1; replace hx104_2 := (HB.out.cell (World.block_lt_of_cell? w _ hx104_2)).trans hx104_2; replace hx104_3 := (HB.out.cell (World.block_lt_of_cell? w _ hx104_3)).trans hx104_3; replace hx104_4 := (HB.out.cell (World.block_lt_of_cell? w _ hx104_4)).trans hx104_4; replace hx104_5 := (HB.out.cell (World.block_lt_of_cell? w _ hx104_5)).trans hx104_5; replace hx104_6 := (HB.out.cell (World.block_lt_of_cell? w _ hx104_6)).trans hx104_6; replace p104 := eq_true p104; replace q104 := eq_true q104)))
                        go_roundg k1
                        case measure => have := HK1.out; omega
                        case rel => exact ⟨(wrap64 (x11_1 + 1)), eqs, H', ⟨hko⟩, ⟨bel⟩⟩
                      · rw [if_neg c12] at H
                        have c12b0 : (Op.bytesLess (((rd_T50 l0 (ji9)).f0).toList) (((rd_T50 l0 x11_1).f0).toList)) = false := by simpa using c12
                        clear c12
                        obtain rfl := Option.some.inj H
                        go_wp2_with ((go_at_call 46; (with_reducible refine (product_Check.calls k1 ((rd_T50 l0 x11_1).f0) ((rd_T50 l0 x11_1).f1) ((rd_T50 l0 x11_1).f2) ((rd_T50 l0 x11_1).f3) ((rd_T50 l0 x11_1).f4) ((rd_T50 l0 x11_1).f5) ((rd_T50 l0 x11_1).f6) t103 _ A6.out).mono ?_); rintro e w19 ⟨rfl, hb⟩; replace BK102 := Aside0.mk (blk_below (g := gb102) (o := .cells #[.string ((rd_T50 l0 x11_1).f0), .int .i64 ((rd_T50 l0 x11_1).f1), .int .i64 ((rd_T50 l0 x11_1).f2), .int .i64 ((rd_T50 l0 x11_1).f3), .int .i64 ((rd_T50 l0 x11_1).f4), .int .i64 ((rd_T50 l0 x11_1).f5), .bool ((rd_T50 l0 x11_1).f6)] 50 (0, 0)) (bs BK102.out) hb); replace HB := Aside0.mk (below_step bel hb); (try clear hb); (try clear hb2); (try clear hk); (try clear hi); obtain ⟨hcz20_0, hcz20_1, hcz20_2, hcz20_3, hcz20_4, hcz20_5, hcz20_6, hfz20_0, hfz20_1, hfz20_2, hfz20_3, hfz20_4, hfz20_5, hfz20_6⟩ := cz7 BK102.out; have p104 : 0 ≤ ((ji9) : Int) := dt; have q104 : (ji9) < (l0.length : Int) := dt; obtain ⟨ad104, e104, hx104_0, hx104_1, hx104_2, hx104_3, hx104_4, hx104_5, hx104_6⟩ := at_T50 HR0.out (ji9) p104 q104; obtain rfl : ad101 = ad104 := (by injection e104); replace hx104_0 := (HB.out.cell (World.block_lt_of_cell? w _ hx104_0)).trans hx104_0; replace hx104_1 := (HB.out.cell (World.block_lt_of_cell? w _ hx104_1)).trans hx104_1; replace hx104_2 := (HB.out.cell (World.block_lt_of_cell? w _ hx104_2)).trans hx104_2; replace hx104_3 := (HB.out.cell (World.block_lt_of_cell? w _ hx104_3)).trans hx104_3; replace hx104_4 := (HB.out.cell (World.block_lt_of_cell? w _ hx104_4)).trans hx104_4; replace hx104_5 := (HB.out.cell (World.block_lt_of_cell? w _ hx104_5)).trans hx104_5; replace hx104_6 := (HB.out.cell (World.block_lt_of_cell? w _ hx104_6)).trans hx104_6; replace p104 := eq_true p104; replace q104 := eq_true q104))
                        repeat (go_quiet (first | ((with_reducible refine gate_dst (N := 4) rfl ?_); refine box_event ?hg (N := 4) ?hd (cs := #[.string (⟨#[]⟩ : ByteArray), .int .i64 0, .int .i64 0, .int .i64 0, .int .i64 0, .int .i64 0, .bool false]) (t := 50) ?hr ?_; (case hd => rfl); (case hg => rfl); (case hr => first | (go_simp; done) | (go_simp; rfl)); intro gb102 hg w13 hbox hb; have BK102 := Aside0.mk (hbox); have GW102 := Aside0.mk ((gsz hg : w.heap.size ≤ gb102)); have GE102 := Aside0.mk ((gsz hg : w.heap.size ≤ gb102)); replace HB := Aside0.mk (below_step bel hb); clear hb hbox hg; obtain ⟨hcz14_0, hcz14_1, hcz14_2, hcz14_3, hcz14_4, hcz14_5, hcz14_6, hfz14_0, hfz14_1, hfz14_2, hfz14_3, hfz14_4, hfz14_5, hfz14_6⟩ := cz7 BK102.out) | (go_at_call 46; (with_reducible refine (product_Check.calls k1 ((rd_T50 l0 x11_1).f0) ((rd_T50 l0 x11_1).f1) ((rd_T50 l0 x11_1).f2) ((rd_T50 l0 x11_1).f3) ((rd_T50 l0 x11_1).f4) ((rd_T50 l0 x11_1).f5) ((rd_T50 l0 x11_1).f6) t103 _ A6.out).mono ?_); rintro e w19 ⟨rfl, hb⟩; replace BK102 := Aside0.mk (blk_below (g := gb102) (o := .cells #[.string ((rd_T50 l0 x11_1).f0), .int .i64 ((rd_T50 l0 x11_1).f1), .int .i64 ((rd_T50 l0 x11_1).f2), .int .i64 ((rd_T50 l0 x11_1).f3), .int .i64 ((rd_T50 l0 x11_1).f4), .int .i64 ((rd_T50 l0 x11_1).f5), .bool ((rd_T50 l0 x11_1).f6)] 50 (0, 0)) (bs BK102.out) hb); replace HB := Aside0.mk (below_step bel hb); (try clear hb); (try clear hb2); (try clear hk); (try clear hi); obtain ⟨hcz20_0, hcz20_1, hcz20_2, hcz20_3, hcz20_4, hcz20_5, hcz20_6, hfz20_0, hfz20_1, hfz20_2, hfz20_3, hfz20_4, hfz20_5, hfz20_6⟩ := cz7 BK102.out; have p104 : 0 ≤ ((ji9) : Int) := dt; have q104 : (ji9) < (l0.length : Int) := dt; obtain ⟨ad104, e104, hx104_0, hx104_1, hx104_2, hx104_3, hx104_4, hx104_5, hx104_6⟩ := at_T50 HR0.out (ji9) p104 q104; obtain rfl : ad101 = ad104 := (by injection e104); replace hx104_0 := (HB.out.cell (World.block_lt_of_cell? w _ hx104_0)).trans hx104_0; replace hx104_1 := (HB.out.cell (World.block_lt_of_cell? w _ hx104_1)).trans hx104_1; replace hx104_2 := (HB.out.cell (World.block_lt_of_cell? w _ hx104_2)).trans hx104_2; replace hx104_3 := (HB.out.cell (World.block_lt_of_cell? w _ hx104_3)).trans hx104_3; replace hx104_4 := (HB.out.cell (World.block_lt_of_cell? w _ hx104_4)).trans hx104_4; replace hx104_5 := (HB.out.cell (World.block_lt_of_cell? w _ hx104_5)).trans hx104_5; replace hx104_6 := (HB.out.cell (World.block_lt_of_cell? w _ hx104_6)).trans hx104_6; replace p104 := eq_true p104; replace q104 := eq_true q104)); try go_wp2_with (first | ((with_reducible refine gate_dst (N := 4) rfl ?_); refine box_event ?hg (N := 4) ?hd (cs := #[.string (⟨#[]⟩ : ByteArray), .int .i64 0, .int .i64 0, .int .i64 0, .int .i64 0, .int .i64 0, .bool false]) (t := 50) ?hr ?_; (case hd => rfl); (case hg => rfl); (case hr => first | (go_simp; done) | (go_simp; rfl)); intro gb102 hg w13 hbox hb; have BK102 := Aside0.mk (hbox); have GW102 := Aside0.mk ((gsz hg : w.heap.size ≤ gb102)); have GE102 := Aside0.mk ((gsz hg : w.heap.size ≤ gb102)); replace HB := Aside0.mk (below_step bel hb); clear hb hbox hg; obtain ⟨hcz14_0, hcz14_1, hcz14_2, hcz14_3, hcz14_4, hcz14_5, hcz14_6, hfz14_0, hfz14_1, hfz14_2, hfz14_3, hfz14_4, hfz14_5, hfz14_6⟩ := cz7 BK102.out) | (go_at_call 46; (with_reducible refine (product_Check.calls k1 ((rd_T50 l0 x11_1).f0) ((rd_T50 l0 x11_1).f1) ((rd_T50 l0 x11_1).f2) ((rd_T50 l0 x11_1).f3) ((rd_T50 l0 x11_1).f4) ((rd_T50 l0 x11_1).f5) ((rd_T50 l0 x11_1).f6) t103 _ A6.out).mono ?_); rintro e w19 ⟨rfl, hb⟩; replace BK102 := Aside0.mk (blk_below (g := gb102) (o := .cells #[.string ((rd_T50 l0 x11_1).f0), .int .i64 ((rd_T50 l0 x11_1).f1), .int .i64 ((rd_T50 l0 x11_1).f2), .int .i64 ((rd_T50 l0 x11_1).f3), .int .i64 ((rd_T50 l0 x11_1).f4), .int .i64 ((rd_T50 l0 x11_1).f5), .bool ((rd_T50 l0 x11_1).f6)] 50 (0, 0)) (bs BK102.out) hb); replace HB := Aside0.mk (below_step bel hb); (try clear hb); (try clear hb2); (try clear hk); (try clear hi); obtain ⟨hcz20_0, hcz20_1, hcz20_2, hcz20_3, hcz20_4, hcz20_5, hcz20_6, hfz20_0, hfz20_1, hfz20_2, hfz20_3, hfz20_4, hfz20_5, hfz20_6⟩ := cz7 BK102.out; have p104 : 0 ≤ ((ji9) : Int) := dt; have q104 : (ji9) < (l0.length : Int) := dt; obtain ⟨ad104, e104, hx104_0, hx104_1, hx104_2, hx104_3, hx104_4, hx104_5, hx104_6⟩ := at_T50 HR0.out (ji9) p104 q104; obtain rfl : ad101 = ad104 := (by injection e104); replace hx104_0 := (HB.out.cell (World.block_lt_of_cell? w _ hx104_0)).trans hx104_0; replace hx104_1 := (HB.out.cell (World.block_lt_of_cell? w _ hx104_1)).trans hx104_1; replace hx104_2 := (HB.out.cell (World.block_lt_of_cell? w _ hx104_2)).trans hx104_2; replace hx104_3 := (HB.out.cell (World.block_lt_of_cell? w _ hx104_3)).trans hx104_3; replace hx104_4 := (HB.out.cell (World.block_lt_of_cell? w _ hx104_4)).trans hx104_4; replace hx104_5 := (HB.out.cell (World.block_lt_of_cell? w _ hx104_5)).trans hx104_5; replace hx104_6 := (HB.out.cell (World.block_lt_of_cell? w _ hx104_6)).trans hx104_6; replace p104 := eq_true p104; replace q104 := eq_true q104)))
                        go_ret
                        exact ⟨by first | rfl | (simp [errW_none, errW_some] <;> rfl) | (simp only [← hji9]; first | rfl | (simp [errW_none, errW_some] <;> rfl)) | (simp [*, errW_none, errW_some] <;> rfl), bel⟩
                    · rw [if_neg c11] at H
                      exact absurd H (by simp)
                  · rw [if_neg c10] at H
                    exact absurd H (by simp)
                · rw [if_neg c8] at H
                  have c8b0 : decide (0 < x11_1) = false := decide_eq_false c8
                  clear c8
                  have H' := Aside0.mk H
                  clear H
                  have p101 : 0 ≤ (x11_1 : Int) := dt
                  have q101 : x11_1 < (l0.length : Int) := dt
                  obtain ⟨ad101, e101, hx101_0, hx101_1, hx101_2, hx101_3, hx101_4, hx101_5, hx101_6⟩ := at_T50 HR0.out x11_1 p101 q101
                  cases e101
                  replace hx101_0 := (HB.out.cell (World.block_lt_of_cell? w _ hx101_0)).trans hx101_0
                  replace hx101_1 := (HB.out.cell (World.block_lt_of_cell? w _ hx101_1)).trans hx101_1
                  replace hx101_2 := (HB.out.cell (World.block_lt_of_cell? w _ hx101_2)).trans hx101_2
                  replace hx101_3 := (HB.out.cell (World.block_lt_of_cell? w _ hx101_3)).trans hx101_3
                  replace hx101_4 := (HB.out.cell (World.block_lt_of_cell? w _ hx101_4)).trans hx101_4
                  replace hx101_5 := (HB.out.cell (World.block_lt_of_cell? w _ hx101_5)).trans hx101_5
                  replace hx101_6 := (HB.out.cell (World.block_lt_of_cell? w _ hx101_6)).trans hx101_6
                  replace p101 := eq_true p101
                  replace q101 := eq_true q101
                  go_wp2_with (first | ((with_reducible refine gate_dst (N := 4) rfl ?_); refine box_event ?hg (N := 4) ?hd (cs := #[.string (⟨#[]⟩ : ByteArray), .int .i64 0, .int .i64 0, .int .i64 0, .int .i64 0, .int .i64 0, .bool false]) (t := 50) ?hr ?_; (case hd => rfl); (case hg => rfl); (case hr => first | (go_simp; done) | (go_simp; rfl)); intro gb102 hg w21 hbox hb; have BK102 := Aside0.mk (hbox); have GW102 := Aside0.mk ((gsz hg : w.heap.size ≤ gb102)); have GE102 := Aside0.mk ((gsz hg : w.heap.size ≤ gb102)); replace HB := Aside0.mk (below_step bel hb); clear hb hbox hg; obtain ⟨hcz22_0, hcz22_1, hcz22_2, hcz22_3, hcz22_4, hcz22_5, hcz22_6, hfz22_0, hfz22_1, hfz22_2, hfz22_3, hfz22_4, hfz22_5, hfz22_6⟩ := cz7 BK102.out) | (go_at_call 46; (with_reducible refine (product_Check.calls k1 ((rd_T50 l0 x11_1).f0) ((rd_T50 l0 x11_1).f1) ((rd_T50 l0 x11_1).f2) ((rd_T50 l0 x11_1).f3) ((rd_T50 l0 x11_1).f4) ((rd_T50 l0 x11_1).f5) ((rd_T50 l0 x11_1).f6) t103 _ A6.out).mono ?_); rintro e w23 ⟨rfl, hb⟩; replace BK102 := Aside0.mk (blk_below (g := gb102) (o := .cells #[.string ((rd_T50 l0 x11_1).f0), .int .i64 ((rd_T50 l0 x11_1).f1), .int .i64 ((rd_T50 l0 x11_1).f2), .int .i64 ((rd_T50 l0 x11_1).f3), .int .i64 ((rd_T50 l0 x11_1).f4), .int .i64 ((rd_T50 l0 x11_1).f5), .bool ((rd_T50 l0 x11_1).f6)] 50 (0, 0)) (bs BK102.out) hb); replace HB := Aside0.mk (below_step bel hb); (try clear hb); (try clear hb2); (try clear hk); (try clear hi)))
                  repeat (go_quiet (first | ((with_reducible refine gate_dst (N := 4) rfl ?_); refine box_event ?hg (N := 4) ?hd (cs := #[.string (⟨#[]⟩ : ByteArray), .int .i64 0, .int .i64 0, .int .i64 0, .int .i64 0, .int .i64 0, .bool false]) (t := 50) ?hr ?_; (case hd => rfl); (case hg => rfl); (case hr => first | (go_simp; done) | (go_simp; rfl)); intro gb102 hg w21 hbox hb; have BK102 := Aside0.mk (hbox); have GW102 := Aside0.mk ((gsz hg : w.heap.size ≤ gb102)); have GE102 := Aside0.mk ((gsz hg : w.heap.size ≤ gb102)); replace HB := Aside0.mk (below_step bel hb); clear hb hbox hg; obtain ⟨hcz22_0, hcz22_1, hcz22_2, hcz22_3, hcz22_4, hcz22_5, hcz22_6, hfz22_0, hfz22_1, hfz22_2, hfz22_3, hfz22_4, hfz22_5, hfz22_6⟩ := cz7 BK102.out) | (go_at_call 46; (with_reducible refine (product_Check.calls k1 ((rd_T50 l0 x11_1).f0) ((rd_T50 l0 x11_1).f1) ((rd_T50 l0 x11_1).f2) ((rd_T50 l0 x11_1).f3) ((rd_T50 l0 x11_1).f4) ((rd_T50 l0 x11_1).f5) ((rd_T50 l0 x11_1).f6) t103 _ A6.out).mono ?_); rintro e w23 ⟨rfl, hb⟩; replace BK102 := Aside0.mk (blk_below (g := gb102) (o := .cells #[.string ((rd_T50 l0 x11_1).f0), .int .i64 ((rd_T50 l0 x11_1).f1), .int .i64 ((rd_T50 l0 x11_1).f2), .int .i64 ((rd_T50 l0 x11_1).f3), .int .i64 ((rd_T50 l0 x11_1).f4), .int .i64 ((rd_T50 l0 x11_1).f5), .bool ((rd_T50 l0 x11_1).f6)] 50 (0, 0)) (bs BK102.out) hb); replace HB := Aside0.mk (below_step bel hb); (try clear hb); (try clear hb2); (try clear hk); (try clear hi))); try go_wp2_with (first | ((with_reducible refine gate_dst (N := 4) rfl ?_); refine box_event ?hg (N := 4) ?hd (cs := #[.string (⟨#[]⟩ : ByteArray), .int .i64 0, .int .i64 0, .int .i64 0, .int .i64 0, .int .i64 0, .bool false]) (t := 50) ?hr ?_; (case hd => rfl); (case hg => rfl); (case hr => first | (go_simp; done) | (go_simp; rfl)); intro gb102 hg w21 hbox hb; have BK102 := Aside0.mk (hbox); have GW102 := Aside0.mk ((gsz hg : w.heap.size ≤ gb102)); have GE102 := Aside0.mk ((gsz hg : w.heap.size ≤ gb102)); replace HB := Aside0.mk (below_step bel hb); clear hb hbox hg; obtain ⟨hcz22_0, hcz22_1, hcz22_2, hcz22_3, hcz22_4, hcz22_5, hcz22_6, hfz22_0, hfz22_1, hfz22_2, hfz22_3, hfz22_4, hfz22_5, hfz22_6⟩ := cz7 BK102.out) | (go_at_call 46; (with_reducible refine (product_Check.calls k1 ((rd_T50 l0 x11_1).f0) ((rd_T50 l0 x11_1).f1) ((rd_T50 l0 x11_1).f2) ((rd_T50 l0 x11_1).f3) ((rd_T50 l0 x11_1).f4) ((rd_T50 l0 x11_1).f5) ((rd_T50 l0 x11_1).f6) t103 _ A6.out).mono ?_); rintro e w23 ⟨rfl, hb⟩; replace BK102 := Aside0.mk (blk_below (g := gb102) (o := .cells #[.string ((rd_T50 l0 x11_1).f0), .int .i64 ((rd_T50 l0 x11_1).f1), .int .i64 ((rd_T50 l0 x11_1).f2), .int .i64 ((rd_T50 l0 x11_1).f3), .int .i64 ((rd_T50 l0 x11_1).f4), .int .i64 ((rd_T50 l0 x11_1).f5), .bool ((rd_T50 l0 x11_1).f6)] 50 (0, 0)) (bs BK102.out) hb); replace HB := Aside0.mk (below_step bel hb); (try clear hb); (try clear hb2); (try clear hk); (try clear hi))))
                  go_roundg k1
                  case measure => have := HK1.out; omega
                  case rel => exact ⟨(wrap64 (x11_1 + 1)), eqs, H', ⟨hko⟩, ⟨bel⟩⟩
              · rw [if_neg c7] at H
                have c7b0 : (t103 == 0) = false := beq_eq_false_iff_ne.mpr c7
                have c7b1 : (t103 != 0) = true := bne_iff_ne.mpr c7
                obtain rfl := Option.some.inj H
                have p101 : 0 ≤ (x11_1 : Int) := dt
                have q101 : x11_1 < (l0.length : Int) := dt
                obtain ⟨ad101, e101, hx101_0, hx101_1, hx101_2, hx101_3, hx101_4, hx101_5, hx101_6⟩ := at_T50 HR0.out x11_1 p101 q101
                cases e101
                replace hx101_0 := (HB.out.cell (World.block_lt_of_cell? w _ hx101_0)).trans hx101_0
                replace hx101_1 := (HB.out.cell (World.block_lt_of_cell? w _ hx101_1)).trans hx101_1
                replace hx101_2 := (HB.out.cell (World.block_lt_of_cell? w _ hx101_2)).trans hx101_2
                replace hx101_3 := (HB.out.cell (World.block_lt_of_cell? w _ hx101_3)).trans hx101_3
                replace hx101_4 := (HB.out.cell (World.block_lt_of_cell? w _ hx101_4)).trans hx101_4
                replace hx101_5 := (HB.out.cell (World.block_lt_of_cell? w _ hx101_5)).trans hx101_5
                replace hx101_6 := (HB.out.cell (World.block_lt_of_cell? w _ hx101_6)).trans hx101_6
                replace p101 := eq_true p101
                replace q101 := eq_true q101
                go_wp2_with (first | ((with_reducible refine gate_dst (N := 4) rfl ?_); refine box_event ?hg (N := 4) ?hd (cs := #[.string (⟨#[]⟩ : ByteArray), .int .i64 0, .int .i64 0, .int .i64 0, .int .i64 0, .int .i64 0, .bool false]) (t := 50) ?hr ?_; (case hd => rfl); (case hg => rfl); (case hr => first | (go_simp; done) | (go_simp; rfl)); intro gb102 hg w24 hbox hb; have BK102 := Aside0.mk (hbox); have GW102 := Aside0.mk ((gsz hg : w.heap.size ≤ gb102)); have GE102 := Aside0.mk ((gsz hg : w.heap.size ≤ gb102)); replace HB := Aside0.mk (below_step bel hb); clear hb hbox hg; obtain ⟨hcz25_0, hcz25_1, hcz25_2, hcz25_3, hcz25_4, hcz25_5, hcz25_6, hfz25_0, hfz25_1, hfz25_2, hfz25_3, hfz25_4, hfz25_5, hfz25_6⟩ := cz7 BK102.out) | (go_at_call 46; (with_reducible refine (product_Check.calls k1 ((rd_T50 l0 x11_1).f0) ((rd_T50 l0 x11_1).f1) ((rd_T50 l0 x11_1).f2) ((rd_T50 l0 x11_1).f3) ((rd_T50 l0 x11_1).f4) ((rd_T50 l0 x11_1).f5) ((rd_T50 l0 x11_1).f6) t103 _ A6.out).mono ?_); rintro e w26 ⟨rfl, hb⟩; replace BK102 := Aside0.mk (blk_below (g := gb102) (o := .cells #[.string ((rd_T50 l0 x11_1).f0), .int .i64 ((rd_T50 l0 x11_1).f1), .int .i64 ((rd_T50 l0 x11_1).f2), .int .i64 ((rd_T50 l0 x11_1).f3), .int .i64 ((rd_T50 l0 x11_1).f4), .int .i64 ((rd_T50 l0 x11_1).f5), .bool ((rd_T50 l0 x11_1).f6)] 50 (0, 0)) (bs BK102.out) hb); replace HB := Aside0.mk (below_step bel hb); (try clear hb); (try clear hb2); (try clear hk); (try clear hi)))
                repeat (go_quiet (first | ((with_reducible refine gate_dst (N := 4) rfl ?_); refine box_event ?hg (N := 4) ?hd (cs := #[.string (⟨#[]⟩ : ByteArray), .int .i64 0, .int .i64 0, .int .i64 0, .int .i64 0, .int .i64 0, .bool false]) (t := 50) ?hr ?_; (case hd => rfl); (case hg => rfl); (case hr => first | (go_simp; done) | (go_simp; rfl)); intro gb102 hg w24 hbox hb; have BK102 := Aside0.mk (hbox); have GW102 := Aside0.mk ((gsz hg : w.heap.size ≤ gb102)); have GE102 := Aside0.mk ((gsz hg : w.heap.size ≤ gb102)); replace HB := Aside0.mk (below_step bel hb); clear hb hbox hg; obtain ⟨hcz25_0, hcz25_1, hcz25_2, hcz25_3, hcz25_4, hcz25_5, hcz25_6, hfz25_0, hfz25_1, hfz25_2, hfz25_3, hfz25_4, hfz25_5, hfz25_6⟩ := cz7 BK102.out) | (go_at_call 46; (with_reducible refine (product_Check.calls k1 ((rd_T50 l0 x11_1).f0) ((rd_T50 l0 x11_1).f1) ((rd_T50 l0 x11_1).f2) ((rd_T50 l0 x11_1).f3) ((rd_T50 l0 x11_1).f4) ((rd_T50 l0 x11_1).f5) ((rd_T50 l0 x11_1).f6) t103 _ A6.out).mono ?_); rintro e w26 ⟨rfl, hb⟩; replace BK102 := Aside0.mk (blk_below (g := gb102) (o := .cells #[.string ((rd_T50 l0 x11_1).f0), .int .i64 ((rd_T50 l0 x11_1).f1), .int .i64 ((rd_T50 l0 x11_1).f2), .int .i64 ((rd_T50 l0 x11_1).f3), .int .i64 ((rd_T50 l0 x11_1).f4), .int .i64 ((rd_T50 l0 x11_1).f5), .bool ((rd_T50 l0 x11_1).f6)] 50 (0, 0)) (bs BK102.out) hb); replace HB := Aside0.mk (below_step bel hb); (try clear hb); (try clear hb2); (try clear hk); (try clear hi))); try go_wp2_with (first | ((with_reducible refine gate_dst (N := 4) rfl ?_); refine box_event ?hg (N := 4) ?hd (cs := #[.string (⟨#[]⟩ : ByteArray), .int .i64 0, .int .i64 0, .int .i64 0, .int .i64 0, .int .i64 0, .bool false]) (t := 50) ?hr ?_; (case hd => rfl); (case hg => rfl); (case hr => first | (go_simp; done) | (go_simp; rfl)); intro gb102 hg w24 hbox hb; have BK102 := Aside0.mk (hbox); have GW102 := Aside0.mk ((gsz hg : w.heap.size ≤ gb102)); have GE102 := Aside0.mk ((gsz hg : w.heap.size ≤ gb102)); replace HB := Aside0.mk (below_step bel hb); clear hb hbox hg; obtain ⟨hcz25_0, hcz25_1, hcz25_2, hcz25_3, hcz25_4, hcz25_5, hcz25_6, hfz25_0, hfz25_1, hfz25_2, hfz25_3, hfz25_4, hfz25_5, hfz25_6⟩ := cz7 BK102.out) | (go_at_call 46; (with_reducible refine (product_Check.calls k1 ((rd_T50 l0 x11_1).f0) ((rd_T50 l0 x11_1).f1) ((rd_T50 l0 x11_1).f2) ((rd_T50 l0 x11_1).f3) ((rd_T50 l0 x11_1).f4) ((rd_T50 l0 x11_1).f5) ((rd_T50 l0 x11_1).f6) t103 _ A6.out).mono ?_); rintro e w26 ⟨rfl, hb⟩; replace BK102 := Aside0.mk (blk_below (g := gb102) (o := .cells #[.string ((rd_T50 l0 x11_1).f0), .int .i64 ((rd_T50 l0 x11_1).f1), .int .i64 ((rd_T50 l0 x11_1).f2), .int .i64 ((rd_T50 l0 x11_1).f3), .int .i64 ((rd_T50 l0 x11_1).f4), .int .i64 ((rd_T50 l0 x11_1).f5), .bool ((rd_T50 l0 x11_1).f6)] 50 (0, 0)) (bs BK102.out) hb); replace HB := Aside0.mk (below_step bel hb); (try clear hb); (try clear hb2); (try clear hk); (try clear hi))))
                go_ret
                exact ⟨ers, bel⟩
            · rw [if_neg c5] at H
              exact absurd H (by simp)
          · rw [if_neg c4] at H
            exact absurd H (by simp)
        · rw [if_neg c3] at H
          have c3b0 := decide_eq_false c3
          clear c3
          obtain rfl := Option.some.inj H
          go_wp2
          repeat (go_quiet (fail); try go_wp2)
          go_ret
          exact ⟨ers, bel⟩
mutual
def series_Check.j0 : Nat → Bool → ByteArray → Int → Int → Int → ByteArray → Int → Int → Int → Int → Int → Bool → Option (Int)
  | 0, _, _, _, _, _, _, _, _, _, _, _, _ => none
  | k + 1, x19, x102000, x102001, x102002, x102003, x112000, x112001, x112002, x112003, x112004, x112005, x112006 => if x19 = true then (some 19) else (if x102002 < 0 then (series_Check.j1 k true x102000 x102001 x102002 x102003 x112000 x112001 x112002 x112003 x112004 x112005 x112006) else (series_Check.j1 k (decide (x102002 > 73048)) x102000 x102001 x102002 x102003 x112000 x112001 x112002 x112003 x112004 x112005 x112006))
def series_Check.j1 : Nat → Bool → ByteArray → Int → Int → Int → ByteArray → Int → Int → Int → Int → Int → Bool → Option (Int)
  | 0, _, _, _, _, _, _, _, _, _, _, _, _ => none
  | k + 1, x32, x102000, x102001, x102002, x102003, x112000, x112001, x112002, x112003, x112004, x112005, x112006 => if x32 = true then (some 15) else (if x102001 = 1 then (series_Check.j2 k (x102003 != 0) x102000 x102001 x102002 x102003 x112000 x112001 x112002 x112003 x112004 x112005 x112006) else (series_Check.j2 k false x102000 x102001 x102002 x102003 x112000 x112001 x112002 x112003 x112004 x112005 x112006))
def series_Check.j2 : Nat → Bool → ByteArray → Int → Int → Int → ByteArray → Int → Int → Int → Int → Int → Bool → Option (Int)
  | 0, _, _, _, _, _, _, _, _, _, _, _, _ => none
  | k + 1, x41, x102000, x102001, x102002, x102003, x112000, x112001, x112002, x112003, x112004, x112005, x112006 => if x41 = true then (some 17) else (if x102001 = 1 then (some 0) else ((product_Price.f k x112000 x112001 x112002 x112003 x112004 x112005 x112006 x102003).bind fun t112 => (if t112 = 0 then (some 0) else (some 17))))
end
def series_Check.f (k : Nat) (l0 : List (S50)) (a1_0 : ByteArray) (a1_1 : Int) (a1_2 : Int) (a1_3 : Int) : Option (Int) := (product_CheckAll.f k l0).bind fun t102 => (if t102 = 0 then ((product_Find.f l0 a1_0).bind fun bt103 => (if bt103.2.2.2.2.2.2.2 = true then (if a1_1 < 1 then (series_Check.j0 k true a1_0 a1_1 a1_2 a1_3 bt103.1 bt103.2.1 bt103.2.2.1 bt103.2.2.2.1 bt103.2.2.2.2.1 bt103.2.2.2.2.2.1 bt103.2.2.2.2.2.2.1) else (series_Check.j0 k (decide (a1_1 > 3)) a1_0 a1_1 a1_2 a1_3 bt103.1 bt103.2.1 bt103.2.2.1 bt103.2.2.2.1 bt103.2.2.2.2.1 bt103.2.2.2.2.2.1 bt103.2.2.2.2.2.2.1)) else (series_Check.j0 k true a1_0 a1_1 a1_2 a1_3 bt103.1 bt103.2.1 bt103.2.2.1 bt103.2.2.2.1 bt103.2.2.2.2.1 bt103.2.2.2.2.2.1 bt103.2.2.2.2.2.2.1))) else (some t102))
set_option maxHeartbeats 8000000 in
set_option maxRecDepth 100000 in
theorem series_Check.calls (k : Nat) (A0 : Option Addr) (c0 : Nat) (l0 : List (S50)) (a1_0 : ByteArray) (a1_1 : Int) (a1_2 : Int) (a1_3 : Int) (r : Int) (w : World) (hr0 : Kd.C k50 w A0 l0.length l0) (hc0 : l0.length ≤ c0) (h : series_Check.f k l0 a1_0 a1_1 a1_2 a1_3 = some r) :
    Calls Tryz.prog 24 #[.slice A0 l0.length c0, .agg #[.string a1_0, .int .i64 a1_1, .int .i64 a1_2, .int .i64 a1_3]] w fun e w' => e = .returned (.int .i64 r) ∧ Below w.heap.size w w' := by
  have hu26 := Tryz.underlying26
  have hu50 := Tryz.underlying50
  have HR0 := Aside0.mk hr0
  have HC0 := Aside0.mk hc0
  clear hr0 hc0
  have HB := Aside0.mk (Below.refl w.heap.size w)
  have H : ((product_CheckAll.f k l0).bind fun t102 => (if t102 = 0 then ((product_Find.f l0 a1_0).bind fun bt103 => (if bt103.2.2.2.2.2.2.2 = true then (if a1_1 < 1 then (series_Check.j0 k true a1_0 a1_1 a1_2 a1_3 bt103.1 bt103.2.1 bt103.2.2.1 bt103.2.2.2.1 bt103.2.2.2.2.1 bt103.2.2.2.2.2.1 bt103.2.2.2.2.2.2.1) else (series_Check.j0 k (decide (a1_1 > 3)) a1_0 a1_1 a1_2 a1_3 bt103.1 bt103.2.1 bt103.2.2.1 bt103.2.2.2.1 bt103.2.2.2.2.1 bt103.2.2.2.2.2.1 bt103.2.2.2.2.2.2.1)) else (series_Check.j0 k true a1_0 a1_1 a1_2 a1_3 bt103.1 bt103.2.1 bt103.2.2.1 bt103.2.2.2.1 bt103.2.2.2.2.1 bt103.2.2.2.2.2.1 bt103.2.2.2.2.2.2.1))) else (some t102))) = some r := h
  clear h
  replace H := bnd H
  obtain ⟨t102, A30, H⟩ := H
  have A3 := Aside0.mk A30
  clear A30
  by_cases c4 : t102 = 0
  · rw [if_pos c4] at H
    have c4b0 : (t102 == 0) = true := beq_iff_eq.mpr c4
    have c4b1 : (t102 != 0) = false := bne_eq_false_iff_eq.mpr c4
    clear c4
    replace H := bnd H
    obtain ⟨⟨t103, t104, t105, t106, t107, t108, t109, t110⟩, A50, H⟩ := H
    replace H : (if t110 = true then (if a1_1 < 1 then (series_Check.j0 k true a1_0 a1_1 a1_2 a1_3 t103 t104 t105 t106 t107 t108 t109) else (series_Check.j0 k (decide (a1_1 > 3)) a1_0 a1_1 a1_2 a1_3 t103 t104 t105 t106 t107 t108 t109)) else (series_Check.j0 k true a1_0 a1_1 a1_2 a1_3 t103 t104 t105 t106 t107 t108 t109)) = some r := H
    have A5 := Aside0.mk A50
    clear A50
    have HC6 := Aside0.mk H
    clear H
    go_enter Tryz.func24, Tryz.ntmps24
    go_upto_region 5 with (first | ((with_reducible refine gate_dst (N := 3) rfl ?_); refine box_event ?hg (N := 3) ?hd (cs := #[.string a1_0, .int .i64 a1_1, .int .i64 a1_2, .int .i64 a1_3]) (t := 26) ?hr ?_; (case hd => rfl); (case hg => rfl); (case hr => first | (go_simp; done) | (go_simp; rfl)); intro gb101 hg w7 hbox hb; have BK101 := Aside0.mk (hbox); have GW101 := Aside0.mk ((gsz hg : w.heap.size ≤ gb101)); have GE101 := Aside0.mk ((gsz hg : w.heap.size ≤ gb101)); replace HB := Aside0.mk (below_step bel hb); clear hb hbox hg) | ((with_reducible refine gate_callee (f := 55) rfl ?_); refine goesL_ (some 8) rfl rfl Tryz.func55 (by kernel_rfl) rfl #[.slice A0 l0.length c0] rfl arg ?_; (with_reducible refine (product_CheckAll.calls k _ _ l0 t102 _ ?side1 ?side2 A3.out).mono ?_); (case side1 => repeat (first | exact (Kd.C_below HR0.out HB.out) | (with_reducible refine Kd.C_alloc ?_ _) | (with_reducible refine Kd.C_drewN ?_ _) | (with_reducible refine Kd.C_drew ?_))); (case side2 => exact HC0.out); rintro e w8 ⟨rfl, hb⟩; refine ⟨_, rfl, ?_⟩; replace BK101 := Aside0.mk (blk_below (g := gb101) (bw BK101.out) hb); replace HB := Aside0.mk (below_step bel hb); (try clear hb); (try clear hb2); (try clear hk); (try clear hi); obtain ⟨hcz9_0, hcz9_1, hcz9_2, hcz9_3, hfz9_0, hfz9_1, hfz9_2, hfz9_3⟩ := cz4 BK101.out) | ((with_reducible refine gate_callee (f := 13) rfl ?_); refine goesL_ (some 16) rfl rfl Tryz.func13 (by kernel_rfl) rfl #[.slice A0 l0.length c0, .string a1_0] rfl arg ?_; (with_reducible refine (product_Find.calls _ _ l0 a1_0 t103 t104 t105 t106 t107 t108 t109 t110 _ ?side1 ?side2 A5.out).mono ?_); (case side1 => repeat (first | exact (Kd.C_below HR0.out HB.out) | (with_reducible refine Kd.C_alloc ?_ _) | (with_reducible refine Kd.C_drewN ?_ _) | (with_reducible refine Kd.C_drew ?_))); (case side2 => exact HC0.out); rintro e w10 ⟨rfl, hb⟩; refine ⟨_, rfl, ?_⟩; replace BK101 := Aside0.mk (blk_below (g := gb101) (bw BK101.out) hb); replace HB := Aside0.mk (below_step bel hb); (try clear hb); (try clear hb2); (try clear hk); (try clear hi)) | ((with_reducible refine gate_dst (N := 5) rfl ?_); refine box_event ?hg (N := 5) ?hd (cs := #[.string (⟨#[]⟩ : ByteArray), .int .i64 0, .int .i64 0, .int .i64 0, .int .i64 0, .int .i64 0, .bool false]) (t := 50) ?hr ?_; (case hd => rfl); (case hg => rfl); (case hr => first | (go_simp; done) | (go_simp; rfl)); intro gb111 hg w11 hbox hb; have BK111 := Aside0.mk (hbox); have GW111 := Aside0.mk ((gsz hg : w.heap.size ≤ gb111)); have GE111 := Aside0.mk ((gsz hg : w.heap.size ≤ gb111)); have NB101_111 := Aside0.mk ((nlt hg (bw BK101.out) : gb101 ≠ gb111)); have NB111_101 := Aside0.mk ((ngt hg (bw BK101.out) : gb111 ≠ gb101)); replace BK101 := Aside0.mk (blk_below (g := gb101) (bw BK101.out) hb); replace HB := Aside0.mk (below_step bel hb); clear hb hbox hg; have hnb12 := NB111_101.out; have hnc12 := NB101_111.out; obtain ⟨hcz13_0, hcz13_1, hcz13_2, hcz13_3, hcz13_4, hcz13_5, hcz13_6, hfz13_0, hfz13_1, hfz13_2, hfz13_3, hfz13_4, hfz13_5, hfz13_6⟩ := cz7 BK111.out))
    (try simp only [Act.put, List.setIfInBounds_toArray, List.set_cons_zero, List.set_cons_succ])
    go_cut [19] (fun v19 wc => ∃ (kq : Nat) (x19_5 : Bool), v19 = .bool x19_5 ∧ Aside0 (series_Check.j0 kq x19_5 a1_0 a1_1 a1_2 a1_3 t103 t104 t105 t106 t107 t108 t109 = some r) ∧ Aside0 (kq ≤ k) ∧ Aside0 (wc.heap[gb101]? = some (.cells #[.string a1_0, .int .i64 a1_1, .int .i64 a1_2, .int .i64 a1_3] 26 (0, 0))) ∧ Aside0 (wc.heap[gb111]? = some (.cells #[.string t103, .int .i64 t104, .int .i64 t105, .int .i64 t106, .int .i64 t107, .int .i64 t108, .bool t109] 50 (0, 0))) ∧ Aside0 (Below w.heap.size w wc))
    case first =>
      have H := HC6.out
      clear HC6
      by_cases c14 : t110 = true
      · subst c14
        rw [if_pos rfl] at H
        by_cases c15 : a1_1 < 1
        · rw [if_pos c15] at H
          have c15b0 := decide_eq_true c15
          clear c15
          (first | rw [c15b0] | (simp only [i64_w, i32_w]; rw [c15b0]) | skip)
          have H' := Aside0.mk H
          clear H
          have hnb16 := NB101_111.out
          have hnc16 := NB111_101.out
          obtain ⟨hcz17_0, hcz17_1, hcz17_2, hcz17_3, hfz17_0, hfz17_1, hfz17_2, hfz17_3⟩ := cz4 BK101.out
          go_wp2
          go_meet
          case rel => exact ⟨_, (true), eqs, H', ⟨by first | omega | exact Nat.le_refl _⟩, ⟨bs BK101.out⟩, ⟨bs BK111.out⟩, ⟨bel⟩⟩
        · rw [if_neg c15] at H
          have c15b0 := decide_eq_false c15
          clear c15
          (first | rw [c15b0] | (simp only [i64_w, i32_w]; rw [c15b0]) | skip)
          have H' := Aside0.mk H
          clear H
          have hnb18 := NB101_111.out
          have hnc18 := NB111_101.out
          obtain ⟨hcz19_0, hcz19_1, hcz19_2, hcz19_3, hfz19_0, hfz19_1, hfz19_2, hfz19_3⟩ := cz4 BK101.out
          go_wp2
          go_meet
          case rel => exact ⟨_, (decide (a1_1 > 3)), eqs, H', ⟨by first | omega | exact Nat.le_refl _⟩, ⟨bs BK101.out⟩, ⟨bs BK111.out⟩, ⟨bel⟩⟩
      · replace c14 := Bool.eq_false_iff.mpr c14
        subst c14
        rw [if_neg (show ¬ (false = true) by decide)] at H
        have H' := Aside0.mk H
        clear H
        go_wp2
        go_meet
        case rel => exact ⟨_, (true), eqs, H', ⟨by first | omega | exact Nat.le_refl _⟩, ⟨bs BK101.out⟩, ⟨bs BK111.out⟩, ⟨bel⟩⟩
    case rest =>
      clear HC6
      try clear c1
      try clear c2
      try clear p2
      try clear c4
      try clear c4b0
      try clear c4b1
      try clear c5
      try clear c12
      try clear c13
      try clear c14
      try clear c15
      try clear c15b0
      try clear c16
      try clear c18
      try clear hcz13_0 hcz13_1 hcz13_2 hcz13_3 hcz13_4 hcz13_5 hcz13_6
      try clear hcz17_0 hcz17_1 hcz17_2 hcz17_3
      try clear hcz19_0 hcz19_1 hcz19_2 hcz19_3
      try clear hcz9_0 hcz9_1 hcz9_2 hcz9_3
      try clear hfz13_0 hfz13_1 hfz13_2 hfz13_3 hfz13_4 hfz13_5 hfz13_6
      try clear hfz17_0 hfz17_1 hfz17_2 hfz17_3
      try clear hfz19_0 hfz19_1 hfz19_2 hfz19_3
      try clear hfz9_0 hfz9_1 hfz9_2 hfz9_3
      obtain ⟨kq, x19_5, rfl, HA, HJ5, BK101, BK111, HB⟩ := hcut
      cases kq with
      | zero => exact absurd HA.out (by simp [series_Check.j0])
      | succ kj5 =>
        have H := HA.out
        clear HA
        simp only [series_Check.j0] at H
        by_cases c20 : x19_5 = true
        · subst c20
          rw [if_pos rfl] at H
          obtain rfl := Option.some.inj H
          go_wp2
          go_ret
          exact ⟨ers, bel⟩
        · replace c20 := Bool.eq_false_iff.mpr c20
          subst c20
          rw [if_neg (show ¬ (false = true) by decide)] at H
          have HC21 := Aside0.mk H
          clear H
          go_upto_region 7 with (fail)
          go_cut [32] (fun v32 wc => ∃ (kq : Nat) (x32_20 : Bool), v32 = .bool x32_20 ∧ Aside0 (series_Check.j1 kq x32_20 a1_0 a1_1 a1_2 a1_3 t103 t104 t105 t106 t107 t108 t109 = some r) ∧ Aside0 (kq ≤ kj5) ∧ Aside0 (wc.heap[gb101]? = some (.cells #[.string a1_0, .int .i64 a1_1, .int .i64 a1_2, .int .i64 a1_3] 26 (0, 0))) ∧ Aside0 (wc.heap[gb111]? = some (.cells #[.string t103, .int .i64 t104, .int .i64 t105, .int .i64 t106, .int .i64 t107, .int .i64 t108, .bool t109] 50 (0, 0))) ∧ Aside0 (Below w.heap.size w wc))
          case first =>
            have H := HC21.out
            clear HC21
            by_cases c22 : a1_2 < 0
            · rw [if_pos c22] at H
              have c22b0 := decide_eq_true c22
              clear c22
              (first | rw [c22b0] | (simp only [i64_w, i32_w]; rw [c22b0]) | skip)
              have H' := Aside0.mk H
              clear H
              have hnb23 := NB101_111.out
              have hnc23 := NB111_101.out
              obtain ⟨hcz24_0, hcz24_1, hcz24_2, hcz24_3, hfz24_0, hfz24_1, hfz24_2, hfz24_3⟩ := cz4 BK101.out
              go_wp2
              go_meet
              case rel => exact ⟨_, (true), eqs, H', ⟨by have := HJ5.out; first | omega | exact Nat.le_refl _⟩, ⟨bw BK101.out⟩, ⟨bw BK111.out⟩, ⟨bel⟩⟩
            · rw [if_neg c22] at H
              have c22b0 := decide_eq_false c22
              clear c22
              (first | rw [c22b0] | (simp only [i64_w, i32_w]; rw [c22b0]) | skip)
              have H' := Aside0.mk H
              clear H
              have hnb25 := NB101_111.out
              have hnc25 := NB111_101.out
              obtain ⟨hcz26_0, hcz26_1, hcz26_2, hcz26_3, hfz26_0, hfz26_1, hfz26_2, hfz26_3⟩ := cz4 BK101.out
              go_wp2
              go_meet
              case rel => exact ⟨_, (decide (a1_2 > 73048)), eqs, H', ⟨by have := HJ5.out; first | omega | exact Nat.le_refl _⟩, ⟨bw BK101.out⟩, ⟨bw BK111.out⟩, ⟨bel⟩⟩
          case rest =>
            clear HC21
            try clear c1
            try clear c2
            try clear p2
            try clear c4
            try clear c4b0
            try clear c4b1
            try clear c5
            try clear c12
            try clear c13
            try clear c14
            try clear c15
            try clear c15b0
            try clear c16
            try clear c18
            try clear c20
            try clear c22
            try clear c22b0
            try clear c23
            try clear c24
            try clear c25
            try clear hcz13_0 hcz13_1 hcz13_2 hcz13_3 hcz13_4 hcz13_5 hcz13_6
            try clear hcz17_0 hcz17_1 hcz17_2 hcz17_3
            try clear hcz19_0 hcz19_1 hcz19_2 hcz19_3
            try clear hcz24_0 hcz24_1 hcz24_2 hcz24_3
            try clear hcz26_0 hcz26_1 hcz26_2 hcz26_3
            try clear hcz9_0 hcz9_1 hcz9_2 hcz9_3
            try clear hfz13_0 hfz13_1 hfz13_2 hfz13_3 hfz13_4 hfz13_5 hfz13_6
            try clear hfz17_0 hfz17_1 hfz17_2 hfz17_3
            try clear hfz19_0 hfz19_1 hfz19_2 hfz19_3
            try clear hfz24_0 hfz24_1 hfz24_2 hfz24_3
            try clear hfz26_0 hfz26_1 hfz26_2 hfz26_3
            try clear hfz9_0 hfz9_1 hfz9_2 hfz9_3
            try clear p2
            obtain ⟨kq, x32_20, rfl, HA, HJ20, BK101, BK111, HB⟩ := hcut
            cases kq with
            | zero => exact absurd HA.out (by simp [series_Check.j1])
            | succ kj20 =>
              have H := HA.out
              clear HA
              simp only [series_Check.j1] at H
              by_cases c27 : x32_20 = true
              · subst c27
                rw [if_pos rfl] at H
                obtain rfl := Option.some.inj H
                go_wp2
                go_ret
                exact ⟨ers, bel⟩
              · replace c27 := Bool.eq_false_iff.mpr c27
                subst c27
                rw [if_neg (show ¬ (false = true) by decide)] at H
                have HC28 := Aside0.mk H
                clear H
                go_upto_region 9 with (fail)
                go_cut [41] (fun v41 wc => ∃ (kq : Nat) (x41_27 : Bool), v41 = .bool x41_27 ∧ Aside0 (series_Check.j2 kq x41_27 a1_0 a1_1 a1_2 a1_3 t103 t104 t105 t106 t107 t108 t109 = some r) ∧ Aside0 (kq ≤ kj20) ∧ Aside0 (wc.heap[gb101]? = some (.cells #[.string a1_0, .int .i64 a1_1, .int .i64 a1_2, .int .i64 a1_3] 26 (0, 0))) ∧ Aside0 (wc.heap[gb111]? = some (.cells #[.string t103, .int .i64 t104, .int .i64 t105, .int .i64 t106, .int .i64 t107, .int .i64 t108, .bool t109] 50 (0, 0))) ∧ Aside0 (Below w.heap.size w wc))
                case first =>
                  have H := HC28.out
                  clear HC28
                  by_cases c29 : a1_1 = 1
                  · rw [if_pos c29] at H
                    have c29b0 : (a1_1 == 1) = true := beq_iff_eq.mpr c29
                    have c29b1 : (a1_1 != 1) = false := bne_eq_false_iff_eq.mpr c29
                    clear c29
                    (first | rw [c29b0] | (simp only [i64_w, i32_w]; rw [c29b0]) | skip)
                    have H' := Aside0.mk H
                    clear H
                    have hnb30 := NB101_111.out
                    have hnc30 := NB111_101.out
                    obtain ⟨hcz31_0, hcz31_1, hcz31_2, hcz31_3, hfz31_0, hfz31_1, hfz31_2, hfz31_3⟩ := cz4 BK101.out
                    go_wp2
                    go_meet
                    case rel => exact ⟨_, ((a1_3 != 0)), eqs, H', ⟨by have := HJ5.out; have := HJ20.out; first | omega | exact Nat.le_refl _⟩, ⟨bw BK101.out⟩, ⟨bw BK111.out⟩, ⟨bel⟩⟩
                  · rw [if_neg c29] at H
                    have c29b0 : (a1_1 == 1) = false := beq_eq_false_iff_ne.mpr c29
                    have c29b1 : (a1_1 != 1) = true := bne_iff_ne.mpr c29
                    (first | rw [c29b0] | (simp only [i64_w, i32_w]; rw [c29b0]) | skip)
                    have H' := Aside0.mk H
                    clear H
                    have hnb32 := NB101_111.out
                    have hnc32 := NB111_101.out
                    obtain ⟨hcz33_0, hcz33_1, hcz33_2, hcz33_3, hfz33_0, hfz33_1, hfz33_2, hfz33_3⟩ := cz4 BK101.out
                    go_wp2
                    go_meet
                    case rel => exact ⟨_, (false), eqs, H', ⟨by have := HJ5.out; have := HJ20.out; first | omega | exact Nat.le_refl _⟩, ⟨bw BK101.out⟩, ⟨bw BK111.out⟩, ⟨bel⟩⟩
                case rest =>
                  clear HC28
                  try clear c1
                  try clear c2
                  try clear p2
                  try clear c3
                  try clear c4
                  try clear c4b0
                  try clear c4b1
                  try clear c5
                  try clear c12
                  try clear c13
                  try clear c14
                  try clear c15
                  try clear c15b0
                  try clear c16
                  try clear c18
                  try clear c20
                  try clear c22
                  try clear c22b0
                  try clear c23
                  try clear c24
                  try clear c25
                  try clear c27
                  try clear c29
                  try clear c29b0
                  try clear c29b1
                  try clear c30
                  try clear c32
                  try clear hcz13_0 hcz13_1 hcz13_2 hcz13_3 hcz13_4 hcz13_5 hcz13_6
                  try clear hcz17_0 hcz17_1 hcz17_2 hcz17_3
                  try clear hcz19_0 hcz19_1 hcz19_2 hcz19_3
                  try clear hcz24_0 hcz24_1 hcz24_2 hcz24_3
                  try clear hcz26_0 hcz26_1 hcz26_2 hcz26_3
                  try clear hcz31_0 hcz31_1 hcz31_2 hcz31_3
                  try clear hcz33_0 hcz33_1 hcz33_2 hcz33_3
                  try clear hcz9_0 hcz9_1 hcz9_2 hcz9_3
                  try clear hfz13_0 hfz13_1 hfz13_2 hfz13_3 hfz13_4 hfz13_5 hfz13_6
                  try clear hfz17_0 hfz17_1 hfz17_2 hfz17_3
                  try clear hfz19_0 hfz19_1 hfz19_2 hfz19_3
                  try clear hfz24_0 hfz24_1 hfz24_2 hfz24_3
                  try clear hfz26_0 hfz26_1 hfz26_2 hfz26_3
                  try clear hfz31_0 hfz31_1 hfz31_2 hfz31_3
                  try clear hfz33_0 hfz33_1 hfz33_2 hfz33_3
                  try clear hfz9_0 hfz9_1 hfz9_2 hfz9_3
                  try clear p2
                  obtain ⟨kq, x41_27, rfl, HA, HJ27, BK101, BK111, HB⟩ := hcut
                  cases kq with
                  | zero => exact absurd HA.out (by simp [series_Check.j2])
                  | succ kj27 =>
                    have H := HA.out
                    clear HA
                    simp only [series_Check.j2] at H
                    by_cases c34 : x41_27 = true
                    · subst c34
                      rw [if_pos rfl] at H
                      obtain rfl := Option.some.inj H
                      go_wp2
                      go_ret
                      exact ⟨ers, bel⟩
                    · replace c34 := Bool.eq_false_iff.mpr c34
                      subst c34
                      rw [if_neg (show ¬ (false = true) by decide)] at H
                      by_cases c35 : a1_1 = 1
                      · rw [if_pos c35] at H
                        have c35b0 : (a1_1 == 1) = true := beq_iff_eq.mpr c35
                        have c35b1 : (a1_1 != 1) = false := bne_eq_false_iff_eq.mpr c35
                        clear c35
                        obtain rfl := Option.some.inj H
                        have hnb36 := NB101_111.out
                        have hnc36 := NB111_101.out
                        obtain ⟨hcz37_0, hcz37_1, hcz37_2, hcz37_3, hfz37_0, hfz37_1, hfz37_2, hfz37_3⟩ := cz4 BK101.out
                        go_wp2
                        go_ret
                        exact ⟨ers, bel⟩
                      · rw [if_neg c35] at H
                        have c35b0 : (a1_1 == 1) = false := beq_eq_false_iff_ne.mpr c35
                        have c35b1 : (a1_1 != 1) = true := bne_iff_ne.mpr c35
                        replace H := bnd H
                        obtain ⟨t112, A380, H⟩ := H
                        have A38 := Aside0.mk A380
                        clear A380
                        by_cases c39 : t112 = 0
                        · rw [if_pos c39] at H
                          have c39b0 : (t112 == 0) = true := beq_iff_eq.mpr c39
                          have c39b1 : (t112 != 0) = false := bne_eq_false_iff_eq.mpr c39
                          clear c39
                          obtain rfl := Option.some.inj H
                          have hnb40 := NB101_111.out
                          have hnc40 := NB111_101.out
                          obtain ⟨hcz41_0, hcz41_1, hcz41_2, hcz41_3, hfz41_0, hfz41_1, hfz41_2, hfz41_3⟩ := cz4 BK101.out
                          obtain ⟨hcz42_0, hcz42_1, hcz42_2, hcz42_3, hcz42_4, hcz42_5, hcz42_6, hfz42_0, hfz42_1, hfz42_2, hfz42_3, hfz42_4, hfz42_5, hfz42_6⟩ := cz7 BK111.out
                          go_wp2_with (first | (go_at_call 25; (with_reducible refine (product_Price.calls kj27 t103 t104 t105 t106 t107 t108 t109 a1_3 t112 _ A38.out).mono ?_); rintro e w43 ⟨rfl, hb⟩; replace BK101 := Aside0.mk (blk_below (g := gb101) (bw BK101.out) hb); replace BK111 := Aside0.mk (blk_below (g := gb111) (bw BK111.out) hb); replace HB := Aside0.mk (below_step bel hb); (try clear hb); (try clear hb2); (try clear hk); (try clear hi)))
                          go_ret
                          exact ⟨ers, bel⟩
                        · rw [if_neg c39] at H
                          have c39b0 : (t112 == 0) = false := beq_eq_false_iff_ne.mpr c39
                          have c39b1 : (t112 != 0) = true := bne_iff_ne.mpr c39
                          obtain rfl := Option.some.inj H
                          have hnb44 := NB101_111.out
                          have hnc44 := NB111_101.out
                          obtain ⟨hcz45_0, hcz45_1, hcz45_2, hcz45_3, hfz45_0, hfz45_1, hfz45_2, hfz45_3⟩ := cz4 BK101.out
                          obtain ⟨hcz46_0, hcz46_1, hcz46_2, hcz46_3, hcz46_4, hcz46_5, hcz46_6, hfz46_0, hfz46_1, hfz46_2, hfz46_3, hfz46_4, hfz46_5, hfz46_6⟩ := cz7 BK111.out
                          go_wp2_with (first | (go_at_call 25; (with_reducible refine (product_Price.calls kj27 t103 t104 t105 t106 t107 t108 t109 a1_3 t112 _ A38.out).mono ?_); rintro e w47 ⟨rfl, hb⟩; replace BK101 := Aside0.mk (blk_below (g := gb101) (bw BK101.out) hb); replace BK111 := Aside0.mk (blk_below (g := gb111) (bw BK111.out) hb); replace HB := Aside0.mk (below_step bel hb); (try clear hb); (try clear hb2); (try clear hk); (try clear hi)))
                          go_ret
                          exact ⟨ers, bel⟩
  · rw [if_neg c4] at H
    have c4b0 : (t102 == 0) = false := beq_eq_false_iff_ne.mpr c4
    have c4b1 : (t102 != 0) = true := bne_iff_ne.mpr c4
    obtain rfl := Option.some.inj H
    go_enter Tryz.func24, Tryz.ntmps24
    go_wp2_with (first | ((with_reducible refine gate_dst (N := 3) rfl ?_); refine box_event ?hg (N := 3) ?hd (cs := #[.string a1_0, .int .i64 a1_1, .int .i64 a1_2, .int .i64 a1_3]) (t := 26) ?hr ?_; (case hd => rfl); (case hg => rfl); (case hr => first | (go_simp; done) | (go_simp; rfl)); intro gb101 hg w48 hbox hb; have BK101 := Aside0.mk (hbox); have GW101 := Aside0.mk ((gsz hg : w.heap.size ≤ gb101)); have GE101 := Aside0.mk ((gsz hg : w.heap.size ≤ gb101)); replace HB := Aside0.mk (below_step bel hb); clear hb hbox hg) | ((with_reducible refine gate_callee (f := 55) rfl ?_); refine goesL_ (some 8) rfl rfl Tryz.func55 (by kernel_rfl) rfl #[.slice A0 l0.length c0] rfl arg ?_; (with_reducible refine (product_CheckAll.calls k _ _ l0 t102 _ ?side1 ?side2 A3.out).mono ?_); (case side1 => repeat (first | exact (Kd.C_below HR0.out HB.out) | (with_reducible refine Kd.C_alloc ?_ _) | (with_reducible refine Kd.C_drewN ?_ _) | (with_reducible refine Kd.C_drew ?_))); (case side2 => exact HC0.out); rintro e w49 ⟨rfl, hb⟩; refine ⟨_, rfl, ?_⟩; replace BK101 := Aside0.mk (blk_below (g := gb101) (bw BK101.out) hb); replace HB := Aside0.mk (below_step bel hb); (try clear hb); (try clear hb2); (try clear hk); (try clear hi)))
    go_ret
    exact ⟨ers, bel⟩
theorem eqA28 (d : Nat) (w : World) (x0 y0 : ByteArray) (x1 y1 : ByteArray) :
    (Op.equalIn (d + 2) 28 (.agg #[.string x0, .string x1]) (.agg #[.string y0, .string y1])).run Tryz.prog w = .ok (x0.toList == y0.toList && (x1.toList == y1.toList)) w := by
  refine eqA_of Tryz.underlying28 (by kernel_rfl) ?_
  refine eqf_cons (by rfl) (by go_simp; rfl) (by go_simp; rfl) (by go_simp) ?_
  exact eqf_last (by rfl) (by go_simp; rfl) (by go_simp; rfl) (by go_simp)
end Go.Proofs.YtliooghmpkdmoaaGreatDoor.X
end
section
namespace Go.Proofs.YtliooghmpkdmoaaGreatDoor.X
open Go.RowKit Go.Proofs.YtliooghmpkdmoaaGreatDoorW.PrintWords Go.Proofs.YtliooghmpkdmoaaGreatDoorW.PrintLast Go.Proofs.YtliooghmpkdmoaaGreatDoorW.PrintMore
attribute [local go_sem] max2_int min2_int max_two min_two max_three min_three max_four min_four
set_option linter.unusedVariables false
set_option linter.unusedSimpArgs false
attribute [local go_sem high] eqA28
mutual
def trade_Check.j0 : Nat → List (S50) → List (S107) → Bool → Int → Int → Int → ByteArray → Int → Int → Int → Int → Int → ByteArray → ByteArray → ByteArray → ByteArray → Option (Int)
  | 0, _, _, _, _, _, _, _, _, _, _, _, _, _, _, _, _ => none
  | k + 1, x1, x2, x22, x102000, x102001, x102002, x102003, x102004, x102005, x102006, x102007, x102008, x102009, x102010, x102011, x102012 => if x22 = true then (some 15) else (if x102000 < 1 then (trade_Check.j1 k x1 x2 true x102000 x102001 x102002 x102003 x102004 x102005 x102006 x102007 x102008 x102009 x102010 x102011 x102012) else (if x102000 > 1152921504606846976 then (trade_Check.j1 k x1 x2 true x102000 x102001 x102002 x102003 x102004 x102005 x102006 x102007 x102008 x102009 x102010 x102011 x102012) else (if x102002 < 0 then (trade_Check.j1 k x1 x2 true x102000 x102001 x102002 x102003 x102004 x102005 x102006 x102007 x102008 x102009 x102010 x102011 x102012) else (trade_Check.j1 k x1 x2 (decide (x102002 > 86399)) x102000 x102001 x102002 x102003 x102004 x102005 x102006 x102007 x102008 x102009 x102010 x102011 x102012))))
def trade_Check.j1 : Nat → List (S50) → List (S107) → Bool → Int → Int → Int → ByteArray → Int → Int → Int → Int → Int → ByteArray → ByteArray → ByteArray → ByteArray → Option (Int)
  | 0, _, _, _, _, _, _, _, _, _, _, _, _, _, _, _, _ => none
  | k + 1, x1, x2, x39, x102000, x102001, x102002, x102003, x102004, x102005, x102006, x102007, x102008, x102009, x102010, x102011, x102012 => if x39 = true then (some 2) else (if x102007 < 1 then (some 18) else (if x102007 > 1048576 then (some 18) else ((product_Find.f x1 x102003).bind fun bt104 => ((product_Price.f k bt104.1 bt104.2.1 bt104.2.2.1 bt104.2.2.2.1 bt104.2.2.2.2.1 bt104.2.2.2.2.2.1 bt104.2.2.2.2.2.2.1 x102008).bind fun t113 => (if t113 = 0 then ((member_Check.f k x2).bind fun t114 => (if t114 = 0 then ((some (([(⟨x102009, x102010⟩ : S28), (⟨x102011, x102012⟩ : S28)] : List (S28)) : List (S28))).bind fun y115 => (trade_Check.l0 k x2 y115 (y115.length : Int) 0 x102000 x102001 x102002 x102003 x102004 x102005 x102006 x102007 x102008 x102009 x102010 x102011 x102012)) else (some t114))) else (some t113))))))
def trade_Check.l0 : Nat → List (S107) → List (S28) → Int → Int → Int → Int → Int → ByteArray → Int → Int → Int → Int → Int → ByteArray → ByteArray → ByteArray → ByteArray → Option (Int)
  | 0, _, _, _, _, _, _, _, _, _, _, _, _, _, _, _, _, _ => none
  | k + 1, x2, x91, x92, x93, x102000, x102001, x102002, x102003, x102004, x102005, x102006, x102007, x102008, x102009, x102010, x102011, x102012 => if x93 < x92 then (if 0 ≤ x93 then (if x93 < (x91.length : Int) then ((member_May.f k x2 ((rd_T28 x91 x93).f0) ((rd_T28 x91 x93).f1) 1).bind fun t120 => (if t120 = 0 then (trade_Check.l0 k x2 x91 x92 (wrap64 (x93 + 1)) x102000 x102001 x102002 x102003 x102004 x102005 x102006 x102007 x102008 x102009 x102010 x102011 x102012) else (some t120))) else (none)) else (none)) else (if (x102009.toList == x102011.toList && (x102010.toList == x102012.toList)) = true then (some 21) else (some 0))
end
def trade_Check.f (k : Nat) (a0_0 : Int) (a0_1 : Int) (a0_2 : Int) (a0_3 : ByteArray) (a0_4 : Int) (a0_5 : Int) (a0_6 : Int) (a0_7 : Int) (a0_8 : Int) (a0_9 : ByteArray) (a0_10 : ByteArray) (a0_11 : ByteArray) (a0_12 : ByteArray) (l1 : List (S50)) (l2 : List (S107)) : Option (Int) := (series_Check.f k l1 a0_3 a0_4 a0_5 a0_6).bind fun t102 => (if t102 = 0 then (if a0_1 < 0 then (trade_Check.j0 k l1 l2 true a0_0 a0_1 a0_2 a0_3 a0_4 a0_5 a0_6 a0_7 a0_8 a0_9 a0_10 a0_11 a0_12) else (if a0_1 > 73048 then (trade_Check.j0 k l1 l2 true a0_0 a0_1 a0_2 a0_3 a0_4 a0_5 a0_6 a0_7 a0_8 a0_9 a0_10 a0_11 a0_12) else ((series_Live.f a0_3 a0_4 a0_5 a0_6 a0_1).bind fun t103 => (trade_Check.j0 k l1 l2 (!t103) a0_0 a0_1 a0_2 a0_3 a0_4 a0_5 a0_6 a0_7 a0_8 a0_9 a0_10 a0_11 a0_12)))) else (some t102))
set_option maxHeartbeats 8000000 in
set_option maxRecDepth 100000 in
theorem trade_Check.calls (k : Nat) (a0_0 : Int) (a0_1 : Int) (a0_2 : Int) (a0_3 : ByteArray) (a0_4 : Int) (a0_5 : Int) (a0_6 : Int) (a0_7 : Int) (a0_8 : Int) (a0_9 : ByteArray) (a0_10 : ByteArray) (a0_11 : ByteArray) (a0_12 : ByteArray) (A1 : Option Addr) (c1 : Nat) (l1 : List (S50)) (A2 : Option Addr) (c2 : Nat) (l2 : List (S107)) (r : Int) (w : World) (hr1 : Kd.C k50 w A1 l1.length l1) (hc1 : l1.length ≤ c1) (hr2 : Kd.C k107 w A2 l2.length l2) (hc2 : l2.length ≤ c2) (h : trade_Check.f k a0_0 a0_1 a0_2 a0_3 a0_4 a0_5 a0_6 a0_7 a0_8 a0_9 a0_10 a0_11 a0_12 l1 l2 = some r) :
    Calls Tryz.prog 7 #[.agg #[.int .i64 a0_0, .int .i64 a0_1, .int .i64 a0_2, .string a0_3, .int .i64 a0_4, .int .i64 a0_5, .int .i64 a0_6, .int .i64 a0_7, .int .i64 a0_8, .string a0_9, .string a0_10, .string a0_11, .string a0_12], .slice A1 l1.length c1, .slice A2 l2.length c2] w fun e w' => e = .returned (.int .i64 r) ∧ Below w.heap.size w w' := by
  have hu30 := Tryz.underlying30
  have hu26 := Tryz.underlying26
  have hu50 := Tryz.underlying50
  have hu28 := Tryz.underlying28
  have HR1 := Aside0.mk hr1
  have HC1 := Aside0.mk hc1
  clear hr1 hc1
  have HR2 := Aside0.mk hr2
  have HC2 := Aside0.mk hc2
  clear hr2 hc2
  have HB := Aside0.mk (Below.refl w.heap.size w)
  have H : ((series_Check.f k l1 a0_3 a0_4 a0_5 a0_6).bind fun t102 => (if t102 = 0 then (if a0_1 < 0 then (trade_Check.j0 k l1 l2 true a0_0 a0_1 a0_2 a0_3 a0_4 a0_5 a0_6 a0_7 a0_8 a0_9 a0_10 a0_11 a0_12) else (if a0_1 > 73048 then (trade_Check.j0 k l1 l2 true a0_0 a0_1 a0_2 a0_3 a0_4 a0_5 a0_6 a0_7 a0_8 a0_9 a0_10 a0_11 a0_12) else ((series_Live.f a0_3 a0_4 a0_5 a0_6 a0_1).bind fun t103 => (trade_Check.j0 k l1 l2 (!t103) a0_0 a0_1 a0_2 a0_3 a0_4 a0_5 a0_6 a0_7 a0_8 a0_9 a0_10 a0_11 a0_12)))) else (some t102))) = some r := h
  clear h
  replace H := bnd H
  obtain ⟨t102, A40, H⟩ := H
  have A4 := Aside0.mk A40
  clear A40
  go_enter Tryz.func7, Tryz.ntmps7
  go_wp2_with (first | ((with_reducible refine gate_dst (N := 3) rfl ?_); refine box_event ?hg (N := 3) ?hd (cs := #[.int .i64 a0_0, .int .i64 a0_1, .int .i64 a0_2, .string a0_3, .int .i64 a0_4, .int .i64 a0_5, .int .i64 a0_6, .int .i64 a0_7, .int .i64 a0_8, .string a0_9, .string a0_10, .string a0_11, .string a0_12]) (t := 30) ?hr ?_; (case hd => rfl); (case hg => rfl); (case hr => first | (go_simp; done) | (go_simp; rfl)); intro gb101 hg w7 hbox hb; have BK101 := Aside0.mk (hbox); have GW101 := Aside0.mk ((gsz hg : w.heap.size ≤ gb101)); have GE101 := Aside0.mk ((gsz hg : w.heap.size ≤ gb101)); replace HB := Aside0.mk (below_step bel hb); clear hb hbox hg; obtain ⟨hcz8_0, hcz8_1, hcz8_2, hcz8_3, hcz8_4, hcz8_5, hcz8_6, hcz8_7, hcz8_8, hcz8_9, hcz8_10, hcz8_11, hcz8_12, hfz8_0, hfz8_1, hfz8_2, hfz8_3, hfz8_4, hfz8_5, hfz8_6, hfz8_7, hfz8_8, hfz8_9, hfz8_10, hfz8_11, hfz8_12⟩ := cz13 BK101.out) | ((with_reducible refine gate_callee (f := 24) rfl ?_); refine Aside0.out ?_))
  by_cases c5 : t102 = 0
  · rw [if_pos c5] at H
    have c5b0 : (t102 == 0) = true := beq_iff_eq.mpr c5
    have c5b1 : (t102 != 0) = false := bne_eq_false_iff_eq.mpr c5
    clear c5
    have HC6 := Aside0.mk H
    clear H
    refine Aside0.mk ?_
    (refine goesL_ (some 18) rfl rfl Tryz.func24 (by kernel_rfl) rfl #[.slice A1 l1.length c1, .agg #[.string a0_3, .int .i64 a0_4, .int .i64 a0_5, .int .i64 a0_6]] rfl arg ?_; (with_reducible refine (series_Check.calls k _ _ l1 a0_3 a0_4 a0_5 a0_6 t102 _ ?side1 ?side2 A4.out).mono ?_); (case side1 => repeat (first | exact (Kd.C_below HR1.out HB.out) | (with_reducible refine Kd.C_alloc ?_ _) | (with_reducible refine Kd.C_drewN ?_ _) | (with_reducible refine Kd.C_drew ?_))); (case side2 => exact HC1.out); rintro e w9 ⟨rfl, hb⟩; refine ⟨_, rfl, ?_⟩; replace BK101 := Aside0.mk (blk_below (g := gb101) (bw BK101.out) hb); replace HB := Aside0.mk (below_step bel hb); (try clear hb); (try clear hb2); (try clear hk); (try clear hi))
    go_upto_region 4 with (fail)
    (try simp only [Act.put, List.setIfInBounds_toArray, List.set_cons_zero, List.set_cons_succ])
    go_cut [22] (fun v22 wc => ∃ (kq : Nat) (x22_5 : Bool), v22 = .bool x22_5 ∧ Aside0 (trade_Check.j0 kq l1 l2 x22_5 a0_0 a0_1 a0_2 a0_3 a0_4 a0_5 a0_6 a0_7 a0_8 a0_9 a0_10 a0_11 a0_12 = some r) ∧ Aside0 (kq ≤ k) ∧ Aside0 (wc.heap[gb101]? = some (.cells #[.int .i64 a0_0, .int .i64 a0_1, .int .i64 a0_2, .string a0_3, .int .i64 a0_4, .int .i64 a0_5, .int .i64 a0_6, .int .i64 a0_7, .int .i64 a0_8, .string a0_9, .string a0_10, .string a0_11, .string a0_12] 30 (0, 0))) ∧ Aside0 (Below w.heap.size w wc))
    case first =>
      have H := HC6.out
      clear HC6
      by_cases c10 : a0_1 < 0
      · rw [if_pos c10] at H
        have c10b0 := decide_eq_true c10
        clear c10
        (first | rw [c10b0] | (simp only [i64_w, i32_w]; rw [c10b0]) | skip)
        have H' := Aside0.mk H
        clear H
        obtain ⟨hcz11_0, hcz11_1, hcz11_2, hcz11_3, hcz11_4, hcz11_5, hcz11_6, hcz11_7, hcz11_8, hcz11_9, hcz11_10, hcz11_11, hcz11_12, hfz11_0, hfz11_1, hfz11_2, hfz11_3, hfz11_4, hfz11_5, hfz11_6, hfz11_7, hfz11_8, hfz11_9, hfz11_10, hfz11_11, hfz11_12⟩ := cz13 BK101.out
        go_wp2
        go_meet
        case rel => exact ⟨_, (true), eqs, H', ⟨by first | omega | exact Nat.le_refl _⟩, ⟨bw BK101.out⟩, ⟨bel⟩⟩
      · rw [if_neg c10] at H
        have c10b0 := decide_eq_false c10
        clear c10
        (first | rw [c10b0] | (simp only [i64_w, i32_w]; rw [c10b0]) | skip)
        by_cases c12 : a0_1 > 73048
        · rw [if_pos c12] at H
          have c12b0 : decide (73048 < a0_1) = true := decide_eq_true c12
          clear c12
          have H' := Aside0.mk H
          clear H
          obtain ⟨hcz13_0, hcz13_1, hcz13_2, hcz13_3, hcz13_4, hcz13_5, hcz13_6, hcz13_7, hcz13_8, hcz13_9, hcz13_10, hcz13_11, hcz13_12, hfz13_0, hfz13_1, hfz13_2, hfz13_3, hfz13_4, hfz13_5, hfz13_6, hfz13_7, hfz13_8, hfz13_9, hfz13_10, hfz13_11, hfz13_12⟩ := cz13 BK101.out
          go_wp2
          go_meet
          case rel => exact ⟨_, (true), eqs, H', ⟨by first | omega | exact Nat.le_refl _⟩, ⟨bw BK101.out⟩, ⟨bel⟩⟩
        · rw [if_neg c12] at H
          have c12b0 : decide (73048 < a0_1) = false := decide_eq_false c12
          clear c12
          replace H := bnd H
          obtain ⟨t103, A140, H⟩ := H
          have A14 := Aside0.mk A140
          clear A140
          have H' := Aside0.mk H
          clear H
          obtain ⟨hcz15_0, hcz15_1, hcz15_2, hcz15_3, hcz15_4, hcz15_5, hcz15_6, hcz15_7, hcz15_8, hcz15_9, hcz15_10, hcz15_11, hcz15_12, hfz15_0, hfz15_1, hfz15_2, hfz15_3, hfz15_4, hfz15_5, hfz15_6, hfz15_7, hfz15_8, hfz15_9, hfz15_10, hfz15_11, hfz15_12⟩ := cz13 BK101.out
          go_wp2_with (first | (go_at_call 18; (with_reducible refine (series_Live.calls a0_3 a0_4 a0_5 a0_6 a0_1 t103 _ A14.out).mono ?_); rintro e w16 ⟨rfl, hb⟩; replace BK101 := Aside0.mk (blk_below (g := gb101) (bw BK101.out) hb); replace HB := Aside0.mk (below_step bel hb); (try clear hb); (try clear hb2); (try clear hk); (try clear hi)))
          go_meet
          case rel => exact ⟨_, (!t103), eqs, H', ⟨by first | omega | exact Nat.le_refl _⟩, ⟨bw BK101.out⟩, ⟨bel⟩⟩
    case rest =>
      clear HC6
      try clear c1
      try clear c2
      try clear p2
      try clear c5
      try clear c5b0
      try clear c5b1
      try clear c7
      try clear c10
      try clear c10b0
      try clear c12
      try clear c12b0
      try clear hcz11_0 hcz11_1 hcz11_10 hcz11_11 hcz11_12 hcz11_2 hcz11_3 hcz11_4 hcz11_5 hcz11_6 hcz11_7 hcz11_8 hcz11_9
      try clear hcz13_0 hcz13_1 hcz13_10 hcz13_11 hcz13_12 hcz13_2 hcz13_3 hcz13_4 hcz13_5 hcz13_6 hcz13_7 hcz13_8 hcz13_9
      try clear hcz15_0 hcz15_1 hcz15_10 hcz15_11 hcz15_12 hcz15_2 hcz15_3 hcz15_4 hcz15_5 hcz15_6 hcz15_7 hcz15_8 hcz15_9
      try clear hcz8_0 hcz8_1 hcz8_10 hcz8_11 hcz8_12 hcz8_2 hcz8_3 hcz8_4 hcz8_5 hcz8_6 hcz8_7 hcz8_8 hcz8_9
      try clear hfz11_0 hfz11_1 hfz11_10 hfz11_11 hfz11_12 hfz11_2 hfz11_3 hfz11_4 hfz11_5 hfz11_6 hfz11_7 hfz11_8 hfz11_9
      try clear hfz13_0 hfz13_1 hfz13_10 hfz13_11 hfz13_12 hfz13_2 hfz13_3 hfz13_4 hfz13_5 hfz13_6 hfz13_7 hfz13_8 hfz13_9
      try clear hfz15_0 hfz15_1 hfz15_10 hfz15_11 hfz15_12 hfz15_2 hfz15_3 hfz15_4 hfz15_5 hfz15_6 hfz15_7 hfz15_8 hfz15_9
      try clear hfz8_0 hfz8_1 hfz8_10 hfz8_11 hfz8_12 hfz8_2 hfz8_3 hfz8_4 hfz8_5 hfz8_6 hfz8_7 hfz8_8 hfz8_9
      obtain ⟨kq, x22_5, rfl, HA, HJ5, BK101, HB⟩ := hcut
      cases kq with
      | zero => exact absurd HA.out (by simp [trade_Check.j0])
      | succ kj5 =>
        have H := HA.out
        clear HA
        simp only [trade_Check.j0] at H
        by_cases c17 : x22_5 = true
        · subst c17
          rw [if_pos rfl] at H
          obtain rfl := Option.some.inj H
          go_wp2
          go_ret
          exact ⟨ers, bel⟩
        · replace c17 := Bool.eq_false_iff.mpr c17
          subst c17
          rw [if_neg (show ¬ (false = true) by decide)] at H
          have HC18 := Aside0.mk H
          clear H
          go_upto_region 6 with (fail)
          go_cut [39] (fun v39 wc => ∃ (kq : Nat) (x39_17 : Bool), v39 = .bool x39_17 ∧ Aside0 (trade_Check.j1 kq l1 l2 x39_17 a0_0 a0_1 a0_2 a0_3 a0_4 a0_5 a0_6 a0_7 a0_8 a0_9 a0_10 a0_11 a0_12 = some r) ∧ Aside0 (kq ≤ kj5) ∧ Aside0 (wc.heap[gb101]? = some (.cells #[.int .i64 a0_0, .int .i64 a0_1, .int .i64 a0_2, .string a0_3, .int .i64 a0_4, .int .i64 a0_5, .int .i64 a0_6, .int .i64 a0_7, .int .i64 a0_8, .string a0_9, .string a0_10, .string a0_11, .string a0_12] 30 (0, 0))) ∧ Aside0 (Below w.heap.size w wc))
          case first =>
            have H := HC18.out
            clear HC18
            by_cases c19 : a0_0 < 1
            · rw [if_pos c19] at H
              have c19b0 := decide_eq_true c19
              clear c19
              (first | rw [c19b0] | (simp only [i64_w, i32_w]; rw [c19b0]) | skip)
              have H' := Aside0.mk H
              clear H
              obtain ⟨hcz20_0, hcz20_1, hcz20_2, hcz20_3, hcz20_4, hcz20_5, hcz20_6, hcz20_7, hcz20_8, hcz20_9, hcz20_10, hcz20_11, hcz20_12, hfz20_0, hfz20_1, hfz20_2, hfz20_3, hfz20_4, hfz20_5, hfz20_6, hfz20_7, hfz20_8, hfz20_9, hfz20_10, hfz20_11, hfz20_12⟩ := cz13 BK101.out
              go_wp2
              go_meet
              case rel => exact ⟨_, (true), eqs, H', ⟨by have := HJ5.out; first | omega | exact Nat.le_refl _⟩, ⟨bw BK101.out⟩, ⟨bel⟩⟩
            · rw [if_neg c19] at H
              have c19b0 := decide_eq_false c19
              clear c19
              (first | rw [c19b0] | (simp only [i64_w, i32_w]; rw [c19b0]) | skip)
              by_cases c21 : a0_0 > 1152921504606846976
              · rw [if_pos c21] at H
                have c21b0 : decide (1152921504606846976 < a0_0) = true := decide_eq_true c21
                clear c21
                have H' := Aside0.mk H
                clear H
                obtain ⟨hcz22_0, hcz22_1, hcz22_2, hcz22_3, hcz22_4, hcz22_5, hcz22_6, hcz22_7, hcz22_8, hcz22_9, hcz22_10, hcz22_11, hcz22_12, hfz22_0, hfz22_1, hfz22_2, hfz22_3, hfz22_4, hfz22_5, hfz22_6, hfz22_7, hfz22_8, hfz22_9, hfz22_10, hfz22_11, hfz22_12⟩ := cz13 BK101.out
                go_wp2
                go_meet
                case rel => exact ⟨_, (true), eqs, H', ⟨by have := HJ5.out; first | omega | exact Nat.le_refl _⟩, ⟨bw BK101.out⟩, ⟨bel⟩⟩
              · rw [if_neg c21] at H
                have c21b0 : decide (1152921504606846976 < a0_0) = false := decide_eq_false c21
                clear c21
                by_cases c23 : a0_2 < 0
                · rw [if_pos c23] at H
                  have c23b0 := decide_eq_true c23
                  clear c23
                  have H' := Aside0.mk H
                  clear H
                  obtain ⟨hcz24_0, hcz24_1, hcz24_2, hcz24_3, hcz24_4, hcz24_5, hcz24_6, hcz24_7, hcz24_8, hcz24_9, hcz24_10, hcz24_11, hcz24_12, hfz24_0, hfz24_1, hfz24_2, hfz24_3, hfz24_4, hfz24_5, hfz24_6, hfz24_7, hfz24_8, hfz24_9, hfz24_10, hfz24_11, hfz24_12⟩ := cz13 BK101.out
                  go_wp2
                  go_meet
                  case rel => exact ⟨_, (true), eqs, H', ⟨by have := HJ5.out; first | omega | exact Nat.le_refl _⟩, ⟨bw BK101.out⟩, ⟨bel⟩⟩
                · rw [if_neg c23] at H
                  have c23b0 := decide_eq_false c23
                  clear c23
                  have H' := Aside0.mk H
                  clear H
                  obtain ⟨hcz25_0, hcz25_1, hcz25_2, hcz25_3, hcz25_4, hcz25_5, hcz25_6, hcz25_7, hcz25_8, hcz25_9, hcz25_10, hcz25_11, hcz25_12, hfz25_0, hfz25_1, hfz25_2, hfz25_3, hfz25_4, hfz25_5, hfz25_6, hfz25_7, hfz25_8, hfz25_9, hfz25_10, hfz25_11, hfz25_12⟩ := cz13 BK101.out
                  go_wp2
                  go_meet
                  case rel => exact ⟨_, (decide (a0_2 > 86399)), eqs, H', ⟨by have := HJ5.out; first | omega | exact Nat.le_refl _⟩, ⟨bw BK101.out⟩, ⟨bel⟩⟩
          case rest =>
            clear HC18
            try clear c1
            try clear c2
            try clear p2
            try clear c5
            try clear c5b0
            try clear c5b1
            try clear c7
            try clear c10
            try clear c10b0
            try clear c12
            try clear c12b0
            try clear c17
            try clear c19
            try clear c19b0
            try clear c21
            try clear c21b0
            try clear c23
            try clear c23b0
            try clear c24
            try clear hcz11_0 hcz11_1 hcz11_10 hcz11_11 hcz11_12 hcz11_2 hcz11_3 hcz11_4 hcz11_5 hcz11_6 hcz11_7 hcz11_8 hcz11_9
            try clear hcz13_0 hcz13_1 hcz13_10 hcz13_11 hcz13_12 hcz13_2 hcz13_3 hcz13_4 hcz13_5 hcz13_6 hcz13_7 hcz13_8 hcz13_9
            try clear hcz15_0 hcz15_1 hcz15_10 hcz15_11 hcz15_12 hcz15_2 hcz15_3 hcz15_4 hcz15_5 hcz15_6 hcz15_7 hcz15_8 hcz15_9
            try clear hcz20_0 hcz20_1 hcz20_10 hcz20_11 hcz20_12 hcz20_2 hcz20_3 hcz20_4 hcz20_5 hcz20_6 hcz20_7 hcz20_8 hcz20_9
            try clear hcz22_0 hcz22_1 hcz22_10 hcz22_11 hcz22_12 hcz22_2 hcz22_3 hcz22_4 hcz22_5 hcz22_6 hcz22_7 hcz22_8 hcz22_9
            try clear hcz24_0 hcz24_1 hcz24_10 hcz24_11 hcz24_12 hcz24_2 hcz24_3 hcz24_4 hcz24_5 hcz24_6 hcz24_7 hcz24_8 hcz24_9
            try clear hcz25_0 hcz25_1 hcz25_10 hcz25_11 hcz25_12 hcz25_2 hcz25_3 hcz25_4 hcz25_5 hcz25_6 hcz25_7 hcz25_8 hcz25_9
            try clear hcz8_0 hcz8_1 hcz8_10 hcz8_11 hcz8_12 hcz8_2 hcz8_3 hcz8_4 hcz8_5 hcz8_6 hcz8_7 hcz8_8 hcz8_9
            try clear hfz11_0 hfz11_1 hfz11_10 hfz11_11 hfz11_12 hfz11_2 hfz11_3 hfz11_4 hfz11_5 hfz11_6 hfz11_7 hfz11_8 hfz11_9
            try clear hfz13_0 hfz13_1 hfz13_10 hfz13_11 hfz13_12 hfz13_2 hfz13_3 hfz13_4 hfz13_5 hfz13_6 hfz13_7 hfz13_8 hfz13_9
            try clear hfz15_0 hfz15_1 hfz15_10 hfz15_11 hfz15_12 hfz15_2 hfz15_3 hfz15_4 hfz15_5 hfz15_6 hfz15_7 hfz15_8 hfz15_9
            try clear hfz20_0 hfz20_1 hfz20_10 hfz20_11 hfz20_12 hfz20_2 hfz20_3 hfz20_4 hfz20_5 hfz20_6 hfz20_7 hfz20_8 hfz20_9
            try clear hfz22_0 hfz22_1 hfz22_10 hfz22_11 hfz22_12 hfz22_2 hfz22_3 hfz22_4 hfz22_5 hfz22_6 hfz22_7 hfz22_8 hfz22_9
            try clear hfz24_0 hfz24_1 hfz24_10 hfz24_11 hfz24_12 hfz24_2 hfz24_3 hfz24_4 hfz24_5 hfz24_6 hfz24_7 hfz24_8 hfz24_9
            try clear hfz25_0 hfz25_1 hfz25_10 hfz25_11 hfz25_12 hfz25_2 hfz25_3 hfz25_4 hfz25_5 hfz25_6 hfz25_7 hfz25_8 hfz25_9
            try clear hfz8_0 hfz8_1 hfz8_10 hfz8_11 hfz8_12 hfz8_2 hfz8_3 hfz8_4 hfz8_5 hfz8_6 hfz8_7 hfz8_8 hfz8_9
            try clear p2
            obtain ⟨kq, x39_17, rfl, HA, HJ17, BK101, HB⟩ := hcut
            cases kq with
            | zero => exact absurd HA.out (by simp [trade_Check.j1])
            | succ kj17 =>
              have H := HA.out
              clear HA
              simp only [trade_Check.j1] at H
              by_cases c26 : x39_17 = true
              · subst c26
                rw [if_pos rfl] at H
                obtain rfl := Option.some.inj H
                go_wp2
                go_ret
                exact ⟨ers, bel⟩
              · replace c26 := Bool.eq_false_iff.mpr c26
                subst c26
                rw [if_neg (show ¬ (false = true) by decide)] at H
                by_cases c27 : a0_7 < 1
                · rw [if_pos c27] at H
                  have c27b0 := decide_eq_true c27
                  clear c27
                  obtain rfl := Option.some.inj H
                  obtain ⟨hcz28_0, hcz28_1, hcz28_2, hcz28_3, hcz28_4, hcz28_5, hcz28_6, hcz28_7, hcz28_8, hcz28_9, hcz28_10, hcz28_11, hcz28_12, hfz28_0, hfz28_1, hfz28_2, hfz28_3, hfz28_4, hfz28_5, hfz28_6, hfz28_7, hfz28_8, hfz28_9, hfz28_10, hfz28_11, hfz28_12⟩ := cz13 BK101.out
                  go_wp2
                  go_ret
                  exact ⟨ers, bel⟩
                · rw [if_neg c27] at H
                  have c27b0 := decide_eq_false c27
                  clear c27
                  by_cases c29 : a0_7 > 1048576
                  · rw [if_pos c29] at H
                    have c29b0 : decide (1048576 < a0_7) = true := decide_eq_true c29
                    clear c29
                    obtain rfl := Option.some.inj H
                    obtain ⟨hcz30_0, hcz30_1, hcz30_2, hcz30_3, hcz30_4, hcz30_5, hcz30_6, hcz30_7, hcz30_8, hcz30_9, hcz30_10, hcz30_11, hcz30_12, hfz30_0, hfz30_1, hfz30_2, hfz30_3, hfz30_4, hfz30_5, hfz30_6, hfz30_7, hfz30_8, hfz30_9, hfz30_10, hfz30_11, hfz30_12⟩ := cz13 BK101.out
                    go_wp2
                    go_ret
                    exact ⟨ers, bel⟩
                  · rw [if_neg c29] at H
                    have c29b0 : decide (1048576 < a0_7) = false := decide_eq_false c29
                    clear c29
                    replace H := bnd H
                    obtain ⟨⟨t104, t105, t106, t107, t108, t109, t110, t111⟩, A310, H⟩ := H
                    replace H : ((product_Price.f kj17 t104 t105 t106 t107 t108 t109 t110 a0_8).bind fun t113 => (if t113 = 0 then ((member_Check.f kj17 l2).bind fun t114 => (if t114 = 0 then ((some (([(⟨a0_9, a0_10⟩ : S28), (⟨a0_11, a0_12⟩ : S28)] : List (S28)) : List (S28))).bind fun y115 => (trade_Check.l0 kj17 l2 y115 (y115.length : Int) 0 a0_0 a0_1 a0_2 a0_3 a0_4 a0_5 a0_6 a0_7 a0_8 a0_9 a0_10 a0_11 a0_12)) else (some t114))) else (some t113))) = some r := H
                    have A31 := Aside0.mk A310
                    clear A310
                    replace H := bnd H
                    obtain ⟨t113, A320, H⟩ := H
                    have A32 := Aside0.mk A320
                    clear A320
                    by_cases c33 : t113 = 0
                    · rw [if_pos c33] at H
                      have c33b0 : (t113 == 0) = true := beq_iff_eq.mpr c33
                      have c33b1 : (t113 != 0) = false := bne_eq_false_iff_eq.mpr c33
                      clear c33
                      replace H := bnd H
                      obtain ⟨t114, A340, H⟩ := H
                      have A34 := Aside0.mk A340
                      clear A340
                      by_cases c35 : t114 = 0
                      · rw [if_pos c35] at H
                        have c35b0 : (t114 == 0) = true := beq_iff_eq.mpr c35
                        have c35b1 : (t114 != 0) = false := bne_eq_false_iff_eq.mpr c35
                        clear c35
                        obtain ⟨y115, hy115⟩ : ∃ y_ : List (S28), y_ = (([(⟨a0_9, a0_10⟩ : S28), (⟨a0_11, a0_12⟩ : S28)] : List (S28))) := ⟨_, rfl⟩
                        replace H : (trade_Check.l0 kj17 l2 y115 (y115.length : Int) 0 a0_0 a0_1 a0_2 a0_3 a0_4 a0_5 a0_6 a0_7 a0_8 a0_9 a0_10 a0_11 a0_12) = some r := by first | (rw [hy115]; with_reducible exact H) | (have H2_ := (Option.bind_some _ _).symm.trans H; rw [hy115]; with_reducible exact H2_) | (have H2_ := (Option.bind_some _ _).symm.trans H; with_reducible exact H2_) | with_reducible exact H | (rw [hy115]; exact H) | exact H
                        have Ny115 := Aside0.mk hy115
                        clear hy115
                        have H' := Aside0.mk H
                        clear H
                        obtain ⟨hcz36_0, hcz36_1, hcz36_2, hcz36_3, hcz36_4, hcz36_5, hcz36_6, hcz36_7, hcz36_8, hcz36_9, hcz36_10, hcz36_11, hcz36_12, hfz36_0, hfz36_1, hfz36_2, hfz36_3, hfz36_4, hfz36_5, hfz36_6, hfz36_7, hfz36_8, hfz36_9, hfz36_10, hfz36_11, hfz36_12⟩ := cz13 BK101.out
                        go_wp2_with (first | ((with_reducible refine gate_callee (f := 13) rfl ?_); refine goesL_ (some 72) rfl rfl Tryz.func13 (by kernel_rfl) rfl #[.slice A1 l1.length c1, .string a0_3] rfl arg ?_; (with_reducible refine (product_Find.calls _ _ l1 a0_3 t104 t105 t106 t107 t108 t109 t110 t111 _ ?side1 ?side2 A31.out).mono ?_); (case side1 => repeat (first | exact (Kd.C_below HR1.out HB.out) | (with_reducible refine Kd.C_alloc ?_ _) | (with_reducible refine Kd.C_drewN ?_ _) | (with_reducible refine Kd.C_drew ?_))); (case side2 => exact HC1.out); rintro e w37 ⟨rfl, hb⟩; refine ⟨_, rfl, ?_⟩; replace BK101 := Aside0.mk (blk_below (g := gb101) (bw BK101.out) hb); replace HB := Aside0.mk (below_step bel hb); (try clear hb); (try clear hb2); (try clear hk); (try clear hi)) | ((with_reducible refine gate_dst (N := 8) rfl ?_); refine box_event ?hg (N := 8) ?hd (cs := #[.string (⟨#[]⟩ : ByteArray), .int .i64 0, .int .i64 0, .int .i64 0, .int .i64 0, .int .i64 0, .bool false]) (t := 50) ?hr ?_; (case hd => rfl); (case hg => rfl); (case hr => first | (go_simp; done) | (go_simp; rfl)); intro gb112 hg w38 hbox hb; have BK112 := Aside0.mk (hbox); have GW112 := Aside0.mk ((gsz hg : w.heap.size ≤ gb112)); have GE112 := Aside0.mk ((gsz hg : w.heap.size ≤ gb112)); have NB101_112 := Aside0.mk ((nlt hg (bw BK101.out) : gb101 ≠ gb112)); have NB112_101 := Aside0.mk ((ngt hg (bw BK101.out) : gb112 ≠ gb101)); replace BK101 := Aside0.mk (blk_below (g := gb101) (bw BK101.out) hb); replace HB := Aside0.mk (below_step bel hb); clear hb hbox hg; have hnb39 := NB112_101.out; have hnc39 := NB101_112.out; obtain ⟨hcz40_0, hcz40_1, hcz40_2, hcz40_3, hcz40_4, hcz40_5, hcz40_6, hfz40_0, hfz40_1, hfz40_2, hfz40_3, hfz40_4, hfz40_5, hfz40_6⟩ := cz7 BK112.out; obtain ⟨hcz41_0, hcz41_1, hcz41_2, hcz41_3, hcz41_4, hcz41_5, hcz41_6, hcz41_7, hcz41_8, hcz41_9, hcz41_10, hcz41_11, hcz41_12, hfz41_0, hfz41_1, hfz41_2, hfz41_3, hfz41_4, hfz41_5, hfz41_6, hfz41_7, hfz41_8, hfz41_9, hfz41_10, hfz41_11, hfz41_12⟩ := cz13 BK101.out) | ((with_reducible refine gate_callee (f := 25) rfl ?_); refine goesL_ (some 78) rfl rfl Tryz.func25 (by kernel_rfl) rfl #[.agg #[.string t104, .int .i64 t105, .int .i64 t106, .int .i64 t107, .int .i64 t108, .int .i64 t109, .bool t110], .int .i64 a0_8] rfl arg ?_; (with_reducible refine (product_Price.calls kj17 t104 t105 t106 t107 t108 t109 t110 a0_8 t113 _ A32.out).mono ?_); rintro e w42 ⟨rfl, hb⟩; refine ⟨_, rfl, ?_⟩; replace BK101 := Aside0.mk (blk_below (g := gb101) (o := .cells #[.int .i64 a0_0, .int .i64 a0_1, .int .i64 a0_2, .string a0_3, .int .i64 a0_4, .int .i64 a0_5, .int .i64 a0_6, .int .i64 a0_7, .int .i64 a0_8, .string a0_9, .string a0_10, .string a0_11, .string a0_12] 30 (0, 0)) (bs BK101.out) hb); replace BK112 := Aside0.mk (blk_below (g := gb112) (o := .cells #[.string t104, .int .i64 t105, .int .i64 t106, .int .i64 t107, .int .i64 t108, .int .i64 t109, .bool t110] 50 (0, 0)) (bs BK112.out) hb); replace HB := Aside0.mk (below_step bel hb); (try clear hb); (try clear hb2); (try clear hk); (try clear hi)) | ((with_reducible refine gate_callee (f := 26) rfl ?_); refine goesL_ (some 83) rfl rfl Tryz.func26 (by kernel_rfl) rfl #[.slice A2 l2.length c2] rfl arg ?_; (with_reducible refine (member_Check.calls kj17 _ _ l2 t114 _ ?side1 ?side2 A34.out).mono ?_); (case side1 => repeat (first | exact (Kd.C_below HR2.out HB.out) | (with_reducible refine Kd.C_alloc ?_ _) | (with_reducible refine Kd.C_drewN ?_ _) | (with_reducible refine Kd.C_drew ?_))); (case side2 => exact HC2.out); rintro e w43 ⟨rfl, hb⟩; refine ⟨_, rfl, ?_⟩; replace BK101 := Aside0.mk (blk_below (g := gb101) (bw BK101.out) hb); replace BK112 := Aside0.mk (blk_below (g := gb112) (bw BK112.out) hb); replace HB := Aside0.mk (below_step bel hb); (try clear hb); (try clear hb2); (try clear hk); (try clear hi); obtain ⟨hcz44_0, hcz44_1, hcz44_2, hcz44_3, hcz44_4, hcz44_5, hcz44_6, hcz44_7, hcz44_8, hcz44_9, hcz44_10, hcz44_11, hcz44_12, hfz44_0, hfz44_1, hfz44_2, hfz44_3, hfz44_4, hfz44_5, hfz44_6, hfz44_7, hfz44_8, hfz44_9, hfz44_10, hfz44_11, hfz44_12⟩ := cz13 BK101.out) | ((with_reducible refine gate_dst (N := 91) rfl ?_); refine Kd.R_lit k28 _ 28 ?hg (N := 91) ?hd (xs := ([(⟨a0_9, a0_10⟩ : S28), (⟨a0_11, a0_12⟩ : S28)] : List (S28))) (inner := [.string a0_9, .string a0_10, .string a0_11, .string a0_12]) (ok := fun _ => True) (okp := fun _ => True) ?hr ?hp (fun _ hk => hk) trivial (Below.refl _ _) (Nat.le_refl _) (by simp) ?_; (case hd => rfl); (case hg => rfl); (case hr => first | (go_simp; done) | (go_simp; rfl)); (case hp => exact (Reps.c2 (show Kd.M k28 _ _ _ (⟨a0_9, a0_10⟩ : S28) [.string a0_9, .string a0_10] from (k28_mkM _ _ _ (⟨a0_9, a0_10⟩ : S28) )) (Reps.c2 (show Kd.M k28 _ _ _ (⟨a0_11, a0_12⟩ : S28) [.string a0_11, .string a0_12] from (k28_mkM _ _ _ (⟨a0_11, a0_12⟩ : S28) )) (Reps.none _ _)))); intro v116 w45 ho46 hb hg_ hnew_; clear hg_ hnew_; (first | rw [← Ny115.out] at ho46 | (simp only [Int.reduceToNat] at ho46; rw [← Ny115.out] at ho46)); have HO117 := Aside0.mk (Kd.R_lower ho46 (below_size bel)); replace BK101 := Aside0.mk (blk_below (g := gb101) (bw BK101.out) hb); replace BK112 := Aside0.mk (blk_below (g := gb112) (bw BK112.out) hb); replace HB := Aside0.mk (below_step bel hb); clear hb ho46; obtain ⟨Ao47, co47, eo47⟩ := Kd.R_slice HO117.out; subst eo47))
                        go_loopg [93] kj17 (fun kq v93 w' => ∃ (x93_3 : Int), v93 = .int .i64 x93_3 ∧ Aside0 (trade_Check.l0 kq l2 y115 (y115.length : Int) x93_3 a0_0 a0_1 a0_2 a0_3 a0_4 a0_5 a0_6 a0_7 a0_8 a0_9 a0_10 a0_11 a0_12 = some r) ∧ Aside0 (kq ≤ kj17) ∧ Aside0 (Kd.R k28 28 w' w.heap.size (fun _ => True) (.slice Ao47 y115.length co47) y115) ∧ Aside0 (w'.heap[gb101]? = some (.cells #[.int .i64 a0_0, .int .i64 a0_1, .int .i64 a0_2, .string a0_3, .int .i64 a0_4, .int .i64 a0_5, .int .i64 a0_6, .int .i64 a0_7, .int .i64 a0_8, .string a0_9, .string a0_10, .string a0_11, .string a0_12] 30 (0, 0))) ∧ Aside0 (w'.heap[gb112]? = some (.cells #[.string t104, .int .i64 t105, .int .i64 t106, .int .i64 t107, .int .i64 t108, .int .i64 t109, .bool t110] 50 (0, 0))) ∧ Aside0 (Below w.heap.size w w'))
                        case atStart => exact ⟨(0), eqs, H', ⟨Nat.le_refl _⟩, ⟨kr HO117.out⟩, ⟨bw BK101.out⟩, ⟨bw BK112.out⟩, ⟨bel⟩⟩
                        case round =>
                          clear H'
                          try clear c1
                          try clear c2
                          try clear p2
                          try clear c3
                          try clear c5
                          try clear c5b0
                          try clear c5b1
                          try clear c7
                          try clear c10
                          try clear c10b0
                          try clear c12
                          try clear c12b0
                          try clear c13
                          try clear c17
                          try clear c19
                          try clear c19b0
                          try clear c21
                          try clear c21b0
                          try clear c23
                          try clear c23b0
                          try clear c24
                          try clear c25
                          try clear c26
                          try clear c27
                          try clear c27b0
                          try clear c29
                          try clear c29b0
                          try clear c33
                          try clear c33b0
                          try clear c33b1
                          try clear c35
                          try clear c35b0
                          try clear c35b1
                          try clear c39
                          try clear hcz11_0 hcz11_1 hcz11_10 hcz11_11 hcz11_12 hcz11_2 hcz11_3 hcz11_4 hcz11_5 hcz11_6 hcz11_7 hcz11_8 hcz11_9
                          try clear hcz13_0 hcz13_1 hcz13_10 hcz13_11 hcz13_12 hcz13_2 hcz13_3 hcz13_4 hcz13_5 hcz13_6 hcz13_7 hcz13_8 hcz13_9
                          try clear hcz15_0 hcz15_1 hcz15_10 hcz15_11 hcz15_12 hcz15_2 hcz15_3 hcz15_4 hcz15_5 hcz15_6 hcz15_7 hcz15_8 hcz15_9
                          try clear hcz20_0 hcz20_1 hcz20_10 hcz20_11 hcz20_12 hcz20_2 hcz20_3 hcz20_4 hcz20_5 hcz20_6 hcz20_7 hcz20_8 hcz20_9
                          try clear hcz22_0 hcz22_1 hcz22_10 hcz22_11 hcz22_12 hcz22_2 hcz22_3 hcz22_4 hcz22_5 hcz22_6 hcz22_7 hcz22_8 hcz22_9
                          try clear hcz24_0 hcz24_1 hcz24_10 hcz24_11 hcz24_12 hcz24_2 hcz24_3 hcz24_4 hcz24_5 hcz24_6 hcz24_7 hcz24_8 hcz24_9
                          try clear hcz25_0 hcz25_1 hcz25_10 hcz25_11 hcz25_12 hcz25_2 hcz25_3 hcz25_4 hcz25_5 hcz25_6 hcz25_7 hcz25_8 hcz25_9
                          try clear hcz28_0 hcz28_1 hcz28_10 hcz28_11 hcz28_12 hcz28_2 hcz28_3 hcz28_4 hcz28_5 hcz28_6 hcz28_7 hcz28_8 hcz28_9
                          try clear hcz30_0 hcz30_1 hcz30_10 hcz30_11 hcz30_12 hcz30_2 hcz30_3 hcz30_4 hcz30_5 hcz30_6 hcz30_7 hcz30_8 hcz30_9
                          try clear hcz36_0 hcz36_1 hcz36_10 hcz36_11 hcz36_12 hcz36_2 hcz36_3 hcz36_4 hcz36_5 hcz36_6 hcz36_7 hcz36_8 hcz36_9
                          try clear hcz40_0 hcz40_1 hcz40_2 hcz40_3 hcz40_4 hcz40_5 hcz40_6
                          try clear hcz41_0 hcz41_1 hcz41_10 hcz41_11 hcz41_12 hcz41_2 hcz41_3 hcz41_4 hcz41_5 hcz41_6 hcz41_7 hcz41_8 hcz41_9
                          try clear hcz44_0 hcz44_1 hcz44_10 hcz44_11 hcz44_12 hcz44_2 hcz44_3 hcz44_4 hcz44_5 hcz44_6 hcz44_7 hcz44_8 hcz44_9
                          try clear hcz8_0 hcz8_1 hcz8_10 hcz8_11 hcz8_12 hcz8_2 hcz8_3 hcz8_4 hcz8_5 hcz8_6 hcz8_7 hcz8_8 hcz8_9
                          try clear hfz11_0 hfz11_1 hfz11_10 hfz11_11 hfz11_12 hfz11_2 hfz11_3 hfz11_4 hfz11_5 hfz11_6 hfz11_7 hfz11_8 hfz11_9
                          try clear hfz13_0 hfz13_1 hfz13_10 hfz13_11 hfz13_12 hfz13_2 hfz13_3 hfz13_4 hfz13_5 hfz13_6 hfz13_7 hfz13_8 hfz13_9
                          try clear hfz15_0 hfz15_1 hfz15_10 hfz15_11 hfz15_12 hfz15_2 hfz15_3 hfz15_4 hfz15_5 hfz15_6 hfz15_7 hfz15_8 hfz15_9
                          try clear hfz20_0 hfz20_1 hfz20_10 hfz20_11 hfz20_12 hfz20_2 hfz20_3 hfz20_4 hfz20_5 hfz20_6 hfz20_7 hfz20_8 hfz20_9
                          try clear hfz22_0 hfz22_1 hfz22_10 hfz22_11 hfz22_12 hfz22_2 hfz22_3 hfz22_4 hfz22_5 hfz22_6 hfz22_7 hfz22_8 hfz22_9
                          try clear hfz24_0 hfz24_1 hfz24_10 hfz24_11 hfz24_12 hfz24_2 hfz24_3 hfz24_4 hfz24_5 hfz24_6 hfz24_7 hfz24_8 hfz24_9
                          try clear hfz25_0 hfz25_1 hfz25_10 hfz25_11 hfz25_12 hfz25_2 hfz25_3 hfz25_4 hfz25_5 hfz25_6 hfz25_7 hfz25_8 hfz25_9
                          try clear hfz28_0 hfz28_1 hfz28_10 hfz28_11 hfz28_12 hfz28_2 hfz28_3 hfz28_4 hfz28_5 hfz28_6 hfz28_7 hfz28_8 hfz28_9
                          try clear hfz30_0 hfz30_1 hfz30_10 hfz30_11 hfz30_12 hfz30_2 hfz30_3 hfz30_4 hfz30_5 hfz30_6 hfz30_7 hfz30_8 hfz30_9
                          try clear hfz36_0 hfz36_1 hfz36_10 hfz36_11 hfz36_12 hfz36_2 hfz36_3 hfz36_4 hfz36_5 hfz36_6 hfz36_7 hfz36_8 hfz36_9
                          try clear hfz40_0 hfz40_1 hfz40_2 hfz40_3 hfz40_4 hfz40_5 hfz40_6
                          try clear hfz41_0 hfz41_1 hfz41_10 hfz41_11 hfz41_12 hfz41_2 hfz41_3 hfz41_4 hfz41_5 hfz41_6 hfz41_7 hfz41_8 hfz41_9
                          try clear hfz44_0 hfz44_1 hfz44_10 hfz44_11 hfz44_12 hfz44_2 hfz44_3 hfz44_4 hfz44_5 hfz44_6 hfz44_7 hfz44_8 hfz44_9
                          try clear hfz8_0 hfz8_1 hfz8_10 hfz8_11 hfz8_12 hfz8_2 hfz8_3 hfz8_4 hfz8_5 hfz8_6 hfz8_7 hfz8_8 hfz8_9
                          try clear p2
                          obtain ⟨x93_3, rfl, HA, HK3, HO_91, BK101, BK112, HB⟩ := hrel
                          cases gk with
                          | zero => exact absurd HA.out (by simp [trade_Check.l0])
                          | succ k3 =>
                            have H := HA.out
                            clear HA
                            simp only [trade_Check.l0] at H
                            by_cases c48 : x93_3 < (y115.length : Int)
                            · rw [if_pos c48] at H
                              have c48b0 := decide_eq_true c48
                              clear c48
                              by_cases c49 : 0 ≤ x93_3
                              · rw [if_pos c49] at H
                                have c49b0 := decide_eq_true c49
                                clear c49
                                by_cases c50 : x93_3 < (y115.length : Int)
                                · rw [if_pos c50] at H
                                  have c50b0 := decide_eq_true c50
                                  clear c50
                                  replace H := bnd H
                                  obtain ⟨t120, A510, H⟩ := H
                                  have A51 := Aside0.mk A510
                                  clear A510
                                  have p118 : 0 ≤ (x93_3 : Int) := dt
                                  have q118 : x93_3 < (y115.length : Int) := dt
                                  obtain ⟨ad118, e118, hx118_0, hx118_1⟩ := at_T28 (Kd.R_reads' HO_91.out).2.2 x93_3 p118 q118
                                  cases e118
                                  replace p118 := eq_true p118
                                  replace q118 := eq_true q118
                                  go_wp2_with (first | ((with_reducible refine gate_dst (N := 13) rfl ?_); refine box_event ?hg (N := 13) ?hd (cs := #[.string (⟨#[]⟩ : ByteArray), .string (⟨#[]⟩ : ByteArray)]) (t := 28) ?hr ?_; (case hd => rfl); (case hg => rfl); (case hr => first | (go_simp; done) | (go_simp; rfl)); intro gb119 hg w53 hbox hb; replace HO_91 := Aside0.mk (Kd.R_below (Kd.R_elderB (kr HO_91.out) gb119 (Nat.le_of_eq hg.symm)) hb); have BK119 := Aside0.mk (hbox); have GW119 := Aside0.mk ((gsz hg : w.heap.size ≤ gb119)); have GE119 := Aside0.mk ((gsz hg : w.heap.size ≤ gb119)); have NB101_119 := Aside0.mk ((nlt hg (bw BK101.out) : gb101 ≠ gb119)); have NB119_101 := Aside0.mk ((ngt hg (bw BK101.out) : gb119 ≠ gb101)); replace BK101 := Aside0.mk (blk_below (g := gb101) (bw BK101.out) hb); have NB112_119 := Aside0.mk ((nlt hg (bw BK112.out) : gb112 ≠ gb119)); have NB119_112 := Aside0.mk ((ngt hg (bw BK112.out) : gb119 ≠ gb112)); replace BK112 := Aside0.mk (blk_below (g := gb112) (bw BK112.out) hb); replace HB := Aside0.mk (below_step bel hb); clear hb hbox hg; have hnb54 := NB119_101.out; have hnc54 := NB101_119.out; have hnb55 := NB119_112.out; have hnc55 := NB112_119.out; obtain ⟨hcz56_0, hcz56_1, hfz56_0, hfz56_1⟩ := cz2 BK119.out) | ((with_reducible refine gate_callee (f := 27) rfl ?_); refine Aside0.out ?_))
                                  by_cases c52 : t120 = 0
                                  · rw [if_pos c52] at H
                                    have c52b0 : (t120 == 0) = true := beq_iff_eq.mpr c52
                                    have c52b1 : (t120 != 0) = false := bne_eq_false_iff_eq.mpr c52
                                    clear c52
                                    have H' := Aside0.mk H
                                    clear H
                                    refine Aside0.mk ?_
                                    (refine goesL_ (some 99) rfl rfl Tryz.func27 (by kernel_rfl) rfl #[.slice A2 l2.length c2, .agg #[.string ((rd_T28 y115 x93_3).f0), .string ((rd_T28 y115 x93_3).f1)], .int .i64 1] rfl arg ?_; (with_reducible refine (member_May.calls k3 _ _ l2 ((rd_T28 y115 x93_3).f0) ((rd_T28 y115 x93_3).f1) 1 t120 _ ?side1 ?side2 A51.out).mono ?_); (case side1 => exact Kd.C_below HR2.out bel); (case side2 => exact HC2.out); rintro e w57 ⟨rfl, hb⟩; refine ⟨_, rfl, ?_⟩; replace HO_91 := Aside0.mk (Kd.R_below (by (with_reducible repeat (first | apply Kd.R_alloc | apply Kd.R_drewN | apply Kd.R_drew)); exact (Kd.R_mono (Kd.R_far (p := ⟨gb119, 1, none⟩) (Kd.R_far (p := ⟨gb119, 0, none⟩) (Kd.R_mono HO_91.out (fun k_ hk => (⟨hk, hk.2⟩ : _ ∧ k_ ≠ gb119))) (fun _ hk => hk.2) (.string ((rd_T28 y115 x93_3).f0))) (fun _ hk => hk.2) (.string ((rd_T28 y115 x93_3).f1))) (fun _ h_ => h_.1))) hb); replace BK101 := Aside0.mk (blk_below (g := gb101) (o := .cells #[.int .i64 a0_0, .int .i64 a0_1, .int .i64 a0_2, .string a0_3, .int .i64 a0_4, .int .i64 a0_5, .int .i64 a0_6, .int .i64 a0_7, .int .i64 a0_8, .string a0_9, .string a0_10, .string a0_11, .string a0_12] 30 (0, 0)) (bs BK101.out) hb); replace BK112 := Aside0.mk (blk_below (g := gb112) (o := .cells #[.string t104, .int .i64 t105, .int .i64 t106, .int .i64 t107, .int .i64 t108, .int .i64 t109, .bool t110] 50 (0, 0)) (bs BK112.out) hb); replace BK119 := Aside0.mk (blk_below (g := gb119) (o := .cells #[.string ((rd_T28 y115 x93_3).f0), .string ((rd_T28 y115 x93_3).f1)] 28 (0, 0)) (bs BK119.out) hb); replace HB := Aside0.mk (below_step bel hb); (try clear hb); (try clear hb2); (try clear hk); (try clear hi))
                                    go_wp2_with (fail)
                                    go_roundg k3
                                    case measure => have := HJ5.out; have := HJ17.out; have := HK3.out; omega
                                    case rel => exact ⟨(wrap64 (x93_3 + 1)), eqs, H', ⟨by have := HJ5.out; have := HJ17.out; have := HK3.out; omega⟩, ⟨by (with_reducible repeat (first | apply Kd.R_alloc | apply Kd.R_drewN | apply Kd.R_drew)); exact Kd.R_mono HO_91.out (fun _ hk => trivial)⟩, ⟨bw BK101.out⟩, ⟨bw BK112.out⟩, ⟨bel⟩⟩
                                  · rw [if_neg c52] at H
                                    have c52b0 : (t120 == 0) = false := beq_eq_false_iff_ne.mpr c52
                                    have c52b1 : (t120 != 0) = true := bne_iff_ne.mpr c52
                                    obtain rfl := Option.some.inj H
                                    refine Aside0.mk ?_
                                    (refine goesL_ (some 99) rfl rfl Tryz.func27 (by kernel_rfl) rfl #[.slice A2 l2.length c2, .agg #[.string ((rd_T28 y115 x93_3).f0), .string ((rd_T28 y115 x93_3).f1)], .int .i64 1] rfl arg ?_; (with_reducible refine (member_May.calls k3 _ _ l2 ((rd_T28 y115 x93_3).f0) ((rd_T28 y115 x93_3).f1) 1 t120 _ ?side1 ?side2 A51.out).mono ?_); (case side1 => exact Kd.C_below HR2.out bel); (case side2 => exact HC2.out); rintro e w62 ⟨rfl, hb⟩; refine ⟨_, rfl, ?_⟩; replace HO_91 := Aside0.mk (Kd.R_below (by (with_reducible repeat (first | apply Kd.R_alloc | apply Kd.R_drewN | apply Kd.R_drew)); exact (Kd.R_mono (Kd.R_far (p := ⟨gb119, 1, none⟩) (Kd.R_far (p := ⟨gb119, 0, none⟩) (Kd.R_mono HO_91.out (fun k_ hk => (⟨hk, hk.2⟩ : _ ∧ k_ ≠ gb119))) (fun _ hk => hk.2) (.string ((rd_T28 y115 x93_3).f0))) (fun _ hk => hk.2) (.string ((rd_T28 y115 x93_3).f1))) (fun _ h_ => h_.1))) hb); replace BK101 := Aside0.mk (blk_below (g := gb101) (o := .cells #[.int .i64 a0_0, .int .i64 a0_1, .int .i64 a0_2, .string a0_3, .int .i64 a0_4, .int .i64 a0_5, .int .i64 a0_6, .int .i64 a0_7, .int .i64 a0_8, .string a0_9, .string a0_10, .string a0_11, .string a0_12] 30 (0, 0)) (bs BK101.out) hb); replace BK112 := Aside0.mk (blk_below (g := gb112) (o := .cells #[.string t104, .int .i64 t105, .int .i64 t106, .int .i64 t107, .int .i64 t108, .int .i64 t109, .bool t110] 50 (0, 0)) (bs BK112.out) hb); replace BK119 := Aside0.mk (blk_below (g := gb119) (o := .cells #[.string ((rd_T28 y115 x93_3).f0), .string ((rd_T28 y115 x93_3).f1)] 28 (0, 0)) (bs BK119.out) hb); replace HB := Aside0.mk (below_step bel hb); (try clear hb); (try clear hb2); (try clear hk); (try clear hi))
                                    go_wp2_with (fail)
                                    go_ret
                                    exact ⟨ers, bel⟩
                                · rw [if_neg c50] at H
                                  exact absurd H (by simp)
                              · rw [if_neg c49] at H
                                exact absurd H (by simp)
                            · rw [if_neg c48] at H
                              have c48b0 := decide_eq_false c48
                              clear c48
                              by_cases c63 : (a0_9.toList == a0_11.toList && (a0_10.toList == a0_12.toList)) = true
                              · rw [if_pos c63] at H
                                have c63b0 : (a0_9.toList == a0_11.toList && (a0_10.toList == a0_12.toList)) = true := c63
                                (try (have c63b1 : decide (a0_9.toList = a0_11.toList && (a0_10.toList == a0_12.toList)) = true := by simpa using c63))
                                (try (have c63b2 : (a0_9.toList == a0_11.toList && (a0_10.toList == a0_12.toList)) = true := by simpa using c63))
                                clear c63
                                obtain rfl := Option.some.inj H
                                have hnb64 := NB101_112.out
                                have hnc64 := NB112_101.out
                                obtain ⟨hcz65_0, hcz65_1, hcz65_2, hcz65_3, hcz65_4, hcz65_5, hcz65_6, hcz65_7, hcz65_8, hcz65_9, hcz65_10, hcz65_11, hcz65_12, hfz65_0, hfz65_1, hfz65_2, hfz65_3, hfz65_4, hfz65_5, hfz65_6, hfz65_7, hfz65_8, hfz65_9, hfz65_10, hfz65_11, hfz65_12⟩ := cz13 BK101.out
                                go_wp2
                                go_ret
                                exact ⟨ers, bel⟩
                              · rw [if_neg c63] at H
                                have c63b0 : (a0_9.toList == a0_11.toList && (a0_10.toList == a0_12.toList)) = false := by simpa using c63
                                (try (have c63b1 : decide (a0_9.toList = a0_11.toList && (a0_10.toList == a0_12.toList)) = false := by simpa using c63))
                                (try (have c63b2 : (a0_9.toList == a0_11.toList && (a0_10.toList == a0_12.toList)) = false := by simpa using c63))
                                (try (have c63b3 : ¬ (a0_9.toList = a0_11.toList && (a0_10.toList == a0_12.toList)) := by simpa using c63))
                                clear c63
                                obtain rfl := Option.some.inj H
                                have hnb66 := NB101_112.out
                                have hnc66 := NB112_101.out
                                obtain ⟨hcz67_0, hcz67_1, hcz67_2, hcz67_3, hcz67_4, hcz67_5, hcz67_6, hcz67_7, hcz67_8, hcz67_9, hcz67_10, hcz67_11, hcz67_12, hfz67_0, hfz67_1, hfz67_2, hfz67_3, hfz67_4, hfz67_5, hfz67_6, hfz67_7, hfz67_8, hfz67_9, hfz67_10, hfz67_11, hfz67_12⟩ := cz13 BK101.out
                                go_wp2
                                go_ret
                                exact ⟨ers, bel⟩
                      · rw [if_neg c35] at H
                        have c35b0 : (t114 == 0) = false := beq_eq_false_iff_ne.mpr c35
                        have c35b1 : (t114 != 0) = true := bne_iff_ne.mpr c35
                        obtain rfl := Option.some.inj H
                        obtain ⟨hcz68_0, hcz68_1, hcz68_2, hcz68_3, hcz68_4, hcz68_5, hcz68_6, hcz68_7, hcz68_8, hcz68_9, hcz68_10, hcz68_11, hcz68_12, hfz68_0, hfz68_1, hfz68_2, hfz68_3, hfz68_4, hfz68_5, hfz68_6, hfz68_7, hfz68_8, hfz68_9, hfz68_10, hfz68_11, hfz68_12⟩ := cz13 BK101.out
                        go_wp2_with (first | ((with_reducible refine gate_callee (f := 13) rfl ?_); refine goesL_ (some 72) rfl rfl Tryz.func13 (by kernel_rfl) rfl #[.slice A1 l1.length c1, .string a0_3] rfl arg ?_; (with_reducible refine (product_Find.calls _ _ l1 a0_3 t104 t105 t106 t107 t108 t109 t110 t111 _ ?side1 ?side2 A31.out).mono ?_); (case side1 => repeat (first | exact (Kd.C_below HR1.out HB.out) | (with_reducible refine Kd.C_alloc ?_ _) | (with_reducible refine Kd.C_drewN ?_ _) | (with_reducible refine Kd.C_drew ?_))); (case side2 => exact HC1.out); rintro e w69 ⟨rfl, hb⟩; refine ⟨_, rfl, ?_⟩; replace BK101 := Aside0.mk (blk_below (g := gb101) (bw BK101.out) hb); replace HB := Aside0.mk (below_step bel hb); (try clear hb); (try clear hb2); (try clear hk); (try clear hi)) | ((with_reducible refine gate_dst (N := 8) rfl ?_); refine box_event ?hg (N := 8) ?hd (cs := #[.string (⟨#[]⟩ : ByteArray), .int .i64 0, .int .i64 0, .int .i64 0, .int .i64 0, .int .i64 0, .bool false]) (t := 50) ?hr ?_; (case hd => rfl); (case hg => rfl); (case hr => first | (go_simp; done) | (go_simp; rfl)); intro gb112 hg w70 hbox hb; have BK112 := Aside0.mk (hbox); have GW112 := Aside0.mk ((gsz hg : w.heap.size ≤ gb112)); have GE112 := Aside0.mk ((gsz hg : w.heap.size ≤ gb112)); have NB101_112 := Aside0.mk ((nlt hg (bw BK101.out) : gb101 ≠ gb112)); have NB112_101 := Aside0.mk ((ngt hg (bw BK101.out) : gb112 ≠ gb101)); replace BK101 := Aside0.mk (blk_below (g := gb101) (bw BK101.out) hb); replace HB := Aside0.mk (below_step bel hb); clear hb hbox hg; have hnb71 := NB112_101.out; have hnc71 := NB101_112.out; obtain ⟨hcz72_0, hcz72_1, hcz72_2, hcz72_3, hcz72_4, hcz72_5, hcz72_6, hfz72_0, hfz72_1, hfz72_2, hfz72_3, hfz72_4, hfz72_5, hfz72_6⟩ := cz7 BK112.out; obtain ⟨hcz73_0, hcz73_1, hcz73_2, hcz73_3, hcz73_4, hcz73_5, hcz73_6, hcz73_7, hcz73_8, hcz73_9, hcz73_10, hcz73_11, hcz73_12, hfz73_0, hfz73_1, hfz73_2, hfz73_3, hfz73_4, hfz73_5, hfz73_6, hfz73_7, hfz73_8, hfz73_9, hfz73_10, hfz73_11, hfz73_12⟩ := cz13 BK101.out) | ((with_reducible refine gate_callee (f := 25) rfl ?_); refine goesL_ (some 78) rfl rfl Tryz.func25 (by kernel_rfl) rfl #[.agg #[.string t104, .int .i64 t105, .int .i64 t106, .int .i64 t107, .int .i64 t108, .int .i64 t109, .bool t110], .int .i64 a0_8] rfl arg ?_; (with_reducible refine (product_Price.calls kj17 t104 t105 t106 t107 t108 t109 t110 a0_8 t113 _ A32.out).mono ?_); rintro e w74 ⟨rfl, hb⟩; refine ⟨_, rfl, ?_⟩; replace BK101 := Aside0.mk (blk_below (g := gb101) (o := .cells #[.int .i64 a0_0, .int .i64 a0_1, .int .i64 a0_2, .string a0_3, .int .i64 a0_4, .int .i64 a0_5, .int .i64 a0_6, .int .i64 a0_7, .int .i64 a0_8, .string a0_9, .string a0_10, .string a0_11, .string a0_12] 30 (0, 0)) (bs BK101.out) hb); replace BK112 := Aside0.mk (blk_below (g := gb112) (o := .cells #[.string t104, .int .i64 t105, .int .i64 t106, .int .i64 t107, .int .i64 t108, .int .i64 t109, .bool t110] 50 (0, 0)) (bs BK112.out) hb); replace HB := Aside0.mk (below_step bel hb); (try clear hb); (try clear hb2); (try clear hk); (try clear hi)) | ((with_reducible refine gate_callee (f := 26) rfl ?_); refine goesL_ (some 83) rfl rfl Tryz.func26 (by kernel_rfl) rfl #[.slice A2 l2.length c2] rfl arg ?_; (with_reducible refine (member_Check.calls kj17 _ _ l2 t114 _ ?side1 ?side2 A34.out).mono ?_); (case side1 => repeat (first | exact (Kd.C_below HR2.out HB.out) | (with_reducible refine Kd.C_alloc ?_ _) | (with_reducible refine Kd.C_drewN ?_ _) | (with_reducible refine Kd.C_drew ?_))); (case side2 => exact HC2.out); rintro e w75 ⟨rfl, hb⟩; refine ⟨_, rfl, ?_⟩; replace BK101 := Aside0.mk (blk_below (g := gb101) (bw BK101.out) hb); replace BK112 := Aside0.mk (blk_below (g := gb112) (bw BK112.out) hb); replace HB := Aside0.mk (below_step bel hb); (try clear hb); (try clear hb2); (try clear hk); (try clear hi)))
                        go_ret
                        exact ⟨ers, bel⟩
                    · rw [if_neg c33] at H
                      have c33b0 : (t113 == 0) = false := beq_eq_false_iff_ne.mpr c33
                      have c33b1 : (t113 != 0) = true := bne_iff_ne.mpr c33
                      obtain rfl := Option.some.inj H
                      obtain ⟨hcz76_0, hcz76_1, hcz76_2, hcz76_3, hcz76_4, hcz76_5, hcz76_6, hcz76_7, hcz76_8, hcz76_9, hcz76_10, hcz76_11, hcz76_12, hfz76_0, hfz76_1, hfz76_2, hfz76_3, hfz76_4, hfz76_5, hfz76_6, hfz76_7, hfz76_8, hfz76_9, hfz76_10, hfz76_11, hfz76_12⟩ := cz13 BK101.out
                      go_wp2_with (first | ((with_reducible refine gate_callee (f := 13) rfl ?_); refine goesL_ (some 72) rfl rfl Tryz.func13 (by kernel_rfl) rfl #[.slice A1 l1.length c1, .string a0_3] rfl arg ?_; (with_reducible refine (product_Find.calls _ _ l1 a0_3 t104 t105 t106 t107 t108 t109 t110 t111 _ ?side1 ?side2 A31.out).mono ?_); (case side1 => repeat (first | exact (Kd.C_below HR1.out HB.out) | (with_reducible refine Kd.C_alloc ?_ _) | (with_reducible refine Kd.C_drewN ?_ _) | (with_reducible refine Kd.C_drew ?_))); (case side2 => exact HC1.out); rintro e w77 ⟨rfl, hb⟩; refine ⟨_, rfl, ?_⟩; replace BK101 := Aside0.mk (blk_below (g := gb101) (bw BK101.out) hb); replace HB := Aside0.mk (below_step bel hb); (try clear hb); (try clear hb2); (try clear hk); (try clear hi)) | ((with_reducible refine gate_dst (N := 8) rfl ?_); refine box_event ?hg (N := 8) ?hd (cs := #[.string (⟨#[]⟩ : ByteArray), .int .i64 0, .int .i64 0, .int .i64 0, .int .i64 0, .int .i64 0, .bool false]) (t := 50) ?hr ?_; (case hd => rfl); (case hg => rfl); (case hr => first | (go_simp; done) | (go_simp; rfl)); intro gb112 hg w78 hbox hb; have BK112 := Aside0.mk (hbox); have GW112 := Aside0.mk ((gsz hg : w.heap.size ≤ gb112)); have GE112 := Aside0.mk ((gsz hg : w.heap.size ≤ gb112)); have NB101_112 := Aside0.mk ((nlt hg (bw BK101.out) : gb101 ≠ gb112)); have NB112_101 := Aside0.mk ((ngt hg (bw BK101.out) : gb112 ≠ gb101)); replace BK101 := Aside0.mk (blk_below (g := gb101) (bw BK101.out) hb); replace HB := Aside0.mk (below_step bel hb); clear hb hbox hg; have hnb79 := NB112_101.out; have hnc79 := NB101_112.out; obtain ⟨hcz80_0, hcz80_1, hcz80_2, hcz80_3, hcz80_4, hcz80_5, hcz80_6, hfz80_0, hfz80_1, hfz80_2, hfz80_3, hfz80_4, hfz80_5, hfz80_6⟩ := cz7 BK112.out; obtain ⟨hcz81_0, hcz81_1, hcz81_2, hcz81_3, hcz81_4, hcz81_5, hcz81_6, hcz81_7, hcz81_8, hcz81_9, hcz81_10, hcz81_11, hcz81_12, hfz81_0, hfz81_1, hfz81_2, hfz81_3, hfz81_4, hfz81_5, hfz81_6, hfz81_7, hfz81_8, hfz81_9, hfz81_10, hfz81_11, hfz81_12⟩ := cz13 BK101.out) | ((with_reducible refine gate_callee (f := 25) rfl ?_); refine goesL_ (some 78) rfl rfl Tryz.func25 (by kernel_rfl) rfl #[.agg #[.string t104, .int .i64 t105, .int .i64 t106, .int .i64 t107, .int .i64 t108, .int .i64 t109, .bool t110], .int .i64 a0_8] rfl arg ?_; (with_reducible refine (product_Price.calls kj17 t104 t105 t106 t107 t108 t109 t110 a0_8 t113 _ A32.out).mono ?_); rintro e w82 ⟨rfl, hb⟩; refine ⟨_, rfl, ?_⟩; replace BK101 := Aside0.mk (blk_below (g := gb101) (o := .cells #[.int .i64 a0_0, .int .i64 a0_1, .int .i64 a0_2, .string a0_3, .int .i64 a0_4, .int .i64 a0_5, .int .i64 a0_6, .int .i64 a0_7, .int .i64 a0_8, .string a0_9, .string a0_10, .string a0_11, .string a0_12] 30 (0, 0)) (bs BK101.out) hb); replace BK112 := Aside0.mk (blk_below (g := gb112) (o := .cells #[.string t104, .int .i64 t105, .int .i64 t106, .int .i64 t107, .int .i64 t108, .int .i64 t109, .bool t110] 50 (0, 0)) (bs BK112.out) hb); replace HB := Aside0.mk (below_step bel hb); (try clear hb); (try clear hb2); (try clear hk); (try clear hi)))
                      go_ret
                      exact ⟨ers, bel⟩
  · rw [if_neg c5] at H
    have c5b0 : (t102 == 0) = false := beq_eq_false_iff_ne.mpr c5
    have c5b1 : (t102 != 0) = true := bne_iff_ne.mpr c5
    obtain rfl := Option.some.inj H
    refine Aside0.mk ?_
    (refine goesL_ (some 18) rfl rfl Tryz.func24 (by kernel_rfl) rfl #[.slice A1 l1.length c1, .agg #[.string a0_3, .int .i64 a0_4, .int .i64 a0_5, .int .i64 a0_6]] rfl arg ?_; (with_reducible refine (series_Check.calls k _ _ l1 a0_3 a0_4 a0_5 a0_6 t102 _ ?side1 ?side2 A4.out).mono ?_); (case side1 => repeat (first | exact (Kd.C_below HR1.out HB.out) | (with_reducible refine Kd.C_alloc ?_ _) | (with_reducible refine Kd.C_drewN ?_ _) | (with_reducible refine Kd.C_drew ?_))); (case side2 => exact HC1.out); rintro e w85 ⟨rfl, hb⟩; refine ⟨_, rfl, ?_⟩; replace BK101 := Aside0.mk (blk_below (g := gb101) (bw BK101.out) hb); replace HB := Aside0.mk (below_step bel hb); (try clear hb); (try clear hb2); (try clear hk); (try clear hi))
    go_wp2_with (fail)
    go_ret
    exact ⟨ers, bel⟩
end Go.Proofs.YtliooghmpkdmoaaGreatDoor.X
end
section
namespace Go.Proofs.YtliooghmpkdmoaaGreatDoor.X
open Go.RowKit Go.Proofs.YtliooghmpkdmoaaGreatDoorW.PrintWords Go.Proofs.YtliooghmpkdmoaaGreatDoorW.PrintLast Go.Proofs.YtliooghmpkdmoaaGreatDoorW.PrintMore
attribute [local go_sem] max2_int min2_int max_two min_two max_three min_three max_four min_four
set_option linter.unusedVariables false
set_option linter.unusedSimpArgs false
def date_here.f (a0 : Int) : Option (Bool) := if a0 ≥ 0 then (some (decide (a0 ≤ 73048))) else (some false)
set_option maxHeartbeats 8000000 in
set_option maxRecDepth 100000 in
theorem date_here.calls (a0 : Int) (r : Bool) (w : World) (h : date_here.f a0 = some r) :
    Calls Tryz.prog 78 #[.int .i64 a0] w fun e w' => e = .returned (.bool r) ∧ Drawn0 w w' := by
  have H : (if a0 ≥ 0 then (some (decide (a0 ≤ 73048))) else (some false)) = some r := h
  clear h
  by_cases c2 : a0 ≥ 0
  · rw [if_pos c2] at H
    have c2b0 : decide (0 ≤ a0) = true := decide_eq_true c2
    clear c2
    obtain rfl := Option.some.inj H
    go_enter Tryz.func78, Tryz.ntmps78
    go_wp2
    go_ret
    exact ⟨eqs, drz⟩
  · rw [if_neg c2] at H
    have c2b0 : decide (0 ≤ a0) = false := decide_eq_false c2
    clear c2
    obtain rfl := Option.some.inj H
    go_enter Tryz.func78, Tryz.ntmps78
    go_wp2
    go_ret
    exact ⟨eqs, drz⟩
def date_Weekday.f (a0 : Int) : Option (Int) := (date_here.f a0).bind fun t101 => (if t101 = true then (some (wrap64 ((Int.tmod (wrap64 (a0 + 5)) 7) + 1))) else (some 0))
set_option maxHeartbeats 8000000 in
set_option maxRecDepth 100000 in
theorem date_Weekday.calls (a0 : Int) (r : Int) (w : World) (h : date_Weekday.f a0 = some r) :
    Calls Tryz.prog 51 #[.int .i64 a0] w fun e w' => e = .returned (.int .i64 r) ∧ Drawn0 w w' := by
  have H : ((date_here.f a0).bind fun t101 => (if t101 = true then (some (wrap64 ((Int.tmod (wrap64 (a0 + 5)) 7) + 1))) else (some 0))) = some r := h
  clear h
  replace H := bnd H
  obtain ⟨t101, A20, H⟩ := H
  have A2 := Aside0.mk A20
  clear A20
  by_cases c3 : t101 = true
  · subst c3
    rw [if_pos rfl] at H
    obtain rfl := Option.some.inj H
    go_enter Tryz.func51, Tryz.ntmps51
    go_wp2_with (first | ((with_reducible refine gate_callee (f := 78) rfl ?_); refine goesL_ (some 4) rfl rfl Tryz.func78 (by kernel_rfl) rfl #[.int .i64 a0] rfl arg ?_; (with_reducible refine (date_here.calls a0 true _ A2.out).mono ?_); rintro e w' ⟨rfl, ⟨nd, rfl⟩⟩; refine ⟨_, rfl, ?_⟩))
    go_ret
    exact ⟨eqs, drz⟩
  · replace c3 := Bool.eq_false_iff.mpr c3
    subst c3
    rw [if_neg (show ¬ (false = true) by decide)] at H
    obtain rfl := Option.some.inj H
    go_enter Tryz.func51, Tryz.ntmps51
    go_wp2_with (first | ((with_reducible refine gate_callee (f := 78) rfl ?_); refine goesL_ (some 4) rfl rfl Tryz.func78 (by kernel_rfl) rfl #[.int .i64 a0] rfl arg ?_; (with_reducible refine (date_here.calls a0 false _ A2.out).mono ?_); rintro e w' ⟨rfl, ⟨nd, rfl⟩⟩; refine ⟨_, rfl, ?_⟩))
    go_ret
    exact ⟨eqs, drz⟩
def date_Nth.j0 : Nat → Int → Int → Int → Int → Bool → Option (Int × Int)
  | 0, _, _, _, _, _ => none
  | k + 1, x0, x1, x2, x3, x24 => if x24 = true then (some (0, 2)) else ((date_Of.f x0 x1 1).bind fun bt101 => (if bt101.2 = 0 then ((date_Weekday.f bt101.1).bind fun t103 => ((date_Of.f x0 x1 (wrap64 ((wrap64 (1 + (Int.tmod (wrap64 ((wrap64 (x2 - t103)) + 7)) 7))) + (wrap64 (7 * (wrap64 (x3 - 1))))))).bind fun bt104 => (some (bt104.1, bt104.2)))) else (some (0, bt101.2))))
def date_Nth.f (k : Nat) (a0 : Int) (a1 : Int) (a2 : Int) (a3 : Int) : Option (Int × Int) := if a2 < 1 then (date_Nth.j0 k a0 a1 a2 a3 true) else (if a2 > 7 then (date_Nth.j0 k a0 a1 a2 a3 true) else (if a3 < 1 then (date_Nth.j0 k a0 a1 a2 a3 true) else (date_Nth.j0 k a0 a1 a2 a3 (decide (a3 > 5)))))
set_option maxHeartbeats 8000000 in
set_option maxRecDepth 100000 in
theorem date_Nth.calls (k : Nat) (a0 : Int) (a1 : Int) (a2 : Int) (a3 : Int) (r1 : Int) (r2 : Int) (w : World) (h : date_Nth.f k a0 a1 a2 a3 = some (r1, r2)) (hGL : GlobD w) :
    Calls Tryz.prog 21 #[.int .i64 a0, .int .i64 a1, .int .i64 a2, .int .i64 a3] w fun e w' => e = .returned (.tuple #[.int .i64 r1, .int .i64 r2]) ∧ Below w.heap.size w w' := by
  have HB := Aside0.mk (Below.refl w.heap.size w)
  have HGL := Aside0.mk hGL
  clear hGL
  have H : (if a2 < 1 then (date_Nth.j0 k a0 a1 a2 a3 true) else (if a2 > 7 then (date_Nth.j0 k a0 a1 a2 a3 true) else (if a3 < 1 then (date_Nth.j0 k a0 a1 a2 a3 true) else (date_Nth.j0 k a0 a1 a2 a3 (decide (a3 > 5)))))) = some (r1, r2) := h
  clear h
  have HC5 := Aside0.mk H
  clear H
  go_enter Tryz.func21, Tryz.ntmps21
  go_upto_region 1 with (fail)
  go_cut [24] (fun v24 wc => ∃ (kq : Nat) (x24_4 : Bool), v24 = .bool x24_4 ∧ Aside0 (date_Nth.j0 kq a0 a1 a2 a3 x24_4 = some (r1, r2)) ∧ Aside0 (kq ≤ k) ∧ Aside0 (Below w.heap.size w wc))
  case first =>
    have H := HC5.out
    clear HC5
    by_cases c6 : a2 < 1
    · rw [if_pos c6] at H
      have c6b0 := decide_eq_true c6
      clear c6
      (first | rw [c6b0] | (simp only [i64_w, i32_w]; rw [c6b0]) | skip)
      have H' := Aside0.mk H
      clear H
      go_wp2
      go_meet
      case rel => exact ⟨_, (true), eqs, H', ⟨by first | omega | exact Nat.le_refl _⟩, ⟨bel⟩⟩
    · rw [if_neg c6] at H
      have c6b0 := decide_eq_false c6
      clear c6
      (first | rw [c6b0] | (simp only [i64_w, i32_w]; rw [c6b0]) | skip)
      by_cases c7 : a2 > 7
      · rw [if_pos c7] at H
        have c7b0 : decide (7 < a2) = true := decide_eq_true c7
        clear c7
        have H' := Aside0.mk H
        clear H
        go_wp2
        go_meet
        case rel => exact ⟨_, (true), eqs, H', ⟨by first | omega | exact Nat.le_refl _⟩, ⟨bel⟩⟩
      · rw [if_neg c7] at H
        have c7b0 : decide (7 < a2) = false := decide_eq_false c7
        clear c7
        by_cases c8 : a3 < 1
        · rw [if_pos c8] at H
          have c8b0 := decide_eq_true c8
          clear c8
          have H' := Aside0.mk H
          clear H
          go_wp2
          go_meet
          case rel => exact ⟨_, (true), eqs, H', ⟨by first | omega | exact Nat.le_refl _⟩, ⟨bel⟩⟩
        · rw [if_neg c8] at H
          have c8b0 := decide_eq_false c8
          clear c8
          have H' := Aside0.mk H
          clear H
          go_wp2
          go_meet
          case rel => exact ⟨_, (decide (a3 > 5)), eqs, H', ⟨by first | omega | exact Nat.le_refl _⟩, ⟨bel⟩⟩
  case rest =>
    clear HC5
    try clear c2
    try clear p2
    try clear c6
    try clear c6b0
    try clear c7
    try clear c7b0
    try clear c8
    try clear c8b0
    obtain ⟨kq, x24_4, rfl, HA, HJ4, HB⟩ := hcut
    cases kq with
    | zero => exact absurd HA.out (by simp [date_Nth.j0])
    | succ kj4 =>
      have H := HA.out
      clear HA
      simp only [date_Nth.j0] at H
      by_cases c9 : x24_4 = true
      · subst c9
        rw [if_pos rfl] at H
        simp only [Option.some.injEq, Prod.mk.injEq] at H
        obtain ⟨rfl, rfl⟩ := H
        go_wp2
        go_ret2
        exact ⟨ers, bel⟩
      · replace c9 := Bool.eq_false_iff.mpr c9
        subst c9
        rw [if_neg (show ¬ (false = true) by decide)] at H
        replace H := bnd H
        obtain ⟨⟨t101, t102⟩, A100, H⟩ := H
        replace H : (if t102 = 0 then ((date_Weekday.f t101).bind fun t103 => ((date_Of.f a0 a1 (wrap64 ((wrap64 (1 + (Int.tmod (wrap64 ((wrap64 (a2 - t103)) + 7)) 7))) + (wrap64 (7 * (wrap64 (a3 - 1))))))).bind fun bt104 => (some (bt104.1, bt104.2)))) else (some (0, t102))) = some (r1, r2) := H
        have A10 := Aside0.mk A100
        clear A100
        by_cases c11 : t102 = 0
        · rw [if_pos c11] at H
          have c11b0 : (t102 == 0) = true := beq_iff_eq.mpr c11
          have c11b1 : (t102 != 0) = false := bne_eq_false_iff_eq.mpr c11
          clear c11
          replace H := bnd H
          obtain ⟨t103, A120, H⟩ := H
          have A12 := Aside0.mk A120
          clear A120
          replace H := bnd H
          obtain ⟨⟨t104, t105⟩, A130, H⟩ := H
          replace H : (some (t104, t105)) = some (r1, r2) := H
          have A13 := Aside0.mk A130
          clear A130
          simp only [Option.some.injEq, Prod.mk.injEq] at H
          obtain ⟨rfl, rfl⟩ := H
          go_wp2_with (first | ((with_reducible refine gate_callee (f := 39) rfl ?_); refine goesL_ (some 28) rfl rfl Tryz.func39 (by kernel_rfl) rfl #[.int .i64 a0, .int .i64 a1, .int .i64 1] rfl arg ?_; (with_reducible refine (date_Of.calls a0 a1 1 t101 t102 _ A10.out (glob_of HGL.out bel)).mono ?_); rintro e w14 ⟨rfl, hb⟩; refine ⟨_, rfl, ?_⟩; replace HB := Aside0.mk (below_step bel hb); (try clear hb); (try clear hb2); (try clear hk); (try clear hi)) | ((with_reducible refine gate_callee (f := 51) rfl ?_); refine goesL_ (some 36) rfl rfl Tryz.func51 (by kernel_rfl) rfl #[.int .i64 t101] rfl arg ?_; (with_reducible refine (date_Weekday.calls t101 t103 _ A12.out).mono ?_); rintro e w' ⟨rfl, ⟨nd, rfl⟩⟩; refine ⟨_, rfl, ?_⟩) | ((with_reducible refine gate_callee (f := 39) rfl ?_); refine goesL_ (some 48) rfl rfl Tryz.func39 (by kernel_rfl) rfl #[.int .i64 a0, .int .i64 a1, .int .i64 (wrap64 ((wrap64 (1 + (Int.tmod (wrap64 ((wrap64 (a2 - t103)) + 7)) 7))) + (wrap64 (7 * (wrap64 (a3 - 1))))))] rfl arg ?_; (with_reducible refine (date_Of.calls a0 a1 (wrap64 ((wrap64 (1 + (Int.tmod (wrap64 ((wrap64 (a2 - t103)) + 7)) 7))) + (wrap64 (7 * (wrap64 (a3 - 1)))))) t104 t105 _ A13.out (glob_of HGL.out bel)).mono ?_); rintro e w15 ⟨rfl, hb⟩; refine ⟨_, rfl, ?_⟩; replace HB := Aside0.mk (below_step bel hb); (try clear hb); (try clear hb2); (try clear hk); (try clear hi)))
          go_ret2
          exact ⟨ers, bel⟩
        · rw [if_neg c11] at H
          have c11b0 : (t102 == 0) = false := beq_eq_false_iff_ne.mpr c11
          have c11b1 : (t102 != 0) = true := bne_iff_ne.mpr c11
          simp only [Option.some.injEq, Prod.mk.injEq] at H
          obtain ⟨rfl, rfl⟩ := H
          go_wp2_with (first | ((with_reducible refine gate_callee (f := 39) rfl ?_); refine goesL_ (some 28) rfl rfl Tryz.func39 (by kernel_rfl) rfl #[.int .i64 a0, .int .i64 a1, .int .i64 1] rfl arg ?_; (with_reducible refine (date_Of.calls a0 a1 1 t101 t102 _ A10.out (glob_of HGL.out bel)).mono ?_); rintro e w16 ⟨rfl, hb⟩; refine ⟨_, rfl, ?_⟩; replace HB := Aside0.mk (below_step bel hb); (try clear hb); (try clear hb2); (try clear hk); (try clear hi)))
          go_ret2
          exact ⟨ers, bel⟩
def cmp_isNaN_int.f (a0 : Int) : Option (Bool) := some (a0 != a0)
set_option maxHeartbeats 8000000 in
set_option maxRecDepth 100000 in
theorem cmp_isNaN_int.calls (a0 : Int) (r : Bool) (w : World) (h : cmp_isNaN_int.f a0 = some r) :
    Calls Tryz.prog 102 #[.int .i64 a0] w fun e w' => e = .returned (.bool r) ∧ Drawn0 w w' := by
  have H : (some (a0 != a0)) = some r := h
  clear h
  obtain rfl := Option.some.inj H
  go_enter Tryz.func102, Tryz.ntmps102
  go_wp2
  go_ret
  exact ⟨eqs, drz⟩
end Go.Proofs.YtliooghmpkdmoaaGreatDoor.X
end
