/- For SeriesLists: contracts, and facts on lists and numbers, that it uses (part 4). -/
import Derived.Test.YtieifncibojciaaDoorSeriesListsc3
section
namespace Go.Proofs.YtieifncibojciaaDoor.X
open Go.RowKit Go.Proofs.YtieifncibojciaaDoorW.PrintWords Go.Proofs.YtieifncibojciaaDoorW.PrintLast Go.Proofs.YtieifncibojciaaDoorW.PrintMore
attribute [local go_sem] max2_int min2_int max_two min_two max_three min_three max_four min_four
set_option linter.unusedVariables false
set_option linter.unusedSimpArgs false
mutual
def api_Series_68.l0 : Nat → List (S23) → List (S23) → List (S23) → Option ((List (S23)))
  | 0, _, _, _ => none
  | k + 1, x5, x6, x7 => if (x5.length : Int) > 0 then (api_Series_68.j1 k x5 x6 x7 (decide ((x6.length : Int) > 0))) else (api_Series_68.j1 k x5 x6 x7 false)
def api_Series_68.j1 : Nat → List (S23) → List (S23) → List (S23) → Bool → Option ((List (S23)))
  | 0, _, _, _, _ => none
  | k + 1, x5, x6, x7, x37 => if x37 = true then (if 0 < (x6.length : Int) then (if 0 < (x5.length : Int) then ((series_Compare.f ((rd_T23 x6 0).f0) ((rd_T23 x6 0).f1) ((rd_T23 x6 0).f2) ((rd_T23 x6 0).f3) ((rd_T23 x5 0).f0) ((rd_T23 x5 0).f1) ((rd_T23 x5 0).f2) ((rd_T23 x5 0).f3)).bind fun t123 => (if t123 < 0 then (if x7.length < 3518437208883 then (if 1 ≤ (x6.length : Int) then (api_Series_68.l0 k x5 (x6.drop (1 : Int).toNat) (x7 ++ [(⟨(rd_T23 x6 0).f0, (rd_T23 x6 0).f1, (rd_T23 x6 0).f2, (rd_T23 x6 0).f3⟩ : S23)])) else (none)) else (none)) else (if x7.length < 3518437208883 then (if 1 ≤ (x5.length : Int) then (api_Series_68.l0 k (x5.drop (1 : Int).toNat) x6 (x7 ++ [(⟨(rd_T23 x5 0).f0, (rd_T23 x5 0).f1, (rd_T23 x5 0).f2, (rd_T23 x5 0).f3⟩ : S23)])) else (none)) else (none)))) else (none)) else (none)) else (if x7.length + x5.length < 3518437208883 then ((some (x7 ++ x5 : List (S23))).bind fun y138 => (if y138.length + x6.length < 3518437208883 then (some (y138 ++ x6)) else (none))) else (none))
def api_Series_68.f : Nat → List (S23) → Option ((List (S23)))
  | 0, _ => none
  | k + 1, l0 => if (l0.length : Int) < 2 then (if ([] : List (S23)).length + l0.length < 3518437208883 then (some (([] : List (S23)) ++ l0)) else (none)) else (if 0 ≤ (wrap64 ((l0.length : Int) / 2)) then (if (wrap64 ((l0.length : Int) / 2)) ≤ (l0.length : Int) then ((api_Series_68.f k (l0.take ((wrap64 ((l0.length : Int) / 2)) : Int).toNat)).bind fun t108 => ((api_Series_68.f k (l0.drop ((wrap64 ((l0.length : Int) / 2)) : Int).toNat)).bind fun t115 => (if ((l0.length : Int) : Int).toNat ≤ 7036874417766 then (api_Series_68.l0 k t108 t115 (([] : List (S23)))) else (none)))) else (none)) else (none))
end
def api_Series_68.T3 : Bool × List (List Nat × List Nat) := (true, [([], []), ([], []), ([1], [1]), ([2], [2]), ([0, 3], [0, 3]), ([], []), ([4, 5], [4, 5]), ([], []), ([], []), ([8], [8]), ([9], [9]), ([7, 10], [7, 10]), ([], []), ([11, 12, 6], [11, 12]), ([6, 13, 0, 1, 2, 3, 4, 5, 6], [6]), ([13, 14, 0, 1, 2, 3, 4, 5, 6, 7, 8, 9, 10, 11, 12, 13, 14], [13])])
def api_Series_68.B3 : List Nat := [0, 0, 2, 6, 15, 0, 63, 0, 0, 256, 768, 1920, 0, 8191, 16383, 32767]
theorem api_Series_68.tab3 : rtab .any (opsOf Tryd.f68 3) = api_Series_68.T3 := by kernel_rfl
theorem api_Series_68.bits3 : waitsOk api_Series_68.T3.2 api_Series_68.B3 = true := by kernel_rfl
def api_Series_68.T6 : Bool × List (List Nat × List Nat) := (true, [([], []), ([], []), ([1], [1]), ([2], [2]), ([], []), ([4], [4]), ([5], [5]), ([0, 3, 6], [0, 3, 6]), ([7], [7])])
def api_Series_68.B6 : List Nat := [0, 0, 2, 6, 0, 16, 48, 127, 255]
theorem api_Series_68.tab6 : rtab .any (opsOf Tryd.f68 6) = api_Series_68.T6 := by kernel_rfl
theorem api_Series_68.bits6 : waitsOk api_Series_68.T6.2 api_Series_68.B6 = true := by kernel_rfl
def api_Series_68.T7 : Bool × List (List Nat × List Nat) := (true, [([], []), ([], []), ([1], [1]), ([2], [2]), ([3], [3]), ([0, 4], [0, 4]), ([], []), ([6], [6]), ([5, 5, 0, 1, 2, 3, 4, 5], [0, 5]), ([7, 8, 0, 1, 2, 3, 4, 5, 6, 7, 8], [1, 6, 7])])
def api_Series_68.B7 : List Nat := [0, 0, 2, 6, 14, 31, 0, 64, 63, 511]
theorem api_Series_68.tab7 : rtab .any (opsOf Tryd.f68 7) = api_Series_68.T7 := by kernel_rfl
theorem api_Series_68.bits7 : waitsOk api_Series_68.T7.2 api_Series_68.B7 = true := by kernel_rfl
def api_Series_68.T8 : Bool × List (List Nat × List Nat) := (true, [([], []), ([], []), ([1], [1]), ([2], [2]), ([3], [3]), ([0, 4], [0, 4]), ([], []), ([6], [6]), ([5, 5, 0, 1, 2, 3, 4, 5], [0, 5]), ([7, 8, 0, 1, 2, 3, 4, 5, 6, 7, 8], [1, 6, 7])])
def api_Series_68.B8 : List Nat := [0, 0, 2, 6, 14, 31, 0, 64, 63, 511]
theorem api_Series_68.tab8 : rtab .any (opsOf Tryd.f68 8) = api_Series_68.T8 := by kernel_rfl
theorem api_Series_68.bits8 : waitsOk api_Series_68.T8.2 api_Series_68.B8 = true := by kernel_rfl
set_option maxHeartbeats 8000000 in
set_option maxRecDepth 100000 in
theorem api_Series_68.calls (k : Nat) : ∀ (A0 : Option Addr) (c0 : Nat) (l0 : List (S23)) (r : List (S23)) (w : World) (hr0 : Kd.C k23 w A0 l0.length l0) (hc0 : l0.length ≤ c0) (h : api_Series_68.f k l0 = some r),
    Calls Tryd.prog 68 #[.slice A0 l0.length c0, .func (.func 20) #[] #[]] w fun e w' => ∃ v0_ : Value, e = .returned (v0_) ∧ Kd.R k23 23 w' w.heap.size (fun _ => True) v0_ r ∧ Below w.heap.size w w' := by
  induction k using Nat.strongRecOn with
  | _ k ih =>
  intro A0 c0 l0 r w hr0 hc0 h
  cases k with
  | zero => exact absurd h (by simp [api_Series_68.f])
  | succ k =>
  simp only [api_Series_68.f] at h
  have hu23 := Tryd.underlying23
  have HR0 := Aside0.mk hr0
  have HC0 := Aside0.mk hc0
  clear hr0 hc0
  have HB := Aside0.mk (Below.refl w.heap.size w)
  have H : (if (l0.length : Int) < 2 then (if ([] : List (S23)).length + l0.length < 3518437208883 then (some (([] : List (S23)) ++ l0)) else (none)) else (if 0 ≤ (wrap64 ((l0.length : Int) / 2)) then (if (wrap64 ((l0.length : Int) / 2)) ≤ (l0.length : Int) then ((api_Series_68.f k (l0.take ((wrap64 ((l0.length : Int) / 2)) : Int).toNat)).bind fun t108 => ((api_Series_68.f k (l0.drop ((wrap64 ((l0.length : Int) / 2)) : Int).toNat)).bind fun t115 => (if ((l0.length : Int) : Int).toNat ≤ 7036874417766 then (api_Series_68.l0 k t108 t115 (([] : List (S23)))) else (none)))) else (none)) else (none))) = some r := h
  clear h
  by_cases c2 : (l0.length : Int) < 2
  · rw [if_pos c2] at H
    have c2b0 : decide ((l0.length : Int) < 2) = true := decide_eq_true c2
    have c2b1 : decide (l0.length < 2) = true := decide_eq_true (by omega)
    clear c2
    by_cases c3 : ([] : List (S23)).length + l0.length < 3518437208883
    · rw [if_pos c3] at H
      have LMc3 := Aside0.mk c3
      clear c3
      obtain ⟨y101, hy101⟩ : ∃ y_ : List (S23), y_ = (([] : List (S23)) ++ l0) := ⟨_, rfl⟩
      replace H : (some y101) = some r := by first | (rw [hy101]; with_reducible exact H) | (have H2_ := (Option.bind_some _ _).symm.trans H; rw [hy101]; with_reducible exact H2_) | (have H2_ := (Option.bind_some _ _).symm.trans H; with_reducible exact H2_) | with_reducible exact H | (rw [hy101]; exact H) | exact H
      have Ny101 := Aside0.mk hy101
      clear hy101
      obtain rfl := Option.some.inj H
      go_enter Tryd.func68, Tryd.ntmps68
      go_wp2_with (first | ((with_reducible refine gate_builtin (b := .append) (xs := #[.const (.slice none 0 0), .tmp 11]) rfl ?_); (try (refine gate_guard (by rfl) ?_; dsimp only)); at_builtin; refine Kd.R_append_rows k23 (w0 := w) w.heap.size rfl (.const (.slice none 0 0)) (.tmp 11) 35 23 (.agg #[(.string ⟨#[]⟩), (.int .i64 0), (.int .i64 0), (.int .i64 0)]) 40 rfl Tryd.underlying35 info23 rfl (by decide) (by omega) (.slice none 0 0) ([] : List (S23)) l0 _ _ _ (fun _ => True) (fun _ => False) rfl rfl ?aO ?aR (fun _ _ h => h) (fun _ h => h.elim) ?aF ?aB ?aS ?aL ?_; (case aR => repeat (first | exact HR0.out | (with_reducible refine Kd.C_alloc ?_ _) | (with_reducible refine Kd.C_drewN ?_ _) | (with_reducible refine Kd.C_drew ?_))); (case aB => exact (by repeat (first | (with_reducible first | exact HB.out | apply below_alloc | apply pw_below_drewN | apply below_drew1) | exact HB.out))); (case aF => exact (fun _ _ => trivial)); (case aO => exact ((Kd.R_nil _ _ _ _ (fun _ => True)))); (case aS => exact (below_size (by repeat (first | (with_reducible first | exact HB.out | apply below_alloc | apply pw_below_drewN | apply below_drew1) | exact HB.out)))); (case aL => have := LMc3.out; omega); intro v102 w4 ho hb hg hat; rw [← Ny101.out] at ho; have n0_ := Aside0.mk (hb); have n1_ := Aside0.mk (ho); clear HB; have HB := n0_; have HO103 := n1_; clear n0_ n1_; clear ho hb hg hat))
      go_ret
      exact ⟨_, by first | rfl | (simp [errW_none, errW_some] <;> rfl) | (simp [*, errW_none, errW_some] <;> rfl), by (with_reducible repeat (first | apply Kd.R_alloc | apply Kd.R_drewN | apply Kd.R_drew)); exact HO103.out, by repeat (first | (with_reducible first | exact HB.out | apply below_alloc | apply pw_below_drewN | apply below_drew1) | exact HB.out)⟩
    · rw [if_neg c3] at H
      exact absurd H (by simp)
  · rw [if_neg c2] at H
    have c2b0 : decide ((l0.length : Int) < 2) = false := decide_eq_false c2
    have c2b1 : decide (l0.length < 2) = false := decide_eq_false (by omega)
    clear c2
    obtain ⟨ji5, hji5⟩ : ∃ j_ : Int, (wrap64 ((l0.length : Int) / 2)) = j_ := ⟨_, rfl⟩
    replace H : (if 0 ≤ (ji5) then (if (ji5) ≤ (l0.length : Int) then ((api_Series_68.f k (l0.take ((ji5) : Int).toNat)).bind fun t108 => ((api_Series_68.f k (l0.drop ((ji5) : Int).toNat)).bind fun t115 => (if ((l0.length : Int) : Int).toNat ≤ 7036874417766 then (api_Series_68.l0 k t108 t115 (([] : List (S23)))) else (none)))) else (none)) else (none)) = some r := by first | (rw [hji5] at H; exact H) | (simp only [hji5] at H ⊢; exact H)
    have hji5w : (IntKind.i64.wrap ((l0.length : Int) / 2)) = ji5 := (i64_w _).trans hji5
    by_cases c6 : 0 ≤ (ji5)
    · rw [if_pos c6] at H
      have c6b0 := eq_true c6
      have c6b1 : decide (0 ≤ (ji5)) = true := decide_eq_true c6
      clear c6
      by_cases c7 : (ji5) ≤ (l0.length : Int)
      · rw [if_pos c7] at H
        have c7b0 := eq_true c7
        have c7b1 : decide ((ji5) ≤ (l0.length : Int)) = true := decide_eq_true c7
        clear c7
        obtain ⟨y104, hy104⟩ : ∃ y_ : List (S23), y_ = (l0.take ((ji5) : Int).toNat) := ⟨_, rfl⟩
        replace H : ((api_Series_68.f k y104).bind fun t108 => ((api_Series_68.f k (l0.drop ((ji5) : Int).toNat)).bind fun t115 => (if ((l0.length : Int) : Int).toNat ≤ 7036874417766 then (api_Series_68.l0 k t108 t115 (([] : List (S23)))) else (none)))) = some r := by first | (rw [hy104]; with_reducible exact H) | (have H2_ := (Option.bind_some _ _).symm.trans H; rw [hy104]; with_reducible exact H2_) | (have H2_ := (Option.bind_some _ _).symm.trans H; with_reducible exact H2_) | with_reducible exact H | (rw [hy104]; exact H) | exact H
        have Ny104 := Aside0.mk hy104
        clear hy104
        replace H := Option.bind_eq_some_iff.mp H
        obtain ⟨t108, A80, H⟩ := H
        replace H : ((api_Series_68.f k (l0.drop ((ji5) : Int).toNat)).bind fun t115 => (if ((l0.length : Int) : Int).toNat ≤ 7036874417766 then (api_Series_68.l0 k t108 t115 (([] : List (S23)))) else (none))) = some r := H
        have A8 := Aside0.mk A80
        clear A80
        have c9b0 := eq_true (of_decide_eq_true (by first | (with_reducible assumption) | assumption) : 0 ≤ (ji5))
        have c10b0 := eq_true (of_decide_eq_true (by first | (with_reducible assumption) | assumption) : (ji5) ≤ (l0.length : Int))
        obtain ⟨y111, hy111⟩ : ∃ y_ : List (S23), y_ = (l0.drop ((ji5) : Int).toNat) := ⟨_, rfl⟩
        replace H : ((api_Series_68.f k y111).bind fun t115 => (if ((l0.length : Int) : Int).toNat ≤ 7036874417766 then (api_Series_68.l0 k t108 t115 (([] : List (S23)))) else (none))) = some r := by first | (rw [hy111]; with_reducible exact H) | (have H2_ := (Option.bind_some _ _).symm.trans H; rw [hy111]; with_reducible exact H2_) | (have H2_ := (Option.bind_some _ _).symm.trans H; with_reducible exact H2_) | with_reducible exact H | (rw [hy111]; exact H) | exact H
        have Ny111 := Aside0.mk hy111
        clear hy111
        replace H := Option.bind_eq_some_iff.mp H
        obtain ⟨t115, A110, H⟩ := H
        replace H : (if ((l0.length : Int) : Int).toNat ≤ 7036874417766 then (api_Series_68.l0 k t108 t115 (([] : List (S23)))) else (none)) = some r := H
        have A11 := Aside0.mk A110
        clear A110
        by_cases c12 : ((l0.length : Int) : Int).toNat ≤ 7036874417766
        · rw [if_pos c12] at H
          have c12b0 := eq_true c12
          have c12b1 : decide (((l0.length : Int) : Int).toNat ≤ 7036874417766) = true := decide_eq_true c12
          clear c12
          obtain ⟨y118, hy118⟩ : ∃ y_ : List (S23), y_ = (([] : List (S23))) := ⟨_, rfl⟩
          replace H : (api_Series_68.l0 k t108 t115 y118) = some r := by first | (rw [hy118]; with_reducible exact H) | (have H2_ := (Option.bind_some _ _).symm.trans H; rw [hy118]; with_reducible exact H2_) | (have H2_ := (Option.bind_some _ _).symm.trans H; with_reducible exact H2_) | with_reducible exact H | (rw [hy118]; exact H) | exact H
          have Ny118 := Aside0.mk hy118
          clear hy118
          have H' := Aside0.mk H
          clear H
          go_enter Tryd.func68, Tryd.ntmps68
          try go_wp2
          have n0_ := Aside0.mk (below_drew1 HB.out)
          clear HB
          have HB := n0_
          clear n0_
          have q14 : ((ji5) : Int) ≤ ((l0.length : Int) : Int) := of_decide_eq_true (by first | (with_reducible assumption) | assumption)
          obtain ⟨i014, hi014, _, hsz14, _⟩ := info_parts info23
          have hroom14 : l0.length ≤ c0 := HC0.out
          have hC14 : Kd.C k23 _ A0 l0.length l0 := HR0.out
          have hcut14 := cut_to (P := Tryd.prog) 35 23 .i64 Tryd.underlying35 hi014 A0 l0.length c0 (ji5) (of_decide_eq_true (by first | (with_reducible assumption) | assumption)) q14 hroom14
          have hr14 := Kd.C_take (m := ((ji5) : Int).toNat) hC14 (by omega)
          have hy14 : y104.length = ((ji5) : Int).toNat := (by rw [Ny104.out, List.length_take]; omega)
          rw [← Ny104.out] at hr14
          rw [← hy14] at hcut14
          have HR107 := Aside0.mk hr14
          have HC107 := Aside0.mk (show y104.length ≤ c0 from by omega)
          clear hr14 hC14 hroom14 hi014 hsz14
          have KY14 := Aside0.mk hy14
          clear hy14
          replace q14 := eq_true q14
          have q15 : ((ji5) : Int) ≤ ((l0.length : Int) : Int) := of_decide_eq_true (by first | (with_reducible assumption) | assumption)
          obtain ⟨i015, hi015, _, hsz15, _⟩ := info_parts info23
          have hroom15 : l0.length ≤ c0 := HC0.out
          have hC15 : Kd.C k23 _ A0 l0.length l0 := HR0.out
          have q015 : (0 : Int) ≤ ((ji5) : Int) := of_decide_eq_true (by first | (with_reducible assumption) | assumption)
          have hcut15 := cut_from (P := Tryd.prog) 35 23 .i64 Tryd.underlying35 hi015 4 hsz15 A0 l0.length c0 (ji5) q015 q15
          have hr15 := Kd.C_drop (m := ((ji5) : Int).toNat) (c := c0) hC15 (by omega) hroom15
          obtain ⟨A15, hA15⟩ : ∃ A1, A1 = (if c0 = ((ji5) : Int).toNat then A0 else (A0 : Option Addr).map (·.add (((ji5) : Int).toNat * 4))) := ⟨_, rfl⟩
          obtain ⟨c15, hc15⟩ : ∃ c1, c1 = c0 - ((ji5) : Int).toNat := ⟨_, rfl⟩
          have hy15 : y111.length = l0.length - ((ji5) : Int).toNat := (by rw [Ny111.out, List.length_drop] <;> omega)
          rw [show (l0).drop ((ji5) : Int).toNat = y111 from Ny111.out.symm] at hr15
          replace hr15 : Kd.C k23 _ A15 y111.length y111 := (by rw [hA15]; exact hr15)
          rw [← hy15, ← hA15, ← hc15] at hcut15
          have HR114 := Aside0.mk hr15
          have HC114 := Aside0.mk (show y111.length ≤ c15 from by rw [hy15, hc15]; exact Nat.sub_le_sub_right hroom15 _)
          clear hr15 hC15 hroom15 hi015 hsz15 hc15
          have KY15 := Aside0.mk hy15
          have KA15 := Aside0.mk hA15
          clear hy15 hA15
          replace q15 := eq_true q15
          refine start_ (n := 16) (S := fun w' => True) (ds := []) #[false, false, false, false, false, false, false, false, false, false, false, false, false, false, false, false] (by kernel_rfl) rfl rfl trivial (fun hHeld => ?_); refine with_tabW api_Series_68.tab3 api_Series_68.bits3 (fun HT_ HW_ => ?_)
          generalize w.drew = w13 at HB HR107 HR114 hHeld ⊢
          refine pure_ (i := 0) (N := some 13) (v := ?_) (a' := ?_) #[true, false, false, false, false, false, false, false, false, false, false, false, false, false, false, false] rfl rfl (any_of HT_.out (by kernel_rfl)) (fun _ _ _ h => h) (Or.inl ⟨by rfl, ?_⟩) ?_ ?_
          rotate_left
          · intro w'
            go_simp
            with_reducible rfl
          rotate_left
          · simp only [Act.put, List.setIfInBounds_toArray, List.set_cons_zero, List.set_cons_succ, i64_w, i32_w]
            rfl
          refine pure_ (i := 1) (N := some 14) (v := ?_) (a' := ?_) #[true, true, false, false, false, false, false, false, false, false, false, false, false, false, false, false] rfl rfl (any_of HT_.out (by kernel_rfl)) (fun _ _ _ h => h) (Or.inl ⟨by rfl, ?_⟩) ?_ ?_
          rotate_left
          · intro w'
            go_simp
            with_reducible rfl
          rotate_left
          · simp only [Act.put, List.setIfInBounds_toArray, List.set_cons_zero, List.set_cons_succ, i64_w, i32_w]
            rfl
          refine pure_ (i := 2) (N := some 15) (v := ?_) (a' := ?_) #[true, true, true, false, false, false, false, false, false, false, false, false, false, false, false, false] rfl rfl (any_of HT_.out (by kernel_rfl)) (fun _ _ _ h => h) (Or.inl ⟨by rfl, ?_⟩) ?_ ?_
          rotate_left
          · intro w'
            go_simp
            with_reducible rfl
          rotate_left
          · simp only [Act.put, List.setIfInBounds_toArray, List.set_cons_zero, List.set_cons_succ, i64_w, i32_w]
            rfl
          refine pure_ (i := 3) (N := some 16) (v := ?_) (a' := ?_) #[true, true, true, true, false, false, false, false, false, false, false, false, false, false, false, false] rfl rfl (any_of HT_.out (by kernel_rfl)) (fun _ _ _ h => h) (Or.inl ⟨by rfl, ?_⟩) ?_ ?_
          rotate_left
          · intro w'
            go_simp
            with_reducible rfl
          rotate_left
          · simp only [Act.put, List.setIfInBounds_toArray, List.set_cons_zero, List.set_cons_succ, i64_w, i32_w]
            rfl
          refine pure_ (i := 4) (N := some 17) (v := ?_) (a' := ?_) #[true, true, true, true, true, false, false, false, false, false, false, false, false, false, false, false] rfl rfl (any_of HT_.out (by kernel_rfl)) (fun _ _ _ h => h) (Or.inl ⟨by rfl, ?_⟩) ?_ ?_
          rotate_left
          · intro w'
            go_simp
            with_reducible rfl
          rotate_left
          · simp only [Act.put, List.setIfInBounds_toArray, List.set_cons_zero, List.set_cons_succ, i64_w, i32_w]
            rfl
          refine pure_ (i := 5) (N := some 18) (v := ?_) (a' := ?_) #[true, true, true, true, true, true, false, false, false, false, false, false, false, false, false, false] rfl rfl (any_of HT_.out (by kernel_rfl)) (fun _ _ _ h => h) (Or.inl ⟨by rfl, ?_⟩) ?_ ?_
          rotate_left
          · intro w'
            go_simp
            with_reducible rfl
          rotate_left
          · simp only [Act.put, List.setIfInBounds_toArray, List.set_cons_zero, List.set_cons_succ, i64_w, i32_w]
            rfl
          refine pure_ (i := 7) (N := some 20) (v := ?_) (a' := ?_) #[true, true, true, true, true, true, false, true, false, false, false, false, false, false, false, false] rfl rfl (any_of HT_.out (by kernel_rfl)) (fun _ _ _ h => h) (Or.inl ⟨by rfl, ?_⟩) ?_ ?_
          rotate_left
          · intro w'
            go_simp
            with_reducible rfl
          rotate_left
          · simp only [Act.put, List.setIfInBounds_toArray, List.set_cons_zero, List.set_cons_succ, i64_w, i32_w]
            rfl
          refine pure_ (i := 8) (N := some 21) (v := ?_) (a' := ?_) #[true, true, true, true, true, true, false, true, true, false, false, false, false, false, false, false] rfl rfl (any_of HT_.out (by kernel_rfl)) (fun _ _ _ h => h) (Or.inl ⟨by rfl, ?_⟩) ?_ ?_
          rotate_left
          · intro w'
            go_simp
            with_reducible rfl
          rotate_left
          · simp only [Act.put, List.setIfInBounds_toArray, List.set_cons_zero, List.set_cons_succ, i64_w, i32_w]
            rfl
          refine pure_ (i := 9) (N := some 22) (v := ?_) (a' := ?_) #[true, true, true, true, true, true, false, true, true, true, false, false, false, false, false, false] rfl rfl (any_of HT_.out (by kernel_rfl)) (fun _ _ _ h => h) (Or.inl ⟨by rfl, ?_⟩) ?_ ?_
          rotate_left
          · intro w'
            go_simp
            with_reducible rfl
          rotate_left
          · simp only [Act.put, List.setIfInBounds_toArray, List.set_cons_zero, List.set_cons_succ, i64_w, i32_w]
            rfl
          refine pure_ (i := 10) (N := some 23) (v := ?_) (a' := ?_) #[true, true, true, true, true, true, false, true, true, true, true, false, false, false, false, false] rfl rfl (any_of HT_.out (by kernel_rfl)) (fun _ _ _ h => h) (Or.inl ⟨by rfl, ?_⟩) ?_ ?_
          rotate_left
          · intro w'
            go_simp
            with_reducible rfl
          rotate_left
          · simp only [Act.put, List.setIfInBounds_toArray, List.set_cons_zero, List.set_cons_succ, i64_w, i32_w]
            rfl
          refine pure_ (i := 11) (N := some 24) (v := ?_) (a' := ?_) #[true, true, true, true, true, true, false, true, true, true, true, true, false, false, false, false] rfl rfl (any_of HT_.out (by kernel_rfl)) (fun _ _ _ h => h) (Or.inl ⟨by rfl, ?_⟩) ?_ ?_
          rotate_left
          · intro w'
            go_simp
            with_reducible rfl
          rotate_left
          · simp only [Act.put, List.setIfInBounds_toArray, List.set_cons_zero, List.set_cons_succ, i64_w, i32_w]
            rfl
          refine pure_ (i := 12) (N := some 25) (v := ?_) (a' := ?_) #[true, true, true, true, true, true, false, true, true, true, true, true, true, false, false, false] rfl rfl (any_of HT_.out (by kernel_rfl)) (fun _ _ _ h => h) (Or.inl ⟨by rfl, ?_⟩) ?_ ?_
          rotate_left
          · intro w'
            go_simp
            with_reducible rfl
          rotate_left
          · simp only [Act.put, List.setIfInBounds_toArray, List.set_cons_zero, List.set_cons_succ, i64_w, i32_w]
            rfl
          refine one_ (i := 6) (N := some 19) #[true, true, true, true, true, true, true, true, true, true, true, true, true, false, false, false] rfl rfl (one_of HT_.out (by kernel_rfl)) (by decide) (fun K hK => ?_)
          refine goes_ Tryd.func68 (by kernel_rfl) rfl #[.slice A0 y104.length c0, .func (.func 20) #[] #[]] (by rfl) rfl rfl (by (try simp only [List.map_toArray, List.map_cons, List.map_nil]); first | done | rfl | (simp only [List.length_drop, List.length_take]; rfl)) ?_
          with_reducible refine (ih k (by omega) _ _ y104 t108 _ ?side1 ?side2 A8.out).mono ?_
          (case side1 => repeat (first | exact (Kd.C_below HR107.out HB.out) | (with_reducible refine Kd.C_alloc ?_ _) | (with_reducible refine Kd.C_drewN ?_ _) | (with_reducible refine Kd.C_drew ?_)))
          (case side2 => exact HC107.out)
          rintro e w16 ⟨v109, rfl, ho0, hb⟩
          refine ⟨_, rfl, ?_⟩
          have n0_ := Aside0.mk (Kd.R_lower ho0 (below_size (by repeat (first | (with_reducible first | exact HB.out | apply below_alloc | apply pw_below_drewN | apply below_drew1) | exact HB.out))))
          have n1_ := Aside0.mk (below_step (by repeat (first | (with_reducible first | exact HB.out | apply below_alloc | apply pw_below_drewN | apply below_drew1) | exact HB.out)) hb)
          clear HB
          have HO110 := n0_
          have HB := n1_
          clear n0_ n1_
          (try clear hb)
          (try clear hb2)
          (try clear hk)
          (try clear hi)
          (try clear ho0)
          refine hK.out _ _ trivial (fun hHeld => ?_)
          clear hK K
          refine norm_ (a' := ?_) ?_ ?_
          rotate_left
          · show Act.put _ (some 19) _ = _
            simp only [Act.put, List.setIfInBounds_toArray, List.set_cons_zero, List.set_cons_succ, i64_w, i32_w]
            rfl
          refine one_ (i := 13) (N := some 26) #[true, true, true, true, true, true, true, true, true, true, true, true, true, true, false, false] rfl rfl (one_of HT_.out (by kernel_rfl)) (by decide) (fun K hK => ?_)
          refine goes_ Tryd.func68 (by kernel_rfl) rfl #[.slice A15 y111.length c15, .func (.func 20) #[] #[]] (by rfl) rfl rfl (by (try simp only [List.map_toArray, List.map_cons, List.map_nil]); first | done | rfl | (simp only [List.length_drop, List.length_take]; rfl)) ?_
          with_reducible refine (ih k (by omega) _ _ y111 t115 _ ?side1 ?side2 A11.out).mono ?_
          (case side1 => repeat (first | exact (Kd.C_below HR114.out HB.out) | (with_reducible refine Kd.C_alloc ?_ _) | (with_reducible refine Kd.C_drewN ?_ _) | (with_reducible refine Kd.C_drew ?_)))
          (case side2 => exact HC114.out)
          rintro e w17 ⟨v116, rfl, ho0, hb⟩
          refine ⟨_, rfl, ?_⟩
          have n0_ := Aside0.mk (Kd.R_elder' (by (with_reducible repeat (first | apply Kd.R_alloc | apply Kd.R_drewN | apply Kd.R_drew)); exact HO110.out) (Kd.R_base ho0) hb)
          have n1_ := Aside0.mk (Kd.R_lower (Kd.R_new' ho0 (Kd.R_lt (by (with_reducible repeat (first | apply Kd.R_alloc | apply Kd.R_drewN | apply Kd.R_drew)); exact HO110.out))) (below_size (by repeat (first | (with_reducible first | exact HB.out | apply below_alloc | apply pw_below_drewN | apply below_drew1) | exact HB.out))))
          have n2_ := Aside0.mk (below_step (by repeat (first | (with_reducible first | exact HB.out | apply below_alloc | apply pw_below_drewN | apply below_drew1) | exact HB.out)) hb)
          clear HO110
          clear HB
          have HO110 := n0_
          have HO117 := n1_
          have HB := n2_
          clear n0_ n1_ n2_
          (try clear hb)
          (try clear hb2)
          (try clear hk)
          (try clear hi)
          (try clear ho0)
          refine hK.out _ _ trivial (fun hHeld => ?_)
          clear hK K
          refine norm_ (a' := ?_) ?_ ?_
          rotate_left
          · show Act.put _ (some 26) _ = _
            simp only [Act.put, List.setIfInBounds_toArray, List.set_cons_zero, List.set_cons_succ, i64_w, i32_w]
            rfl
          refine pure_ (i := 14) (N := some 5) (v := ?_) (a' := ?_) #[true, true, true, true, true, true, true, true, true, true, true, true, true, true, true, false] rfl rfl (any_of HT_.out (by kernel_rfl)) (fun _ _ _ h => h) (Or.inl ⟨by rfl, ?_⟩) ?_ ?_
          rotate_left
          · intro w'
            go_simp
            with_reducible rfl
          rotate_left
          · simp only [Act.put, List.setIfInBounds_toArray, List.set_cons_zero, List.set_cons_succ, i64_w, i32_w]
            rfl
          refine pure_ (i := 15) (N := some 6) (v := ?_) (a' := ?_) #[true, true, true, true, true, true, true, true, true, true, true, true, true, true, true, true] rfl rfl (any_of HT_.out (by kernel_rfl)) (fun _ _ _ h => h) (Or.inl ⟨by rfl, ?_⟩) ?_ ?_
          rotate_left
          · intro w'
            go_simp
            with_reducible rfl
          rotate_left
          · simp only [Act.put, List.setIfInBounds_toArray, List.set_cons_zero, List.set_cons_succ, i64_w, i32_w]
            rfl
          refine done_ (done_of HT_.out (by kernel_rfl)) ?_
          try go_wp2_with (first | ((with_reducible refine gate_dst (N := 29) rfl ?_); (try (refine gate_guard (by rfl) ?_; dsimp only)); refine X.R_make0 k23 _ 23 rfl (N := 29) rfl 35 _ _ rfl _ rfl rfl Tryd.underlying35 (.agg #[(.string ⟨#[]⟩), (.int .i64 0), (.int .i64 0), (.int .i64 0)]) 40 info23 rfl (by decide) (ok := fun _ => True) trivial (by omega) (by have := of_decide_eq_true (show decide (((l0.length : Int) : Int).toNat ≤ 7036874417766) = true by assumption); omega) (Below.refl _ _) (Nat.le_refl _) ?_; intro v119 w18 ho19 hb hg_ hnew_; clear hg_ hnew_; (first | rw [← Ny118.out] at ho19 | (simp only [Int.reduceToNat] at ho19; rw [← Ny118.out] at ho19)); have n0_ := Aside0.mk (Kd.R_elder' (by (with_reducible repeat (first | apply Kd.R_alloc | apply Kd.R_drewN | apply Kd.R_drew)); exact HO110.out) (Kd.R_base ho19) hb); have n1_ := Aside0.mk (Kd.R_elder' (by (with_reducible repeat (first | apply Kd.R_alloc | apply Kd.R_drewN | apply Kd.R_drew)); exact HO117.out) (Kd.R_base ho19) hb); have n2_ := Aside0.mk (Kd.R_lower (Kd.R_new' (Kd.R_new' ho19 (Kd.R_lt (by (with_reducible repeat (first | apply Kd.R_alloc | apply Kd.R_drewN | apply Kd.R_drew)); exact HO110.out))) (Kd.R_lt (by (with_reducible repeat (first | apply Kd.R_alloc | apply Kd.R_drewN | apply Kd.R_drew)); exact HO117.out))) (below_size (by repeat (first | (with_reducible first | exact HB.out | apply below_alloc | apply pw_below_drewN | apply below_drew1) | exact HB.out)))); have n3_ := Aside0.mk (below_step (by repeat (first | (with_reducible first | exact HB.out | apply below_alloc | apply pw_below_drewN | apply below_drew1) | exact HB.out)) hb); clear HO110; clear HO117; clear HB; have HO110 := n0_; have HO117 := n1_; have HO120 := n2_; have HB := n3_; clear n0_ n1_ n2_ n3_; clear hb ho19))
          go_loopg [5, 6, 7] k (fun kq v5 v6 v7 w' => ∃ (x5_1 : List (S23)) (x6_1 : List (S23)) (x7_1 : List (S23)), Aside0 (api_Series_68.l0 kq x5_1 x6_1 x7_1 = some r) ∧ Aside0 (kq ≤ k) ∧ Aside0 (Kd.Q k23 23 w' w.heap.size (fun k_ => some k_ ≠ (v6 : Value).ownBlock ∧ some k_ ≠ (v7 : Value).ownBlock) v5 x5_1) ∧ Aside0 (Kd.Q k23 23 w' w.heap.size (fun k_ => some k_ ≠ (v5 : Value).ownBlock ∧ some k_ ≠ (v7 : Value).ownBlock) v6 x6_1) ∧ Aside0 (Kd.R k23 23 w' w.heap.size (fun k_ => some k_ ≠ (v5 : Value).ownBlock ∧ some k_ ≠ (v6 : Value).ownBlock) v7 x7_1) ∧ Aside0 (Below w.heap.size w w'))
          case atStart => exact ⟨(t108), (t115), (y118), H', ⟨Nat.le_refl _⟩, ⟨Kd.Q_of_R (by (with_reducible repeat (first | apply Kd.R_alloc | apply Kd.R_drewN | apply Kd.R_drew)); exact Kd.R_mono HO110.out (fun _ hk => ⟨hk.1.2, hk.2⟩))⟩, ⟨Kd.Q_of_R (by (with_reducible repeat (first | apply Kd.R_alloc | apply Kd.R_drewN | apply Kd.R_drew)); exact Kd.R_mono HO117.out (fun _ hk => ⟨hk.1.2, hk.2⟩))⟩, ⟨by (with_reducible repeat (first | apply Kd.R_alloc | apply Kd.R_drewN | apply Kd.R_drew)); exact Kd.R_mono HO120.out (fun _ hk => ⟨hk.1.2, hk.2⟩)⟩, ⟨by repeat (first | (with_reducible first | exact HB.out | apply below_alloc | apply pw_below_drewN | apply below_drew1) | exact HB.out)⟩⟩
          case round =>
            clear H'
            try clear c1
            try clear q1
            try clear c2
            try clear c2b0
            try clear c2b1
            try clear p2
            try clear c3
            try clear c6
            try clear c6b0
            try clear c6b1
            try clear p6
            try clear c7
            try clear c7b0
            try clear c7b1
            try clear c9
            try clear c9b0
            try clear c10
            try clear c10b0
            try clear c12
            try clear c12b0
            try clear c12b1
            try clear q14
            try clear c15
            try clear q15
            try clear q015
            try clear q14
            try clear q15
            obtain ⟨x5_1, x6_1, x7_1, HA, HK1, HO_5, HO_6, HO_7, HB⟩ := hrel
            cases gk with
            | zero => exact absurd HA.out (by simp [api_Series_68.l0])
            | succ k1 =>
              have H := HA.out
              clear HA
              simp only [api_Series_68.l0] at H
              have HC20 := Aside0.mk H
              clear H
              go_upto_region 5 with (fail)
              go_cut [37] (fun v37 wc => ∃ (kq : Nat) (x37_19 : Bool), v37 = .bool x37_19 ∧ Aside0 (api_Series_68.j1 kq x5_1 x6_1 x7_1 x37_19 = some r) ∧ Aside0 (kq ≤ k1) ∧ Aside0 (Kd.Q k23 23 wc w.heap.size (fun k_ => some k_ ≠ (u6 : Value).ownBlock ∧ some k_ ≠ (u7 : Value).ownBlock) u5 x5_1) ∧ Aside0 (Kd.Q k23 23 wc w.heap.size (fun k_ => some k_ ≠ (u5 : Value).ownBlock ∧ some k_ ≠ (u7 : Value).ownBlock) u6 x6_1) ∧ Aside0 (Kd.R k23 23 wc w.heap.size (fun k_ => some k_ ≠ (u5 : Value).ownBlock ∧ some k_ ≠ (u6 : Value).ownBlock) u7 x7_1) ∧ Aside0 (Below w.heap.size w wc))
              case first =>
                have H := HC20.out
                clear HC20
                by_cases c21 : (x5_1.length : Int) > 0
                · rw [if_pos c21] at H
                  have c21b0 : decide (0 < (x5_1.length : Int)) = true := decide_eq_true c21
                  have c21b1 : decide (0 < x5_1.length) = true := decide_eq_true (by omega)
                  clear c21
                  (first | rw [c21b0] | (simp only [i64_w, i32_w]; rw [c21b0]) | skip)
                  have H' := Aside0.mk H
                  clear H
                  obtain ⟨Ao22, co22, eo22, _⟩ := Kd.Q_slice HO_5.out
                  subst eo22
                  obtain ⟨Ao23, co23, eo23, _⟩ := Kd.Q_slice HO_6.out
                  subst eo23
                  go_wp2
                  go_meet
                  case rel => exact ⟨_, (decide ((x6_1.length : Int) > 0)), (by first | rfl | (simp; done) | (simp [*]; done)), H', ⟨by have := HK1.out; first | omega | exact Nat.le_refl _⟩, ⟨by (with_reducible repeat (first | apply Kd.Q_alloc | apply Kd.Q_drewN | apply Kd.Q_drew)); exact HO_5.out⟩, ⟨by (with_reducible repeat (first | apply Kd.Q_alloc | apply Kd.Q_drewN | apply Kd.Q_drew)); exact HO_6.out⟩, ⟨by (with_reducible repeat (first | apply Kd.R_alloc | apply Kd.R_drewN | apply Kd.R_drew)); exact HO_7.out⟩, ⟨by repeat (first | (with_reducible first | exact HB.out | apply below_alloc | apply pw_below_drewN | apply below_drew1) | exact HB.out)⟩⟩
                · rw [if_neg c21] at H
                  have c21b0 : decide (0 < (x5_1.length : Int)) = false := decide_eq_false c21
                  have c21b1 : decide (0 < x5_1.length) = false := decide_eq_false (by omega)
                  clear c21
                  (first | rw [c21b0] | (simp only [i64_w, i32_w]; rw [c21b0]) | skip)
                  have H' := Aside0.mk H
                  clear H
                  obtain ⟨Ao24, co24, eo24, _⟩ := Kd.Q_slice HO_5.out
                  subst eo24
                  go_wp2
                  go_meet
                  case rel => exact ⟨_, (false), (by first | rfl | (simp; done) | (simp [*]; done)), H', ⟨by have := HK1.out; first | omega | exact Nat.le_refl _⟩, ⟨by (with_reducible repeat (first | apply Kd.Q_alloc | apply Kd.Q_drewN | apply Kd.Q_drew)); exact HO_5.out⟩, ⟨by (with_reducible repeat (first | apply Kd.Q_alloc | apply Kd.Q_drewN | apply Kd.Q_drew)); exact HO_6.out⟩, ⟨by (with_reducible repeat (first | apply Kd.R_alloc | apply Kd.R_drewN | apply Kd.R_drew)); exact HO_7.out⟩, ⟨by repeat (first | (with_reducible first | exact HB.out | apply below_alloc | apply pw_below_drewN | apply below_drew1) | exact HB.out)⟩⟩
              case rest =>
                clear HC20
                try clear c1
                try clear q1
                try clear c2
                try clear c2b0
                try clear c2b1
                try clear p2
                try clear c3
                try clear c6
                try clear c6b0
                try clear c6b1
                try clear p6
                try clear c7
                try clear c7b0
                try clear c7b1
                try clear c9
                try clear c9b0
                try clear c10
                try clear c10b0
                try clear c12
                try clear c12b0
                try clear c12b1
                try clear q14
                try clear c15
                try clear q15
                try clear c21
                try clear c21b0
                try clear c21b1
                try clear p2
                try clear p6
                try clear q015
                try clear q1
                try clear q14
                try clear q15
                obtain ⟨kq, x37_19, rfl, HA, HJ19, HO_5, HO_6, HO_7, HB⟩ := hcut
                cases kq with
                | zero => exact absurd HA.out (by simp [api_Series_68.j1])
                | succ kj19 =>
                  have H := HA.out
                  clear HA
                  simp only [api_Series_68.j1] at H
                  by_cases c25 : x37_19 = true
                  · subst c25
                    have H1 : (if 0 < (x6_1.length : Int) then (if 0 < (x5_1.length : Int) then ((series_Compare.f ((rd_T23 x6_1 0).f0) ((rd_T23 x6_1 0).f1) ((rd_T23 x6_1 0).f2) ((rd_T23 x6_1 0).f3) ((rd_T23 x5_1 0).f0) ((rd_T23 x5_1 0).f1) ((rd_T23 x5_1 0).f2) ((rd_T23 x5_1 0).f3)).bind fun t123 => (if t123 < 0 then (if x7_1.length < 3518437208883 then (if 1 ≤ (x6_1.length : Int) then (api_Series_68.l0 kj19 x5_1 (x6_1.drop (1 : Int).toNat) (x7_1 ++ [(⟨(rd_T23 x6_1 0).f0, (rd_T23 x6_1 0).f1, (rd_T23 x6_1 0).f2, (rd_T23 x6_1 0).f3⟩ : S23)])) else (none)) else (none)) else (if x7_1.length < 3518437208883 then (if 1 ≤ (x5_1.length : Int) then (api_Series_68.l0 kj19 (x5_1.drop (1 : Int).toNat) x6_1 (x7_1 ++ [(⟨(rd_T23 x5_1 0).f0, (rd_T23 x5_1 0).f1, (rd_T23 x5_1 0).f2, (rd_T23 x5_1 0).f3⟩ : S23)])) else (none)) else (none)))) else (none)) else (none)) = some r := by rw [if_pos rfl] at H; exact H
                    clear H
                    have H := H1
                    clear H1
                    by_cases c26 : 0 < (x6_1.length : Int)
                    · rw [if_pos c26] at H
                      have c26b0 : decide (0 < (x6_1.length : Int)) = true := decide_eq_true c26
                      have c26b1 : decide (0 < x6_1.length) = true := decide_eq_true (by omega)
                      clear c26
                      by_cases c27 : 0 < (x5_1.length : Int)
                      · rw [if_pos c27] at H
                        have c27b0 : decide (0 < (x5_1.length : Int)) = true := decide_eq_true c27
                        have c27b1 : decide (0 < x5_1.length) = true := decide_eq_true (by omega)
                        clear c27
                        replace H := Option.bind_eq_some_iff.mp H
                        obtain ⟨t123, A280, H⟩ := H
                        replace H : (if t123 < 0 then (if x7_1.length < 3518437208883 then (if 1 ≤ (x6_1.length : Int) then (api_Series_68.l0 kj19 x5_1 (x6_1.drop (1 : Int).toNat) (x7_1 ++ [(⟨(rd_T23 x6_1 0).f0, (rd_T23 x6_1 0).f1, (rd_T23 x6_1 0).f2, (rd_T23 x6_1 0).f3⟩ : S23)])) else (none)) else (none)) else (if x7_1.length < 3518437208883 then (if 1 ≤ (x5_1.length : Int) then (api_Series_68.l0 kj19 (x5_1.drop (1 : Int).toNat) x6_1 (x7_1 ++ [(⟨(rd_T23 x5_1 0).f0, (rd_T23 x5_1 0).f1, (rd_T23 x5_1 0).f2, (rd_T23 x5_1 0).f3⟩ : S23)])) else (none)) else (none))) = some r := H
                        have A28 := Aside0.mk A280
                        clear A280
                        by_cases c29 : t123 < 0
                        · rw [if_pos c29] at H
                          have c29b0 : decide (t123 < 0) = true := decide_eq_true c29
                          clear c29
                          by_cases c30 : x7_1.length < 3518437208883
                          · rw [if_pos c30] at H
                            have LMc30 := Aside0.mk c30
                            clear c30
                            obtain ⟨y125, hy125⟩ : ∃ y_ : List (S23), y_ = (x7_1 ++ [(⟨(rd_T23 x6_1 0).f0, (rd_T23 x6_1 0).f1, (rd_T23 x6_1 0).f2, (rd_T23 x6_1 0).f3⟩ : S23)]) := ⟨_, rfl⟩
                            replace H : (if 1 ≤ (x6_1.length : Int) then (api_Series_68.l0 kj19 x5_1 (x6_1.drop (1 : Int).toNat) y125) else (none)) = some r := by first | (rw [hy125]; with_reducible exact H) | (have H2_ := (Option.bind_some _ _).symm.trans H; rw [hy125]; with_reducible exact H2_) | (have H2_ := (Option.bind_some _ _).symm.trans H; with_reducible exact H2_) | with_reducible exact H | (rw [hy125]; exact H) | exact H
                            have Ny125 := Aside0.mk hy125
                            clear hy125
                            by_cases c31 : 1 ≤ (x6_1.length : Int)
                            · rw [if_pos c31] at H
                              have c31b0 := eq_true c31
                              have c31b1 : decide (1 ≤ (x6_1.length : Int)) = true := decide_eq_true c31
                              clear c31
                              obtain ⟨y128, hy128⟩ : ∃ y_ : List (S23), y_ = (x6_1.drop (1 : Int).toNat) := ⟨_, rfl⟩
                              replace H : (api_Series_68.l0 kj19 x5_1 y128 y125) = some r := by first | (rw [hy128]; with_reducible exact H) | (have H2_ := (Option.bind_some _ _).symm.trans H; rw [hy128]; with_reducible exact H2_) | (have H2_ := (Option.bind_some _ _).symm.trans H; with_reducible exact H2_) | with_reducible exact H | (rw [hy128]; exact H) | exact H
                              have Ny128 := Aside0.mk hy128
                              clear hy128
                              have H' := Aside0.mk H
                              clear H
                              try go_wp2
                              have n0_ := Aside0.mk (Kd.Q_drew HO_5.out)
                              have n1_ := Aside0.mk (Kd.Q_drew HO_6.out)
                              have n2_ := Aside0.mk (Kd.R_drew HO_7.out)
                              have n3_ := Aside0.mk (below_drew1 HB.out)
                              clear HO_5
                              clear HO_6
                              clear HO_7
                              clear HB
                              have HO_5 := n0_
                              have HO_6 := n1_
                              have HO_7 := n2_
                              have HB := n3_
                              clear n0_ n1_ n2_ n3_
                              obtain ⟨Ao33, co33, eo33, _⟩ := Kd.Q_slice HO_6.out
                              (first | subst eo33 | (injection eo33 with f1_ f2_ f3_; have f4_ := f1_.symm; have f5_ := f3_.symm; clear f1_ f2_ f3_; subst f4_; subst f5_))
                              have p121 : 0 ≤ (0 : Int) := (by omega)
                              have q121 : 0 < (x6_1.length : Int) := of_decide_eq_true (by first | (with_reducible assumption) | assumption)
                              obtain ⟨ad121, e121, hx121_0, hx121_1, hx121_2, hx121_3⟩ := at_T23 (Kd.Q_reads' HO_6.out).2.2 0 p121 q121
                              cases e121
                              have qi121 : (0 < x6_1.length) = True := eq_true (by omega)
                              (try rw [show ((0 : Int)).toNat = 0 from rfl] at hx121_0)
                              (try rw [show 0 * 4 = 0 from rfl] at hx121_0)
                              (try rw [Addr.add_zero'] at hx121_0)
                              (try rw [show ((0 : Int)).toNat = 0 from rfl] at hx121_1)
                              (try rw [show 0 * 4 = 0 from rfl] at hx121_1)
                              (try rw [Addr.add_zero'] at hx121_1)
                              (try rw [show ((0 : Int)).toNat = 0 from rfl] at hx121_2)
                              (try rw [show 0 * 4 = 0 from rfl] at hx121_2)
                              (try rw [Addr.add_zero'] at hx121_2)
                              (try rw [show ((0 : Int)).toNat = 0 from rfl] at hx121_3)
                              (try rw [show 0 * 4 = 0 from rfl] at hx121_3)
                              (try rw [Addr.add_zero'] at hx121_3)
                              replace p121 := eq_true p121
                              replace q121 := eq_true q121
                              obtain ⟨Ao34, co34, eo34, _⟩ := Kd.Q_slice HO_5.out
                              (first | subst eo34 | (injection eo34 with f1_ f2_ f3_; have f4_ := f1_.symm; have f5_ := f3_.symm; clear f1_ f2_ f3_; subst f4_; subst f5_))
                              have p122 : 0 ≤ (0 : Int) := (by omega)
                              have q122 : 0 < (x5_1.length : Int) := of_decide_eq_true (by first | (with_reducible assumption) | assumption)
                              obtain ⟨ad122, e122, hx122_0, hx122_1, hx122_2, hx122_3⟩ := at_T23 (Kd.Q_reads' HO_5.out).2.2 0 p122 q122
                              cases e122
                              have qi122 : (0 < x5_1.length) = True := eq_true (by omega)
                              (try rw [show ((0 : Int)).toNat = 0 from rfl] at hx122_0)
                              (try rw [show 0 * 4 = 0 from rfl] at hx122_0)
                              (try rw [Addr.add_zero'] at hx122_0)
                              (try rw [show ((0 : Int)).toNat = 0 from rfl] at hx122_1)
                              (try rw [show 0 * 4 = 0 from rfl] at hx122_1)
                              (try rw [Addr.add_zero'] at hx122_1)
                              (try rw [show ((0 : Int)).toNat = 0 from rfl] at hx122_2)
                              (try rw [show 0 * 4 = 0 from rfl] at hx122_2)
                              (try rw [Addr.add_zero'] at hx122_2)
                              (try rw [show ((0 : Int)).toNat = 0 from rfl] at hx122_3)
                              (try rw [show 0 * 4 = 0 from rfl] at hx122_3)
                              (try rw [Addr.add_zero'] at hx122_3)
                              replace p122 := eq_true p122
                              replace q122 := eq_true q122
                              refine start_ (n := 9) (S := fun w' => w'.cell? ad121 = some (.string ((rd_T23 x6_1 0).f0)) ∧ w'.cell? ⟨ad121.block, ad121.off + 1, none⟩ = some (.int .i64 ((rd_T23 x6_1 0).f1)) ∧ w'.cell? ⟨ad121.block, ad121.off + 2, none⟩ = some (.int .i64 ((rd_T23 x6_1 0).f2)) ∧ w'.cell? ⟨ad121.block, ad121.off + 3, none⟩ = some (.int .i64 ((rd_T23 x6_1 0).f3)) ∧ w'.cell? ad122 = some (.string ((rd_T23 x5_1 0).f0)) ∧ w'.cell? ⟨ad122.block, ad122.off + 1, none⟩ = some (.int .i64 ((rd_T23 x5_1 0).f1)) ∧ w'.cell? ⟨ad122.block, ad122.off + 2, none⟩ = some (.int .i64 ((rd_T23 x5_1 0).f2)) ∧ w'.cell? ⟨ad122.block, ad122.off + 3, none⟩ = some (.int .i64 ((rd_T23 x5_1 0).f3))) (ds := []) #[false, false, false, false, false, false, false, false, false] (by kernel_rfl) rfl rfl ⟨hx121_0, hx121_1, hx121_2, hx121_3, hx122_0, hx122_1, hx122_2, hx122_3⟩ (fun hHeld => ?_); refine with_tabW api_Series_68.tab6 api_Series_68.bits6 (fun HT_ HW_ => ?_)
                              generalize wc.drew = w32 at HO_5 HO_6 HO_7 HB hx121_0 hx121_1 hx121_2 hx121_3 hx122_0 hx122_1 hx122_2 hx122_3 hHeld ⊢
                              refine pure_ (i := 0) (N := some 38) (v := ?_) (a' := ?_) #[true, false, false, false, false, false, false, false, false] rfl rfl (any_of HT_.out (by kernel_rfl)) (fun _ _ _ h => h) (Or.inl ⟨by rfl, ?_⟩) ?_ ?_
                              rotate_left
                              · intro w'
                                go_simp
                                with_reducible rfl
                              rotate_left
                              · simp only [Act.put, List.setIfInBounds_toArray, List.set_cons_zero, List.set_cons_succ, i64_w, i32_w]
                                rfl
                              refine pure_ (i := 1) (N := some 39) (v := ?_) (a' := ?_) #[true, true, false, false, false, false, false, false, false] rfl rfl (any_of HT_.out (by kernel_rfl)) (fun _ _ _ h => h) (Or.inl ⟨by rfl, ?_⟩) ?_ ?_
                              rotate_left
                              · intro w'
                                go_simp
                                with_reducible rfl
                              rotate_left
                              · simp only [Act.put, List.setIfInBounds_toArray, List.set_cons_zero, List.set_cons_succ, i64_w, i32_w]
                                rfl
                              refine pure_ (i := 2) (N := some 40) (v := ?_) (a' := ?_) #[true, true, true, false, false, false, false, false, false] rfl rfl (any_of HT_.out (by kernel_rfl)) (fun _ _ _ h => h) (Or.inl ⟨by rfl, ?_⟩) ?_ ?_
                              rotate_left
                              · intro w'
                                go_simp
                                with_reducible rfl
                              rotate_left
                              · simp only [Act.put, List.setIfInBounds_toArray, List.set_cons_zero, List.set_cons_succ, i64_w, i32_w]
                                rfl
                              refine pure_ (i := 4) (N := some 42) (v := ?_) (a' := ?_) #[true, true, true, false, true, false, false, false, false] rfl rfl (any_of HT_.out (by kernel_rfl)) (fun _ _ _ h => h) (Or.inl ⟨by rfl, ?_⟩) ?_ ?_
                              rotate_left
                              · intro w'
                                go_simp
                                with_reducible rfl
                              rotate_left
                              · simp only [Act.put, List.setIfInBounds_toArray, List.set_cons_zero, List.set_cons_succ, i64_w, i32_w]
                                rfl
                              refine pure_ (i := 5) (N := some 43) (v := ?_) (a' := ?_) #[true, true, true, false, true, true, false, false, false] rfl rfl (any_of HT_.out (by kernel_rfl)) (fun _ _ _ h => h) (Or.inl ⟨by rfl, ?_⟩) ?_ ?_
                              rotate_left
                              · intro w'
                                go_simp
                                with_reducible rfl
                              rotate_left
                              · simp only [Act.put, List.setIfInBounds_toArray, List.set_cons_zero, List.set_cons_succ, i64_w, i32_w]
                                rfl
                              refine take_ (i := 3) (N := some 41) (v := ?_) (a' := ?_) #[true, true, true, true, true, true, false, false, false] rfl rfl (take_ofW HT_.out HW_.out (by kernel_rfl)) (fun _ _ _ h => h) (Or.inl ⟨by rfl, ?_⟩) hHeld ?_ ?_
                              rotate_left
                              · rintro w' ⟨s0, s1, s2, s3, s4, s5, s6, s7⟩
                                go_simp
                                with_reducible rfl
                              rotate_left
                              · simp only [Act.put, List.setIfInBounds_toArray, List.set_cons_zero, List.set_cons_succ, i64_w, i32_w]
                                rfl
                              refine take_ (i := 6) (N := some 44) (v := ?_) (a' := ?_) #[true, true, true, true, true, true, true, false, false] rfl rfl (take_ofW HT_.out HW_.out (by kernel_rfl)) (fun _ _ _ h => h) (Or.inl ⟨by rfl, ?_⟩) hHeld ?_ ?_
                              rotate_left
                              · rintro w' ⟨s0, s1, s2, s3, s4, s5, s6, s7⟩
                                go_simp
                                with_reducible rfl
                              rotate_left
                              · simp only [Act.put, List.setIfInBounds_toArray, List.set_cons_zero, List.set_cons_succ, i64_w, i32_w]
                                rfl
                              refine one_ (i := 7) (N := some 45) #[true, true, true, true, true, true, true, true, false] rfl rfl (one_of HT_.out (by kernel_rfl)) (by decide) (fun K hK => ?_)
                              refine goesV_ 38 rfl Tryd.func20 (by kernel_rfl) rfl #[.agg #[.string ((rd_T23 x6_1 0).f0), .int .i64 ((rd_T23 x6_1 0).f1), .int .i64 ((rd_T23 x6_1 0).f2), .int .i64 ((rd_T23 x6_1 0).f3)], .agg #[.string ((rd_T23 x5_1 0).f0), .int .i64 ((rd_T23 x5_1 0).f1), .int .i64 ((rd_T23 x5_1 0).f2), .int .i64 ((rd_T23 x5_1 0).f3)]] (by rfl) rfl rfl (by (try simp only [List.map_toArray, List.map_cons, List.map_nil]); first | done | rfl | (simp only [List.length_drop, List.length_take]; rfl)) ?_
                              with_reducible refine (series_Compare.calls ((rd_T23 x6_1 0).f0) ((rd_T23 x6_1 0).f1) ((rd_T23 x6_1 0).f2) ((rd_T23 x6_1 0).f3) ((rd_T23 x5_1 0).f0) ((rd_T23 x5_1 0).f1) ((rd_T23 x5_1 0).f2) ((rd_T23 x5_1 0).f3) t123 _ A28.out).mono ?_
                              rintro e w35 ⟨rfl, hb⟩
                              have HS0_ := (hb.cell (World.block_lt_of_cell? _ _ (hHeld.1))).trans (hHeld.1)
                              have HS1_ := (hb.cell (World.block_lt_of_cell? _ _ (hHeld.2.1))).trans (hHeld.2.1)
                              have HS2_ := (hb.cell (World.block_lt_of_cell? _ _ (hHeld.2.2.1))).trans (hHeld.2.2.1)
                              have HS3_ := (hb.cell (World.block_lt_of_cell? _ _ (hHeld.2.2.2.1))).trans (hHeld.2.2.2.1)
                              have HS4_ := (hb.cell (World.block_lt_of_cell? _ _ (hHeld.2.2.2.2.1))).trans (hHeld.2.2.2.2.1)
                              have HS5_ := (hb.cell (World.block_lt_of_cell? _ _ (hHeld.2.2.2.2.2.1))).trans (hHeld.2.2.2.2.2.1)
                              have HS6_ := (hb.cell (World.block_lt_of_cell? _ _ (hHeld.2.2.2.2.2.2.1))).trans (hHeld.2.2.2.2.2.2.1)
                              have HS7_ := (hb.cell (World.block_lt_of_cell? _ _ (hHeld.2.2.2.2.2.2.2))).trans (hHeld.2.2.2.2.2.2.2)
                              refine ⟨_, rfl, ?_⟩
                              have n0_ := Aside0.mk (Kd.Q_below (by (with_reducible repeat (first | apply Kd.Q_alloc | apply Kd.Q_drewN | apply Kd.Q_drew)); exact HO_5.out) hb)
                              have n1_ := Aside0.mk (Kd.Q_below (by (with_reducible repeat (first | apply Kd.Q_alloc | apply Kd.Q_drewN | apply Kd.Q_drew)); exact HO_6.out) hb)
                              have n2_ := Aside0.mk (Kd.R_below (by (with_reducible repeat (first | apply Kd.R_alloc | apply Kd.R_drewN | apply Kd.R_drew)); exact HO_7.out) hb)
                              have n3_ := Aside0.mk (below_step (by repeat (first | (with_reducible first | exact HB.out | apply below_alloc | apply pw_below_drewN | apply below_drew1) | exact HB.out)) hb)
                              clear HO_5
                              clear HO_6
                              clear HO_7
                              clear HB
                              have HO_5 := n0_
                              have HO_6 := n1_
                              have HO_7 := n2_
                              have HB := n3_
                              clear n0_ n1_ n2_ n3_
                              (try clear hb)
                              (try clear hb2)
                              (try clear hk)
                              (try clear hi)
                              refine hK.out _ _ ⟨HS0_, HS1_, HS2_, HS3_, HS4_, HS5_, HS6_, HS7_⟩ (fun hHeld => ?_)
                              clear hK K
                              refine norm_ (a' := ?_) ?_ ?_
                              rotate_left
                              · show Act.put _ (some 45) _ = _
                                simp only [Act.put, List.setIfInBounds_toArray, List.set_cons_zero, List.set_cons_succ, i64_w, i32_w]
                                rfl
                              refine pure_ (i := 8) (N := some 46) (v := ?_) (a' := ?_) #[true, true, true, true, true, true, true, true, true] rfl rfl (any_of HT_.out (by kernel_rfl)) (fun _ _ _ h => h) (Or.inl ⟨by rfl, ?_⟩) ?_ ?_
                              rotate_left
                              · intro w'
                                go_simp
                                with_reducible rfl
                              rotate_left
                              · simp only [Act.put, List.setIfInBounds_toArray, List.set_cons_zero, List.set_cons_succ, i64_w, i32_w]
                                rfl
                              refine done_ (done_of HT_.out (by kernel_rfl)) ?_
                              try go_wp2
                              have n0_ := Aside0.mk (Kd.Q_drew HO_5.out)
                              have n1_ := Aside0.mk (Kd.Q_drew HO_6.out)
                              have n2_ := Aside0.mk (Kd.R_drew HO_7.out)
                              have n3_ := Aside0.mk (below_drew1 HB.out)
                              clear HO_5
                              clear HO_6
                              clear HO_7
                              clear HB
                              have HO_5 := n0_
                              have HO_6 := n1_
                              have HO_7 := n2_
                              have HB := n3_
                              clear n0_ n1_ n2_ n3_
                              have p124 : 0 ≤ (0 : Int) := (by omega)
                              have q124 : 0 < (x6_1.length : Int) := of_decide_eq_true (by first | (with_reducible assumption) | assumption)
                              obtain ⟨ad124, e124, hx124_0, hx124_1, hx124_2, hx124_3⟩ := at_T23 (Kd.Q_reads' HO_6.out).2.2 0 p124 q124
                              obtain rfl : ad121 = ad124 := (by injection e124)
                              have qi124 : (0 < x6_1.length) = True := eq_true (by omega)
                              (try rw [show ((0 : Int)).toNat = 0 from rfl] at hx124_0)
                              (try rw [show 0 * 4 = 0 from rfl] at hx124_0)
                              (try rw [Addr.add_zero'] at hx124_0)
                              (try rw [show ((0 : Int)).toNat = 0 from rfl] at hx124_1)
                              (try rw [show 0 * 4 = 0 from rfl] at hx124_1)
                              (try rw [Addr.add_zero'] at hx124_1)
                              (try rw [show ((0 : Int)).toNat = 0 from rfl] at hx124_2)
                              (try rw [show 0 * 4 = 0 from rfl] at hx124_2)
                              (try rw [Addr.add_zero'] at hx124_2)
                              (try rw [show ((0 : Int)).toNat = 0 from rfl] at hx124_3)
                              (try rw [show 0 * 4 = 0 from rfl] at hx124_3)
                              (try rw [Addr.add_zero'] at hx124_3)
                              replace p124 := eq_true p124
                              replace q124 := eq_true q124
                              have q37 : (1 : Int) ≤ ((x6_1.length : Int) : Int) := of_decide_eq_true (by first | (with_reducible assumption) | assumption)
                              obtain ⟨i037, hi037, _, hsz37, _⟩ := info_parts info23
                              have hcut37 := cut_from (P := Tryd.prog) 35 23 .i64 Tryd.underlying35 hi037 4 hsz37 (some ad121) x6_1.length co33 1 (by omega) q37
                              have hr37 := Kd.Q_drop (k := (1 : Int).toNat) HO_6.out (by omega)
                              obtain ⟨A37, hA37⟩ : ∃ A1, A1 = (if co33 = (1 : Int).toNat then (some ad121) else ((some ad121) : Option Addr).map (·.add ((1 : Int).toNat * 4))) := ⟨_, rfl⟩
                              obtain ⟨c37, hc37⟩ : ∃ c1, c1 = co33 - (1 : Int).toNat := ⟨_, rfl⟩
                              have hy37 : y128.length = x6_1.length - (1 : Int).toNat := (by rw [Ny128.out, List.length_drop])
                              rw [← Ny128.out] at hr37
                              rw [← hy37, ← hA37, ← hc37] at hcut37
                              replace hr37 : Kd.Q k23 23 _ w.heap.size (fun k_ => some k_ ≠ (.slice (some ad122) x5_1.length co34 : Value).ownBlock ∧ some k_ ≠ (u7 : Value).ownBlock) (.slice A37 y128.length c37) y128 := (by rw [hA37, hc37, hy37]; exact hr37)
                              have HE37 : Aside0 ((Value.slice A37 y128.length c37).ownBlock = (.slice (some ad121) x6_1.length co33 : Value).ownBlock) := ⟨by rw [hA37]; split <;> (cases ((some ad121) : Option Addr) <;> rfl)⟩
                              clear hy37 hi037 hsz37 HO_6 hA37 hc37
                              have HO130 := Aside0.mk hr37
                              clear hr37
                              replace q37 := eq_true q37
                              have n_ := Aside0.mk (Kd.Q_mono (ok' := fun k_ => (some k_ ≠ (.slice A37 y128.length c37 : Value).ownBlock ∧ some k_ ≠ (u7 : Value).ownBlock)) HO_5.out (fun k_ hk => ⟨(by rw [HE37.out]; exact hk.1), hk.2⟩))
                              clear HO_5
                              have HO_5 := n_
                              clear n_
                              have n_ := Aside0.mk (Kd.R_mono (ok' := fun k_ => (some k_ ≠ (.slice (some ad122) x5_1.length co34 : Value).ownBlock ∧ some k_ ≠ (.slice A37 y128.length c37 : Value).ownBlock)) HO_7.out (fun k_ hk => ⟨hk.1, (by rw [HE37.out]; exact hk.2)⟩))
                              clear HO_7
                              have HO_7 := n_
                              clear n_
                              refine start_ (n := 10) (S := fun w' => w'.cell? ad121 = some (.string ((rd_T23 x6_1 0).f0)) ∧ w'.cell? ⟨ad121.block, ad121.off + 1, none⟩ = some (.int .i64 ((rd_T23 x6_1 0).f1)) ∧ w'.cell? ⟨ad121.block, ad121.off + 2, none⟩ = some (.int .i64 ((rd_T23 x6_1 0).f2)) ∧ w'.cell? ⟨ad121.block, ad121.off + 3, none⟩ = some (.int .i64 ((rd_T23 x6_1 0).f3))) (ds := [4, 5]) #[false, false, false, false, false, false, false, false, false, false] (by kernel_rfl) rfl rfl ⟨hx124_0, hx124_1, hx124_2, hx124_3⟩ (fun hHeld => ?_); refine with_tabW api_Series_68.tab7 api_Series_68.bits7 (fun HT_ HW_ => ?_)
                              generalize w35.drew = w36 at HO_5 HO_6 HO_7 HB HO130 hx124_0 hx124_1 hx124_2 hx124_3 hHeld ⊢
                              refine pure_ (i := 0) (N := some 47) (v := ?_) (a' := ?_) #[true, false, false, false, false, false, false, false, false, false] rfl rfl (any_of HT_.out (by kernel_rfl)) (fun _ _ _ h => h) (Or.inl ⟨by rfl, ?_⟩) ?_ ?_
                              rotate_left
                              · intro w'
                                go_simp
                                with_reducible rfl
                              rotate_left
                              · simp only [Act.put, List.setIfInBounds_toArray, List.set_cons_zero, List.set_cons_succ, i64_w, i32_w]
                                rfl
                              refine pure_ (i := 1) (N := some 48) (v := ?_) (a' := ?_) #[true, true, false, false, false, false, false, false, false, false] rfl rfl (any_of HT_.out (by kernel_rfl)) (fun _ _ _ h => h) (Or.inl ⟨by rfl, ?_⟩) ?_ ?_
                              rotate_left
                              · intro w'
                                go_simp
                                with_reducible rfl
                              rotate_left
                              · simp only [Act.put, List.setIfInBounds_toArray, List.set_cons_zero, List.set_cons_succ, i64_w, i32_w]
                                rfl
                              refine pure_ (i := 2) (N := some 49) (v := ?_) (a' := ?_) #[true, true, true, false, false, false, false, false, false, false] rfl rfl (any_of HT_.out (by kernel_rfl)) (fun _ _ _ h => h) (Or.inl ⟨by rfl, ?_⟩) ?_ ?_
                              rotate_left
                              · intro w'
                                go_simp
                                with_reducible rfl
                              rotate_left
                              · simp only [Act.put, List.setIfInBounds_toArray, List.set_cons_zero, List.set_cons_succ, i64_w, i32_w]
                                rfl
                              refine pure_ (i := 6) (N := some 53) (v := ?_) (a' := ?_) #[true, true, true, false, false, false, true, false, false, false] rfl rfl (any_of HT_.out (by kernel_rfl)) (fun _ _ _ h => h) (Or.inl ⟨by rfl, ?_⟩) ?_ ?_
                              rotate_left
                              · intro w'
                                go_simp
                                with_reducible rfl
                              rotate_left
                              · simp only [Act.put, List.setIfInBounds_toArray, List.set_cons_zero, List.set_cons_succ, i64_w, i32_w]
                                rfl
                              refine pure_ (i := 7) (N := some 54) (v := ?_) (a' := ?_) #[true, true, true, false, false, false, true, true, false, false] rfl rfl (any_of HT_.out (by kernel_rfl)) (fun _ _ _ h => h) (Or.inl ⟨by rfl, ?_⟩) ?_ ?_
                              rotate_left
                              · intro w'
                                go_simp
                                with_reducible rfl
                              rotate_left
                              · simp only [Act.put, List.setIfInBounds_toArray, List.set_cons_zero, List.set_cons_succ, i64_w, i32_w]
                                rfl
                              refine take_ (i := 3) (N := some 50) (v := ?_) (a' := ?_) #[true, true, true, true, false, false, true, true, false, false] rfl rfl (take_ofW HT_.out HW_.out (by kernel_rfl)) (fun _ _ _ h => h) (Or.inl ⟨by rfl, ?_⟩) hHeld ?_ ?_
                              rotate_left
                              · rintro w' ⟨s0, s1, s2, s3⟩
                                go_simp
                                with_reducible rfl
                              rotate_left
                              · simp only [Act.put, List.setIfInBounds_toArray, List.set_cons_zero, List.set_cons_succ, i64_w, i32_w]
                                rfl
                              refine last_ (i := 4) (N := some 51) #[true, true, true, true, true, false, true, true, false, false] rfl rfl (one_of HT_.out (by kernel_rfl)) (by decide) (fun K hK => ?_)
                              refine value_ (w1 := ?_) (v := ?_) (by rfl) rfl ?_ ?_
                              rotate_left 2
                              · go_simp
                                constructor
                                · rfl
                                · rfl
                              refine hK.out _ _ ?_
                              clear hK K
                              refine norm_ (a' := ?_) ?_ ?_
                              rotate_left
                              · show Act.put _ (some 51) _ = _
                                simp only [Act.put, List.setIfInBounds_toArray, List.set_cons_zero, List.set_cons_succ, i64_w, i32_w]
                                rfl
                              refine last_ (i := 5) (N := some 52) #[true, true, true, true, true, true, true, true, false, false] rfl rfl (one_of HT_.out (by kernel_rfl)) (by decide) (fun K hK => ?_)
                              refine Kd.R_append_step k23 (w0 := w) w.heap.size (by rfl) (.tmp 47) (.tmp 51) 35 23 (.agg #[(.string ⟨#[]⟩), (.int .i64 0), (.int .i64 0), (.int .i64 0)]) 40 rfl Tryd.underlying35 info23 rfl (by decide) (by omega) u7 x7_1 (⟨(rd_T23 x6_1 0).f0, (rd_T23 x6_1 0).f1, (rd_T23 x6_1 0).f2, (rd_T23 x6_1 0).f3⟩ : S23) [.string ((rd_T23 x6_1 0).f0), .int .i64 ((rd_T23 x6_1 0).f1), .int .i64 ((rd_T23 x6_1 0).f2), .int .i64 ((rd_T23 x6_1 0).f3)] (fun k_ => some k_ ≠ (.slice (some ad122) x5_1.length co34 : Value).ownBlock ∧ some k_ ≠ (.slice A37 y128.length c37 : Value).ownBlock) (fun _ => False) rfl rfl ?aP (fun _ hk => hk.elim) ?aF ?aO ?aB ?aS ?aL ?_
                              (case aP => exact k23_mkM _ _ _ (⟨(rd_T23 x6_1 0).f0, (rd_T23 x6_1 0).f1, (rd_T23 x6_1 0).f2, (rd_T23 x6_1 0).f3⟩ : S23))
                              (case aB => exact (by repeat (first | (with_reducible first | exact HB.out | apply below_alloc | apply pw_below_drewN | apply below_drew1) | exact HB.out)))
                              (case aF => exact (fun k_ hk => ⟨Kd.fresh' (Kd.Q_lt (by (with_reducible repeat (first | apply Kd.Q_alloc | apply Kd.Q_drewN | apply Kd.Q_drew)); exact HO_5.out)) k_ hk, Kd.fresh' (Kd.Q_lt (by (with_reducible repeat (first | apply Kd.Q_alloc | apply Kd.Q_drewN | apply Kd.Q_drew)); exact HO130.out)) k_ hk⟩))
                              (case aO => exact (by (with_reducible repeat (first | apply Kd.R_alloc | apply Kd.R_drewN | apply Kd.R_drew)); exact HO_7.out))
                              (case aS => exact (below_size (by repeat (first | (with_reducible first | exact HB.out | apply below_alloc | apply pw_below_drewN | apply below_drew1) | exact HB.out))))
                              (case aL => have := LMc30.out; omega)
                              intro v126 w38 ho hb hg hat
                              rw [← Ny125.out] at ho
                              have n0_ := Aside0.mk (Kd.Q_after (ok := (fun k_ => some k_ ≠ (.slice A37 y128.length c37 : Value).ownBlock)) (by (with_reducible repeat (first | apply Kd.Q_alloc | apply Kd.Q_drewN | apply Kd.Q_drew)); exact HO_5.out) hg hat)
                              have n1_ := Aside0.mk (Kd.Q_after (ok := (fun k_ => some k_ ≠ (.slice (some ad122) x5_1.length co34 : Value).ownBlock)) (by (with_reducible repeat (first | apply Kd.Q_alloc | apply Kd.Q_drewN | apply Kd.Q_drew)); exact HO130.out) hg hat)
                              have n2_ := Aside0.mk (hb)
                              have n3_ := Aside0.mk (ho)
                              clear HO_5
                              clear HO130
                              clear HB
                              clear HO_7
                              have HO_5 := n0_
                              have HO130 := n1_
                              have HB := n2_
                              have HO127 := n3_
                              clear n0_ n1_ n2_ n3_
                              clear ho hb hg hat
                              refine hK.out _ _ ?_
                              clear hK K
                              refine norm_ (a' := ?_) ?_ ?_
                              rotate_left
                              · show Act.put _ (some 52) _ = _
                                simp only [Act.put, List.setIfInBounds_toArray, List.set_cons_zero, List.set_cons_succ, i64_w, i32_w]
                                rfl
                              refine pure_ (i := 8) (N := some 7) (v := ?_) (a' := ?_) #[true, true, true, true, true, true, true, true, true, false] rfl rfl (any_of HT_.out (by kernel_rfl)) (fun _ _ _ h => h) (Or.inl ⟨by rfl, ?_⟩) ?_ ?_
                              rotate_left
                              · intro w'
                                go_simp
                                with_reducible rfl
                              rotate_left
                              · simp only [Act.put, List.setIfInBounds_toArray, List.set_cons_zero, List.set_cons_succ, i64_w, i32_w]
                                rfl
                              refine pure_ (i := 9) (N := some 6) (v := ?_) (a' := ?_) #[true, true, true, true, true, true, true, true, true, true] rfl rfl (any_of HT_.out (by kernel_rfl)) (fun _ _ _ h => h) (Or.inl ⟨by rfl, ?_⟩) ?_ ?_
                              rotate_left
                              · intro w'
                                go_simp
                                with_reducible rfl
                              rotate_left
                              · simp only [Act.put, List.setIfInBounds_toArray, List.set_cons_zero, List.set_cons_succ, i64_w, i32_w]
                                rfl
                              refine done_ (done_of HT_.out (by kernel_rfl)) ?_
                              try go_wp2
                              go_roundg kj19
                              case measure => have := HK1.out; have := HJ19.out; omega
                              case rel => exact ⟨(x5_1), (y128), (y125), H', ⟨by have := HK1.out; have := HJ19.out; omega⟩, ⟨by (with_reducible repeat (first | apply Kd.Q_alloc | apply Kd.Q_drewN | apply Kd.Q_drew)); exact HO_5.out⟩, ⟨by (with_reducible repeat (first | apply Kd.Q_alloc | apply Kd.Q_drewN | apply Kd.Q_drew)); exact HO130.out⟩, ⟨by (with_reducible repeat (first | apply Kd.R_alloc | apply Kd.R_drewN | apply Kd.R_drew)); exact HO127.out⟩, ⟨by repeat (first | (with_reducible first | exact HB.out | apply below_alloc | apply pw_below_drewN | apply below_drew1) | exact HB.out)⟩⟩
                            · rw [if_neg c31] at H
                              exact absurd H (by simp)
                          · rw [if_neg c30] at H
                            exact absurd H (by simp)
                        · rw [if_neg c29] at H
                          have c29b0 : decide (t123 < 0) = false := decide_eq_false c29
                          clear c29
                          by_cases c39 : x7_1.length < 3518437208883
                          · rw [if_pos c39] at H
                            have LMc39 := Aside0.mk c39
                            clear c39
                            obtain ⟨y132, hy132⟩ : ∃ y_ : List (S23), y_ = (x7_1 ++ [(⟨(rd_T23 x5_1 0).f0, (rd_T23 x5_1 0).f1, (rd_T23 x5_1 0).f2, (rd_T23 x5_1 0).f3⟩ : S23)]) := ⟨_, rfl⟩
                            replace H : (if 1 ≤ (x5_1.length : Int) then (api_Series_68.l0 kj19 (x5_1.drop (1 : Int).toNat) x6_1 y132) else (none)) = some r := by first | (rw [hy132]; with_reducible exact H) | (have H2_ := (Option.bind_some _ _).symm.trans H; rw [hy132]; with_reducible exact H2_) | (have H2_ := (Option.bind_some _ _).symm.trans H; with_reducible exact H2_) | with_reducible exact H | (rw [hy132]; exact H) | exact H
                            have Ny132 := Aside0.mk hy132
                            clear hy132
                            by_cases c40 : 1 ≤ (x5_1.length : Int)
                            · rw [if_pos c40] at H
                              have c40b0 := eq_true c40
                              have c40b1 : decide (1 ≤ (x5_1.length : Int)) = true := decide_eq_true c40
                              clear c40
                              obtain ⟨y135, hy135⟩ : ∃ y_ : List (S23), y_ = (x5_1.drop (1 : Int).toNat) := ⟨_, rfl⟩
                              replace H : (api_Series_68.l0 kj19 y135 x6_1 y132) = some r := by first | (rw [hy135]; with_reducible exact H) | (have H2_ := (Option.bind_some _ _).symm.trans H; rw [hy135]; with_reducible exact H2_) | (have H2_ := (Option.bind_some _ _).symm.trans H; with_reducible exact H2_) | with_reducible exact H | (rw [hy135]; exact H) | exact H
                              have Ny135 := Aside0.mk hy135
                              clear hy135
                              have H' := Aside0.mk H
                              clear H
                              try go_wp2
                              have n0_ := Aside0.mk (Kd.Q_drew HO_5.out)
                              have n1_ := Aside0.mk (Kd.Q_drew HO_6.out)
                              have n2_ := Aside0.mk (Kd.R_drew HO_7.out)
                              have n3_ := Aside0.mk (below_drew1 HB.out)
                              clear HO_5
                              clear HO_6
                              clear HO_7
                              clear HB
                              have HO_5 := n0_
                              have HO_6 := n1_
                              have HO_7 := n2_
                              have HB := n3_
                              clear n0_ n1_ n2_ n3_
                              obtain ⟨Ao42, co42, eo42, _⟩ := Kd.Q_slice HO_6.out
                              (first | subst eo42 | (injection eo42 with f1_ f2_ f3_; have f4_ := f1_.symm; have f5_ := f3_.symm; clear f1_ f2_ f3_; subst f4_; subst f5_))
                              have p121 : 0 ≤ (0 : Int) := (by omega)
                              have q121 : 0 < (x6_1.length : Int) := of_decide_eq_true (by first | (with_reducible assumption) | assumption)
                              obtain ⟨ad121, e121, hx121_0, hx121_1, hx121_2, hx121_3⟩ := at_T23 (Kd.Q_reads' HO_6.out).2.2 0 p121 q121
                              cases e121
                              have qi121 : (0 < x6_1.length) = True := eq_true (by omega)
                              (try rw [show ((0 : Int)).toNat = 0 from rfl] at hx121_0)
                              (try rw [show 0 * 4 = 0 from rfl] at hx121_0)
                              (try rw [Addr.add_zero'] at hx121_0)
                              (try rw [show ((0 : Int)).toNat = 0 from rfl] at hx121_1)
                              (try rw [show 0 * 4 = 0 from rfl] at hx121_1)
                              (try rw [Addr.add_zero'] at hx121_1)
                              (try rw [show ((0 : Int)).toNat = 0 from rfl] at hx121_2)
                              (try rw [show 0 * 4 = 0 from rfl] at hx121_2)
                              (try rw [Addr.add_zero'] at hx121_2)
                              (try rw [show ((0 : Int)).toNat = 0 from rfl] at hx121_3)
                              (try rw [show 0 * 4 = 0 from rfl] at hx121_3)
                              (try rw [Addr.add_zero'] at hx121_3)
                              replace p121 := eq_true p121
                              replace q121 := eq_true q121
                              obtain ⟨Ao43, co43, eo43, _⟩ := Kd.Q_slice HO_5.out
                              (first | subst eo43 | (injection eo43 with f1_ f2_ f3_; have f4_ := f1_.symm; have f5_ := f3_.symm; clear f1_ f2_ f3_; subst f4_; subst f5_))
                              have p122 : 0 ≤ (0 : Int) := (by omega)
                              have q122 : 0 < (x5_1.length : Int) := of_decide_eq_true (by first | (with_reducible assumption) | assumption)
                              obtain ⟨ad122, e122, hx122_0, hx122_1, hx122_2, hx122_3⟩ := at_T23 (Kd.Q_reads' HO_5.out).2.2 0 p122 q122
                              cases e122
                              have qi122 : (0 < x5_1.length) = True := eq_true (by omega)
                              (try rw [show ((0 : Int)).toNat = 0 from rfl] at hx122_0)
                              (try rw [show 0 * 4 = 0 from rfl] at hx122_0)
                              (try rw [Addr.add_zero'] at hx122_0)
                              (try rw [show ((0 : Int)).toNat = 0 from rfl] at hx122_1)
                              (try rw [show 0 * 4 = 0 from rfl] at hx122_1)
                              (try rw [Addr.add_zero'] at hx122_1)
                              (try rw [show ((0 : Int)).toNat = 0 from rfl] at hx122_2)
                              (try rw [show 0 * 4 = 0 from rfl] at hx122_2)
                              (try rw [Addr.add_zero'] at hx122_2)
                              (try rw [show ((0 : Int)).toNat = 0 from rfl] at hx122_3)
                              (try rw [show 0 * 4 = 0 from rfl] at hx122_3)
                              (try rw [Addr.add_zero'] at hx122_3)
                              replace p122 := eq_true p122
                              replace q122 := eq_true q122
                              refine start_ (n := 9) (S := fun w' => w'.cell? ad121 = some (.string ((rd_T23 x6_1 0).f0)) ∧ w'.cell? ⟨ad121.block, ad121.off + 1, none⟩ = some (.int .i64 ((rd_T23 x6_1 0).f1)) ∧ w'.cell? ⟨ad121.block, ad121.off + 2, none⟩ = some (.int .i64 ((rd_T23 x6_1 0).f2)) ∧ w'.cell? ⟨ad121.block, ad121.off + 3, none⟩ = some (.int .i64 ((rd_T23 x6_1 0).f3)) ∧ w'.cell? ad122 = some (.string ((rd_T23 x5_1 0).f0)) ∧ w'.cell? ⟨ad122.block, ad122.off + 1, none⟩ = some (.int .i64 ((rd_T23 x5_1 0).f1)) ∧ w'.cell? ⟨ad122.block, ad122.off + 2, none⟩ = some (.int .i64 ((rd_T23 x5_1 0).f2)) ∧ w'.cell? ⟨ad122.block, ad122.off + 3, none⟩ = some (.int .i64 ((rd_T23 x5_1 0).f3))) (ds := []) #[false, false, false, false, false, false, false, false, false] (by kernel_rfl) rfl rfl ⟨hx121_0, hx121_1, hx121_2, hx121_3, hx122_0, hx122_1, hx122_2, hx122_3⟩ (fun hHeld => ?_); refine with_tabW api_Series_68.tab6 api_Series_68.bits6 (fun HT_ HW_ => ?_)
                              generalize wc.drew = w41 at HO_5 HO_6 HO_7 HB hx121_0 hx121_1 hx121_2 hx121_3 hx122_0 hx122_1 hx122_2 hx122_3 hHeld ⊢
                              refine pure_ (i := 0) (N := some 38) (v := ?_) (a' := ?_) #[true, false, false, false, false, false, false, false, false] rfl rfl (any_of HT_.out (by kernel_rfl)) (fun _ _ _ h => h) (Or.inl ⟨by rfl, ?_⟩) ?_ ?_
                              rotate_left
                              · intro w'
                                go_simp
                                with_reducible rfl
                              rotate_left
                              · simp only [Act.put, List.setIfInBounds_toArray, List.set_cons_zero, List.set_cons_succ, i64_w, i32_w]
                                rfl
                              refine pure_ (i := 1) (N := some 39) (v := ?_) (a' := ?_) #[true, true, false, false, false, false, false, false, false] rfl rfl (any_of HT_.out (by kernel_rfl)) (fun _ _ _ h => h) (Or.inl ⟨by rfl, ?_⟩) ?_ ?_
                              rotate_left
                              · intro w'
                                go_simp
                                with_reducible rfl
                              rotate_left
                              · simp only [Act.put, List.setIfInBounds_toArray, List.set_cons_zero, List.set_cons_succ, i64_w, i32_w]
                                rfl
                              refine pure_ (i := 2) (N := some 40) (v := ?_) (a' := ?_) #[true, true, true, false, false, false, false, false, false] rfl rfl (any_of HT_.out (by kernel_rfl)) (fun _ _ _ h => h) (Or.inl ⟨by rfl, ?_⟩) ?_ ?_
                              rotate_left
                              · intro w'
                                go_simp
                                with_reducible rfl
                              rotate_left
                              · simp only [Act.put, List.setIfInBounds_toArray, List.set_cons_zero, List.set_cons_succ, i64_w, i32_w]
                                rfl
                              refine pure_ (i := 4) (N := some 42) (v := ?_) (a' := ?_) #[true, true, true, false, true, false, false, false, false] rfl rfl (any_of HT_.out (by kernel_rfl)) (fun _ _ _ h => h) (Or.inl ⟨by rfl, ?_⟩) ?_ ?_
                              rotate_left
                              · intro w'
                                go_simp
                                with_reducible rfl
                              rotate_left
                              · simp only [Act.put, List.setIfInBounds_toArray, List.set_cons_zero, List.set_cons_succ, i64_w, i32_w]
                                rfl
                              refine pure_ (i := 5) (N := some 43) (v := ?_) (a' := ?_) #[true, true, true, false, true, true, false, false, false] rfl rfl (any_of HT_.out (by kernel_rfl)) (fun _ _ _ h => h) (Or.inl ⟨by rfl, ?_⟩) ?_ ?_
                              rotate_left
                              · intro w'
                                go_simp
                                with_reducible rfl
                              rotate_left
                              · simp only [Act.put, List.setIfInBounds_toArray, List.set_cons_zero, List.set_cons_succ, i64_w, i32_w]
                                rfl
                              refine take_ (i := 3) (N := some 41) (v := ?_) (a' := ?_) #[true, true, true, true, true, true, false, false, false] rfl rfl (take_ofW HT_.out HW_.out (by kernel_rfl)) (fun _ _ _ h => h) (Or.inl ⟨by rfl, ?_⟩) hHeld ?_ ?_
                              rotate_left
                              · rintro w' ⟨s0, s1, s2, s3, s4, s5, s6, s7⟩
                                go_simp
                                with_reducible rfl
                              rotate_left
                              · simp only [Act.put, List.setIfInBounds_toArray, List.set_cons_zero, List.set_cons_succ, i64_w, i32_w]
                                rfl
                              refine take_ (i := 6) (N := some 44) (v := ?_) (a' := ?_) #[true, true, true, true, true, true, true, false, false] rfl rfl (take_ofW HT_.out HW_.out (by kernel_rfl)) (fun _ _ _ h => h) (Or.inl ⟨by rfl, ?_⟩) hHeld ?_ ?_
                              rotate_left
                              · rintro w' ⟨s0, s1, s2, s3, s4, s5, s6, s7⟩
                                go_simp
                                with_reducible rfl
                              rotate_left
                              · simp only [Act.put, List.setIfInBounds_toArray, List.set_cons_zero, List.set_cons_succ, i64_w, i32_w]
                                rfl
                              refine one_ (i := 7) (N := some 45) #[true, true, true, true, true, true, true, true, false] rfl rfl (one_of HT_.out (by kernel_rfl)) (by decide) (fun K hK => ?_)
                              refine goesV_ 38 rfl Tryd.func20 (by kernel_rfl) rfl #[.agg #[.string ((rd_T23 x6_1 0).f0), .int .i64 ((rd_T23 x6_1 0).f1), .int .i64 ((rd_T23 x6_1 0).f2), .int .i64 ((rd_T23 x6_1 0).f3)], .agg #[.string ((rd_T23 x5_1 0).f0), .int .i64 ((rd_T23 x5_1 0).f1), .int .i64 ((rd_T23 x5_1 0).f2), .int .i64 ((rd_T23 x5_1 0).f3)]] (by rfl) rfl rfl (by (try simp only [List.map_toArray, List.map_cons, List.map_nil]); first | done | rfl | (simp only [List.length_drop, List.length_take]; rfl)) ?_
                              with_reducible refine (series_Compare.calls ((rd_T23 x6_1 0).f0) ((rd_T23 x6_1 0).f1) ((rd_T23 x6_1 0).f2) ((rd_T23 x6_1 0).f3) ((rd_T23 x5_1 0).f0) ((rd_T23 x5_1 0).f1) ((rd_T23 x5_1 0).f2) ((rd_T23 x5_1 0).f3) t123 _ A28.out).mono ?_
                              rintro e w44 ⟨rfl, hb⟩
                              have HS0_ := (hb.cell (World.block_lt_of_cell? _ _ (hHeld.1))).trans (hHeld.1)
                              have HS1_ := (hb.cell (World.block_lt_of_cell? _ _ (hHeld.2.1))).trans (hHeld.2.1)
                              have HS2_ := (hb.cell (World.block_lt_of_cell? _ _ (hHeld.2.2.1))).trans (hHeld.2.2.1)
                              have HS3_ := (hb.cell (World.block_lt_of_cell? _ _ (hHeld.2.2.2.1))).trans (hHeld.2.2.2.1)
                              have HS4_ := (hb.cell (World.block_lt_of_cell? _ _ (hHeld.2.2.2.2.1))).trans (hHeld.2.2.2.2.1)
                              have HS5_ := (hb.cell (World.block_lt_of_cell? _ _ (hHeld.2.2.2.2.2.1))).trans (hHeld.2.2.2.2.2.1)
                              have HS6_ := (hb.cell (World.block_lt_of_cell? _ _ (hHeld.2.2.2.2.2.2.1))).trans (hHeld.2.2.2.2.2.2.1)
                              have HS7_ := (hb.cell (World.block_lt_of_cell? _ _ (hHeld.2.2.2.2.2.2.2))).trans (hHeld.2.2.2.2.2.2.2)
                              refine ⟨_, rfl, ?_⟩
                              have n0_ := Aside0.mk (Kd.Q_below (by (with_reducible repeat (first | apply Kd.Q_alloc | apply Kd.Q_drewN | apply Kd.Q_drew)); exact HO_5.out) hb)
                              have n1_ := Aside0.mk (Kd.Q_below (by (with_reducible repeat (first | apply Kd.Q_alloc | apply Kd.Q_drewN | apply Kd.Q_drew)); exact HO_6.out) hb)
                              have n2_ := Aside0.mk (Kd.R_below (by (with_reducible repeat (first | apply Kd.R_alloc | apply Kd.R_drewN | apply Kd.R_drew)); exact HO_7.out) hb)
                              have n3_ := Aside0.mk (below_step (by repeat (first | (with_reducible first | exact HB.out | apply below_alloc | apply pw_below_drewN | apply below_drew1) | exact HB.out)) hb)
                              clear HO_5
                              clear HO_6
                              clear HO_7
                              clear HB
                              have HO_5 := n0_
                              have HO_6 := n1_
                              have HO_7 := n2_
                              have HB := n3_
                              clear n0_ n1_ n2_ n3_
                              (try clear hb)
                              (try clear hb2)
                              (try clear hk)
                              (try clear hi)
                              refine hK.out _ _ ⟨HS0_, HS1_, HS2_, HS3_, HS4_, HS5_, HS6_, HS7_⟩ (fun hHeld => ?_)
                              clear hK K
                              refine norm_ (a' := ?_) ?_ ?_
                              rotate_left
                              · show Act.put _ (some 45) _ = _
                                simp only [Act.put, List.setIfInBounds_toArray, List.set_cons_zero, List.set_cons_succ, i64_w, i32_w]
                                rfl
                              refine pure_ (i := 8) (N := some 46) (v := ?_) (a' := ?_) #[true, true, true, true, true, true, true, true, true] rfl rfl (any_of HT_.out (by kernel_rfl)) (fun _ _ _ h => h) (Or.inl ⟨by rfl, ?_⟩) ?_ ?_
                              rotate_left
                              · intro w'
                                go_simp
                                with_reducible rfl
                              rotate_left
                              · simp only [Act.put, List.setIfInBounds_toArray, List.set_cons_zero, List.set_cons_succ, i64_w, i32_w]
                                rfl
                              refine done_ (done_of HT_.out (by kernel_rfl)) ?_
                              try go_wp2
                              have n0_ := Aside0.mk (Kd.Q_drew HO_5.out)
                              have n1_ := Aside0.mk (Kd.Q_drew HO_6.out)
                              have n2_ := Aside0.mk (Kd.R_drew HO_7.out)
                              have n3_ := Aside0.mk (below_drew1 HB.out)
                              clear HO_5
                              clear HO_6
                              clear HO_7
                              clear HB
                              have HO_5 := n0_
                              have HO_6 := n1_
                              have HO_7 := n2_
                              have HB := n3_
                              clear n0_ n1_ n2_ n3_
                              have p131 : 0 ≤ (0 : Int) := (by omega)
                              have q131 : 0 < (x5_1.length : Int) := of_decide_eq_true (by first | (with_reducible assumption) | assumption)
                              obtain ⟨ad131, e131, hx131_0, hx131_1, hx131_2, hx131_3⟩ := at_T23 (Kd.Q_reads' HO_5.out).2.2 0 p131 q131
                              obtain rfl : ad122 = ad131 := (by injection e131)
                              have qi131 : (0 < x5_1.length) = True := eq_true (by omega)
                              (try rw [show ((0 : Int)).toNat = 0 from rfl] at hx131_0)
                              (try rw [show 0 * 4 = 0 from rfl] at hx131_0)
                              (try rw [Addr.add_zero'] at hx131_0)
                              (try rw [show ((0 : Int)).toNat = 0 from rfl] at hx131_1)
                              (try rw [show 0 * 4 = 0 from rfl] at hx131_1)
                              (try rw [Addr.add_zero'] at hx131_1)
                              (try rw [show ((0 : Int)).toNat = 0 from rfl] at hx131_2)
                              (try rw [show 0 * 4 = 0 from rfl] at hx131_2)
                              (try rw [Addr.add_zero'] at hx131_2)
                              (try rw [show ((0 : Int)).toNat = 0 from rfl] at hx131_3)
                              (try rw [show 0 * 4 = 0 from rfl] at hx131_3)
                              (try rw [Addr.add_zero'] at hx131_3)
                              replace p131 := eq_true p131
                              replace q131 := eq_true q131
                              have q46 : (1 : Int) ≤ ((x5_1.length : Int) : Int) := of_decide_eq_true (by first | (with_reducible assumption) | assumption)
                              obtain ⟨i046, hi046, _, hsz46, _⟩ := info_parts info23
                              have hcut46 := cut_from (P := Tryd.prog) 35 23 .i64 Tryd.underlying35 hi046 4 hsz46 (some ad122) x5_1.length co43 1 (by omega) q46
                              have hr46 := Kd.Q_drop (k := (1 : Int).toNat) HO_5.out (by omega)
                              obtain ⟨A46, hA46⟩ : ∃ A1, A1 = (if co43 = (1 : Int).toNat then (some ad122) else ((some ad122) : Option Addr).map (·.add ((1 : Int).toNat * 4))) := ⟨_, rfl⟩
                              obtain ⟨c46, hc46⟩ : ∃ c1, c1 = co43 - (1 : Int).toNat := ⟨_, rfl⟩
                              have hy46 : y135.length = x5_1.length - (1 : Int).toNat := (by rw [Ny135.out, List.length_drop])
                              rw [← Ny135.out] at hr46
                              rw [← hy46, ← hA46, ← hc46] at hcut46
                              replace hr46 : Kd.Q k23 23 _ w.heap.size (fun k_ => some k_ ≠ (.slice (some ad121) x6_1.length co42 : Value).ownBlock ∧ some k_ ≠ (u7 : Value).ownBlock) (.slice A46 y135.length c46) y135 := (by rw [hA46, hc46, hy46]; exact hr46)
                              have HE46 : Aside0 ((Value.slice A46 y135.length c46).ownBlock = (.slice (some ad122) x5_1.length co43 : Value).ownBlock) := ⟨by rw [hA46]; split <;> (cases ((some ad122) : Option Addr) <;> rfl)⟩
                              clear hy46 hi046 hsz46 HO_5 hA46 hc46
                              have HO137 := Aside0.mk hr46
                              clear hr46
                              replace q46 := eq_true q46
                              have n_ := Aside0.mk (Kd.Q_mono (ok' := fun k_ => (some k_ ≠ (.slice A46 y135.length c46 : Value).ownBlock ∧ some k_ ≠ (u7 : Value).ownBlock)) HO_6.out (fun k_ hk => ⟨(by rw [HE46.out]; exact hk.1), hk.2⟩))
                              clear HO_6
                              have HO_6 := n_
                              clear n_
                              have n_ := Aside0.mk (Kd.R_mono (ok' := fun k_ => (some k_ ≠ (.slice A46 y135.length c46 : Value).ownBlock ∧ some k_ ≠ (.slice (some ad121) x6_1.length co42 : Value).ownBlock)) HO_7.out (fun k_ hk => ⟨(by rw [HE46.out]; exact hk.1), hk.2⟩))
                              clear HO_7
                              have HO_7 := n_
                              clear n_
                              refine start_ (n := 10) (S := fun w' => w'.cell? ad122 = some (.string ((rd_T23 x5_1 0).f0)) ∧ w'.cell? ⟨ad122.block, ad122.off + 1, none⟩ = some (.int .i64 ((rd_T23 x5_1 0).f1)) ∧ w'.cell? ⟨ad122.block, ad122.off + 2, none⟩ = some (.int .i64 ((rd_T23 x5_1 0).f2)) ∧ w'.cell? ⟨ad122.block, ad122.off + 3, none⟩ = some (.int .i64 ((rd_T23 x5_1 0).f3))) (ds := [4, 5]) #[false, false, false, false, false, false, false, false, false, false] (by kernel_rfl) rfl rfl ⟨hx131_0, hx131_1, hx131_2, hx131_3⟩ (fun hHeld => ?_); refine with_tabW api_Series_68.tab8 api_Series_68.bits8 (fun HT_ HW_ => ?_)
                              generalize w44.drew = w45 at HO_5 HO_6 HO_7 HB HO137 hx131_0 hx131_1 hx131_2 hx131_3 hHeld ⊢
                              refine pure_ (i := 0) (N := some 55) (v := ?_) (a' := ?_) #[true, false, false, false, false, false, false, false, false, false] rfl rfl (any_of HT_.out (by kernel_rfl)) (fun _ _ _ h => h) (Or.inl ⟨by rfl, ?_⟩) ?_ ?_
                              rotate_left
                              · intro w'
                                go_simp
                                with_reducible rfl
                              rotate_left
                              · simp only [Act.put, List.setIfInBounds_toArray, List.set_cons_zero, List.set_cons_succ, i64_w, i32_w]
                                rfl
                              refine pure_ (i := 1) (N := some 56) (v := ?_) (a' := ?_) #[true, true, false, false, false, false, false, false, false, false] rfl rfl (any_of HT_.out (by kernel_rfl)) (fun _ _ _ h => h) (Or.inl ⟨by rfl, ?_⟩) ?_ ?_
                              rotate_left
                              · intro w'
                                go_simp
                                with_reducible rfl
                              rotate_left
                              · simp only [Act.put, List.setIfInBounds_toArray, List.set_cons_zero, List.set_cons_succ, i64_w, i32_w]
                                rfl
                              refine pure_ (i := 2) (N := some 57) (v := ?_) (a' := ?_) #[true, true, true, false, false, false, false, false, false, false] rfl rfl (any_of HT_.out (by kernel_rfl)) (fun _ _ _ h => h) (Or.inl ⟨by rfl, ?_⟩) ?_ ?_
                              rotate_left
                              · intro w'
                                go_simp
                                with_reducible rfl
                              rotate_left
                              · simp only [Act.put, List.setIfInBounds_toArray, List.set_cons_zero, List.set_cons_succ, i64_w, i32_w]
                                rfl
                              refine pure_ (i := 6) (N := some 61) (v := ?_) (a' := ?_) #[true, true, true, false, false, false, true, false, false, false] rfl rfl (any_of HT_.out (by kernel_rfl)) (fun _ _ _ h => h) (Or.inl ⟨by rfl, ?_⟩) ?_ ?_
                              rotate_left
                              · intro w'
                                go_simp
                                with_reducible rfl
                              rotate_left
                              · simp only [Act.put, List.setIfInBounds_toArray, List.set_cons_zero, List.set_cons_succ, i64_w, i32_w]
                                rfl
                              refine pure_ (i := 7) (N := some 62) (v := ?_) (a' := ?_) #[true, true, true, false, false, false, true, true, false, false] rfl rfl (any_of HT_.out (by kernel_rfl)) (fun _ _ _ h => h) (Or.inl ⟨by rfl, ?_⟩) ?_ ?_
                              rotate_left
                              · intro w'
                                go_simp
                                with_reducible rfl
                              rotate_left
                              · simp only [Act.put, List.setIfInBounds_toArray, List.set_cons_zero, List.set_cons_succ, i64_w, i32_w]
                                rfl
                              refine take_ (i := 3) (N := some 58) (v := ?_) (a' := ?_) #[true, true, true, true, false, false, true, true, false, false] rfl rfl (take_ofW HT_.out HW_.out (by kernel_rfl)) (fun _ _ _ h => h) (Or.inl ⟨by rfl, ?_⟩) hHeld ?_ ?_
                              rotate_left
                              · rintro w' ⟨s0, s1, s2, s3⟩
                                go_simp
                                with_reducible rfl
                              rotate_left
                              · simp only [Act.put, List.setIfInBounds_toArray, List.set_cons_zero, List.set_cons_succ, i64_w, i32_w]
                                rfl
                              refine last_ (i := 4) (N := some 59) #[true, true, true, true, true, false, true, true, false, false] rfl rfl (one_of HT_.out (by kernel_rfl)) (by decide) (fun K hK => ?_)
                              refine value_ (w1 := ?_) (v := ?_) (by rfl) rfl ?_ ?_
                              rotate_left 2
                              · go_simp
                                constructor
                                · rfl
                                · rfl
                              refine hK.out _ _ ?_
                              clear hK K
                              refine norm_ (a' := ?_) ?_ ?_
                              rotate_left
                              · show Act.put _ (some 59) _ = _
                                simp only [Act.put, List.setIfInBounds_toArray, List.set_cons_zero, List.set_cons_succ, i64_w, i32_w]
                                rfl
                              refine last_ (i := 5) (N := some 60) #[true, true, true, true, true, true, true, true, false, false] rfl rfl (one_of HT_.out (by kernel_rfl)) (by decide) (fun K hK => ?_)
                              refine Kd.R_append_step k23 (w0 := w) w.heap.size (by rfl) (.tmp 55) (.tmp 59) 35 23 (.agg #[(.string ⟨#[]⟩), (.int .i64 0), (.int .i64 0), (.int .i64 0)]) 40 rfl Tryd.underlying35 info23 rfl (by decide) (by omega) u7 x7_1 (⟨(rd_T23 x5_1 0).f0, (rd_T23 x5_1 0).f1, (rd_T23 x5_1 0).f2, (rd_T23 x5_1 0).f3⟩ : S23) [.string ((rd_T23 x5_1 0).f0), .int .i64 ((rd_T23 x5_1 0).f1), .int .i64 ((rd_T23 x5_1 0).f2), .int .i64 ((rd_T23 x5_1 0).f3)] (fun k_ => some k_ ≠ (.slice A46 y135.length c46 : Value).ownBlock ∧ some k_ ≠ (.slice (some ad121) x6_1.length co42 : Value).ownBlock) (fun _ => False) rfl rfl ?aP (fun _ hk => hk.elim) ?aF ?aO ?aB ?aS ?aL ?_
                              (case aP => exact k23_mkM _ _ _ (⟨(rd_T23 x5_1 0).f0, (rd_T23 x5_1 0).f1, (rd_T23 x5_1 0).f2, (rd_T23 x5_1 0).f3⟩ : S23))
                              (case aB => exact (by repeat (first | (with_reducible first | exact HB.out | apply below_alloc | apply pw_below_drewN | apply below_drew1) | exact HB.out)))
                              (case aF => exact (fun k_ hk => ⟨Kd.fresh' (Kd.Q_lt (by (with_reducible repeat (first | apply Kd.Q_alloc | apply Kd.Q_drewN | apply Kd.Q_drew)); exact HO137.out)) k_ hk, Kd.fresh' (Kd.Q_lt (by (with_reducible repeat (first | apply Kd.Q_alloc | apply Kd.Q_drewN | apply Kd.Q_drew)); exact HO_6.out)) k_ hk⟩))
                              (case aO => exact (by (with_reducible repeat (first | apply Kd.R_alloc | apply Kd.R_drewN | apply Kd.R_drew)); exact HO_7.out))
                              (case aS => exact (below_size (by repeat (first | (with_reducible first | exact HB.out | apply below_alloc | apply pw_below_drewN | apply below_drew1) | exact HB.out))))
                              (case aL => have := LMc39.out; omega)
                              intro v133 w47 ho hb hg hat
                              rw [← Ny132.out] at ho
                              have n0_ := Aside0.mk (Kd.Q_after (ok := (fun k_ => some k_ ≠ (.slice (some ad121) x6_1.length co42 : Value).ownBlock)) (by (with_reducible repeat (first | apply Kd.Q_alloc | apply Kd.Q_drewN | apply Kd.Q_drew)); exact HO137.out) hg hat)
                              have n1_ := Aside0.mk (Kd.Q_after (ok := (fun k_ => some k_ ≠ (.slice A46 y135.length c46 : Value).ownBlock)) (by (with_reducible repeat (first | apply Kd.Q_alloc | apply Kd.Q_drewN | apply Kd.Q_drew)); exact HO_6.out) hg hat)
                              have n2_ := Aside0.mk (hb)
                              have n3_ := Aside0.mk (ho)
                              clear HO137
                              clear HO_6
                              clear HB
                              clear HO_7
                              have HO137 := n0_
                              have HO_6 := n1_
                              have HB := n2_
                              have HO134 := n3_
                              clear n0_ n1_ n2_ n3_
                              clear ho hb hg hat
                              refine hK.out _ _ ?_
                              clear hK K
                              refine norm_ (a' := ?_) ?_ ?_
                              rotate_left
                              · show Act.put _ (some 60) _ = _
                                simp only [Act.put, List.setIfInBounds_toArray, List.set_cons_zero, List.set_cons_succ, i64_w, i32_w]
                                rfl
                              refine pure_ (i := 8) (N := some 7) (v := ?_) (a' := ?_) #[true, true, true, true, true, true, true, true, true, false] rfl rfl (any_of HT_.out (by kernel_rfl)) (fun _ _ _ h => h) (Or.inl ⟨by rfl, ?_⟩) ?_ ?_
                              rotate_left
                              · intro w'
                                go_simp
                                with_reducible rfl
                              rotate_left
                              · simp only [Act.put, List.setIfInBounds_toArray, List.set_cons_zero, List.set_cons_succ, i64_w, i32_w]
                                rfl
                              refine pure_ (i := 9) (N := some 5) (v := ?_) (a' := ?_) #[true, true, true, true, true, true, true, true, true, true] rfl rfl (any_of HT_.out (by kernel_rfl)) (fun _ _ _ h => h) (Or.inl ⟨by rfl, ?_⟩) ?_ ?_
                              rotate_left
                              · intro w'
                                go_simp
                                with_reducible rfl
                              rotate_left
                              · simp only [Act.put, List.setIfInBounds_toArray, List.set_cons_zero, List.set_cons_succ, i64_w, i32_w]
                                rfl
                              refine done_ (done_of HT_.out (by kernel_rfl)) ?_
                              try go_wp2
                              go_roundg kj19
                              case measure => have := HK1.out; have := HJ19.out; omega
                              case rel => exact ⟨(y135), (x6_1), (y132), H', ⟨by have := HK1.out; have := HJ19.out; omega⟩, ⟨by (with_reducible repeat (first | apply Kd.Q_alloc | apply Kd.Q_drewN | apply Kd.Q_drew)); exact HO137.out⟩, ⟨by (with_reducible repeat (first | apply Kd.Q_alloc | apply Kd.Q_drewN | apply Kd.Q_drew)); exact HO_6.out⟩, ⟨by (with_reducible repeat (first | apply Kd.R_alloc | apply Kd.R_drewN | apply Kd.R_drew)); exact HO134.out⟩, ⟨by repeat (first | (with_reducible first | exact HB.out | apply below_alloc | apply pw_below_drewN | apply below_drew1) | exact HB.out)⟩⟩
                            · rw [if_neg c40] at H
                              exact absurd H (by simp)
                          · rw [if_neg c39] at H
                            exact absurd H (by simp)
                      · rw [if_neg c27] at H
                        exact absurd H (by simp)
                    · rw [if_neg c26] at H
                      exact absurd H (by simp)
                  · replace c25 := Bool.eq_false_iff.mpr c25
                    subst c25
                    have H1 : (if x7_1.length + x5_1.length < 3518437208883 then ((some (x7_1 ++ x5_1 : List (S23))).bind fun y138 => (if y138.length + x6_1.length < 3518437208883 then (some (y138 ++ x6_1)) else (none))) else (none)) = some r := by rw [if_neg (show ¬ (false = true) by decide)] at H; exact H
                    clear H
                    have H := H1
                    clear H1
                    by_cases c48 : x7_1.length + x5_1.length < 3518437208883
                    · rw [if_pos c48] at H
                      have LMc48 := Aside0.mk c48
                      clear c48
                      obtain ⟨y138, hy138⟩ : ∃ y_ : List (S23), y_ = (x7_1 ++ x5_1) := ⟨_, rfl⟩
                      replace H : (if y138.length + x6_1.length < 3518437208883 then (some (y138 ++ x6_1)) else (none)) = some r := by first | (rw [hy138]; with_reducible exact H) | (have H2_ := (Option.bind_some _ _).symm.trans H; rw [hy138]; with_reducible exact H2_) | (have H2_ := (Option.bind_some _ _).symm.trans H; with_reducible exact H2_) | with_reducible exact H | (rw [hy138]; exact H) | exact H
                      have Ny138 := Aside0.mk hy138
                      clear hy138
                      by_cases c49 : y138.length + x6_1.length < 3518437208883
                      · rw [if_pos c49] at H
                        have LMc49 := Aside0.mk c49
                        clear c49
                        obtain ⟨y141, hy141⟩ : ∃ y_ : List (S23), y_ = (y138 ++ x6_1) := ⟨_, rfl⟩
                        replace H : (some y141) = some r := by first | (rw [hy141]; with_reducible exact H) | (have H2_ := (Option.bind_some _ _).symm.trans H; rw [hy141]; with_reducible exact H2_) | (have H2_ := (Option.bind_some _ _).symm.trans H; with_reducible exact H2_) | with_reducible exact H | (rw [hy141]; exact H) | exact H
                        have Ny141 := Aside0.mk hy141
                        clear hy141
                        obtain rfl := Option.some.inj H
                        obtain ⟨Ao51, co51, eo51, _⟩ := Kd.Q_slice HO_5.out
                        subst eo51
                        go_wp2_with (first | ((with_reducible refine gate_builtin (b := .append) (xs := #[.tmp 63, .tmp 64]) rfl ?_); (try (refine gate_guard (by rfl) ?_; dsimp only)); at_builtin; refine Kd.R_append_rows k23 (w0 := w) w.heap.size rfl (.tmp 63) (.tmp 64) 35 23 (.agg #[(.string ⟨#[]⟩), (.int .i64 0), (.int .i64 0), (.int .i64 0)]) 40 rfl Tryd.underlying35 info23 rfl (by decide) (by omega) u7 x7_1 x5_1 _ _ _ (fun k_ => some k_ ≠ (.slice Ao51 x5_1.length co51 : Value).ownBlock ∧ some k_ ≠ (u6 : Value).ownBlock) (fun _ => False) rfl rfl ?aO ?aR (fun _ _ h => h) (fun _ h => h.elim) ?aF ?aB ?aS ?aL ?_; (case aR => repeat (first | exact (Kd.Q_reads' HO_5.out).2.2 | (with_reducible refine Kd.C_alloc ?_ _) | (with_reducible refine Kd.C_drewN ?_ _) | (with_reducible refine Kd.C_drew ?_))); (case aB => exact (by repeat (first | (with_reducible first | exact HB.out | apply below_alloc | apply pw_below_drewN | apply below_drew1) | exact HB.out))); (case aF => exact (fun k_ hk => ⟨Kd.fresh' (Kd.Q_lt (by (with_reducible repeat (first | apply Kd.Q_alloc | apply Kd.Q_drewN | apply Kd.Q_drew)); exact HO_5.out)) k_ hk, Kd.fresh' (Kd.Q_lt (by (with_reducible repeat (first | apply Kd.Q_alloc | apply Kd.Q_drewN | apply Kd.Q_drew)); exact HO_6.out)) k_ hk⟩)); (case aO => exact (by (with_reducible repeat (first | apply Kd.R_alloc | apply Kd.R_drewN | apply Kd.R_drew)); exact HO_7.out)); (case aS => exact (below_size (by repeat (first | (with_reducible first | exact HB.out | apply below_alloc | apply pw_below_drewN | apply below_drew1) | exact HB.out)))); (case aL => have := LMc48.out; omega); intro v139 w50 ho hb hg hat; rw [← Ny138.out] at ho; have n0_ := Aside0.mk (Kd.Q_after (ok := (fun k_ => some k_ ≠ (u6 : Value).ownBlock)) (by (with_reducible repeat (first | apply Kd.Q_alloc | apply Kd.Q_drewN | apply Kd.Q_drew)); exact HO_5.out) hg hat); have n1_ := Aside0.mk (Kd.Q_after (ok := (fun k_ => some k_ ≠ (.slice Ao51 x5_1.length co51 : Value).ownBlock)) (by (with_reducible repeat (first | apply Kd.Q_alloc | apply Kd.Q_drewN | apply Kd.Q_drew)); exact HO_6.out) hg hat); have n2_ := Aside0.mk (hb); have n3_ := Aside0.mk (ho); clear HO_5; clear HO_6; clear HB; clear HO_7; have HO_5 := n0_; have HO_6 := n1_; have HB := n2_; have HO140 := n3_; clear n0_ n1_ n2_ n3_; clear ho hb hg hat; obtain ⟨Ao53, co53, eo53, _⟩ := Kd.Q_slice HO_6.out; subst eo53) | ((with_reducible refine gate_builtin (b := .append) (xs := #[.tmp 65, .tmp 66]) rfl ?_); (try (refine gate_guard (by rfl) ?_; dsimp only)); at_builtin; refine Kd.R_append_rows k23 (w0 := w) w.heap.size rfl (.tmp 65) (.tmp 66) 35 23 (.agg #[(.string ⟨#[]⟩), (.int .i64 0), (.int .i64 0), (.int .i64 0)]) 40 rfl Tryd.underlying35 info23 rfl (by decide) (by omega) v139 y138 x6_1 _ _ _ (fun k_ => some k_ ≠ (.slice Ao51 x5_1.length co51 : Value).ownBlock ∧ some k_ ≠ (.slice Ao53 x6_1.length co53 : Value).ownBlock) (fun _ => False) rfl rfl ?aO ?aR (fun _ _ h => h) (fun _ h => h.elim) ?aF ?aB ?aS ?aL ?_; (case aR => repeat (first | exact (Kd.Q_reads' HO_6.out).2.2 | (with_reducible refine Kd.C_alloc ?_ _) | (with_reducible refine Kd.C_drewN ?_ _) | (with_reducible refine Kd.C_drew ?_))); (case aB => exact (by repeat (first | (with_reducible first | exact HB.out | apply below_alloc | apply pw_below_drewN | apply below_drew1) | exact HB.out))); (case aF => exact (fun k_ hk => ⟨Kd.fresh' (Kd.Q_lt (by (with_reducible repeat (first | apply Kd.Q_alloc | apply Kd.Q_drewN | apply Kd.Q_drew)); exact HO_5.out)) k_ hk, Kd.fresh' (Kd.Q_lt (by (with_reducible repeat (first | apply Kd.Q_alloc | apply Kd.Q_drewN | apply Kd.Q_drew)); exact HO_6.out)) k_ hk⟩)); (case aO => exact (by (with_reducible repeat (first | apply Kd.R_alloc | apply Kd.R_drewN | apply Kd.R_drew)); exact HO140.out)); (case aS => exact (below_size (by repeat (first | (with_reducible first | exact HB.out | apply below_alloc | apply pw_below_drewN | apply below_drew1) | exact HB.out)))); (case aL => have := LMc49.out; omega); intro v142 w52 ho hb hg hat; rw [← Ny141.out] at ho; have n0_ := Aside0.mk (Kd.Q_after (ok := (fun k_ => some k_ ≠ (.slice Ao53 x6_1.length co53 : Value).ownBlock)) (by (with_reducible repeat (first | apply Kd.Q_alloc | apply Kd.Q_drewN | apply Kd.Q_drew)); exact HO_5.out) hg hat); have n1_ := Aside0.mk (Kd.Q_after (ok := (fun k_ => some k_ ≠ (.slice Ao51 x5_1.length co51 : Value).ownBlock)) (by (with_reducible repeat (first | apply Kd.Q_alloc | apply Kd.Q_drewN | apply Kd.Q_drew)); exact HO_6.out) hg hat); have n2_ := Aside0.mk (hb); have n3_ := Aside0.mk (ho); clear HO_5; clear HO_6; clear HB; clear HO140; have HO_5 := n0_; have HO_6 := n1_; have HB := n2_; have HO143 := n3_; clear n0_ n1_ n2_ n3_; clear ho hb hg hat))
                        go_ret
                        exact ⟨_, by first | rfl | (simp [errW_none, errW_some] <;> rfl) | (simp only [← hji5]; first | rfl | (simp [errW_none, errW_some] <;> rfl)) | (simp [*, errW_none, errW_some] <;> rfl), by (with_reducible repeat (first | apply Kd.R_alloc | apply Kd.R_drewN | apply Kd.R_drew)); exact Kd.R_mono HO143.out (fun _ hk => trivial), by repeat (first | (with_reducible first | exact HB.out | apply below_alloc | apply pw_below_drewN | apply below_drew1) | exact HB.out)⟩
                      · rw [if_neg c49] at H
                        exact absurd H (by simp)
                    · rw [if_neg c48] at H
                      exact absurd H (by simp)
        · rw [if_neg c12] at H
          exact absurd H (by simp)
      · rw [if_neg c7] at H
        exact absurd H (by simp)
    · rw [if_neg c6] at H
      exact absurd H (by simp)
end Go.Proofs.YtieifncibojciaaDoor.X
end
section
namespace Go.Proofs.YtieifncibojciaaDoor.X
open Go.RowKit Go.Proofs.YtieifncibojciaaDoorW.PrintWords Go.Proofs.YtieifncibojciaaDoorW.PrintLast Go.Proofs.YtieifncibojciaaDoorW.PrintMore
attribute [local go_sem] max2_int min2_int max_two min_two max_three min_three max_four min_four
set_option linter.unusedVariables false
set_option linter.unusedSimpArgs false
attribute [local go_sem high] eqA23
def series_Sort.l0 : Nat → List (S23) → List (S23) → Int → Int → Option ((List (S23)))
  | 0, _, _, _, _ => none
  | k + 1, x2, x6, x7, x8 => if x8 < x7 then (if 0 ≤ x8 then (if x8 < (x6.length : Int) then (if (x2.length : Int) = 0 then (if x2.length < 3518437208883 then (series_Sort.l0 k (x2 ++ [(⟨(rd_T23 x6 x8).f0, (rd_T23 x6 x8).f1, (rd_T23 x6 x8).f2, (rd_T23 x6 x8).f3⟩ : S23)]) x6 x7 (wrap64 (x8 + 1))) else (none)) else (if 0 ≤ (wrap64 ((x2.length : Int) - 1)) then (if (wrap64 ((x2.length : Int) - 1)) < (x2.length : Int) then (if (!((((rd_T23 x2 (wrap64 ((x2.length : Int) - 1))).f0).toList) == (((rd_T23 x6 x8).f0).toList)) || (!(((rd_T23 x2 (wrap64 ((x2.length : Int) - 1))).f1) == ((rd_T23 x6 x8).f1)) || (!(((rd_T23 x2 (wrap64 ((x2.length : Int) - 1))).f2) == ((rd_T23 x6 x8).f2)) || (!(((rd_T23 x2 (wrap64 ((x2.length : Int) - 1))).f3) == ((rd_T23 x6 x8).f3)))))) = true then (if x2.length < 3518437208883 then (series_Sort.l0 k (x2 ++ [(⟨(rd_T23 x6 x8).f0, (rd_T23 x6 x8).f1, (rd_T23 x6 x8).f2, (rd_T23 x6 x8).f3⟩ : S23)]) x6 x7 (wrap64 (x8 + 1))) else (none)) else (series_Sort.l0 k x2 x6 x7 (wrap64 (x8 + 1)))) else (none)) else (none))) else (none)) else (none)) else (some x2)
def series_Sort.f (k : Nat) (l0 : List (S23)) : Option ((List (S23))) := (api_Series_68.f k l0).bind fun t101 => (series_Sort.l0 k ([] : List (S23)) t101 (t101.length : Int) 0)
set_option maxHeartbeats 8000000 in
set_option maxRecDepth 100000 in
theorem series_Sort.calls (k : Nat) (A0 : Option Addr) (c0 : Nat) (l0 : List (S23)) (r : List (S23)) (w : World) (hr0 : Kd.C k23 w A0 l0.length l0) (hc0 : l0.length ≤ c0) (h : series_Sort.f k l0 = some r) :
    Calls Tryd.prog 22 #[.slice A0 l0.length c0] w fun e w' => ∃ v0_ : Value, e = .returned (v0_) ∧ Kd.R k23 23 w' w.heap.size (fun _ => True) v0_ r ∧ Below w.heap.size w w' := by
  have hu23 := Tryd.underlying23
  have HR0 := Aside0.mk hr0
  have HC0 := Aside0.mk hc0
  clear hr0 hc0
  have HB := Aside0.mk (Below.refl w.heap.size w)
  have H : ((api_Series_68.f k l0).bind fun t101 => (series_Sort.l0 k ([] : List (S23)) t101 (t101.length : Int) 0)) = some r := h
  clear h
  replace H := Option.bind_eq_some_iff.mp H
  obtain ⟨t101, A20, H⟩ := H
  replace H : (series_Sort.l0 k ([] : List (S23)) t101 (t101.length : Int) 0) = some r := H
  have A2 := Aside0.mk A20
  clear A20
  have H' := Aside0.mk H
  clear H
  go_enter Tryd.func22, Tryd.ntmps22
  go_wp2_with (first | (go_at_call 68; (with_reducible refine (api_Series_68.calls k _ _ l0 t101 _ ?side1 ?side2 A2.out).mono ?_); (case side1 => repeat (first | exact HR0.out | (with_reducible refine Kd.C_alloc ?_ _) | (with_reducible refine Kd.C_drewN ?_ _) | (with_reducible refine Kd.C_drew ?_))); (case side2 => exact HC0.out); rintro e w3 ⟨v102, rfl, ho0, hb⟩; have n0_ := Aside0.mk (Kd.R_lower ho0 (below_size (by repeat (first | (with_reducible first | exact HB.out | apply below_alloc | apply pw_below_drewN | apply below_drew1) | exact HB.out)))); have n1_ := Aside0.mk (below_step (by repeat (first | (with_reducible first | exact HB.out | apply below_alloc | apply pw_below_drewN | apply below_drew1) | exact HB.out)) hb); clear HB; have HO103 := n0_; have HB := n1_; clear n0_ n1_; (try clear hb); (try clear hb2); (try clear hk); (try clear hi); (try clear ho0); obtain ⟨Ao4, co4, eo4⟩ := Kd.R_slice HO103.out; subst eo4))
  repeat (go_quiet (first | (go_at_call 68; (with_reducible refine (api_Series_68.calls k _ _ l0 t101 _ ?side1 ?side2 A2.out).mono ?_); (case side1 => repeat (first | exact HR0.out | (with_reducible refine Kd.C_alloc ?_ _) | (with_reducible refine Kd.C_drewN ?_ _) | (with_reducible refine Kd.C_drew ?_))); (case side2 => exact HC0.out); rintro e w3 ⟨v102, rfl, ho0, hb⟩; have n0_ := Aside0.mk (Kd.R_lower ho0 (below_size (by repeat (first | (with_reducible first | exact HB.out | apply below_alloc | apply pw_below_drewN | apply below_drew1) | exact HB.out)))); have n1_ := Aside0.mk (below_step (by repeat (first | (with_reducible first | exact HB.out | apply below_alloc | apply pw_below_drewN | apply below_drew1) | exact HB.out)) hb); clear HB; have HO103 := n0_; have HB := n1_; clear n0_ n1_; (try clear hb); (try clear hb2); (try clear hk); (try clear hi); (try clear ho0); obtain ⟨Ao4, co4, eo4⟩ := Kd.R_slice HO103.out; subst eo4)); try go_wp2_with (first | (go_at_call 68; (with_reducible refine (api_Series_68.calls k _ _ l0 t101 _ ?side1 ?side2 A2.out).mono ?_); (case side1 => repeat (first | exact HR0.out | (with_reducible refine Kd.C_alloc ?_ _) | (with_reducible refine Kd.C_drewN ?_ _) | (with_reducible refine Kd.C_drew ?_))); (case side2 => exact HC0.out); rintro e w3 ⟨v102, rfl, ho0, hb⟩; have n0_ := Aside0.mk (Kd.R_lower ho0 (below_size (by repeat (first | (with_reducible first | exact HB.out | apply below_alloc | apply pw_below_drewN | apply below_drew1) | exact HB.out)))); have n1_ := Aside0.mk (below_step (by repeat (first | (with_reducible first | exact HB.out | apply below_alloc | apply pw_below_drewN | apply below_drew1) | exact HB.out)) hb); clear HB; have HO103 := n0_; have HB := n1_; clear n0_ n1_; (try clear hb); (try clear hb2); (try clear hk); (try clear hi); (try clear ho0); obtain ⟨Ao4, co4, eo4⟩ := Kd.R_slice HO103.out; subst eo4)))
  go_loopg [2, 8] k (fun kq v2 v8 w' => ∃ (x2_1 : List (S23)) (x8_1 : Int), v8 = .int .i64 x8_1 ∧ Aside0 (series_Sort.l0 kq x2_1 t101 (t101.length : Int) x8_1 = some r) ∧ Aside0 (kq ≤ k) ∧ Aside0 (Kd.R k23 23 w' w.heap.size (fun k_ => some k_ ≠ ((.slice Ao4 t101.length co4) : Value).ownBlock) v2 x2_1) ∧ Aside0 (Kd.R k23 23 w' w.heap.size (fun k_ => some k_ ≠ (v2 : Value).ownBlock) (.slice Ao4 t101.length co4) t101) ∧ Aside0 (Below w.heap.size w w'))
  case atStart => exact ⟨(([] : List (S23))), (0), (by first | rfl | (simp; done) | (simp [*]; done)), H', ⟨Nat.le_refl _⟩, ⟨by first | exact Kd.R_nil _ _ _ _ _ | exact Kd.N_nil _ _ _ _ _ | exact Kd.V_nil _ _ _ _ _ | exact Kd.Q_nil _ _ _ _ _ | exact Kd.S_nil _ _ _ _ _⟩, ⟨by (with_reducible repeat (first | apply Kd.R_alloc | apply Kd.R_drewN | apply Kd.R_drew)); exact Kd.R_mono HO103.out (fun _ hk => (by simp [Value.ownBlock]))⟩, ⟨by repeat (first | (with_reducible first | exact HB.out | apply below_alloc | apply pw_below_drewN | apply below_drew1) | exact HB.out)⟩⟩
  case round =>
    clear H'
    try clear c2
    try clear p2
    obtain ⟨x2_1, x8_1, rfl, HA, HK1, HO_2, HO_6, HB⟩ := hrel
    cases gk with
    | zero => exact absurd HA.out (by simp [series_Sort.l0])
    | succ k1 =>
      have H := HA.out
      clear HA
      simp only [series_Sort.l0] at H
      by_cases c5 : x8_1 < (t101.length : Int)
      · rw [if_pos c5] at H
        have c5b0 : decide (x8_1 < (t101.length : Int)) = true := decide_eq_true c5
        clear c5
        by_cases c6 : 0 ≤ x8_1
        · rw [if_pos c6] at H
          have c6b0 : decide (0 ≤ x8_1) = true := decide_eq_true c6
          clear c6
          by_cases c7 : x8_1 < (t101.length : Int)
          · rw [if_pos c7] at H
            have c7b0 : decide (x8_1 < (t101.length : Int)) = true := decide_eq_true c7
            clear c7
            by_cases c8 : (x2_1.length : Int) = 0
            · rw [if_pos c8] at H
              have c8b0 : ((x2_1.length : Int) == 0) = true := beq_iff_eq.mpr c8
              have c8b1 : ((x2_1.length : Int) != 0) = false := bne_eq_false_iff_eq.mpr c8
              clear c8
              by_cases c9 : x2_1.length < 3518437208883
              · rw [if_pos c9] at H
                have LMc9 := Aside0.mk c9
                clear c9
                obtain ⟨y106, hy106⟩ : ∃ y_ : List (S23), y_ = (x2_1 ++ [(⟨(rd_T23 t101 x8_1).f0, (rd_T23 t101 x8_1).f1, (rd_T23 t101 x8_1).f2, (rd_T23 t101 x8_1).f3⟩ : S23)]) := ⟨_, rfl⟩
                replace H : (series_Sort.l0 k1 y106 t101 (t101.length : Int) (wrap64 (x8_1 + 1))) = some r := by first | (rw [hy106]; with_reducible exact H) | (have H2_ := (Option.bind_some _ _).symm.trans H; rw [hy106]; with_reducible exact H2_) | (have H2_ := (Option.bind_some _ _).symm.trans H; with_reducible exact H2_) | with_reducible exact H | (rw [hy106]; exact H) | exact H
                have Ny106 := Aside0.mk hy106
                clear hy106
                have H' := Aside0.mk H
                clear H
                have p104 : 0 ≤ (x8_1 : Int) := of_decide_eq_true (by first | (with_reducible assumption) | assumption)
                have q104 : x8_1 < (t101.length : Int) := of_decide_eq_true (by first | (with_reducible assumption) | assumption)
                obtain ⟨ad104, e104, hx104_0, hx104_1, hx104_2, hx104_3⟩ := at_T23 (Kd.R_reads' HO_6.out).2.2 x8_1 p104 q104
                cases e104
                replace p104 := eq_true p104
                replace q104 := eq_true q104
                go_wp2_with (first | ((with_reducible refine gate_dst (N := 4) rfl ?_); (try (refine gate_guard (by rfl) ?_; dsimp only)); refine box_event ?hg (N := 4) ?hd (cs := #[.string (⟨#[]⟩ : ByteArray), .int .i64 0, .int .i64 0, .int .i64 0]) (t := 23) ?hr ?_; (case hd => rfl); (case hg => rfl); (case hr => first | (go_simp; done) | (go_simp; rfl)); intro gb105 hg w10 hbox hb; have n0_ := Aside0.mk (Kd.R_below (Kd.R_elderB (by (with_reducible repeat (first | apply Kd.R_alloc | apply Kd.R_drewN | apply Kd.R_drew)); exact HO_2.out) gb105 (Nat.le_of_eq hg.symm)) hb); have n1_ := Aside0.mk (Kd.R_below (Kd.R_elderB (by (with_reducible repeat (first | apply Kd.R_alloc | apply Kd.R_drewN | apply Kd.R_drew)); exact HO_6.out) gb105 (Nat.le_of_eq hg.symm)) hb); have n2_ := Aside0.mk (below_step (by repeat (first | (with_reducible first | exact HB.out | apply below_alloc | apply pw_below_drewN | apply below_drew1) | exact HB.out)) hb); have n3_ := Aside0.mk (hbox); have n4_ := Aside0.mk ((by rw [hg]; exact (below_size (by repeat (first | (with_reducible first | exact HB.out | apply below_alloc | apply pw_below_drewN | apply below_drew1) | exact HB.out))) : w.heap.size ≤ gb105)); have n5_ := Aside0.mk ((by rw [hg]; exact (below_size (by repeat (first | (with_reducible first | exact HB.out | apply below_alloc | apply pw_below_drewN | apply below_drew1) | exact HB.out))) : w.heap.size ≤ gb105)); clear HO_2; clear HO_6; clear HB; have HO_2 := n0_; have HO_6 := n1_; have HB := n2_; have BK105 := n3_; have GW105 := n4_; have GE105 := n5_; clear n0_ n1_ n2_ n3_ n4_ n5_; clear hb hbox hg; have hcz11_0 : w10.cell? ⟨gb105, 0, none⟩ = some (.string (⟨#[]⟩ : ByteArray)) := (blk_cell BK105.out 0).trans rfl; have hcz11_1 : w10.cell? ⟨gb105, 1, none⟩ = some (.int .i64 0) := (blk_cell BK105.out 1).trans rfl; have hcz11_2 : w10.cell? ⟨gb105, 2, none⟩ = some (.int .i64 0) := (blk_cell BK105.out 2).trans rfl; have hcz11_3 : w10.cell? ⟨gb105, 3, none⟩ = some (.int .i64 0) := (blk_cell BK105.out 3).trans rfl; have hfz11_0 := blk_frozen BK105.out 0; have hfz11_1 := blk_frozen BK105.out 1; have hfz11_2 := blk_frozen BK105.out 2; have hfz11_3 := blk_frozen BK105.out 3; obtain ⟨Ao12, co12, eo12⟩ := Kd.R_slice HO_2.out; subst eo12) | ((with_reducible refine gate_builtin (b := .append) (xs := #[.tmp 25, .tmp 27]) rfl ?_); (try (refine gate_guard (by rfl) ?_; dsimp only)); at_builtin; refine Kd.R_append k23 (w0 := w) w.heap.size rfl (.tmp 25) (.tmp 27) 35 23 (.agg #[(.string ⟨#[]⟩), (.int .i64 0), (.int .i64 0), (.int .i64 0)]) 40 rfl Tryd.underlying35 info23 rfl (by decide) (by omega) (.slice Ao12 x2_1.length co12) x2_1 (⟨(rd_T23 t101 x8_1).f0, (rd_T23 t101 x8_1).f1, (rd_T23 t101 x8_1).f2, (rd_T23 t101 x8_1).f3⟩ : S23) [.string ((rd_T23 t101 x8_1).f0), .int .i64 ((rd_T23 t101 x8_1).f1), .int .i64 ((rd_T23 t101 x8_1).f2), .int .i64 ((rd_T23 t101 x8_1).f3)] (fun k_ => some k_ ≠ (.slice (some ad104) t101.length co4 : Value).ownBlock ∧ k_ ≠ gb105) (fun _ => False) rfl (by first | (go_simp; done) | (go_simp; rfl)) ?aP (fun _ hk => hk.elim) ?aF ?aO ?aB ?aS ?aL ?_; (case aP => exact k23_mkM _ _ _ (⟨(rd_T23 t101 x8_1).f0, (rd_T23 t101 x8_1).f1, (rd_T23 t101 x8_1).f2, (rd_T23 t101 x8_1).f3⟩ : S23)); (case aB => exact (by repeat (first | (with_reducible first | exact HB.out | apply below_alloc | apply pw_below_drewN | apply below_drew1 | refine below_set ?_ GE105.out) | exact HB.out))); (case aF => exact (fun k_ hk => ⟨Kd.fresh' (Kd.R_lt (by (with_reducible repeat (first | apply Kd.R_alloc | apply Kd.R_drewN | apply Kd.R_drew)); exact (Kd.R_mono (Kd.R_far (p := ⟨gb105, 3, none⟩) (Kd.R_far (p := ⟨gb105, 2, none⟩) (Kd.R_far (p := ⟨gb105, 1, none⟩) (Kd.R_far (p := ⟨gb105, 0, none⟩) (Kd.R_mono HO_6.out (fun k_ hk => (⟨hk, hk.2⟩ : _ ∧ k_ ≠ gb105))) (fun _ hk => hk.2) (.string ((rd_T23 t101 x8_1).f0))) (fun _ hk => hk.2) (.int .i64 ((rd_T23 t101 x8_1).f1))) (fun _ hk => hk.2) (.int .i64 ((rd_T23 t101 x8_1).f2))) (fun _ hk => hk.2) (.int .i64 ((rd_T23 t101 x8_1).f3))) (fun _ h_ => h_.1)))) k_ hk, Kd.freshB (g := gb105) (o := .cells #[.string ((rd_T23 t101 x8_1).f0), .int .i64 ((rd_T23 t101 x8_1).f1), .int .i64 ((rd_T23 t101 x8_1).f2), .int .i64 ((rd_T23 t101 x8_1).f3)] 23 (0, 0)) (by (with_reducible repeat (first | refine blk_drewN ?_ _ | refine blk_drew ?_ | refine blk_alloc ?_ _)); refine blk_put (cs := #[.string ((rd_T23 t101 x8_1).f0), .int .i64 ((rd_T23 t101 x8_1).f1), .int .i64 ((rd_T23 t101 x8_1).f2), .int .i64 0]) ?_ 3 _ rfl; (with_reducible repeat (first | refine blk_drewN ?_ _ | refine blk_drew ?_ | refine blk_alloc ?_ _)); refine blk_put (cs := #[.string ((rd_T23 t101 x8_1).f0), .int .i64 ((rd_T23 t101 x8_1).f1), .int .i64 0, .int .i64 0]) ?_ 2 _ rfl; (with_reducible repeat (first | refine blk_drewN ?_ _ | refine blk_drew ?_ | refine blk_alloc ?_ _)); refine blk_put (cs := #[.string ((rd_T23 t101 x8_1).f0), .int .i64 0, .int .i64 0, .int .i64 0]) ?_ 1 _ rfl; (with_reducible repeat (first | refine blk_drewN ?_ _ | refine blk_drew ?_ | refine blk_alloc ?_ _)); refine blk_put (cs := #[.string (⟨#[]⟩ : ByteArray), .int .i64 0, .int .i64 0, .int .i64 0]) ?_ 0 _ rfl; (with_reducible repeat (first | refine blk_drewN ?_ _ | refine blk_drew ?_ | refine blk_alloc ?_ _)); exact BK105.out) k_ hk⟩)); (case aO => exact (by (with_reducible repeat (first | apply Kd.R_alloc | apply Kd.R_drewN | apply Kd.R_drew)); exact Kd.R_mono (Kd.R_far (p := ⟨gb105, 3, none⟩) (Kd.R_far (p := ⟨gb105, 2, none⟩) (Kd.R_far (p := ⟨gb105, 1, none⟩) (Kd.R_far (p := ⟨gb105, 0, none⟩) (Kd.R_mono HO_2.out (fun k_ hk => (⟨hk, hk.2⟩ : _ ∧ k_ ≠ gb105))) (fun _ hk => hk.2) (.string ((rd_T23 t101 x8_1).f0))) (fun _ hk => hk.2) (.int .i64 ((rd_T23 t101 x8_1).f1))) (fun _ hk => hk.2) (.int .i64 ((rd_T23 t101 x8_1).f2))) (fun _ hk => hk.2) (.int .i64 ((rd_T23 t101 x8_1).f3))) (fun _ hk => ⟨hk.1.1, hk.1.2⟩))); (case aS => exact (below_size (by repeat (first | (with_reducible first | exact HB.out | apply below_alloc | apply pw_below_drewN | apply below_drew1 | refine below_set ?_ GE105.out) | exact HB.out)))); (case aL => have := LMc9.out; omega); intro v107 w13 ho hb hg hat; rw [← Ny106.out] at ho; have n0_ := Aside0.mk (Kd.R_after (ok := (fun k_ => k_ ≠ gb105)) (by (with_reducible repeat (first | apply Kd.R_alloc | apply Kd.R_drewN | apply Kd.R_drew)); exact Kd.R_mono (Kd.R_far (p := ⟨gb105, 3, none⟩) (Kd.R_far (p := ⟨gb105, 2, none⟩) (Kd.R_far (p := ⟨gb105, 1, none⟩) (Kd.R_far (p := ⟨gb105, 0, none⟩) (Kd.R_mono HO_6.out (fun k_ hk => (⟨hk, hk.2⟩ : _ ∧ k_ ≠ gb105))) (fun _ hk => hk.2) (.string ((rd_T23 t101 x8_1).f0))) (fun _ hk => hk.2) (.int .i64 ((rd_T23 t101 x8_1).f1))) (fun _ hk => hk.2) (.int .i64 ((rd_T23 t101 x8_1).f2))) (fun _ hk => hk.2) (.int .i64 ((rd_T23 t101 x8_1).f3))) (fun _ hk => ⟨hk.1.2, hk.1.1⟩)) hg hat); have n1_ := Aside0.mk (blk_grown (g := gb105) (o := .cells #[.string ((rd_T23 t101 x8_1).f0), .int .i64 ((rd_T23 t101 x8_1).f1), .int .i64 ((rd_T23 t101 x8_1).f2), .int .i64 ((rd_T23 t101 x8_1).f3)] 23 (0, 0)) (by (with_reducible repeat (first | refine blk_drewN ?_ _ | refine blk_drew ?_ | refine blk_alloc ?_ _)); refine blk_put (cs := #[.string ((rd_T23 t101 x8_1).f0), .int .i64 ((rd_T23 t101 x8_1).f1), .int .i64 ((rd_T23 t101 x8_1).f2), .int .i64 0]) ?_ 3 _ rfl; (with_reducible repeat (first | refine blk_drewN ?_ _ | refine blk_drew ?_ | refine blk_alloc ?_ _)); refine blk_put (cs := #[.string ((rd_T23 t101 x8_1).f0), .int .i64 ((rd_T23 t101 x8_1).f1), .int .i64 0, .int .i64 0]) ?_ 2 _ rfl; (with_reducible repeat (first | refine blk_drewN ?_ _ | refine blk_drew ?_ | refine blk_alloc ?_ _)); refine blk_put (cs := #[.string ((rd_T23 t101 x8_1).f0), .int .i64 0, .int .i64 0, .int .i64 0]) ?_ 1 _ rfl; (with_reducible repeat (first | refine blk_drewN ?_ _ | refine blk_drew ?_ | refine blk_alloc ?_ _)); refine blk_put (cs := #[.string (⟨#[]⟩ : ByteArray), .int .i64 0, .int .i64 0, .int .i64 0]) ?_ 0 _ rfl; (with_reducible repeat (first | refine blk_drewN ?_ _ | refine blk_drew ?_ | refine blk_alloc ?_ _)); exact BK105.out) hg (Kd.R_away HO_2.out (fun _ hk => hk.2))); have n2_ := Aside0.mk (hb); have n3_ := Aside0.mk (ho); clear HO_6; clear BK105; clear HB; clear HO_2; have HO_6 := n0_; have BK105 := n1_; have HB := n2_; have HO108 := n3_; clear n0_ n1_ n2_ n3_; clear ho hb hg hat))
                repeat (go_quiet (first | ((with_reducible refine gate_dst (N := 4) rfl ?_); (try (refine gate_guard (by rfl) ?_; dsimp only)); refine box_event ?hg (N := 4) ?hd (cs := #[.string (⟨#[]⟩ : ByteArray), .int .i64 0, .int .i64 0, .int .i64 0]) (t := 23) ?hr ?_; (case hd => rfl); (case hg => rfl); (case hr => first | (go_simp; done) | (go_simp; rfl)); intro gb105 hg w10 hbox hb; have n0_ := Aside0.mk (Kd.R_below (Kd.R_elderB (by (with_reducible repeat (first | apply Kd.R_alloc | apply Kd.R_drewN | apply Kd.R_drew)); exact HO_2.out) gb105 (Nat.le_of_eq hg.symm)) hb); have n1_ := Aside0.mk (Kd.R_below (Kd.R_elderB (by (with_reducible repeat (first | apply Kd.R_alloc | apply Kd.R_drewN | apply Kd.R_drew)); exact HO_6.out) gb105 (Nat.le_of_eq hg.symm)) hb); have n2_ := Aside0.mk (below_step (by repeat (first | (with_reducible first | exact HB.out | apply below_alloc | apply pw_below_drewN | apply below_drew1) | exact HB.out)) hb); have n3_ := Aside0.mk (hbox); have n4_ := Aside0.mk ((by rw [hg]; exact (below_size (by repeat (first | (with_reducible first | exact HB.out | apply below_alloc | apply pw_below_drewN | apply below_drew1) | exact HB.out))) : w.heap.size ≤ gb105)); have n5_ := Aside0.mk ((by rw [hg]; exact (below_size (by repeat (first | (with_reducible first | exact HB.out | apply below_alloc | apply pw_below_drewN | apply below_drew1) | exact HB.out))) : w.heap.size ≤ gb105)); clear HO_2; clear HO_6; clear HB; have HO_2 := n0_; have HO_6 := n1_; have HB := n2_; have BK105 := n3_; have GW105 := n4_; have GE105 := n5_; clear n0_ n1_ n2_ n3_ n4_ n5_; clear hb hbox hg; have hcz11_0 : w10.cell? ⟨gb105, 0, none⟩ = some (.string (⟨#[]⟩ : ByteArray)) := (blk_cell BK105.out 0).trans rfl; have hcz11_1 : w10.cell? ⟨gb105, 1, none⟩ = some (.int .i64 0) := (blk_cell BK105.out 1).trans rfl; have hcz11_2 : w10.cell? ⟨gb105, 2, none⟩ = some (.int .i64 0) := (blk_cell BK105.out 2).trans rfl; have hcz11_3 : w10.cell? ⟨gb105, 3, none⟩ = some (.int .i64 0) := (blk_cell BK105.out 3).trans rfl; have hfz11_0 := blk_frozen BK105.out 0; have hfz11_1 := blk_frozen BK105.out 1; have hfz11_2 := blk_frozen BK105.out 2; have hfz11_3 := blk_frozen BK105.out 3; obtain ⟨Ao12, co12, eo12⟩ := Kd.R_slice HO_2.out; subst eo12) | ((with_reducible refine gate_builtin (b := .append) (xs := #[.tmp 25, .tmp 27]) rfl ?_); (try (refine gate_guard (by rfl) ?_; dsimp only)); at_builtin; refine Kd.R_append k23 (w0 := w) w.heap.size rfl (.tmp 25) (.tmp 27) 35 23 (.agg #[(.string ⟨#[]⟩), (.int .i64 0), (.int .i64 0), (.int .i64 0)]) 40 rfl Tryd.underlying35 info23 rfl (by decide) (by omega) (.slice Ao12 x2_1.length co12) x2_1 (⟨(rd_T23 t101 x8_1).f0, (rd_T23 t101 x8_1).f1, (rd_T23 t101 x8_1).f2, (rd_T23 t101 x8_1).f3⟩ : S23) [.string ((rd_T23 t101 x8_1).f0), .int .i64 ((rd_T23 t101 x8_1).f1), .int .i64 ((rd_T23 t101 x8_1).f2), .int .i64 ((rd_T23 t101 x8_1).f3)] (fun k_ => some k_ ≠ (.slice (some ad104) t101.length co4 : Value).ownBlock ∧ k_ ≠ gb105) (fun _ => False) rfl (by first | (go_simp; done) | (go_simp; rfl)) ?aP (fun _ hk => hk.elim) ?aF ?aO ?aB ?aS ?aL ?_; (case aP => exact k23_mkM _ _ _ (⟨(rd_T23 t101 x8_1).f0, (rd_T23 t101 x8_1).f1, (rd_T23 t101 x8_1).f2, (rd_T23 t101 x8_1).f3⟩ : S23)); (case aB => exact (by repeat (first | (with_reducible first | exact HB.out | apply below_alloc | apply pw_below_drewN | apply below_drew1 | refine below_set ?_ GE105.out) | exact HB.out))); (case aF => exact (fun k_ hk => ⟨Kd.fresh' (Kd.R_lt (by (with_reducible repeat (first | apply Kd.R_alloc | apply Kd.R_drewN | apply Kd.R_drew)); exact (Kd.R_mono (Kd.R_far (p := ⟨gb105, 3, none⟩) (Kd.R_far (p := ⟨gb105, 2, none⟩) (Kd.R_far (p := ⟨gb105, 1, none⟩) (Kd.R_far (p := ⟨gb105, 0, none⟩) (Kd.R_mono HO_6.out (fun k_ hk => (⟨hk, hk.2⟩ : _ ∧ k_ ≠ gb105))) (fun _ hk => hk.2) (.string ((rd_T23 t101 x8_1).f0))) (fun _ hk => hk.2) (.int .i64 ((rd_T23 t101 x8_1).f1))) (fun _ hk => hk.2) (.int .i64 ((rd_T23 t101 x8_1).f2))) (fun _ hk => hk.2) (.int .i64 ((rd_T23 t101 x8_1).f3))) (fun _ h_ => h_.1)))) k_ hk, Kd.freshB (g := gb105) (o := .cells #[.string ((rd_T23 t101 x8_1).f0), .int .i64 ((rd_T23 t101 x8_1).f1), .int .i64 ((rd_T23 t101 x8_1).f2), .int .i64 ((rd_T23 t101 x8_1).f3)] 23 (0, 0)) (by (with_reducible repeat (first | refine blk_drewN ?_ _ | refine blk_drew ?_ | refine blk_alloc ?_ _)); refine blk_put (cs := #[.string ((rd_T23 t101 x8_1).f0), .int .i64 ((rd_T23 t101 x8_1).f1), .int .i64 ((rd_T23 t101 x8_1).f2), .int .i64 0]) ?_ 3 _ rfl; (with_reducible repeat (first | refine blk_drewN ?_ _ | refine blk_drew ?_ | refine blk_alloc ?_ _)); refine blk_put (cs := #[.string ((rd_T23 t101 x8_1).f0), .int .i64 ((rd_T23 t101 x8_1).f1), .int .i64 0, .int .i64 0]) ?_ 2 _ rfl; (with_reducible repeat (first | refine blk_drewN ?_ _ | refine blk_drew ?_ | refine blk_alloc ?_ _)); refine blk_put (cs := #[.string ((rd_T23 t101 x8_1).f0), .int .i64 0, .int .i64 0, .int .i64 0]) ?_ 1 _ rfl; (with_reducible repeat (first | refine blk_drewN ?_ _ | refine blk_drew ?_ | refine blk_alloc ?_ _)); refine blk_put (cs := #[.string (⟨#[]⟩ : ByteArray), .int .i64 0, .int .i64 0, .int .i64 0]) ?_ 0 _ rfl; (with_reducible repeat (first | refine blk_drewN ?_ _ | refine blk_drew ?_ | refine blk_alloc ?_ _)); exact BK105.out) k_ hk⟩)); (case aO => exact (by (with_reducible repeat (first | apply Kd.R_alloc | apply Kd.R_drewN | apply Kd.R_drew)); exact Kd.R_mono (Kd.R_far (p := ⟨gb105, 3, none⟩) (Kd.R_far (p := ⟨gb105, 2, none⟩) (Kd.R_far (p := ⟨gb105, 1, none⟩) (Kd.R_far (p := ⟨gb105, 0, none⟩) (Kd.R_mono HO_2.out (fun k_ hk => (⟨hk, hk.2⟩ : _ ∧ k_ ≠ gb105))) (fun _ hk => hk.2) (.string ((rd_T23 t101 x8_1).f0))) (fun _ hk => hk.2) (.int .i64 ((rd_T23 t101 x8_1).f1))) (fun _ hk => hk.2) (.int .i64 ((rd_T23 t101 x8_1).f2))) (fun _ hk => hk.2) (.int .i64 ((rd_T23 t101 x8_1).f3))) (fun _ hk => ⟨hk.1.1, hk.1.2⟩))); (case aS => exact (below_size (by repeat (first | (with_reducible first | exact HB.out | apply below_alloc | apply pw_below_drewN | apply below_drew1 | refine below_set ?_ GE105.out) | exact HB.out)))); (case aL => have := LMc9.out; omega); intro v107 w13 ho hb hg hat; rw [← Ny106.out] at ho; have n0_ := Aside0.mk (Kd.R_after (ok := (fun k_ => k_ ≠ gb105)) (by (with_reducible repeat (first | apply Kd.R_alloc | apply Kd.R_drewN | apply Kd.R_drew)); exact Kd.R_mono (Kd.R_far (p := ⟨gb105, 3, none⟩) (Kd.R_far (p := ⟨gb105, 2, none⟩) (Kd.R_far (p := ⟨gb105, 1, none⟩) (Kd.R_far (p := ⟨gb105, 0, none⟩) (Kd.R_mono HO_6.out (fun k_ hk => (⟨hk, hk.2⟩ : _ ∧ k_ ≠ gb105))) (fun _ hk => hk.2) (.string ((rd_T23 t101 x8_1).f0))) (fun _ hk => hk.2) (.int .i64 ((rd_T23 t101 x8_1).f1))) (fun _ hk => hk.2) (.int .i64 ((rd_T23 t101 x8_1).f2))) (fun _ hk => hk.2) (.int .i64 ((rd_T23 t101 x8_1).f3))) (fun _ hk => ⟨hk.1.2, hk.1.1⟩)) hg hat); have n1_ := Aside0.mk (blk_grown (g := gb105) (o := .cells #[.string ((rd_T23 t101 x8_1).f0), .int .i64 ((rd_T23 t101 x8_1).f1), .int .i64 ((rd_T23 t101 x8_1).f2), .int .i64 ((rd_T23 t101 x8_1).f3)] 23 (0, 0)) (by (with_reducible repeat (first | refine blk_drewN ?_ _ | refine blk_drew ?_ | refine blk_alloc ?_ _)); refine blk_put (cs := #[.string ((rd_T23 t101 x8_1).f0), .int .i64 ((rd_T23 t101 x8_1).f1), .int .i64 ((rd_T23 t101 x8_1).f2), .int .i64 0]) ?_ 3 _ rfl; (with_reducible repeat (first | refine blk_drewN ?_ _ | refine blk_drew ?_ | refine blk_alloc ?_ _)); refine blk_put (cs := #[.string ((rd_T23 t101 x8_1).f0), .int .i64 ((rd_T23 t101 x8_1).f1), .int .i64 0, .int .i64 0]) ?_ 2 _ rfl; (with_reducible repeat (first | refine blk_drewN ?_ _ | refine blk_drew ?_ | refine blk_alloc ?_ _)); refine blk_put (cs := #[.string ((rd_T23 t101 x8_1).f0), .int .i64 0, .int .i64 0, .int .i64 0]) ?_ 1 _ rfl; (with_reducible repeat (first | refine blk_drewN ?_ _ | refine blk_drew ?_ | refine blk_alloc ?_ _)); refine blk_put (cs := #[.string (⟨#[]⟩ : ByteArray), .int .i64 0, .int .i64 0, .int .i64 0]) ?_ 0 _ rfl; (with_reducible repeat (first | refine blk_drewN ?_ _ | refine blk_drew ?_ | refine blk_alloc ?_ _)); exact BK105.out) hg (Kd.R_away HO_2.out (fun _ hk => hk.2))); have n2_ := Aside0.mk (hb); have n3_ := Aside0.mk (ho); clear HO_6; clear BK105; clear HB; clear HO_2; have HO_6 := n0_; have BK105 := n1_; have HB := n2_; have HO108 := n3_; clear n0_ n1_ n2_ n3_; clear ho hb hg hat)); try go_wp2_with (first | ((with_reducible refine gate_dst (N := 4) rfl ?_); (try (refine gate_guard (by rfl) ?_; dsimp only)); refine box_event ?hg (N := 4) ?hd (cs := #[.string (⟨#[]⟩ : ByteArray), .int .i64 0, .int .i64 0, .int .i64 0]) (t := 23) ?hr ?_; (case hd => rfl); (case hg => rfl); (case hr => first | (go_simp; done) | (go_simp; rfl)); intro gb105 hg w10 hbox hb; have n0_ := Aside0.mk (Kd.R_below (Kd.R_elderB (by (with_reducible repeat (first | apply Kd.R_alloc | apply Kd.R_drewN | apply Kd.R_drew)); exact HO_2.out) gb105 (Nat.le_of_eq hg.symm)) hb); have n1_ := Aside0.mk (Kd.R_below (Kd.R_elderB (by (with_reducible repeat (first | apply Kd.R_alloc | apply Kd.R_drewN | apply Kd.R_drew)); exact HO_6.out) gb105 (Nat.le_of_eq hg.symm)) hb); have n2_ := Aside0.mk (below_step (by repeat (first | (with_reducible first | exact HB.out | apply below_alloc | apply pw_below_drewN | apply below_drew1) | exact HB.out)) hb); have n3_ := Aside0.mk (hbox); have n4_ := Aside0.mk ((by rw [hg]; exact (below_size (by repeat (first | (with_reducible first | exact HB.out | apply below_alloc | apply pw_below_drewN | apply below_drew1) | exact HB.out))) : w.heap.size ≤ gb105)); have n5_ := Aside0.mk ((by rw [hg]; exact (below_size (by repeat (first | (with_reducible first | exact HB.out | apply below_alloc | apply pw_below_drewN | apply below_drew1) | exact HB.out))) : w.heap.size ≤ gb105)); clear HO_2; clear HO_6; clear HB; have HO_2 := n0_; have HO_6 := n1_; have HB := n2_; have BK105 := n3_; have GW105 := n4_; have GE105 := n5_; clear n0_ n1_ n2_ n3_ n4_ n5_; clear hb hbox hg; have hcz11_0 : w10.cell? ⟨gb105, 0, none⟩ = some (.string (⟨#[]⟩ : ByteArray)) := (blk_cell BK105.out 0).trans rfl; have hcz11_1 : w10.cell? ⟨gb105, 1, none⟩ = some (.int .i64 0) := (blk_cell BK105.out 1).trans rfl; have hcz11_2 : w10.cell? ⟨gb105, 2, none⟩ = some (.int .i64 0) := (blk_cell BK105.out 2).trans rfl; have hcz11_3 : w10.cell? ⟨gb105, 3, none⟩ = some (.int .i64 0) := (blk_cell BK105.out 3).trans rfl; have hfz11_0 := blk_frozen BK105.out 0; have hfz11_1 := blk_frozen BK105.out 1; have hfz11_2 := blk_frozen BK105.out 2; have hfz11_3 := blk_frozen BK105.out 3; obtain ⟨Ao12, co12, eo12⟩ := Kd.R_slice HO_2.out; subst eo12) | ((with_reducible refine gate_builtin (b := .append) (xs := #[.tmp 25, .tmp 27]) rfl ?_); (try (refine gate_guard (by rfl) ?_; dsimp only)); at_builtin; refine Kd.R_append k23 (w0 := w) w.heap.size rfl (.tmp 25) (.tmp 27) 35 23 (.agg #[(.string ⟨#[]⟩), (.int .i64 0), (.int .i64 0), (.int .i64 0)]) 40 rfl Tryd.underlying35 info23 rfl (by decide) (by omega) (.slice Ao12 x2_1.length co12) x2_1 (⟨(rd_T23 t101 x8_1).f0, (rd_T23 t101 x8_1).f1, (rd_T23 t101 x8_1).f2, (rd_T23 t101 x8_1).f3⟩ : S23) [.string ((rd_T23 t101 x8_1).f0), .int .i64 ((rd_T23 t101 x8_1).f1), .int .i64 ((rd_T23 t101 x8_1).f2), .int .i64 ((rd_T23 t101 x8_1).f3)] (fun k_ => some k_ ≠ (.slice (some ad104) t101.length co4 : Value).ownBlock ∧ k_ ≠ gb105) (fun _ => False) rfl (by first | (go_simp; done) | (go_simp; rfl)) ?aP (fun _ hk => hk.elim) ?aF ?aO ?aB ?aS ?aL ?_; (case aP => exact k23_mkM _ _ _ (⟨(rd_T23 t101 x8_1).f0, (rd_T23 t101 x8_1).f1, (rd_T23 t101 x8_1).f2, (rd_T23 t101 x8_1).f3⟩ : S23)); (case aB => exact (by repeat (first | (with_reducible first | exact HB.out | apply below_alloc | apply pw_below_drewN | apply below_drew1 | refine below_set ?_ GE105.out) | exact HB.out))); (case aF => exact (fun k_ hk => ⟨Kd.fresh' (Kd.R_lt (by (with_reducible repeat (first | apply Kd.R_alloc | apply Kd.R_drewN | apply Kd.R_drew)); exact (Kd.R_mono (Kd.R_far (p := ⟨gb105, 3, none⟩) (Kd.R_far (p := ⟨gb105, 2, none⟩) (Kd.R_far (p := ⟨gb105, 1, none⟩) (Kd.R_far (p := ⟨gb105, 0, none⟩) (Kd.R_mono HO_6.out (fun k_ hk => (⟨hk, hk.2⟩ : _ ∧ k_ ≠ gb105))) (fun _ hk => hk.2) (.string ((rd_T23 t101 x8_1).f0))) (fun _ hk => hk.2) (.int .i64 ((rd_T23 t101 x8_1).f1))) (fun _ hk => hk.2) (.int .i64 ((rd_T23 t101 x8_1).f2))) (fun _ hk => hk.2) (.int .i64 ((rd_T23 t101 x8_1).f3))) (fun _ h_ => h_.1)))) k_ hk, Kd.freshB (g := gb105) (o := .cells #[.string ((rd_T23 t101 x8_1).f0), .int .i64 ((rd_T23 t101 x8_1).f1), .int .i64 ((rd_T23 t101 x8_1).f2), .int .i64 ((rd_T23 t101 x8_1).f3)] 23 (0, 0)) (by (with_reducible repeat (first | refine blk_drewN ?_ _ | refine blk_drew ?_ | refine blk_alloc ?_ _)); refine blk_put (cs := #[.string ((rd_T23 t101 x8_1).f0), .int .i64 ((rd_T23 t101 x8_1).f1), .int .i64 ((rd_T23 t101 x8_1).f2), .int .i64 0]) ?_ 3 _ rfl; (with_reducible repeat (first | refine blk_drewN ?_ _ | refine blk_drew ?_ | refine blk_alloc ?_ _)); refine blk_put (cs := #[.string ((rd_T23 t101 x8_1).f0), .int .i64 ((rd_T23 t101 x8_1).f1), .int .i64 0, .int .i64 0]) ?_ 2 _ rfl; (with_reducible repeat (first | refine blk_drewN ?_ _ | refine blk_drew ?_ | refine blk_alloc ?_ _)); refine blk_put (cs := #[.string ((rd_T23 t101 x8_1).f0), .int .i64 0, .int .i64 0, .int .i64 0]) ?_ 1 _ rfl; (with_reducible repeat (first | refine blk_drewN ?_ _ | refine blk_drew ?_ | refine blk_alloc ?_ _)); refine blk_put (cs := #[.string (⟨#[]⟩ : ByteArray), .int .i64 0, .int .i64 0, .int .i64 0]) ?_ 0 _ rfl; (with_reducible repeat (first | refine blk_drewN ?_ _ | refine blk_drew ?_ | refine blk_alloc ?_ _)); exact BK105.out) k_ hk⟩)); (case aO => exact (by (with_reducible repeat (first | apply Kd.R_alloc | apply Kd.R_drewN | apply Kd.R_drew)); exact Kd.R_mono (Kd.R_far (p := ⟨gb105, 3, none⟩) (Kd.R_far (p := ⟨gb105, 2, none⟩) (Kd.R_far (p := ⟨gb105, 1, none⟩) (Kd.R_far (p := ⟨gb105, 0, none⟩) (Kd.R_mono HO_2.out (fun k_ hk => (⟨hk, hk.2⟩ : _ ∧ k_ ≠ gb105))) (fun _ hk => hk.2) (.string ((rd_T23 t101 x8_1).f0))) (fun _ hk => hk.2) (.int .i64 ((rd_T23 t101 x8_1).f1))) (fun _ hk => hk.2) (.int .i64 ((rd_T23 t101 x8_1).f2))) (fun _ hk => hk.2) (.int .i64 ((rd_T23 t101 x8_1).f3))) (fun _ hk => ⟨hk.1.1, hk.1.2⟩))); (case aS => exact (below_size (by repeat (first | (with_reducible first | exact HB.out | apply below_alloc | apply pw_below_drewN | apply below_drew1 | refine below_set ?_ GE105.out) | exact HB.out)))); (case aL => have := LMc9.out; omega); intro v107 w13 ho hb hg hat; rw [← Ny106.out] at ho; have n0_ := Aside0.mk (Kd.R_after (ok := (fun k_ => k_ ≠ gb105)) (by (with_reducible repeat (first | apply Kd.R_alloc | apply Kd.R_drewN | apply Kd.R_drew)); exact Kd.R_mono (Kd.R_far (p := ⟨gb105, 3, none⟩) (Kd.R_far (p := ⟨gb105, 2, none⟩) (Kd.R_far (p := ⟨gb105, 1, none⟩) (Kd.R_far (p := ⟨gb105, 0, none⟩) (Kd.R_mono HO_6.out (fun k_ hk => (⟨hk, hk.2⟩ : _ ∧ k_ ≠ gb105))) (fun _ hk => hk.2) (.string ((rd_T23 t101 x8_1).f0))) (fun _ hk => hk.2) (.int .i64 ((rd_T23 t101 x8_1).f1))) (fun _ hk => hk.2) (.int .i64 ((rd_T23 t101 x8_1).f2))) (fun _ hk => hk.2) (.int .i64 ((rd_T23 t101 x8_1).f3))) (fun _ hk => ⟨hk.1.2, hk.1.1⟩)) hg hat); have n1_ := Aside0.mk (blk_grown (g := gb105) (o := .cells #[.string ((rd_T23 t101 x8_1).f0), .int .i64 ((rd_T23 t101 x8_1).f1), .int .i64 ((rd_T23 t101 x8_1).f2), .int .i64 ((rd_T23 t101 x8_1).f3)] 23 (0, 0)) (by (with_reducible repeat (first | refine blk_drewN ?_ _ | refine blk_drew ?_ | refine blk_alloc ?_ _)); refine blk_put (cs := #[.string ((rd_T23 t101 x8_1).f0), .int .i64 ((rd_T23 t101 x8_1).f1), .int .i64 ((rd_T23 t101 x8_1).f2), .int .i64 0]) ?_ 3 _ rfl; (with_reducible repeat (first | refine blk_drewN ?_ _ | refine blk_drew ?_ | refine blk_alloc ?_ _)); refine blk_put (cs := #[.string ((rd_T23 t101 x8_1).f0), .int .i64 ((rd_T23 t101 x8_1).f1), .int .i64 0, .int .i64 0]) ?_ 2 _ rfl; (with_reducible repeat (first | refine blk_drewN ?_ _ | refine blk_drew ?_ | refine blk_alloc ?_ _)); refine blk_put (cs := #[.string ((rd_T23 t101 x8_1).f0), .int .i64 0, .int .i64 0, .int .i64 0]) ?_ 1 _ rfl; (with_reducible repeat (first | refine blk_drewN ?_ _ | refine blk_drew ?_ | refine blk_alloc ?_ _)); refine blk_put (cs := #[.string (⟨#[]⟩ : ByteArray), .int .i64 0, .int .i64 0, .int .i64 0]) ?_ 0 _ rfl; (with_reducible repeat (first | refine blk_drewN ?_ _ | refine blk_drew ?_ | refine blk_alloc ?_ _)); exact BK105.out) hg (Kd.R_away HO_2.out (fun _ hk => hk.2))); have n2_ := Aside0.mk (hb); have n3_ := Aside0.mk (ho); clear HO_6; clear BK105; clear HB; clear HO_2; have HO_6 := n0_; have BK105 := n1_; have HB := n2_; have HO108 := n3_; clear n0_ n1_ n2_ n3_; clear ho hb hg hat)))
                go_roundg k1
                case measure => have := HK1.out; omega
                case rel => exact ⟨(y106), (wrap64 (x8_1 + 1)), (by first | rfl | (simp; done) | (simp [*]; done)), H', ⟨by have := HK1.out; omega⟩, ⟨by (with_reducible repeat (first | apply Kd.R_alloc | apply Kd.R_drewN | apply Kd.R_drew)); exact Kd.R_mono HO108.out (fun _ hk => hk.1)⟩, ⟨by (with_reducible repeat (first | apply Kd.R_alloc | apply Kd.R_drewN | apply Kd.R_drew)); exact Kd.R_mono HO_6.out (fun _ hk => hk.2)⟩, ⟨by repeat (first | (with_reducible first | exact HB.out | apply below_alloc | apply pw_below_drewN | apply below_drew1 | refine below_set ?_ GE105.out) | exact HB.out)⟩⟩
              · rw [if_neg c9] at H
                exact absurd H (by simp)
            · rw [if_neg c8] at H
              have c8b0 : ((x2_1.length : Int) == 0) = false := beq_eq_false_iff_ne.mpr c8
              have c8b1 : ((x2_1.length : Int) != 0) = true := bne_iff_ne.mpr c8
              have c8b2 : ¬ (x2_1 = []) := fun h_ => c8 (by rw [h_]; rfl)
              obtain ⟨ji14, hji14⟩ : ∃ j_ : Int, (wrap64 ((x2_1.length : Int) - 1)) = j_ := ⟨_, rfl⟩
              replace H : (if 0 ≤ (ji14) then (if (ji14) < (x2_1.length : Int) then (if (!((((rd_T23 x2_1 (ji14)).f0).toList) == (((rd_T23 t101 x8_1).f0).toList)) || (!(((rd_T23 x2_1 (ji14)).f1) == ((rd_T23 t101 x8_1).f1)) || (!(((rd_T23 x2_1 (ji14)).f2) == ((rd_T23 t101 x8_1).f2)) || (!(((rd_T23 x2_1 (ji14)).f3) == ((rd_T23 t101 x8_1).f3)))))) = true then (if x2_1.length < 3518437208883 then (series_Sort.l0 k1 (x2_1 ++ [(⟨(rd_T23 t101 x8_1).f0, (rd_T23 t101 x8_1).f1, (rd_T23 t101 x8_1).f2, (rd_T23 t101 x8_1).f3⟩ : S23)]) t101 (t101.length : Int) (wrap64 (x8_1 + 1))) else (none)) else (series_Sort.l0 k1 x2_1 t101 (t101.length : Int) (wrap64 (x8_1 + 1)))) else (none)) else (none)) = some r := by first | (rw [hji14] at H; exact H) | (simp only [hji14] at H ⊢; exact H)
              have hji14w : (IntKind.i64.wrap ((x2_1.length : Int) - 1)) = ji14 := (i64_w _).trans hji14
              by_cases c15 : 0 ≤ (ji14)
              · rw [if_pos c15] at H
                have c15b0 : decide (0 ≤ (ji14)) = true := decide_eq_true c15
                clear c15
                by_cases c16 : (ji14) < (x2_1.length : Int)
                · rw [if_pos c16] at H
                  have c16b0 : decide ((ji14) < (x2_1.length : Int)) = true := decide_eq_true c16
                  clear c16
                  by_cases c17 : (!((((rd_T23 x2_1 (ji14)).f0).toList) == (((rd_T23 t101 x8_1).f0).toList)) || (!(((rd_T23 x2_1 (ji14)).f1) == ((rd_T23 t101 x8_1).f1)) || (!(((rd_T23 x2_1 (ji14)).f2) == ((rd_T23 t101 x8_1).f2)) || (!(((rd_T23 x2_1 (ji14)).f3) == ((rd_T23 t101 x8_1).f3)))))) = true
                  · rw [if_pos c17] at H
                    have c17b0 : (!((((rd_T23 x2_1 (ji14)).f0).toList) == (((rd_T23 t101 x8_1).f0).toList)) || (!(((rd_T23 x2_1 (ji14)).f1) == ((rd_T23 t101 x8_1).f1)) || (!(((rd_T23 x2_1 (ji14)).f2) == ((rd_T23 t101 x8_1).f2)) || (!(((rd_T23 x2_1 (ji14)).f3) == ((rd_T23 t101 x8_1).f3)))))) = true := c17
                    clear c17
                    by_cases c18 : x2_1.length < 3518437208883
                    · rw [if_pos c18] at H
                      have LMc18 := Aside0.mk c18
                      clear c18
                      obtain ⟨y110, hy110⟩ : ∃ y_ : List (S23), y_ = (x2_1 ++ [(⟨(rd_T23 t101 x8_1).f0, (rd_T23 t101 x8_1).f1, (rd_T23 t101 x8_1).f2, (rd_T23 t101 x8_1).f3⟩ : S23)]) := ⟨_, rfl⟩
                      replace H : (series_Sort.l0 k1 y110 t101 (t101.length : Int) (wrap64 (x8_1 + 1))) = some r := by first | (rw [hy110]; with_reducible exact H) | (have H2_ := (Option.bind_some _ _).symm.trans H; rw [hy110]; with_reducible exact H2_) | (have H2_ := (Option.bind_some _ _).symm.trans H; with_reducible exact H2_) | with_reducible exact H | (rw [hy110]; exact H) | exact H
                      have Ny110 := Aside0.mk hy110
                      clear hy110
                      have H' := Aside0.mk H
                      clear H
                      have p104 : 0 ≤ (x8_1 : Int) := of_decide_eq_true (by first | (with_reducible assumption) | assumption)
                      have q104 : x8_1 < (t101.length : Int) := of_decide_eq_true (by first | (with_reducible assumption) | assumption)
                      obtain ⟨ad104, e104, hx104_0, hx104_1, hx104_2, hx104_3⟩ := at_T23 (Kd.R_reads' HO_6.out).2.2 x8_1 p104 q104
                      cases e104
                      replace p104 := eq_true p104
                      replace q104 := eq_true q104
                      go_wp2_with (first | ((with_reducible refine gate_dst (N := 4) rfl ?_); (try (refine gate_guard (by rfl) ?_; dsimp only)); refine box_event ?hg (N := 4) ?hd (cs := #[.string (⟨#[]⟩ : ByteArray), .int .i64 0, .int .i64 0, .int .i64 0]) (t := 23) ?hr ?_; (case hd => rfl); (case hg => rfl); (case hr => first | (go_simp; done) | (go_simp; rfl)); intro gb105 hg w19 hbox hb; have n0_ := Aside0.mk (Kd.R_below (Kd.R_elderB (by (with_reducible repeat (first | apply Kd.R_alloc | apply Kd.R_drewN | apply Kd.R_drew)); exact HO_2.out) gb105 (Nat.le_of_eq hg.symm)) hb); have n1_ := Aside0.mk (Kd.R_below (Kd.R_elderB (by (with_reducible repeat (first | apply Kd.R_alloc | apply Kd.R_drewN | apply Kd.R_drew)); exact HO_6.out) gb105 (Nat.le_of_eq hg.symm)) hb); have n2_ := Aside0.mk (below_step (by repeat (first | (with_reducible first | exact HB.out | apply below_alloc | apply pw_below_drewN | apply below_drew1) | exact HB.out)) hb); have n3_ := Aside0.mk (hbox); have n4_ := Aside0.mk ((by rw [hg]; exact (below_size (by repeat (first | (with_reducible first | exact HB.out | apply below_alloc | apply pw_below_drewN | apply below_drew1) | exact HB.out))) : w.heap.size ≤ gb105)); have n5_ := Aside0.mk ((by rw [hg]; exact (below_size (by repeat (first | (with_reducible first | exact HB.out | apply below_alloc | apply pw_below_drewN | apply below_drew1) | exact HB.out))) : w.heap.size ≤ gb105)); clear HO_2; clear HO_6; clear HB; have HO_2 := n0_; have HO_6 := n1_; have HB := n2_; have BK105 := n3_; have GW105 := n4_; have GE105 := n5_; clear n0_ n1_ n2_ n3_ n4_ n5_; clear hb hbox hg; have hcz20_0 : w19.cell? ⟨gb105, 0, none⟩ = some (.string (⟨#[]⟩ : ByteArray)) := (blk_cell BK105.out 0).trans rfl; have hcz20_1 : w19.cell? ⟨gb105, 1, none⟩ = some (.int .i64 0) := (blk_cell BK105.out 1).trans rfl; have hcz20_2 : w19.cell? ⟨gb105, 2, none⟩ = some (.int .i64 0) := (blk_cell BK105.out 2).trans rfl; have hcz20_3 : w19.cell? ⟨gb105, 3, none⟩ = some (.int .i64 0) := (blk_cell BK105.out 3).trans rfl; have hfz20_0 := blk_frozen BK105.out 0; have hfz20_1 := blk_frozen BK105.out 1; have hfz20_2 := blk_frozen BK105.out 2; have hfz20_3 := blk_frozen BK105.out 3; obtain ⟨Ao21, co21, eo21⟩ := Kd.R_slice HO_2.out; subst eo21; have p109 : 0 ≤ ((ji14) : Int) := of_decide_eq_true (by first | (with_reducible assumption) | assumption); have q109 : (ji14) < (x2_1.length : Int) := of_decide_eq_true (by first | (with_reducible assumption) | assumption); obtain ⟨ad109, e109, hx109_0, hx109_1, hx109_2, hx109_3⟩ := at_T23 (Kd.R_reads' HO_2.out).2.2 (ji14) p109 q109; cases e109; have hn109_0 : ad109.block ≠ gb105 := Kd.own_blk (Kd.R_away HO_2.out (fun _ hk => hk.2)); have hn109_1 : ad109.block ≠ gb105 := Kd.own_blk (Kd.R_away HO_2.out (fun _ hk => hk.2)); have hn109_2 : ad109.block ≠ gb105 := Kd.own_blk (Kd.R_away HO_2.out (fun _ hk => hk.2)); have hn109_3 : ad109.block ≠ gb105 := Kd.own_blk (Kd.R_away HO_2.out (fun _ hk => hk.2)); replace hx109_0 := (cell_far (p := ⟨gb105, 0, none⟩) (by first | (rw [add_block]; exact hn109_0) | (show (Addr.add _ _).block ≠ _; rw [add_block]; exact hn109_0) | exact hn109_0) (.string ((rd_T23 t101 x8_1).f0))).trans hx109_0; replace hx109_1 := (cell_far (p := ⟨gb105, 0, none⟩) (by first | (rw [add_block]; exact hn109_0) | (show (Addr.add _ _).block ≠ _; rw [add_block]; exact hn109_0) | exact hn109_0) (.string ((rd_T23 t101 x8_1).f0))).trans hx109_1; replace hx109_2 := (cell_far (p := ⟨gb105, 0, none⟩) (by first | (rw [add_block]; exact hn109_0) | (show (Addr.add _ _).block ≠ _; rw [add_block]; exact hn109_0) | exact hn109_0) (.string ((rd_T23 t101 x8_1).f0))).trans hx109_2; replace hx109_3 := (cell_far (p := ⟨gb105, 0, none⟩) (by first | (rw [add_block]; exact hn109_0) | (show (Addr.add _ _).block ≠ _; rw [add_block]; exact hn109_0) | exact hn109_0) (.string ((rd_T23 t101 x8_1).f0))).trans hx109_3; replace hx109_0 := (cell_far (p := ⟨gb105, 1, none⟩) (by first | (rw [add_block]; exact hn109_1) | (show (Addr.add _ _).block ≠ _; rw [add_block]; exact hn109_1) | exact hn109_1) (.int .i64 ((rd_T23 t101 x8_1).f1))).trans hx109_0; replace hx109_1 := (cell_far (p := ⟨gb105, 1, none⟩) (by first | (rw [add_block]; exact hn109_1) | (show (Addr.add _ _).block ≠ _; rw [add_block]; exact hn109_1) | exact hn109_1) (.int .i64 ((rd_T23 t101 x8_1).f1))).trans hx109_1; replace hx109_2 := (cell_far (p := ⟨gb105, 1, none⟩) (by first | (rw [add_block]; exact hn109_1) | (show (Addr.add _ _).block ≠ _; rw [add_block]; exact hn109_1) | exact hn109_1) (.int .i64 ((rd_T23 t101 x8_1).f1))).trans hx109_2; replace hx109_3 := (cell_far (p := ⟨gb105, 1, none⟩) (by first | (rw [add_block]; exact hn109_1) | (show (Addr.add _ _).block ≠ _; rw [add_block]; exact hn109_1) | exact hn109_1) (.int .i64 ((rd_T23 t101 x8_1).f1))).trans hx109_3; replace hx109_0 := (cell_far (p := ⟨gb105, 2, none⟩) (by first | (rw [add_block]; exact hn109_2) | (show (Addr.add _ _).block ≠ _; rw [add_block]; exact hn109_2) | exact hn109_2) (.int .i64 ((rd_T23 t101 x8_1).f2))).trans hx109_0; replace hx109_1 := (cell_far (p := ⟨gb105, 2, none⟩) (by first | (rw [add_block]; exact hn109_2) | (show (Addr.add _ _).block ≠ _; rw [add_block]; exact hn109_2) | exact hn109_2) (.int .i64 ((rd_T23 t101 x8_1).f2))).trans hx109_1; replace hx109_2 := (cell_far (p := ⟨gb105, 2, none⟩) (by first | (rw [add_block]; exact hn109_2) | (show (Addr.add _ _).block ≠ _; rw [add_block]; exact hn109_2) | exact hn109_2) (.int .i64 ((rd_T23 t101 x8_1).f2))).trans hx109_2; replace hx109_3 := (cell_far (p := ⟨gb105, 2, none⟩) (by first | (rw [add_block]; exact hn109_2) | (show (Addr.add _ _).block ≠ _; rw [add_block]; exact hn109_2) | exact hn109_2) (.int .i64 ((rd_T23 t101 x8_1).f2))).trans hx109_3; replace hx109_0 := (cell_far (p := ⟨gb105, 3, none⟩) (by first | (rw [add_block]; exact hn109_3) | (show (Addr.add _ _).block ≠ _; rw [add_block]; exact hn109_3) | exact hn109_3) (.int .i64 ((rd_T23 t101 x8_1).f3))).trans hx109_0; replace hx109_1 := (cell_far (p := ⟨gb105, 3, none⟩) (by first | (rw [add_block]; exact hn109_3) | (show (Addr.add _ _).block ≠ _; rw [add_block]; exact hn109_3) | exact hn109_3) (.int .i64 ((rd_T23 t101 x8_1).f3))).trans hx109_1; replace hx109_2 := (cell_far (p := ⟨gb105, 3, none⟩) (by first | (rw [add_block]; exact hn109_3) | (show (Addr.add _ _).block ≠ _; rw [add_block]; exact hn109_3) | exact hn109_3) (.int .i64 ((rd_T23 t101 x8_1).f3))).trans hx109_2; replace hx109_3 := (cell_far (p := ⟨gb105, 3, none⟩) (by first | (rw [add_block]; exact hn109_3) | (show (Addr.add _ _).block ≠ _; rw [add_block]; exact hn109_3) | exact hn109_3) (.int .i64 ((rd_T23 t101 x8_1).f3))).trans hx109_3; (try have hy109_0 := fun (n_ : Nat) => (show ((((((w19.drewN n_).setCell ⟨gb105, 0, none⟩ (.string ((rd_T23 t101 x8_1).f0))).setCell ⟨gb105, 1, none⟩ (.int .i64 ((rd_T23 t101 x8_1).f1))).setCell ⟨gb105, 2, none⟩ (.int .i64 ((rd_T23 t101 x8_1).f2))).setCell ⟨gb105, 3, none⟩ (.int .i64 ((rd_T23 t101 x8_1).f3)))).cell? _ = some _ from hx109_0)); (try have hy109_1 := fun (n_ : Nat) => (show ((((((w19.drewN n_).setCell ⟨gb105, 0, none⟩ (.string ((rd_T23 t101 x8_1).f0))).setCell ⟨gb105, 1, none⟩ (.int .i64 ((rd_T23 t101 x8_1).f1))).setCell ⟨gb105, 2, none⟩ (.int .i64 ((rd_T23 t101 x8_1).f2))).setCell ⟨gb105, 3, none⟩ (.int .i64 ((rd_T23 t101 x8_1).f3)))).cell? _ = some _ from hx109_1)); (try have hy109_2 := fun (n_ : Nat) => (show ((((((w19.drewN n_).setCell ⟨gb105, 0, none⟩ (.string ((rd_T23 t101 x8_1).f0))).setCell ⟨gb105, 1, none⟩ (.int .i64 ((rd_T23 t101 x8_1).f1))).setCell ⟨gb105, 2, none⟩ (.int .i64 ((rd_T23 t101 x8_1).f2))).setCell ⟨gb105, 3, none⟩ (.int .i64 ((rd_T23 t101 x8_1).f3)))).cell? _ = some _ from hx109_2)); (try have hy109_3 := fun (n_ : Nat) => (show ((((((w19.drewN n_).setCell ⟨gb105, 0, none⟩ (.string ((rd_T23 t101 x8_1).f0))).setCell ⟨gb105, 1, none⟩ (.int .i64 ((rd_T23 t101 x8_1).f1))).setCell ⟨gb105, 2, none⟩ (.int .i64 ((rd_T23 t101 x8_1).f2))).setCell ⟨gb105, 3, none⟩ (.int .i64 ((rd_T23 t101 x8_1).f3)))).cell? _ = some _ from hx109_3)); clear hn109_0; clear hn109_1; clear hn109_2; clear hn109_3; replace p109 := eq_true p109; replace q109 := eq_true q109) | ((with_reducible refine gate_builtin (b := .append) (xs := #[.tmp 25, .tmp 27]) rfl ?_); (try (refine gate_guard (by rfl) ?_; dsimp only)); at_builtin; refine Kd.R_append k23 (w0 := w) w.heap.size rfl (.tmp 25) (.tmp 27) 35 23 (.agg #[(.string ⟨#[]⟩), (.int .i64 0), (.int .i64 0), (.int .i64 0)]) 40 rfl Tryd.underlying35 info23 rfl (by decide) (by omega) (.slice (some ad109) x2_1.length co21) x2_1 (⟨(rd_T23 t101 x8_1).f0, (rd_T23 t101 x8_1).f1, (rd_T23 t101 x8_1).f2, (rd_T23 t101 x8_1).f3⟩ : S23) [.string ((rd_T23 t101 x8_1).f0), .int .i64 ((rd_T23 t101 x8_1).f1), .int .i64 ((rd_T23 t101 x8_1).f2), .int .i64 ((rd_T23 t101 x8_1).f3)] (fun k_ => some k_ ≠ (.slice (some ad104) t101.length co4 : Value).ownBlock ∧ k_ ≠ gb105) (fun _ => False) rfl (by first | (go_simp; done) | (go_simp; rfl)) ?aP (fun _ hk => hk.elim) ?aF ?aO ?aB ?aS ?aL ?_; (case aP => exact k23_mkM _ _ _ (⟨(rd_T23 t101 x8_1).f0, (rd_T23 t101 x8_1).f1, (rd_T23 t101 x8_1).f2, (rd_T23 t101 x8_1).f3⟩ : S23)); (case aB => exact (by repeat (first | (with_reducible first | exact HB.out | apply below_alloc | apply pw_below_drewN | apply below_drew1 | refine below_set ?_ GE105.out) | exact HB.out))); (case aF => exact (fun k_ hk => ⟨Kd.fresh' (Kd.R_lt (by (with_reducible repeat (first | apply Kd.R_alloc | apply Kd.R_drewN | apply Kd.R_drew)); exact (Kd.R_mono (Kd.R_far (p := ⟨gb105, 3, none⟩) (Kd.R_far (p := ⟨gb105, 2, none⟩) (Kd.R_far (p := ⟨gb105, 1, none⟩) (Kd.R_far (p := ⟨gb105, 0, none⟩) (Kd.R_mono HO_6.out (fun k_ hk => (⟨hk, hk.2⟩ : _ ∧ k_ ≠ gb105))) (fun _ hk => hk.2) (.string ((rd_T23 t101 x8_1).f0))) (fun _ hk => hk.2) (.int .i64 ((rd_T23 t101 x8_1).f1))) (fun _ hk => hk.2) (.int .i64 ((rd_T23 t101 x8_1).f2))) (fun _ hk => hk.2) (.int .i64 ((rd_T23 t101 x8_1).f3))) (fun _ h_ => h_.1)))) k_ hk, Kd.freshB (g := gb105) (o := .cells #[.string ((rd_T23 t101 x8_1).f0), .int .i64 ((rd_T23 t101 x8_1).f1), .int .i64 ((rd_T23 t101 x8_1).f2), .int .i64 ((rd_T23 t101 x8_1).f3)] 23 (0, 0)) (by (with_reducible repeat (first | refine blk_drewN ?_ _ | refine blk_drew ?_ | refine blk_alloc ?_ _)); refine blk_put (cs := #[.string ((rd_T23 t101 x8_1).f0), .int .i64 ((rd_T23 t101 x8_1).f1), .int .i64 ((rd_T23 t101 x8_1).f2), .int .i64 0]) ?_ 3 _ rfl; (with_reducible repeat (first | refine blk_drewN ?_ _ | refine blk_drew ?_ | refine blk_alloc ?_ _)); refine blk_put (cs := #[.string ((rd_T23 t101 x8_1).f0), .int .i64 ((rd_T23 t101 x8_1).f1), .int .i64 0, .int .i64 0]) ?_ 2 _ rfl; (with_reducible repeat (first | refine blk_drewN ?_ _ | refine blk_drew ?_ | refine blk_alloc ?_ _)); refine blk_put (cs := #[.string ((rd_T23 t101 x8_1).f0), .int .i64 0, .int .i64 0, .int .i64 0]) ?_ 1 _ rfl; (with_reducible repeat (first | refine blk_drewN ?_ _ | refine blk_drew ?_ | refine blk_alloc ?_ _)); refine blk_put (cs := #[.string (⟨#[]⟩ : ByteArray), .int .i64 0, .int .i64 0, .int .i64 0]) ?_ 0 _ rfl; (with_reducible repeat (first | refine blk_drewN ?_ _ | refine blk_drew ?_ | refine blk_alloc ?_ _)); exact BK105.out) k_ hk⟩)); (case aO => exact (by (with_reducible repeat (first | apply Kd.R_alloc | apply Kd.R_drewN | apply Kd.R_drew)); exact Kd.R_mono (Kd.R_far (p := ⟨gb105, 3, none⟩) (Kd.R_far (p := ⟨gb105, 2, none⟩) (Kd.R_far (p := ⟨gb105, 1, none⟩) (Kd.R_far (p := ⟨gb105, 0, none⟩) (Kd.R_mono HO_2.out (fun k_ hk => (⟨hk, hk.2⟩ : _ ∧ k_ ≠ gb105))) (fun _ hk => hk.2) (.string ((rd_T23 t101 x8_1).f0))) (fun _ hk => hk.2) (.int .i64 ((rd_T23 t101 x8_1).f1))) (fun _ hk => hk.2) (.int .i64 ((rd_T23 t101 x8_1).f2))) (fun _ hk => hk.2) (.int .i64 ((rd_T23 t101 x8_1).f3))) (fun _ hk => ⟨hk.1.1, hk.1.2⟩))); (case aS => exact (below_size (by repeat (first | (with_reducible first | exact HB.out | apply below_alloc | apply pw_below_drewN | apply below_drew1 | refine below_set ?_ GE105.out) | exact HB.out)))); (case aL => have := LMc18.out; omega); intro v111 w22 ho hb hg hat; rw [← Ny110.out] at ho; have n0_ := Aside0.mk (Kd.R_after (ok := (fun k_ => k_ ≠ gb105)) (by (with_reducible repeat (first | apply Kd.R_alloc | apply Kd.R_drewN | apply Kd.R_drew)); exact Kd.R_mono (Kd.R_far (p := ⟨gb105, 3, none⟩) (Kd.R_far (p := ⟨gb105, 2, none⟩) (Kd.R_far (p := ⟨gb105, 1, none⟩) (Kd.R_far (p := ⟨gb105, 0, none⟩) (Kd.R_mono HO_6.out (fun k_ hk => (⟨hk, hk.2⟩ : _ ∧ k_ ≠ gb105))) (fun _ hk => hk.2) (.string ((rd_T23 t101 x8_1).f0))) (fun _ hk => hk.2) (.int .i64 ((rd_T23 t101 x8_1).f1))) (fun _ hk => hk.2) (.int .i64 ((rd_T23 t101 x8_1).f2))) (fun _ hk => hk.2) (.int .i64 ((rd_T23 t101 x8_1).f3))) (fun _ hk => ⟨hk.1.2, hk.1.1⟩)) hg hat); have n1_ := Aside0.mk (blk_grown (g := gb105) (o := .cells #[.string ((rd_T23 t101 x8_1).f0), .int .i64 ((rd_T23 t101 x8_1).f1), .int .i64 ((rd_T23 t101 x8_1).f2), .int .i64 ((rd_T23 t101 x8_1).f3)] 23 (0, 0)) (by (with_reducible repeat (first | refine blk_drewN ?_ _ | refine blk_drew ?_ | refine blk_alloc ?_ _)); refine blk_put (cs := #[.string ((rd_T23 t101 x8_1).f0), .int .i64 ((rd_T23 t101 x8_1).f1), .int .i64 ((rd_T23 t101 x8_1).f2), .int .i64 0]) ?_ 3 _ rfl; (with_reducible repeat (first | refine blk_drewN ?_ _ | refine blk_drew ?_ | refine blk_alloc ?_ _)); refine blk_put (cs := #[.string ((rd_T23 t101 x8_1).f0), .int .i64 ((rd_T23 t101 x8_1).f1), .int .i64 0, .int .i64 0]) ?_ 2 _ rfl; (with_reducible repeat (first | refine blk_drewN ?_ _ | refine blk_drew ?_ | refine blk_alloc ?_ _)); refine blk_put (cs := #[.string ((rd_T23 t101 x8_1).f0), .int .i64 0, .int .i64 0, .int .i64 0]) ?_ 1 _ rfl; (with_reducible repeat (first | refine blk_drewN ?_ _ | refine blk_drew ?_ | refine blk_alloc ?_ _)); refine blk_put (cs := #[.string (⟨#[]⟩ : ByteArray), .int .i64 0, .int .i64 0, .int .i64 0]) ?_ 0 _ rfl; (with_reducible repeat (first | refine blk_drewN ?_ _ | refine blk_drew ?_ | refine blk_alloc ?_ _)); exact BK105.out) hg (Kd.R_away HO_2.out (fun _ hk => hk.2))); have n2_ := Aside0.mk (hb); have n3_ := Aside0.mk (ho); clear HO_6; clear BK105; clear HB; clear HO_2; have HO_6 := n0_; have BK105 := n1_; have HB := n2_; have HO112 := n3_; clear n0_ n1_ n2_ n3_; clear ho hb hg hat))
                      repeat (go_quiet (first | ((with_reducible refine gate_dst (N := 4) rfl ?_); (try (refine gate_guard (by rfl) ?_; dsimp only)); refine box_event ?hg (N := 4) ?hd (cs := #[.string (⟨#[]⟩ : ByteArray), .int .i64 0, .int .i64 0, .int .i64 0]) (t := 23) ?hr ?_; (case hd => rfl); (case hg => rfl); (case hr => first | (go_simp; done) | (go_simp; rfl)); intro gb105 hg w19 hbox hb; have n0_ := Aside0.mk (Kd.R_below (Kd.R_elderB (by (with_reducible repeat (first | apply Kd.R_alloc | apply Kd.R_drewN | apply Kd.R_drew)); exact HO_2.out) gb105 (Nat.le_of_eq hg.symm)) hb); have n1_ := Aside0.mk (Kd.R_below (Kd.R_elderB (by (with_reducible repeat (first | apply Kd.R_alloc | apply Kd.R_drewN | apply Kd.R_drew)); exact HO_6.out) gb105 (Nat.le_of_eq hg.symm)) hb); have n2_ := Aside0.mk (below_step (by repeat (first | (with_reducible first | exact HB.out | apply below_alloc | apply pw_below_drewN | apply below_drew1) | exact HB.out)) hb); have n3_ := Aside0.mk (hbox); have n4_ := Aside0.mk ((by rw [hg]; exact (below_size (by repeat (first | (with_reducible first | exact HB.out | apply below_alloc | apply pw_below_drewN | apply below_drew1) | exact HB.out))) : w.heap.size ≤ gb105)); have n5_ := Aside0.mk ((by rw [hg]; exact (below_size (by repeat (first | (with_reducible first | exact HB.out | apply below_alloc | apply pw_below_drewN | apply below_drew1) | exact HB.out))) : w.heap.size ≤ gb105)); clear HO_2; clear HO_6; clear HB; have HO_2 := n0_; have HO_6 := n1_; have HB := n2_; have BK105 := n3_; have GW105 := n4_; have GE105 := n5_; clear n0_ n1_ n2_ n3_ n4_ n5_; clear hb hbox hg; have hcz20_0 : w19.cell? ⟨gb105, 0, none⟩ = some (.string (⟨#[]⟩ : ByteArray)) := (blk_cell BK105.out 0).trans rfl; have hcz20_1 : w19.cell? ⟨gb105, 1, none⟩ = some (.int .i64 0) := (blk_cell BK105.out 1).trans rfl; have hcz20_2 : w19.cell? ⟨gb105, 2, none⟩ = some (.int .i64 0) := (blk_cell BK105.out 2).trans rfl; have hcz20_3 : w19.cell? ⟨gb105, 3, none⟩ = some (.int .i64 0) := (blk_cell BK105.out 3).trans rfl; have hfz20_0 := blk_frozen BK105.out 0; have hfz20_1 := blk_frozen BK105.out 1; have hfz20_2 := blk_frozen BK105.out 2; have hfz20_3 := blk_frozen BK105.out 3; obtain ⟨Ao21, co21, eo21⟩ := Kd.R_slice HO_2.out; subst eo21; have p109 : 0 ≤ ((ji14) : Int) := of_decide_eq_true (by first | (with_reducible assumption) | assumption); have q109 : (ji14) < (x2_1.length : Int) := of_decide_eq_true (by first | (with_reducible assumption) | assumption); obtain ⟨ad109, e109, hx109_0, hx109_1, hx109_2, hx109_3⟩ := at_T23 (Kd.R_reads' HO_2.out).2.2 (ji14) p109 q109; cases e109; have hn109_0 : ad109.block ≠ gb105 := Kd.own_blk (Kd.R_away HO_2.out (fun _ hk => hk.2)); have hn109_1 : ad109.block ≠ gb105 := Kd.own_blk (Kd.R_away HO_2.out (fun _ hk => hk.2)); have hn109_2 : ad109.block ≠ gb105 := Kd.own_blk (Kd.R_away HO_2.out (fun _ hk => hk.2)); have hn109_3 : ad109.block ≠ gb105 := Kd.own_blk (Kd.R_away HO_2.out (fun _ hk => hk.2)); replace hx109_0 := (cell_far (p := ⟨gb105, 0, none⟩) (by first | (rw [add_block]; exact hn109_0) | (show (Addr.add _ _).block ≠ _; rw [add_block]; exact hn109_0) | exact hn109_0) (.string ((rd_T23 t101 x8_1).f0))).trans hx109_0; replace hx109_1 := (cell_far (p := ⟨gb105, 0, none⟩) (by first | (rw [add_block]; exact hn109_0) | (show (Addr.add _ _).block ≠ _; rw [add_block]; exact hn109_0) | exact hn109_0) (.string ((rd_T23 t101 x8_1).f0))).trans hx109_1; replace hx109_2 := (cell_far (p := ⟨gb105, 0, none⟩) (by first | (rw [add_block]; exact hn109_0) | (show (Addr.add _ _).block ≠ _; rw [add_block]; exact hn109_0) | exact hn109_0) (.string ((rd_T23 t101 x8_1).f0))).trans hx109_2; replace hx109_3 := (cell_far (p := ⟨gb105, 0, none⟩) (by first | (rw [add_block]; exact hn109_0) | (show (Addr.add _ _).block ≠ _; rw [add_block]; exact hn109_0) | exact hn109_0) (.string ((rd_T23 t101 x8_1).f0))).trans hx109_3; replace hx109_0 := (cell_far (p := ⟨gb105, 1, none⟩) (by first | (rw [add_block]; exact hn109_1) | (show (Addr.add _ _).block ≠ _; rw [add_block]; exact hn109_1) | exact hn109_1) (.int .i64 ((rd_T23 t101 x8_1).f1))).trans hx109_0; replace hx109_1 := (cell_far (p := ⟨gb105, 1, none⟩) (by first | (rw [add_block]; exact hn109_1) | (show (Addr.add _ _).block ≠ _; rw [add_block]; exact hn109_1) | exact hn109_1) (.int .i64 ((rd_T23 t101 x8_1).f1))).trans hx109_1; replace hx109_2 := (cell_far (p := ⟨gb105, 1, none⟩) (by first | (rw [add_block]; exact hn109_1) | (show (Addr.add _ _).block ≠ _; rw [add_block]; exact hn109_1) | exact hn109_1) (.int .i64 ((rd_T23 t101 x8_1).f1))).trans hx109_2; replace hx109_3 := (cell_far (p := ⟨gb105, 1, none⟩) (by first | (rw [add_block]; exact hn109_1) | (show (Addr.add _ _).block ≠ _; rw [add_block]; exact hn109_1) | exact hn109_1) (.int .i64 ((rd_T23 t101 x8_1).f1))).trans hx109_3; replace hx109_0 := (cell_far (p := ⟨gb105, 2, none⟩) (by first | (rw [add_block]; exact hn109_2) | (show (Addr.add _ _).block ≠ _; rw [add_block]; exact hn109_2) | exact hn109_2) (.int .i64 ((rd_T23 t101 x8_1).f2))).trans hx109_0; replace hx109_1 := (cell_far (p := ⟨gb105, 2, none⟩) (by first | (rw [add_block]; exact hn109_2) | (show (Addr.add _ _).block ≠ _; rw [add_block]; exact hn109_2) | exact hn109_2) (.int .i64 ((rd_T23 t101 x8_1).f2))).trans hx109_1; replace hx109_2 := (cell_far (p := ⟨gb105, 2, none⟩) (by first | (rw [add_block]; exact hn109_2) | (show (Addr.add _ _).block ≠ _; rw [add_block]; exact hn109_2) | exact hn109_2) (.int .i64 ((rd_T23 t101 x8_1).f2))).trans hx109_2; replace hx109_3 := (cell_far (p := ⟨gb105, 2, none⟩) (by first | (rw [add_block]; exact hn109_2) | (show (Addr.add _ _).block ≠ _; rw [add_block]; exact hn109_2) | exact hn109_2) (.int .i64 ((rd_T23 t101 x8_1).f2))).trans hx109_3; replace hx109_0 := (cell_far (p := ⟨gb105, 3, none⟩) (by first | (rw [add_block]; exact hn109_3) | (show (Addr.add _ _).block ≠ _; rw [add_block]; exact hn109_3) | exact hn109_3) (.int .i64 ((rd_T23 t101 x8_1).f3))).trans hx109_0; replace hx109_1 := (cell_far (p := ⟨gb105, 3, none⟩) (by first | (rw [add_block]; exact hn109_3) | (show (Addr.add _ _).block ≠ _; rw [add_block]; exact hn109_3) | exact hn109_3) (.int .i64 ((rd_T23 t101 x8_1).f3))).trans hx109_1; replace hx109_2 := (cell_far (p := ⟨gb105, 3, none⟩) (by first | (rw [add_block]; exact hn109_3) | (show (Addr.add _ _).block ≠ _; rw [add_block]; exact hn109_3) | exact hn109_3) (.int .i64 ((rd_T23 t101 x8_1).f3))).trans hx109_2; replace hx109_3 := (cell_far (p := ⟨gb105, 3, none⟩) (by first | (rw [add_block]; exact hn109_3) | (show (Addr.add _ _).block ≠ _; rw [add_block]; exact hn109_3) | exact hn109_3) (.int .i64 ((rd_T23 t101 x8_1).f3))).trans hx109_3; (try have hy109_0 := fun (n_ : Nat) => (show ((((((w19.drewN n_).setCell ⟨gb105, 0, none⟩ (.string ((rd_T23 t101 x8_1).f0))).setCell ⟨gb105, 1, none⟩ (.int .i64 ((rd_T23 t101 x8_1).f1))).setCell ⟨gb105, 2, none⟩ (.int .i64 ((rd_T23 t101 x8_1).f2))).setCell ⟨gb105, 3, none⟩ (.int .i64 ((rd_T23 t101 x8_1).f3)))).cell? _ = some _ from hx109_0)); (try have hy109_1 := fun (n_ : Nat) => (show ((((((w19.drewN n_).setCell ⟨gb105, 0, none⟩ (.string ((rd_T23 t101 x8_1).f0))).setCell ⟨gb105, 1, none⟩ (.int .i64 ((rd_T23 t101 x8_1).f1))).setCell ⟨gb105, 2, none⟩ (.int .i64 ((rd_T23 t101 x8_1).f2))).setCell ⟨gb105, 3, none⟩ (.int .i64 ((rd_T23 t101 x8_1).f3)))).cell? _ = some _ from hx109_1)); (try have hy109_2 := fun (n_ : Nat) => (show ((((((w19.drewN n_).setCell ⟨gb105, 0, none⟩ (.string ((rd_T23 t101 x8_1).f0))).setCell ⟨gb105, 1, none⟩ (.int .i64 ((rd_T23 t101 x8_1).f1))).setCell ⟨gb105, 2, none⟩ (.int .i64 ((rd_T23 t101 x8_1).f2))).setCell ⟨gb105, 3, none⟩ (.int .i64 ((rd_T23 t101 x8_1).f3)))).cell? _ = some _ from hx109_2)); (try have hy109_3 := fun (n_ : Nat) => (show ((((((w19.drewN n_).setCell ⟨gb105, 0, none⟩ (.string ((rd_T23 t101 x8_1).f0))).setCell ⟨gb105, 1, none⟩ (.int .i64 ((rd_T23 t101 x8_1).f1))).setCell ⟨gb105, 2, none⟩ (.int .i64 ((rd_T23 t101 x8_1).f2))).setCell ⟨gb105, 3, none⟩ (.int .i64 ((rd_T23 t101 x8_1).f3)))).cell? _ = some _ from hx109_3)); clear hn109_0; clear hn109_1; clear hn109_2; clear hn109_3; replace p109 := eq_true p109; replace q109 := eq_true q109) | ((with_reducible refine gate_builtin (b := .append) (xs := #[.tmp 25, .tmp 27]) rfl ?_); (try (refine gate_guard (by rfl) ?_; dsimp only)); at_builtin; refine Kd.R_append k23 (w0 := w) w.heap.size rfl (.tmp 25) (.tmp 27) 35 23 (.agg #[(.string ⟨#[]⟩), (.int .i64 0), (.int .i64 0), (.int .i64 0)]) 40 rfl Tryd.underlying35 info23 rfl (by decide) (by omega) (.slice (some ad109) x2_1.length co21) x2_1 (⟨(rd_T23 t101 x8_1).f0, (rd_T23 t101 x8_1).f1, (rd_T23 t101 x8_1).f2, (rd_T23 t101 x8_1).f3⟩ : S23) [.string ((rd_T23 t101 x8_1).f0), .int .i64 ((rd_T23 t101 x8_1).f1), .int .i64 ((rd_T23 t101 x8_1).f2), .int .i64 ((rd_T23 t101 x8_1).f3)] (fun k_ => some k_ ≠ (.slice (some ad104) t101.length co4 : Value).ownBlock ∧ k_ ≠ gb105) (fun _ => False) rfl (by first | (go_simp; done) | (go_simp; rfl)) ?aP (fun _ hk => hk.elim) ?aF ?aO ?aB ?aS ?aL ?_; (case aP => exact k23_mkM _ _ _ (⟨(rd_T23 t101 x8_1).f0, (rd_T23 t101 x8_1).f1, (rd_T23 t101 x8_1).f2, (rd_T23 t101 x8_1).f3⟩ : S23)); (case aB => exact (by repeat (first | (with_reducible first | exact HB.out | apply below_alloc | apply pw_below_drewN | apply below_drew1 | refine below_set ?_ GE105.out) | exact HB.out))); (case aF => exact (fun k_ hk => ⟨Kd.fresh' (Kd.R_lt (by (with_reducible repeat (first | apply Kd.R_alloc | apply Kd.R_drewN | apply Kd.R_drew)); exact (Kd.R_mono (Kd.R_far (p := ⟨gb105, 3, none⟩) (Kd.R_far (p := ⟨gb105, 2, none⟩) (Kd.R_far (p := ⟨gb105, 1, none⟩) (Kd.R_far (p := ⟨gb105, 0, none⟩) (Kd.R_mono HO_6.out (fun k_ hk => (⟨hk, hk.2⟩ : _ ∧ k_ ≠ gb105))) (fun _ hk => hk.2) (.string ((rd_T23 t101 x8_1).f0))) (fun _ hk => hk.2) (.int .i64 ((rd_T23 t101 x8_1).f1))) (fun _ hk => hk.2) (.int .i64 ((rd_T23 t101 x8_1).f2))) (fun _ hk => hk.2) (.int .i64 ((rd_T23 t101 x8_1).f3))) (fun _ h_ => h_.1)))) k_ hk, Kd.freshB (g := gb105) (o := .cells #[.string ((rd_T23 t101 x8_1).f0), .int .i64 ((rd_T23 t101 x8_1).f1), .int .i64 ((rd_T23 t101 x8_1).f2), .int .i64 ((rd_T23 t101 x8_1).f3)] 23 (0, 0)) (by (with_reducible repeat (first | refine blk_drewN ?_ _ | refine blk_drew ?_ | refine blk_alloc ?_ _)); refine blk_put (cs := #[.string ((rd_T23 t101 x8_1).f0), .int .i64 ((rd_T23 t101 x8_1).f1), .int .i64 ((rd_T23 t101 x8_1).f2), .int .i64 0]) ?_ 3 _ rfl; (with_reducible repeat (first | refine blk_drewN ?_ _ | refine blk_drew ?_ | refine blk_alloc ?_ _)); refine blk_put (cs := #[.string ((rd_T23 t101 x8_1).f0), .int .i64 ((rd_T23 t101 x8_1).f1), .int .i64 0, .int .i64 0]) ?_ 2 _ rfl; (with_reducible repeat (first | refine blk_drewN ?_ _ | refine blk_drew ?_ | refine blk_alloc ?_ _)); refine blk_put (cs := #[.string ((rd_T23 t101 x8_1).f0), .int .i64 0, .int .i64 0, .int .i64 0]) ?_ 1 _ rfl; (with_reducible repeat (first | refine blk_drewN ?_ _ | refine blk_drew ?_ | refine blk_alloc ?_ _)); refine blk_put (cs := #[.string (⟨#[]⟩ : ByteArray), .int .i64 0, .int .i64 0, .int .i64 0]) ?_ 0 _ rfl; (with_reducible repeat (first | refine blk_drewN ?_ _ | refine blk_drew ?_ | refine blk_alloc ?_ _)); exact BK105.out) k_ hk⟩)); (case aO => exact (by (with_reducible repeat (first | apply Kd.R_alloc | apply Kd.R_drewN | apply Kd.R_drew)); exact Kd.R_mono (Kd.R_far (p := ⟨gb105, 3, none⟩) (Kd.R_far (p := ⟨gb105, 2, none⟩) (Kd.R_far (p := ⟨gb105, 1, none⟩) (Kd.R_far (p := ⟨gb105, 0, none⟩) (Kd.R_mono HO_2.out (fun k_ hk => (⟨hk, hk.2⟩ : _ ∧ k_ ≠ gb105))) (fun _ hk => hk.2) (.string ((rd_T23 t101 x8_1).f0))) (fun _ hk => hk.2) (.int .i64 ((rd_T23 t101 x8_1).f1))) (fun _ hk => hk.2) (.int .i64 ((rd_T23 t101 x8_1).f2))) (fun _ hk => hk.2) (.int .i64 ((rd_T23 t101 x8_1).f3))) (fun _ hk => ⟨hk.1.1, hk.1.2⟩))); (case aS => exact (below_size (by repeat (first | (with_reducible first | exact HB.out | apply below_alloc | apply pw_below_drewN | apply below_drew1 | refine below_set ?_ GE105.out) | exact HB.out)))); (case aL => have := LMc18.out; omega); intro v111 w22 ho hb hg hat; rw [← Ny110.out] at ho; have n0_ := Aside0.mk (Kd.R_after (ok := (fun k_ => k_ ≠ gb105)) (by (with_reducible repeat (first | apply Kd.R_alloc | apply Kd.R_drewN | apply Kd.R_drew)); exact Kd.R_mono (Kd.R_far (p := ⟨gb105, 3, none⟩) (Kd.R_far (p := ⟨gb105, 2, none⟩) (Kd.R_far (p := ⟨gb105, 1, none⟩) (Kd.R_far (p := ⟨gb105, 0, none⟩) (Kd.R_mono HO_6.out (fun k_ hk => (⟨hk, hk.2⟩ : _ ∧ k_ ≠ gb105))) (fun _ hk => hk.2) (.string ((rd_T23 t101 x8_1).f0))) (fun _ hk => hk.2) (.int .i64 ((rd_T23 t101 x8_1).f1))) (fun _ hk => hk.2) (.int .i64 ((rd_T23 t101 x8_1).f2))) (fun _ hk => hk.2) (.int .i64 ((rd_T23 t101 x8_1).f3))) (fun _ hk => ⟨hk.1.2, hk.1.1⟩)) hg hat); have n1_ := Aside0.mk (blk_grown (g := gb105) (o := .cells #[.string ((rd_T23 t101 x8_1).f0), .int .i64 ((rd_T23 t101 x8_1).f1), .int .i64 ((rd_T23 t101 x8_1).f2), .int .i64 ((rd_T23 t101 x8_1).f3)] 23 (0, 0)) (by (with_reducible repeat (first | refine blk_drewN ?_ _ | refine blk_drew ?_ | refine blk_alloc ?_ _)); refine blk_put (cs := #[.string ((rd_T23 t101 x8_1).f0), .int .i64 ((rd_T23 t101 x8_1).f1), .int .i64 ((rd_T23 t101 x8_1).f2), .int .i64 0]) ?_ 3 _ rfl; (with_reducible repeat (first | refine blk_drewN ?_ _ | refine blk_drew ?_ | refine blk_alloc ?_ _)); refine blk_put (cs := #[.string ((rd_T23 t101 x8_1).f0), .int .i64 ((rd_T23 t101 x8_1).f1), .int .i64 0, .int .i64 0]) ?_ 2 _ rfl; (with_reducible repeat (first | refine blk_drewN ?_ _ | refine blk_drew ?_ | refine blk_alloc ?_ _)); refine blk_put (cs := #[.string ((rd_T23 t101 x8_1).f0), .int .i64 0, .int .i64 0, .int .i64 0]) ?_ 1 _ rfl; (with_reducible repeat (first | refine blk_drewN ?_ _ | refine blk_drew ?_ | refine blk_alloc ?_ _)); refine blk_put (cs := #[.string (⟨#[]⟩ : ByteArray), .int .i64 0, .int .i64 0, .int .i64 0]) ?_ 0 _ rfl; (with_reducible repeat (first | refine blk_drewN ?_ _ | refine blk_drew ?_ | refine blk_alloc ?_ _)); exact BK105.out) hg (Kd.R_away HO_2.out (fun _ hk => hk.2))); have n2_ := Aside0.mk (hb); have n3_ := Aside0.mk (ho); clear HO_6; clear BK105; clear HB; clear HO_2; have HO_6 := n0_; have BK105 := n1_; have HB := n2_; have HO112 := n3_; clear n0_ n1_ n2_ n3_; clear ho hb hg hat)); try go_wp2_with (first | ((with_reducible refine gate_dst (N := 4) rfl ?_); (try (refine gate_guard (by rfl) ?_; dsimp only)); refine box_event ?hg (N := 4) ?hd (cs := #[.string (⟨#[]⟩ : ByteArray), .int .i64 0, .int .i64 0, .int .i64 0]) (t := 23) ?hr ?_; (case hd => rfl); (case hg => rfl); (case hr => first | (go_simp; done) | (go_simp; rfl)); intro gb105 hg w19 hbox hb; have n0_ := Aside0.mk (Kd.R_below (Kd.R_elderB (by (with_reducible repeat (first | apply Kd.R_alloc | apply Kd.R_drewN | apply Kd.R_drew)); exact HO_2.out) gb105 (Nat.le_of_eq hg.symm)) hb); have n1_ := Aside0.mk (Kd.R_below (Kd.R_elderB (by (with_reducible repeat (first | apply Kd.R_alloc | apply Kd.R_drewN | apply Kd.R_drew)); exact HO_6.out) gb105 (Nat.le_of_eq hg.symm)) hb); have n2_ := Aside0.mk (below_step (by repeat (first | (with_reducible first | exact HB.out | apply below_alloc | apply pw_below_drewN | apply below_drew1) | exact HB.out)) hb); have n3_ := Aside0.mk (hbox); have n4_ := Aside0.mk ((by rw [hg]; exact (below_size (by repeat (first | (with_reducible first | exact HB.out | apply below_alloc | apply pw_below_drewN | apply below_drew1) | exact HB.out))) : w.heap.size ≤ gb105)); have n5_ := Aside0.mk ((by rw [hg]; exact (below_size (by repeat (first | (with_reducible first | exact HB.out | apply below_alloc | apply pw_below_drewN | apply below_drew1) | exact HB.out))) : w.heap.size ≤ gb105)); clear HO_2; clear HO_6; clear HB; have HO_2 := n0_; have HO_6 := n1_; have HB := n2_; have BK105 := n3_; have GW105 := n4_; have GE105 := n5_; clear n0_ n1_ n2_ n3_ n4_ n5_; clear hb hbox hg; have hcz20_0 : w19.cell? ⟨gb105, 0, none⟩ = some (.string (⟨#[]⟩ : ByteArray)) := (blk_cell BK105.out 0).trans rfl; have hcz20_1 : w19.cell? ⟨gb105, 1, none⟩ = some (.int .i64 0) := (blk_cell BK105.out 1).trans rfl; have hcz20_2 : w19.cell? ⟨gb105, 2, none⟩ = some (.int .i64 0) := (blk_cell BK105.out 2).trans rfl; have hcz20_3 : w19.cell? ⟨gb105, 3, none⟩ = some (.int .i64 0) := (blk_cell BK105.out 3).trans rfl; have hfz20_0 := blk_frozen BK105.out 0; have hfz20_1 := blk_frozen BK105.out 1; have hfz20_2 := blk_frozen BK105.out 2; have hfz20_3 := blk_frozen BK105.out 3; obtain ⟨Ao21, co21, eo21⟩ := Kd.R_slice HO_2.out; subst eo21; have p109 : 0 ≤ ((ji14) : Int) := of_decide_eq_true (by first | (with_reducible assumption) | assumption); have q109 : (ji14) < (x2_1.length : Int) := of_decide_eq_true (by first | (with_reducible assumption) | assumption); obtain ⟨ad109, e109, hx109_0, hx109_1, hx109_2, hx109_3⟩ := at_T23 (Kd.R_reads' HO_2.out).2.2 (ji14) p109 q109; cases e109; have hn109_0 : ad109.block ≠ gb105 := Kd.own_blk (Kd.R_away HO_2.out (fun _ hk => hk.2)); have hn109_1 : ad109.block ≠ gb105 := Kd.own_blk (Kd.R_away HO_2.out (fun _ hk => hk.2)); have hn109_2 : ad109.block ≠ gb105 := Kd.own_blk (Kd.R_away HO_2.out (fun _ hk => hk.2)); have hn109_3 : ad109.block ≠ gb105 := Kd.own_blk (Kd.R_away HO_2.out (fun _ hk => hk.2)); replace hx109_0 := (cell_far (p := ⟨gb105, 0, none⟩) (by first | (rw [add_block]; exact hn109_0) | (show (Addr.add _ _).block ≠ _; rw [add_block]; exact hn109_0) | exact hn109_0) (.string ((rd_T23 t101 x8_1).f0))).trans hx109_0; replace hx109_1 := (cell_far (p := ⟨gb105, 0, none⟩) (by first | (rw [add_block]; exact hn109_0) | (show (Addr.add _ _).block ≠ _; rw [add_block]; exact hn109_0) | exact hn109_0) (.string ((rd_T23 t101 x8_1).f0))).trans hx109_1; replace hx109_2 := (cell_far (p := ⟨gb105, 0, none⟩) (by first | (rw [add_block]; exact hn109_0) | (show (Addr.add _ _).block ≠ _; rw [add_block]; exact hn109_0) | exact hn109_0) (.string ((rd_T23 t101 x8_1).f0))).trans hx109_2; replace hx109_3 := (cell_far (p := ⟨gb105, 0, none⟩) (by first | (rw [add_block]; exact hn109_0) | (show (Addr.add _ _).block ≠ _; rw [add_block]; exact hn109_0) | exact hn109_0) (.string ((rd_T23 t101 x8_1).f0))).trans hx109_3; replace hx109_0 := (cell_far (p := ⟨gb105, 1, none⟩) (by first | (rw [add_block]; exact hn109_1) | (show (Addr.add _ _).block ≠ _; rw [add_block]; exact hn109_1) | exact hn109_1) (.int .i64 ((rd_T23 t101 x8_1).f1))).trans hx109_0; replace hx109_1 := (cell_far (p := ⟨gb105, 1, none⟩) (by first | (rw [add_block]; exact hn109_1) | (show (Addr.add _ _).block ≠ _; rw [add_block]; exact hn109_1) | exact hn109_1) (.int .i64 ((rd_T23 t101 x8_1).f1))).trans hx109_1; replace hx109_2 := (cell_far (p := ⟨gb105, 1, none⟩) (by first | (rw [add_block]; exact hn109_1) | (show (Addr.add _ _).block ≠ _; rw [add_block]; exact hn109_1) | exact hn109_1) (.int .i64 ((rd_T23 t101 x8_1).f1))).trans hx109_2; replace hx109_3 := (cell_far (p := ⟨gb105, 1, none⟩) (by first | (rw [add_block]; exact hn109_1) | (show (Addr.add _ _).block ≠ _; rw [add_block]; exact hn109_1) | exact hn109_1) (.int .i64 ((rd_T23 t101 x8_1).f1))).trans hx109_3; replace hx109_0 := (cell_far (p := ⟨gb105, 2, none⟩) (by first | (rw [add_block]; exact hn109_2) | (show (Addr.add _ _).block ≠ _; rw [add_block]; exact hn109_2) | exact hn109_2) (.int .i64 ((rd_T23 t101 x8_1).f2))).trans hx109_0; replace hx109_1 := (cell_far (p := ⟨gb105, 2, none⟩) (by first | (rw [add_block]; exact hn109_2) | (show (Addr.add _ _).block ≠ _; rw [add_block]; exact hn109_2) | exact hn109_2) (.int .i64 ((rd_T23 t101 x8_1).f2))).trans hx109_1; replace hx109_2 := (cell_far (p := ⟨gb105, 2, none⟩) (by first | (rw [add_block]; exact hn109_2) | (show (Addr.add _ _).block ≠ _; rw [add_block]; exact hn109_2) | exact hn109_2) (.int .i64 ((rd_T23 t101 x8_1).f2))).trans hx109_2; replace hx109_3 := (cell_far (p := ⟨gb105, 2, none⟩) (by first | (rw [add_block]; exact hn109_2) | (show (Addr.add _ _).block ≠ _; rw [add_block]; exact hn109_2) | exact hn109_2) (.int .i64 ((rd_T23 t101 x8_1).f2))).trans hx109_3; replace hx109_0 := (cell_far (p := ⟨gb105, 3, none⟩) (by first | (rw [add_block]; exact hn109_3) | (show (Addr.add _ _).block ≠ _; rw [add_block]; exact hn109_3) | exact hn109_3) (.int .i64 ((rd_T23 t101 x8_1).f3))).trans hx109_0; replace hx109_1 := (cell_far (p := ⟨gb105, 3, none⟩) (by first | (rw [add_block]; exact hn109_3) | (show (Addr.add _ _).block ≠ _; rw [add_block]; exact hn109_3) | exact hn109_3) (.int .i64 ((rd_T23 t101 x8_1).f3))).trans hx109_1; replace hx109_2 := (cell_far (p := ⟨gb105, 3, none⟩) (by first | (rw [add_block]; exact hn109_3) | (show (Addr.add _ _).block ≠ _; rw [add_block]; exact hn109_3) | exact hn109_3) (.int .i64 ((rd_T23 t101 x8_1).f3))).trans hx109_2; replace hx109_3 := (cell_far (p := ⟨gb105, 3, none⟩) (by first | (rw [add_block]; exact hn109_3) | (show (Addr.add _ _).block ≠ _; rw [add_block]; exact hn109_3) | exact hn109_3) (.int .i64 ((rd_T23 t101 x8_1).f3))).trans hx109_3; (try have hy109_0 := fun (n_ : Nat) => (show ((((((w19.drewN n_).setCell ⟨gb105, 0, none⟩ (.string ((rd_T23 t101 x8_1).f0))).setCell ⟨gb105, 1, none⟩ (.int .i64 ((rd_T23 t101 x8_1).f1))).setCell ⟨gb105, 2, none⟩ (.int .i64 ((rd_T23 t101 x8_1).f2))).setCell ⟨gb105, 3, none⟩ (.int .i64 ((rd_T23 t101 x8_1).f3)))).cell? _ = some _ from hx109_0)); (try have hy109_1 := fun (n_ : Nat) => (show ((((((w19.drewN n_).setCell ⟨gb105, 0, none⟩ (.string ((rd_T23 t101 x8_1).f0))).setCell ⟨gb105, 1, none⟩ (.int .i64 ((rd_T23 t101 x8_1).f1))).setCell ⟨gb105, 2, none⟩ (.int .i64 ((rd_T23 t101 x8_1).f2))).setCell ⟨gb105, 3, none⟩ (.int .i64 ((rd_T23 t101 x8_1).f3)))).cell? _ = some _ from hx109_1)); (try have hy109_2 := fun (n_ : Nat) => (show ((((((w19.drewN n_).setCell ⟨gb105, 0, none⟩ (.string ((rd_T23 t101 x8_1).f0))).setCell ⟨gb105, 1, none⟩ (.int .i64 ((rd_T23 t101 x8_1).f1))).setCell ⟨gb105, 2, none⟩ (.int .i64 ((rd_T23 t101 x8_1).f2))).setCell ⟨gb105, 3, none⟩ (.int .i64 ((rd_T23 t101 x8_1).f3)))).cell? _ = some _ from hx109_2)); (try have hy109_3 := fun (n_ : Nat) => (show ((((((w19.drewN n_).setCell ⟨gb105, 0, none⟩ (.string ((rd_T23 t101 x8_1).f0))).setCell ⟨gb105, 1, none⟩ (.int .i64 ((rd_T23 t101 x8_1).f1))).setCell ⟨gb105, 2, none⟩ (.int .i64 ((rd_T23 t101 x8_1).f2))).setCell ⟨gb105, 3, none⟩ (.int .i64 ((rd_T23 t101 x8_1).f3)))).cell? _ = some _ from hx109_3)); clear hn109_0; clear hn109_1; clear hn109_2; clear hn109_3; replace p109 := eq_true p109; replace q109 := eq_true q109) | ((with_reducible refine gate_builtin (b := .append) (xs := #[.tmp 25, .tmp 27]) rfl ?_); (try (refine gate_guard (by rfl) ?_; dsimp only)); at_builtin; refine Kd.R_append k23 (w0 := w) w.heap.size rfl (.tmp 25) (.tmp 27) 35 23 (.agg #[(.string ⟨#[]⟩), (.int .i64 0), (.int .i64 0), (.int .i64 0)]) 40 rfl Tryd.underlying35 info23 rfl (by decide) (by omega) (.slice (some ad109) x2_1.length co21) x2_1 (⟨(rd_T23 t101 x8_1).f0, (rd_T23 t101 x8_1).f1, (rd_T23 t101 x8_1).f2, (rd_T23 t101 x8_1).f3⟩ : S23) [.string ((rd_T23 t101 x8_1).f0), .int .i64 ((rd_T23 t101 x8_1).f1), .int .i64 ((rd_T23 t101 x8_1).f2), .int .i64 ((rd_T23 t101 x8_1).f3)] (fun k_ => some k_ ≠ (.slice (some ad104) t101.length co4 : Value).ownBlock ∧ k_ ≠ gb105) (fun _ => False) rfl (by first | (go_simp; done) | (go_simp; rfl)) ?aP (fun _ hk => hk.elim) ?aF ?aO ?aB ?aS ?aL ?_; (case aP => exact k23_mkM _ _ _ (⟨(rd_T23 t101 x8_1).f0, (rd_T23 t101 x8_1).f1, (rd_T23 t101 x8_1).f2, (rd_T23 t101 x8_1).f3⟩ : S23)); (case aB => exact (by repeat (first | (with_reducible first | exact HB.out | apply below_alloc | apply pw_below_drewN | apply below_drew1 | refine below_set ?_ GE105.out) | exact HB.out))); (case aF => exact (fun k_ hk => ⟨Kd.fresh' (Kd.R_lt (by (with_reducible repeat (first | apply Kd.R_alloc | apply Kd.R_drewN | apply Kd.R_drew)); exact (Kd.R_mono (Kd.R_far (p := ⟨gb105, 3, none⟩) (Kd.R_far (p := ⟨gb105, 2, none⟩) (Kd.R_far (p := ⟨gb105, 1, none⟩) (Kd.R_far (p := ⟨gb105, 0, none⟩) (Kd.R_mono HO_6.out (fun k_ hk => (⟨hk, hk.2⟩ : _ ∧ k_ ≠ gb105))) (fun _ hk => hk.2) (.string ((rd_T23 t101 x8_1).f0))) (fun _ hk => hk.2) (.int .i64 ((rd_T23 t101 x8_1).f1))) (fun _ hk => hk.2) (.int .i64 ((rd_T23 t101 x8_1).f2))) (fun _ hk => hk.2) (.int .i64 ((rd_T23 t101 x8_1).f3))) (fun _ h_ => h_.1)))) k_ hk, Kd.freshB (g := gb105) (o := .cells #[.string ((rd_T23 t101 x8_1).f0), .int .i64 ((rd_T23 t101 x8_1).f1), .int .i64 ((rd_T23 t101 x8_1).f2), .int .i64 ((rd_T23 t101 x8_1).f3)] 23 (0, 0)) (by (with_reducible repeat (first | refine blk_drewN ?_ _ | refine blk_drew ?_ | refine blk_alloc ?_ _)); refine blk_put (cs := #[.string ((rd_T23 t101 x8_1).f0), .int .i64 ((rd_T23 t101 x8_1).f1), .int .i64 ((rd_T23 t101 x8_1).f2), .int .i64 0]) ?_ 3 _ rfl; (with_reducible repeat (first | refine blk_drewN ?_ _ | refine blk_drew ?_ | refine blk_alloc ?_ _)); refine blk_put (cs := #[.string ((rd_T23 t101 x8_1).f0), .int .i64 ((rd_T23 t101 x8_1).f1), .int .i64 0, .int .i64 0]) ?_ 2 _ rfl; (with_reducible repeat (first | refine blk_drewN ?_ _ | refine blk_drew ?_ | refine blk_alloc ?_ _)); refine blk_put (cs := #[.string ((rd_T23 t101 x8_1).f0), .int .i64 0, .int .i64 0, .int .i64 0]) ?_ 1 _ rfl; (with_reducible repeat (first | refine blk_drewN ?_ _ | refine blk_drew ?_ | refine blk_alloc ?_ _)); refine blk_put (cs := #[.string (⟨#[]⟩ : ByteArray), .int .i64 0, .int .i64 0, .int .i64 0]) ?_ 0 _ rfl; (with_reducible repeat (first | refine blk_drewN ?_ _ | refine blk_drew ?_ | refine blk_alloc ?_ _)); exact BK105.out) k_ hk⟩)); (case aO => exact (by (with_reducible repeat (first | apply Kd.R_alloc | apply Kd.R_drewN | apply Kd.R_drew)); exact Kd.R_mono (Kd.R_far (p := ⟨gb105, 3, none⟩) (Kd.R_far (p := ⟨gb105, 2, none⟩) (Kd.R_far (p := ⟨gb105, 1, none⟩) (Kd.R_far (p := ⟨gb105, 0, none⟩) (Kd.R_mono HO_2.out (fun k_ hk => (⟨hk, hk.2⟩ : _ ∧ k_ ≠ gb105))) (fun _ hk => hk.2) (.string ((rd_T23 t101 x8_1).f0))) (fun _ hk => hk.2) (.int .i64 ((rd_T23 t101 x8_1).f1))) (fun _ hk => hk.2) (.int .i64 ((rd_T23 t101 x8_1).f2))) (fun _ hk => hk.2) (.int .i64 ((rd_T23 t101 x8_1).f3))) (fun _ hk => ⟨hk.1.1, hk.1.2⟩))); (case aS => exact (below_size (by repeat (first | (with_reducible first | exact HB.out | apply below_alloc | apply pw_below_drewN | apply below_drew1 | refine below_set ?_ GE105.out) | exact HB.out)))); (case aL => have := LMc18.out; omega); intro v111 w22 ho hb hg hat; rw [← Ny110.out] at ho; have n0_ := Aside0.mk (Kd.R_after (ok := (fun k_ => k_ ≠ gb105)) (by (with_reducible repeat (first | apply Kd.R_alloc | apply Kd.R_drewN | apply Kd.R_drew)); exact Kd.R_mono (Kd.R_far (p := ⟨gb105, 3, none⟩) (Kd.R_far (p := ⟨gb105, 2, none⟩) (Kd.R_far (p := ⟨gb105, 1, none⟩) (Kd.R_far (p := ⟨gb105, 0, none⟩) (Kd.R_mono HO_6.out (fun k_ hk => (⟨hk, hk.2⟩ : _ ∧ k_ ≠ gb105))) (fun _ hk => hk.2) (.string ((rd_T23 t101 x8_1).f0))) (fun _ hk => hk.2) (.int .i64 ((rd_T23 t101 x8_1).f1))) (fun _ hk => hk.2) (.int .i64 ((rd_T23 t101 x8_1).f2))) (fun _ hk => hk.2) (.int .i64 ((rd_T23 t101 x8_1).f3))) (fun _ hk => ⟨hk.1.2, hk.1.1⟩)) hg hat); have n1_ := Aside0.mk (blk_grown (g := gb105) (o := .cells #[.string ((rd_T23 t101 x8_1).f0), .int .i64 ((rd_T23 t101 x8_1).f1), .int .i64 ((rd_T23 t101 x8_1).f2), .int .i64 ((rd_T23 t101 x8_1).f3)] 23 (0, 0)) (by (with_reducible repeat (first | refine blk_drewN ?_ _ | refine blk_drew ?_ | refine blk_alloc ?_ _)); refine blk_put (cs := #[.string ((rd_T23 t101 x8_1).f0), .int .i64 ((rd_T23 t101 x8_1).f1), .int .i64 ((rd_T23 t101 x8_1).f2), .int .i64 0]) ?_ 3 _ rfl; (with_reducible repeat (first | refine blk_drewN ?_ _ | refine blk_drew ?_ | refine blk_alloc ?_ _)); refine blk_put (cs := #[.string ((rd_T23 t101 x8_1).f0), .int .i64 ((rd_T23 t101 x8_1).f1), .int .i64 0, .int .i64 0]) ?_ 2 _ rfl; (with_reducible repeat (first | refine blk_drewN ?_ _ | refine blk_drew ?_ | refine blk_alloc ?_ _)); refine blk_put (cs := #[.string ((rd_T23 t101 x8_1).f0), .int .i64 0, .int .i64 0, .int .i64 0]) ?_ 1 _ rfl; (with_reducible repeat (first | refine blk_drewN ?_ _ | refine blk_drew ?_ | refine blk_alloc ?_ _)); refine blk_put (cs := #[.string (⟨#[]⟩ : ByteArray), .int .i64 0, .int .i64 0, .int .i64 0]) ?_ 0 _ rfl; (with_reducible repeat (first | refine blk_drewN ?_ _ | refine blk_drew ?_ | refine blk_alloc ?_ _)); exact BK105.out) hg (Kd.R_away HO_2.out (fun _ hk => hk.2))); have n2_ := Aside0.mk (hb); have n3_ := Aside0.mk (ho); clear HO_6; clear BK105; clear HB; clear HO_2; have HO_6 := n0_; have BK105 := n1_; have HB := n2_; have HO112 := n3_; clear n0_ n1_ n2_ n3_; clear ho hb hg hat)))
                      go_roundg k1
                      case measure => have := HK1.out; omega
                      case rel => exact ⟨(y110), (wrap64 (x8_1 + 1)), (by first | rfl | (simp; done) | (simp [*]; done)), H', ⟨by have := HK1.out; omega⟩, ⟨by (with_reducible repeat (first | apply Kd.R_alloc | apply Kd.R_drewN | apply Kd.R_drew)); exact Kd.R_mono HO112.out (fun _ hk => hk.1)⟩, ⟨by (with_reducible repeat (first | apply Kd.R_alloc | apply Kd.R_drewN | apply Kd.R_drew)); exact Kd.R_mono HO_6.out (fun _ hk => hk.2)⟩, ⟨by repeat (first | (with_reducible first | exact HB.out | apply below_alloc | apply pw_below_drewN | apply below_drew1 | refine below_set ?_ GE105.out) | exact HB.out)⟩⟩
                    · rw [if_neg c18] at H
                      exact absurd H (by simp)
                  · rw [if_neg c17] at H
                    have c17b0 : (!((((rd_T23 x2_1 (ji14)).f0).toList) == (((rd_T23 t101 x8_1).f0).toList)) || (!(((rd_T23 x2_1 (ji14)).f1) == ((rd_T23 t101 x8_1).f1)) || (!(((rd_T23 x2_1 (ji14)).f2) == ((rd_T23 t101 x8_1).f2)) || (!(((rd_T23 x2_1 (ji14)).f3) == ((rd_T23 t101 x8_1).f3)))))) = false := by simpa using c17
                    clear c17
                    have H' := Aside0.mk H
                    clear H
                    have p104 : 0 ≤ (x8_1 : Int) := of_decide_eq_true (by first | (with_reducible assumption) | assumption)
                    have q104 : x8_1 < (t101.length : Int) := of_decide_eq_true (by first | (with_reducible assumption) | assumption)
                    obtain ⟨ad104, e104, hx104_0, hx104_1, hx104_2, hx104_3⟩ := at_T23 (Kd.R_reads' HO_6.out).2.2 x8_1 p104 q104
                    cases e104
                    replace p104 := eq_true p104
                    replace q104 := eq_true q104
                    go_wp2_with (first | ((with_reducible refine gate_dst (N := 4) rfl ?_); (try (refine gate_guard (by rfl) ?_; dsimp only)); refine box_event ?hg (N := 4) ?hd (cs := #[.string (⟨#[]⟩ : ByteArray), .int .i64 0, .int .i64 0, .int .i64 0]) (t := 23) ?hr ?_; (case hd => rfl); (case hg => rfl); (case hr => first | (go_simp; done) | (go_simp; rfl)); intro gb105 hg w23 hbox hb; have n0_ := Aside0.mk (Kd.R_below (Kd.R_elderB (by (with_reducible repeat (first | apply Kd.R_alloc | apply Kd.R_drewN | apply Kd.R_drew)); exact HO_2.out) gb105 (Nat.le_of_eq hg.symm)) hb); have n1_ := Aside0.mk (Kd.R_below (Kd.R_elderB (by (with_reducible repeat (first | apply Kd.R_alloc | apply Kd.R_drewN | apply Kd.R_drew)); exact HO_6.out) gb105 (Nat.le_of_eq hg.symm)) hb); have n2_ := Aside0.mk (below_step (by repeat (first | (with_reducible first | exact HB.out | apply below_alloc | apply pw_below_drewN | apply below_drew1) | exact HB.out)) hb); have n3_ := Aside0.mk (hbox); have n4_ := Aside0.mk ((by rw [hg]; exact (below_size (by repeat (first | (with_reducible first | exact HB.out | apply below_alloc | apply pw_below_drewN | apply below_drew1) | exact HB.out))) : w.heap.size ≤ gb105)); have n5_ := Aside0.mk ((by rw [hg]; exact (below_size (by repeat (first | (with_reducible first | exact HB.out | apply below_alloc | apply pw_below_drewN | apply below_drew1) | exact HB.out))) : w.heap.size ≤ gb105)); clear HO_2; clear HO_6; clear HB; have HO_2 := n0_; have HO_6 := n1_; have HB := n2_; have BK105 := n3_; have GW105 := n4_; have GE105 := n5_; clear n0_ n1_ n2_ n3_ n4_ n5_; clear hb hbox hg; have hcz24_0 : w23.cell? ⟨gb105, 0, none⟩ = some (.string (⟨#[]⟩ : ByteArray)) := (blk_cell BK105.out 0).trans rfl; have hcz24_1 : w23.cell? ⟨gb105, 1, none⟩ = some (.int .i64 0) := (blk_cell BK105.out 1).trans rfl; have hcz24_2 : w23.cell? ⟨gb105, 2, none⟩ = some (.int .i64 0) := (blk_cell BK105.out 2).trans rfl; have hcz24_3 : w23.cell? ⟨gb105, 3, none⟩ = some (.int .i64 0) := (blk_cell BK105.out 3).trans rfl; have hfz24_0 := blk_frozen BK105.out 0; have hfz24_1 := blk_frozen BK105.out 1; have hfz24_2 := blk_frozen BK105.out 2; have hfz24_3 := blk_frozen BK105.out 3; obtain ⟨Ao25, co25, eo25⟩ := Kd.R_slice HO_2.out; subst eo25; have p109 : 0 ≤ ((ji14) : Int) := of_decide_eq_true (by first | (with_reducible assumption) | assumption); have q109 : (ji14) < (x2_1.length : Int) := of_decide_eq_true (by first | (with_reducible assumption) | assumption); obtain ⟨ad109, e109, hx109_0, hx109_1, hx109_2, hx109_3⟩ := at_T23 (Kd.R_reads' HO_2.out).2.2 (ji14) p109 q109; cases e109; have hn109_0 : ad109.block ≠ gb105 := Kd.own_blk (Kd.R_away HO_2.out (fun _ hk => hk.2)); have hn109_1 : ad109.block ≠ gb105 := Kd.own_blk (Kd.R_away HO_2.out (fun _ hk => hk.2)); have hn109_2 : ad109.block ≠ gb105 := Kd.own_blk (Kd.R_away HO_2.out (fun _ hk => hk.2)); have hn109_3 : ad109.block ≠ gb105 := Kd.own_blk (Kd.R_away HO_2.out (fun _ hk => hk.2)); replace hx109_0 := (cell_far (p := ⟨gb105, 0, none⟩) (by first | (rw [add_block]; exact hn109_0) | (show (Addr.add _ _).block ≠ _; rw [add_block]; exact hn109_0) | exact hn109_0) (.string ((rd_T23 t101 x8_1).f0))).trans hx109_0; replace hx109_1 := (cell_far (p := ⟨gb105, 0, none⟩) (by first | (rw [add_block]; exact hn109_0) | (show (Addr.add _ _).block ≠ _; rw [add_block]; exact hn109_0) | exact hn109_0) (.string ((rd_T23 t101 x8_1).f0))).trans hx109_1; replace hx109_2 := (cell_far (p := ⟨gb105, 0, none⟩) (by first | (rw [add_block]; exact hn109_0) | (show (Addr.add _ _).block ≠ _; rw [add_block]; exact hn109_0) | exact hn109_0) (.string ((rd_T23 t101 x8_1).f0))).trans hx109_2; replace hx109_3 := (cell_far (p := ⟨gb105, 0, none⟩) (by first | (rw [add_block]; exact hn109_0) | (show (Addr.add _ _).block ≠ _; rw [add_block]; exact hn109_0) | exact hn109_0) (.string ((rd_T23 t101 x8_1).f0))).trans hx109_3; replace hx109_0 := (cell_far (p := ⟨gb105, 1, none⟩) (by first | (rw [add_block]; exact hn109_1) | (show (Addr.add _ _).block ≠ _; rw [add_block]; exact hn109_1) | exact hn109_1) (.int .i64 ((rd_T23 t101 x8_1).f1))).trans hx109_0; replace hx109_1 := (cell_far (p := ⟨gb105, 1, none⟩) (by first | (rw [add_block]; exact hn109_1) | (show (Addr.add _ _).block ≠ _; rw [add_block]; exact hn109_1) | exact hn109_1) (.int .i64 ((rd_T23 t101 x8_1).f1))).trans hx109_1; replace hx109_2 := (cell_far (p := ⟨gb105, 1, none⟩) (by first | (rw [add_block]; exact hn109_1) | (show (Addr.add _ _).block ≠ _; rw [add_block]; exact hn109_1) | exact hn109_1) (.int .i64 ((rd_T23 t101 x8_1).f1))).trans hx109_2; replace hx109_3 := (cell_far (p := ⟨gb105, 1, none⟩) (by first | (rw [add_block]; exact hn109_1) | (show (Addr.add _ _).block ≠ _; rw [add_block]; exact hn109_1) | exact hn109_1) (.int .i64 ((rd_T23 t101 x8_1).f1))).trans hx109_3; replace hx109_0 := (cell_far (p := ⟨gb105, 2, none⟩) (by first | (rw [add_block]; exact hn109_2) | (show (Addr.add _ _).block ≠ _; rw [add_block]; exact hn109_2) | exact hn109_2) (.int .i64 ((rd_T23 t101 x8_1).f2))).trans hx109_0; replace hx109_1 := (cell_far (p := ⟨gb105, 2, none⟩) (by first | (rw [add_block]; exact hn109_2) | (show (Addr.add _ _).block ≠ _; rw [add_block]; exact hn109_2) | exact hn109_2) (.int .i64 ((rd_T23 t101 x8_1).f2))).trans hx109_1; replace hx109_2 := (cell_far (p := ⟨gb105, 2, none⟩) (by first | (rw [add_block]; exact hn109_2) | (show (Addr.add _ _).block ≠ _; rw [add_block]; exact hn109_2) | exact hn109_2) (.int .i64 ((rd_T23 t101 x8_1).f2))).trans hx109_2; replace hx109_3 := (cell_far (p := ⟨gb105, 2, none⟩) (by first | (rw [add_block]; exact hn109_2) | (show (Addr.add _ _).block ≠ _; rw [add_block]; exact hn109_2) | exact hn109_2) (.int .i64 ((rd_T23 t101 x8_1).f2))).trans hx109_3; replace hx109_0 := (cell_far (p := ⟨gb105, 3, none⟩) (by first | (rw [add_block]; exact hn109_3) | (show (Addr.add _ _).block ≠ _; rw [add_block]; exact hn109_3) | exact hn109_3) (.int .i64 ((rd_T23 t101 x8_1).f3))).trans hx109_0; replace hx109_1 := (cell_far (p := ⟨gb105, 3, none⟩) (by first | (rw [add_block]; exact hn109_3) | (show (Addr.add _ _).block ≠ _; rw [add_block]; exact hn109_3) | exact hn109_3) (.int .i64 ((rd_T23 t101 x8_1).f3))).trans hx109_1; replace hx109_2 := (cell_far (p := ⟨gb105, 3, none⟩) (by first | (rw [add_block]; exact hn109_3) | (show (Addr.add _ _).block ≠ _; rw [add_block]; exact hn109_3) | exact hn109_3) (.int .i64 ((rd_T23 t101 x8_1).f3))).trans hx109_2; replace hx109_3 := (cell_far (p := ⟨gb105, 3, none⟩) (by first | (rw [add_block]; exact hn109_3) | (show (Addr.add _ _).block ≠ _; rw [add_block]; exact hn109_3) | exact hn109_3) (.int .i64 ((rd_T23 t101 x8_1).f3))).trans hx109_3; (try have hy109_0 := fun (n_ : Nat) => (show ((((((w23.drewN n_).setCell ⟨gb105, 0, none⟩ (.string ((rd_T23 t101 x8_1).f0))).setCell ⟨gb105, 1, none⟩ (.int .i64 ((rd_T23 t101 x8_1).f1))).setCell ⟨gb105, 2, none⟩ (.int .i64 ((rd_T23 t101 x8_1).f2))).setCell ⟨gb105, 3, none⟩ (.int .i64 ((rd_T23 t101 x8_1).f3)))).cell? _ = some _ from hx109_0)); (try have hy109_1 := fun (n_ : Nat) => (show ((((((w23.drewN n_).setCell ⟨gb105, 0, none⟩ (.string ((rd_T23 t101 x8_1).f0))).setCell ⟨gb105, 1, none⟩ (.int .i64 ((rd_T23 t101 x8_1).f1))).setCell ⟨gb105, 2, none⟩ (.int .i64 ((rd_T23 t101 x8_1).f2))).setCell ⟨gb105, 3, none⟩ (.int .i64 ((rd_T23 t101 x8_1).f3)))).cell? _ = some _ from hx109_1)); (try have hy109_2 := fun (n_ : Nat) => (show ((((((w23.drewN n_).setCell ⟨gb105, 0, none⟩ (.string ((rd_T23 t101 x8_1).f0))).setCell ⟨gb105, 1, none⟩ (.int .i64 ((rd_T23 t101 x8_1).f1))).setCell ⟨gb105, 2, none⟩ (.int .i64 ((rd_T23 t101 x8_1).f2))).setCell ⟨gb105, 3, none⟩ (.int .i64 ((rd_T23 t101 x8_1).f3)))).cell? _ = some _ from hx109_2)); (try have hy109_3 := fun (n_ : Nat) => (show ((((((w23.drewN n_).setCell ⟨gb105, 0, none⟩ (.string ((rd_T23 t101 x8_1).f0))).setCell ⟨gb105, 1, none⟩ (.int .i64 ((rd_T23 t101 x8_1).f1))).setCell ⟨gb105, 2, none⟩ (.int .i64 ((rd_T23 t101 x8_1).f2))).setCell ⟨gb105, 3, none⟩ (.int .i64 ((rd_T23 t101 x8_1).f3)))).cell? _ = some _ from hx109_3)); clear hn109_0; clear hn109_1; clear hn109_2; clear hn109_3; replace p109 := eq_true p109; replace q109 := eq_true q109))
                    repeat (go_quiet (first | ((with_reducible refine gate_dst (N := 4) rfl ?_); (try (refine gate_guard (by rfl) ?_; dsimp only)); refine box_event ?hg (N := 4) ?hd (cs := #[.string (⟨#[]⟩ : ByteArray), .int .i64 0, .int .i64 0, .int .i64 0]) (t := 23) ?hr ?_; (case hd => rfl); (case hg => rfl); (case hr => first | (go_simp; done) | (go_simp; rfl)); intro gb105 hg w23 hbox hb; have n0_ := Aside0.mk (Kd.R_below (Kd.R_elderB (by (with_reducible repeat (first | apply Kd.R_alloc | apply Kd.R_drewN | apply Kd.R_drew)); exact HO_2.out) gb105 (Nat.le_of_eq hg.symm)) hb); have n1_ := Aside0.mk (Kd.R_below (Kd.R_elderB (by (with_reducible repeat (first | apply Kd.R_alloc | apply Kd.R_drewN | apply Kd.R_drew)); exact HO_6.out) gb105 (Nat.le_of_eq hg.symm)) hb); have n2_ := Aside0.mk (below_step (by repeat (first | (with_reducible first | exact HB.out | apply below_alloc | apply pw_below_drewN | apply below_drew1) | exact HB.out)) hb); have n3_ := Aside0.mk (hbox); have n4_ := Aside0.mk ((by rw [hg]; exact (below_size (by repeat (first | (with_reducible first | exact HB.out | apply below_alloc | apply pw_below_drewN | apply below_drew1) | exact HB.out))) : w.heap.size ≤ gb105)); have n5_ := Aside0.mk ((by rw [hg]; exact (below_size (by repeat (first | (with_reducible first | exact HB.out | apply below_alloc | apply pw_below_drewN | apply below_drew1) | exact HB.out))) : w.heap.size ≤ gb105)); clear HO_2; clear HO_6; clear HB; have HO_2 := n0_; have HO_6 := n1_; have HB := n2_; have BK105 := n3_; have GW105 := n4_; have GE105 := n5_; clear n0_ n1_ n2_ n3_ n4_ n5_; clear hb hbox hg; have hcz24_0 : w23.cell? ⟨gb105, 0, none⟩ = some (.string (⟨#[]⟩ : ByteArray)) := (blk_cell BK105.out 0).trans rfl; have hcz24_1 : w23.cell? ⟨gb105, 1, none⟩ = some (.int .i64 0) := (blk_cell BK105.out 1).trans rfl; have hcz24_2 : w23.cell? ⟨gb105, 2, none⟩ = some (.int .i64 0) := (blk_cell BK105.out 2).trans rfl; have hcz24_3 : w23.cell? ⟨gb105, 3, none⟩ = some (.int .i64 0) := (blk_cell BK105.out 3).trans rfl; have hfz24_0 := blk_frozen BK105.out 0; have hfz24_1 := blk_frozen BK105.out 1; have hfz24_2 := blk_frozen BK105.out 2; have hfz24_3 := blk_frozen BK105.out 3; obtain ⟨Ao25, co25, eo25⟩ := Kd.R_slice HO_2.out; subst eo25; have p109 : 0 ≤ ((ji14) : Int) := of_decide_eq_true (by first | (with_reducible assumption) | assumption); have q109 : (ji14) < (x2_1.length : Int) := of_decide_eq_true (by first | (with_reducible assumption) | assumption); obtain ⟨ad109, e109, hx109_0, hx109_1, hx109_2, hx109_3⟩ := at_T23 (Kd.R_reads' HO_2.out).2.2 (ji14) p109 q109; cases e109; have hn109_0 : ad109.block ≠ gb105 := Kd.own_blk (Kd.R_away HO_2.out (fun _ hk => hk.2)); have hn109_1 : ad109.block ≠ gb105 := Kd.own_blk (Kd.R_away HO_2.out (fun _ hk => hk.2)); have hn109_2 : ad109.block ≠ gb105 := Kd.own_blk (Kd.R_away HO_2.out (fun _ hk => hk.2)); have hn109_3 : ad109.block ≠ gb105 := Kd.own_blk (Kd.R_away HO_2.out (fun _ hk => hk.2)); replace hx109_0 := (cell_far (p := ⟨gb105, 0, none⟩) (by first | (rw [add_block]; exact hn109_0) | (show (Addr.add _ _).block ≠ _; rw [add_block]; exact hn109_0) | exact hn109_0) (.string ((rd_T23 t101 x8_1).f0))).trans hx109_0; replace hx109_1 := (cell_far (p := ⟨gb105, 0, none⟩) (by first | (rw [add_block]; exact hn109_0) | (show (Addr.add _ _).block ≠ _; rw [add_block]; exact hn109_0) | exact hn109_0) (.string ((rd_T23 t101 x8_1).f0))).trans hx109_1; replace hx109_2 := (cell_far (p := ⟨gb105, 0, none⟩) (by first | (rw [add_block]; exact hn109_0) | (show (Addr.add _ _).block ≠ _; rw [add_block]; exact hn109_0) | exact hn109_0) (.string ((rd_T23 t101 x8_1).f0))).trans hx109_2; replace hx109_3 := (cell_far (p := ⟨gb105, 0, none⟩) (by first | (rw [add_block]; exact hn109_0) | (show (Addr.add _ _).block ≠ _; rw [add_block]; exact hn109_0) | exact hn109_0) (.string ((rd_T23 t101 x8_1).f0))).trans hx109_3; replace hx109_0 := (cell_far (p := ⟨gb105, 1, none⟩) (by first | (rw [add_block]; exact hn109_1) | (show (Addr.add _ _).block ≠ _; rw [add_block]; exact hn109_1) | exact hn109_1) (.int .i64 ((rd_T23 t101 x8_1).f1))).trans hx109_0; replace hx109_1 := (cell_far (p := ⟨gb105, 1, none⟩) (by first | (rw [add_block]; exact hn109_1) | (show (Addr.add _ _).block ≠ _; rw [add_block]; exact hn109_1) | exact hn109_1) (.int .i64 ((rd_T23 t101 x8_1).f1))).trans hx109_1; replace hx109_2 := (cell_far (p := ⟨gb105, 1, none⟩) (by first | (rw [add_block]; exact hn109_1) | (show (Addr.add _ _).block ≠ _; rw [add_block]; exact hn109_1) | exact hn109_1) (.int .i64 ((rd_T23 t101 x8_1).f1))).trans hx109_2; replace hx109_3 := (cell_far (p := ⟨gb105, 1, none⟩) (by first | (rw [add_block]; exact hn109_1) | (show (Addr.add _ _).block ≠ _; rw [add_block]; exact hn109_1) | exact hn109_1) (.int .i64 ((rd_T23 t101 x8_1).f1))).trans hx109_3; replace hx109_0 := (cell_far (p := ⟨gb105, 2, none⟩) (by first | (rw [add_block]; exact hn109_2) | (show (Addr.add _ _).block ≠ _; rw [add_block]; exact hn109_2) | exact hn109_2) (.int .i64 ((rd_T23 t101 x8_1).f2))).trans hx109_0; replace hx109_1 := (cell_far (p := ⟨gb105, 2, none⟩) (by first | (rw [add_block]; exact hn109_2) | (show (Addr.add _ _).block ≠ _; rw [add_block]; exact hn109_2) | exact hn109_2) (.int .i64 ((rd_T23 t101 x8_1).f2))).trans hx109_1; replace hx109_2 := (cell_far (p := ⟨gb105, 2, none⟩) (by first | (rw [add_block]; exact hn109_2) | (show (Addr.add _ _).block ≠ _; rw [add_block]; exact hn109_2) | exact hn109_2) (.int .i64 ((rd_T23 t101 x8_1).f2))).trans hx109_2; replace hx109_3 := (cell_far (p := ⟨gb105, 2, none⟩) (by first | (rw [add_block]; exact hn109_2) | (show (Addr.add _ _).block ≠ _; rw [add_block]; exact hn109_2) | exact hn109_2) (.int .i64 ((rd_T23 t101 x8_1).f2))).trans hx109_3; replace hx109_0 := (cell_far (p := ⟨gb105, 3, none⟩) (by first | (rw [add_block]; exact hn109_3) | (show (Addr.add _ _).block ≠ _; rw [add_block]; exact hn109_3) | exact hn109_3) (.int .i64 ((rd_T23 t101 x8_1).f3))).trans hx109_0; replace hx109_1 := (cell_far (p := ⟨gb105, 3, none⟩) (by first | (rw [add_block]; exact hn109_3) | (show (Addr.add _ _).block ≠ _; rw [add_block]; exact hn109_3) | exact hn109_3) (.int .i64 ((rd_T23 t101 x8_1).f3))).trans hx109_1; replace hx109_2 := (cell_far (p := ⟨gb105, 3, none⟩) (by first | (rw [add_block]; exact hn109_3) | (show (Addr.add _ _).block ≠ _; rw [add_block]; exact hn109_3) | exact hn109_3) (.int .i64 ((rd_T23 t101 x8_1).f3))).trans hx109_2; replace hx109_3 := (cell_far (p := ⟨gb105, 3, none⟩) (by first | (rw [add_block]; exact hn109_3) | (show (Addr.add _ _).block ≠ _; rw [add_block]; exact hn109_3) | exact hn109_3) (.int .i64 ((rd_T23 t101 x8_1).f3))).trans hx109_3; (try have hy109_0 := fun (n_ : Nat) => (show ((((((w23.drewN n_).setCell ⟨gb105, 0, none⟩ (.string ((rd_T23 t101 x8_1).f0))).setCell ⟨gb105, 1, none⟩ (.int .i64 ((rd_T23 t101 x8_1).f1))).setCell ⟨gb105, 2, none⟩ (.int .i64 ((rd_T23 t101 x8_1).f2))).setCell ⟨gb105, 3, none⟩ (.int .i64 ((rd_T23 t101 x8_1).f3)))).cell? _ = some _ from hx109_0)); (try have hy109_1 := fun (n_ : Nat) => (show ((((((w23.drewN n_).setCell ⟨gb105, 0, none⟩ (.string ((rd_T23 t101 x8_1).f0))).setCell ⟨gb105, 1, none⟩ (.int .i64 ((rd_T23 t101 x8_1).f1))).setCell ⟨gb105, 2, none⟩ (.int .i64 ((rd_T23 t101 x8_1).f2))).setCell ⟨gb105, 3, none⟩ (.int .i64 ((rd_T23 t101 x8_1).f3)))).cell? _ = some _ from hx109_1)); (try have hy109_2 := fun (n_ : Nat) => (show ((((((w23.drewN n_).setCell ⟨gb105, 0, none⟩ (.string ((rd_T23 t101 x8_1).f0))).setCell ⟨gb105, 1, none⟩ (.int .i64 ((rd_T23 t101 x8_1).f1))).setCell ⟨gb105, 2, none⟩ (.int .i64 ((rd_T23 t101 x8_1).f2))).setCell ⟨gb105, 3, none⟩ (.int .i64 ((rd_T23 t101 x8_1).f3)))).cell? _ = some _ from hx109_2)); (try have hy109_3 := fun (n_ : Nat) => (show ((((((w23.drewN n_).setCell ⟨gb105, 0, none⟩ (.string ((rd_T23 t101 x8_1).f0))).setCell ⟨gb105, 1, none⟩ (.int .i64 ((rd_T23 t101 x8_1).f1))).setCell ⟨gb105, 2, none⟩ (.int .i64 ((rd_T23 t101 x8_1).f2))).setCell ⟨gb105, 3, none⟩ (.int .i64 ((rd_T23 t101 x8_1).f3)))).cell? _ = some _ from hx109_3)); clear hn109_0; clear hn109_1; clear hn109_2; clear hn109_3; replace p109 := eq_true p109; replace q109 := eq_true q109)); try go_wp2_with (first | ((with_reducible refine gate_dst (N := 4) rfl ?_); (try (refine gate_guard (by rfl) ?_; dsimp only)); refine box_event ?hg (N := 4) ?hd (cs := #[.string (⟨#[]⟩ : ByteArray), .int .i64 0, .int .i64 0, .int .i64 0]) (t := 23) ?hr ?_; (case hd => rfl); (case hg => rfl); (case hr => first | (go_simp; done) | (go_simp; rfl)); intro gb105 hg w23 hbox hb; have n0_ := Aside0.mk (Kd.R_below (Kd.R_elderB (by (with_reducible repeat (first | apply Kd.R_alloc | apply Kd.R_drewN | apply Kd.R_drew)); exact HO_2.out) gb105 (Nat.le_of_eq hg.symm)) hb); have n1_ := Aside0.mk (Kd.R_below (Kd.R_elderB (by (with_reducible repeat (first | apply Kd.R_alloc | apply Kd.R_drewN | apply Kd.R_drew)); exact HO_6.out) gb105 (Nat.le_of_eq hg.symm)) hb); have n2_ := Aside0.mk (below_step (by repeat (first | (with_reducible first | exact HB.out | apply below_alloc | apply pw_below_drewN | apply below_drew1) | exact HB.out)) hb); have n3_ := Aside0.mk (hbox); have n4_ := Aside0.mk ((by rw [hg]; exact (below_size (by repeat (first | (with_reducible first | exact HB.out | apply below_alloc | apply pw_below_drewN | apply below_drew1) | exact HB.out))) : w.heap.size ≤ gb105)); have n5_ := Aside0.mk ((by rw [hg]; exact (below_size (by repeat (first | (with_reducible first | exact HB.out | apply below_alloc | apply pw_below_drewN | apply below_drew1) | exact HB.out))) : w.heap.size ≤ gb105)); clear HO_2; clear HO_6; clear HB; have HO_2 := n0_; have HO_6 := n1_; have HB := n2_; have BK105 := n3_; have GW105 := n4_; have GE105 := n5_; clear n0_ n1_ n2_ n3_ n4_ n5_; clear hb hbox hg; have hcz24_0 : w23.cell? ⟨gb105, 0, none⟩ = some (.string (⟨#[]⟩ : ByteArray)) := (blk_cell BK105.out 0).trans rfl; have hcz24_1 : w23.cell? ⟨gb105, 1, none⟩ = some (.int .i64 0) := (blk_cell BK105.out 1).trans rfl; have hcz24_2 : w23.cell? ⟨gb105, 2, none⟩ = some (.int .i64 0) := (blk_cell BK105.out 2).trans rfl; have hcz24_3 : w23.cell? ⟨gb105, 3, none⟩ = some (.int .i64 0) := (blk_cell BK105.out 3).trans rfl; have hfz24_0 := blk_frozen BK105.out 0; have hfz24_1 := blk_frozen BK105.out 1; have hfz24_2 := blk_frozen BK105.out 2; have hfz24_3 := blk_frozen BK105.out 3; obtain ⟨Ao25, co25, eo25⟩ := Kd.R_slice HO_2.out; subst eo25; have p109 : 0 ≤ ((ji14) : Int) := of_decide_eq_true (by first | (with_reducible assumption) | assumption); have q109 : (ji14) < (x2_1.length : Int) := of_decide_eq_true (by first | (with_reducible assumption) | assumption); obtain ⟨ad109, e109, hx109_0, hx109_1, hx109_2, hx109_3⟩ := at_T23 (Kd.R_reads' HO_2.out).2.2 (ji14) p109 q109; cases e109; have hn109_0 : ad109.block ≠ gb105 := Kd.own_blk (Kd.R_away HO_2.out (fun _ hk => hk.2)); have hn109_1 : ad109.block ≠ gb105 := Kd.own_blk (Kd.R_away HO_2.out (fun _ hk => hk.2)); have hn109_2 : ad109.block ≠ gb105 := Kd.own_blk (Kd.R_away HO_2.out (fun _ hk => hk.2)); have hn109_3 : ad109.block ≠ gb105 := Kd.own_blk (Kd.R_away HO_2.out (fun _ hk => hk.2)); replace hx109_0 := (cell_far (p := ⟨gb105, 0, none⟩) (by first | (rw [add_block]; exact hn109_0) | (show (Addr.add _ _).block ≠ _; rw [add_block]; exact hn109_0) | exact hn109_0) (.string ((rd_T23 t101 x8_1).f0))).trans hx109_0; replace hx109_1 := (cell_far (p := ⟨gb105, 0, none⟩) (by first | (rw [add_block]; exact hn109_0) | (show (Addr.add _ _).block ≠ _; rw [add_block]; exact hn109_0) | exact hn109_0) (.string ((rd_T23 t101 x8_1).f0))).trans hx109_1; replace hx109_2 := (cell_far (p := ⟨gb105, 0, none⟩) (by first | (rw [add_block]; exact hn109_0) | (show (Addr.add _ _).block ≠ _; rw [add_block]; exact hn109_0) | exact hn109_0) (.string ((rd_T23 t101 x8_1).f0))).trans hx109_2; replace hx109_3 := (cell_far (p := ⟨gb105, 0, none⟩) (by first | (rw [add_block]; exact hn109_0) | (show (Addr.add _ _).block ≠ _; rw [add_block]; exact hn109_0) | exact hn109_0) (.string ((rd_T23 t101 x8_1).f0))).trans hx109_3; replace hx109_0 := (cell_far (p := ⟨gb105, 1, none⟩) (by first | (rw [add_block]; exact hn109_1) | (show (Addr.add _ _).block ≠ _; rw [add_block]; exact hn109_1) | exact hn109_1) (.int .i64 ((rd_T23 t101 x8_1).f1))).trans hx109_0; replace hx109_1 := (cell_far (p := ⟨gb105, 1, none⟩) (by first | (rw [add_block]; exact hn109_1) | (show (Addr.add _ _).block ≠ _; rw [add_block]; exact hn109_1) | exact hn109_1) (.int .i64 ((rd_T23 t101 x8_1).f1))).trans hx109_1; replace hx109_2 := (cell_far (p := ⟨gb105, 1, none⟩) (by first | (rw [add_block]; exact hn109_1) | (show (Addr.add _ _).block ≠ _; rw [add_block]; exact hn109_1) | exact hn109_1) (.int .i64 ((rd_T23 t101 x8_1).f1))).trans hx109_2; replace hx109_3 := (cell_far (p := ⟨gb105, 1, none⟩) (by first | (rw [add_block]; exact hn109_1) | (show (Addr.add _ _).block ≠ _; rw [add_block]; exact hn109_1) | exact hn109_1) (.int .i64 ((rd_T23 t101 x8_1).f1))).trans hx109_3; replace hx109_0 := (cell_far (p := ⟨gb105, 2, none⟩) (by first | (rw [add_block]; exact hn109_2) | (show (Addr.add _ _).block ≠ _; rw [add_block]; exact hn109_2) | exact hn109_2) (.int .i64 ((rd_T23 t101 x8_1).f2))).trans hx109_0; replace hx109_1 := (cell_far (p := ⟨gb105, 2, none⟩) (by first | (rw [add_block]; exact hn109_2) | (show (Addr.add _ _).block ≠ _; rw [add_block]; exact hn109_2) | exact hn109_2) (.int .i64 ((rd_T23 t101 x8_1).f2))).trans hx109_1; replace hx109_2 := (cell_far (p := ⟨gb105, 2, none⟩) (by first | (rw [add_block]; exact hn109_2) | (show (Addr.add _ _).block ≠ _; rw [add_block]; exact hn109_2) | exact hn109_2) (.int .i64 ((rd_T23 t101 x8_1).f2))).trans hx109_2; replace hx109_3 := (cell_far (p := ⟨gb105, 2, none⟩) (by first | (rw [add_block]; exact hn109_2) | (show (Addr.add _ _).block ≠ _; rw [add_block]; exact hn109_2) | exact hn109_2) (.int .i64 ((rd_T23 t101 x8_1).f2))).trans hx109_3; replace hx109_0 := (cell_far (p := ⟨gb105, 3, none⟩) (by first | (rw [add_block]; exact hn109_3) | (show (Addr.add _ _).block ≠ _; rw [add_block]; exact hn109_3) | exact hn109_3) (.int .i64 ((rd_T23 t101 x8_1).f3))).trans hx109_0; replace hx109_1 := (cell_far (p := ⟨gb105, 3, none⟩) (by first | (rw [add_block]; exact hn109_3) | (show (Addr.add _ _).block ≠ _; rw [add_block]; exact hn109_3) | exact hn109_3) (.int .i64 ((rd_T23 t101 x8_1).f3))).trans hx109_1; replace hx109_2 := (cell_far (p := ⟨gb105, 3, none⟩) (by first | (rw [add_block]; exact hn109_3) | (show (Addr.add _ _).block ≠ _; rw [add_block]; exact hn109_3) | exact hn109_3) (.int .i64 ((rd_T23 t101 x8_1).f3))).trans hx109_2; replace hx109_3 := (cell_far (p := ⟨gb105, 3, none⟩) (by first | (rw [add_block]; exact hn109_3) | (show (Addr.add _ _).block ≠ _; rw [add_block]; exact hn109_3) | exact hn109_3) (.int .i64 ((rd_T23 t101 x8_1).f3))).trans hx109_3; (try have hy109_0 := fun (n_ : Nat) => (show ((((((w23.drewN n_).setCell ⟨gb105, 0, none⟩ (.string ((rd_T23 t101 x8_1).f0))).setCell ⟨gb105, 1, none⟩ (.int .i64 ((rd_T23 t101 x8_1).f1))).setCell ⟨gb105, 2, none⟩ (.int .i64 ((rd_T23 t101 x8_1).f2))).setCell ⟨gb105, 3, none⟩ (.int .i64 ((rd_T23 t101 x8_1).f3)))).cell? _ = some _ from hx109_0)); (try have hy109_1 := fun (n_ : Nat) => (show ((((((w23.drewN n_).setCell ⟨gb105, 0, none⟩ (.string ((rd_T23 t101 x8_1).f0))).setCell ⟨gb105, 1, none⟩ (.int .i64 ((rd_T23 t101 x8_1).f1))).setCell ⟨gb105, 2, none⟩ (.int .i64 ((rd_T23 t101 x8_1).f2))).setCell ⟨gb105, 3, none⟩ (.int .i64 ((rd_T23 t101 x8_1).f3)))).cell? _ = some _ from hx109_1)); (try have hy109_2 := fun (n_ : Nat) => (show ((((((w23.drewN n_).setCell ⟨gb105, 0, none⟩ (.string ((rd_T23 t101 x8_1).f0))).setCell ⟨gb105, 1, none⟩ (.int .i64 ((rd_T23 t101 x8_1).f1))).setCell ⟨gb105, 2, none⟩ (.int .i64 ((rd_T23 t101 x8_1).f2))).setCell ⟨gb105, 3, none⟩ (.int .i64 ((rd_T23 t101 x8_1).f3)))).cell? _ = some _ from hx109_2)); (try have hy109_3 := fun (n_ : Nat) => (show ((((((w23.drewN n_).setCell ⟨gb105, 0, none⟩ (.string ((rd_T23 t101 x8_1).f0))).setCell ⟨gb105, 1, none⟩ (.int .i64 ((rd_T23 t101 x8_1).f1))).setCell ⟨gb105, 2, none⟩ (.int .i64 ((rd_T23 t101 x8_1).f2))).setCell ⟨gb105, 3, none⟩ (.int .i64 ((rd_T23 t101 x8_1).f3)))).cell? _ = some _ from hx109_3)); clear hn109_0; clear hn109_1; clear hn109_2; clear hn109_3; replace p109 := eq_true p109; replace q109 := eq_true q109)))
                    go_roundg k1
                    case measure => have := HK1.out; omega
                    case rel => exact ⟨(x2_1), (wrap64 (x8_1 + 1)), (by first | rfl | (simp; done) | (simp [*]; done)), H', ⟨by have := HK1.out; omega⟩, ⟨by (with_reducible repeat (first | apply Kd.R_alloc | apply Kd.R_drewN | apply Kd.R_drew)); exact Kd.R_mono (Kd.R_far (p := ⟨gb105, 3, none⟩) (Kd.R_far (p := ⟨gb105, 2, none⟩) (Kd.R_far (p := ⟨gb105, 1, none⟩) (Kd.R_far (p := ⟨gb105, 0, none⟩) (Kd.R_mono HO_2.out (fun k_ hk => (⟨hk, hk.2⟩ : _ ∧ k_ ≠ gb105))) (fun _ hk => hk.2) (.string ((rd_T23 t101 x8_1).f0))) (fun _ hk => hk.2) (.int .i64 ((rd_T23 t101 x8_1).f1))) (fun _ hk => hk.2) (.int .i64 ((rd_T23 t101 x8_1).f2))) (fun _ hk => hk.2) (.int .i64 ((rd_T23 t101 x8_1).f3))) (fun _ hk => hk.1.1)⟩, ⟨by (with_reducible repeat (first | apply Kd.R_alloc | apply Kd.R_drewN | apply Kd.R_drew)); exact Kd.R_mono (Kd.R_far (p := ⟨gb105, 3, none⟩) (Kd.R_far (p := ⟨gb105, 2, none⟩) (Kd.R_far (p := ⟨gb105, 1, none⟩) (Kd.R_far (p := ⟨gb105, 0, none⟩) (Kd.R_mono HO_6.out (fun k_ hk => (⟨hk, hk.2⟩ : _ ∧ k_ ≠ gb105))) (fun _ hk => hk.2) (.string ((rd_T23 t101 x8_1).f0))) (fun _ hk => hk.2) (.int .i64 ((rd_T23 t101 x8_1).f1))) (fun _ hk => hk.2) (.int .i64 ((rd_T23 t101 x8_1).f2))) (fun _ hk => hk.2) (.int .i64 ((rd_T23 t101 x8_1).f3))) (fun _ hk => hk.1.1)⟩, ⟨by repeat (first | (with_reducible first | exact HB.out | apply below_alloc | apply pw_below_drewN | apply below_drew1 | refine below_set ?_ GE105.out) | exact HB.out)⟩⟩
                · rw [if_neg c16] at H
                  exact absurd H (by simp)
              · rw [if_neg c15] at H
                exact absurd H (by simp)
          · rw [if_neg c7] at H
            exact absurd H (by simp)
        · rw [if_neg c6] at H
          exact absurd H (by simp)
      · rw [if_neg c5] at H
        have c5b0 : decide (x8_1 < (t101.length : Int)) = false := decide_eq_false c5
        clear c5
        obtain rfl := Option.some.inj H
        go_wp2
        repeat (go_quiet (fail); try go_wp2)
        go_ret
        exact ⟨_, by first | rfl | (simp [errW_none, errW_some] <;> rfl) | (simp [*, errW_none, errW_some] <;> rfl), by (with_reducible repeat (first | apply Kd.R_alloc | apply Kd.R_drewN | apply Kd.R_drew)); exact Kd.R_mono HO_2.out (fun _ hk => trivial), by repeat (first | (with_reducible first | exact HB.out | apply below_alloc | apply pw_below_drewN | apply below_drew1) | exact HB.out)⟩
end Go.Proofs.YtieifncibojciaaDoor.X
end
