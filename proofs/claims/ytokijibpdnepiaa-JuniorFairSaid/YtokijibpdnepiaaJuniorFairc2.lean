/- For JuniorFair: contracts, and facts on lists and numbers, that it uses (part 2). -/
import Derived.Deep.CutRange
import Derived.Test.YtokijibpdnepiaaJuniorFairc1
section
namespace Go.Proofs.Ytokijibpdnepiaa.X
open Go.RowKit Go.Proofs.YtokijibpdnepiaaW.PrintWords Go.Proofs.YtokijibpdnepiaaW.PrintLast Go.Proofs.YtokijibpdnepiaaW.PrintMore
attribute [local go_sem] max2_int min2_int max_two min_two max_three min_three max_four min_four
set_option linter.unusedVariables false
set_option linter.unusedSimpArgs false
set_option maxHeartbeats 8000000 in
set_option maxRecDepth 100000 in
theorem sym_one (g c N : Nat) (w0 : World) (I : World → Prop) (Q : Int → Prop) (lt : Int → Int → Bool) (caps : Array Value) (hI : Stays g I) (hC : Cmp caps I Q lt) (hN2 : N ≤ 4611686018427387903) (f : Nat) (a m b : Nat) (xs0 : List Int) (w : World) (h : SS g c N w0 I Q w xs0) (ham : a < m) (hmb : m < b) (hbN : b ≤ N) (hf : b - a ≤ f + 1) (c1 : m - a = 1) :
    Calls Try.prog 122 #[.slice (some ⟨g, 0, none⟩) N c, .int .i64 (a : Int), .int .i64 (m : Int), .int .i64 (b : Int), .func (.func 72) #[] caps] w fun e w' => (∃ r, e = .returned r) ∧ SS g c N w0 I Q w' (Srt.symF (0 : Int) lt (f + 1) a m b xs0) := by
  have HS := Aside0.mk h
  have HC := Aside0.mk hC
  clear h hC
  obtain ⟨st, hst⟩ : ∃ st, Srt.bs (fun h => lt (Srt.g (0 : Int) xs0 h) (Srt.g (0 : Int) xs0 a)) (b - m) m b = st := ⟨_, rfl⟩
  have hF : Srt.symF (0 : Int) lt (f + 1) a m b xs0 = Srt.up (0 : Int) (st - 1 - a) a xs0 := by
    rw [Srt.symF, if_pos c1]
    dsimp only
    rw [hst]
  obtain ⟨s1, hs1⟩ : ∃ s1, st - 1 = s1 := ⟨_, rfl⟩
  rw [hF, hs1]
  have HST := Aside0.mk hst
  have HS1 := Aside0.mk hs1
  clear hs1
  have hc1 : (m : Int) - (a : Int) = 1 := by omega
  clear hst hF
  go_enter Try.func122, Try.ntmps122
  go_wp2_with fail
  go_loopg [10, 11] (b - m) (fun kq v10 v11 wr => ∃ lo hi : Nat, v10 = .int .i64 (lo : Int) ∧ v11 = .int .i64 (hi : Int) ∧ Aside0 (m ≤ lo ∧ lo ≤ hi ∧ hi ≤ b ∧ hi - lo ≤ kq) ∧ Aside0 (Srt.bs (fun h => lt (Srt.g (0 : Int) xs0 h) (Srt.g (0 : Int) xs0 a)) kq lo hi = st) ∧ Aside0 (SS g c N w0 I Q wr xs0))
  case atStart => exact ⟨m, b, rfl, rfl, ⟨by omega, by omega, by omega, by omega⟩, HST, HS⟩
  case round =>
    obtain ⟨lo, hi, rfl, rfl, HK, HF, HW⟩ := hrel
    obtain ⟨k1, k2, k3, k4⟩ := HK.out
    by_cases hlt : lo < hi
    · obtain ⟨k', rfl⟩ : ∃ k', gk = k' + 1 := ⟨gk - 1, by omega⟩
      obtain ⟨mid, hm⟩ : ∃ mid, (lo + hi) / 2 = mid := ⟨_, rfl⟩
      have hg := HF.out
      rw [bs_step _ _ _ _ _ hlt hm] at hg
      have hi1 : mid < N := by omega
      have hi2 : a < N := by omega
      have hq1 := HW.out.qg mid hi1
      have HQ1 := Aside0.mk hq1
      clear hq1
      have hx := HW.out.cell mid hi1
      have hb0 := eq_true (show 0 ≤ (mid : Int) by omega)
      have hb1 := eq_true (show (mid : Int) < (N : Int) by omega)
      have hq2 := HW.out.qg a hi2
      have HQ2 := Aside0.mk hq2
      clear hq2
      have hy := HW.out.cell a hi2
      have hb2 := eq_true (show 0 ≤ (a : Int) by omega)
      have hb3 := eq_true (show (a : Int) < (N : Int) by omega)
      have hmd : ((lo : Int) + (hi : Int)) / 2 = (mid : Int) := by omega
      have b5 : lo ≤ mid := by omega
      have b6 : mid < hi := by omega
      cases hlt2 : lt (Srt.g (0 : Int) xs0 mid) (Srt.g (0 : Int) xs0 a) with
      | true =>
        rw [hlt2, if_pos rfl] at hg
        have HG := Aside0.mk hg
        have HLT := Aside0.mk hlt2
        have HM := Aside0.mk hm
        clear hg hlt2 hm
        go_wp2_with fail
        refine start_ (n := 11) (S := fun w' => w'.cell? ⟨g, mid, none⟩ = some (.int .i64 (Srt.g 0 xs0 (mid))) ∧ w'.cell? ⟨g, a, none⟩ = some (.int .i64 (Srt.g 0 xs0 (a)))) (ds := [9]) #[false, false, false, false, false, false, false, false, false, false, false] (by kernel_rfl) rfl rfl ⟨hx, hy⟩ (fun hHeld => ?_)
        obtain ⟨E, hE⟩ : ∃ E, wr.drew = E := ⟨_, rfl⟩
        have HSE := Aside0.mk (show SS g c N w0 I Q E xs0 by rw [← hE]; exact HW.out.step hI (below_drew1 (Below.refl _ _)))
        rw [hE] at hHeld ⊢
        clear hE
        refine pure_ (i := 0) (N := some 40) (v := ?_) (a' := ?_) #[true, false, false, false, false, false, false, false, false, false, false] rfl rfl (by kernel_rfl) (fun _ _ _ h => h) (Or.inl ⟨by rfl, ?_⟩) ?_ ?_
        rotate_left
        · intro w'
          go_simp
          with_reducible rfl
        rotate_left
        · simp only [Act.put, List.setIfInBounds_toArray, List.set_cons_zero, List.set_cons_succ, i64_w, i32_w]
          rfl
        refine pure_ (i := 1) (N := some 41) (v := ?_) (a' := ?_) #[true, true, false, false, false, false, false, false, false, false, false] rfl rfl (by kernel_rfl) (fun _ _ _ h => h) (Or.inl ⟨by rfl, ?_⟩) ?_ ?_
        rotate_left
        · intro w'
          go_simp
          with_reducible rfl
        rotate_left
        · simp only [Act.put, List.setIfInBounds_toArray, List.set_cons_zero, List.set_cons_succ, i64_w, i32_w]
          rfl
        refine pure_ (i := 2) (N := some 42) (v := ?_) (a' := ?_) #[true, true, true, false, false, false, false, false, false, false, false] rfl rfl (by kernel_rfl) (fun _ _ _ h => h) (Or.inl ⟨by rfl, ?_⟩) ?_ ?_
        rotate_left
        · intro w'
          go_simp
          with_reducible rfl
        rotate_left
        · simp only [Act.put, List.setIfInBounds_toArray, List.set_cons_zero, List.set_cons_succ, i64_w, i32_w]
          rfl
        refine pure_ (i := 3) (N := some 43) (v := ?_) (a' := ?_) #[true, true, true, true, false, false, false, false, false, false, false] rfl rfl (by kernel_rfl) (fun _ _ _ h => h) (Or.inl ⟨by rfl, ?_⟩) ?_ ?_
        rotate_left
        · intro w'
          go_simp
          with_reducible rfl
        rotate_left
        · simp only [Act.put, List.setIfInBounds_toArray, List.set_cons_zero, List.set_cons_succ, i64_w, i32_w]
          rfl
        refine take_ (i := 4) (N := some 44) (v := ?_) (a' := ?_) #[true, true, true, true, true, false, false, false, false, false, false] rfl rfl (by kernel_rfl) (fun _ _ _ h => h) (Or.inl ⟨by rfl, ?_⟩) hHeld ?_ ?_
        rotate_left
        · rintro w' ⟨s0, s1⟩
          go_simp
          with_reducible rfl
        rotate_left
        · simp only [Act.put, List.setIfInBounds_toArray, List.set_cons_zero, List.set_cons_succ, i64_w, i32_w]
          rfl
        refine pure_ (i := 5) (N := some 45) (v := ?_) (a' := ?_) #[true, true, true, true, true, true, false, false, false, false, false] rfl rfl (by kernel_rfl) (fun _ _ _ h => h) (Or.inl ⟨by rfl, ?_⟩) ?_ ?_
        rotate_left
        · intro w'
          go_simp
          with_reducible rfl
        rotate_left
        · simp only [Act.put, List.setIfInBounds_toArray, List.set_cons_zero, List.set_cons_succ, i64_w, i32_w]
          rfl
        refine pure_ (i := 6) (N := some 46) (v := ?_) (a' := ?_) #[true, true, true, true, true, true, true, false, false, false, false] rfl rfl (by kernel_rfl) (fun _ _ _ h => h) (Or.inl ⟨by rfl, ?_⟩) ?_ ?_
        rotate_left
        · intro w'
          go_simp
          with_reducible rfl
        rotate_left
        · simp only [Act.put, List.setIfInBounds_toArray, List.set_cons_zero, List.set_cons_succ, i64_w, i32_w]
          rfl
        refine pure_ (i := 7) (N := some 47) (v := ?_) (a' := ?_) #[true, true, true, true, true, true, true, true, false, false, false] rfl rfl (by kernel_rfl) (fun _ _ _ h => h) (Or.inl ⟨by rfl, ?_⟩) ?_ ?_
        rotate_left
        · intro w'
          go_simp
          with_reducible rfl
        rotate_left
        · simp only [Act.put, List.setIfInBounds_toArray, List.set_cons_zero, List.set_cons_succ, i64_w, i32_w]
          rfl
        refine take_ (i := 8) (N := some 48) (v := ?_) (a' := ?_) #[true, true, true, true, true, true, true, true, true, false, false] rfl rfl (by kernel_rfl) (fun _ _ _ h => h) (Or.inl ⟨by rfl, ?_⟩) hHeld ?_ ?_
        rotate_left
        · rintro w' ⟨s0, s1⟩
          go_simp
          with_reducible rfl
        rotate_left
        · simp only [Act.put, List.setIfInBounds_toArray, List.set_cons_zero, List.set_cons_succ, i64_w, i32_w]
          rfl
        refine last_ (i := 9) (N := some 49) #[true, true, true, true, true, true, true, true, true, true, false] rfl rfl (by kernel_rfl) (by decide) (fun K hK => ?_)
        refine goesC_ (caps := caps) Try.func72 (by kernel_rfl) rfl #[.int .i64 (Srt.g (0 : Int) xs0 mid), .int .i64 (Srt.g (0 : Int) xs0 a)] (by rfl) rfl rfl rfl (by (try simp only [List.map_toArray, List.map_cons, List.map_nil]); first | done | rfl) ?_
        refine (HC.out _ _ _ HQ1.out HQ2.out HSE.out.inv).mono ?_
        rintro e w3 ⟨v, rfl, hv, hb3⟩
        rw [HLT.out] at hv
        refine ⟨_, rfl, ?_⟩
        have HS3 := Aside0.mk (HSE.out.step hI hb3)
        refine hK.out _ _ ?_
        clear hK K hb3
        refine norm_ (a' := ?_) ?_ ?_
        rotate_left
        · show Act.put _ (some 49) _ = _
          simp only [Act.put, List.setIfInBounds_toArray, List.set_cons_zero, List.set_cons_succ, i64_w, i32_w]
          rfl
        refine pure_ (i := 10) (N := some 50) (v := ?_) (a' := ?_) #[true, true, true, true, true, true, true, true, true, true, true] rfl rfl (by kernel_rfl) (fun _ _ _ h => h) (Or.inl ⟨by rfl, ?_⟩) ?_ ?_
        rotate_left
        · intro w'
          go_simp
          with_reducible rfl
        rotate_left
        · simp only [Act.put, List.setIfInBounds_toArray, List.set_cons_zero, List.set_cons_succ, i64_w, i32_w]
          rfl
        refine done_ (by kernel_rfl) ?_
        clear hHeld hx hy
        go_wp2
        go_roundg k'
        case measure => omega
        case rel => exact ⟨mid + 1, hi, by go_num, rfl, ⟨by omega, by omega, by omega, by omega⟩, HG, HS3⟩
      | false =>
        rw [hlt2, if_neg (by decide)] at hg
        have HG := Aside0.mk hg
        have HLT := Aside0.mk hlt2
        have HM := Aside0.mk hm
        clear hg hlt2 hm
        go_wp2_with fail
        refine start_ (n := 11) (S := fun w' => w'.cell? ⟨g, mid, none⟩ = some (.int .i64 (Srt.g 0 xs0 (mid))) ∧ w'.cell? ⟨g, a, none⟩ = some (.int .i64 (Srt.g 0 xs0 (a)))) (ds := [9]) #[false, false, false, false, false, false, false, false, false, false, false] (by kernel_rfl) rfl rfl ⟨hx, hy⟩ (fun hHeld => ?_)
        obtain ⟨E, hE⟩ : ∃ E, wr.drew = E := ⟨_, rfl⟩
        have HSE := Aside0.mk (show SS g c N w0 I Q E xs0 by rw [← hE]; exact HW.out.step hI (below_drew1 (Below.refl _ _)))
        rw [hE] at hHeld ⊢
        clear hE
        refine pure_ (i := 0) (N := some 40) (v := ?_) (a' := ?_) #[true, false, false, false, false, false, false, false, false, false, false] rfl rfl (by kernel_rfl) (fun _ _ _ h => h) (Or.inl ⟨by rfl, ?_⟩) ?_ ?_
        rotate_left
        · intro w'
          go_simp
          with_reducible rfl
        rotate_left
        · simp only [Act.put, List.setIfInBounds_toArray, List.set_cons_zero, List.set_cons_succ, i64_w, i32_w]
          rfl
        refine pure_ (i := 1) (N := some 41) (v := ?_) (a' := ?_) #[true, true, false, false, false, false, false, false, false, false, false] rfl rfl (by kernel_rfl) (fun _ _ _ h => h) (Or.inl ⟨by rfl, ?_⟩) ?_ ?_
        rotate_left
        · intro w'
          go_simp
          with_reducible rfl
        rotate_left
        · simp only [Act.put, List.setIfInBounds_toArray, List.set_cons_zero, List.set_cons_succ, i64_w, i32_w]
          rfl
        refine pure_ (i := 2) (N := some 42) (v := ?_) (a' := ?_) #[true, true, true, false, false, false, false, false, false, false, false] rfl rfl (by kernel_rfl) (fun _ _ _ h => h) (Or.inl ⟨by rfl, ?_⟩) ?_ ?_
        rotate_left
        · intro w'
          go_simp
          with_reducible rfl
        rotate_left
        · simp only [Act.put, List.setIfInBounds_toArray, List.set_cons_zero, List.set_cons_succ, i64_w, i32_w]
          rfl
        refine pure_ (i := 3) (N := some 43) (v := ?_) (a' := ?_) #[true, true, true, true, false, false, false, false, false, false, false] rfl rfl (by kernel_rfl) (fun _ _ _ h => h) (Or.inl ⟨by rfl, ?_⟩) ?_ ?_
        rotate_left
        · intro w'
          go_simp
          with_reducible rfl
        rotate_left
        · simp only [Act.put, List.setIfInBounds_toArray, List.set_cons_zero, List.set_cons_succ, i64_w, i32_w]
          rfl
        refine take_ (i := 4) (N := some 44) (v := ?_) (a' := ?_) #[true, true, true, true, true, false, false, false, false, false, false] rfl rfl (by kernel_rfl) (fun _ _ _ h => h) (Or.inl ⟨by rfl, ?_⟩) hHeld ?_ ?_
        rotate_left
        · rintro w' ⟨s0, s1⟩
          go_simp
          with_reducible rfl
        rotate_left
        · simp only [Act.put, List.setIfInBounds_toArray, List.set_cons_zero, List.set_cons_succ, i64_w, i32_w]
          rfl
        refine pure_ (i := 5) (N := some 45) (v := ?_) (a' := ?_) #[true, true, true, true, true, true, false, false, false, false, false] rfl rfl (by kernel_rfl) (fun _ _ _ h => h) (Or.inl ⟨by rfl, ?_⟩) ?_ ?_
        rotate_left
        · intro w'
          go_simp
          with_reducible rfl
        rotate_left
        · simp only [Act.put, List.setIfInBounds_toArray, List.set_cons_zero, List.set_cons_succ, i64_w, i32_w]
          rfl
        refine pure_ (i := 6) (N := some 46) (v := ?_) (a' := ?_) #[true, true, true, true, true, true, true, false, false, false, false] rfl rfl (by kernel_rfl) (fun _ _ _ h => h) (Or.inl ⟨by rfl, ?_⟩) ?_ ?_
        rotate_left
        · intro w'
          go_simp
          with_reducible rfl
        rotate_left
        · simp only [Act.put, List.setIfInBounds_toArray, List.set_cons_zero, List.set_cons_succ, i64_w, i32_w]
          rfl
        refine pure_ (i := 7) (N := some 47) (v := ?_) (a' := ?_) #[true, true, true, true, true, true, true, true, false, false, false] rfl rfl (by kernel_rfl) (fun _ _ _ h => h) (Or.inl ⟨by rfl, ?_⟩) ?_ ?_
        rotate_left
        · intro w'
          go_simp
          with_reducible rfl
        rotate_left
        · simp only [Act.put, List.setIfInBounds_toArray, List.set_cons_zero, List.set_cons_succ, i64_w, i32_w]
          rfl
        refine take_ (i := 8) (N := some 48) (v := ?_) (a' := ?_) #[true, true, true, true, true, true, true, true, true, false, false] rfl rfl (by kernel_rfl) (fun _ _ _ h => h) (Or.inl ⟨by rfl, ?_⟩) hHeld ?_ ?_
        rotate_left
        · rintro w' ⟨s0, s1⟩
          go_simp
          with_reducible rfl
        rotate_left
        · simp only [Act.put, List.setIfInBounds_toArray, List.set_cons_zero, List.set_cons_succ, i64_w, i32_w]
          rfl
        refine last_ (i := 9) (N := some 49) #[true, true, true, true, true, true, true, true, true, true, false] rfl rfl (by kernel_rfl) (by decide) (fun K hK => ?_)
        refine goesC_ (caps := caps) Try.func72 (by kernel_rfl) rfl #[.int .i64 (Srt.g (0 : Int) xs0 mid), .int .i64 (Srt.g (0 : Int) xs0 a)] (by rfl) rfl rfl rfl (by (try simp only [List.map_toArray, List.map_cons, List.map_nil]); first | done | rfl) ?_
        refine (HC.out _ _ _ HQ1.out HQ2.out HSE.out.inv).mono ?_
        rintro e w3 ⟨v, rfl, hv, hb3⟩
        rw [HLT.out] at hv
        refine ⟨_, rfl, ?_⟩
        have HS3 := Aside0.mk (HSE.out.step hI hb3)
        refine hK.out _ _ ?_
        clear hK K hb3
        refine norm_ (a' := ?_) ?_ ?_
        rotate_left
        · show Act.put _ (some 49) _ = _
          simp only [Act.put, List.setIfInBounds_toArray, List.set_cons_zero, List.set_cons_succ, i64_w, i32_w]
          rfl
        refine pure_ (i := 10) (N := some 50) (v := ?_) (a' := ?_) #[true, true, true, true, true, true, true, true, true, true, true] rfl rfl (by kernel_rfl) (fun _ _ _ h => h) (Or.inl ⟨by rfl, ?_⟩) ?_ ?_
        rotate_left
        · intro w'
          go_simp
          with_reducible rfl
        rotate_left
        · simp only [Act.put, List.setIfInBounds_toArray, List.set_cons_zero, List.set_cons_succ, i64_w, i32_w]
          rfl
        refine done_ (by kernel_rfl) ?_
        clear hHeld hx hy
        go_wp2
        go_roundg k'
        case measure => omega
        case rel => exact ⟨lo, mid, rfl, by go_num, ⟨by omega, by omega, by omega, by omega⟩, HG, HS3⟩
    · have hg := HF.out
      rw [bs_end _ _ _ _ hlt] at hg
      subst hg
      have hs1' : (lo : Int) - 1 = (s1 : Int) := by have := HS1.out; omega
      go_wp2_with fail
      go_loopg [13] (s1 - a) (fun kq v13 wr => ∃ (k : Nat) (ys : List Int), v13 = .int .i64 (k : Int) ∧ Aside0 (a ≤ k ∧ kq + k = a + (s1 - a)) ∧ Aside0 (Srt.up (0 : Int) kq k ys = Srt.up (0 : Int) (s1 - a) a xs0) ∧ Aside0 (SS g c N w0 I Q wr ys))
      case atStart => exact ⟨a, xs0, rfl, ⟨by omega, by omega⟩, ⟨rfl⟩, HW⟩
      case round =>
        obtain ⟨k, ys, rfl, HJ, HFi, HWi⟩ := hrel
        obtain ⟨j1, j2⟩ := HJ.out
        have j3 := HS1.out
        by_cases hks : k < s1
        · obtain ⟨k', rfl⟩ : ∃ k', gk = k' + 1 := ⟨gk - 1, by omega⟩
          have hg : Srt.up (0 : Int) k' (k + 1) (Srt.sw (0 : Int) ys k (k + 1)) = Srt.up (0 : Int) (s1 - a) a xs0 := HFi.out
          have HG := Aside0.mk hg
          have hi1 : k < N := by omega
          have hi2 : k + 1 < N := by omega
          clear hg j3
          have hx := HWi.out.cell (k) hi1
          have hy := HWi.out.cell (k + 1) hi2
          have HD := HWi.out.step hI (below_drew1 (Below.refl _ _))
          have H1 := (HWi.out.set1 hI (k) hi1 _ (HWi.out.qg (k + 1) hi2)).step hI (below_drew1 (Below.refl _ _))
          have hd1 := HD.cell (k) hi1
          have hd2 := HD.cell (k + 1) hi2
          have hf1 := fun q_ => HD.frozen (k) q_ hi1
          have hz := H1.cell (k + 1) hi2
          have hf2 := fun q_ => H1.frozen (k) q_ hi1
          have HX := Aside0.mk ((HWi.out.swap hI (k) (k + 1) hi1 hi2).step hI (below_drew1 (Below.refl _ _)))
          clear HD H1
          go_wp2_with fail
          go_region
          obtain ⟨X, hX⟩ : ∃ X, (((wr).setCell ⟨g, k, none⟩ (.int .i64 (Srt.g (0 : Int) ys (k + 1)))).setCell ⟨g, k + 1, none⟩ (.int .i64 (Srt.g (0 : Int) ys (k)))).drew = X := ⟨_, rfl⟩
          rw [hX] at HX ⊢
          clear hX hx hy hd1 hd2 hf1 hz hf2
          go_wp2
          go_roundg k'
          case measure => omega
          case rel => exact ⟨k + 1, _, by go_num, ⟨by omega, by omega⟩, HG, HX⟩
        · obtain rfl : gk = 0 := by omega
          have hg : ys = Srt.up (0 : Int) (s1 - a) a xs0 := HFi.out
          have HG := Aside0.mk hg
          clear hg j3
          go_wp2_with fail
          refine bodyPost_ret (v := .tuple #[]) (by simp [results, Try.results122, go_sem]) rfl ⟨⟨_, rfl⟩, ?_⟩
          rw [← HG.out]; exact HWi.out
end Go.Proofs.Ytokijibpdnepiaa.X
end
section
namespace Go.Proofs.Ytokijibpdnepiaa.X
open Go.RowKit Go.Proofs.YtokijibpdnepiaaW.PrintWords Go.Proofs.YtokijibpdnepiaaW.PrintLast Go.Proofs.YtokijibpdnepiaaW.PrintMore
attribute [local go_sem] max2_int min2_int max_two min_two max_three min_three max_four min_four
set_option linter.unusedVariables false
set_option linter.unusedSimpArgs false
set_option maxHeartbeats 8000000 in
set_option maxRecDepth 100000 in
theorem sym_last (g c N : Nat) (w0 : World) (I : World → Prop) (Q : Int → Prop) (lt : Int → Int → Bool) (caps : Array Value) (hI : Stays g I) (hC : Cmp caps I Q lt) (hN2 : N ≤ 4611686018427387903) (f : Nat) (a m b : Nat) (xs0 : List Int) (w : World) (h : SS g c N w0 I Q w xs0) (ham : a < m) (hmb : m < b) (hbN : b ≤ N) (hf : b - a ≤ f + 1) (c1 : ¬ m - a = 1) (c2 : b - m = 1) :
    Calls Try.prog 122 #[.slice (some ⟨g, 0, none⟩) N c, .int .i64 (a : Int), .int .i64 (m : Int), .int .i64 (b : Int), .func (.func 72) #[] caps] w fun e w' => (∃ r, e = .returned r) ∧ SS g c N w0 I Q w' (Srt.symF (0 : Int) lt (f + 1) a m b xs0) := by
  have HS := Aside0.mk h
  have HC := Aside0.mk hC
  clear h hC
  obtain ⟨dm, hdm⟩ : ∃ dm, m - a = dm := ⟨_, rfl⟩
  have hdm' : (m : Int) - (a : Int) = (dm : Int) := by omega
  have hdn : ¬ ((dm : Int) = 1) := by omega
  have hdnb : ((dm : Int) == 1) = false := beq_eq_false_iff_ne.2 hdn
  have HDM := Aside0.mk hdm
  clear hdm
  obtain ⟨st, hst⟩ : ∃ st, Srt.bs (fun h => !lt (Srt.g (0 : Int) xs0 m) (Srt.g (0 : Int) xs0 h)) (m - a) a m = st := ⟨_, rfl⟩
  have hF : Srt.symF (0 : Int) lt (f + 1) a m b xs0 = Srt.dn (0 : Int) st m xs0 := by
    rw [Srt.symF, if_neg c1, if_pos c2]
    dsimp only
    rw [hst]
  rw [hF]
  have HST := Aside0.mk hst
  have hc2 : (b : Int) - (m : Int) = 1 := by omega
  clear hst hF
  go_enter Try.func122, Try.ntmps122
  go_wp2_with fail
  go_loopg [14, 15] (m - a) (fun kq v14 v15 wr => ∃ lo hi : Nat, v14 = .int .i64 (lo : Int) ∧ v15 = .int .i64 (hi : Int) ∧ Aside0 (a ≤ lo ∧ lo ≤ hi ∧ hi ≤ m ∧ hi - lo ≤ kq) ∧ Aside0 (Srt.bs (fun h => !lt (Srt.g (0 : Int) xs0 m) (Srt.g (0 : Int) xs0 h)) kq lo hi = st) ∧ Aside0 (SS g c N w0 I Q wr xs0))
  case atStart => exact ⟨a, m, rfl, rfl, ⟨by omega, by omega, by omega, by omega⟩, HST, HS⟩
  case round =>
    obtain ⟨lo, hi, rfl, rfl, HK, HF, HW⟩ := hrel
    obtain ⟨k1, k2, k3, k4⟩ := HK.out
    by_cases hlt : lo < hi
    · obtain ⟨k', rfl⟩ : ∃ k', gk = k' + 1 := ⟨gk - 1, by omega⟩
      obtain ⟨mid, hm⟩ : ∃ mid, (lo + hi) / 2 = mid := ⟨_, rfl⟩
      have hg := HF.out
      rw [bs_step _ _ _ _ _ hlt hm] at hg
      have hi1 : m < N := by omega
      have hi2 : mid < N := by omega
      have hq1 := HW.out.qg m hi1
      have HQ1 := Aside0.mk hq1
      clear hq1
      have hx := HW.out.cell m hi1
      have hb0 := eq_true (show 0 ≤ (m : Int) by omega)
      have hb1 := eq_true (show (m : Int) < (N : Int) by omega)
      have hq2 := HW.out.qg mid hi2
      have HQ2 := Aside0.mk hq2
      clear hq2
      have hy := HW.out.cell mid hi2
      have hb2 := eq_true (show 0 ≤ (mid : Int) by omega)
      have hb3 := eq_true (show (mid : Int) < (N : Int) by omega)
      have hmd : ((lo : Int) + (hi : Int)) / 2 = (mid : Int) := by omega
      have b5 : lo ≤ mid := by omega
      have b6 : mid < hi := by omega
      cases hlt2 : lt (Srt.g (0 : Int) xs0 m) (Srt.g (0 : Int) xs0 mid) with
      | true =>
        rw [hlt2, Bool.not_true, if_neg (by decide)] at hg
        have HG := Aside0.mk hg
        have HLT := Aside0.mk hlt2
        have HM := Aside0.mk hm
        clear hg hlt2 hm
        go_wp2_with fail
        refine start_ (n := 12) (S := fun w' => w'.cell? ⟨g, m, none⟩ = some (.int .i64 (Srt.g 0 xs0 (m))) ∧ w'.cell? ⟨g, mid, none⟩ = some (.int .i64 (Srt.g 0 xs0 (mid)))) (ds := [9]) #[false, false, false, false, false, false, false, false, false, false, false, false] (by kernel_rfl) rfl rfl ⟨hx, hy⟩ (fun hHeld => ?_)
        obtain ⟨E, hE⟩ : ∃ E, wr.drew = E := ⟨_, rfl⟩
        have HSE := Aside0.mk (show SS g c N w0 I Q E xs0 by rw [← hE]; exact HW.out.step hI (below_drew1 (Below.refl _ _)))
        rw [hE] at hHeld ⊢
        clear hE
        refine pure_ (i := 0) (N := some 92) (v := ?_) (a' := ?_) #[true, false, false, false, false, false, false, false, false, false, false, false] rfl rfl (by kernel_rfl) (fun _ _ _ h => h) (Or.inl ⟨by rfl, ?_⟩) ?_ ?_
        rotate_left
        · intro w'
          go_simp
          with_reducible rfl
        rotate_left
        · simp only [Act.put, List.setIfInBounds_toArray, List.set_cons_zero, List.set_cons_succ, i64_w, i32_w]
          rfl
        refine pure_ (i := 1) (N := some 93) (v := ?_) (a' := ?_) #[true, true, false, false, false, false, false, false, false, false, false, false] rfl rfl (by kernel_rfl) (fun _ _ _ h => h) (Or.inl ⟨by rfl, ?_⟩) ?_ ?_
        rotate_left
        · intro w'
          go_simp
          with_reducible rfl
        rotate_left
        · simp only [Act.put, List.setIfInBounds_toArray, List.set_cons_zero, List.set_cons_succ, i64_w, i32_w]
          rfl
        refine pure_ (i := 2) (N := some 94) (v := ?_) (a' := ?_) #[true, true, true, false, false, false, false, false, false, false, false, false] rfl rfl (by kernel_rfl) (fun _ _ _ h => h) (Or.inl ⟨by rfl, ?_⟩) ?_ ?_
        rotate_left
        · intro w'
          go_simp
          with_reducible rfl
        rotate_left
        · simp only [Act.put, List.setIfInBounds_toArray, List.set_cons_zero, List.set_cons_succ, i64_w, i32_w]
          rfl
        refine pure_ (i := 3) (N := some 95) (v := ?_) (a' := ?_) #[true, true, true, true, false, false, false, false, false, false, false, false] rfl rfl (by kernel_rfl) (fun _ _ _ h => h) (Or.inl ⟨by rfl, ?_⟩) ?_ ?_
        rotate_left
        · intro w'
          go_simp
          with_reducible rfl
        rotate_left
        · simp only [Act.put, List.setIfInBounds_toArray, List.set_cons_zero, List.set_cons_succ, i64_w, i32_w]
          rfl
        refine take_ (i := 4) (N := some 96) (v := ?_) (a' := ?_) #[true, true, true, true, true, false, false, false, false, false, false, false] rfl rfl (by kernel_rfl) (fun _ _ _ h => h) (Or.inl ⟨by rfl, ?_⟩) hHeld ?_ ?_
        rotate_left
        · rintro w' ⟨s0, s1⟩
          go_simp
          with_reducible rfl
        rotate_left
        · simp only [Act.put, List.setIfInBounds_toArray, List.set_cons_zero, List.set_cons_succ, i64_w, i32_w]
          rfl
        refine pure_ (i := 5) (N := some 97) (v := ?_) (a' := ?_) #[true, true, true, true, true, true, false, false, false, false, false, false] rfl rfl (by kernel_rfl) (fun _ _ _ h => h) (Or.inl ⟨by rfl, ?_⟩) ?_ ?_
        rotate_left
        · intro w'
          go_simp
          with_reducible rfl
        rotate_left
        · simp only [Act.put, List.setIfInBounds_toArray, List.set_cons_zero, List.set_cons_succ, i64_w, i32_w]
          rfl
        refine pure_ (i := 6) (N := some 98) (v := ?_) (a' := ?_) #[true, true, true, true, true, true, true, false, false, false, false, false] rfl rfl (by kernel_rfl) (fun _ _ _ h => h) (Or.inl ⟨by rfl, ?_⟩) ?_ ?_
        rotate_left
        · intro w'
          go_simp
          with_reducible rfl
        rotate_left
        · simp only [Act.put, List.setIfInBounds_toArray, List.set_cons_zero, List.set_cons_succ, i64_w, i32_w]
          rfl
        refine pure_ (i := 7) (N := some 99) (v := ?_) (a' := ?_) #[true, true, true, true, true, true, true, true, false, false, false, false] rfl rfl (by kernel_rfl) (fun _ _ _ h => h) (Or.inl ⟨by rfl, ?_⟩) ?_ ?_
        rotate_left
        · intro w'
          go_simp
          with_reducible rfl
        rotate_left
        · simp only [Act.put, List.setIfInBounds_toArray, List.set_cons_zero, List.set_cons_succ, i64_w, i32_w]
          rfl
        refine take_ (i := 8) (N := some 100) (v := ?_) (a' := ?_) #[true, true, true, true, true, true, true, true, true, false, false, false] rfl rfl (by kernel_rfl) (fun _ _ _ h => h) (Or.inl ⟨by rfl, ?_⟩) hHeld ?_ ?_
        rotate_left
        · rintro w' ⟨s0, s1⟩
          go_simp
          with_reducible rfl
        rotate_left
        · simp only [Act.put, List.setIfInBounds_toArray, List.set_cons_zero, List.set_cons_succ, i64_w, i32_w]
          rfl
        refine last_ (i := 9) (N := some 101) #[true, true, true, true, true, true, true, true, true, true, false, false] rfl rfl (by kernel_rfl) (by decide) (fun K hK => ?_)
        refine goesC_ (caps := caps) Try.func72 (by kernel_rfl) rfl #[.int .i64 (Srt.g (0 : Int) xs0 m), .int .i64 (Srt.g (0 : Int) xs0 mid)] (by rfl) rfl rfl rfl (by (try simp only [List.map_toArray, List.map_cons, List.map_nil]); first | done | rfl) ?_
        refine (HC.out _ _ _ HQ1.out HQ2.out HSE.out.inv).mono ?_
        rintro e w3 ⟨v, rfl, hv, hb3⟩
        rw [HLT.out] at hv
        refine ⟨_, rfl, ?_⟩
        have HS3 := Aside0.mk (HSE.out.step hI hb3)
        refine hK.out _ _ ?_
        clear hK K hb3
        refine norm_ (a' := ?_) ?_ ?_
        rotate_left
        · show Act.put _ (some 101) _ = _
          simp only [Act.put, List.setIfInBounds_toArray, List.set_cons_zero, List.set_cons_succ, i64_w, i32_w]
          rfl
        refine pure_ (i := 10) (N := some 102) (v := ?_) (a' := ?_) #[true, true, true, true, true, true, true, true, true, true, true, false] rfl rfl (by kernel_rfl) (fun _ _ _ h => h) (Or.inl ⟨by rfl, ?_⟩) ?_ ?_
        rotate_left
        · intro w'
          go_simp
          with_reducible rfl
        rotate_left
        · simp only [Act.put, List.setIfInBounds_toArray, List.set_cons_zero, List.set_cons_succ, i64_w, i32_w]
          rfl
        refine pure_ (i := 11) (N := some 103) (v := ?_) (a' := ?_) #[true, true, true, true, true, true, true, true, true, true, true, true] rfl rfl (by kernel_rfl) (fun _ _ _ h => h) (Or.inl ⟨by rfl, ?_⟩) ?_ ?_
        rotate_left
        · intro w'
          go_simp
          with_reducible rfl
        rotate_left
        · simp only [Act.put, List.setIfInBounds_toArray, List.set_cons_zero, List.set_cons_succ, i64_w, i32_w]
          rfl
        refine done_ (by kernel_rfl) ?_
        clear hHeld hx hy
        go_wp2
        go_roundg k'
        case measure => omega
        case rel => exact ⟨lo, mid, rfl, by go_num, ⟨by omega, by omega, by omega, by omega⟩, HG, HS3⟩
      | false =>
        rw [hlt2, Bool.not_false, if_pos rfl] at hg
        have HG := Aside0.mk hg
        have HLT := Aside0.mk hlt2
        have HM := Aside0.mk hm
        clear hg hlt2 hm
        go_wp2_with fail
        refine start_ (n := 12) (S := fun w' => w'.cell? ⟨g, m, none⟩ = some (.int .i64 (Srt.g 0 xs0 (m))) ∧ w'.cell? ⟨g, mid, none⟩ = some (.int .i64 (Srt.g 0 xs0 (mid)))) (ds := [9]) #[false, false, false, false, false, false, false, false, false, false, false, false] (by kernel_rfl) rfl rfl ⟨hx, hy⟩ (fun hHeld => ?_)
        obtain ⟨E, hE⟩ : ∃ E, wr.drew = E := ⟨_, rfl⟩
        have HSE := Aside0.mk (show SS g c N w0 I Q E xs0 by rw [← hE]; exact HW.out.step hI (below_drew1 (Below.refl _ _)))
        rw [hE] at hHeld ⊢
        clear hE
        refine pure_ (i := 0) (N := some 92) (v := ?_) (a' := ?_) #[true, false, false, false, false, false, false, false, false, false, false, false] rfl rfl (by kernel_rfl) (fun _ _ _ h => h) (Or.inl ⟨by rfl, ?_⟩) ?_ ?_
        rotate_left
        · intro w'
          go_simp
          with_reducible rfl
        rotate_left
        · simp only [Act.put, List.setIfInBounds_toArray, List.set_cons_zero, List.set_cons_succ, i64_w, i32_w]
          rfl
        refine pure_ (i := 1) (N := some 93) (v := ?_) (a' := ?_) #[true, true, false, false, false, false, false, false, false, false, false, false] rfl rfl (by kernel_rfl) (fun _ _ _ h => h) (Or.inl ⟨by rfl, ?_⟩) ?_ ?_
        rotate_left
        · intro w'
          go_simp
          with_reducible rfl
        rotate_left
        · simp only [Act.put, List.setIfInBounds_toArray, List.set_cons_zero, List.set_cons_succ, i64_w, i32_w]
          rfl
        refine pure_ (i := 2) (N := some 94) (v := ?_) (a' := ?_) #[true, true, true, false, false, false, false, false, false, false, false, false] rfl rfl (by kernel_rfl) (fun _ _ _ h => h) (Or.inl ⟨by rfl, ?_⟩) ?_ ?_
        rotate_left
        · intro w'
          go_simp
          with_reducible rfl
        rotate_left
        · simp only [Act.put, List.setIfInBounds_toArray, List.set_cons_zero, List.set_cons_succ, i64_w, i32_w]
          rfl
        refine pure_ (i := 3) (N := some 95) (v := ?_) (a' := ?_) #[true, true, true, true, false, false, false, false, false, false, false, false] rfl rfl (by kernel_rfl) (fun _ _ _ h => h) (Or.inl ⟨by rfl, ?_⟩) ?_ ?_
        rotate_left
        · intro w'
          go_simp
          with_reducible rfl
        rotate_left
        · simp only [Act.put, List.setIfInBounds_toArray, List.set_cons_zero, List.set_cons_succ, i64_w, i32_w]
          rfl
        refine take_ (i := 4) (N := some 96) (v := ?_) (a' := ?_) #[true, true, true, true, true, false, false, false, false, false, false, false] rfl rfl (by kernel_rfl) (fun _ _ _ h => h) (Or.inl ⟨by rfl, ?_⟩) hHeld ?_ ?_
        rotate_left
        · rintro w' ⟨s0, s1⟩
          go_simp
          with_reducible rfl
        rotate_left
        · simp only [Act.put, List.setIfInBounds_toArray, List.set_cons_zero, List.set_cons_succ, i64_w, i32_w]
          rfl
        refine pure_ (i := 5) (N := some 97) (v := ?_) (a' := ?_) #[true, true, true, true, true, true, false, false, false, false, false, false] rfl rfl (by kernel_rfl) (fun _ _ _ h => h) (Or.inl ⟨by rfl, ?_⟩) ?_ ?_
        rotate_left
        · intro w'
          go_simp
          with_reducible rfl
        rotate_left
        · simp only [Act.put, List.setIfInBounds_toArray, List.set_cons_zero, List.set_cons_succ, i64_w, i32_w]
          rfl
        refine pure_ (i := 6) (N := some 98) (v := ?_) (a' := ?_) #[true, true, true, true, true, true, true, false, false, false, false, false] rfl rfl (by kernel_rfl) (fun _ _ _ h => h) (Or.inl ⟨by rfl, ?_⟩) ?_ ?_
        rotate_left
        · intro w'
          go_simp
          with_reducible rfl
        rotate_left
        · simp only [Act.put, List.setIfInBounds_toArray, List.set_cons_zero, List.set_cons_succ, i64_w, i32_w]
          rfl
        refine pure_ (i := 7) (N := some 99) (v := ?_) (a' := ?_) #[true, true, true, true, true, true, true, true, false, false, false, false] rfl rfl (by kernel_rfl) (fun _ _ _ h => h) (Or.inl ⟨by rfl, ?_⟩) ?_ ?_
        rotate_left
        · intro w'
          go_simp
          with_reducible rfl
        rotate_left
        · simp only [Act.put, List.setIfInBounds_toArray, List.set_cons_zero, List.set_cons_succ, i64_w, i32_w]
          rfl
        refine take_ (i := 8) (N := some 100) (v := ?_) (a' := ?_) #[true, true, true, true, true, true, true, true, true, false, false, false] rfl rfl (by kernel_rfl) (fun _ _ _ h => h) (Or.inl ⟨by rfl, ?_⟩) hHeld ?_ ?_
        rotate_left
        · rintro w' ⟨s0, s1⟩
          go_simp
          with_reducible rfl
        rotate_left
        · simp only [Act.put, List.setIfInBounds_toArray, List.set_cons_zero, List.set_cons_succ, i64_w, i32_w]
          rfl
        refine last_ (i := 9) (N := some 101) #[true, true, true, true, true, true, true, true, true, true, false, false] rfl rfl (by kernel_rfl) (by decide) (fun K hK => ?_)
        refine goesC_ (caps := caps) Try.func72 (by kernel_rfl) rfl #[.int .i64 (Srt.g (0 : Int) xs0 m), .int .i64 (Srt.g (0 : Int) xs0 mid)] (by rfl) rfl rfl rfl (by (try simp only [List.map_toArray, List.map_cons, List.map_nil]); first | done | rfl) ?_
        refine (HC.out _ _ _ HQ1.out HQ2.out HSE.out.inv).mono ?_
        rintro e w3 ⟨v, rfl, hv, hb3⟩
        rw [HLT.out] at hv
        refine ⟨_, rfl, ?_⟩
        have HS3 := Aside0.mk (HSE.out.step hI hb3)
        refine hK.out _ _ ?_
        clear hK K hb3
        refine norm_ (a' := ?_) ?_ ?_
        rotate_left
        · show Act.put _ (some 101) _ = _
          simp only [Act.put, List.setIfInBounds_toArray, List.set_cons_zero, List.set_cons_succ, i64_w, i32_w]
          rfl
        refine pure_ (i := 10) (N := some 102) (v := ?_) (a' := ?_) #[true, true, true, true, true, true, true, true, true, true, true, false] rfl rfl (by kernel_rfl) (fun _ _ _ h => h) (Or.inl ⟨by rfl, ?_⟩) ?_ ?_
        rotate_left
        · intro w'
          go_simp
          with_reducible rfl
        rotate_left
        · simp only [Act.put, List.setIfInBounds_toArray, List.set_cons_zero, List.set_cons_succ, i64_w, i32_w]
          rfl
        refine pure_ (i := 11) (N := some 103) (v := ?_) (a' := ?_) #[true, true, true, true, true, true, true, true, true, true, true, true] rfl rfl (by kernel_rfl) (fun _ _ _ h => h) (Or.inl ⟨by rfl, ?_⟩) ?_ ?_
        rotate_left
        · intro w'
          go_simp
          with_reducible rfl
        rotate_left
        · simp only [Act.put, List.setIfInBounds_toArray, List.set_cons_zero, List.set_cons_succ, i64_w, i32_w]
          rfl
        refine done_ (by kernel_rfl) ?_
        clear hHeld hx hy
        go_wp2
        go_roundg k'
        case measure => omega
        case rel => exact ⟨mid + 1, hi, by go_num, rfl, ⟨by omega, by omega, by omega, by omega⟩, HG, HS3⟩
    · have hg := HF.out
      rw [bs_end _ _ _ _ hlt] at hg
      subst hg
      go_wp2_with fail
      go_loopg [17] m (fun kq v17 wr => ∃ (ys : List Int), v17 = .int .i64 (kq : Int) ∧ Aside0 (kq ≤ m ∧ lo ≤ kq) ∧ Aside0 (Srt.dn (0 : Int) lo kq ys = Srt.dn (0 : Int) lo m xs0) ∧ Aside0 (SS g c N w0 I Q wr ys))
      case atStart => exact ⟨xs0, rfl, ⟨by omega, by omega⟩, ⟨rfl⟩, HW⟩
      case round =>
        obtain ⟨ys, rfl, HJ, HFi, HWi⟩ := hrel
        obtain ⟨j1, j2⟩ := HJ.out
        by_cases hks : lo < gk
        · obtain ⟨j, hj⟩ : ∃ j, gk = j + 1 := ⟨gk - 1, by omega⟩
          have hi1 : gk < N := by omega
          have hi2 : j < N := by omega
          have hjm : ((gk : Int) - 1) = (j : Int) := by omega
          have hg := HFi.out
          have e2 : Srt.dn (0 : Int) lo gk ys = Srt.dn (0 : Int) lo j (Srt.sw (0 : Int) ys gk j) := by rw [hj, Srt.dn, if_pos (by omega)]
          rw [e2] at hg
          have HG := Aside0.mk hg
          have HJ1 := Aside0.mk hj
          have hb0 : (0 ≤ (j : Int)) = True := eq_true (by omega)
          have hb1 : ((j : Int) < (N : Int)) = True := eq_true (by omega)
          clear hg e2 hj
          have hx := HWi.out.cell (gk) hi1
          have hy := HWi.out.cell (j) hi2
          have HD := HWi.out.step hI (below_drew1 (Below.refl _ _))
          have H1 := (HWi.out.set1 hI (gk) hi1 _ (HWi.out.qg (j) hi2)).step hI (below_drew1 (Below.refl _ _))
          have hd1 := HD.cell (gk) hi1
          have hd2 := HD.cell (j) hi2
          have hf1 := fun q_ => HD.frozen (gk) q_ hi1
          have hz := H1.cell (j) hi2
          have hf2 := fun q_ => H1.frozen (gk) q_ hi1
          have HX := Aside0.mk ((HWi.out.swap hI (gk) (j) hi1 hi2).step hI (below_drew1 (Below.refl _ _)))
          clear HD H1
          go_wp2_with fail
          go_region
          obtain ⟨X, hX⟩ : ∃ X, (((wr).setCell ⟨g, gk, none⟩ (.int .i64 (Srt.g (0 : Int) ys (j)))).setCell ⟨g, j, none⟩ (.int .i64 (Srt.g (0 : Int) ys (gk)))).drew = X := ⟨_, rfl⟩
          rw [hX] at HX ⊢
          clear hX hx hy hd1 hd2 hf1 hz hf2
          go_wp2
          go_roundg j
          case measure => have := HJ1.out; omega
          case rel => exact ⟨_, by go_num, ⟨by have := HJ1.out; omega, by have := HJ1.out; omega⟩, HG, HX⟩
        · have hg := HFi.out
          have hys : ys = Srt.dn (0 : Int) lo m xs0 := by
            rw [← hg]
            cases gk with
            | zero => rfl
            | succ k => rw [Srt.dn, if_neg hks]
          have HG := Aside0.mk hys
          clear hg hys
          go_wp2_with fail
          refine bodyPost_ret (v := .tuple #[]) (by simp [results, Try.results122, go_sem]) rfl ⟨⟨_, rfl⟩, ?_⟩
          rw [← HG.out]; exact HWi.out
end Go.Proofs.Ytokijibpdnepiaa.X
end
section
namespace Go.Proofs.Ytokijibpdnepiaa.X
open Go.RowKit Go.Proofs.YtokijibpdnepiaaW.PrintWords Go.Proofs.YtokijibpdnepiaaW.PrintLast Go.Proofs.YtokijibpdnepiaaW.PrintMore
attribute [local go_sem] max2_int min2_int max_two min_two max_three min_three max_four min_four
set_option linter.unusedVariables false
set_option linter.unusedSimpArgs false
def SymIH (g c N : Nat) (w0 : World) (I : World → Prop) (Q : Int → Prop) (lt : Int → Int → Bool) (caps : Array Value) (f : Nat) : Prop := ∀ (a m b : Nat) (xs0 : List Int) (w : World), SS g c N w0 I Q w xs0 → a < m → m < b → b ≤ N → b - a ≤ f →
    Calls Try.prog 122 #[.slice (some ⟨g, 0, none⟩) N c, .int .i64 (a : Int), .int .i64 (m : Int), .int .i64 (b : Int), .func (.func 72) #[] caps] w fun e w' => (∃ r, e = .returned r) ∧ SS g c N w0 I Q w' (Srt.symF (0 : Int) lt f a m b xs0)
end Go.Proofs.Ytokijibpdnepiaa.X
end
section
namespace Go.Proofs.Ytokijibpdnepiaa.X
open Go.RowKit Go.Proofs.YtokijibpdnepiaaW.PrintWords Go.Proofs.YtokijibpdnepiaaW.PrintLast Go.Proofs.YtokijibpdnepiaaW.PrintMore
attribute [local go_sem] max2_int min2_int max_two min_two max_three min_three max_four min_four
set_option linter.unusedVariables false
set_option linter.unusedSimpArgs false
set_option maxHeartbeats 8000000 in
set_option maxRecDepth 100000 in
theorem sym_hi (g c N : Nat) (w0 : World) (I : World → Prop) (Q : Int → Prop) (lt : Int → Int → Bool) (caps : Array Value) (hI : Stays g I) (hC : Cmp caps I Q lt) (hN2 : N ≤ 4611686018427387903) (f : Nat) (ih : SymIH g c N w0 I Q lt caps f) (a m b : Nat) (xs0 : List Int) (w : World) (h : SS g c N w0 I Q w xs0) (ham : a < m) (hmb : m < b) (hbN : b ≤ N) (hf : b - a ≤ f + 1) (c1 : ¬ m - a = 1) (c2 : ¬ b - m = 1) (cm : (a + b) / 2 < m) :
    Calls Try.prog 122 #[.slice (some ⟨g, 0, none⟩) N c, .int .i64 (a : Int), .int .i64 (m : Int), .int .i64 (b : Int), .func (.func 72) #[] caps] w fun e w' => (∃ r, e = .returned r) ∧ SS g c N w0 I Q w' (Srt.symF (0 : Int) lt (f + 1) a m b xs0) := by
  have HS := Aside0.mk h
  have HC := Aside0.mk hC
  have IH := Aside0.mk ih
  clear h hC ih
  obtain ⟨dm, hdm⟩ : ∃ dm, m - a = dm := ⟨_, rfl⟩
  have hdm' : (m : Int) - (a : Int) = (dm : Int) := by omega
  have hdn : ¬ ((dm : Int) = 1) := by omega
  have hdnb : ((dm : Int) == 1) = false := beq_eq_false_iff_ne.2 hdn
  have HDM := Aside0.mk hdm
  clear hdm
  obtain ⟨db, hdb⟩ : ∃ db, b - m = db := ⟨_, rfl⟩
  have hdb' : (b : Int) - (m : Int) = (db : Int) := by omega
  have hdbn : ¬ ((db : Int) = 1) := by omega
  have hdbb : ((db : Int) == 1) = false := beq_eq_false_iff_ne.2 hdbn
  obtain ⟨md, hmd⟩ : ∃ md, (a + b) / 2 = md := ⟨_, rfl⟩
  have hmd' : ((a : Int) + (b : Int)) / 2 = (md : Int) := by omega
  obtain ⟨n, hn⟩ : ∃ n, md + m = n := ⟨_, rfl⟩
  have hn' : (md : Int) + (m : Int) = (n : Int) := by omega
  obtain ⟨p, hp⟩ : ∃ p, n - 1 = p := ⟨_, rfl⟩
  have hp' : (n : Int) - 1 = (p : Int) := by omega
  have hF := Srt.symF.eq_2 (0 : Int) lt a m b xs0 f
  rw [if_neg c1, if_neg c2] at hF
  dsimp only at hF
  rw [hmd, hn, hp] at hF
  rw [hmd] at cm
  obtain ⟨s0, hs0⟩ : ∃ s0, n - b = s0 := ⟨_, rfl⟩
  have hs0' : (n : Int) - (b : Int) = (s0 : Int) := by omega
  rw [if_pos cm, if_pos cm, hs0] at hF
  obtain ⟨st, hst⟩ : ∃ st, Srt.bs (fun h => !lt (Srt.g (0 : Int) xs0 (p - h)) (Srt.g (0 : Int) xs0 h)) (md - s0) s0 md = st := ⟨_, rfl⟩
  rw [hst] at hF
  have HST := Aside0.mk hst
  have HSF := Aside0.mk hF
  have HB := Aside0.mk (show a ≤ s0 ∧ s0 ≤ md ∧ md ≤ m ∧ md ≤ md ∧ n ≤ b + s0 ∧ n = md + m ∧ p + 1 = n ∧ md < b ∧ a < md ∧ md ≤ a + f ∧ b ≤ md + f from ⟨by omega, by omega, by omega, by omega, by omega, by omega, by omega, by omega, by omega, by omega, by omega⟩)
  clear hst hF
  go_enter Try.func122, Try.ntmps122
  go_wp2_with fail
  go_loopg [20, 21] (md - s0) (fun kq v20 v21 wr => ∃ lo hi : Nat, v20 = .int .i64 (lo : Int) ∧ v21 = .int .i64 (hi : Int) ∧ Aside0 (s0 ≤ lo ∧ lo ≤ hi ∧ hi ≤ md ∧ hi - lo ≤ kq) ∧ Aside0 (Srt.bs (fun h => !lt (Srt.g (0 : Int) xs0 (p - h)) (Srt.g (0 : Int) xs0 h)) kq lo hi = st) ∧ Aside0 (SS g c N w0 I Q wr xs0))
  case atStart => exact ⟨s0, md, rfl, rfl, ⟨by omega, by omega, by omega, by omega⟩, HST, HS⟩
  case round => as_aux_lemma =>
    obtain ⟨lo, hi, rfl, rfl, HK, HF, HW⟩ := hrel
    obtain ⟨k1, k2, k3, k4⟩ := HK.out
    obtain ⟨z1, z2, z3, z4, z5, z6, z7, z8, z9, z10, z11⟩ := HB.out
    by_cases hlt : lo < hi
    · obtain ⟨k', rfl⟩ : ∃ k', gk = k' + 1 := ⟨gk - 1, by omega⟩
      obtain ⟨mid, hm⟩ : ∃ mid, (lo + hi) / 2 = mid := ⟨_, rfl⟩
      obtain ⟨q, hq⟩ : ∃ q, p - mid = q := ⟨_, rfl⟩
      have hq' : (p : Int) - (mid : Int) = (q : Int) := by omega
      have hg := HF.out
      rw [bs_step _ _ _ _ _ hlt hm, hq] at hg
      have hi1 : q < N := by omega
      have hi2 : mid < N := by omega
      have hq1 := HW.out.qg q hi1
      have HQ1 := Aside0.mk hq1
      clear hq1
      have hx := HW.out.cell q hi1
      have hb0 := eq_true (show 0 ≤ (q : Int) by omega)
      have hb1 := eq_true (show (q : Int) < (N : Int) by omega)
      have hq2 := HW.out.qg mid hi2
      have HQ2 := Aside0.mk hq2
      clear hq2
      have hy := HW.out.cell mid hi2
      have hb2 := eq_true (show 0 ≤ (mid : Int) by omega)
      have hb3 := eq_true (show (mid : Int) < (N : Int) by omega)
      have hw3 : Go.RowKit.wrap64 (q : Int) = (q : Int) := w64n hi1 (by omega)
      have hmd2 : ((lo : Int) + (hi : Int)) / 2 = (mid : Int) := by omega
      have b5 : lo ≤ mid := by omega
      have b6 : mid < hi := by omega
      cases hlt2 : lt (Srt.g (0 : Int) xs0 q) (Srt.g (0 : Int) xs0 mid) with
      | true =>
        rw [hlt2, Bool.not_true, if_neg (by decide)] at hg
        have HG := Aside0.mk hg
        have HLT := Aside0.mk hlt2
        have HM := Aside0.mk hm
        clear hg hlt2 hm hq z1 z2 z3 z4 z5 z6 z7 z8 z9 z10 z11
        go_wp2_with fail
        refine start_ (n := 14) (S := fun w' => w'.cell? ⟨g, q, none⟩ = some (.int .i64 (Srt.g 0 xs0 (q))) ∧ w'.cell? ⟨g, mid, none⟩ = some (.int .i64 (Srt.g 0 xs0 (mid)))) (ds := [11]) #[false, false, false, false, false, false, false, false, false, false, false, false, false, false] (by kernel_rfl) rfl rfl ⟨hx, hy⟩ (fun hHeld => ?_)
        obtain ⟨E, hE⟩ : ∃ E, wr.drew = E := ⟨_, rfl⟩
        have HSE := Aside0.mk (show SS g c N w0 I Q E xs0 by rw [← hE]; exact HW.out.step hI (below_drew1 (Below.refl _ _)))
        rw [hE] at hHeld ⊢
        clear hE
        refine pure_ (i := 0) (N := some 158) (v := ?_) (a' := ?_) #[true, false, false, false, false, false, false, false, false, false, false, false, false, false] rfl rfl (by kernel_rfl) (fun _ _ _ h => h) (Or.inl ⟨by rfl, ?_⟩) ?_ ?_
        rotate_left
        · intro w'
          go_simp
          with_reducible rfl
        rotate_left
        · simp only [Act.put, List.setIfInBounds_toArray, List.set_cons_zero, List.set_cons_succ, i64_w, i32_w]
          rfl
        refine pure_ (i := 1) (N := some 159) (v := ?_) (a' := ?_) #[true, true, false, false, false, false, false, false, false, false, false, false, false, false] rfl rfl (by kernel_rfl) (fun _ _ _ h => h) (Or.inl ⟨by rfl, ?_⟩) ?_ ?_
        rotate_left
        · intro w'
          go_simp
          with_reducible rfl
        rotate_left
        · simp only [Act.put, List.setIfInBounds_toArray, List.set_cons_zero, List.set_cons_succ, i64_w, i32_w]
          rfl
        refine pure_ (i := 2) (N := some 160) (v := ?_) (a' := ?_) #[true, true, true, false, false, false, false, false, false, false, false, false, false, false] rfl rfl (by kernel_rfl) (fun _ _ _ h => h) (Or.inl ⟨by rfl, ?_⟩) ?_ ?_
        rotate_left
        · intro w'
          go_simp
          with_reducible rfl
        rotate_left
        · simp only [Act.put, List.setIfInBounds_toArray, List.set_cons_zero, List.set_cons_succ, i64_w, i32_w]
          rfl
        refine pure_ (i := 3) (N := some 161) (v := ?_) (a' := ?_) #[true, true, true, true, false, false, false, false, false, false, false, false, false, false] rfl rfl (by kernel_rfl) (fun _ _ _ h => h) (Or.inl ⟨by rfl, ?_⟩) ?_ ?_
        rotate_left
        · intro w'
          go_simp
          with_reducible rfl
        rotate_left
        · simp only [Act.put, List.setIfInBounds_toArray, List.set_cons_zero, List.set_cons_succ, i64_w, i32_w]
          rfl
        refine pure_ (i := 4) (N := some 162) (v := ?_) (a' := ?_) #[true, true, true, true, true, false, false, false, false, false, false, false, false, false] rfl rfl (by kernel_rfl) (fun _ _ _ h => h) (Or.inl ⟨by rfl, ?_⟩) ?_ ?_
        rotate_left
        · intro w'
          go_simp
          with_reducible rfl
        rotate_left
        · simp only [Act.put, List.setIfInBounds_toArray, List.set_cons_zero, List.set_cons_succ, i64_w, i32_w]
          rfl
        refine pure_ (i := 5) (N := some 163) (v := ?_) (a' := ?_) #[true, true, true, true, true, true, false, false, false, false, false, false, false, false] rfl rfl (by kernel_rfl) (fun _ _ _ h => h) (Or.inl ⟨by rfl, ?_⟩) ?_ ?_
        rotate_left
        · intro w'
          go_simp
          with_reducible rfl
        rotate_left
        · simp only [Act.put, List.setIfInBounds_toArray, List.set_cons_zero, List.set_cons_succ, i64_w, i32_w]
          rfl
        refine take_ (i := 6) (N := some 164) (v := ?_) (a' := ?_) #[true, true, true, true, true, true, true, false, false, false, false, false, false, false] rfl rfl (by kernel_rfl) (fun _ _ _ h => h) (Or.inl ⟨by rfl, ?_⟩) hHeld ?_ ?_
        rotate_left
        · rintro w' ⟨s0, s1⟩
          go_simp
          with_reducible rfl
        rotate_left
        · simp only [Act.put, List.setIfInBounds_toArray, List.set_cons_zero, List.set_cons_succ, i64_w, i32_w]
          rfl
        refine pure_ (i := 7) (N := some 165) (v := ?_) (a' := ?_) #[true, true, true, true, true, true, true, true, false, false, false, false, false, false] rfl rfl (by kernel_rfl) (fun _ _ _ h => h) (Or.inl ⟨by rfl, ?_⟩) ?_ ?_
        rotate_left
        · intro w'
          go_simp
          with_reducible rfl
        rotate_left
        · simp only [Act.put, List.setIfInBounds_toArray, List.set_cons_zero, List.set_cons_succ, i64_w, i32_w]
          rfl
        refine pure_ (i := 8) (N := some 166) (v := ?_) (a' := ?_) #[true, true, true, true, true, true, true, true, true, false, false, false, false, false] rfl rfl (by kernel_rfl) (fun _ _ _ h => h) (Or.inl ⟨by rfl, ?_⟩) ?_ ?_
        rotate_left
        · intro w'
          go_simp
          with_reducible rfl
        rotate_left
        · simp only [Act.put, List.setIfInBounds_toArray, List.set_cons_zero, List.set_cons_succ, i64_w, i32_w]
          rfl
        refine pure_ (i := 9) (N := some 167) (v := ?_) (a' := ?_) #[true, true, true, true, true, true, true, true, true, true, false, false, false, false] rfl rfl (by kernel_rfl) (fun _ _ _ h => h) (Or.inl ⟨by rfl, ?_⟩) ?_ ?_
        rotate_left
        · intro w'
          go_simp
          with_reducible rfl
        rotate_left
        · simp only [Act.put, List.setIfInBounds_toArray, List.set_cons_zero, List.set_cons_succ, i64_w, i32_w]
          rfl
        refine take_ (i := 10) (N := some 168) (v := ?_) (a' := ?_) #[true, true, true, true, true, true, true, true, true, true, true, false, false, false] rfl rfl (by kernel_rfl) (fun _ _ _ h => h) (Or.inl ⟨by rfl, ?_⟩) hHeld ?_ ?_
        rotate_left
        · rintro w' ⟨s0, s1⟩
          go_simp
          with_reducible rfl
        rotate_left
        · simp only [Act.put, List.setIfInBounds_toArray, List.set_cons_zero, List.set_cons_succ, i64_w, i32_w]
          rfl
        refine last_ (i := 11) (N := some 169) #[true, true, true, true, true, true, true, true, true, true, true, true, false, false] rfl rfl (by kernel_rfl) (by decide) (fun K hK => ?_)
        refine goesC_ (caps := caps) Try.func72 (by kernel_rfl) rfl #[.int .i64 (Srt.g (0 : Int) xs0 q), .int .i64 (Srt.g (0 : Int) xs0 mid)] (by rfl) rfl rfl rfl (by (try simp only [List.map_toArray, List.map_cons, List.map_nil]); first | done | rfl) ?_
        refine (HC.out _ _ _ HQ1.out HQ2.out HSE.out.inv).mono ?_
        rintro e w3 ⟨v, rfl, hv, hb3⟩
        rw [HLT.out] at hv
        refine ⟨_, rfl, ?_⟩
        have HS3 := Aside0.mk (HSE.out.step hI hb3)
        refine hK.out _ _ ?_
        clear hK K hb3
        refine norm_ (a' := ?_) ?_ ?_
        rotate_left
        · show Act.put _ (some 169) _ = _
          simp only [Act.put, List.setIfInBounds_toArray, List.set_cons_zero, List.set_cons_succ, i64_w, i32_w]
          rfl
        refine pure_ (i := 12) (N := some 170) (v := ?_) (a' := ?_) #[true, true, true, true, true, true, true, true, true, true, true, true, true, false] rfl rfl (by kernel_rfl) (fun _ _ _ h => h) (Or.inl ⟨by rfl, ?_⟩) ?_ ?_
        rotate_left
        · intro w'
          go_simp
          with_reducible rfl
        rotate_left
        · simp only [Act.put, List.setIfInBounds_toArray, List.set_cons_zero, List.set_cons_succ, i64_w, i32_w]
          rfl
        refine pure_ (i := 13) (N := some 171) (v := ?_) (a' := ?_) #[true, true, true, true, true, true, true, true, true, true, true, true, true, true] rfl rfl (by kernel_rfl) (fun _ _ _ h => h) (Or.inl ⟨by rfl, ?_⟩) ?_ ?_
        rotate_left
        · intro w'
          go_simp
          with_reducible rfl
        rotate_left
        · simp only [Act.put, List.setIfInBounds_toArray, List.set_cons_zero, List.set_cons_succ, i64_w, i32_w]
          rfl
        refine done_ (by kernel_rfl) ?_
        clear hHeld hx hy
        clear hw3
        go_wp2
        go_roundg k'
        case measure => omega
        case rel => exact ⟨lo, mid, rfl, by go_num, ⟨by omega, by omega, by omega, by omega⟩, HG, HS3⟩
      | false =>
        rw [hlt2, Bool.not_false, if_pos rfl] at hg
        have HG := Aside0.mk hg
        have HLT := Aside0.mk hlt2
        have HM := Aside0.mk hm
        clear hg hlt2 hm hq z1 z2 z3 z4 z5 z6 z7 z8 z9 z10 z11
        go_wp2_with fail
        refine start_ (n := 14) (S := fun w' => w'.cell? ⟨g, q, none⟩ = some (.int .i64 (Srt.g 0 xs0 (q))) ∧ w'.cell? ⟨g, mid, none⟩ = some (.int .i64 (Srt.g 0 xs0 (mid)))) (ds := [11]) #[false, false, false, false, false, false, false, false, false, false, false, false, false, false] (by kernel_rfl) rfl rfl ⟨hx, hy⟩ (fun hHeld => ?_)
        obtain ⟨E, hE⟩ : ∃ E, wr.drew = E := ⟨_, rfl⟩
        have HSE := Aside0.mk (show SS g c N w0 I Q E xs0 by rw [← hE]; exact HW.out.step hI (below_drew1 (Below.refl _ _)))
        rw [hE] at hHeld ⊢
        clear hE
        refine pure_ (i := 0) (N := some 158) (v := ?_) (a' := ?_) #[true, false, false, false, false, false, false, false, false, false, false, false, false, false] rfl rfl (by kernel_rfl) (fun _ _ _ h => h) (Or.inl ⟨by rfl, ?_⟩) ?_ ?_
        rotate_left
        · intro w'
          go_simp
          with_reducible rfl
        rotate_left
        · simp only [Act.put, List.setIfInBounds_toArray, List.set_cons_zero, List.set_cons_succ, i64_w, i32_w]
          rfl
        refine pure_ (i := 1) (N := some 159) (v := ?_) (a' := ?_) #[true, true, false, false, false, false, false, false, false, false, false, false, false, false] rfl rfl (by kernel_rfl) (fun _ _ _ h => h) (Or.inl ⟨by rfl, ?_⟩) ?_ ?_
        rotate_left
        · intro w'
          go_simp
          with_reducible rfl
        rotate_left
        · simp only [Act.put, List.setIfInBounds_toArray, List.set_cons_zero, List.set_cons_succ, i64_w, i32_w]
          rfl
        refine pure_ (i := 2) (N := some 160) (v := ?_) (a' := ?_) #[true, true, true, false, false, false, false, false, false, false, false, false, false, false] rfl rfl (by kernel_rfl) (fun _ _ _ h => h) (Or.inl ⟨by rfl, ?_⟩) ?_ ?_
        rotate_left
        · intro w'
          go_simp
          with_reducible rfl
        rotate_left
        · simp only [Act.put, List.setIfInBounds_toArray, List.set_cons_zero, List.set_cons_succ, i64_w, i32_w]
          rfl
        refine pure_ (i := 3) (N := some 161) (v := ?_) (a' := ?_) #[true, true, true, true, false, false, false, false, false, false, false, false, false, false] rfl rfl (by kernel_rfl) (fun _ _ _ h => h) (Or.inl ⟨by rfl, ?_⟩) ?_ ?_
        rotate_left
        · intro w'
          go_simp
          with_reducible rfl
        rotate_left
        · simp only [Act.put, List.setIfInBounds_toArray, List.set_cons_zero, List.set_cons_succ, i64_w, i32_w]
          rfl
        refine pure_ (i := 4) (N := some 162) (v := ?_) (a' := ?_) #[true, true, true, true, true, false, false, false, false, false, false, false, false, false] rfl rfl (by kernel_rfl) (fun _ _ _ h => h) (Or.inl ⟨by rfl, ?_⟩) ?_ ?_
        rotate_left
        · intro w'
          go_simp
          with_reducible rfl
        rotate_left
        · simp only [Act.put, List.setIfInBounds_toArray, List.set_cons_zero, List.set_cons_succ, i64_w, i32_w]
          rfl
        refine pure_ (i := 5) (N := some 163) (v := ?_) (a' := ?_) #[true, true, true, true, true, true, false, false, false, false, false, false, false, false] rfl rfl (by kernel_rfl) (fun _ _ _ h => h) (Or.inl ⟨by rfl, ?_⟩) ?_ ?_
        rotate_left
        · intro w'
          go_simp
          with_reducible rfl
        rotate_left
        · simp only [Act.put, List.setIfInBounds_toArray, List.set_cons_zero, List.set_cons_succ, i64_w, i32_w]
          rfl
        refine take_ (i := 6) (N := some 164) (v := ?_) (a' := ?_) #[true, true, true, true, true, true, true, false, false, false, false, false, false, false] rfl rfl (by kernel_rfl) (fun _ _ _ h => h) (Or.inl ⟨by rfl, ?_⟩) hHeld ?_ ?_
        rotate_left
        · rintro w' ⟨s0, s1⟩
          go_simp
          with_reducible rfl
        rotate_left
        · simp only [Act.put, List.setIfInBounds_toArray, List.set_cons_zero, List.set_cons_succ, i64_w, i32_w]
          rfl
        refine pure_ (i := 7) (N := some 165) (v := ?_) (a' := ?_) #[true, true, true, true, true, true, true, true, false, false, false, false, false, false] rfl rfl (by kernel_rfl) (fun _ _ _ h => h) (Or.inl ⟨by rfl, ?_⟩) ?_ ?_
        rotate_left
        · intro w'
          go_simp
          with_reducible rfl
        rotate_left
        · simp only [Act.put, List.setIfInBounds_toArray, List.set_cons_zero, List.set_cons_succ, i64_w, i32_w]
          rfl
        refine pure_ (i := 8) (N := some 166) (v := ?_) (a' := ?_) #[true, true, true, true, true, true, true, true, true, false, false, false, false, false] rfl rfl (by kernel_rfl) (fun _ _ _ h => h) (Or.inl ⟨by rfl, ?_⟩) ?_ ?_
        rotate_left
        · intro w'
          go_simp
          with_reducible rfl
        rotate_left
        · simp only [Act.put, List.setIfInBounds_toArray, List.set_cons_zero, List.set_cons_succ, i64_w, i32_w]
          rfl
        refine pure_ (i := 9) (N := some 167) (v := ?_) (a' := ?_) #[true, true, true, true, true, true, true, true, true, true, false, false, false, false] rfl rfl (by kernel_rfl) (fun _ _ _ h => h) (Or.inl ⟨by rfl, ?_⟩) ?_ ?_
        rotate_left
        · intro w'
          go_simp
          with_reducible rfl
        rotate_left
        · simp only [Act.put, List.setIfInBounds_toArray, List.set_cons_zero, List.set_cons_succ, i64_w, i32_w]
          rfl
        refine take_ (i := 10) (N := some 168) (v := ?_) (a' := ?_) #[true, true, true, true, true, true, true, true, true, true, true, false, false, false] rfl rfl (by kernel_rfl) (fun _ _ _ h => h) (Or.inl ⟨by rfl, ?_⟩) hHeld ?_ ?_
        rotate_left
        · rintro w' ⟨s0, s1⟩
          go_simp
          with_reducible rfl
        rotate_left
        · simp only [Act.put, List.setIfInBounds_toArray, List.set_cons_zero, List.set_cons_succ, i64_w, i32_w]
          rfl
        refine last_ (i := 11) (N := some 169) #[true, true, true, true, true, true, true, true, true, true, true, true, false, false] rfl rfl (by kernel_rfl) (by decide) (fun K hK => ?_)
        refine goesC_ (caps := caps) Try.func72 (by kernel_rfl) rfl #[.int .i64 (Srt.g (0 : Int) xs0 q), .int .i64 (Srt.g (0 : Int) xs0 mid)] (by rfl) rfl rfl rfl (by (try simp only [List.map_toArray, List.map_cons, List.map_nil]); first | done | rfl) ?_
        refine (HC.out _ _ _ HQ1.out HQ2.out HSE.out.inv).mono ?_
        rintro e w3 ⟨v, rfl, hv, hb3⟩
        rw [HLT.out] at hv
        refine ⟨_, rfl, ?_⟩
        have HS3 := Aside0.mk (HSE.out.step hI hb3)
        refine hK.out _ _ ?_
        clear hK K hb3
        refine norm_ (a' := ?_) ?_ ?_
        rotate_left
        · show Act.put _ (some 169) _ = _
          simp only [Act.put, List.setIfInBounds_toArray, List.set_cons_zero, List.set_cons_succ, i64_w, i32_w]
          rfl
        refine pure_ (i := 12) (N := some 170) (v := ?_) (a' := ?_) #[true, true, true, true, true, true, true, true, true, true, true, true, true, false] rfl rfl (by kernel_rfl) (fun _ _ _ h => h) (Or.inl ⟨by rfl, ?_⟩) ?_ ?_
        rotate_left
        · intro w'
          go_simp
          with_reducible rfl
        rotate_left
        · simp only [Act.put, List.setIfInBounds_toArray, List.set_cons_zero, List.set_cons_succ, i64_w, i32_w]
          rfl
        refine pure_ (i := 13) (N := some 171) (v := ?_) (a' := ?_) #[true, true, true, true, true, true, true, true, true, true, true, true, true, true] rfl rfl (by kernel_rfl) (fun _ _ _ h => h) (Or.inl ⟨by rfl, ?_⟩) ?_ ?_
        rotate_left
        · intro w'
          go_simp
          with_reducible rfl
        rotate_left
        · simp only [Act.put, List.setIfInBounds_toArray, List.set_cons_zero, List.set_cons_succ, i64_w, i32_w]
          rfl
        refine done_ (by kernel_rfl) ?_
        clear hHeld hx hy
        clear hw3
        go_wp2
        go_roundg k'
        case measure => omega
        case rel => exact ⟨mid + 1, hi, by go_num, rfl, ⟨by omega, by omega, by omega, by omega⟩, HG, HS3⟩
    · have hg := HF.out
      rw [bs_end _ _ _ _ hlt] at hg
      subst hg
      obtain ⟨en, hen⟩ : ∃ en, n - lo = en := ⟨_, rfl⟩
      have hen' : (n : Int) - (lo : Int) = (en : Int) := by omega
      obtain ⟨x1, hx1⟩ : ∃ x1, (if lo < m ∧ m < en then Srt.rotF (0 : Int) m (en - lo) (m - lo) (en - m) xs0 else xs0) = x1 := ⟨_, rfl⟩
      obtain ⟨x2, hx2⟩ : ∃ x2, (if a < lo ∧ lo < md then Srt.symF (0 : Int) lt f a lo md x1 else x1) = x2 := ⟨_, rfl⟩
      have hsf : Srt.symF (0 : Int) lt (f + 1) a m b xs0 = _ := HSF.out
      rw [hen, hx1, hx2] at hsf
      have HX1 := Aside0.mk hx1
      have HX2 := Aside0.mk hx2
      have HX3 := Aside0.mk hsf
      have HE := Aside0.mk (show en ≤ N ∧ md ≤ N ∧ md - a ≤ f ∧ b - md ≤ f ∧ m ≤ en from ⟨by omega, by omega, by omega, by omega, by omega⟩)
      clear hx1 hx2 hsf hen z1 z2 z3 z4 z5 z6 z7
      go_upto_region 39 with fail
      go_cut [185] from 25 (fun v wz => v = .bool (decide (lo < m ∧ m < en)) ∧ wz = wr)
      case first => as_aux_lemma =>
        by_cases e1 : lo < m
        · have e1' := decide_eq_true (Int.ofNat_lt.2 e1)
          by_cases e2 : m < en
          · have e2' := decide_eq_true (Int.ofNat_lt.2 e2)
            have e3 : decide (lo < m ∧ m < en) = true := decide_eq_true ⟨e1, e2⟩
            go_wp2_with fail
            go_meet
            case rel => exact ⟨by rw [e3], rfl⟩
          · have e2' := decide_eq_false (fun h => e2 (Int.ofNat_lt.1 h))
            have e3 : decide (lo < m ∧ m < en) = false := decide_eq_false (fun h => e2 h.2)
            go_wp2_with fail
            go_meet
            case rel => exact ⟨by rw [e3], rfl⟩
        · have e1' := decide_eq_false (fun h => e1 (Int.ofNat_lt.1 h))
          have e3 : decide (lo < m ∧ m < en) = false := decide_eq_false (fun h => e1 h.1)
          go_wp2_with fail
          go_meet
          case rel => exact ⟨by rw [e3], rfl⟩
      case rest => as_aux_lemma =>
        obtain ⟨rfl, rfl⟩ := hcut
        go_upto_if 185 with fail
        go_cut [] from 25 (fun wz => Aside0 (SS g c N w0 I Q wz x1))
        case first => as_aux_lemma =>
          have hx1 := HX1.out
          by_cases hc : lo < m ∧ m < en
          · simp only [decide_eq_true hc]
            rw [if_pos hc] at hx1
            obtain ⟨d1, d2⟩ := hc
            have HY := Aside0.mk hx1
            clear hx1
            go_wp2_with (go_at_call 138; refine (rot_calls g c N w0 I Q lo m en xs0 _ _ hI HW.out d1 d2 HE.out.1).mono ?_; rw [HY.out]; rintro e w1 ⟨⟨r, rfl⟩, hs1⟩; have HS1 := Aside0.mk hs1; clear hs1)
            go_meet
            case rel => exact HS1
          · simp only [decide_eq_false hc]
            rw [if_neg hc] at hx1
            have HY := Aside0.mk hx1
            clear hx1
            go_wp2_with fail
            go_meet
            case rel => exact ⟨by rw [← HY.out]; exact HW.out⟩
        case rest => as_aux_lemma =>
          have HV1 := hcut
          go_upto_region 41 with fail
          go_cut [199] from 25 (fun v wz => v = .bool (decide (a < lo ∧ lo < md)) ∧ wz = wc)
          case first => as_aux_lemma =>
            by_cases e1 : a < lo
            · have e1' := decide_eq_true (Int.ofNat_lt.2 e1)
              by_cases e2 : lo < md
              · have e2' := decide_eq_true (Int.ofNat_lt.2 e2)
                have e3 : decide (a < lo ∧ lo < md) = true := decide_eq_true ⟨e1, e2⟩
                go_wp2_with fail
                go_meet
                case rel => exact ⟨by rw [e3], rfl⟩
              · have e2' := decide_eq_false (fun h => e2 (Int.ofNat_lt.1 h))
                have e3 : decide (a < lo ∧ lo < md) = false := decide_eq_false (fun h => e2 h.2)
                go_wp2_with fail
                go_meet
                case rel => exact ⟨by rw [e3], rfl⟩
            · have e1' := decide_eq_false (fun h => e1 (Int.ofNat_lt.1 h))
              have e3 : decide (a < lo ∧ lo < md) = false := decide_eq_false (fun h => e1 h.1)
              go_wp2_with fail
              go_meet
              case rel => exact ⟨by rw [e3], rfl⟩
          case rest => as_aux_lemma =>
            obtain ⟨rfl, rfl⟩ := hcut
            go_upto_if 199 with fail
            go_cut [] from 25 (fun wz => Aside0 (SS g c N w0 I Q wz x2))
            case first => as_aux_lemma =>
              have hx1 := HX2.out
              by_cases hc : a < lo ∧ lo < md
              · simp only [decide_eq_true hc]
                rw [if_pos hc] at hx1
                obtain ⟨d1, d2⟩ := hc
                have HY := Aside0.mk hx1
                clear hx1
                go_wp2_with (go_at_call 122; refine (IH.out a lo md x1 _ HV1.out d1 d2 HE.out.2.1 HE.out.2.2.1).mono ?_; rw [HY.out]; rintro e w1 ⟨⟨r, rfl⟩, hs1⟩; have HS1 := Aside0.mk hs1; clear hs1)
                go_meet
                case rel => exact HS1
              · simp only [decide_eq_false hc]
                rw [if_neg hc] at hx1
                have HY := Aside0.mk hx1
                clear hx1
                go_wp2_with fail
                go_meet
                case rel => exact ⟨by rw [← HY.out]; exact HV1.out⟩
            case rest => as_aux_lemma =>
              have HV2 := hcut
              go_upto_region 43 with fail
              go_cut [213] from 25 (fun v wz => v = .bool (decide (md < en ∧ en < b)) ∧ wz = wc)
              case first => as_aux_lemma =>
                by_cases e1 : md < en
                · have e1' := decide_eq_true (Int.ofNat_lt.2 e1)
                  by_cases e2 : en < b
                  · have e2' := decide_eq_true (Int.ofNat_lt.2 e2)
                    have e3 : decide (md < en ∧ en < b) = true := decide_eq_true ⟨e1, e2⟩
                    go_wp2_with fail
                    go_meet
                    case rel => exact ⟨by rw [e3], rfl⟩
                  · have e2' := decide_eq_false (fun h => e2 (Int.ofNat_lt.1 h))
                    have e3 : decide (md < en ∧ en < b) = false := decide_eq_false (fun h => e2 h.2)
                    go_wp2_with fail
                    go_meet
                    case rel => exact ⟨by rw [e3], rfl⟩
                · have e1' := decide_eq_false (fun h => e1 (Int.ofNat_lt.1 h))
                  have e3 : decide (md < en ∧ en < b) = false := decide_eq_false (fun h => e1 h.1)
                  go_wp2_with fail
                  go_meet
                  case rel => exact ⟨by rw [e3], rfl⟩
              case rest => as_aux_lemma =>
                obtain ⟨rfl, rfl⟩ := hcut
                go_upto_if 213 with fail
                have hx1 := HX3.out
                by_cases hc : md < en ∧ en < b
                · simp only [decide_eq_true hc]
                  rw [if_pos hc] at hx1
                  obtain ⟨d1, d2⟩ := hc
                  have HY := Aside0.mk hx1
                  clear hx1
                  go_wp2_with (go_at_call 122; refine (IH.out md en b x2 _ HV2.out d1 d2 hbN HE.out.2.2.2.1).mono ?_; rintro e w1 ⟨⟨r, rfl⟩, hs1⟩; have HS1 := Aside0.mk hs1; clear hs1)
                  refine ⟨rfl, .tuple #[], ?_, ⟨_, rfl⟩, ?_⟩
                  · simp [results, Try.results122, go_sem]
                  · rw [HY.out]; exact HS1.out
                · simp only [decide_eq_false hc]
                  rw [if_neg hc] at hx1
                  have HY := Aside0.mk hx1
                  clear hx1
                  go_wp2_with fail
                  refine ⟨rfl, .tuple #[], ?_, ⟨_, rfl⟩, ?_⟩
                  · simp [results, Try.results122, go_sem]
                  · rw [HY.out]; exact HV2.out
end Go.Proofs.Ytokijibpdnepiaa.X
end
section
namespace Go.Proofs.Ytokijibpdnepiaa.X
open Go.RowKit Go.Proofs.YtokijibpdnepiaaW.PrintWords Go.Proofs.YtokijibpdnepiaaW.PrintLast Go.Proofs.YtokijibpdnepiaaW.PrintMore
attribute [local go_sem] max2_int min2_int max_two min_two max_three min_three max_four min_four
set_option linter.unusedVariables false
set_option linter.unusedSimpArgs false
set_option maxHeartbeats 8000000 in
set_option maxRecDepth 100000 in
theorem sym_lo (g c N : Nat) (w0 : World) (I : World → Prop) (Q : Int → Prop) (lt : Int → Int → Bool) (caps : Array Value) (hI : Stays g I) (hC : Cmp caps I Q lt) (hN2 : N ≤ 4611686018427387903) (f : Nat) (ih : SymIH g c N w0 I Q lt caps f) (a m b : Nat) (xs0 : List Int) (w : World) (h : SS g c N w0 I Q w xs0) (ham : a < m) (hmb : m < b) (hbN : b ≤ N) (hf : b - a ≤ f + 1) (c1 : ¬ m - a = 1) (c2 : ¬ b - m = 1) (cm : ¬ (a + b) / 2 < m) :
    Calls Try.prog 122 #[.slice (some ⟨g, 0, none⟩) N c, .int .i64 (a : Int), .int .i64 (m : Int), .int .i64 (b : Int), .func (.func 72) #[] caps] w fun e w' => (∃ r, e = .returned r) ∧ SS g c N w0 I Q w' (Srt.symF (0 : Int) lt (f + 1) a m b xs0) := by
  have HS := Aside0.mk h
  have HC := Aside0.mk hC
  have IH := Aside0.mk ih
  clear h hC ih
  obtain ⟨dm, hdm⟩ : ∃ dm, m - a = dm := ⟨_, rfl⟩
  have hdm' : (m : Int) - (a : Int) = (dm : Int) := by omega
  have hdn : ¬ ((dm : Int) = 1) := by omega
  have hdnb : ((dm : Int) == 1) = false := beq_eq_false_iff_ne.2 hdn
  have HDM := Aside0.mk hdm
  clear hdm
  obtain ⟨db, hdb⟩ : ∃ db, b - m = db := ⟨_, rfl⟩
  have hdb' : (b : Int) - (m : Int) = (db : Int) := by omega
  have hdbn : ¬ ((db : Int) = 1) := by omega
  have hdbb : ((db : Int) == 1) = false := beq_eq_false_iff_ne.2 hdbn
  obtain ⟨md, hmd⟩ : ∃ md, (a + b) / 2 = md := ⟨_, rfl⟩
  have hmd' : ((a : Int) + (b : Int)) / 2 = (md : Int) := by omega
  obtain ⟨n, hn⟩ : ∃ n, md + m = n := ⟨_, rfl⟩
  have hn' : (md : Int) + (m : Int) = (n : Int) := by omega
  obtain ⟨p, hp⟩ : ∃ p, n - 1 = p := ⟨_, rfl⟩
  have hp' : (n : Int) - 1 = (p : Int) := by omega
  have hF := Srt.symF.eq_2 (0 : Int) lt a m b xs0 f
  rw [if_neg c1, if_neg c2] at hF
  dsimp only at hF
  rw [hmd, hn, hp] at hF
  rw [hmd] at cm
  rw [if_neg cm, if_neg cm] at hF
  obtain ⟨st, hst⟩ : ∃ st, Srt.bs (fun h => !lt (Srt.g (0 : Int) xs0 (p - h)) (Srt.g (0 : Int) xs0 h)) (m - a) a m = st := ⟨_, rfl⟩
  rw [hst] at hF
  have HST := Aside0.mk hst
  have HSF := Aside0.mk hF
  have HB := Aside0.mk (show a ≤ a ∧ a ≤ m ∧ m ≤ m ∧ m ≤ md ∧ n ≤ b + a ∧ n = md + m ∧ p + 1 = n ∧ md < b ∧ a < md ∧ md ≤ a + f ∧ b ≤ md + f from ⟨by omega, by omega, by omega, by omega, by omega, by omega, by omega, by omega, by omega, by omega, by omega⟩)
  clear hst hF
  go_enter Try.func122, Try.ntmps122
  go_wp2_with fail
  go_loopg [20, 21] (m - a) (fun kq v20 v21 wr => ∃ lo hi : Nat, v20 = .int .i64 (lo : Int) ∧ v21 = .int .i64 (hi : Int) ∧ Aside0 (a ≤ lo ∧ lo ≤ hi ∧ hi ≤ m ∧ hi - lo ≤ kq) ∧ Aside0 (Srt.bs (fun h => !lt (Srt.g (0 : Int) xs0 (p - h)) (Srt.g (0 : Int) xs0 h)) kq lo hi = st) ∧ Aside0 (SS g c N w0 I Q wr xs0))
  case atStart => exact ⟨a, m, rfl, rfl, ⟨by omega, by omega, by omega, by omega⟩, HST, HS⟩
  case round => as_aux_lemma =>
    obtain ⟨lo, hi, rfl, rfl, HK, HF, HW⟩ := hrel
    obtain ⟨k1, k2, k3, k4⟩ := HK.out
    obtain ⟨z1, z2, z3, z4, z5, z6, z7, z8, z9, z10, z11⟩ := HB.out
    by_cases hlt : lo < hi
    · obtain ⟨k', rfl⟩ : ∃ k', gk = k' + 1 := ⟨gk - 1, by omega⟩
      obtain ⟨mid, hm⟩ : ∃ mid, (lo + hi) / 2 = mid := ⟨_, rfl⟩
      obtain ⟨q, hq⟩ : ∃ q, p - mid = q := ⟨_, rfl⟩
      have hq' : (p : Int) - (mid : Int) = (q : Int) := by omega
      have hg := HF.out
      rw [bs_step _ _ _ _ _ hlt hm, hq] at hg
      have hi1 : q < N := by omega
      have hi2 : mid < N := by omega
      have hq1 := HW.out.qg q hi1
      have HQ1 := Aside0.mk hq1
      clear hq1
      have hx := HW.out.cell q hi1
      have hb0 := eq_true (show 0 ≤ (q : Int) by omega)
      have hb1 := eq_true (show (q : Int) < (N : Int) by omega)
      have hq2 := HW.out.qg mid hi2
      have HQ2 := Aside0.mk hq2
      clear hq2
      have hy := HW.out.cell mid hi2
      have hb2 := eq_true (show 0 ≤ (mid : Int) by omega)
      have hb3 := eq_true (show (mid : Int) < (N : Int) by omega)
      have hw3 : Go.RowKit.wrap64 (q : Int) = (q : Int) := w64n hi1 (by omega)
      have hmd2 : ((lo : Int) + (hi : Int)) / 2 = (mid : Int) := by omega
      have b5 : lo ≤ mid := by omega
      have b6 : mid < hi := by omega
      cases hlt2 : lt (Srt.g (0 : Int) xs0 q) (Srt.g (0 : Int) xs0 mid) with
      | true =>
        rw [hlt2, Bool.not_true, if_neg (by decide)] at hg
        have HG := Aside0.mk hg
        have HLT := Aside0.mk hlt2
        have HM := Aside0.mk hm
        clear hg hlt2 hm hq z1 z2 z3 z4 z5 z6 z7 z8 z9 z10 z11
        go_wp2_with fail
        refine start_ (n := 14) (S := fun w' => w'.cell? ⟨g, q, none⟩ = some (.int .i64 (Srt.g 0 xs0 (q))) ∧ w'.cell? ⟨g, mid, none⟩ = some (.int .i64 (Srt.g 0 xs0 (mid)))) (ds := [11]) #[false, false, false, false, false, false, false, false, false, false, false, false, false, false] (by kernel_rfl) rfl rfl ⟨hx, hy⟩ (fun hHeld => ?_)
        obtain ⟨E, hE⟩ : ∃ E, wr.drew = E := ⟨_, rfl⟩
        have HSE := Aside0.mk (show SS g c N w0 I Q E xs0 by rw [← hE]; exact HW.out.step hI (below_drew1 (Below.refl _ _)))
        rw [hE] at hHeld ⊢
        clear hE
        refine pure_ (i := 0) (N := some 158) (v := ?_) (a' := ?_) #[true, false, false, false, false, false, false, false, false, false, false, false, false, false] rfl rfl (by kernel_rfl) (fun _ _ _ h => h) (Or.inl ⟨by rfl, ?_⟩) ?_ ?_
        rotate_left
        · intro w'
          go_simp
          with_reducible rfl
        rotate_left
        · simp only [Act.put, List.setIfInBounds_toArray, List.set_cons_zero, List.set_cons_succ, i64_w, i32_w]
          rfl
        refine pure_ (i := 1) (N := some 159) (v := ?_) (a' := ?_) #[true, true, false, false, false, false, false, false, false, false, false, false, false, false] rfl rfl (by kernel_rfl) (fun _ _ _ h => h) (Or.inl ⟨by rfl, ?_⟩) ?_ ?_
        rotate_left
        · intro w'
          go_simp
          with_reducible rfl
        rotate_left
        · simp only [Act.put, List.setIfInBounds_toArray, List.set_cons_zero, List.set_cons_succ, i64_w, i32_w]
          rfl
        refine pure_ (i := 2) (N := some 160) (v := ?_) (a' := ?_) #[true, true, true, false, false, false, false, false, false, false, false, false, false, false] rfl rfl (by kernel_rfl) (fun _ _ _ h => h) (Or.inl ⟨by rfl, ?_⟩) ?_ ?_
        rotate_left
        · intro w'
          go_simp
          with_reducible rfl
        rotate_left
        · simp only [Act.put, List.setIfInBounds_toArray, List.set_cons_zero, List.set_cons_succ, i64_w, i32_w]
          rfl
        refine pure_ (i := 3) (N := some 161) (v := ?_) (a' := ?_) #[true, true, true, true, false, false, false, false, false, false, false, false, false, false] rfl rfl (by kernel_rfl) (fun _ _ _ h => h) (Or.inl ⟨by rfl, ?_⟩) ?_ ?_
        rotate_left
        · intro w'
          go_simp
          with_reducible rfl
        rotate_left
        · simp only [Act.put, List.setIfInBounds_toArray, List.set_cons_zero, List.set_cons_succ, i64_w, i32_w]
          rfl
        refine pure_ (i := 4) (N := some 162) (v := ?_) (a' := ?_) #[true, true, true, true, true, false, false, false, false, false, false, false, false, false] rfl rfl (by kernel_rfl) (fun _ _ _ h => h) (Or.inl ⟨by rfl, ?_⟩) ?_ ?_
        rotate_left
        · intro w'
          go_simp
          with_reducible rfl
        rotate_left
        · simp only [Act.put, List.setIfInBounds_toArray, List.set_cons_zero, List.set_cons_succ, i64_w, i32_w]
          rfl
        refine pure_ (i := 5) (N := some 163) (v := ?_) (a' := ?_) #[true, true, true, true, true, true, false, false, false, false, false, false, false, false] rfl rfl (by kernel_rfl) (fun _ _ _ h => h) (Or.inl ⟨by rfl, ?_⟩) ?_ ?_
        rotate_left
        · intro w'
          go_simp
          with_reducible rfl
        rotate_left
        · simp only [Act.put, List.setIfInBounds_toArray, List.set_cons_zero, List.set_cons_succ, i64_w, i32_w]
          rfl
        refine take_ (i := 6) (N := some 164) (v := ?_) (a' := ?_) #[true, true, true, true, true, true, true, false, false, false, false, false, false, false] rfl rfl (by kernel_rfl) (fun _ _ _ h => h) (Or.inl ⟨by rfl, ?_⟩) hHeld ?_ ?_
        rotate_left
        · rintro w' ⟨s0, s1⟩
          go_simp
          with_reducible rfl
        rotate_left
        · simp only [Act.put, List.setIfInBounds_toArray, List.set_cons_zero, List.set_cons_succ, i64_w, i32_w]
          rfl
        refine pure_ (i := 7) (N := some 165) (v := ?_) (a' := ?_) #[true, true, true, true, true, true, true, true, false, false, false, false, false, false] rfl rfl (by kernel_rfl) (fun _ _ _ h => h) (Or.inl ⟨by rfl, ?_⟩) ?_ ?_
        rotate_left
        · intro w'
          go_simp
          with_reducible rfl
        rotate_left
        · simp only [Act.put, List.setIfInBounds_toArray, List.set_cons_zero, List.set_cons_succ, i64_w, i32_w]
          rfl
        refine pure_ (i := 8) (N := some 166) (v := ?_) (a' := ?_) #[true, true, true, true, true, true, true, true, true, false, false, false, false, false] rfl rfl (by kernel_rfl) (fun _ _ _ h => h) (Or.inl ⟨by rfl, ?_⟩) ?_ ?_
        rotate_left
        · intro w'
          go_simp
          with_reducible rfl
        rotate_left
        · simp only [Act.put, List.setIfInBounds_toArray, List.set_cons_zero, List.set_cons_succ, i64_w, i32_w]
          rfl
        refine pure_ (i := 9) (N := some 167) (v := ?_) (a' := ?_) #[true, true, true, true, true, true, true, true, true, true, false, false, false, false] rfl rfl (by kernel_rfl) (fun _ _ _ h => h) (Or.inl ⟨by rfl, ?_⟩) ?_ ?_
        rotate_left
        · intro w'
          go_simp
          with_reducible rfl
        rotate_left
        · simp only [Act.put, List.setIfInBounds_toArray, List.set_cons_zero, List.set_cons_succ, i64_w, i32_w]
          rfl
        refine take_ (i := 10) (N := some 168) (v := ?_) (a' := ?_) #[true, true, true, true, true, true, true, true, true, true, true, false, false, false] rfl rfl (by kernel_rfl) (fun _ _ _ h => h) (Or.inl ⟨by rfl, ?_⟩) hHeld ?_ ?_
        rotate_left
        · rintro w' ⟨s0, s1⟩
          go_simp
          with_reducible rfl
        rotate_left
        · simp only [Act.put, List.setIfInBounds_toArray, List.set_cons_zero, List.set_cons_succ, i64_w, i32_w]
          rfl
        refine last_ (i := 11) (N := some 169) #[true, true, true, true, true, true, true, true, true, true, true, true, false, false] rfl rfl (by kernel_rfl) (by decide) (fun K hK => ?_)
        refine goesC_ (caps := caps) Try.func72 (by kernel_rfl) rfl #[.int .i64 (Srt.g (0 : Int) xs0 q), .int .i64 (Srt.g (0 : Int) xs0 mid)] (by rfl) rfl rfl rfl (by (try simp only [List.map_toArray, List.map_cons, List.map_nil]); first | done | rfl) ?_
        refine (HC.out _ _ _ HQ1.out HQ2.out HSE.out.inv).mono ?_
        rintro e w3 ⟨v, rfl, hv, hb3⟩
        rw [HLT.out] at hv
        refine ⟨_, rfl, ?_⟩
        have HS3 := Aside0.mk (HSE.out.step hI hb3)
        refine hK.out _ _ ?_
        clear hK K hb3
        refine norm_ (a' := ?_) ?_ ?_
        rotate_left
        · show Act.put _ (some 169) _ = _
          simp only [Act.put, List.setIfInBounds_toArray, List.set_cons_zero, List.set_cons_succ, i64_w, i32_w]
          rfl
        refine pure_ (i := 12) (N := some 170) (v := ?_) (a' := ?_) #[true, true, true, true, true, true, true, true, true, true, true, true, true, false] rfl rfl (by kernel_rfl) (fun _ _ _ h => h) (Or.inl ⟨by rfl, ?_⟩) ?_ ?_
        rotate_left
        · intro w'
          go_simp
          with_reducible rfl
        rotate_left
        · simp only [Act.put, List.setIfInBounds_toArray, List.set_cons_zero, List.set_cons_succ, i64_w, i32_w]
          rfl
        refine pure_ (i := 13) (N := some 171) (v := ?_) (a' := ?_) #[true, true, true, true, true, true, true, true, true, true, true, true, true, true] rfl rfl (by kernel_rfl) (fun _ _ _ h => h) (Or.inl ⟨by rfl, ?_⟩) ?_ ?_
        rotate_left
        · intro w'
          go_simp
          with_reducible rfl
        rotate_left
        · simp only [Act.put, List.setIfInBounds_toArray, List.set_cons_zero, List.set_cons_succ, i64_w, i32_w]
          rfl
        refine done_ (by kernel_rfl) ?_
        clear hHeld hx hy
        clear hw3
        go_wp2
        go_roundg k'
        case measure => omega
        case rel => exact ⟨lo, mid, rfl, by go_num, ⟨by omega, by omega, by omega, by omega⟩, HG, HS3⟩
      | false =>
        rw [hlt2, Bool.not_false, if_pos rfl] at hg
        have HG := Aside0.mk hg
        have HLT := Aside0.mk hlt2
        have HM := Aside0.mk hm
        clear hg hlt2 hm hq z1 z2 z3 z4 z5 z6 z7 z8 z9 z10 z11
        go_wp2_with fail
        refine start_ (n := 14) (S := fun w' => w'.cell? ⟨g, q, none⟩ = some (.int .i64 (Srt.g 0 xs0 (q))) ∧ w'.cell? ⟨g, mid, none⟩ = some (.int .i64 (Srt.g 0 xs0 (mid)))) (ds := [11]) #[false, false, false, false, false, false, false, false, false, false, false, false, false, false] (by kernel_rfl) rfl rfl ⟨hx, hy⟩ (fun hHeld => ?_)
        obtain ⟨E, hE⟩ : ∃ E, wr.drew = E := ⟨_, rfl⟩
        have HSE := Aside0.mk (show SS g c N w0 I Q E xs0 by rw [← hE]; exact HW.out.step hI (below_drew1 (Below.refl _ _)))
        rw [hE] at hHeld ⊢
        clear hE
        refine pure_ (i := 0) (N := some 158) (v := ?_) (a' := ?_) #[true, false, false, false, false, false, false, false, false, false, false, false, false, false] rfl rfl (by kernel_rfl) (fun _ _ _ h => h) (Or.inl ⟨by rfl, ?_⟩) ?_ ?_
        rotate_left
        · intro w'
          go_simp
          with_reducible rfl
        rotate_left
        · simp only [Act.put, List.setIfInBounds_toArray, List.set_cons_zero, List.set_cons_succ, i64_w, i32_w]
          rfl
        refine pure_ (i := 1) (N := some 159) (v := ?_) (a' := ?_) #[true, true, false, false, false, false, false, false, false, false, false, false, false, false] rfl rfl (by kernel_rfl) (fun _ _ _ h => h) (Or.inl ⟨by rfl, ?_⟩) ?_ ?_
        rotate_left
        · intro w'
          go_simp
          with_reducible rfl
        rotate_left
        · simp only [Act.put, List.setIfInBounds_toArray, List.set_cons_zero, List.set_cons_succ, i64_w, i32_w]
          rfl
        refine pure_ (i := 2) (N := some 160) (v := ?_) (a' := ?_) #[true, true, true, false, false, false, false, false, false, false, false, false, false, false] rfl rfl (by kernel_rfl) (fun _ _ _ h => h) (Or.inl ⟨by rfl, ?_⟩) ?_ ?_
        rotate_left
        · intro w'
          go_simp
          with_reducible rfl
        rotate_left
        · simp only [Act.put, List.setIfInBounds_toArray, List.set_cons_zero, List.set_cons_succ, i64_w, i32_w]
          rfl
        refine pure_ (i := 3) (N := some 161) (v := ?_) (a' := ?_) #[true, true, true, true, false, false, false, false, false, false, false, false, false, false] rfl rfl (by kernel_rfl) (fun _ _ _ h => h) (Or.inl ⟨by rfl, ?_⟩) ?_ ?_
        rotate_left
        · intro w'
          go_simp
          with_reducible rfl
        rotate_left
        · simp only [Act.put, List.setIfInBounds_toArray, List.set_cons_zero, List.set_cons_succ, i64_w, i32_w]
          rfl
        refine pure_ (i := 4) (N := some 162) (v := ?_) (a' := ?_) #[true, true, true, true, true, false, false, false, false, false, false, false, false, false] rfl rfl (by kernel_rfl) (fun _ _ _ h => h) (Or.inl ⟨by rfl, ?_⟩) ?_ ?_
        rotate_left
        · intro w'
          go_simp
          with_reducible rfl
        rotate_left
        · simp only [Act.put, List.setIfInBounds_toArray, List.set_cons_zero, List.set_cons_succ, i64_w, i32_w]
          rfl
        refine pure_ (i := 5) (N := some 163) (v := ?_) (a' := ?_) #[true, true, true, true, true, true, false, false, false, false, false, false, false, false] rfl rfl (by kernel_rfl) (fun _ _ _ h => h) (Or.inl ⟨by rfl, ?_⟩) ?_ ?_
        rotate_left
        · intro w'
          go_simp
          with_reducible rfl
        rotate_left
        · simp only [Act.put, List.setIfInBounds_toArray, List.set_cons_zero, List.set_cons_succ, i64_w, i32_w]
          rfl
        refine take_ (i := 6) (N := some 164) (v := ?_) (a' := ?_) #[true, true, true, true, true, true, true, false, false, false, false, false, false, false] rfl rfl (by kernel_rfl) (fun _ _ _ h => h) (Or.inl ⟨by rfl, ?_⟩) hHeld ?_ ?_
        rotate_left
        · rintro w' ⟨s0, s1⟩
          go_simp
          with_reducible rfl
        rotate_left
        · simp only [Act.put, List.setIfInBounds_toArray, List.set_cons_zero, List.set_cons_succ, i64_w, i32_w]
          rfl
        refine pure_ (i := 7) (N := some 165) (v := ?_) (a' := ?_) #[true, true, true, true, true, true, true, true, false, false, false, false, false, false] rfl rfl (by kernel_rfl) (fun _ _ _ h => h) (Or.inl ⟨by rfl, ?_⟩) ?_ ?_
        rotate_left
        · intro w'
          go_simp
          with_reducible rfl
        rotate_left
        · simp only [Act.put, List.setIfInBounds_toArray, List.set_cons_zero, List.set_cons_succ, i64_w, i32_w]
          rfl
        refine pure_ (i := 8) (N := some 166) (v := ?_) (a' := ?_) #[true, true, true, true, true, true, true, true, true, false, false, false, false, false] rfl rfl (by kernel_rfl) (fun _ _ _ h => h) (Or.inl ⟨by rfl, ?_⟩) ?_ ?_
        rotate_left
        · intro w'
          go_simp
          with_reducible rfl
        rotate_left
        · simp only [Act.put, List.setIfInBounds_toArray, List.set_cons_zero, List.set_cons_succ, i64_w, i32_w]
          rfl
        refine pure_ (i := 9) (N := some 167) (v := ?_) (a' := ?_) #[true, true, true, true, true, true, true, true, true, true, false, false, false, false] rfl rfl (by kernel_rfl) (fun _ _ _ h => h) (Or.inl ⟨by rfl, ?_⟩) ?_ ?_
        rotate_left
        · intro w'
          go_simp
          with_reducible rfl
        rotate_left
        · simp only [Act.put, List.setIfInBounds_toArray, List.set_cons_zero, List.set_cons_succ, i64_w, i32_w]
          rfl
        refine take_ (i := 10) (N := some 168) (v := ?_) (a' := ?_) #[true, true, true, true, true, true, true, true, true, true, true, false, false, false] rfl rfl (by kernel_rfl) (fun _ _ _ h => h) (Or.inl ⟨by rfl, ?_⟩) hHeld ?_ ?_
        rotate_left
        · rintro w' ⟨s0, s1⟩
          go_simp
          with_reducible rfl
        rotate_left
        · simp only [Act.put, List.setIfInBounds_toArray, List.set_cons_zero, List.set_cons_succ, i64_w, i32_w]
          rfl
        refine last_ (i := 11) (N := some 169) #[true, true, true, true, true, true, true, true, true, true, true, true, false, false] rfl rfl (by kernel_rfl) (by decide) (fun K hK => ?_)
        refine goesC_ (caps := caps) Try.func72 (by kernel_rfl) rfl #[.int .i64 (Srt.g (0 : Int) xs0 q), .int .i64 (Srt.g (0 : Int) xs0 mid)] (by rfl) rfl rfl rfl (by (try simp only [List.map_toArray, List.map_cons, List.map_nil]); first | done | rfl) ?_
        refine (HC.out _ _ _ HQ1.out HQ2.out HSE.out.inv).mono ?_
        rintro e w3 ⟨v, rfl, hv, hb3⟩
        rw [HLT.out] at hv
        refine ⟨_, rfl, ?_⟩
        have HS3 := Aside0.mk (HSE.out.step hI hb3)
        refine hK.out _ _ ?_
        clear hK K hb3
        refine norm_ (a' := ?_) ?_ ?_
        rotate_left
        · show Act.put _ (some 169) _ = _
          simp only [Act.put, List.setIfInBounds_toArray, List.set_cons_zero, List.set_cons_succ, i64_w, i32_w]
          rfl
        refine pure_ (i := 12) (N := some 170) (v := ?_) (a' := ?_) #[true, true, true, true, true, true, true, true, true, true, true, true, true, false] rfl rfl (by kernel_rfl) (fun _ _ _ h => h) (Or.inl ⟨by rfl, ?_⟩) ?_ ?_
        rotate_left
        · intro w'
          go_simp
          with_reducible rfl
        rotate_left
        · simp only [Act.put, List.setIfInBounds_toArray, List.set_cons_zero, List.set_cons_succ, i64_w, i32_w]
          rfl
        refine pure_ (i := 13) (N := some 171) (v := ?_) (a' := ?_) #[true, true, true, true, true, true, true, true, true, true, true, true, true, true] rfl rfl (by kernel_rfl) (fun _ _ _ h => h) (Or.inl ⟨by rfl, ?_⟩) ?_ ?_
        rotate_left
        · intro w'
          go_simp
          with_reducible rfl
        rotate_left
        · simp only [Act.put, List.setIfInBounds_toArray, List.set_cons_zero, List.set_cons_succ, i64_w, i32_w]
          rfl
        refine done_ (by kernel_rfl) ?_
        clear hHeld hx hy
        clear hw3
        go_wp2
        go_roundg k'
        case measure => omega
        case rel => exact ⟨mid + 1, hi, by go_num, rfl, ⟨by omega, by omega, by omega, by omega⟩, HG, HS3⟩
    · have hg := HF.out
      rw [bs_end _ _ _ _ hlt] at hg
      subst hg
      obtain ⟨en, hen⟩ : ∃ en, n - lo = en := ⟨_, rfl⟩
      have hen' : (n : Int) - (lo : Int) = (en : Int) := by omega
      obtain ⟨x1, hx1⟩ : ∃ x1, (if lo < m ∧ m < en then Srt.rotF (0 : Int) m (en - lo) (m - lo) (en - m) xs0 else xs0) = x1 := ⟨_, rfl⟩
      obtain ⟨x2, hx2⟩ : ∃ x2, (if a < lo ∧ lo < md then Srt.symF (0 : Int) lt f a lo md x1 else x1) = x2 := ⟨_, rfl⟩
      have hsf : Srt.symF (0 : Int) lt (f + 1) a m b xs0 = _ := HSF.out
      rw [hen, hx1, hx2] at hsf
      have HX1 := Aside0.mk hx1
      have HX2 := Aside0.mk hx2
      have HX3 := Aside0.mk hsf
      have HE := Aside0.mk (show en ≤ N ∧ md ≤ N ∧ md - a ≤ f ∧ b - md ≤ f ∧ m ≤ en from ⟨by omega, by omega, by omega, by omega, by omega⟩)
      clear hx1 hx2 hsf hen z1 z2 z3 z4 z5 z6 z7
      go_upto_region 39 with fail
      go_cut [185] from 25 (fun v wz => v = .bool (decide (lo < m ∧ m < en)) ∧ wz = wr)
      case first => as_aux_lemma =>
        by_cases e1 : lo < m
        · have e1' := decide_eq_true (Int.ofNat_lt.2 e1)
          by_cases e2 : m < en
          · have e2' := decide_eq_true (Int.ofNat_lt.2 e2)
            have e3 : decide (lo < m ∧ m < en) = true := decide_eq_true ⟨e1, e2⟩
            go_wp2_with fail
            go_meet
            case rel => exact ⟨by rw [e3], rfl⟩
          · have e2' := decide_eq_false (fun h => e2 (Int.ofNat_lt.1 h))
            have e3 : decide (lo < m ∧ m < en) = false := decide_eq_false (fun h => e2 h.2)
            go_wp2_with fail
            go_meet
            case rel => exact ⟨by rw [e3], rfl⟩
        · have e1' := decide_eq_false (fun h => e1 (Int.ofNat_lt.1 h))
          have e3 : decide (lo < m ∧ m < en) = false := decide_eq_false (fun h => e1 h.1)
          go_wp2_with fail
          go_meet
          case rel => exact ⟨by rw [e3], rfl⟩
      case rest => as_aux_lemma =>
        obtain ⟨rfl, rfl⟩ := hcut
        go_upto_if 185 with fail
        go_cut [] from 25 (fun wz => Aside0 (SS g c N w0 I Q wz x1))
        case first => as_aux_lemma =>
          have hx1 := HX1.out
          by_cases hc : lo < m ∧ m < en
          · simp only [decide_eq_true hc]
            rw [if_pos hc] at hx1
            obtain ⟨d1, d2⟩ := hc
            have HY := Aside0.mk hx1
            clear hx1
            go_wp2_with (go_at_call 138; refine (rot_calls g c N w0 I Q lo m en xs0 _ _ hI HW.out d1 d2 HE.out.1).mono ?_; rw [HY.out]; rintro e w1 ⟨⟨r, rfl⟩, hs1⟩; have HS1 := Aside0.mk hs1; clear hs1)
            go_meet
            case rel => exact HS1
          · simp only [decide_eq_false hc]
            rw [if_neg hc] at hx1
            have HY := Aside0.mk hx1
            clear hx1
            go_wp2_with fail
            go_meet
            case rel => exact ⟨by rw [← HY.out]; exact HW.out⟩
        case rest => as_aux_lemma =>
          have HV1 := hcut
          go_upto_region 41 with fail
          go_cut [199] from 25 (fun v wz => v = .bool (decide (a < lo ∧ lo < md)) ∧ wz = wc)
          case first => as_aux_lemma =>
            by_cases e1 : a < lo
            · have e1' := decide_eq_true (Int.ofNat_lt.2 e1)
              by_cases e2 : lo < md
              · have e2' := decide_eq_true (Int.ofNat_lt.2 e2)
                have e3 : decide (a < lo ∧ lo < md) = true := decide_eq_true ⟨e1, e2⟩
                go_wp2_with fail
                go_meet
                case rel => exact ⟨by rw [e3], rfl⟩
              · have e2' := decide_eq_false (fun h => e2 (Int.ofNat_lt.1 h))
                have e3 : decide (a < lo ∧ lo < md) = false := decide_eq_false (fun h => e2 h.2)
                go_wp2_with fail
                go_meet
                case rel => exact ⟨by rw [e3], rfl⟩
            · have e1' := decide_eq_false (fun h => e1 (Int.ofNat_lt.1 h))
              have e3 : decide (a < lo ∧ lo < md) = false := decide_eq_false (fun h => e1 h.1)
              go_wp2_with fail
              go_meet
              case rel => exact ⟨by rw [e3], rfl⟩
          case rest => as_aux_lemma =>
            obtain ⟨rfl, rfl⟩ := hcut
            go_upto_if 199 with fail
            go_cut [] from 25 (fun wz => Aside0 (SS g c N w0 I Q wz x2))
            case first => as_aux_lemma =>
              have hx1 := HX2.out
              by_cases hc : a < lo ∧ lo < md
              · simp only [decide_eq_true hc]
                rw [if_pos hc] at hx1
                obtain ⟨d1, d2⟩ := hc
                have HY := Aside0.mk hx1
                clear hx1
                go_wp2_with (go_at_call 122; refine (IH.out a lo md x1 _ HV1.out d1 d2 HE.out.2.1 HE.out.2.2.1).mono ?_; rw [HY.out]; rintro e w1 ⟨⟨r, rfl⟩, hs1⟩; have HS1 := Aside0.mk hs1; clear hs1)
                go_meet
                case rel => exact HS1
              · simp only [decide_eq_false hc]
                rw [if_neg hc] at hx1
                have HY := Aside0.mk hx1
                clear hx1
                go_wp2_with fail
                go_meet
                case rel => exact ⟨by rw [← HY.out]; exact HV1.out⟩
            case rest => as_aux_lemma =>
              have HV2 := hcut
              go_upto_region 43 with fail
              go_cut [213] from 25 (fun v wz => v = .bool (decide (md < en ∧ en < b)) ∧ wz = wc)
              case first => as_aux_lemma =>
                by_cases e1 : md < en
                · have e1' := decide_eq_true (Int.ofNat_lt.2 e1)
                  by_cases e2 : en < b
                  · have e2' := decide_eq_true (Int.ofNat_lt.2 e2)
                    have e3 : decide (md < en ∧ en < b) = true := decide_eq_true ⟨e1, e2⟩
                    go_wp2_with fail
                    go_meet
                    case rel => exact ⟨by rw [e3], rfl⟩
                  · have e2' := decide_eq_false (fun h => e2 (Int.ofNat_lt.1 h))
                    have e3 : decide (md < en ∧ en < b) = false := decide_eq_false (fun h => e2 h.2)
                    go_wp2_with fail
                    go_meet
                    case rel => exact ⟨by rw [e3], rfl⟩
                · have e1' := decide_eq_false (fun h => e1 (Int.ofNat_lt.1 h))
                  have e3 : decide (md < en ∧ en < b) = false := decide_eq_false (fun h => e1 h.1)
                  go_wp2_with fail
                  go_meet
                  case rel => exact ⟨by rw [e3], rfl⟩
              case rest => as_aux_lemma =>
                obtain ⟨rfl, rfl⟩ := hcut
                go_upto_if 213 with fail
                have hx1 := HX3.out
                by_cases hc : md < en ∧ en < b
                · simp only [decide_eq_true hc]
                  rw [if_pos hc] at hx1
                  obtain ⟨d1, d2⟩ := hc
                  have HY := Aside0.mk hx1
                  clear hx1
                  go_wp2_with (go_at_call 122; refine (IH.out md en b x2 _ HV2.out d1 d2 hbN HE.out.2.2.2.1).mono ?_; rintro e w1 ⟨⟨r, rfl⟩, hs1⟩; have HS1 := Aside0.mk hs1; clear hs1)
                  refine ⟨rfl, .tuple #[], ?_, ⟨_, rfl⟩, ?_⟩
                  · simp [results, Try.results122, go_sem]
                  · rw [HY.out]; exact HS1.out
                · simp only [decide_eq_false hc]
                  rw [if_neg hc] at hx1
                  have HY := Aside0.mk hx1
                  clear hx1
                  go_wp2_with fail
                  refine ⟨rfl, .tuple #[], ?_, ⟨_, rfl⟩, ?_⟩
                  · simp [results, Try.results122, go_sem]
                  · rw [HY.out]; exact HV2.out
end Go.Proofs.Ytokijibpdnepiaa.X
end
section
namespace Go.Proofs.Ytokijibpdnepiaa.X
open Go.RowKit Go.Proofs.YtokijibpdnepiaaW.PrintWords Go.Proofs.YtokijibpdnepiaaW.PrintLast Go.Proofs.YtokijibpdnepiaaW.PrintMore
attribute [local go_sem] max2_int min2_int max_two min_two max_three min_three max_four min_four
set_option linter.unusedVariables false
set_option linter.unusedSimpArgs false
theorem sym_calls (g c N : Nat) (w0 : World) (I : World → Prop) (Q : Int → Prop) (lt : Int → Int → Bool) (caps : Array Value) (hI : Stays g I) (hC : Cmp caps I Q lt) (hN2 : N ≤ 4611686018427387903) : ∀ f : Nat, SymIH g c N w0 I Q lt caps f := by
  intro f
  induction f with
  | zero => intro a m b xs0 w h h1 h2 h3 h4; omega
  | succ f ih =>
    intro a m b xs0 w h ham hmb hbN hf
    by_cases c1 : m - a = 1
    · exact sym_one g c N w0 I Q lt caps hI hC hN2 f a m b xs0 w h ham hmb hbN hf c1
    · by_cases c2 : b - m = 1
      · exact sym_last g c N w0 I Q lt caps hI hC hN2 f a m b xs0 w h ham hmb hbN hf c1 c2
      · by_cases cm : (a + b) / 2 < m
        · exact sym_hi g c N w0 I Q lt caps hI hC hN2 f ih a m b xs0 w h ham hmb hbN hf c1 c2 cm
        · exact sym_lo g c N w0 I Q lt caps hI hC hN2 f ih a m b xs0 w h ham hmb hbN hf c1 c2 cm
end Go.Proofs.Ytokijibpdnepiaa.X
end
section
namespace Go.Proofs.Ytokijibpdnepiaa.X
open Go.RowKit Go.Proofs.YtokijibpdnepiaaW.PrintWords Go.Proofs.YtokijibpdnepiaaW.PrintLast Go.Proofs.YtokijibpdnepiaaW.PrintMore
attribute [local go_sem] max2_int min2_int max_two min_two max_three min_three max_four min_four
set_option linter.unusedVariables false
set_option linter.unusedSimpArgs false
theorem blk_step {z : Int} {lt : Int → Int → Bool} {bz n d a : Nat} {xs : List Int} (h : a + bz ≤ n) : Srt.blkF z lt bz n (d + 1) a xs = Srt.blkF z lt bz n d (a + bz) (Srt.insF z lt a (a + bz) xs) := by rw [Srt.blkF, if_pos h]
theorem blk_end {z : Int} {lt : Int → Int → Bool} {bz n a : Nat} {xs : List Int} (d : Nat) (h : ¬ a + bz ≤ n) : Srt.blkF z lt bz n d a xs = Srt.insF z lt a n xs := by
  cases d with
  | zero => rfl
  | succ d => rw [Srt.blkF, if_neg h]
theorem mrg_step {z : Int} {lt : Int → Int → Bool} {bz n d a : Nat} {xs : List Int} (h : a + 2 * bz ≤ n) : Srt.mrgF z lt bz n (d + 1) a xs = Srt.mrgF z lt bz n d (a + 2 * bz) (Srt.symF z lt (2 * bz) a (a + bz) (a + 2 * bz) xs) := by rw [Srt.mrgF, if_pos h]
theorem mrg_end {z : Int} {lt : Int → Int → Bool} {bz n a : Nat} {xs : List Int} (d : Nat) (h : ¬ a + 2 * bz ≤ n) (hd : n ≤ a + d) : Srt.mrgF z lt bz n d a xs = if a + bz < n then Srt.symF z lt (n - a) a (a + bz) n xs else xs := by
  cases d with
  | zero => rw [if_neg (by omega)]; rfl
  | succ d => rw [Srt.mrgF, if_neg h]
theorem rnd_step {z : Int} {lt : Int → Int → Bool} {bz n d : Nat} {xs : List Int} (h : bz < n) : Srt.rndF z lt n (d + 1) bz xs = Srt.rndF z lt n d (bz * 2) (Srt.mrgF z lt bz n n 0 xs) := by rw [Srt.rndF, if_pos h]
theorem rnd_end {z : Int} {lt : Int → Int → Bool} {bz n : Nat} {xs : List Int} (d : Nat) (h : ¬ bz < n) : Srt.rndF z lt n d bz xs = xs := by
  cases d with
  | zero => rfl
  | succ d => rw [Srt.rndF, if_neg h]
set_option maxHeartbeats 4000000 in
set_option maxRecDepth 100000 in
theorem stab_calls (g c N : Nat) (w0 : World) (I : World → Prop) (Q : Int → Prop) (lt : Int → Int → Bool) (caps : Array Value) (hI : Stays g I) (hC : Cmp caps I Q lt) (hN2 : N ≤ 4611686018427387903) (xs0 : List Int) (w : World) (h : SS g c N w0 I Q w xs0) :
    Calls Try.prog 103 #[.slice (some ⟨g, 0, none⟩) N c, .int .i64 (N : Int), .func (.func 72) #[] caps] w fun e w' => (∃ r, e = .returned r) ∧ SS g c N w0 I Q w' (Srt.stabF (0 : Int) lt xs0) := by
  obtain ⟨X, hX⟩ : ∃ X, Srt.stabF (0 : Int) lt xs0 = X := ⟨_, rfl⟩
  rw [hX]
  unfold Srt.stabF at hX
  rw [h.len] at hX
  obtain ⟨Y, hY⟩ : ∃ Y, Srt.blkF (0 : Int) lt 20 N N 0 xs0 = Y := ⟨_, rfl⟩
  rw [hY] at hX
  have HRX := Aside0.mk hX
  have HBY := Aside0.mk hY
  have HS := Aside0.mk h
  have HC := Aside0.mk hC
  clear h hC hX hY
  go_enter Try.func103, Try.ntmps103
  go_wp2_with fail
  go_loopg [7, 8] N (fun kq v7 v8 wr => ∃ (A B : Nat) (xs : List Int), v7 = .int .i64 (A : Int) ∧ v8 = .int .i64 (B : Int) ∧ Aside0 (A ≤ N ∧ B = A + 20 ∧ N ≤ A + kq) ∧ Aside0 (Srt.blkF (0 : Int) lt 20 N kq A xs = Y) ∧ Aside0 (SS g c N w0 I Q wr xs))
  case atStart => exact ⟨0, 20, xs0, rfl, rfl, ⟨by omega, by omega, by omega⟩, HBY, HS⟩
  case round => as_aux_lemma =>
    obtain ⟨A, B, xs, rfl, rfl, HK, HF, HW⟩ := hrel
    obtain ⟨k1, k2, k3⟩ := HK.out
    have HAB := Aside0.mk k2
    by_cases hB : B ≤ N
    · obtain ⟨k', rfl⟩ : ∃ k', gk = k' + 1 := ⟨gk - 1, by omega⟩
      have hg := HF.out
      rw [blk_step (show A + 20 ≤ N by omega), ← k2] at hg
      have HG := Aside0.mk hg
      have hAB : A ≤ B := by omega
      clear hg k2
      go_wp2_with (go_at_call 121; refine (ins_calls g c N w0 I Q lt caps A B xs _ hI HC.out HW.out hAB hB hN2).mono ?_; rintro e w1 ⟨⟨r, rfl⟩, hs1⟩; have HS1 := Aside0.mk hs1; clear hs1)
      go_roundg k'
      case measure => omega
      case rel => exact ⟨B, B + 20, _, rfl, by go_num, ⟨hB, rfl, by have := HAB.out; omega⟩, HG, HS1⟩
    · have hg := HF.out
      rw [blk_end gk (show ¬ A + 20 ≤ N by omega)] at hg
      have HG := Aside0.mk hg
      clear hg k2
      go_wp2_with (go_at_call 121; refine (ins_calls g c N w0 I Q lt caps A N xs _ hI HC.out HW.out k1 (Nat.le_refl _) hN2).mono ?_; rw [HG.out]; rintro e w1 ⟨⟨r, rfl⟩, hs1⟩; have HS1 := Aside0.mk hs1; clear hs1)
      go_loopg [6] N (fun kq v6 wr => ∃ (bz : Nat) (xs : List Int), v6 = .int .i64 (bz : Int) ∧ Aside0 (20 ≤ bz ∧ N ≤ bz + kq) ∧ Aside0 (Srt.rndF (0 : Int) lt N kq bz xs = X) ∧ Aside0 (SS g c N w0 I Q wr xs))
      case atStart => exact ⟨20, Y, rfl, ⟨by omega, by omega⟩, HRX, HS1⟩
      case round => as_aux_lemma =>
        obtain ⟨bz, ys, rfl, HK2, HF2, HW2⟩ := hrel
        obtain ⟨j1, j2⟩ := HK2.out
        by_cases hbz : bz < N
        · obtain ⟨k', rfl⟩ : ∃ k', gk = k' + 1 := ⟨gk - 1, by omega⟩
          obtain ⟨Z, hZ⟩ : ∃ Z, Srt.mrgF (0 : Int) lt bz N N 0 ys = Z := ⟨_, rfl⟩
          have hg := HF2.out
          rw [rnd_step hbz, hZ] at hg
          have HG2 := Aside0.mk hg
          have HZ := Aside0.mk hZ
          obtain ⟨tb, htb⟩ : ∃ tb, 2 * bz = tb := ⟨_, rfl⟩
          have htb' : (2 : Int) * (bz : Int) = (tb : Int) := by omega
          have htb2 : (bz : Int) * 2 = (tb : Int) := by omega
          have HTB := Aside0.mk (show bz * 2 = tb ∧ 2 * bz = tb ∧ tb ≤ 2 * N from ⟨by omega, htb, by omega⟩)
          clear hg hZ htb
          go_wp2_with fail
          go_loopg [7, 8] N (fun kq v7 v8 wr => ∃ (A B : Nat) (xs : List Int), v7 = .int .i64 (A : Int) ∧ v8 = .int .i64 (B : Int) ∧ Aside0 (A ≤ N ∧ B = A + tb ∧ N ≤ A + kq) ∧ Aside0 (Srt.mrgF (0 : Int) lt bz N kq A xs = Z) ∧ Aside0 (SS g c N w0 I Q wr xs))
          case atStart => exact ⟨0, tb, ys, rfl, by go_num, ⟨by omega, by omega, by omega⟩, HZ, HW2⟩
          case round => as_aux_lemma =>
            obtain ⟨A, B, xs, rfl, rfl, HK, HF, HW⟩ := hrel
            obtain ⟨k1, k2, k3⟩ := HK.out
            have HAB := Aside0.mk k2
            obtain ⟨t1, t2, t3⟩ := HTB.out
            obtain ⟨m1, hm1⟩ : ∃ m1, A + bz = m1 := ⟨_, rfl⟩
            have hm1' : (A : Int) + (bz : Int) = (m1 : Int) := by omega
            by_cases hB : B ≤ N
            · obtain ⟨k2', rfl⟩ : ∃ k2', gk = k2' + 1 := ⟨gk - 1, by omega⟩
              have hg := HF.out
              rw [mrg_step (show A + 2 * bz ≤ N by omega), t2, ← k2, hm1] at hg
              have HG := Aside0.mk hg
              have hAm : A < m1 := by omega
              have hmB : m1 < B := by omega
              have hBA : B - A ≤ tb := by omega
              have hBt : B + tb ≤ 2 * N := by omega
              clear hg k2 t1 t2 hm1
              go_wp2_with (go_at_call 122; refine (sym_calls g c N w0 I Q lt caps hI HC.out hN2 tb A m1 B xs _ HW.out hAm hmB hB hBA).mono ?_; rintro e w1 ⟨⟨r, rfl⟩, hs1⟩; have HS1 := Aside0.mk hs1; clear hs1)
              go_roundg k2'
              case measure => omega
              case rel => exact ⟨B, B + tb, _, rfl, by go_num, ⟨hB, rfl, by have := HAB.out; omega⟩, HG, HS1⟩
            · have hg := HF.out
              rw [mrg_end gk (show ¬ A + 2 * bz ≤ N by omega) k3, hm1] at hg
              have HTB2 := Aside0.mk t1
              by_cases hm2 : m1 < N
              · rw [if_pos hm2] at hg
                have HG := Aside0.mk hg
                have hAm : A < m1 := by omega
                have hm3 := decide_eq_true (Int.ofNat_lt.2 hm2)
                clear hg k2 t1 t2 hm1
                go_wp2_with (go_at_call 122; refine (sym_calls g c N w0 I Q lt caps hI HC.out hN2 (N - A) A m1 N xs _ HW.out hAm hm2 (Nat.le_refl _) (Nat.le_refl _)).mono ?_; rw [HG.out]; rintro e w1 ⟨⟨r, rfl⟩, hs1⟩; have HS1 := Aside0.mk hs1; clear hs1)
                go_roundg k'
                case measure => omega
                case rel => exact ⟨tb, Z, by go_num, ⟨by have := HTB2.out; omega, by have := HTB2.out; omega⟩, ⟨by rw [← HTB2.out]; exact HG2.out⟩, HS1⟩
              · rw [if_neg hm2] at hg
                have HG := Aside0.mk hg
                have hm3 := decide_eq_false (fun h => hm2 (Int.ofNat_lt.1 h))
                clear hg k2 t1 t2 hm1
                go_wp2_with fail
                go_roundg k'
                case measure => omega
                case rel => exact ⟨tb, Z, by go_num, ⟨by have := HTB2.out; omega, by have := HTB2.out; omega⟩, ⟨by rw [← HTB2.out]; exact HG2.out⟩, ⟨by rw [← HG.out]; exact HW.out⟩⟩
        · have hg := HF2.out
          rw [rnd_end gk hbz] at hg
          have HG2 := Aside0.mk hg
          clear hg
          go_wp2_with fail
          refine ⟨rfl, .tuple #[], ?_, ⟨_, rfl⟩, ?_⟩
          · simp [results, Try.results103, go_sem]
          · rw [← HG2.out]; exact HW2.out
theorem sort_calls (g c N : Nat) (w0 : World) (I : World → Prop) (Q : Int → Prop) (lt : Int → Int → Bool) (caps : Array Value) (hI : Stays g I) (hC : Cmp caps I Q lt) (hN2 : N ≤ 4611686018427387903) (xs0 : List Int) (w : World) (h : SS g c N w0 I Q w xs0) :
    Calls Try.prog 71 #[.slice (some ⟨g, 0, none⟩) N c, .func (.func 72) #[] caps] w fun e w' => (∃ r, e = .returned r) ∧ SS g c N w0 I Q w' (Srt.stabF (0 : Int) lt xs0) := by
  have HS := Aside0.mk h
  have HC := Aside0.mk hC
  clear h hC
  go_enter Try.func71, Try.ntmps71
  go_wp2_with (go_at_call 103; refine (stab_calls g c N w0 I Q lt caps hI HC.out hN2 xs0 _ HS.out).mono ?_; rintro e w1 ⟨⟨r, rfl⟩, hs1⟩; have HS1 := Aside0.mk hs1; clear hs1)
  refine ⟨rfl, .tuple #[], ?_, ⟨_, rfl⟩, HS1.out⟩
  simp [results, Try.results71, go_sem]
theorem ins_nil {c : Nat} (fv : Value) (w : World) : Calls Try.prog 121 #[.slice none 0 c, .int .i64 0, .int .i64 0, fv] w fun e w' => (∃ r, e = .returned r) ∧ w' = w := by
  go_enter Try.func121, Try.ntmps121
  go_wp2_with fail
  go_loopg [8] 0 (fun kq v8 wr => v8 = .int .i64 1 ∧ Aside0 (wr = w))
  case atStart => exact ⟨by go_num, ⟨rfl⟩⟩
  case round =>
    obtain ⟨rfl, HE⟩ := hrel
    go_wp2_with fail
    refine ⟨rfl, .tuple #[], ?_, ⟨_, rfl⟩, HE.out⟩
    simp [results, Try.results121, go_sem]
theorem stab_nil {c : Nat} (fv : Value) (w : World) : Calls Try.prog 103 #[.slice none 0 c, .int .i64 0, fv] w fun e w' => (∃ r, e = .returned r) ∧ w' = w := by
  go_enter Try.func103, Try.ntmps103
  go_wp2_with fail
  go_loopg [7, 8] 0 (fun kq v7 v8 wr => v7 = .int .i64 0 ∧ v8 = .int .i64 20 ∧ Aside0 (wr = w))
  case atStart => exact ⟨rfl, rfl, ⟨rfl⟩⟩
  case round =>
    obtain ⟨rfl, rfl, HE⟩ := hrel
    go_wp2_with (go_at_call 121; refine (ins_nil fv _).mono ?_; rintro e w1 ⟨⟨r, rfl⟩, hs1⟩; have HS1 := Aside0.mk (hs1.trans HE.out); clear hs1)
    go_loopg [6] 0 (fun kq v6 wr => v6 = .int .i64 20 ∧ Aside0 (wr = w))
    case atStart => exact ⟨rfl, HS1⟩
    case round =>
      obtain ⟨rfl, HE2⟩ := hrel
      go_wp2_with fail
      refine ⟨rfl, .tuple #[], ?_, ⟨_, rfl⟩, HE2.out⟩
      simp [results, Try.results103, go_sem]
theorem sort_nil {c : Nat} (fv : Value) (w : World) : Calls Try.prog 71 #[.slice none 0 c, fv] w fun e w' => (∃ r, e = .returned r) ∧ w' = w := by
  go_enter Try.func71, Try.ntmps71
  go_wp2_with (go_at_call 103; refine (stab_nil fv _).mono ?_; rintro e w1 ⟨⟨r, rfl⟩, hs1⟩; have HS1 := Aside0.mk hs1; clear hs1)
  refine ⟨rfl, .tuple #[], ?_, ⟨_, rfl⟩, HS1.out⟩
  simp [results, Try.results71, go_sem]
end Go.Proofs.Ytokijibpdnepiaa.X
end
section
namespace Go.Proofs.Ytokijibpdnepiaa.X
open Go.RowKit Go.Proofs.YtokijibpdnepiaaW.PrintWords Go.Proofs.YtokijibpdnepiaaW.PrintLast Go.Proofs.YtokijibpdnepiaaW.PrintMore
attribute [local go_sem] max2_int min2_int max_two min_two max_three min_three max_four min_four
set_option linter.unusedVariables false
set_option linter.unusedSimpArgs false
def ordBad : List Int → Bool
  | [] => false
  | x :: l => if x < 1 then true else if 3 < x then true else ordBad l
def ordUp : Nat → List Int
  | 0 => []
  | n + 1 => ordUp n ++ [(n : Int)]
def ordKey (l : List Int) (x : Int) : Int := rd l x
def junior_Order.f (k : Nat) (names : List ByteArray) (classes : List Int) : Option (List Int × Int) :=
  if classes.length ≠ names.length then some ([], 8) else if classes.length < 17592186044416 then (if ordBad classes = true then some ([], 2) else some (Srt.stabF (0 : Int) (Srt.klt (ordKey classes)) (ordUp classes.length), 0)) else none
theorem junior_Order.mono : ∀ a b k, LeO (junior_Order.f k a b) (junior_Order.f (k + 1) a b) := fun _ _ _ => LeO.refl _
theorem ordUp_length : ∀ n, (ordUp n).length = n
  | 0 => rfl
  | n + 1 => by rw [ordUp, List.length_append, ordUp_length n]; rfl
theorem ordUp_mem : ∀ n, ∀ x ∈ ordUp n, 0 ≤ x ∧ x < (n : Int)
  | 0, x, h => by simp [ordUp] at h
  | n + 1, x, h => by
    rw [ordUp] at h
    rcases List.mem_append.1 h with h | h
    · have := ordUp_mem n x h; omega
    · have : x = (n : Int) := by simpa using h
      omega
theorem ordBad_all : ∀ l : List Int, ordBad l = false → ∀ x ∈ l, 1 ≤ x ∧ x ≤ 3
  | [], _, x, hx => by simp at hx
  | a :: l, h, x, hx => by
    rw [ordBad] at h
    by_cases c1 : a < 1
    · rw [if_pos c1] at h; simp at h
    rw [if_neg c1] at h
    by_cases c2 : 3 < a
    · rw [if_pos c2] at h; simp at h
    rw [if_neg c2] at h
    rcases List.mem_cons.1 hx with e | e
    · rw [e]; omega
    · exact ordBad_all l h x e
theorem ord_lt (a b : Int) (ha : 1 ≤ a ∧ a ≤ 3) (hb : 1 ≤ b ∧ b ≤ 3) : decide (wrap64 (a - b) < 0) = decide (a < b) := by
  have : wrap64 (a - b) = a - b := by unfold wrap64; omega
  rw [this]
  by_cases h : a < b
  · rw [decide_eq_true h, decide_eq_true (by omega)]
  · rw [decide_eq_false h, decide_eq_false (by omega)]
set_option maxHeartbeats 1600000 in
set_option maxRecDepth 100000 in
theorem ord_cmp (w1 : World) (bx : Nat) (A1 : Option Addr) (c1 : Nat) (l1 : List Int) (hbx : w1.cell? ⟨bx, 0, none⟩ = some (.slice A1 l1.length c1)) (hC : Kd.C (Kd.int .i64) w1 A1 l1.length l1) (hl : ∀ x ∈ l1, 1 ≤ x ∧ x ≤ 3) :
    Cmp #[.pointer (some ⟨bx, 0, none⟩)] (fun w => Below w1.heap.size w1 w) (fun x : Int => 0 ≤ x ∧ x < (l1.length : Int)) (Srt.klt (ordKey l1)) := by
  intro x y w hx hy hI
  obtain ⟨x0, x1⟩ := hx
  obtain ⟨y0, y1⟩ := hy
  obtain ⟨ad5, e5, hx5⟩ := Kd.at_int hC x x0 x1
  obtain ⟨ad6, e6, hx6⟩ := Kd.at_int hC y y0 y1
  obtain rfl : ad5 = ad6 := by rw [e5] at e6; exact Option.some.inj e6
  have rm : ∀ z : Int, 0 ≤ z → z < (l1.length : Int) → 1 ≤ rd l1 z ∧ rd l1 z ≤ 3 := by
    intro z z0 z1
    have hz : z.toNat < l1.length := by omega
    have : rd l1 z = l1[z.toNat] := by simp [rd, List.getD_eq_getElem?_getD, hz]
    rw [this]
    exact hl _ (List.getElem_mem hz)
  have hlt := ord_lt _ _ (rm x x0 x1) (rm y y0 y1)
  have HLT := Aside0.mk hlt
  cases e5
  have hb1 := (hI.cell (World.block_lt_of_cell? w1 _ hbx)).trans hbx
  have hb5 := (hI.cell (World.block_lt_of_cell? w1 _ hx5)).trans hx5
  have hb6 := (hI.cell (World.block_lt_of_cell? w1 _ hx6)).trans hx6
  have p0 := eq_true x0
  have p1 := eq_true x1
  have p2 := eq_true y0
  have p3 := eq_true y1
  clear hx5 hx6 hbx rm hlt hC hl hI e6 x0 x1 y0 y1
  go_enter Try.func72, Try.ntmps72
  go_wp2_with fail
  go_region
  go_wp2_with fail
  exact bodyPost_ret (v := .int .i64 (wrap64 (rd l1 x - rd l1 y))) (by simp [results, Try.results72, go_sem]) rfl ⟨_, rfl, HLT.out, below_drew1 (Below.refl _ _)⟩
theorem ord_stays (w1 : World) (g : Nat) (hg : w1.heap.size ≤ g) : Stays g (fun w => Below w1.heap.size w1 w) :=
  ⟨fun h hb => below_step h hb, fun h hg2 => Below.grown h hg2 h.size (fun j hj => by cases hj; exact hg)⟩
set_option maxHeartbeats 1600000 in
set_option maxRecDepth 100000 in
theorem junior_Order.calls (k : Nat) (A0 : Option Addr) (c0 : Nat) (l0 : List ByteArray) (A1 : Option Addr) (c1 : Nat) (l1 : List Int) (r1 : List Int) (r2 : Int) (w : World) (hr0 : Kd.C Kd.string w A0 l0.length l0) (hc0 : l0.length ≤ c0) (hr1 : Kd.C (Kd.int .i64) w A1 l1.length l1) (hc1 : l1.length ≤ c1) (h : junior_Order.f k l0 l1 = some (r1, r2)) :
    Calls Try.prog 35 #[.slice A0 l0.length c0, .slice A1 l1.length c1] w fun e w' => ∃ v0_ : Value, e = .returned (.tuple #[v0_, .int .i64 r2]) ∧ Kd.R (Kd.int .i64) 3 w' w.heap.size (fun _ => True) v0_ r1 ∧ Below w.heap.size w w' := by
  have HR1 := Aside0.mk hr1
  have hlen0 := (show l0.length ≤ 9223372036854775807 from Kd.C_max hr0)
  have hlen1 := (show l1.length ≤ 9223372036854775807 from Kd.C_max hr1)
  unfold junior_Order.f at h
  clear hr0 hr1
  by_cases hl : l1.length ≠ l0.length
  · rw [if_pos hl] at h
    obtain ⟨rfl, rfl⟩ : [] = r1 ∧ 8 = r2 := by simpa using h
    have hne : ((l1.length : Int) != (l0.length : Int)) = true := bne_iff_ne.2 (by omega)
    clear h
    go_enter Try.func35, Try.ntmps35
    go_wp2_with fail
    refine bodyPost_ret (v := .tuple #[.slice none 0 0, .int .i64 8]) (by simp [results, Try.results35, go_sem]) rfl ⟨_, rfl, Kd.R_nil _ _ _ _ _, below_alloc (Below.refl _ _) _⟩
  rw [if_neg hl] at h
  replace hl : l1.length = l0.length := Decidable.not_not.1 hl
  by_cases hn : l1.length < 17592186044416
  case neg => rw [if_neg hn] at h; cases h
  rw [if_pos hn] at h
  have hne : ((l1.length : Int) != (l0.length : Int)) = false := by simp [hl]
  have HH := Aside0.mk h
  clear hl
  obtain ⟨w1, hw1⟩ : ∃ w1, w.alloc (.cells #[.slice A1 l1.length c1] 54 (0, 0)) = w1 := ⟨_, rfl⟩
  have HB1 := Aside0.mk (show Below w.heap.size w w1 by rw [← hw1]; exact below_alloc (Below.refl _ _) _)
  have HC1 := Aside0.mk (show Kd.C (Kd.int .i64) w1 A1 l1.length l1 by rw [← hw1]; exact Kd.C_alloc HR1.out _)
  have HBX := Aside0.mk (show w1.cell? ⟨w.heap.size, 0, none⟩ = some (.slice A1 l1.length c1) by rw [← hw1]; exact blk_one (blk_new _ _))
  have HW1 := Aside0.mk hw1
  clear h HR1 hw1
  go_enter Try.func35, Try.ntmps35
  go_wp2_with fail
  rw [HW1.out]
  clear HW1
  go_loopg [4, 15] l1.length (fun kq v4 v15 wr => ∃ (i : Nat) (acc : List Int), v15 = .int .i64 (i : Int) ∧ Aside0 (kq + i = l1.length) ∧ Aside0 (ordBad (l1.drop i) = ordBad l1) ∧ Aside0 (acc = ordUp i) ∧ Aside0 (i = 0 → v4 = .slice none 0 0) ∧ Aside0 (Kd.R (Kd.int .i64) 3 wr w1.heap.size (fun _ => True) v4 acc) ∧ Aside0 (Below w1.heap.size w1 wr))
  case atStart => exact ⟨0, [], rfl, ⟨by omega⟩, ⟨rfl⟩, ⟨rfl⟩, ⟨fun _ => rfl⟩, ⟨Kd.R_nil _ _ _ _ _⟩, ⟨Below.refl _ _⟩⟩
  case round =>
    obtain ⟨i, acc, rfl, HK, HBD, HACC, HZ, HO, HB⟩ := hrel
    by_cases hi : i < l1.length
    · have hbd := HBD.out
      rw [(List.getElem_cons_drop hi).symm, ordBad] at hbd
      obtain ⟨ad6, e6, hx6⟩ := Kd.at_int HC1.out (i : Int) (by omega) (by omega)
      cases e6
      have r6 : rd l1 (i : Int) = l1[i] := by simp [rd, hi]
      rw [r6, Int.toNat_natCast] at hx6
      replace hx6 := (HB.out.cell (World.block_lt_of_cell? w1 _ hx6)).trans hx6
      generalize l1[i] = x at hx6 hbd
      have hib : (i : Int) < (l1.length : Int) := by omega
      clear r6
      by_cases d1 : x < 1
      · rw [if_pos d1] at hbd
        have hh := HH.out
        rw [if_pos hbd.symm] at hh
        obtain ⟨rfl, rfl⟩ : [] = r1 ∧ 2 = r2 := by simpa using hh
        replace d1 := decide_eq_true d1
        clear hh hbd
        go_wp2_with fail
        refine bodyPost_ret (v := .tuple #[.slice none 0 0, .int .i64 2]) (by simp [results, Try.results35, go_sem]) rfl ⟨_, rfl, Kd.R_nil _ _ _ _ _, HB1.out.trans (HB.out.mono HB1.out.size)⟩
      rw [if_neg d1] at hbd
      by_cases d2 : 3 < x
      · rw [if_pos d2] at hbd
        have hh := HH.out
        rw [if_pos hbd.symm] at hh
        obtain ⟨rfl, rfl⟩ : [] = r1 ∧ 2 = r2 := by simpa using hh
        replace d1 := decide_eq_false d1
        replace d2 := decide_eq_true d2
        clear hh hbd
        go_wp2_with fail
        refine bodyPost_ret (v := .tuple #[.slice none 0 0, .int .i64 2]) (by simp [results, Try.results35, go_sem]) rfl ⟨_, rfl, Kd.R_nil _ _ _ _ _, HB1.out.trans (HB.out.mono HB1.out.size)⟩
      rw [if_neg d2] at hbd
      replace d1 := decide_eq_false d1
      replace d2 := decide_eq_false d2
      have HBD2 := Aside0.mk hbd
      have hal : acc.length < 17592186044416 := by rw [HACC.out, ordUp_length]; omega
      have HAL := Aside0.mk hal
      clear hal hbd
      go_wp2_with (first | ((with_reducible refine gate_builtin (b := .append) (xs := #[.tmp 26, .tmp 28]) rfl ?_); at_builtin; refine Kd.R_append (Kd.int .i64) (w0 := w1) w1.heap.size rfl (.tmp 26) (.tmp 28) 54 3 (.int .i64 0) 8 rfl Try.underlying54 info3 rfl (by decide) (by omega) u4 acc (i : Int) [.int .i64 (i : Int)] (fun _ => True) (fun _ => False) rfl rfl ?aP (fun _ hk => hk.elim) ?aF ?aO ?aB ?aS ?aL ?_; (case aP => exact rfl); (case aB => exact (by repeat (first | (with_reducible first | exact HB.out | apply below_alloc | apply pw_below_drewN | apply below_drew1) | exact HB.out))); (case aF => exact (fun _ _ => trivial)); (case aO => exact (by (with_reducible repeat (first | apply Kd.R_alloc | apply Kd.R_drewN | apply Kd.R_drew)); exact HO.out)); (case aS => exact (below_size (by repeat (first | (with_reducible first | exact HB.out | apply below_alloc | apply pw_below_drewN | apply below_drew1) | exact HB.out)))); (case aL => have := HAL.out; omega); intro v105 w13 ho hb hg hat; have HB2 := Aside0.mk hb; have HO2 := Aside0.mk ho; clear ho hb hg hat))
      go_roundg (gk - 1)
      case measure => have := HK.out; omega
      case rel => exact ⟨i + 1, _, by go_num, ⟨by have := HK.out; omega⟩, HBD2, ⟨by rw [HACC.out, ordUp]⟩, ⟨fun h => by omega⟩, HO2, HB2⟩
    · have hi2 : i = l1.length := by have := HK.out; omega
      have hbd := HBD.out
      rw [List.drop_of_length_le (by omega), ordBad] at hbd
      have hh := HH.out
      rw [if_neg (by rw [← hbd]; decide)] at hh
      obtain ⟨hr, rfl⟩ : Srt.stabF (0 : Int) (Srt.klt (ordKey l1)) (ordUp l1.length) = r1 ∧ 0 = r2 := by simpa using hh
      have hacc := HACC.out
      rw [hi2] at hacc
      subst hi2
      subst hacc
      have HALL := Aside0.mk (ordBad_all l1 hbd.symm)
      have HR := Aside0.mk hr
      clear hh hr hbd
      by_cases hz : l1.length = 0
      · have hv := HZ.out hz
        subst hv
        have hr2 := HR.out
        have e0 : Srt.stabF (0 : Int) (Srt.klt (ordKey l1)) (ordUp l1.length) = [] := by rw [hz]; rfl
        rw [e0] at hr2
        subst hr2
        clear e0
        go_wp2_with (go_at_call 71; refine (sort_nil _ _).mono ?_; rintro e w2 ⟨⟨r, rfl⟩, rfl⟩)
        refine bodyPost_ret (v := .tuple #[.slice none 0 0, .int .i64 0]) (by simp [results, Try.results35, go_sem]) rfl ⟨_, rfl, Kd.R_nil _ _ _ _ _, HB1.out.trans (HB.out.mono HB1.out.size)⟩
      · obtain ⟨g, cap, rfl, hg1, hg2, hcs⟩ := Kd.R_form HO.out (by rw [ordUp_length]; omega)
        have hss : SS g cap l1.length w1 (fun w => Below w1.heap.size w1 w) (fun x : Int => 0 ≤ x ∧ x < (l1.length : Int)) wr (ordUp l1.length) := ⟨by have := HO.out; rwa [ordUp_length] at this, ordUp_length _, HB.out, HB.out, ordUp_mem _⟩
        have HSS := Aside0.mk hss
        have HST := Aside0.mk (ord_stays w1 g hg1)
        have HCM := Aside0.mk (ord_cmp w1 w.heap.size A1 c1 l1 HBX.out HC1.out HALL.out)
        rw [ordUp_length]
        clear hss hcs
        go_wp2_with (go_at_call 71; refine (sort_calls g cap l1.length w1 _ _ _ _ HST.out HCM.out (by omega) _ _ HSS.out).mono ?_; rw [HR.out]; rintro e w2 ⟨⟨r, rfl⟩, hs2⟩; have HS2 := Aside0.mk hs2; clear hs2)
        refine bodyPost_ret (v := .tuple #[.slice (some ⟨g, 0, none⟩) l1.length cap, .int .i64 0]) (by simp [results, Try.results35, go_sem]) rfl ⟨_, rfl, ?_, HB1.out.trans (HS2.out.below.mono HB1.out.size)⟩
        exact Kd.R_lower HS2.out.own HB1.out.size
end Go.Proofs.Ytokijibpdnepiaa.X
end
section
namespace Go.Proofs.Ytokijibpdnepiaa.X
open Go.RowKit Go.Proofs.YtokijibpdnepiaaW.PrintWords Go.Proofs.YtokijibpdnepiaaW.PrintLast Go.Proofs.YtokijibpdnepiaaW.PrintMore
attribute [local go_sem] max2_int min2_int max_two min_two max_three min_three max_four min_four
set_option linter.unusedVariables false
set_option linter.unusedSimpArgs false
def contangolaw46_goes.f (k : Nat)  : Option (Bool) := (some (([(⟨#[97, 108, 102, 97]⟩ : ByteArray), (⟨#[98, 114, 97, 118, 111]⟩ : ByteArray), (⟨#[99, 97, 114, 108]⟩ : ByteArray), (⟨#[100, 111, 114, 97]⟩ : ByteArray)] : List ByteArray) : List ByteArray)).bind fun y101 => ((some (([(⟨(⟨#[97, 108, 102, 97]⟩ : ByteArray), 5, 10, 0⟩ : S33), (⟨(⟨#[98, 114, 97, 118, 111]⟩ : ByteArray), 5, 12, 0⟩ : S33), (⟨(⟨#[99, 97, 114, 108]⟩ : ByteArray), 3, 1, 0⟩ : S33), (⟨(⟨#[100, 111, 114, 97]⟩ : ByteArray), 5, 90, 0⟩ : S33)] : List (S33)) : List (S33))).bind fun y104 => ((junior_Classes.f k y101 (([5, 5, 5, 5] : List Int)) y104 (([(⟨(⟨#[97, 108, 102, 97]⟩ : ByteArray), 5, 10⟩ : S52)] : List (S52))) 2).bind fun bt113 => ((junior_Order.f k y101 bt113.1).bind fun bt117 => ((junior_Best.f y104 (⟨#[99, 97, 114, 108]⟩ : ByteArray)).bind fun bt121 => (if bt113.2 = 0 then (if bt117.2 = 0 then ((contangoref46_Ints.f k bt113.1 (([3, 3, 1, 2] : List Int))).bind fun t126 => (if t126 = true then ((contangoref46_Ints.f k bt117.1 (([2, 3, 0, 1] : List Int))).bind fun t130 => (if t130 = true then (if bt121.1 = 1 then (some bt121.2) else (none)) else (none))) else (none))) else (none)) else (none))))))
theorem contangolaw46_goes.mono : ∀ k, LeO (contangolaw46_goes.f k ) (contangolaw46_goes.f (k + 1) ) := by
  intro  k
  unfold contangolaw46_goes.f
  repeat' first
      | (with_reducible exact contangoref46_Ints.mono _ _ _)
      | (with_reducible exact junior_Classes.mono _ _ _ _ _ _)
      | (with_reducible exact junior_Order.mono _ _ _)
      | (with_reducible exact LeO.refl _)
      | (with_reducible exact LeO.none _)
      | (with_reducible refine LeO.ite ?_ ?_)
      | (with_reducible refine LeO.bind ?_ (fun _ => ?_))
      | exact contangoref46_Ints.mono _ _ _
      | exact junior_Classes.mono _ _ _ _ _ _
      | exact junior_Order.mono _ _ _
      | exact LeO.none _
      | refine LeO.ite ?_ ?_
      | refine LeO.bind ?_ (fun _ => ?_)
set_option maxHeartbeats 8000000 in
set_option maxRecDepth 100000 in
theorem contangolaw46_goes.calls (k : Nat)  (r : Bool) (w : World) (h : contangolaw46_goes.f k  = some r) :
    Calls Try.prog 29 #[] w fun e w' => e = .returned (.bool r) ∧ Below w.heap.size w w' := by
  have hu33 := Try.underlying33
  have hu52 := Try.underlying52
  have HB := Aside0.mk (Below.refl w.heap.size w)
  have H : ((some (([(⟨#[97, 108, 102, 97]⟩ : ByteArray), (⟨#[98, 114, 97, 118, 111]⟩ : ByteArray), (⟨#[99, 97, 114, 108]⟩ : ByteArray), (⟨#[100, 111, 114, 97]⟩ : ByteArray)] : List ByteArray) : List ByteArray)).bind fun y101 => ((some (([(⟨(⟨#[97, 108, 102, 97]⟩ : ByteArray), 5, 10, 0⟩ : S33), (⟨(⟨#[98, 114, 97, 118, 111]⟩ : ByteArray), 5, 12, 0⟩ : S33), (⟨(⟨#[99, 97, 114, 108]⟩ : ByteArray), 3, 1, 0⟩ : S33), (⟨(⟨#[100, 111, 114, 97]⟩ : ByteArray), 5, 90, 0⟩ : S33)] : List (S33)) : List (S33))).bind fun y104 => ((junior_Classes.f k y101 (([5, 5, 5, 5] : List Int)) y104 (([(⟨(⟨#[97, 108, 102, 97]⟩ : ByteArray), 5, 10⟩ : S52)] : List (S52))) 2).bind fun bt113 => ((junior_Order.f k y101 bt113.1).bind fun bt117 => ((junior_Best.f y104 (⟨#[99, 97, 114, 108]⟩ : ByteArray)).bind fun bt121 => (if bt113.2 = 0 then (if bt117.2 = 0 then ((contangoref46_Ints.f k bt113.1 (([3, 3, 1, 2] : List Int))).bind fun t126 => (if t126 = true then ((contangoref46_Ints.f k bt117.1 (([2, 3, 0, 1] : List Int))).bind fun t130 => (if t130 = true then (if bt121.1 = 1 then (some bt121.2) else (none)) else (none))) else (none))) else (none)) else (none))))))) = some r := h
  clear h
  obtain ⟨y101, hy101⟩ : ∃ y_ : List ByteArray, y_ = (([(⟨#[97, 108, 102, 97]⟩ : ByteArray), (⟨#[98, 114, 97, 118, 111]⟩ : ByteArray), (⟨#[99, 97, 114, 108]⟩ : ByteArray), (⟨#[100, 111, 114, 97]⟩ : ByteArray)] : List ByteArray)) := ⟨_, rfl⟩
  replace H : ((some (([(⟨(⟨#[97, 108, 102, 97]⟩ : ByteArray), 5, 10, 0⟩ : S33), (⟨(⟨#[98, 114, 97, 118, 111]⟩ : ByteArray), 5, 12, 0⟩ : S33), (⟨(⟨#[99, 97, 114, 108]⟩ : ByteArray), 3, 1, 0⟩ : S33), (⟨(⟨#[100, 111, 114, 97]⟩ : ByteArray), 5, 90, 0⟩ : S33)] : List (S33)) : List (S33))).bind fun y104 => ((junior_Classes.f k y101 (([5, 5, 5, 5] : List Int)) y104 (([(⟨(⟨#[97, 108, 102, 97]⟩ : ByteArray), 5, 10⟩ : S52)] : List (S52))) 2).bind fun bt113 => ((junior_Order.f k y101 bt113.1).bind fun bt117 => ((junior_Best.f y104 (⟨#[99, 97, 114, 108]⟩ : ByteArray)).bind fun bt121 => (if bt113.2 = 0 then (if bt117.2 = 0 then ((contangoref46_Ints.f k bt113.1 (([3, 3, 1, 2] : List Int))).bind fun t126 => (if t126 = true then ((contangoref46_Ints.f k bt117.1 (([2, 3, 0, 1] : List Int))).bind fun t130 => (if t130 = true then (if bt121.1 = 1 then (some bt121.2) else (none)) else (none))) else (none))) else (none)) else (none)))))) = some r := by first | (rw [hy101]; with_reducible exact H) | (have H2_ := (Option.bind_some _ _).symm.trans H; rw [hy101]; with_reducible exact H2_) | (have H2_ := (Option.bind_some _ _).symm.trans H; with_reducible exact H2_) | with_reducible exact H | (rw [hy101]; exact H) | exact H
  have Ny101 := Aside0.mk hy101
  clear hy101
  obtain ⟨y104, hy104⟩ : ∃ y_ : List (S33), y_ = (([(⟨(⟨#[97, 108, 102, 97]⟩ : ByteArray), 5, 10, 0⟩ : S33), (⟨(⟨#[98, 114, 97, 118, 111]⟩ : ByteArray), 5, 12, 0⟩ : S33), (⟨(⟨#[99, 97, 114, 108]⟩ : ByteArray), 3, 1, 0⟩ : S33), (⟨(⟨#[100, 111, 114, 97]⟩ : ByteArray), 5, 90, 0⟩ : S33)] : List (S33))) := ⟨_, rfl⟩
  replace H : ((junior_Classes.f k y101 (([5, 5, 5, 5] : List Int)) y104 (([(⟨(⟨#[97, 108, 102, 97]⟩ : ByteArray), 5, 10⟩ : S52)] : List (S52))) 2).bind fun bt113 => ((junior_Order.f k y101 bt113.1).bind fun bt117 => ((junior_Best.f y104 (⟨#[99, 97, 114, 108]⟩ : ByteArray)).bind fun bt121 => (if bt113.2 = 0 then (if bt117.2 = 0 then ((contangoref46_Ints.f k bt113.1 (([3, 3, 1, 2] : List Int))).bind fun t126 => (if t126 = true then ((contangoref46_Ints.f k bt117.1 (([2, 3, 0, 1] : List Int))).bind fun t130 => (if t130 = true then (if bt121.1 = 1 then (some bt121.2) else (none)) else (none))) else (none))) else (none)) else (none))))) = some r := by first | (rw [hy104]; with_reducible exact H) | (have H2_ := (Option.bind_some _ _).symm.trans H; rw [hy104]; with_reducible exact H2_) | (have H2_ := (Option.bind_some _ _).symm.trans H; with_reducible exact H2_) | with_reducible exact H | (rw [hy104]; exact H) | exact H
  have Ny104 := Aside0.mk hy104
  clear hy104
  obtain ⟨y107, hy107⟩ : ∃ y_ : List Int, y_ = (([5, 5, 5, 5] : List Int)) := ⟨_, rfl⟩
  replace H : ((junior_Classes.f k y101 y107 y104 (([(⟨(⟨#[97, 108, 102, 97]⟩ : ByteArray), 5, 10⟩ : S52)] : List (S52))) 2).bind fun bt113 => ((junior_Order.f k y101 bt113.1).bind fun bt117 => ((junior_Best.f y104 (⟨#[99, 97, 114, 108]⟩ : ByteArray)).bind fun bt121 => (if bt113.2 = 0 then (if bt117.2 = 0 then ((contangoref46_Ints.f k bt113.1 (([3, 3, 1, 2] : List Int))).bind fun t126 => (if t126 = true then ((contangoref46_Ints.f k bt117.1 (([2, 3, 0, 1] : List Int))).bind fun t130 => (if t130 = true then (if bt121.1 = 1 then (some bt121.2) else (none)) else (none))) else (none))) else (none)) else (none))))) = some r := by first | (rw [hy107]; with_reducible exact H) | (have H2_ := (Option.bind_some _ _).symm.trans H; rw [hy107]; with_reducible exact H2_) | (have H2_ := (Option.bind_some _ _).symm.trans H; with_reducible exact H2_) | with_reducible exact H | (rw [hy107]; exact H) | exact H
  have Ny107 := Aside0.mk hy107
  clear hy107
  obtain ⟨y110, hy110⟩ : ∃ y_ : List (S52), y_ = (([(⟨(⟨#[97, 108, 102, 97]⟩ : ByteArray), 5, 10⟩ : S52)] : List (S52))) := ⟨_, rfl⟩
  replace H : ((junior_Classes.f k y101 y107 y104 y110 2).bind fun bt113 => ((junior_Order.f k y101 bt113.1).bind fun bt117 => ((junior_Best.f y104 (⟨#[99, 97, 114, 108]⟩ : ByteArray)).bind fun bt121 => (if bt113.2 = 0 then (if bt117.2 = 0 then ((contangoref46_Ints.f k bt113.1 (([3, 3, 1, 2] : List Int))).bind fun t126 => (if t126 = true then ((contangoref46_Ints.f k bt117.1 (([2, 3, 0, 1] : List Int))).bind fun t130 => (if t130 = true then (if bt121.1 = 1 then (some bt121.2) else (none)) else (none))) else (none))) else (none)) else (none))))) = some r := by first | (rw [hy110]; with_reducible exact H) | (have H2_ := (Option.bind_some _ _).symm.trans H; rw [hy110]; with_reducible exact H2_) | (have H2_ := (Option.bind_some _ _).symm.trans H; with_reducible exact H2_) | with_reducible exact H | (rw [hy110]; exact H) | exact H
  have Ny110 := Aside0.mk hy110
  clear hy110
  replace H := Option.bind_eq_some_iff.mp H
  obtain ⟨⟨t113, t114⟩, A10, H⟩ := H
  replace H : ((junior_Order.f k y101 t113).bind fun bt117 => ((junior_Best.f y104 (⟨#[99, 97, 114, 108]⟩ : ByteArray)).bind fun bt121 => (if t114 = 0 then (if bt117.2 = 0 then ((contangoref46_Ints.f k t113 (([3, 3, 1, 2] : List Int))).bind fun t126 => (if t126 = true then ((contangoref46_Ints.f k bt117.1 (([2, 3, 0, 1] : List Int))).bind fun t130 => (if t130 = true then (if bt121.1 = 1 then (some bt121.2) else (none)) else (none))) else (none))) else (none)) else (none)))) = some r := H
  have A1 := Aside0.mk A10
  clear A10
  replace H := Option.bind_eq_some_iff.mp H
  obtain ⟨⟨t117, t118⟩, A20, H⟩ := H
  replace H : ((junior_Best.f y104 (⟨#[99, 97, 114, 108]⟩ : ByteArray)).bind fun bt121 => (if t114 = 0 then (if t118 = 0 then ((contangoref46_Ints.f k t113 (([3, 3, 1, 2] : List Int))).bind fun t126 => (if t126 = true then ((contangoref46_Ints.f k t117 (([2, 3, 0, 1] : List Int))).bind fun t130 => (if t130 = true then (if bt121.1 = 1 then (some bt121.2) else (none)) else (none))) else (none))) else (none)) else (none))) = some r := H
  have A2 := Aside0.mk A20
  clear A20
  replace H := Option.bind_eq_some_iff.mp H
  obtain ⟨⟨t121, t122⟩, A30, H⟩ := H
  replace H : (if t114 = 0 then (if t118 = 0 then ((contangoref46_Ints.f k t113 (([3, 3, 1, 2] : List Int))).bind fun t126 => (if t126 = true then ((contangoref46_Ints.f k t117 (([2, 3, 0, 1] : List Int))).bind fun t130 => (if t130 = true then (if t121 = 1 then (some t122) else (none)) else (none))) else (none))) else (none)) else (none)) = some r := H
  have A3 := Aside0.mk A30
  clear A30
  by_cases c4 : t114 = 0
  · rw [if_pos c4] at H
    have c4b0 : (t114 == 0) = true := beq_iff_eq.mpr c4
    have c4b1 : (t114 != 0) = false := bne_eq_false_iff_eq.mpr c4
    clear c4
    by_cases c5 : t118 = 0
    · rw [if_pos c5] at H
      have c5b0 : (t118 == 0) = true := beq_iff_eq.mpr c5
      have c5b1 : (t118 != 0) = false := bne_eq_false_iff_eq.mpr c5
      clear c5
      obtain ⟨y123, hy123⟩ : ∃ y_ : List Int, y_ = (([3, 3, 1, 2] : List Int)) := ⟨_, rfl⟩
      replace H : ((contangoref46_Ints.f k t113 y123).bind fun t126 => (if t126 = true then ((contangoref46_Ints.f k t117 (([2, 3, 0, 1] : List Int))).bind fun t130 => (if t130 = true then (if t121 = 1 then (some t122) else (none)) else (none))) else (none))) = some r := by first | (rw [hy123]; with_reducible exact H) | (have H2_ := (Option.bind_some _ _).symm.trans H; rw [hy123]; with_reducible exact H2_) | (have H2_ := (Option.bind_some _ _).symm.trans H; with_reducible exact H2_) | with_reducible exact H | (rw [hy123]; exact H) | exact H
      have Ny123 := Aside0.mk hy123
      clear hy123
      replace H := Option.bind_eq_some_iff.mp H
      obtain ⟨t126, A60, H⟩ := H
      replace H : (if t126 = true then ((contangoref46_Ints.f k t117 (([2, 3, 0, 1] : List Int))).bind fun t130 => (if t130 = true then (if t121 = 1 then (some t122) else (none)) else (none))) else (none)) = some r := H
      have A6 := Aside0.mk A60
      clear A60
      by_cases c7 : t126 = true
      · subst c7
        have H1 : ((contangoref46_Ints.f k t117 (([2, 3, 0, 1] : List Int))).bind fun t130 => (if t130 = true then (if t121 = 1 then (some t122) else (none)) else (none))) = some r := by rw [if_pos rfl] at H; exact H
        clear H
        have H := H1
        clear H1
        obtain ⟨y127, hy127⟩ : ∃ y_ : List Int, y_ = (([2, 3, 0, 1] : List Int)) := ⟨_, rfl⟩
        replace H : ((contangoref46_Ints.f k t117 y127).bind fun t130 => (if t130 = true then (if t121 = 1 then (some t122) else (none)) else (none))) = some r := by first | (rw [hy127]; with_reducible exact H) | (have H2_ := (Option.bind_some _ _).symm.trans H; rw [hy127]; with_reducible exact H2_) | (have H2_ := (Option.bind_some _ _).symm.trans H; with_reducible exact H2_) | with_reducible exact H | (rw [hy127]; exact H) | exact H
        have Ny127 := Aside0.mk hy127
        clear hy127
        replace H := Option.bind_eq_some_iff.mp H
        obtain ⟨t130, A80, H⟩ := H
        replace H : (if t130 = true then (if t121 = 1 then (some t122) else (none)) else (none)) = some r := H
        have A8 := Aside0.mk A80
        clear A80
        by_cases c9 : t130 = true
        · subst c9
          have H1 : (if t121 = 1 then (some t122) else (none)) = some r := by rw [if_pos rfl] at H; exact H
          clear H
          have H := H1
          clear H1
          by_cases c10 : t121 = 1
          · rw [if_pos c10] at H
            have c10b0 : (t121 == 1) = true := beq_iff_eq.mpr c10
            have c10b1 : (t121 != 1) = false := bne_eq_false_iff_eq.mpr c10
            clear c10
            obtain rfl := Option.some.inj H
            go_enter Try.func29, Try.ntmps29
            go_wp2_with (first | ((with_reducible refine gate_dst (N := 9) rfl ?_); (try (refine gate_guard (by rfl) ?_; dsimp only)); refine Kd.R_lit Kd.string _ 9 ?hg (N := 9) ?hd (xs := ([(⟨#[97, 108, 102, 97]⟩ : ByteArray), (⟨#[98, 114, 97, 118, 111]⟩ : ByteArray), (⟨#[99, 97, 114, 108]⟩ : ByteArray), (⟨#[100, 111, 114, 97]⟩ : ByteArray)] : List ByteArray)) (inner := [.string (⟨#[97, 108, 102, 97]⟩ : ByteArray), .string (⟨#[98, 114, 97, 118, 111]⟩ : ByteArray), .string (⟨#[99, 97, 114, 108]⟩ : ByteArray), .string (⟨#[100, 111, 114, 97]⟩ : ByteArray)]) (ok := fun _ => True) (okp := fun _ => True) ?hr ?hp (fun _ hk => hk) trivial (Below.refl _ _) (Nat.le_refl _) (by simp) ?_; (case hd => rfl); (case hg => rfl); (case hr => first | (go_simp; done) | (go_simp; rfl)); (case hp => exact (Reps.one (show Kd.M Kd.string _ _ _ (⟨#[97, 108, 102, 97]⟩ : ByteArray) [.string (⟨#[97, 108, 102, 97]⟩ : ByteArray)] from rfl) (Reps.one (show Kd.M Kd.string _ _ _ (⟨#[98, 114, 97, 118, 111]⟩ : ByteArray) [.string (⟨#[98, 114, 97, 118, 111]⟩ : ByteArray)] from rfl) (Reps.one (show Kd.M Kd.string _ _ _ (⟨#[99, 97, 114, 108]⟩ : ByteArray) [.string (⟨#[99, 97, 114, 108]⟩ : ByteArray)] from rfl) (Reps.one (show Kd.M Kd.string _ _ _ (⟨#[100, 111, 114, 97]⟩ : ByteArray) [.string (⟨#[100, 111, 114, 97]⟩ : ByteArray)] from rfl) (Reps.none _ _)))))); intro v102 w11 ho12 hb hg_ hnew_; clear hg_ hnew_; (first | rw [← Ny101.out] at ho12 | (simp only [Int.reduceToNat] at ho12; rw [← Ny101.out] at ho12)); have n0_ := Aside0.mk (Kd.R_lower ho12 (below_size (by repeat (first | (with_reducible first | exact HB.out | apply below_alloc | apply pw_below_drewN | apply below_drew1) | exact HB.out)))); have n1_ := Aside0.mk (below_step (by repeat (first | (with_reducible first | exact HB.out | apply below_alloc | apply pw_below_drewN | apply below_drew1) | exact HB.out)) hb); clear HB; have HO103 := n0_; have HB := n1_; clear n0_ n1_; clear hb ho12) | ((with_reducible refine gate_dst (N := 14) rfl ?_); (try (refine gate_guard (by rfl) ?_; dsimp only)); refine Kd.R_lit k33 _ 33 ?hg (N := 14) ?hd (xs := ([(⟨(⟨#[97, 108, 102, 97]⟩ : ByteArray), 5, 10, 0⟩ : S33), (⟨(⟨#[98, 114, 97, 118, 111]⟩ : ByteArray), 5, 12, 0⟩ : S33), (⟨(⟨#[99, 97, 114, 108]⟩ : ByteArray), 3, 1, 0⟩ : S33), (⟨(⟨#[100, 111, 114, 97]⟩ : ByteArray), 5, 90, 0⟩ : S33)] : List (S33))) (inner := [.string (⟨#[97, 108, 102, 97]⟩ : ByteArray), .int .i64 5, .int .i64 10, .int .i64 0, .string (⟨#[98, 114, 97, 118, 111]⟩ : ByteArray), .int .i64 5, .int .i64 12, .int .i64 0, .string (⟨#[99, 97, 114, 108]⟩ : ByteArray), .int .i64 3, .int .i64 1, .int .i64 0, .string (⟨#[100, 111, 114, 97]⟩ : ByteArray), .int .i64 5, .int .i64 90, .int .i64 0]) (ok := fun _ => True) (okp := fun _ => True) ?hr ?hp (fun _ hk => hk) trivial (Below.refl _ _) (Nat.le_refl _) (by simp) ?_; (case hd => rfl); (case hg => rfl); (case hr => first | (go_simp; done) | (go_simp; rfl)); (case hp => exact (Reps.c4 (show Kd.M k33 _ _ _ (⟨(⟨#[97, 108, 102, 97]⟩ : ByteArray), 5, 10, 0⟩ : S33) [.string (⟨#[97, 108, 102, 97]⟩ : ByteArray), .int .i64 5, .int .i64 10, .int .i64 0] from (k33_mkM _ _ _ (⟨(⟨#[97, 108, 102, 97]⟩ : ByteArray), 5, 10, 0⟩ : S33) )) (Reps.c4 (show Kd.M k33 _ _ _ (⟨(⟨#[98, 114, 97, 118, 111]⟩ : ByteArray), 5, 12, 0⟩ : S33) [.string (⟨#[98, 114, 97, 118, 111]⟩ : ByteArray), .int .i64 5, .int .i64 12, .int .i64 0] from (k33_mkM _ _ _ (⟨(⟨#[98, 114, 97, 118, 111]⟩ : ByteArray), 5, 12, 0⟩ : S33) )) (Reps.c4 (show Kd.M k33 _ _ _ (⟨(⟨#[99, 97, 114, 108]⟩ : ByteArray), 3, 1, 0⟩ : S33) [.string (⟨#[99, 97, 114, 108]⟩ : ByteArray), .int .i64 3, .int .i64 1, .int .i64 0] from (k33_mkM _ _ _ (⟨(⟨#[99, 97, 114, 108]⟩ : ByteArray), 3, 1, 0⟩ : S33) )) (Reps.c4 (show Kd.M k33 _ _ _ (⟨(⟨#[100, 111, 114, 97]⟩ : ByteArray), 5, 90, 0⟩ : S33) [.string (⟨#[100, 111, 114, 97]⟩ : ByteArray), .int .i64 5, .int .i64 90, .int .i64 0] from (k33_mkM _ _ _ (⟨(⟨#[100, 111, 114, 97]⟩ : ByteArray), 5, 90, 0⟩ : S33) )) (Reps.none _ _)))))); intro v105 w13 ho14 hb hg_ hnew_; clear hg_ hnew_; (first | rw [← Ny104.out] at ho14 | (simp only [Int.reduceToNat] at ho14; rw [← Ny104.out] at ho14)); have n0_ := Aside0.mk (Kd.R_below (by (with_reducible repeat (first | apply Kd.R_alloc | apply Kd.R_drewN | apply Kd.R_drew)); exact HO103.out) hb); have n1_ := Aside0.mk (Kd.R_lower ho14 (below_size (by repeat (first | (with_reducible first | exact HB.out | apply below_alloc | apply pw_below_drewN | apply below_drew1) | exact HB.out)))); have n2_ := Aside0.mk (below_step (by repeat (first | (with_reducible first | exact HB.out | apply below_alloc | apply pw_below_drewN | apply below_drew1) | exact HB.out)) hb); clear HO103; clear HB; have HO103 := n0_; have HO106 := n1_; have HB := n2_; clear n0_ n1_ n2_; clear hb ho14) | ((with_reducible refine gate_dst (N := 17) rfl ?_); (try (refine gate_guard (by rfl) ?_; dsimp only)); refine Kd.R_lit (Kd.int .i64) _ 3 ?hg (N := 17) ?hd (xs := ([5, 5, 5, 5] : List Int)) (inner := [.int .i64 5, .int .i64 5, .int .i64 5, .int .i64 5]) (ok := fun _ => True) (okp := fun _ => True) ?hr ?hp (fun _ hk => hk) trivial (Below.refl _ _) (Nat.le_refl _) (by simp) ?_; (case hd => rfl); (case hg => rfl); (case hr => first | (go_simp; done) | (go_simp; rfl)); (case hp => exact (Reps.one (show Kd.M (Kd.int .i64) _ _ _ 5 [.int .i64 5] from rfl) (Reps.one (show Kd.M (Kd.int .i64) _ _ _ 5 [.int .i64 5] from rfl) (Reps.one (show Kd.M (Kd.int .i64) _ _ _ 5 [.int .i64 5] from rfl) (Reps.one (show Kd.M (Kd.int .i64) _ _ _ 5 [.int .i64 5] from rfl) (Reps.none _ _)))))); intro v108 w15 ho16 hb hg_ hnew_; clear hg_ hnew_; (first | rw [← Ny107.out] at ho16 | (simp only [Int.reduceToNat] at ho16; rw [← Ny107.out] at ho16)); have n0_ := Aside0.mk (Kd.R_below (by (with_reducible repeat (first | apply Kd.R_alloc | apply Kd.R_drewN | apply Kd.R_drew)); exact HO103.out) hb); have n1_ := Aside0.mk (Kd.R_below (by (with_reducible repeat (first | apply Kd.R_alloc | apply Kd.R_drewN | apply Kd.R_drew)); exact HO106.out) hb); have n2_ := Aside0.mk (Kd.R_lower ho16 (below_size (by repeat (first | (with_reducible first | exact HB.out | apply below_alloc | apply pw_below_drewN | apply below_drew1) | exact HB.out)))); have n3_ := Aside0.mk (below_step (by repeat (first | (with_reducible first | exact HB.out | apply below_alloc | apply pw_below_drewN | apply below_drew1) | exact HB.out)) hb); clear HO103; clear HO106; clear HB; have HO103 := n0_; have HO106 := n1_; have HO109 := n2_; have HB := n3_; clear n0_ n1_ n2_ n3_; clear hb ho16) | ((with_reducible refine gate_dst (N := 20) rfl ?_); (try (refine gate_guard (by rfl) ?_; dsimp only)); refine Kd.R_lit k52 _ 52 ?hg (N := 20) ?hd (xs := ([(⟨(⟨#[97, 108, 102, 97]⟩ : ByteArray), 5, 10⟩ : S52)] : List (S52))) (inner := [.string (⟨#[97, 108, 102, 97]⟩ : ByteArray), .int .i64 5, .int .i64 10]) (ok := fun _ => True) (okp := fun _ => True) ?hr ?hp (fun _ hk => hk) trivial (Below.refl _ _) (Nat.le_refl _) (by simp) ?_; (case hd => rfl); (case hg => rfl); (case hr => first | (go_simp; done) | (go_simp; rfl)); (case hp => exact (Reps.c3 (show Kd.M k52 _ _ _ (⟨(⟨#[97, 108, 102, 97]⟩ : ByteArray), 5, 10⟩ : S52) [.string (⟨#[97, 108, 102, 97]⟩ : ByteArray), .int .i64 5, .int .i64 10] from (k52_mkM _ _ _ (⟨(⟨#[97, 108, 102, 97]⟩ : ByteArray), 5, 10⟩ : S52) )) (Reps.none _ _))); intro v111 w17 ho18 hb hg_ hnew_; clear hg_ hnew_; (first | rw [← Ny110.out] at ho18 | (simp only [Int.reduceToNat] at ho18; rw [← Ny110.out] at ho18)); have n0_ := Aside0.mk (Kd.R_below (by (with_reducible repeat (first | apply Kd.R_alloc | apply Kd.R_drewN | apply Kd.R_drew)); exact HO103.out) hb); have n1_ := Aside0.mk (Kd.R_below (by (with_reducible repeat (first | apply Kd.R_alloc | apply Kd.R_drewN | apply Kd.R_drew)); exact HO106.out) hb); have n2_ := Aside0.mk (Kd.R_below (by (with_reducible repeat (first | apply Kd.R_alloc | apply Kd.R_drewN | apply Kd.R_drew)); exact HO109.out) hb); have n3_ := Aside0.mk (Kd.R_lower ho18 (below_size (by repeat (first | (with_reducible first | exact HB.out | apply below_alloc | apply pw_below_drewN | apply below_drew1) | exact HB.out)))); have n4_ := Aside0.mk (below_step (by repeat (first | (with_reducible first | exact HB.out | apply below_alloc | apply pw_below_drewN | apply below_drew1) | exact HB.out)) hb); clear HO103; clear HO106; clear HO109; clear HB; have HO103 := n0_; have HO106 := n1_; have HO109 := n2_; have HO112 := n3_; have HB := n4_; clear n0_ n1_ n2_ n3_ n4_; clear hb ho18; obtain ⟨Ao19, co19, eo19⟩ := Kd.R_slice HO103.out; subst eo19; obtain ⟨Ao20, co20, eo20⟩ := Kd.R_slice HO109.out; subst eo20; obtain ⟨Ao21, co21, eo21⟩ := Kd.R_slice HO106.out; subst eo21; obtain ⟨Ao22, co22, eo22⟩ := Kd.R_slice HO112.out; subst eo22) | ((with_reducible refine gate_callee (f := 30) rfl ?_); refine goesL_ (some 21) rfl rfl Try.func30 (by kernel_rfl) rfl #[.slice Ao19 y101.length co19, .slice Ao20 y107.length co20, .slice Ao21 y104.length co21, .slice Ao22 y110.length co22, .int .i64 2] rfl (by (try simp only [List.map_toArray, List.map_cons, List.map_nil]); first | done | rfl | (simp only [List.length_drop, List.length_take]; rfl)) ?_; (with_reducible refine (junior_Classes.calls k _ _ y101 _ _ y107 _ _ y104 _ _ y110 2 t113 t114 _ ?side1 ?side2 ?side3 ?side4 ?side5 ?side6 ?side7 ?side8 A1.out).mono ?_); (case side1 => repeat (first | exact (Kd.R_reads' HO103.out).2.2 | (with_reducible refine Kd.C_alloc ?_ _) | (with_reducible refine Kd.C_drewN ?_ _) | (with_reducible refine Kd.C_drew ?_))); (case side2 => exact (Kd.R_reads' HO103.out).2.1); (case side3 => repeat (first | exact (Kd.R_reads' HO109.out).2.2 | (with_reducible refine Kd.C_alloc ?_ _) | (with_reducible refine Kd.C_drewN ?_ _) | (with_reducible refine Kd.C_drew ?_))); (case side4 => exact (Kd.R_reads' HO109.out).2.1); (case side5 => repeat (first | exact (Kd.R_reads' HO106.out).2.2 | (with_reducible refine Kd.C_alloc ?_ _) | (with_reducible refine Kd.C_drewN ?_ _) | (with_reducible refine Kd.C_drew ?_))); (case side6 => exact (Kd.R_reads' HO106.out).2.1); (case side7 => repeat (first | exact (Kd.R_reads' HO112.out).2.2 | (with_reducible refine Kd.C_alloc ?_ _) | (with_reducible refine Kd.C_drewN ?_ _) | (with_reducible refine Kd.C_drew ?_))); (case side8 => exact (Kd.R_reads' HO112.out).2.1); rintro e w23 ⟨v115, rfl, ho0, hb⟩; refine ⟨_, rfl, ?_⟩; have n0_ := Aside0.mk (Kd.R_below (by (with_reducible repeat (first | apply Kd.R_alloc | apply Kd.R_drewN | apply Kd.R_drew)); exact HO103.out) hb); have n1_ := Aside0.mk (Kd.R_below (by (with_reducible repeat (first | apply Kd.R_alloc | apply Kd.R_drewN | apply Kd.R_drew)); exact HO106.out) hb); have n2_ := Aside0.mk (Kd.R_elder' (by (with_reducible repeat (first | apply Kd.R_alloc | apply Kd.R_drewN | apply Kd.R_drew)); exact HO109.out) (Kd.R_base ho0) hb); have n3_ := Aside0.mk (Kd.R_below (by (with_reducible repeat (first | apply Kd.R_alloc | apply Kd.R_drewN | apply Kd.R_drew)); exact HO112.out) hb); have n4_ := Aside0.mk (Kd.R_lower (Kd.R_new' ho0 (Kd.R_lt (by (with_reducible repeat (first | apply Kd.R_alloc | apply Kd.R_drewN | apply Kd.R_drew)); exact HO109.out))) (below_size (by repeat (first | (with_reducible first | exact HB.out | apply below_alloc | apply pw_below_drewN | apply below_drew1) | exact HB.out)))); have n5_ := Aside0.mk (below_step (by repeat (first | (with_reducible first | exact HB.out | apply below_alloc | apply pw_below_drewN | apply below_drew1) | exact HB.out)) hb); clear HO103; clear HO106; clear HO109; clear HO112; clear HB; have HO103 := n0_; have HO106 := n1_; have HO109 := n2_; have HO112 := n3_; have HO116 := n4_; have HB := n5_; clear n0_ n1_ n2_ n3_ n4_ n5_; (try clear hb); (try clear hb2); (try clear hk); (try clear hi); (try clear ho0); obtain ⟨Ao24, co24, eo24⟩ := Kd.R_slice HO116.out; subst eo24) | ((with_reducible refine gate_callee (f := 35) rfl ?_); refine goesL_ (some 27) rfl rfl Try.func35 (by kernel_rfl) rfl #[.slice Ao19 y101.length co19, .slice Ao24 t113.length co24] rfl (by (try simp only [List.map_toArray, List.map_cons, List.map_nil]); first | done | rfl | (simp only [List.length_drop, List.length_take]; rfl)) ?_; (with_reducible refine (junior_Order.calls k _ _ y101 _ _ t113 t117 t118 _ ?side1 ?side2 ?side3 ?side4 A2.out).mono ?_); (case side1 => repeat (first | exact (Kd.R_reads' HO103.out).2.2 | (with_reducible refine Kd.C_alloc ?_ _) | (with_reducible refine Kd.C_drewN ?_ _) | (with_reducible refine Kd.C_drew ?_))); (case side2 => exact (Kd.R_reads' HO103.out).2.1); (case side3 => repeat (first | exact (Kd.R_reads' HO116.out).2.2 | (with_reducible refine Kd.C_alloc ?_ _) | (with_reducible refine Kd.C_drewN ?_ _) | (with_reducible refine Kd.C_drew ?_))); (case side4 => exact (Kd.R_reads' HO116.out).2.1); rintro e w25 ⟨v119, rfl, ho0, hb⟩; refine ⟨_, rfl, ?_⟩; have n0_ := Aside0.mk (Kd.R_below (by (with_reducible repeat (first | apply Kd.R_alloc | apply Kd.R_drewN | apply Kd.R_drew)); exact HO103.out) hb); have n1_ := Aside0.mk (Kd.R_below (by (with_reducible repeat (first | apply Kd.R_alloc | apply Kd.R_drewN | apply Kd.R_drew)); exact HO106.out) hb); have n2_ := Aside0.mk (Kd.R_elder' (by (with_reducible repeat (first | apply Kd.R_alloc | apply Kd.R_drewN | apply Kd.R_drew)); exact HO109.out) (Kd.R_base ho0) hb); have n3_ := Aside0.mk (Kd.R_below (by (with_reducible repeat (first | apply Kd.R_alloc | apply Kd.R_drewN | apply Kd.R_drew)); exact HO112.out) hb); have n4_ := Aside0.mk (Kd.R_elder' (by (with_reducible repeat (first | apply Kd.R_alloc | apply Kd.R_drewN | apply Kd.R_drew)); exact HO116.out) (Kd.R_base ho0) hb); have n5_ := Aside0.mk (Kd.R_lower (Kd.R_new' (Kd.R_new' ho0 (Kd.R_lt (by (with_reducible repeat (first | apply Kd.R_alloc | apply Kd.R_drewN | apply Kd.R_drew)); exact HO109.out))) (Kd.R_lt (by (with_reducible repeat (first | apply Kd.R_alloc | apply Kd.R_drewN | apply Kd.R_drew)); exact HO116.out))) (below_size (by repeat (first | (with_reducible first | exact HB.out | apply below_alloc | apply pw_below_drewN | apply below_drew1) | exact HB.out)))); have n6_ := Aside0.mk (below_step (by repeat (first | (with_reducible first | exact HB.out | apply below_alloc | apply pw_below_drewN | apply below_drew1) | exact HB.out)) hb); clear HO103; clear HO106; clear HO109; clear HO112; clear HO116; clear HB; have HO103 := n0_; have HO106 := n1_; have HO109 := n2_; have HO112 := n3_; have HO116 := n4_; have HO120 := n5_; have HB := n6_; clear n0_ n1_ n2_ n3_ n4_ n5_ n6_; (try clear hb); (try clear hb2); (try clear hk); (try clear hi); (try clear ho0)) | ((with_reducible refine gate_callee (f := 32) rfl ?_); refine goesL_ (some 32) rfl rfl Try.func32 (by kernel_rfl) rfl #[.slice Ao21 y104.length co21, .string (⟨#[99, 97, 114, 108]⟩ : ByteArray)] rfl (by (try simp only [List.map_toArray, List.map_cons, List.map_nil]); first | done | rfl | (simp only [List.length_drop, List.length_take]; rfl)) ?_; (with_reducible refine (junior_Best.calls _ _ y104 (⟨#[99, 97, 114, 108]⟩ : ByteArray) t121 t122 _ ?side1 ?side2 A3.out).mono ?_); (case side1 => repeat (first | exact (Kd.R_reads' HO106.out).2.2 | (with_reducible refine Kd.C_alloc ?_ _) | (with_reducible refine Kd.C_drewN ?_ _) | (with_reducible refine Kd.C_drew ?_))); (case side2 => exact (Kd.R_reads' HO106.out).2.1); rintro e w26 ⟨rfl, hb⟩; refine ⟨_, rfl, ?_⟩; have n0_ := Aside0.mk (Kd.R_below (by (with_reducible repeat (first | apply Kd.R_alloc | apply Kd.R_drewN | apply Kd.R_drew)); exact HO103.out) hb); have n1_ := Aside0.mk (Kd.R_below (by (with_reducible repeat (first | apply Kd.R_alloc | apply Kd.R_drewN | apply Kd.R_drew)); exact HO106.out) hb); have n2_ := Aside0.mk (Kd.R_below (by (with_reducible repeat (first | apply Kd.R_alloc | apply Kd.R_drewN | apply Kd.R_drew)); exact HO109.out) hb); have n3_ := Aside0.mk (Kd.R_below (by (with_reducible repeat (first | apply Kd.R_alloc | apply Kd.R_drewN | apply Kd.R_drew)); exact HO112.out) hb); have n4_ := Aside0.mk (Kd.R_below (by (with_reducible repeat (first | apply Kd.R_alloc | apply Kd.R_drewN | apply Kd.R_drew)); exact HO116.out) hb); have n5_ := Aside0.mk (Kd.R_below (by (with_reducible repeat (first | apply Kd.R_alloc | apply Kd.R_drewN | apply Kd.R_drew)); exact HO120.out) hb); have n6_ := Aside0.mk (below_step (by repeat (first | (with_reducible first | exact HB.out | apply below_alloc | apply pw_below_drewN | apply below_drew1) | exact HB.out)) hb); clear HO103; clear HO106; clear HO109; clear HO112; clear HO116; clear HO120; clear HB; have HO103 := n0_; have HO106 := n1_; have HO109 := n2_; have HO112 := n3_; have HO116 := n4_; have HO120 := n5_; have HB := n6_; clear n0_ n1_ n2_ n3_ n4_ n5_ n6_; (try clear hb); (try clear hb2); (try clear hk); (try clear hi)) | ((with_reducible refine gate_dst (N := 43) rfl ?_); (try (refine gate_guard (by rfl) ?_; dsimp only)); refine Kd.R_lit (Kd.int .i64) _ 3 ?hg (N := 43) ?hd (xs := ([3, 3, 1, 2] : List Int)) (inner := [.int .i64 3, .int .i64 3, .int .i64 1, .int .i64 2]) (ok := fun _ => True) (okp := fun _ => True) ?hr ?hp (fun _ hk => hk) trivial (Below.refl _ _) (Nat.le_refl _) (by simp) ?_; (case hd => rfl); (case hg => rfl); (case hr => first | (go_simp; done) | (go_simp; rfl)); (case hp => exact (Reps.one (show Kd.M (Kd.int .i64) _ _ _ 3 [.int .i64 3] from rfl) (Reps.one (show Kd.M (Kd.int .i64) _ _ _ 3 [.int .i64 3] from rfl) (Reps.one (show Kd.M (Kd.int .i64) _ _ _ 1 [.int .i64 1] from rfl) (Reps.one (show Kd.M (Kd.int .i64) _ _ _ 2 [.int .i64 2] from rfl) (Reps.none _ _)))))); intro v124 w27 ho28 hb hg_ hnew_; clear hg_ hnew_; (first | rw [← Ny123.out] at ho28 | (simp only [Int.reduceToNat] at ho28; rw [← Ny123.out] at ho28)); have n0_ := Aside0.mk (Kd.R_below (by (with_reducible repeat (first | apply Kd.R_alloc | apply Kd.R_drewN | apply Kd.R_drew)); exact HO103.out) hb); have n1_ := Aside0.mk (Kd.R_below (by (with_reducible repeat (first | apply Kd.R_alloc | apply Kd.R_drewN | apply Kd.R_drew)); exact HO106.out) hb); have n2_ := Aside0.mk (Kd.R_elder' (by (with_reducible repeat (first | apply Kd.R_alloc | apply Kd.R_drewN | apply Kd.R_drew)); exact HO109.out) (Kd.R_base ho28) hb); have n3_ := Aside0.mk (Kd.R_below (by (with_reducible repeat (first | apply Kd.R_alloc | apply Kd.R_drewN | apply Kd.R_drew)); exact HO112.out) hb); have n4_ := Aside0.mk (Kd.R_elder' (by (with_reducible repeat (first | apply Kd.R_alloc | apply Kd.R_drewN | apply Kd.R_drew)); exact HO116.out) (Kd.R_base ho28) hb); have n5_ := Aside0.mk (Kd.R_elder' (by (with_reducible repeat (first | apply Kd.R_alloc | apply Kd.R_drewN | apply Kd.R_drew)); exact HO120.out) (Kd.R_base ho28) hb); have n6_ := Aside0.mk (Kd.R_lower (Kd.R_new' (Kd.R_new' (Kd.R_new' ho28 (Kd.R_lt (by (with_reducible repeat (first | apply Kd.R_alloc | apply Kd.R_drewN | apply Kd.R_drew)); exact HO109.out))) (Kd.R_lt (by (with_reducible repeat (first | apply Kd.R_alloc | apply Kd.R_drewN | apply Kd.R_drew)); exact HO116.out))) (Kd.R_lt (by (with_reducible repeat (first | apply Kd.R_alloc | apply Kd.R_drewN | apply Kd.R_drew)); exact HO120.out))) (below_size (by repeat (first | (with_reducible first | exact HB.out | apply below_alloc | apply pw_below_drewN | apply below_drew1) | exact HB.out)))); have n7_ := Aside0.mk (below_step (by repeat (first | (with_reducible first | exact HB.out | apply below_alloc | apply pw_below_drewN | apply below_drew1) | exact HB.out)) hb); clear HO103; clear HO106; clear HO109; clear HO112; clear HO116; clear HO120; clear HB; have HO103 := n0_; have HO106 := n1_; have HO109 := n2_; have HO112 := n3_; have HO116 := n4_; have HO120 := n5_; have HO125 := n6_; have HB := n7_; clear n0_ n1_ n2_ n3_ n4_ n5_ n6_ n7_; clear hb ho28; obtain ⟨Ao29, co29, eo29⟩ := Kd.R_slice HO125.out; subst eo29) | (go_at_call 34; (with_reducible refine (contangoref46_Ints.calls k _ _ t113 _ _ y123 true _ ?side1 ?side2 ?side3 ?side4 A6.out).mono ?_); (case side1 => repeat (first | exact (Kd.R_reads' HO116.out).2.2 | (with_reducible refine Kd.C_alloc ?_ _) | (with_reducible refine Kd.C_drewN ?_ _) | (with_reducible refine Kd.C_drew ?_))); (case side2 => exact (Kd.R_reads' HO116.out).2.1); (case side3 => repeat (first | exact (Kd.R_reads' HO125.out).2.2 | (with_reducible refine Kd.C_alloc ?_ _) | (with_reducible refine Kd.C_drewN ?_ _) | (with_reducible refine Kd.C_drew ?_))); (case side4 => exact (Kd.R_reads' HO125.out).2.1); rintro e w' ⟨rfl, ⟨nd, rfl⟩⟩) | ((with_reducible refine gate_dst (N := 48) rfl ?_); (try (refine gate_guard (by rfl) ?_; dsimp only)); refine Kd.R_lit (Kd.int .i64) _ 3 ?hg (N := 48) ?hd (xs := ([2, 3, 0, 1] : List Int)) (inner := [.int .i64 2, .int .i64 3, .int .i64 0, .int .i64 1]) (ok := fun _ => True) (okp := fun _ => True) ?hr ?hp (fun _ hk => hk) trivial (Below.refl _ _) (Nat.le_refl _) (by simp) ?_; (case hd => rfl); (case hg => rfl); (case hr => first | (go_simp; done) | (go_simp; rfl)); (case hp => exact (Reps.one (show Kd.M (Kd.int .i64) _ _ _ 2 [.int .i64 2] from rfl) (Reps.one (show Kd.M (Kd.int .i64) _ _ _ 3 [.int .i64 3] from rfl) (Reps.one (show Kd.M (Kd.int .i64) _ _ _ 0 [.int .i64 0] from rfl) (Reps.one (show Kd.M (Kd.int .i64) _ _ _ 1 [.int .i64 1] from rfl) (Reps.none _ _)))))); intro v128 w30 ho31 hb hg_ hnew_; clear hg_ hnew_; (first | rw [← Ny127.out] at ho31 | (simp only [Int.reduceToNat] at ho31; rw [← Ny127.out] at ho31)); have n0_ := Aside0.mk (Kd.R_below (by (with_reducible repeat (first | apply Kd.R_alloc | apply Kd.R_drewN | apply Kd.R_drew)); exact HO103.out) hb); have n1_ := Aside0.mk (Kd.R_below (by (with_reducible repeat (first | apply Kd.R_alloc | apply Kd.R_drewN | apply Kd.R_drew)); exact HO106.out) hb); have n2_ := Aside0.mk (Kd.R_elder' (by (with_reducible repeat (first | apply Kd.R_alloc | apply Kd.R_drewN | apply Kd.R_drew)); exact HO109.out) (Kd.R_base ho31) hb); have n3_ := Aside0.mk (Kd.R_below (by (with_reducible repeat (first | apply Kd.R_alloc | apply Kd.R_drewN | apply Kd.R_drew)); exact HO112.out) hb); have n4_ := Aside0.mk (Kd.R_elder' (by (with_reducible repeat (first | apply Kd.R_alloc | apply Kd.R_drewN | apply Kd.R_drew)); exact HO116.out) (Kd.R_base ho31) hb); have n5_ := Aside0.mk (Kd.R_elder' (by (with_reducible repeat (first | apply Kd.R_alloc | apply Kd.R_drewN | apply Kd.R_drew)); exact HO120.out) (Kd.R_base ho31) hb); have n6_ := Aside0.mk (Kd.R_elder' (by (with_reducible repeat (first | apply Kd.R_alloc | apply Kd.R_drewN | apply Kd.R_drew)); exact HO125.out) (Kd.R_base ho31) hb); have n7_ := Aside0.mk (Kd.R_lower (Kd.R_new' (Kd.R_new' (Kd.R_new' (Kd.R_new' ho31 (Kd.R_lt (by (with_reducible repeat (first | apply Kd.R_alloc | apply Kd.R_drewN | apply Kd.R_drew)); exact HO109.out))) (Kd.R_lt (by (with_reducible repeat (first | apply Kd.R_alloc | apply Kd.R_drewN | apply Kd.R_drew)); exact HO116.out))) (Kd.R_lt (by (with_reducible repeat (first | apply Kd.R_alloc | apply Kd.R_drewN | apply Kd.R_drew)); exact HO120.out))) (Kd.R_lt (by (with_reducible repeat (first | apply Kd.R_alloc | apply Kd.R_drewN | apply Kd.R_drew)); exact HO125.out))) (below_size (by repeat (first | (with_reducible first | exact HB.out | apply below_alloc | apply pw_below_drewN | apply below_drew1) | exact HB.out)))); have n8_ := Aside0.mk (below_step (by repeat (first | (with_reducible first | exact HB.out | apply below_alloc | apply pw_below_drewN | apply below_drew1) | exact HB.out)) hb); clear HO103; clear HO106; clear HO109; clear HO112; clear HO116; clear HO120; clear HO125; clear HB; have HO103 := n0_; have HO106 := n1_; have HO109 := n2_; have HO112 := n3_; have HO116 := n4_; have HO120 := n5_; have HO125 := n6_; have HO129 := n7_; have HB := n8_; clear n0_ n1_ n2_ n3_ n4_ n5_ n6_ n7_ n8_; clear hb ho31; obtain ⟨Ao32, co32, eo32⟩ := Kd.R_slice HO120.out; subst eo32; obtain ⟨Ao33, co33, eo33⟩ := Kd.R_slice HO129.out; subst eo33) | (go_at_call 34; (with_reducible refine (contangoref46_Ints.calls k _ _ t117 _ _ y127 true _ ?side1 ?side2 ?side3 ?side4 A8.out).mono ?_); (case side1 => repeat (first | exact (Kd.R_reads' HO120.out).2.2 | (with_reducible refine Kd.C_alloc ?_ _) | (with_reducible refine Kd.C_drewN ?_ _) | (with_reducible refine Kd.C_drew ?_))); (case side2 => exact (Kd.R_reads' HO120.out).2.1); (case side3 => repeat (first | exact (Kd.R_reads' HO129.out).2.2 | (with_reducible refine Kd.C_alloc ?_ _) | (with_reducible refine Kd.C_drewN ?_ _) | (with_reducible refine Kd.C_drew ?_))); (case side4 => exact (Kd.R_reads' HO129.out).2.1); rintro e w' ⟨rfl, ⟨nd, rfl⟩⟩))
            go_ret
            exact ⟨by first | rfl | (simp [errW_none, errW_some] <;> rfl) | (simp [*, errW_none, errW_some] <;> rfl), by repeat (first | (with_reducible first | exact HB.out | apply below_alloc | apply pw_below_drewN | apply below_drew1) | exact HB.out)⟩
          · rw [if_neg c10] at H
            exact absurd H (by simp)
        · replace c9 := Bool.eq_false_iff.mpr c9
          subst c9
          have H1 : (none) = some r := by rw [if_neg (show ¬ (false = true) by decide)] at H; exact H
          clear H
          have H := H1
          clear H1
          exact absurd H (by simp)
      · replace c7 := Bool.eq_false_iff.mpr c7
        subst c7
        have H1 : (none) = some r := by rw [if_neg (show ¬ (false = true) by decide)] at H; exact H
        clear H
        have H := H1
        clear H1
        exact absurd H (by simp)
    · rw [if_neg c5] at H
      exact absurd H (by simp)
  · rw [if_neg c4] at H
    exact absurd H (by simp)
end Go.Proofs.Ytokijibpdnepiaa.X
end
section
namespace Go.Proofs.Ytokijibpdnepiaa.X
open Go.RowKit Go.Proofs.YtokijibpdnepiaaW.PrintWords Go.Proofs.YtokijibpdnepiaaW.PrintLast Go.Proofs.YtokijibpdnepiaaW.PrintMore
attribute [local go_sem] max2_int min2_int max_two min_two max_three min_three max_four min_four
set_option linter.unusedVariables false
set_option linter.unusedSimpArgs false
def contangoref45_price.f (a0 : Int) : Option (Bool) := if a0 ≥ (-68719476736) then (some (decide (a0 ≤ 68719476736))) else (some false)
set_option maxHeartbeats 8000000 in
set_option maxRecDepth 100000 in
theorem contangoref45_price.calls (a0 : Int) (r : Bool) (w : World) (h : contangoref45_price.f a0 = some r) :
    Calls Try.prog 62 #[.int .i64 a0] w fun e w' => e = .returned (.bool r) ∧ Drawn0 w w' := by
  have H : (if a0 ≥ (-68719476736) then (some (decide (a0 ≤ 68719476736))) else (some false)) = some r := h
  clear h
  by_cases c2 : a0 ≥ (-68719476736)
  · rw [if_pos c2] at H
    have c2b0 : decide ((-68719476736) ≤ a0) = true := decide_eq_true c2
    clear c2
    obtain rfl := Option.some.inj H
    go_enter Try.func62, Try.ntmps62
    go_wp2
    go_ret
    exact ⟨by first | rfl | (simp; done) | (simp [*]; done), by repeat (first | exact Drawn0.refl _ | apply Drawn0.step)⟩
  · rw [if_neg c2] at H
    have c2b0 : decide ((-68719476736) ≤ a0) = false := decide_eq_false c2
    clear c2
    obtain rfl := Option.some.inj H
    go_enter Try.func62, Try.ntmps62
    go_wp2
    go_ret
    exact ⟨by first | rfl | (simp; done) | (simp [*]; done), by repeat (first | exact Drawn0.refl _ | apply Drawn0.step)⟩
end Go.Proofs.Ytokijibpdnepiaa.X
end
section
namespace Go.Proofs.Ytokijibpdnepiaa.X
open Go.RowKit Go.Proofs.YtokijibpdnepiaaW.PrintWords Go.Proofs.YtokijibpdnepiaaW.PrintLast Go.Proofs.YtokijibpdnepiaaW.PrintMore
attribute [local go_sem] max2_int min2_int max_two min_two max_three min_three max_four min_four
set_option linter.unusedVariables false
set_option linter.unusedSimpArgs false
def contangoref45_better.f (a0_0 : ByteArray) (a0_1 : Int) (a0_2 : Int) (a0_3 : Int) (a1_0 : ByteArray) (a1_1 : Int) (a1_2 : Int) (a1_3 : Int) : Option (Bool) := if a0_2 = a1_2 then (if a0_3 = a1_3 then (some (Op.bytesLess a0_0.toList a1_0.toList)) else (some (decide (a0_3 < a1_3)))) else (some (decide (a0_2 < a1_2)))
set_option maxHeartbeats 8000000 in
set_option maxRecDepth 100000 in
theorem contangoref45_better.calls (a0_0 : ByteArray) (a0_1 : Int) (a0_2 : Int) (a0_3 : Int) (a1_0 : ByteArray) (a1_1 : Int) (a1_2 : Int) (a1_3 : Int) (r : Bool) (w : World) (h : contangoref45_better.f a0_0 a0_1 a0_2 a0_3 a1_0 a1_1 a1_2 a1_3 = some r) :
    Calls Try.prog 58 #[.agg #[.string a0_0, .int .i64 a0_1, .int .i64 a0_2, .int .i64 a0_3], .agg #[.string a1_0, .int .i64 a1_1, .int .i64 a1_2, .int .i64 a1_3]] w fun e w' => e = .returned (.bool r) ∧ Below w.heap.size w w' := by
  have hu33 := Try.underlying33
  have HB := Aside0.mk (Below.refl w.heap.size w)
  have H : (if a0_2 = a1_2 then (if a0_3 = a1_3 then (some (Op.bytesLess a0_0.toList a1_0.toList)) else (some (decide (a0_3 < a1_3)))) else (some (decide (a0_2 < a1_2)))) = some r := h
  clear h
  by_cases c3 : a0_2 = a1_2
  · rw [if_pos c3] at H
    have c3b0 : (a0_2 == a1_2) = true := beq_iff_eq.mpr c3
    have c3b1 : (a0_2 != a1_2) = false := bne_eq_false_iff_eq.mpr c3
    clear c3
    by_cases c4 : a0_3 = a1_3
    · rw [if_pos c4] at H
      have c4b0 : (a0_3 == a1_3) = true := beq_iff_eq.mpr c4
      have c4b1 : (a0_3 != a1_3) = false := bne_eq_false_iff_eq.mpr c4
      clear c4
      obtain rfl := Option.some.inj H
      go_enter Try.func58, Try.ntmps58
      go_wp2_with (first | ((with_reducible refine gate_dst (N := 2) rfl ?_); refine box_event ?hg (N := 2) ?hd (cs := #[.string a0_0, .int .i64 a0_1, .int .i64 a0_2, .int .i64 a0_3]) (t := 33) ?hr ?_; (case hd => rfl); (case hg => rfl); (case hr => first | (go_simp; done) | (go_simp; rfl)); intro gb101 hg w5 hbox hb; have n0_ := Aside0.mk (below_step (by repeat (first | (with_reducible first | exact HB.out | apply below_alloc | apply pw_below_drewN | apply below_drew1) | exact HB.out)) hb); have n1_ := Aside0.mk (hbox); have n2_ := Aside0.mk ((by rw [hg]; exact (below_size (by repeat (first | (with_reducible first | exact HB.out | apply below_alloc | apply pw_below_drewN | apply below_drew1) | exact HB.out))) : w.heap.size ≤ gb101)); have n3_ := Aside0.mk ((by rw [hg]; exact (below_size (by repeat (first | (with_reducible first | exact HB.out | apply below_alloc | apply pw_below_drewN | apply below_drew1) | exact HB.out))) : w.heap.size ≤ gb101)); clear HB; have HB := n0_; have BK101 := n1_; have GW101 := n2_; have GE101 := n3_; clear n0_ n1_ n2_ n3_; clear hb hbox hg) | ((with_reducible refine gate_dst (N := 3) rfl ?_); refine box_event ?hg (N := 3) ?hd (cs := #[.string a1_0, .int .i64 a1_1, .int .i64 a1_2, .int .i64 a1_3]) (t := 33) ?hr ?_; (case hd => rfl); (case hg => rfl); (case hr => first | (go_simp; done) | (go_simp; rfl)); intro gb102 hg w6 hbox hb; have n0_ := Aside0.mk (blk_below (g := gb101) (o := .cells #[.string a0_0, .int .i64 a0_1, .int .i64 a0_2, .int .i64 a0_3] 33 (0, 0)) (by (with_reducible repeat (first | refine blk_drewN ?_ _ | refine blk_drew ?_ | refine blk_alloc ?_ _)); exact BK101.out) hb); have n1_ := Aside0.mk (below_step (by repeat (first | (with_reducible first | exact HB.out | apply below_alloc | apply pw_below_drewN | apply below_drew1 | refine below_set ?_ GE101.out) | exact HB.out)) hb); have n2_ := Aside0.mk (hbox); have n3_ := Aside0.mk ((by rw [hg]; exact (below_size (by repeat (first | (with_reducible first | exact HB.out | apply below_alloc | apply pw_below_drewN | apply below_drew1 | refine below_set ?_ GE101.out) | exact HB.out))) : w.heap.size ≤ gb102)); have n4_ := Aside0.mk ((by rw [hg]; exact (below_size (by repeat (first | (with_reducible first | exact HB.out | apply below_alloc | apply pw_below_drewN | apply below_drew1 | refine below_set ?_ GE101.out) | exact HB.out))) : w.heap.size ≤ gb102)); have n5_ := Aside0.mk ((by rw [hg]; exact Nat.ne_of_lt (blk_lt (g := gb101) (o := .cells #[.string a0_0, .int .i64 a0_1, .int .i64 a0_2, .int .i64 a0_3] 33 (0, 0)) (by (with_reducible repeat (first | refine blk_drewN ?_ _ | refine blk_drew ?_ | refine blk_alloc ?_ _)); exact BK101.out)) : gb101 ≠ gb102)); have n6_ := Aside0.mk ((by rw [hg]; exact Nat.ne_of_gt (blk_lt (g := gb101) (o := .cells #[.string a0_0, .int .i64 a0_1, .int .i64 a0_2, .int .i64 a0_3] 33 (0, 0)) (by (with_reducible repeat (first | refine blk_drewN ?_ _ | refine blk_drew ?_ | refine blk_alloc ?_ _)); exact BK101.out)) : gb102 ≠ gb101)); clear BK101; clear HB; have BK101 := n0_; have HB := n1_; have BK102 := n2_; have GW102 := n3_; have GE102 := n4_; have NB101_102 := n5_; have NB102_101 := n6_; clear n0_ n1_ n2_ n3_ n4_ n5_ n6_; clear hb hbox hg; have hnb7 := NB101_102.out; have hnc7 := NB102_101.out; have hcz8_0 : w6.cell? ⟨gb101, 0, none⟩ = some (.string a0_0) := (blk_cell BK101.out 0).trans rfl; have hcz8_1 : w6.cell? ⟨gb101, 1, none⟩ = some (.int .i64 a0_1) := (blk_cell BK101.out 1).trans rfl; have hcz8_2 : w6.cell? ⟨gb101, 2, none⟩ = some (.int .i64 a0_2) := (blk_cell BK101.out 2).trans rfl; have hcz8_3 : w6.cell? ⟨gb101, 3, none⟩ = some (.int .i64 a0_3) := (blk_cell BK101.out 3).trans rfl; have hfz8_0 := blk_frozen BK101.out 0; have hfz8_1 := blk_frozen BK101.out 1; have hfz8_2 := blk_frozen BK101.out 2; have hfz8_3 := blk_frozen BK101.out 3; have hcz9_0 : w6.cell? ⟨gb102, 0, none⟩ = some (.string a1_0) := (blk_cell BK102.out 0).trans rfl; have hcz9_1 : w6.cell? ⟨gb102, 1, none⟩ = some (.int .i64 a1_1) := (blk_cell BK102.out 1).trans rfl; have hcz9_2 : w6.cell? ⟨gb102, 2, none⟩ = some (.int .i64 a1_2) := (blk_cell BK102.out 2).trans rfl; have hcz9_3 : w6.cell? ⟨gb102, 3, none⟩ = some (.int .i64 a1_3) := (blk_cell BK102.out 3).trans rfl; have hfz9_0 := blk_frozen BK102.out 0; have hfz9_1 := blk_frozen BK102.out 1; have hfz9_2 := blk_frozen BK102.out 2; have hfz9_3 := blk_frozen BK102.out 3))
      go_ret
      exact ⟨by first | rfl | (simp [errW_none, errW_some] <;> rfl) | (simp [*, errW_none, errW_some] <;> rfl), by repeat (first | (with_reducible first | exact HB.out | apply below_alloc | apply pw_below_drewN | apply below_drew1 | refine below_set ?_ GE101.out | refine below_set ?_ GE102.out) | exact HB.out)⟩
    · rw [if_neg c4] at H
      have c4b0 : (a0_3 == a1_3) = false := beq_eq_false_iff_ne.mpr c4
      have c4b1 : (a0_3 != a1_3) = true := bne_iff_ne.mpr c4
      obtain rfl := Option.some.inj H
      go_enter Try.func58, Try.ntmps58
      go_wp2_with (first | ((with_reducible refine gate_dst (N := 2) rfl ?_); refine box_event ?hg (N := 2) ?hd (cs := #[.string a0_0, .int .i64 a0_1, .int .i64 a0_2, .int .i64 a0_3]) (t := 33) ?hr ?_; (case hd => rfl); (case hg => rfl); (case hr => first | (go_simp; done) | (go_simp; rfl)); intro gb101 hg w10 hbox hb; have n0_ := Aside0.mk (below_step (by repeat (first | (with_reducible first | exact HB.out | apply below_alloc | apply pw_below_drewN | apply below_drew1) | exact HB.out)) hb); have n1_ := Aside0.mk (hbox); have n2_ := Aside0.mk ((by rw [hg]; exact (below_size (by repeat (first | (with_reducible first | exact HB.out | apply below_alloc | apply pw_below_drewN | apply below_drew1) | exact HB.out))) : w.heap.size ≤ gb101)); have n3_ := Aside0.mk ((by rw [hg]; exact (below_size (by repeat (first | (with_reducible first | exact HB.out | apply below_alloc | apply pw_below_drewN | apply below_drew1) | exact HB.out))) : w.heap.size ≤ gb101)); clear HB; have HB := n0_; have BK101 := n1_; have GW101 := n2_; have GE101 := n3_; clear n0_ n1_ n2_ n3_; clear hb hbox hg) | ((with_reducible refine gate_dst (N := 3) rfl ?_); refine box_event ?hg (N := 3) ?hd (cs := #[.string a1_0, .int .i64 a1_1, .int .i64 a1_2, .int .i64 a1_3]) (t := 33) ?hr ?_; (case hd => rfl); (case hg => rfl); (case hr => first | (go_simp; done) | (go_simp; rfl)); intro gb102 hg w11 hbox hb; have n0_ := Aside0.mk (blk_below (g := gb101) (o := .cells #[.string a0_0, .int .i64 a0_1, .int .i64 a0_2, .int .i64 a0_3] 33 (0, 0)) (by (with_reducible repeat (first | refine blk_drewN ?_ _ | refine blk_drew ?_ | refine blk_alloc ?_ _)); exact BK101.out) hb); have n1_ := Aside0.mk (below_step (by repeat (first | (with_reducible first | exact HB.out | apply below_alloc | apply pw_below_drewN | apply below_drew1 | refine below_set ?_ GE101.out) | exact HB.out)) hb); have n2_ := Aside0.mk (hbox); have n3_ := Aside0.mk ((by rw [hg]; exact (below_size (by repeat (first | (with_reducible first | exact HB.out | apply below_alloc | apply pw_below_drewN | apply below_drew1 | refine below_set ?_ GE101.out) | exact HB.out))) : w.heap.size ≤ gb102)); have n4_ := Aside0.mk ((by rw [hg]; exact (below_size (by repeat (first | (with_reducible first | exact HB.out | apply below_alloc | apply pw_below_drewN | apply below_drew1 | refine below_set ?_ GE101.out) | exact HB.out))) : w.heap.size ≤ gb102)); have n5_ := Aside0.mk ((by rw [hg]; exact Nat.ne_of_lt (blk_lt (g := gb101) (o := .cells #[.string a0_0, .int .i64 a0_1, .int .i64 a0_2, .int .i64 a0_3] 33 (0, 0)) (by (with_reducible repeat (first | refine blk_drewN ?_ _ | refine blk_drew ?_ | refine blk_alloc ?_ _)); exact BK101.out)) : gb101 ≠ gb102)); have n6_ := Aside0.mk ((by rw [hg]; exact Nat.ne_of_gt (blk_lt (g := gb101) (o := .cells #[.string a0_0, .int .i64 a0_1, .int .i64 a0_2, .int .i64 a0_3] 33 (0, 0)) (by (with_reducible repeat (first | refine blk_drewN ?_ _ | refine blk_drew ?_ | refine blk_alloc ?_ _)); exact BK101.out)) : gb102 ≠ gb101)); clear BK101; clear HB; have BK101 := n0_; have HB := n1_; have BK102 := n2_; have GW102 := n3_; have GE102 := n4_; have NB101_102 := n5_; have NB102_101 := n6_; clear n0_ n1_ n2_ n3_ n4_ n5_ n6_; clear hb hbox hg; have hnb12 := NB101_102.out; have hnc12 := NB102_101.out; have hcz13_0 : w11.cell? ⟨gb101, 0, none⟩ = some (.string a0_0) := (blk_cell BK101.out 0).trans rfl; have hcz13_1 : w11.cell? ⟨gb101, 1, none⟩ = some (.int .i64 a0_1) := (blk_cell BK101.out 1).trans rfl; have hcz13_2 : w11.cell? ⟨gb101, 2, none⟩ = some (.int .i64 a0_2) := (blk_cell BK101.out 2).trans rfl; have hcz13_3 : w11.cell? ⟨gb101, 3, none⟩ = some (.int .i64 a0_3) := (blk_cell BK101.out 3).trans rfl; have hfz13_0 := blk_frozen BK101.out 0; have hfz13_1 := blk_frozen BK101.out 1; have hfz13_2 := blk_frozen BK101.out 2; have hfz13_3 := blk_frozen BK101.out 3; have hcz14_0 : w11.cell? ⟨gb102, 0, none⟩ = some (.string a1_0) := (blk_cell BK102.out 0).trans rfl; have hcz14_1 : w11.cell? ⟨gb102, 1, none⟩ = some (.int .i64 a1_1) := (blk_cell BK102.out 1).trans rfl; have hcz14_2 : w11.cell? ⟨gb102, 2, none⟩ = some (.int .i64 a1_2) := (blk_cell BK102.out 2).trans rfl; have hcz14_3 : w11.cell? ⟨gb102, 3, none⟩ = some (.int .i64 a1_3) := (blk_cell BK102.out 3).trans rfl; have hfz14_0 := blk_frozen BK102.out 0; have hfz14_1 := blk_frozen BK102.out 1; have hfz14_2 := blk_frozen BK102.out 2; have hfz14_3 := blk_frozen BK102.out 3))
      go_ret
      exact ⟨by first | rfl | (simp [errW_none, errW_some] <;> rfl) | (simp [*, errW_none, errW_some] <;> rfl), by repeat (first | (with_reducible first | exact HB.out | apply below_alloc | apply pw_below_drewN | apply below_drew1 | refine below_set ?_ GE101.out | refine below_set ?_ GE102.out) | exact HB.out)⟩
  · rw [if_neg c3] at H
    have c3b0 : (a0_2 == a1_2) = false := beq_eq_false_iff_ne.mpr c3
    have c3b1 : (a0_2 != a1_2) = true := bne_iff_ne.mpr c3
    obtain rfl := Option.some.inj H
    go_enter Try.func58, Try.ntmps58
    go_wp2_with (first | ((with_reducible refine gate_dst (N := 2) rfl ?_); refine box_event ?hg (N := 2) ?hd (cs := #[.string a0_0, .int .i64 a0_1, .int .i64 a0_2, .int .i64 a0_3]) (t := 33) ?hr ?_; (case hd => rfl); (case hg => rfl); (case hr => first | (go_simp; done) | (go_simp; rfl)); intro gb101 hg w15 hbox hb; have n0_ := Aside0.mk (below_step (by repeat (first | (with_reducible first | exact HB.out | apply below_alloc | apply pw_below_drewN | apply below_drew1) | exact HB.out)) hb); have n1_ := Aside0.mk (hbox); have n2_ := Aside0.mk ((by rw [hg]; exact (below_size (by repeat (first | (with_reducible first | exact HB.out | apply below_alloc | apply pw_below_drewN | apply below_drew1) | exact HB.out))) : w.heap.size ≤ gb101)); have n3_ := Aside0.mk ((by rw [hg]; exact (below_size (by repeat (first | (with_reducible first | exact HB.out | apply below_alloc | apply pw_below_drewN | apply below_drew1) | exact HB.out))) : w.heap.size ≤ gb101)); clear HB; have HB := n0_; have BK101 := n1_; have GW101 := n2_; have GE101 := n3_; clear n0_ n1_ n2_ n3_; clear hb hbox hg) | ((with_reducible refine gate_dst (N := 3) rfl ?_); refine box_event ?hg (N := 3) ?hd (cs := #[.string a1_0, .int .i64 a1_1, .int .i64 a1_2, .int .i64 a1_3]) (t := 33) ?hr ?_; (case hd => rfl); (case hg => rfl); (case hr => first | (go_simp; done) | (go_simp; rfl)); intro gb102 hg w16 hbox hb; have n0_ := Aside0.mk (blk_below (g := gb101) (o := .cells #[.string a0_0, .int .i64 a0_1, .int .i64 a0_2, .int .i64 a0_3] 33 (0, 0)) (by (with_reducible repeat (first | refine blk_drewN ?_ _ | refine blk_drew ?_ | refine blk_alloc ?_ _)); exact BK101.out) hb); have n1_ := Aside0.mk (below_step (by repeat (first | (with_reducible first | exact HB.out | apply below_alloc | apply pw_below_drewN | apply below_drew1 | refine below_set ?_ GE101.out) | exact HB.out)) hb); have n2_ := Aside0.mk (hbox); have n3_ := Aside0.mk ((by rw [hg]; exact (below_size (by repeat (first | (with_reducible first | exact HB.out | apply below_alloc | apply pw_below_drewN | apply below_drew1 | refine below_set ?_ GE101.out) | exact HB.out))) : w.heap.size ≤ gb102)); have n4_ := Aside0.mk ((by rw [hg]; exact (below_size (by repeat (first | (with_reducible first | exact HB.out | apply below_alloc | apply pw_below_drewN | apply below_drew1 | refine below_set ?_ GE101.out) | exact HB.out))) : w.heap.size ≤ gb102)); have n5_ := Aside0.mk ((by rw [hg]; exact Nat.ne_of_lt (blk_lt (g := gb101) (o := .cells #[.string a0_0, .int .i64 a0_1, .int .i64 a0_2, .int .i64 a0_3] 33 (0, 0)) (by (with_reducible repeat (first | refine blk_drewN ?_ _ | refine blk_drew ?_ | refine blk_alloc ?_ _)); exact BK101.out)) : gb101 ≠ gb102)); have n6_ := Aside0.mk ((by rw [hg]; exact Nat.ne_of_gt (blk_lt (g := gb101) (o := .cells #[.string a0_0, .int .i64 a0_1, .int .i64 a0_2, .int .i64 a0_3] 33 (0, 0)) (by (with_reducible repeat (first | refine blk_drewN ?_ _ | refine blk_drew ?_ | refine blk_alloc ?_ _)); exact BK101.out)) : gb102 ≠ gb101)); clear BK101; clear HB; have BK101 := n0_; have HB := n1_; have BK102 := n2_; have GW102 := n3_; have GE102 := n4_; have NB101_102 := n5_; have NB102_101 := n6_; clear n0_ n1_ n2_ n3_ n4_ n5_ n6_; clear hb hbox hg; have hnb17 := NB101_102.out; have hnc17 := NB102_101.out; have hcz18_0 : w16.cell? ⟨gb101, 0, none⟩ = some (.string a0_0) := (blk_cell BK101.out 0).trans rfl; have hcz18_1 : w16.cell? ⟨gb101, 1, none⟩ = some (.int .i64 a0_1) := (blk_cell BK101.out 1).trans rfl; have hcz18_2 : w16.cell? ⟨gb101, 2, none⟩ = some (.int .i64 a0_2) := (blk_cell BK101.out 2).trans rfl; have hcz18_3 : w16.cell? ⟨gb101, 3, none⟩ = some (.int .i64 a0_3) := (blk_cell BK101.out 3).trans rfl; have hfz18_0 := blk_frozen BK101.out 0; have hfz18_1 := blk_frozen BK101.out 1; have hfz18_2 := blk_frozen BK101.out 2; have hfz18_3 := blk_frozen BK101.out 3; have hcz19_0 : w16.cell? ⟨gb102, 0, none⟩ = some (.string a1_0) := (blk_cell BK102.out 0).trans rfl; have hcz19_1 : w16.cell? ⟨gb102, 1, none⟩ = some (.int .i64 a1_1) := (blk_cell BK102.out 1).trans rfl; have hcz19_2 : w16.cell? ⟨gb102, 2, none⟩ = some (.int .i64 a1_2) := (blk_cell BK102.out 2).trans rfl; have hcz19_3 : w16.cell? ⟨gb102, 3, none⟩ = some (.int .i64 a1_3) := (blk_cell BK102.out 3).trans rfl; have hfz19_0 := blk_frozen BK102.out 0; have hfz19_1 := blk_frozen BK102.out 1; have hfz19_2 := blk_frozen BK102.out 2; have hfz19_3 := blk_frozen BK102.out 3))
    go_ret
    exact ⟨by first | rfl | (simp [errW_none, errW_some] <;> rfl) | (simp [*, errW_none, errW_some] <;> rfl), by repeat (first | (with_reducible first | exact HB.out | apply below_alloc | apply pw_below_drewN | apply below_drew1 | refine below_set ?_ GE101.out | refine below_set ?_ GE102.out) | exact HB.out)⟩
end Go.Proofs.Ytokijibpdnepiaa.X
end
section
namespace Go.Proofs.Ytokijibpdnepiaa.X
open Go.RowKit Go.Proofs.YtokijibpdnepiaaW.PrintWords Go.Proofs.YtokijibpdnepiaaW.PrintLast Go.Proofs.YtokijibpdnepiaaW.PrintMore
attribute [local go_sem] max2_int min2_int max_two min_two max_three min_three max_four min_four
set_option linter.unusedVariables false
set_option linter.unusedSimpArgs false
def contangoref03_Name.l0 : Nat → ByteArray → Int → Option (Bool)
  | 0, _, _ => none
  | k + 1, x0, x3 => if x3 < (x0.size : Int) then (if 0 ≤ x3 then (if (bt x0 x3) ≥ 97 then (if ((bt x0 x3) ≤ 122) then (contangoref03_Name.l0 k x0 (wrap64 (x3 + 1))) else (if x3 = 0 then (some false) else (if (bt x0 x3) < 48 then (some false) else (if (bt x0 x3) > 57 then (some false) else (contangoref03_Name.l0 k x0 (wrap64 (x3 + 1))))))) else (if x3 = 0 then (some false) else (if (bt x0 x3) < 48 then (some false) else (if (bt x0 x3) > 57 then (some false) else (contangoref03_Name.l0 k x0 (wrap64 (x3 + 1))))))) else (none)) else (if (x0.size : Int) > 0 then (some (decide ((x0.size : Int) ≤ 12))) else (some false))
def contangoref03_Name.f (k : Nat) (a0 : ByteArray) : Option (Bool) := contangoref03_Name.l0 k a0 0
set_option maxHeartbeats 8000000 in
set_option maxRecDepth 100000 in
theorem contangoref03_Name.calls (k : Nat) (a0 : ByteArray) (r : Bool) (w : World) (h : contangoref03_Name.f k a0 = some r) :
    Calls Try.prog 61 #[.string a0] w fun e w' => e = .returned (.bool r) ∧ Drawn0 w w' := by
  have H : (contangoref03_Name.l0 k a0 0) = some r := h
  clear h
  have H' := Aside0.mk H
  clear H
  go_enter Try.func61, Try.ntmps61
  go_wp2
  go_loopg [3] k (fun kq v3 w' => ∃ (x3_1 : Int), v3 = .int .i64 x3_1 ∧ Aside0 (contangoref03_Name.l0 kq a0 x3_1 = some r) ∧ Aside0 (kq ≤ k) ∧ Drawn0 w w')
  case atStart => exact ⟨(0), (by first | rfl | (simp; done) | (simp [*]; done)), H', ⟨Nat.le_refl _⟩, by repeat (first | exact Drawn0.refl _ | apply Drawn0.step)⟩
  case round =>
    clear H'
    obtain ⟨x3_1, rfl, HA, HK1, ⟨m1, rfl⟩⟩ := hrel
    cases gk with
    | zero => exact absurd HA.out (by simp [contangoref03_Name.l0])
    | succ k1 =>
      have H := HA.out
      clear HA
      simp only [contangoref03_Name.l0] at H
      by_cases c2 : x3_1 < (a0.size : Int)
      · rw [if_pos c2] at H
        have c2b0 : decide (x3_1 < (a0.size : Int)) = true := decide_eq_true c2
        clear c2
        by_cases c3 : 0 ≤ x3_1
        · rw [if_pos c3] at H
          have c3b0 : decide (0 ≤ x3_1) = true := decide_eq_true c3
          clear c3
          by_cases c5 : (bt a0 x3_1) ≥ 97
          · rw [if_pos c5] at H
            have c5b0 : decide (97 ≤ (bt a0 x3_1)) = true := decide_eq_true c5
            clear c5
            by_cases c7 : ((bt a0 x3_1) ≤ 122)
            · rw [if_pos c7] at H
              have c7b0 : decide ((bt a0 x3_1) ≤ 122) = true := decide_eq_true c7
              clear c7
              have H' := Aside0.mk H
              clear H
              have p4 : 0 ≤ (x3_1 : Int) := of_decide_eq_true (by first | (with_reducible assumption) | assumption)
              have q4 : x3_1 < (a0.size : Int) := of_decide_eq_true (by first | (with_reducible assumption) | assumption)
              have hx4 := bt_at a0 x3_1
              replace p4 := eq_true p4
              replace q4 := eq_true q4
              have p6 : 0 ≤ (x3_1 : Int) := of_decide_eq_true (by first | (with_reducible assumption) | assumption)
              have q6 : x3_1 < (a0.size : Int) := of_decide_eq_true (by first | (with_reducible assumption) | assumption)
              have hx6 := bt_at a0 x3_1
              replace p6 := eq_true p6
              replace q6 := eq_true q6
              go_wp2
              go_roundg k1
              case measure => have := HK1.out; omega
              case rel => exact ⟨(wrap64 (x3_1 + 1)), (by first | rfl | (simp; done) | (simp [*]; done)), H', ⟨by have := HK1.out; omega⟩, by repeat (first | exact Drawn0.refl _ | apply Drawn0.step)⟩
            · rw [if_neg c7] at H
              have c7b0 : decide ((bt a0 x3_1) ≤ 122) = false := decide_eq_false c7
              clear c7
              by_cases c8 : x3_1 = 0
              · rw [if_pos c8] at H
                have c8b0 : (x3_1 == 0) = true := beq_iff_eq.mpr c8
                have c8b1 : (x3_1 != 0) = false := bne_eq_false_iff_eq.mpr c8
                clear c8
                obtain rfl := Option.some.inj H
                have p4 : 0 ≤ (x3_1 : Int) := of_decide_eq_true (by first | (with_reducible assumption) | assumption)
                have q4 : x3_1 < (a0.size : Int) := of_decide_eq_true (by first | (with_reducible assumption) | assumption)
                have hx4 := bt_at a0 x3_1
                replace p4 := eq_true p4
                replace q4 := eq_true q4
                have p6 : 0 ≤ (x3_1 : Int) := of_decide_eq_true (by first | (with_reducible assumption) | assumption)
                have q6 : x3_1 < (a0.size : Int) := of_decide_eq_true (by first | (with_reducible assumption) | assumption)
                have hx6 := bt_at a0 x3_1
                replace p6 := eq_true p6
                replace q6 := eq_true q6
                go_wp2
                go_ret
                exact ⟨by first | rfl | (simp; done) | (simp [*]; done), by repeat (first | exact Drawn0.refl _ | apply Drawn0.step)⟩
              · rw [if_neg c8] at H
                have c8b0 : (x3_1 == 0) = false := beq_eq_false_iff_ne.mpr c8
                have c8b1 : (x3_1 != 0) = true := bne_iff_ne.mpr c8
                by_cases c10 : (bt a0 x3_1) < 48
                · rw [if_pos c10] at H
                  have c10b0 : decide ((bt a0 x3_1) < 48) = true := decide_eq_true c10
                  clear c10
                  obtain rfl := Option.some.inj H
                  have p4 : 0 ≤ (x3_1 : Int) := of_decide_eq_true (by first | (with_reducible assumption) | assumption)
                  have q4 : x3_1 < (a0.size : Int) := of_decide_eq_true (by first | (with_reducible assumption) | assumption)
                  have hx4 := bt_at a0 x3_1
                  replace p4 := eq_true p4
                  replace q4 := eq_true q4
                  have p6 : 0 ≤ (x3_1 : Int) := of_decide_eq_true (by first | (with_reducible assumption) | assumption)
                  have q6 : x3_1 < (a0.size : Int) := of_decide_eq_true (by first | (with_reducible assumption) | assumption)
                  have hx6 := bt_at a0 x3_1
                  replace p6 := eq_true p6
                  replace q6 := eq_true q6
                  have p9 : 0 ≤ (x3_1 : Int) := of_decide_eq_true (by first | (with_reducible assumption) | assumption)
                  have q9 : x3_1 < (a0.size : Int) := of_decide_eq_true (by first | (with_reducible assumption) | assumption)
                  have hx9 := bt_at a0 x3_1
                  replace p9 := eq_true p9
                  replace q9 := eq_true q9
                  go_wp2
                  go_ret
                  exact ⟨by first | rfl | (simp; done) | (simp [*]; done), by repeat (first | exact Drawn0.refl _ | apply Drawn0.step)⟩
                · rw [if_neg c10] at H
                  have c10b0 : decide ((bt a0 x3_1) < 48) = false := decide_eq_false c10
                  clear c10
                  by_cases c12 : (bt a0 x3_1) > 57
                  · rw [if_pos c12] at H
                    have c12b0 : decide (57 < (bt a0 x3_1)) = true := decide_eq_true c12
                    clear c12
                    obtain rfl := Option.some.inj H
                    have p4 : 0 ≤ (x3_1 : Int) := of_decide_eq_true (by first | (with_reducible assumption) | assumption)
                    have q4 : x3_1 < (a0.size : Int) := of_decide_eq_true (by first | (with_reducible assumption) | assumption)
                    have hx4 := bt_at a0 x3_1
                    replace p4 := eq_true p4
                    replace q4 := eq_true q4
                    have p6 : 0 ≤ (x3_1 : Int) := of_decide_eq_true (by first | (with_reducible assumption) | assumption)
                    have q6 : x3_1 < (a0.size : Int) := of_decide_eq_true (by first | (with_reducible assumption) | assumption)
                    have hx6 := bt_at a0 x3_1
                    replace p6 := eq_true p6
                    replace q6 := eq_true q6
                    have p9 : 0 ≤ (x3_1 : Int) := of_decide_eq_true (by first | (with_reducible assumption) | assumption)
                    have q9 : x3_1 < (a0.size : Int) := of_decide_eq_true (by first | (with_reducible assumption) | assumption)
                    have hx9 := bt_at a0 x3_1
                    replace p9 := eq_true p9
                    replace q9 := eq_true q9
                    have p11 : 0 ≤ (x3_1 : Int) := of_decide_eq_true (by first | (with_reducible assumption) | assumption)
                    have q11 : x3_1 < (a0.size : Int) := of_decide_eq_true (by first | (with_reducible assumption) | assumption)
                    have hx11 := bt_at a0 x3_1
                    replace p11 := eq_true p11
                    replace q11 := eq_true q11
                    go_wp2
                    go_ret
                    exact ⟨by first | rfl | (simp; done) | (simp [*]; done), by repeat (first | exact Drawn0.refl _ | apply Drawn0.step)⟩
                  · rw [if_neg c12] at H
                    have c12b0 : decide (57 < (bt a0 x3_1)) = false := decide_eq_false c12
                    clear c12
                    have H' := Aside0.mk H
                    clear H
                    have p4 : 0 ≤ (x3_1 : Int) := of_decide_eq_true (by first | (with_reducible assumption) | assumption)
                    have q4 : x3_1 < (a0.size : Int) := of_decide_eq_true (by first | (with_reducible assumption) | assumption)
                    have hx4 := bt_at a0 x3_1
                    replace p4 := eq_true p4
                    replace q4 := eq_true q4
                    have p6 : 0 ≤ (x3_1 : Int) := of_decide_eq_true (by first | (with_reducible assumption) | assumption)
                    have q6 : x3_1 < (a0.size : Int) := of_decide_eq_true (by first | (with_reducible assumption) | assumption)
                    have hx6 := bt_at a0 x3_1
                    replace p6 := eq_true p6
                    replace q6 := eq_true q6
                    have p9 : 0 ≤ (x3_1 : Int) := of_decide_eq_true (by first | (with_reducible assumption) | assumption)
                    have q9 : x3_1 < (a0.size : Int) := of_decide_eq_true (by first | (with_reducible assumption) | assumption)
                    have hx9 := bt_at a0 x3_1
                    replace p9 := eq_true p9
                    replace q9 := eq_true q9
                    have p11 : 0 ≤ (x3_1 : Int) := of_decide_eq_true (by first | (with_reducible assumption) | assumption)
                    have q11 : x3_1 < (a0.size : Int) := of_decide_eq_true (by first | (with_reducible assumption) | assumption)
                    have hx11 := bt_at a0 x3_1
                    replace p11 := eq_true p11
                    replace q11 := eq_true q11
                    go_wp2
                    go_roundg k1
                    case measure => have := HK1.out; omega
                    case rel => exact ⟨(wrap64 (x3_1 + 1)), (by first | rfl | (simp; done) | (simp [*]; done)), H', ⟨by have := HK1.out; omega⟩, by repeat (first | exact Drawn0.refl _ | apply Drawn0.step)⟩
          · rw [if_neg c5] at H
            have c5b0 : decide (97 ≤ (bt a0 x3_1)) = false := decide_eq_false c5
            clear c5
            by_cases c13 : x3_1 = 0
            · rw [if_pos c13] at H
              have c13b0 : (x3_1 == 0) = true := beq_iff_eq.mpr c13
              have c13b1 : (x3_1 != 0) = false := bne_eq_false_iff_eq.mpr c13
              clear c13
              obtain rfl := Option.some.inj H
              have p4 : 0 ≤ (x3_1 : Int) := of_decide_eq_true (by first | (with_reducible assumption) | assumption)
              have q4 : x3_1 < (a0.size : Int) := of_decide_eq_true (by first | (with_reducible assumption) | assumption)
              have hx4 := bt_at a0 x3_1
              replace p4 := eq_true p4
              replace q4 := eq_true q4
              go_wp2
              go_ret
              exact ⟨by first | rfl | (simp; done) | (simp [*]; done), by repeat (first | exact Drawn0.refl _ | apply Drawn0.step)⟩
            · rw [if_neg c13] at H
              have c13b0 : (x3_1 == 0) = false := beq_eq_false_iff_ne.mpr c13
              have c13b1 : (x3_1 != 0) = true := bne_iff_ne.mpr c13
              by_cases c15 : (bt a0 x3_1) < 48
              · rw [if_pos c15] at H
                have c15b0 : decide ((bt a0 x3_1) < 48) = true := decide_eq_true c15
                clear c15
                obtain rfl := Option.some.inj H
                have p4 : 0 ≤ (x3_1 : Int) := of_decide_eq_true (by first | (with_reducible assumption) | assumption)
                have q4 : x3_1 < (a0.size : Int) := of_decide_eq_true (by first | (with_reducible assumption) | assumption)
                have hx4 := bt_at a0 x3_1
                replace p4 := eq_true p4
                replace q4 := eq_true q4
                have p14 : 0 ≤ (x3_1 : Int) := of_decide_eq_true (by first | (with_reducible assumption) | assumption)
                have q14 : x3_1 < (a0.size : Int) := of_decide_eq_true (by first | (with_reducible assumption) | assumption)
                have hx14 := bt_at a0 x3_1
                replace p14 := eq_true p14
                replace q14 := eq_true q14
                go_wp2
                go_ret
                exact ⟨by first | rfl | (simp; done) | (simp [*]; done), by repeat (first | exact Drawn0.refl _ | apply Drawn0.step)⟩
              · rw [if_neg c15] at H
                have c15b0 : decide ((bt a0 x3_1) < 48) = false := decide_eq_false c15
                clear c15
                by_cases c17 : (bt a0 x3_1) > 57
                · rw [if_pos c17] at H
                  have c17b0 : decide (57 < (bt a0 x3_1)) = true := decide_eq_true c17
                  clear c17
                  obtain rfl := Option.some.inj H
                  have p4 : 0 ≤ (x3_1 : Int) := of_decide_eq_true (by first | (with_reducible assumption) | assumption)
                  have q4 : x3_1 < (a0.size : Int) := of_decide_eq_true (by first | (with_reducible assumption) | assumption)
                  have hx4 := bt_at a0 x3_1
                  replace p4 := eq_true p4
                  replace q4 := eq_true q4
                  have p14 : 0 ≤ (x3_1 : Int) := of_decide_eq_true (by first | (with_reducible assumption) | assumption)
                  have q14 : x3_1 < (a0.size : Int) := of_decide_eq_true (by first | (with_reducible assumption) | assumption)
                  have hx14 := bt_at a0 x3_1
                  replace p14 := eq_true p14
                  replace q14 := eq_true q14
                  have p16 : 0 ≤ (x3_1 : Int) := of_decide_eq_true (by first | (with_reducible assumption) | assumption)
                  have q16 : x3_1 < (a0.size : Int) := of_decide_eq_true (by first | (with_reducible assumption) | assumption)
                  have hx16 := bt_at a0 x3_1
                  replace p16 := eq_true p16
                  replace q16 := eq_true q16
                  go_wp2
                  go_ret
                  exact ⟨by first | rfl | (simp; done) | (simp [*]; done), by repeat (first | exact Drawn0.refl _ | apply Drawn0.step)⟩
                · rw [if_neg c17] at H
                  have c17b0 : decide (57 < (bt a0 x3_1)) = false := decide_eq_false c17
                  clear c17
                  have H' := Aside0.mk H
                  clear H
                  have p4 : 0 ≤ (x3_1 : Int) := of_decide_eq_true (by first | (with_reducible assumption) | assumption)
                  have q4 : x3_1 < (a0.size : Int) := of_decide_eq_true (by first | (with_reducible assumption) | assumption)
                  have hx4 := bt_at a0 x3_1
                  replace p4 := eq_true p4
                  replace q4 := eq_true q4
                  have p14 : 0 ≤ (x3_1 : Int) := of_decide_eq_true (by first | (with_reducible assumption) | assumption)
                  have q14 : x3_1 < (a0.size : Int) := of_decide_eq_true (by first | (with_reducible assumption) | assumption)
                  have hx14 := bt_at a0 x3_1
                  replace p14 := eq_true p14
                  replace q14 := eq_true q14
                  have p16 : 0 ≤ (x3_1 : Int) := of_decide_eq_true (by first | (with_reducible assumption) | assumption)
                  have q16 : x3_1 < (a0.size : Int) := of_decide_eq_true (by first | (with_reducible assumption) | assumption)
                  have hx16 := bt_at a0 x3_1
                  replace p16 := eq_true p16
                  replace q16 := eq_true q16
                  go_wp2
                  go_roundg k1
                  case measure => have := HK1.out; omega
                  case rel => exact ⟨(wrap64 (x3_1 + 1)), (by first | rfl | (simp; done) | (simp [*]; done)), H', ⟨by have := HK1.out; omega⟩, by repeat (first | exact Drawn0.refl _ | apply Drawn0.step)⟩
        · rw [if_neg c3] at H
          exact absurd H (by simp)
      · rw [if_neg c2] at H
        have c2b0 : decide (x3_1 < (a0.size : Int)) = false := decide_eq_false c2
        clear c2
        by_cases c18 : (a0.size : Int) > 0
        · rw [if_pos c18] at H
          have c18b0 : decide (0 < (a0.size : Int)) = true := decide_eq_true c18
          have c18b1 : decide (0 < a0.size) = true := decide_eq_true (by omega)
          clear c18
          obtain rfl := Option.some.inj H
          go_wp2
          go_ret
          exact ⟨by first | rfl | (simp; done) | (simp [*]; done), by repeat (first | exact Drawn0.refl _ | apply Drawn0.step)⟩
        · rw [if_neg c18] at H
          have c18b0 : decide (0 < (a0.size : Int)) = false := decide_eq_false c18
          have c18b1 : decide (0 < a0.size) = false := decide_eq_false (by omega)
          clear c18
          obtain rfl := Option.some.inj H
          go_wp2
          go_ret
          exact ⟨by first | rfl | (simp; done) | (simp [*]; done), by repeat (first | exact Drawn0.refl _ | apply Drawn0.step)⟩
end Go.Proofs.Ytokijibpdnepiaa.X
end
section
namespace Go.Proofs.Ytokijibpdnepiaa.X
open Go.RowKit Go.Proofs.YtokijibpdnepiaaW.PrintWords Go.Proofs.YtokijibpdnepiaaW.PrintLast Go.Proofs.YtokijibpdnepiaaW.PrintMore
attribute [local go_sem] max2_int min2_int max_two min_two max_three min_three max_four min_four
set_option linter.unusedVariables false
set_option linter.unusedSimpArgs false
mutual
def contangoref45_Check.l0 : Nat → List (S33) → Int → Option (Int)
  | 0, _, _ => none
  | k + 1, x0, x3 => if x3 < (x0.length : Int) then (if 0 ≤ x3 then ((contangoref03_Name.f k ((rd_T33 x0 x3).f0)).bind fun t102 => (if t102 = true then (if ((rd_T33 x0 x3).f1) < 1 then (contangoref45_Check.j1 k x0 x3 true) else (contangoref45_Check.j1 k x0 x3 (decide (((rd_T33 x0 x3).f1) > 1048576)))) else (some 10))) else (none)) else (some 0)
def contangoref45_Check.j1 : Nat → List (S33) → Int → Bool → Option (Int)
  | 0, _, _, _ => none
  | k + 1, x0, x3, x33 => if x33 = true then (some 18) else (if 0 ≤ x3 then (if x3 < (x0.length : Int) then ((contangoref45_price.f ((rd_T33 x0 x3).f2)).bind fun t106 => (if t106 = true then (if ((rd_T33 x0 x3).f3) < 0 then (some 28) else (if ((rd_T33 x0 x3).f3) > 86399 then (some 28) else (contangoref45_Check.l0 k x0 (wrap64 (x3 + 1))))) else (some 28))) else (none)) else (none))
end
def contangoref45_Check.f (k : Nat) (l0 : List (S33)) : Option (Int) := if (l0.length : Int) > 1024 then (some 8) else (contangoref45_Check.l0 k l0 0)
set_option maxHeartbeats 8000000 in
set_option maxRecDepth 100000 in
theorem contangoref45_Check.calls (k : Nat) (A0 : Option Addr) (c0 : Nat) (l0 : List (S33)) (r : Int) (w : World) (hr0 : Kd.C k33 w A0 l0.length l0) (hc0 : l0.length ≤ c0) (h : contangoref45_Check.f k l0 = some r) :
    Calls Try.prog 19 #[.slice A0 l0.length c0] w fun e w' => e = .returned (.int .i64 r) ∧ Drawn0 w w' := by
  have HR0 := Aside0.mk hr0
  have HC0 := Aside0.mk hc0
  clear hr0 hc0
  have H : (if (l0.length : Int) > 1024 then (some 8) else (contangoref45_Check.l0 k l0 0)) = some r := h
  clear h
  by_cases c2 : (l0.length : Int) > 1024
  · rw [if_pos c2] at H
    have c2b0 : decide (1024 < (l0.length : Int)) = true := decide_eq_true c2
    have c2b1 : decide (1024 < l0.length) = true := decide_eq_true (by omega)
    clear c2
    obtain rfl := Option.some.inj H
    go_enter Try.func19, Try.ntmps19
    go_wp2
    go_ret
    exact ⟨by first | rfl | (simp; done) | (simp [*]; done), by repeat (first | exact Drawn0.refl _ | apply Drawn0.step)⟩
  · rw [if_neg c2] at H
    have c2b0 : decide (1024 < (l0.length : Int)) = false := decide_eq_false c2
    have c2b1 : decide (1024 < l0.length) = false := decide_eq_false (by omega)
    clear c2
    have H' := Aside0.mk H
    clear H
    go_enter Try.func19, Try.ntmps19
    go_wp2
    go_loopg [3] k (fun kq v3 w' => ∃ (x3_1 : Int), v3 = .int .i64 x3_1 ∧ Aside0 (contangoref45_Check.l0 kq l0 x3_1 = some r) ∧ Aside0 (kq ≤ k) ∧ Drawn0 w w')
    case atStart => exact ⟨(0), (by first | rfl | (simp; done) | (simp [*]; done)), H', ⟨Nat.le_refl _⟩, by repeat (first | exact Drawn0.refl _ | apply Drawn0.step)⟩
    case round =>
      clear H'
      try clear c1
      try clear c2
      try clear c2b0
      try clear c2b1
      try clear p2
      obtain ⟨x3_1, rfl, HA, HK1, ⟨m1, rfl⟩⟩ := hrel
      cases gk with
      | zero => exact absurd HA.out (by simp [contangoref45_Check.l0])
      | succ k1 =>
        have H := HA.out
        clear HA
        simp only [contangoref45_Check.l0] at H
        by_cases c3 : x3_1 < (l0.length : Int)
        · rw [if_pos c3] at H
          have c3b0 : decide (x3_1 < (l0.length : Int)) = true := decide_eq_true c3
          clear c3
          by_cases c4 : 0 ≤ x3_1
          · rw [if_pos c4] at H
            have c4b0 : decide (0 ≤ x3_1) = true := decide_eq_true c4
            clear c4
            replace H := Option.bind_eq_some_iff.mp H
            obtain ⟨t102, A50, H⟩ := H
            replace H : (if t102 = true then (if ((rd_T33 l0 x3_1).f1) < 1 then (contangoref45_Check.j1 k1 l0 x3_1 true) else (contangoref45_Check.j1 k1 l0 x3_1 (decide (((rd_T33 l0 x3_1).f1) > 1048576)))) else (some 10)) = some r := H
            have A5 := Aside0.mk A50
            clear A50
            by_cases c6 : t102 = true
            · subst c6
              have H1 : (if ((rd_T33 l0 x3_1).f1) < 1 then (contangoref45_Check.j1 k1 l0 x3_1 true) else (contangoref45_Check.j1 k1 l0 x3_1 (decide (((rd_T33 l0 x3_1).f1) > 1048576)))) = some r := by rw [if_pos rfl] at H; exact H
              clear H
              have H := H1
              clear H1
              have HC7 := Aside0.mk H
              clear H
              have p101 : 0 ≤ (x3_1 : Int) := of_decide_eq_true (by first | (with_reducible assumption) | assumption)
              have q101 : x3_1 < (l0.length : Int) := of_decide_eq_true (by first | (with_reducible assumption) | assumption)
              obtain ⟨ad101, e101, hx101_0, hx101_1, hx101_2, hx101_3⟩ := at_T33 HR0.out x3_1 p101 q101
              cases e101
              replace p101 := eq_true p101
              replace q101 := eq_true q101
              go_upto_region 8 with (first | ((with_reducible refine gate_callee (f := 61) rfl ?_); refine goesL_ (some 18) rfl rfl Try.func61 (by kernel_rfl) rfl #[.string ((rd_T33 l0 x3_1).f0)] rfl (by (try simp only [List.map_toArray, List.map_cons, List.map_nil]); first | done | rfl | (simp only [List.length_drop, List.length_take]; rfl)) ?_; (with_reducible refine (contangoref03_Name.calls k1 ((rd_T33 l0 x3_1).f0) true _ A5.out).mono ?_); rintro e w' ⟨rfl, ⟨nd, rfl⟩⟩; refine ⟨_, rfl, ?_⟩))
              (try simp only [Act.put, List.setIfInBounds_toArray, List.set_cons_zero, List.set_cons_succ])
              go_cut [33] (fun v33 wc => ∃ (kq : Nat) (x33_6 : Bool), v33 = .bool x33_6 ∧ Aside0 (contangoref45_Check.j1 kq l0 x3_1 x33_6 = some r) ∧ Aside0 (kq ≤ k1) ∧ Drawn0 w wc)
              case first =>
                have H := HC7.out
                clear HC7
                by_cases c8 : ((rd_T33 l0 x3_1).f1) < 1
                · rw [if_pos c8] at H
                  have c8b0 : decide (((rd_T33 l0 x3_1).f1) < 1) = true := decide_eq_true c8
                  clear c8
                  (first | rw [c8b0] | (simp only [i64_w, i32_w]; rw [c8b0]) | skip)
                  have H' := Aside0.mk H
                  clear H
                  have p103 : 0 ≤ (x3_1 : Int) := of_decide_eq_true (by first | (with_reducible assumption) | assumption)
                  have q103 : x3_1 < (l0.length : Int) := of_decide_eq_true (by first | (with_reducible assumption) | assumption)
                  obtain ⟨ad103, e103, hx103_0, hx103_1, hx103_2, hx103_3⟩ := at_T33 HR0.out x3_1 p103 q103
                  obtain rfl : ad101 = ad103 := (by injection e103)
                  replace p103 := eq_true p103
                  replace q103 := eq_true q103
                  go_wp2
                  go_meet
                  case rel => exact ⟨_, (true), (by first | rfl | (simp; done) | (simp [*]; done)), H', ⟨by have := HK1.out; first | omega | exact Nat.le_refl _⟩, by repeat (first | exact Drawn0.refl _ | apply Drawn0.step)⟩
                · rw [if_neg c8] at H
                  have c8b0 : decide (((rd_T33 l0 x3_1).f1) < 1) = false := decide_eq_false c8
                  clear c8
                  (first | rw [c8b0] | (simp only [i64_w, i32_w]; rw [c8b0]) | skip)
                  have H' := Aside0.mk H
                  clear H
                  have p103 : 0 ≤ (x3_1 : Int) := of_decide_eq_true (by first | (with_reducible assumption) | assumption)
                  have q103 : x3_1 < (l0.length : Int) := of_decide_eq_true (by first | (with_reducible assumption) | assumption)
                  obtain ⟨ad103, e103, hx103_0, hx103_1, hx103_2, hx103_3⟩ := at_T33 HR0.out x3_1 p103 q103
                  obtain rfl : ad101 = ad103 := (by injection e103)
                  replace p103 := eq_true p103
                  replace q103 := eq_true q103
                  have p104 : 0 ≤ (x3_1 : Int) := of_decide_eq_true (by first | (with_reducible assumption) | assumption)
                  have q104 : x3_1 < (l0.length : Int) := of_decide_eq_true (by first | (with_reducible assumption) | assumption)
                  obtain ⟨ad104, e104, hx104_0, hx104_1, hx104_2, hx104_3⟩ := at_T33 HR0.out x3_1 p104 q104
                  obtain rfl : ad101 = ad104 := (by injection e104)
                  replace p104 := eq_true p104
                  replace q104 := eq_true q104
                  go_wp2
                  go_meet
                  case rel => exact ⟨_, (decide (((rd_T33 l0 x3_1).f1) > 1048576)), (by first | rfl | (simp; done) | (simp [*]; done)), H', ⟨by have := HK1.out; first | omega | exact Nat.le_refl _⟩, by repeat (first | exact Drawn0.refl _ | apply Drawn0.step)⟩
              case rest =>
                clear HC7
                try clear c1
                try clear p1
                try clear q1
                try clear hx1
                try clear c2
                try clear c2b0
                try clear c2b1
                try clear p2
                try clear c3
                try clear c3b0
                try clear c4
                try clear c4b0
                try clear c6
                try clear c8
                try clear c8b0
                try clear hx101_0
                try clear hx101_1
                try clear hx101_2
                try clear hx101_3
                try clear hx103_0
                try clear hx103_1
                try clear hx103_2
                try clear hx103_3
                try clear hx104_0
                try clear hx104_1
                try clear hx104_2
                try clear hx104_3
                try clear p101
                try clear p103
                try clear p104
                try clear p2
                try clear q101
                try clear q103
                try clear q104
                obtain ⟨kq, x33_6, rfl, HA, HJ6, ⟨mc6, rfl⟩⟩ := hcut
                cases kq with
                | zero => exact absurd HA.out (by simp [contangoref45_Check.j1])
                | succ kj6 =>
                  have H := HA.out
                  clear HA
                  simp only [contangoref45_Check.j1] at H
                  by_cases c9 : x33_6 = true
                  · subst c9
                    have H1 : (some 18) = some r := by rw [if_pos rfl] at H; exact H
                    clear H
                    have H := H1
                    clear H1
                    obtain rfl := Option.some.inj H
                    go_wp2
                    go_ret
                    exact ⟨by first | rfl | (simp; done) | (simp [*]; done), by repeat (first | exact Drawn0.refl _ | apply Drawn0.step)⟩
                  · replace c9 := Bool.eq_false_iff.mpr c9
                    subst c9
                    have H1 : (if 0 ≤ x3_1 then (if x3_1 < (l0.length : Int) then ((contangoref45_price.f ((rd_T33 l0 x3_1).f2)).bind fun t106 => (if t106 = true then (if ((rd_T33 l0 x3_1).f3) < 0 then (some 28) else (if ((rd_T33 l0 x3_1).f3) > 86399 then (some 28) else (contangoref45_Check.l0 kj6 l0 (wrap64 (x3_1 + 1))))) else (some 28))) else (none)) else (none)) = some r := by rw [if_neg (show ¬ (false = true) by decide)] at H; exact H
                    clear H
                    have H := H1
                    clear H1
                    by_cases c10 : 0 ≤ x3_1
                    · rw [if_pos c10] at H
                      have c10b0 : decide (0 ≤ x3_1) = true := decide_eq_true c10
                      clear c10
                      by_cases c11 : x3_1 < (l0.length : Int)
                      · rw [if_pos c11] at H
                        have c11b0 : decide (x3_1 < (l0.length : Int)) = true := decide_eq_true c11
                        clear c11
                        replace H := Option.bind_eq_some_iff.mp H
                        obtain ⟨t106, A120, H⟩ := H
                        replace H : (if t106 = true then (if ((rd_T33 l0 x3_1).f3) < 0 then (some 28) else (if ((rd_T33 l0 x3_1).f3) > 86399 then (some 28) else (contangoref45_Check.l0 kj6 l0 (wrap64 (x3_1 + 1))))) else (some 28)) = some r := H
                        have A12 := Aside0.mk A120
                        clear A120
                        by_cases c13 : t106 = true
                        · subst c13
                          have H1 : (if ((rd_T33 l0 x3_1).f3) < 0 then (some 28) else (if ((rd_T33 l0 x3_1).f3) > 86399 then (some 28) else (contangoref45_Check.l0 kj6 l0 (wrap64 (x3_1 + 1))))) = some r := by rw [if_pos rfl] at H; exact H
                          clear H
                          have H := H1
                          clear H1
                          by_cases c14 : ((rd_T33 l0 x3_1).f3) < 0
                          · rw [if_pos c14] at H
                            have c14b0 : decide (((rd_T33 l0 x3_1).f3) < 0) = true := decide_eq_true c14
                            clear c14
                            obtain rfl := Option.some.inj H
                            have p105 : 0 ≤ (x3_1 : Int) := of_decide_eq_true (by first | (with_reducible assumption) | assumption)
                            have q105 : x3_1 < (l0.length : Int) := of_decide_eq_true (by first | (with_reducible assumption) | assumption)
                            obtain ⟨ad105, e105, hx105_0, hx105_1, hx105_2, hx105_3⟩ := at_T33 HR0.out x3_1 p105 q105
                            obtain rfl : ad101 = ad105 := (by injection e105)
                            replace p105 := eq_true p105
                            replace q105 := eq_true q105
                            go_wp2_with (first | ((with_reducible refine gate_callee (f := 62) rfl ?_); refine goesL_ (some 39) rfl rfl Try.func62 (by kernel_rfl) rfl #[.int .i64 ((rd_T33 l0 x3_1).f2)] rfl (by (try simp only [List.map_toArray, List.map_cons, List.map_nil]); first | done | rfl | (simp only [List.length_drop, List.length_take]; rfl)) ?_; (with_reducible refine (contangoref45_price.calls ((rd_T33 l0 x3_1).f2) true _ A12.out).mono ?_); rintro e w' ⟨rfl, ⟨nd, rfl⟩⟩; refine ⟨_, rfl, ?_⟩; have p107 : 0 ≤ (x3_1 : Int) := of_decide_eq_true (by first | (with_reducible assumption) | assumption); have q107 : x3_1 < (l0.length : Int) := of_decide_eq_true (by first | (with_reducible assumption) | assumption); obtain ⟨ad107, e107, hx107_0, hx107_1, hx107_2, hx107_3⟩ := at_T33 HR0.out x3_1 p107 q107; obtain rfl : ad101 = ad107 := (by injection e107); replace p107 := eq_true p107; replace q107 := eq_true q107))
                            go_ret
                            exact ⟨by first | rfl | (simp; done) | (simp [*]; done), by repeat (first | exact Drawn0.refl _ | apply Drawn0.step)⟩
                          · rw [if_neg c14] at H
                            have c14b0 : decide (((rd_T33 l0 x3_1).f3) < 0) = false := decide_eq_false c14
                            clear c14
                            by_cases c15 : ((rd_T33 l0 x3_1).f3) > 86399
                            · rw [if_pos c15] at H
                              have c15b0 : decide (86399 < ((rd_T33 l0 x3_1).f3)) = true := decide_eq_true c15
                              clear c15
                              obtain rfl := Option.some.inj H
                              have p105 : 0 ≤ (x3_1 : Int) := of_decide_eq_true (by first | (with_reducible assumption) | assumption)
                              have q105 : x3_1 < (l0.length : Int) := of_decide_eq_true (by first | (with_reducible assumption) | assumption)
                              obtain ⟨ad105, e105, hx105_0, hx105_1, hx105_2, hx105_3⟩ := at_T33 HR0.out x3_1 p105 q105
                              obtain rfl : ad101 = ad105 := (by injection e105)
                              replace p105 := eq_true p105
                              replace q105 := eq_true q105
                              go_wp2_with (first | ((with_reducible refine gate_callee (f := 62) rfl ?_); refine goesL_ (some 39) rfl rfl Try.func62 (by kernel_rfl) rfl #[.int .i64 ((rd_T33 l0 x3_1).f2)] rfl (by (try simp only [List.map_toArray, List.map_cons, List.map_nil]); first | done | rfl | (simp only [List.length_drop, List.length_take]; rfl)) ?_; (with_reducible refine (contangoref45_price.calls ((rd_T33 l0 x3_1).f2) true _ A12.out).mono ?_); rintro e w' ⟨rfl, ⟨nd, rfl⟩⟩; refine ⟨_, rfl, ?_⟩; have p107 : 0 ≤ (x3_1 : Int) := of_decide_eq_true (by first | (with_reducible assumption) | assumption); have q107 : x3_1 < (l0.length : Int) := of_decide_eq_true (by first | (with_reducible assumption) | assumption); obtain ⟨ad107, e107, hx107_0, hx107_1, hx107_2, hx107_3⟩ := at_T33 HR0.out x3_1 p107 q107; obtain rfl : ad101 = ad107 := (by injection e107); replace p107 := eq_true p107; replace q107 := eq_true q107; have p108 : 0 ≤ (x3_1 : Int) := of_decide_eq_true (by first | (with_reducible assumption) | assumption); have q108 : x3_1 < (l0.length : Int) := of_decide_eq_true (by first | (with_reducible assumption) | assumption); obtain ⟨ad108, e108, hx108_0, hx108_1, hx108_2, hx108_3⟩ := at_T33 HR0.out x3_1 p108 q108; obtain rfl : ad101 = ad108 := (by injection e108); replace p108 := eq_true p108; replace q108 := eq_true q108))
                              go_ret
                              exact ⟨by first | rfl | (simp; done) | (simp [*]; done), by repeat (first | exact Drawn0.refl _ | apply Drawn0.step)⟩
                            · rw [if_neg c15] at H
                              have c15b0 : decide (86399 < ((rd_T33 l0 x3_1).f3)) = false := decide_eq_false c15
                              clear c15
                              have H' := Aside0.mk H
                              clear H
                              have p105 : 0 ≤ (x3_1 : Int) := of_decide_eq_true (by first | (with_reducible assumption) | assumption)
                              have q105 : x3_1 < (l0.length : Int) := of_decide_eq_true (by first | (with_reducible assumption) | assumption)
                              obtain ⟨ad105, e105, hx105_0, hx105_1, hx105_2, hx105_3⟩ := at_T33 HR0.out x3_1 p105 q105
                              obtain rfl : ad101 = ad105 := (by injection e105)
                              replace p105 := eq_true p105
                              replace q105 := eq_true q105
                              go_wp2_with (first | ((with_reducible refine gate_callee (f := 62) rfl ?_); refine goesL_ (some 39) rfl rfl Try.func62 (by kernel_rfl) rfl #[.int .i64 ((rd_T33 l0 x3_1).f2)] rfl (by (try simp only [List.map_toArray, List.map_cons, List.map_nil]); first | done | rfl | (simp only [List.length_drop, List.length_take]; rfl)) ?_; (with_reducible refine (contangoref45_price.calls ((rd_T33 l0 x3_1).f2) true _ A12.out).mono ?_); rintro e w' ⟨rfl, ⟨nd, rfl⟩⟩; refine ⟨_, rfl, ?_⟩; have p107 : 0 ≤ (x3_1 : Int) := of_decide_eq_true (by first | (with_reducible assumption) | assumption); have q107 : x3_1 < (l0.length : Int) := of_decide_eq_true (by first | (with_reducible assumption) | assumption); obtain ⟨ad107, e107, hx107_0, hx107_1, hx107_2, hx107_3⟩ := at_T33 HR0.out x3_1 p107 q107; obtain rfl : ad101 = ad107 := (by injection e107); replace p107 := eq_true p107; replace q107 := eq_true q107; have p108 : 0 ≤ (x3_1 : Int) := of_decide_eq_true (by first | (with_reducible assumption) | assumption); have q108 : x3_1 < (l0.length : Int) := of_decide_eq_true (by first | (with_reducible assumption) | assumption); obtain ⟨ad108, e108, hx108_0, hx108_1, hx108_2, hx108_3⟩ := at_T33 HR0.out x3_1 p108 q108; obtain rfl : ad101 = ad108 := (by injection e108); replace p108 := eq_true p108; replace q108 := eq_true q108))
                              go_roundg kj6
                              case measure => have := HK1.out; have := HJ6.out; omega
                              case rel => exact ⟨(wrap64 (x3_1 + 1)), (by first | rfl | (simp; done) | (simp [*]; done)), H', ⟨by have := HK1.out; have := HJ6.out; omega⟩, by repeat (first | exact Drawn0.refl _ | apply Drawn0.step)⟩
                        · replace c13 := Bool.eq_false_iff.mpr c13
                          subst c13
                          have H1 : (some 28) = some r := by rw [if_neg (show ¬ (false = true) by decide)] at H; exact H
                          clear H
                          have H := H1
                          clear H1
                          obtain rfl := Option.some.inj H
                          have p105 : 0 ≤ (x3_1 : Int) := of_decide_eq_true (by first | (with_reducible assumption) | assumption)
                          have q105 : x3_1 < (l0.length : Int) := of_decide_eq_true (by first | (with_reducible assumption) | assumption)
                          obtain ⟨ad105, e105, hx105_0, hx105_1, hx105_2, hx105_3⟩ := at_T33 HR0.out x3_1 p105 q105
                          obtain rfl : ad101 = ad105 := (by injection e105)
                          replace p105 := eq_true p105
                          replace q105 := eq_true q105
                          go_wp2_with (first | ((with_reducible refine gate_callee (f := 62) rfl ?_); refine goesL_ (some 39) rfl rfl Try.func62 (by kernel_rfl) rfl #[.int .i64 ((rd_T33 l0 x3_1).f2)] rfl (by (try simp only [List.map_toArray, List.map_cons, List.map_nil]); first | done | rfl | (simp only [List.length_drop, List.length_take]; rfl)) ?_; (with_reducible refine (contangoref45_price.calls ((rd_T33 l0 x3_1).f2) false _ A12.out).mono ?_); rintro e w' ⟨rfl, ⟨nd, rfl⟩⟩; refine ⟨_, rfl, ?_⟩))
                          go_ret
                          exact ⟨by first | rfl | (simp; done) | (simp [*]; done), by repeat (first | exact Drawn0.refl _ | apply Drawn0.step)⟩
                      · rw [if_neg c11] at H
                        exact absurd H (by simp)
                    · rw [if_neg c10] at H
                      exact absurd H (by simp)
            · replace c6 := Bool.eq_false_iff.mpr c6
              subst c6
              have H1 : (some 10) = some r := by rw [if_neg (show ¬ (false = true) by decide)] at H; exact H
              clear H
              have H := H1
              clear H1
              obtain rfl := Option.some.inj H
              have p101 : 0 ≤ (x3_1 : Int) := of_decide_eq_true (by first | (with_reducible assumption) | assumption)
              have q101 : x3_1 < (l0.length : Int) := of_decide_eq_true (by first | (with_reducible assumption) | assumption)
              obtain ⟨ad101, e101, hx101_0, hx101_1, hx101_2, hx101_3⟩ := at_T33 HR0.out x3_1 p101 q101
              cases e101
              replace p101 := eq_true p101
              replace q101 := eq_true q101
              go_wp2_with (first | ((with_reducible refine gate_callee (f := 61) rfl ?_); refine goesL_ (some 18) rfl rfl Try.func61 (by kernel_rfl) rfl #[.string ((rd_T33 l0 x3_1).f0)] rfl (by (try simp only [List.map_toArray, List.map_cons, List.map_nil]); first | done | rfl | (simp only [List.length_drop, List.length_take]; rfl)) ?_; (with_reducible refine (contangoref03_Name.calls k1 ((rd_T33 l0 x3_1).f0) false _ A5.out).mono ?_); rintro e w' ⟨rfl, ⟨nd, rfl⟩⟩; refine ⟨_, rfl, ?_⟩))
              go_ret
              exact ⟨by first | rfl | (simp; done) | (simp [*]; done), by repeat (first | exact Drawn0.refl _ | apply Drawn0.step)⟩
          · rw [if_neg c4] at H
            exact absurd H (by simp)
        · rw [if_neg c3] at H
          have c3b0 : decide (x3_1 < (l0.length : Int)) = false := decide_eq_false c3
          clear c3
          obtain rfl := Option.some.inj H
          go_wp2
          go_ret
          exact ⟨by first | rfl | (simp; done) | (simp [*]; done), by repeat (first | exact Drawn0.refl _ | apply Drawn0.step)⟩
end Go.Proofs.Ytokijibpdnepiaa.X
end
