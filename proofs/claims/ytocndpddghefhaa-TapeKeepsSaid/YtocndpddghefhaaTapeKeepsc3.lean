/- For TapeKeeps: contracts, and facts on lists and numbers, that it uses (part 3). -/
import Derived.ChangeArms
import Derived.Deep.CutRange
import Derived.Deep.Slices
import Derived.Laws.BitsLemmas
import Derived.Laws.Strings
import Derived.SizedLaws
import Derived.Test.YtocndpddghefhaaTapeKeepsc2
import Derived.WideShapes
section
namespace Go.Proofs.Ytocndpddghefhaa.X
open Go.RowKit Go.Proofs.YtocndpddghefhaaW.PrintWords Go.Proofs.YtocndpddghefhaaW.PrintLast Go.Proofs.YtocndpddghefhaaW.PrintMore
attribute [local go_sem] max2_int min2_int max_two min_two max_three min_three max_four min_four
set_option linter.unusedVariables false
set_option linter.unusedSimpArgs false
set_option maxHeartbeats 8000000 in
set_option maxRecDepth 100000 in
theorem sym_lo (g c N : Nat) (w0 : World) (I : World → Prop) (Q : S49 → Prop) (lt : S49 → S49 → Bool) (caps : Array Value) (hI : Stays g I) (hC : Cmp caps I Q lt) (hN2 : N ≤ 4611686018427387903) (f : Nat) (ih : SymIH g c N w0 I Q lt caps f) (a m b : Nat) (xs0 : List S49) (w : World) (h : SS g c N w0 I Q w xs0) (ham : a < m) (hmb : m < b) (hbN : b ≤ N) (hf : b - a ≤ f + 1) (c1 : ¬ m - a = 1) (c2 : ¬ b - m = 1) (cm : ¬ (a + b) / 2 < m) :
    Calls Try.prog 103 #[.slice (some ⟨g, 0, none⟩) N c, .int .i64 (a : Int), .int .i64 (m : Int), .int .i64 (b : Int), .func (.func 57) #[] caps] w fun e w' => (∃ r, e = .returned r) ∧ SS g c N w0 I Q w' (Srt.symF z49 lt (f + 1) a m b xs0) := by
  have HS := Aside0.mk h
  have HC := Aside0.mk hC
  have IH := Aside0.mk ih
  clear h hC ih
  obtain ⟨dm, hdm⟩ : ∃ dm, m - a = dm := ⟨_, rfl⟩
  have hdm' : (m : Int) - (a : Int) = (dm : Int) := by omega
  have hdn : ¬ ((dm : Int) = 1) := by omega
  have hdnb : ((dm : Int) == 1) = false := beq_eq_false_iff_ne.2 hdn
  have HDM := Aside0.mk hdm
  clear hdm
  obtain ⟨db, hdb⟩ : ∃ db, b - m = db := ⟨_, rfl⟩
  have hdb' : (b : Int) - (m : Int) = (db : Int) := by omega
  have hdbn : ¬ ((db : Int) = 1) := by omega
  have hdbb : ((db : Int) == 1) = false := beq_eq_false_iff_ne.2 hdbn
  obtain ⟨md, hmd⟩ : ∃ md, (a + b) / 2 = md := ⟨_, rfl⟩
  have hmd' : ((a : Int) + (b : Int)) / 2 = (md : Int) := by omega
  obtain ⟨n, hn⟩ : ∃ n, md + m = n := ⟨_, rfl⟩
  have hn' : (md : Int) + (m : Int) = (n : Int) := by omega
  obtain ⟨p, hp⟩ : ∃ p, n - 1 = p := ⟨_, rfl⟩
  have hp' : (n : Int) - 1 = (p : Int) := by omega
  have hF := Srt.symF.eq_2 z49 lt a m b xs0 f
  rw [if_neg c1, if_neg c2] at hF
  dsimp only at hF
  rw [hmd, hn, hp] at hF
  rw [hmd] at cm
  rw [if_neg cm, if_neg cm] at hF
  obtain ⟨st, hst⟩ : ∃ st, Srt.bs (fun h => !lt (Srt.g z49 xs0 (p - h)) (Srt.g z49 xs0 h)) (m - a) a m = st := ⟨_, rfl⟩
  rw [hst] at hF
  have HST := Aside0.mk hst
  have HSF := Aside0.mk hF
  have HB := Aside0.mk (show a ≤ a ∧ a ≤ m ∧ m ≤ m ∧ m ≤ md ∧ n ≤ b + a ∧ n = md + m ∧ p + 1 = n ∧ md < b ∧ a < md ∧ md ≤ a + f ∧ b ≤ md + f from ⟨by omega, by omega, by omega, by omega, by omega, by omega, by omega, by omega, by omega, by omega, by omega⟩)
  clear hst hF
  go_enter Try.func103, Try.ntmps103
  go_wp2_with fail
  go_loopg [20, 21] (m - a) (fun kq v20 v21 wr => ∃ lo hi : Nat, v20 = .int .i64 (lo : Int) ∧ v21 = .int .i64 (hi : Int) ∧ Aside0 (a ≤ lo ∧ lo ≤ hi ∧ hi ≤ m ∧ hi - lo ≤ kq) ∧ Aside0 (Srt.bs (fun h => !lt (Srt.g z49 xs0 (p - h)) (Srt.g z49 xs0 h)) kq lo hi = st) ∧ Aside0 (SS g c N w0 I Q wr xs0))
  case atStart => exact ⟨a, m, rfl, rfl, ⟨by omega, by omega, by omega, by omega⟩, HST, HS⟩
  case round => as_aux_lemma =>
    obtain ⟨lo, hi, rfl, rfl, HK, HF, HW⟩ := hrel
    obtain ⟨k1, k2, k3, k4⟩ := HK.out
    obtain ⟨z1, z2, z3, z4, z5, z6, z7, z8, z9, z10, z11⟩ := HB.out
    by_cases hlt : lo < hi
    · obtain ⟨k', rfl⟩ : ∃ k', gk = k' + 1 := ⟨gk - 1, by omega⟩
      obtain ⟨mid, hm⟩ : ∃ mid, (lo + hi) / 2 = mid := ⟨_, rfl⟩
      obtain ⟨q, hq⟩ : ∃ q, p - mid = q := ⟨_, rfl⟩
      have hq' : (p : Int) - (mid : Int) = (q : Int) := by omega
      have hg := HF.out
      rw [bs_step _ _ _ _ _ hlt hm, hq] at hg
      have hi1 : q < N := by omega
      have hi2 : mid < N := by omega
      have hq1 := HW.out.qg q hi1
      have HQ1 := Aside0.mk hq1
      clear hq1
      have hx := HW.out.cell q hi1
      have hb0 := eq_true (show 0 ≤ (q : Int) by omega)
      have hb1 := eq_true (show (q : Int) < (N : Int) by omega)
      have hq2 := HW.out.qg mid hi2
      have HQ2 := Aside0.mk hq2
      clear hq2
      have hy := HW.out.cell mid hi2
      have hb2 := eq_true (show 0 ≤ (mid : Int) by omega)
      have hb3 := eq_true (show (mid : Int) < (N : Int) by omega)
      have hw3 : Go.RowKit.wrap64 (q : Int) = (q : Int) := w64n hi1 (by omega)
      have hmd2 : ((lo : Int) + (hi : Int)) / 2 = (mid : Int) := by omega
      have b5 : lo ≤ mid := by omega
      have b6 : mid < hi := by omega
      cases hlt2 : lt (Srt.g z49 xs0 q) (Srt.g z49 xs0 mid) with
      | true =>
        rw [hlt2, Bool.not_true, if_neg (by decide)] at hg
        have HG := Aside0.mk hg
        have HLT := Aside0.mk hlt2
        have HM := Aside0.mk hm
        clear hg hlt2 hm hq z1 z2 z3 z4 z5 z6 z7 z8 z9 z10 z11
        go_wp2_with fail
        refine start_ (n := 14) (S := fun w' => w'.cell? ⟨g, (q) * 3, none⟩ = some (.int .i64 (Srt.g z49 xs0 (q)).f0) ∧ w'.cell? ⟨g, (q) * 3 + 1, none⟩ = some (.int .i64 (Srt.g z49 xs0 (q)).f1) ∧ w'.cell? ⟨g, (q) * 3 + 2, none⟩ = some (.int .i64 (Srt.g z49 xs0 (q)).f2) ∧ w'.cell? ⟨g, (mid) * 3, none⟩ = some (.int .i64 (Srt.g z49 xs0 (mid)).f0) ∧ w'.cell? ⟨g, (mid) * 3 + 1, none⟩ = some (.int .i64 (Srt.g z49 xs0 (mid)).f1) ∧ w'.cell? ⟨g, (mid) * 3 + 2, none⟩ = some (.int .i64 (Srt.g z49 xs0 (mid)).f2)) (ds := [11]) #[false, false, false, false, false, false, false, false, false, false, false, false, false, false] (by kernel_rfl) rfl rfl ⟨hx.1, hx.2.1, hx.2.2, hy.1, hy.2.1, hy.2.2⟩ (fun hHeld => ?_)
        obtain ⟨E, hE⟩ : ∃ E, wr.drew = E := ⟨_, rfl⟩
        have HSE := Aside0.mk (show SS g c N w0 I Q E xs0 by rw [← hE]; exact HW.out.step hI (below_drew1 (Below.refl _ _)))
        rw [hE] at hHeld ⊢
        clear hE
        refine pure_ (i := 0) (N := some 158) (v := ?_) (a' := ?_) #[true, false, false, false, false, false, false, false, false, false, false, false, false, false] rfl rfl (by kernel_rfl) (fun _ _ _ h => h) (Or.inl ⟨by rfl, ?_⟩) ?_ ?_
        rotate_left
        · intro w'
          go_simp
          with_reducible rfl
        rotate_left
        · simp only [Act.put, List.setIfInBounds_toArray, List.set_cons_zero, List.set_cons_succ, i64_w, i32_w]
          rfl
        refine pure_ (i := 1) (N := some 159) (v := ?_) (a' := ?_) #[true, true, false, false, false, false, false, false, false, false, false, false, false, false] rfl rfl (by kernel_rfl) (fun _ _ _ h => h) (Or.inl ⟨by rfl, ?_⟩) ?_ ?_
        rotate_left
        · intro w'
          go_simp
          with_reducible rfl
        rotate_left
        · simp only [Act.put, List.setIfInBounds_toArray, List.set_cons_zero, List.set_cons_succ, i64_w, i32_w]
          rfl
        refine pure_ (i := 2) (N := some 160) (v := ?_) (a' := ?_) #[true, true, true, false, false, false, false, false, false, false, false, false, false, false] rfl rfl (by kernel_rfl) (fun _ _ _ h => h) (Or.inl ⟨by rfl, ?_⟩) ?_ ?_
        rotate_left
        · intro w'
          go_simp
          with_reducible rfl
        rotate_left
        · simp only [Act.put, List.setIfInBounds_toArray, List.set_cons_zero, List.set_cons_succ, i64_w, i32_w]
          rfl
        refine pure_ (i := 3) (N := some 161) (v := ?_) (a' := ?_) #[true, true, true, true, false, false, false, false, false, false, false, false, false, false] rfl rfl (by kernel_rfl) (fun _ _ _ h => h) (Or.inl ⟨by rfl, ?_⟩) ?_ ?_
        rotate_left
        · intro w'
          go_simp
          with_reducible rfl
        rotate_left
        · simp only [Act.put, List.setIfInBounds_toArray, List.set_cons_zero, List.set_cons_succ, i64_w, i32_w]
          rfl
        refine pure_ (i := 4) (N := some 162) (v := ?_) (a' := ?_) #[true, true, true, true, true, false, false, false, false, false, false, false, false, false] rfl rfl (by kernel_rfl) (fun _ _ _ h => h) (Or.inl ⟨by rfl, ?_⟩) ?_ ?_
        rotate_left
        · intro w'
          go_simp
          with_reducible rfl
        rotate_left
        · simp only [Act.put, List.setIfInBounds_toArray, List.set_cons_zero, List.set_cons_succ, i64_w, i32_w]
          rfl
        refine pure_ (i := 5) (N := some 163) (v := ?_) (a' := ?_) #[true, true, true, true, true, true, false, false, false, false, false, false, false, false] rfl rfl (by kernel_rfl) (fun _ _ _ h => h) (Or.inl ⟨by rfl, ?_⟩) ?_ ?_
        rotate_left
        · intro w'
          go_simp
          with_reducible rfl
        rotate_left
        · simp only [Act.put, List.setIfInBounds_toArray, List.set_cons_zero, List.set_cons_succ, i64_w, i32_w]
          rfl
        refine take_ (i := 6) (N := some 164) (v := ?_) (a' := ?_) #[true, true, true, true, true, true, true, false, false, false, false, false, false, false] rfl rfl (by kernel_rfl) (fun _ _ _ h => h) (Or.inl ⟨by rfl, ?_⟩) hHeld ?_ ?_
        rotate_left
        · rintro w' ⟨s0, s1, s2, s3, s4, s5⟩
          go_simp
          with_reducible rfl
        rotate_left
        · simp only [Act.put, List.setIfInBounds_toArray, List.set_cons_zero, List.set_cons_succ, i64_w, i32_w]
          rfl
        refine pure_ (i := 7) (N := some 165) (v := ?_) (a' := ?_) #[true, true, true, true, true, true, true, true, false, false, false, false, false, false] rfl rfl (by kernel_rfl) (fun _ _ _ h => h) (Or.inl ⟨by rfl, ?_⟩) ?_ ?_
        rotate_left
        · intro w'
          go_simp
          with_reducible rfl
        rotate_left
        · simp only [Act.put, List.setIfInBounds_toArray, List.set_cons_zero, List.set_cons_succ, i64_w, i32_w]
          rfl
        refine pure_ (i := 8) (N := some 166) (v := ?_) (a' := ?_) #[true, true, true, true, true, true, true, true, true, false, false, false, false, false] rfl rfl (by kernel_rfl) (fun _ _ _ h => h) (Or.inl ⟨by rfl, ?_⟩) ?_ ?_
        rotate_left
        · intro w'
          go_simp
          with_reducible rfl
        rotate_left
        · simp only [Act.put, List.setIfInBounds_toArray, List.set_cons_zero, List.set_cons_succ, i64_w, i32_w]
          rfl
        refine pure_ (i := 9) (N := some 167) (v := ?_) (a' := ?_) #[true, true, true, true, true, true, true, true, true, true, false, false, false, false] rfl rfl (by kernel_rfl) (fun _ _ _ h => h) (Or.inl ⟨by rfl, ?_⟩) ?_ ?_
        rotate_left
        · intro w'
          go_simp
          with_reducible rfl
        rotate_left
        · simp only [Act.put, List.setIfInBounds_toArray, List.set_cons_zero, List.set_cons_succ, i64_w, i32_w]
          rfl
        refine take_ (i := 10) (N := some 168) (v := ?_) (a' := ?_) #[true, true, true, true, true, true, true, true, true, true, true, false, false, false] rfl rfl (by kernel_rfl) (fun _ _ _ h => h) (Or.inl ⟨by rfl, ?_⟩) hHeld ?_ ?_
        rotate_left
        · rintro w' ⟨s0, s1, s2, s3, s4, s5⟩
          go_simp
          with_reducible rfl
        rotate_left
        · simp only [Act.put, List.setIfInBounds_toArray, List.set_cons_zero, List.set_cons_succ, i64_w, i32_w]
          rfl
        refine last_ (i := 11) (N := some 169) #[true, true, true, true, true, true, true, true, true, true, true, true, false, false] rfl rfl (by kernel_rfl) (by decide) (fun K hK => ?_)
        refine goesC_ (caps := caps) Try.func57 (by kernel_rfl) rfl #[.agg #[.int .i64 ((Srt.g z49 xs0 q)).f0, .int .i64 ((Srt.g z49 xs0 q)).f1, .int .i64 ((Srt.g z49 xs0 q)).f2], .agg #[.int .i64 ((Srt.g z49 xs0 mid)).f0, .int .i64 ((Srt.g z49 xs0 mid)).f1, .int .i64 ((Srt.g z49 xs0 mid)).f2]] (by rfl) rfl rfl rfl (by (try simp only [List.map_toArray, List.map_cons, List.map_nil]); first | done | rfl) ?_
        refine (HC.out _ _ _ HQ1.out HQ2.out HSE.out.inv).mono ?_
        rintro e w3 ⟨v, rfl, hv, hb3⟩
        rw [HLT.out] at hv
        refine ⟨_, rfl, ?_⟩
        have HS3 := Aside0.mk (HSE.out.step hI hb3)
        refine hK.out _ _ ?_
        clear hK K hb3
        refine norm_ (a' := ?_) ?_ ?_
        rotate_left
        · show Act.put _ (some 169) _ = _
          simp only [Act.put, List.setIfInBounds_toArray, List.set_cons_zero, List.set_cons_succ, i64_w, i32_w]
          rfl
        refine pure_ (i := 12) (N := some 170) (v := ?_) (a' := ?_) #[true, true, true, true, true, true, true, true, true, true, true, true, true, false] rfl rfl (by kernel_rfl) (fun _ _ _ h => h) (Or.inl ⟨by rfl, ?_⟩) ?_ ?_
        rotate_left
        · intro w'
          go_simp
          with_reducible rfl
        rotate_left
        · simp only [Act.put, List.setIfInBounds_toArray, List.set_cons_zero, List.set_cons_succ, i64_w, i32_w]
          rfl
        refine pure_ (i := 13) (N := some 171) (v := ?_) (a' := ?_) #[true, true, true, true, true, true, true, true, true, true, true, true, true, true] rfl rfl (by kernel_rfl) (fun _ _ _ h => h) (Or.inl ⟨by rfl, ?_⟩) ?_ ?_
        rotate_left
        · intro w'
          go_simp
          with_reducible rfl
        rotate_left
        · simp only [Act.put, List.setIfInBounds_toArray, List.set_cons_zero, List.set_cons_succ, i64_w, i32_w]
          rfl
        refine done_ (by kernel_rfl) ?_
        clear hHeld hx hy
        clear hw3
        go_wp2
        go_roundg k'
        case measure => omega
        case rel => exact ⟨lo, mid, rfl, by go_num, ⟨by omega, by omega, by omega, by omega⟩, HG, HS3⟩
      | false =>
        rw [hlt2, Bool.not_false, if_pos rfl] at hg
        have HG := Aside0.mk hg
        have HLT := Aside0.mk hlt2
        have HM := Aside0.mk hm
        clear hg hlt2 hm hq z1 z2 z3 z4 z5 z6 z7 z8 z9 z10 z11
        go_wp2_with fail
        refine start_ (n := 14) (S := fun w' => w'.cell? ⟨g, (q) * 3, none⟩ = some (.int .i64 (Srt.g z49 xs0 (q)).f0) ∧ w'.cell? ⟨g, (q) * 3 + 1, none⟩ = some (.int .i64 (Srt.g z49 xs0 (q)).f1) ∧ w'.cell? ⟨g, (q) * 3 + 2, none⟩ = some (.int .i64 (Srt.g z49 xs0 (q)).f2) ∧ w'.cell? ⟨g, (mid) * 3, none⟩ = some (.int .i64 (Srt.g z49 xs0 (mid)).f0) ∧ w'.cell? ⟨g, (mid) * 3 + 1, none⟩ = some (.int .i64 (Srt.g z49 xs0 (mid)).f1) ∧ w'.cell? ⟨g, (mid) * 3 + 2, none⟩ = some (.int .i64 (Srt.g z49 xs0 (mid)).f2)) (ds := [11]) #[false, false, false, false, false, false, false, false, false, false, false, false, false, false] (by kernel_rfl) rfl rfl ⟨hx.1, hx.2.1, hx.2.2, hy.1, hy.2.1, hy.2.2⟩ (fun hHeld => ?_)
        obtain ⟨E, hE⟩ : ∃ E, wr.drew = E := ⟨_, rfl⟩
        have HSE := Aside0.mk (show SS g c N w0 I Q E xs0 by rw [← hE]; exact HW.out.step hI (below_drew1 (Below.refl _ _)))
        rw [hE] at hHeld ⊢
        clear hE
        refine pure_ (i := 0) (N := some 158) (v := ?_) (a' := ?_) #[true, false, false, false, false, false, false, false, false, false, false, false, false, false] rfl rfl (by kernel_rfl) (fun _ _ _ h => h) (Or.inl ⟨by rfl, ?_⟩) ?_ ?_
        rotate_left
        · intro w'
          go_simp
          with_reducible rfl
        rotate_left
        · simp only [Act.put, List.setIfInBounds_toArray, List.set_cons_zero, List.set_cons_succ, i64_w, i32_w]
          rfl
        refine pure_ (i := 1) (N := some 159) (v := ?_) (a' := ?_) #[true, true, false, false, false, false, false, false, false, false, false, false, false, false] rfl rfl (by kernel_rfl) (fun _ _ _ h => h) (Or.inl ⟨by rfl, ?_⟩) ?_ ?_
        rotate_left
        · intro w'
          go_simp
          with_reducible rfl
        rotate_left
        · simp only [Act.put, List.setIfInBounds_toArray, List.set_cons_zero, List.set_cons_succ, i64_w, i32_w]
          rfl
        refine pure_ (i := 2) (N := some 160) (v := ?_) (a' := ?_) #[true, true, true, false, false, false, false, false, false, false, false, false, false, false] rfl rfl (by kernel_rfl) (fun _ _ _ h => h) (Or.inl ⟨by rfl, ?_⟩) ?_ ?_
        rotate_left
        · intro w'
          go_simp
          with_reducible rfl
        rotate_left
        · simp only [Act.put, List.setIfInBounds_toArray, List.set_cons_zero, List.set_cons_succ, i64_w, i32_w]
          rfl
        refine pure_ (i := 3) (N := some 161) (v := ?_) (a' := ?_) #[true, true, true, true, false, false, false, false, false, false, false, false, false, false] rfl rfl (by kernel_rfl) (fun _ _ _ h => h) (Or.inl ⟨by rfl, ?_⟩) ?_ ?_
        rotate_left
        · intro w'
          go_simp
          with_reducible rfl
        rotate_left
        · simp only [Act.put, List.setIfInBounds_toArray, List.set_cons_zero, List.set_cons_succ, i64_w, i32_w]
          rfl
        refine pure_ (i := 4) (N := some 162) (v := ?_) (a' := ?_) #[true, true, true, true, true, false, false, false, false, false, false, false, false, false] rfl rfl (by kernel_rfl) (fun _ _ _ h => h) (Or.inl ⟨by rfl, ?_⟩) ?_ ?_
        rotate_left
        · intro w'
          go_simp
          with_reducible rfl
        rotate_left
        · simp only [Act.put, List.setIfInBounds_toArray, List.set_cons_zero, List.set_cons_succ, i64_w, i32_w]
          rfl
        refine pure_ (i := 5) (N := some 163) (v := ?_) (a' := ?_) #[true, true, true, true, true, true, false, false, false, false, false, false, false, false] rfl rfl (by kernel_rfl) (fun _ _ _ h => h) (Or.inl ⟨by rfl, ?_⟩) ?_ ?_
        rotate_left
        · intro w'
          go_simp
          with_reducible rfl
        rotate_left
        · simp only [Act.put, List.setIfInBounds_toArray, List.set_cons_zero, List.set_cons_succ, i64_w, i32_w]
          rfl
        refine take_ (i := 6) (N := some 164) (v := ?_) (a' := ?_) #[true, true, true, true, true, true, true, false, false, false, false, false, false, false] rfl rfl (by kernel_rfl) (fun _ _ _ h => h) (Or.inl ⟨by rfl, ?_⟩) hHeld ?_ ?_
        rotate_left
        · rintro w' ⟨s0, s1, s2, s3, s4, s5⟩
          go_simp
          with_reducible rfl
        rotate_left
        · simp only [Act.put, List.setIfInBounds_toArray, List.set_cons_zero, List.set_cons_succ, i64_w, i32_w]
          rfl
        refine pure_ (i := 7) (N := some 165) (v := ?_) (a' := ?_) #[true, true, true, true, true, true, true, true, false, false, false, false, false, false] rfl rfl (by kernel_rfl) (fun _ _ _ h => h) (Or.inl ⟨by rfl, ?_⟩) ?_ ?_
        rotate_left
        · intro w'
          go_simp
          with_reducible rfl
        rotate_left
        · simp only [Act.put, List.setIfInBounds_toArray, List.set_cons_zero, List.set_cons_succ, i64_w, i32_w]
          rfl
        refine pure_ (i := 8) (N := some 166) (v := ?_) (a' := ?_) #[true, true, true, true, true, true, true, true, true, false, false, false, false, false] rfl rfl (by kernel_rfl) (fun _ _ _ h => h) (Or.inl ⟨by rfl, ?_⟩) ?_ ?_
        rotate_left
        · intro w'
          go_simp
          with_reducible rfl
        rotate_left
        · simp only [Act.put, List.setIfInBounds_toArray, List.set_cons_zero, List.set_cons_succ, i64_w, i32_w]
          rfl
        refine pure_ (i := 9) (N := some 167) (v := ?_) (a' := ?_) #[true, true, true, true, true, true, true, true, true, true, false, false, false, false] rfl rfl (by kernel_rfl) (fun _ _ _ h => h) (Or.inl ⟨by rfl, ?_⟩) ?_ ?_
        rotate_left
        · intro w'
          go_simp
          with_reducible rfl
        rotate_left
        · simp only [Act.put, List.setIfInBounds_toArray, List.set_cons_zero, List.set_cons_succ, i64_w, i32_w]
          rfl
        refine take_ (i := 10) (N := some 168) (v := ?_) (a' := ?_) #[true, true, true, true, true, true, true, true, true, true, true, false, false, false] rfl rfl (by kernel_rfl) (fun _ _ _ h => h) (Or.inl ⟨by rfl, ?_⟩) hHeld ?_ ?_
        rotate_left
        · rintro w' ⟨s0, s1, s2, s3, s4, s5⟩
          go_simp
          with_reducible rfl
        rotate_left
        · simp only [Act.put, List.setIfInBounds_toArray, List.set_cons_zero, List.set_cons_succ, i64_w, i32_w]
          rfl
        refine last_ (i := 11) (N := some 169) #[true, true, true, true, true, true, true, true, true, true, true, true, false, false] rfl rfl (by kernel_rfl) (by decide) (fun K hK => ?_)
        refine goesC_ (caps := caps) Try.func57 (by kernel_rfl) rfl #[.agg #[.int .i64 ((Srt.g z49 xs0 q)).f0, .int .i64 ((Srt.g z49 xs0 q)).f1, .int .i64 ((Srt.g z49 xs0 q)).f2], .agg #[.int .i64 ((Srt.g z49 xs0 mid)).f0, .int .i64 ((Srt.g z49 xs0 mid)).f1, .int .i64 ((Srt.g z49 xs0 mid)).f2]] (by rfl) rfl rfl rfl (by (try simp only [List.map_toArray, List.map_cons, List.map_nil]); first | done | rfl) ?_
        refine (HC.out _ _ _ HQ1.out HQ2.out HSE.out.inv).mono ?_
        rintro e w3 ⟨v, rfl, hv, hb3⟩
        rw [HLT.out] at hv
        refine ⟨_, rfl, ?_⟩
        have HS3 := Aside0.mk (HSE.out.step hI hb3)
        refine hK.out _ _ ?_
        clear hK K hb3
        refine norm_ (a' := ?_) ?_ ?_
        rotate_left
        · show Act.put _ (some 169) _ = _
          simp only [Act.put, List.setIfInBounds_toArray, List.set_cons_zero, List.set_cons_succ, i64_w, i32_w]
          rfl
        refine pure_ (i := 12) (N := some 170) (v := ?_) (a' := ?_) #[true, true, true, true, true, true, true, true, true, true, true, true, true, false] rfl rfl (by kernel_rfl) (fun _ _ _ h => h) (Or.inl ⟨by rfl, ?_⟩) ?_ ?_
        rotate_left
        · intro w'
          go_simp
          with_reducible rfl
        rotate_left
        · simp only [Act.put, List.setIfInBounds_toArray, List.set_cons_zero, List.set_cons_succ, i64_w, i32_w]
          rfl
        refine pure_ (i := 13) (N := some 171) (v := ?_) (a' := ?_) #[true, true, true, true, true, true, true, true, true, true, true, true, true, true] rfl rfl (by kernel_rfl) (fun _ _ _ h => h) (Or.inl ⟨by rfl, ?_⟩) ?_ ?_
        rotate_left
        · intro w'
          go_simp
          with_reducible rfl
        rotate_left
        · simp only [Act.put, List.setIfInBounds_toArray, List.set_cons_zero, List.set_cons_succ, i64_w, i32_w]
          rfl
        refine done_ (by kernel_rfl) ?_
        clear hHeld hx hy
        clear hw3
        go_wp2
        go_roundg k'
        case measure => omega
        case rel => exact ⟨mid + 1, hi, by go_num, rfl, ⟨by omega, by omega, by omega, by omega⟩, HG, HS3⟩
    · have hg := HF.out
      rw [bs_end _ _ _ _ hlt] at hg
      subst hg
      obtain ⟨en, hen⟩ : ∃ en, n - lo = en := ⟨_, rfl⟩
      have hen' : (n : Int) - (lo : Int) = (en : Int) := by omega
      obtain ⟨x1, hx1⟩ : ∃ x1, (if lo < m ∧ m < en then Srt.rotF z49 m (en - lo) (m - lo) (en - m) xs0 else xs0) = x1 := ⟨_, rfl⟩
      obtain ⟨x2, hx2⟩ : ∃ x2, (if a < lo ∧ lo < md then Srt.symF z49 lt f a lo md x1 else x1) = x2 := ⟨_, rfl⟩
      have hsf : Srt.symF z49 lt (f + 1) a m b xs0 = _ := HSF.out
      rw [hen, hx1, hx2] at hsf
      have HX1 := Aside0.mk hx1
      have HX2 := Aside0.mk hx2
      have HX3 := Aside0.mk hsf
      have HE := Aside0.mk (show en ≤ N ∧ md ≤ N ∧ md - a ≤ f ∧ b - md ≤ f ∧ m ≤ en from ⟨by omega, by omega, by omega, by omega, by omega⟩)
      clear hx1 hx2 hsf hen z1 z2 z3 z4 z5 z6 z7
      go_upto_region 39 with fail
      go_cut [185] from 25 (fun v wz => v = .bool (decide (lo < m ∧ m < en)) ∧ wz = wr)
      case first => as_aux_lemma =>
        by_cases e1 : lo < m
        · have e1' := decide_eq_true (Int.ofNat_lt.2 e1)
          by_cases e2 : m < en
          · have e2' := decide_eq_true (Int.ofNat_lt.2 e2)
            have e3 : decide (lo < m ∧ m < en) = true := decide_eq_true ⟨e1, e2⟩
            go_wp2_with fail
            go_meet
            case rel => exact ⟨by rw [e3], rfl⟩
          · have e2' := decide_eq_false (fun h => e2 (Int.ofNat_lt.1 h))
            have e3 : decide (lo < m ∧ m < en) = false := decide_eq_false (fun h => e2 h.2)
            go_wp2_with fail
            go_meet
            case rel => exact ⟨by rw [e3], rfl⟩
        · have e1' := decide_eq_false (fun h => e1 (Int.ofNat_lt.1 h))
          have e3 : decide (lo < m ∧ m < en) = false := decide_eq_false (fun h => e1 h.1)
          go_wp2_with fail
          go_meet
          case rel => exact ⟨by rw [e3], rfl⟩
      case rest => as_aux_lemma =>
        obtain ⟨rfl, rfl⟩ := hcut
        go_upto_if 185 with fail
        go_cut [] from 25 (fun wz => Aside0 (SS g c N w0 I Q wz x1))
        case first => as_aux_lemma =>
          have hx1 := HX1.out
          by_cases hc : lo < m ∧ m < en
          · simp only [decide_eq_true hc]
            rw [if_pos hc] at hx1
            obtain ⟨d1, d2⟩ := hc
            have HY := Aside0.mk hx1
            clear hx1
            go_wp2_with (go_at_call 108; refine (rot_calls g c N w0 I Q lo m en xs0 _ _ hI HW.out d1 d2 HE.out.1).mono ?_; rw [HY.out]; rintro e w1 ⟨⟨r, rfl⟩, hs1⟩; have HS1 := Aside0.mk hs1; clear hs1)
            go_meet
            case rel => exact HS1
          · simp only [decide_eq_false hc]
            rw [if_neg hc] at hx1
            have HY := Aside0.mk hx1
            clear hx1
            go_wp2_with fail
            go_meet
            case rel => exact ⟨by rw [← HY.out]; exact HW.out⟩
        case rest => as_aux_lemma =>
          have HV1 := hcut
          go_upto_region 41 with fail
          go_cut [199] from 25 (fun v wz => v = .bool (decide (a < lo ∧ lo < md)) ∧ wz = wc)
          case first => as_aux_lemma =>
            by_cases e1 : a < lo
            · have e1' := decide_eq_true (Int.ofNat_lt.2 e1)
              by_cases e2 : lo < md
              · have e2' := decide_eq_true (Int.ofNat_lt.2 e2)
                have e3 : decide (a < lo ∧ lo < md) = true := decide_eq_true ⟨e1, e2⟩
                go_wp2_with fail
                go_meet
                case rel => exact ⟨by rw [e3], rfl⟩
              · have e2' := decide_eq_false (fun h => e2 (Int.ofNat_lt.1 h))
                have e3 : decide (a < lo ∧ lo < md) = false := decide_eq_false (fun h => e2 h.2)
                go_wp2_with fail
                go_meet
                case rel => exact ⟨by rw [e3], rfl⟩
            · have e1' := decide_eq_false (fun h => e1 (Int.ofNat_lt.1 h))
              have e3 : decide (a < lo ∧ lo < md) = false := decide_eq_false (fun h => e1 h.1)
              go_wp2_with fail
              go_meet
              case rel => exact ⟨by rw [e3], rfl⟩
          case rest => as_aux_lemma =>
            obtain ⟨rfl, rfl⟩ := hcut
            go_upto_if 199 with fail
            go_cut [] from 25 (fun wz => Aside0 (SS g c N w0 I Q wz x2))
            case first => as_aux_lemma =>
              have hx1 := HX2.out
              by_cases hc : a < lo ∧ lo < md
              · simp only [decide_eq_true hc]
                rw [if_pos hc] at hx1
                obtain ⟨d1, d2⟩ := hc
                have HY := Aside0.mk hx1
                clear hx1
                go_wp2_with (go_at_call 103; refine (IH.out a lo md x1 _ HV1.out d1 d2 HE.out.2.1 HE.out.2.2.1).mono ?_; rw [HY.out]; rintro e w1 ⟨⟨r, rfl⟩, hs1⟩; have HS1 := Aside0.mk hs1; clear hs1)
                go_meet
                case rel => exact HS1
              · simp only [decide_eq_false hc]
                rw [if_neg hc] at hx1
                have HY := Aside0.mk hx1
                clear hx1
                go_wp2_with fail
                go_meet
                case rel => exact ⟨by rw [← HY.out]; exact HV1.out⟩
            case rest => as_aux_lemma =>
              have HV2 := hcut
              go_upto_region 43 with fail
              go_cut [213] from 25 (fun v wz => v = .bool (decide (md < en ∧ en < b)) ∧ wz = wc)
              case first => as_aux_lemma =>
                by_cases e1 : md < en
                · have e1' := decide_eq_true (Int.ofNat_lt.2 e1)
                  by_cases e2 : en < b
                  · have e2' := decide_eq_true (Int.ofNat_lt.2 e2)
                    have e3 : decide (md < en ∧ en < b) = true := decide_eq_true ⟨e1, e2⟩
                    go_wp2_with fail
                    go_meet
                    case rel => exact ⟨by rw [e3], rfl⟩
                  · have e2' := decide_eq_false (fun h => e2 (Int.ofNat_lt.1 h))
                    have e3 : decide (md < en ∧ en < b) = false := decide_eq_false (fun h => e2 h.2)
                    go_wp2_with fail
                    go_meet
                    case rel => exact ⟨by rw [e3], rfl⟩
                · have e1' := decide_eq_false (fun h => e1 (Int.ofNat_lt.1 h))
                  have e3 : decide (md < en ∧ en < b) = false := decide_eq_false (fun h => e1 h.1)
                  go_wp2_with fail
                  go_meet
                  case rel => exact ⟨by rw [e3], rfl⟩
              case rest => as_aux_lemma =>
                obtain ⟨rfl, rfl⟩ := hcut
                go_upto_if 213 with fail
                have hx1 := HX3.out
                by_cases hc : md < en ∧ en < b
                · simp only [decide_eq_true hc]
                  rw [if_pos hc] at hx1
                  obtain ⟨d1, d2⟩ := hc
                  have HY := Aside0.mk hx1
                  clear hx1
                  go_wp2_with (go_at_call 103; refine (IH.out md en b x2 _ HV2.out d1 d2 hbN HE.out.2.2.2.1).mono ?_; rintro e w1 ⟨⟨r, rfl⟩, hs1⟩; have HS1 := Aside0.mk hs1; clear hs1)
                  refine ⟨rfl, .tuple #[], ?_, ⟨_, rfl⟩, ?_⟩
                  · simp [results, Try.results103, go_sem]
                  · rw [HY.out]; exact HS1.out
                · simp only [decide_eq_false hc]
                  rw [if_neg hc] at hx1
                  have HY := Aside0.mk hx1
                  clear hx1
                  go_wp2_with fail
                  refine ⟨rfl, .tuple #[], ?_, ⟨_, rfl⟩, ?_⟩
                  · simp [results, Try.results103, go_sem]
                  · rw [HY.out]; exact HV2.out
end Go.Proofs.Ytocndpddghefhaa.X
end
section
namespace Go.Proofs.Ytocndpddghefhaa.X
open Go.RowKit Go.Proofs.YtocndpddghefhaaW.PrintWords Go.Proofs.YtocndpddghefhaaW.PrintLast Go.Proofs.YtocndpddghefhaaW.PrintMore
attribute [local go_sem] max2_int min2_int max_two min_two max_three min_three max_four min_four
set_option linter.unusedVariables false
set_option linter.unusedSimpArgs false
theorem sym_calls (g c N : Nat) (w0 : World) (I : World → Prop) (Q : S49 → Prop) (lt : S49 → S49 → Bool) (caps : Array Value) (hI : Stays g I) (hC : Cmp caps I Q lt) (hN2 : N ≤ 4611686018427387903) : ∀ f : Nat, SymIH g c N w0 I Q lt caps f := by
  intro f
  induction f with
  | zero => intro a m b xs0 w h h1 h2 h3 h4; omega
  | succ f ih =>
    intro a m b xs0 w h ham hmb hbN hf
    by_cases c1 : m - a = 1
    · exact sym_one g c N w0 I Q lt caps hI hC hN2 f a m b xs0 w h ham hmb hbN hf c1
    · by_cases c2 : b - m = 1
      · exact sym_last g c N w0 I Q lt caps hI hC hN2 f a m b xs0 w h ham hmb hbN hf c1 c2
      · by_cases cm : (a + b) / 2 < m
        · exact sym_hi g c N w0 I Q lt caps hI hC hN2 f ih a m b xs0 w h ham hmb hbN hf c1 c2 cm
        · exact sym_lo g c N w0 I Q lt caps hI hC hN2 f ih a m b xs0 w h ham hmb hbN hf c1 c2 cm
end Go.Proofs.Ytocndpddghefhaa.X
end
section
namespace Go.Proofs.Ytocndpddghefhaa.X
open Go.RowKit Go.Proofs.YtocndpddghefhaaW.PrintWords Go.Proofs.YtocndpddghefhaaW.PrintLast Go.Proofs.YtocndpddghefhaaW.PrintMore
attribute [local go_sem] max2_int min2_int max_two min_two max_three min_three max_four min_four
set_option linter.unusedVariables false
set_option linter.unusedSimpArgs false
theorem blk_step {z : S49} {lt : S49 → S49 → Bool} {bz n d a : Nat} {xs : List S49} (h : a + bz ≤ n) : Srt.blkF z lt bz n (d + 1) a xs = Srt.blkF z lt bz n d (a + bz) (Srt.insF z lt a (a + bz) xs) := by rw [Srt.blkF, if_pos h]
theorem blk_end {z : S49} {lt : S49 → S49 → Bool} {bz n a : Nat} {xs : List S49} (d : Nat) (h : ¬ a + bz ≤ n) : Srt.blkF z lt bz n d a xs = Srt.insF z lt a n xs := by
  cases d with
  | zero => rfl
  | succ d => rw [Srt.blkF, if_neg h]
theorem mrg_step {z : S49} {lt : S49 → S49 → Bool} {bz n d a : Nat} {xs : List S49} (h : a + 2 * bz ≤ n) : Srt.mrgF z lt bz n (d + 1) a xs = Srt.mrgF z lt bz n d (a + 2 * bz) (Srt.symF z lt (2 * bz) a (a + bz) (a + 2 * bz) xs) := by rw [Srt.mrgF, if_pos h]
theorem mrg_end {z : S49} {lt : S49 → S49 → Bool} {bz n a : Nat} {xs : List S49} (d : Nat) (h : ¬ a + 2 * bz ≤ n) (hd : n ≤ a + d) : Srt.mrgF z lt bz n d a xs = if a + bz < n then Srt.symF z lt (n - a) a (a + bz) n xs else xs := by
  cases d with
  | zero => rw [if_neg (by omega)]; rfl
  | succ d => rw [Srt.mrgF, if_neg h]
theorem rnd_step {z : S49} {lt : S49 → S49 → Bool} {bz n d : Nat} {xs : List S49} (h : bz < n) : Srt.rndF z lt n (d + 1) bz xs = Srt.rndF z lt n d (bz * 2) (Srt.mrgF z lt bz n n 0 xs) := by rw [Srt.rndF, if_pos h]
theorem rnd_end {z : S49} {lt : S49 → S49 → Bool} {bz n : Nat} {xs : List S49} (d : Nat) (h : ¬ bz < n) : Srt.rndF z lt n d bz xs = xs := by
  cases d with
  | zero => rfl
  | succ d => rw [Srt.rndF, if_neg h]
set_option maxHeartbeats 4000000 in
set_option maxRecDepth 100000 in
theorem stab_calls (g c N : Nat) (w0 : World) (I : World → Prop) (Q : S49 → Prop) (lt : S49 → S49 → Bool) (caps : Array Value) (hI : Stays g I) (hC : Cmp caps I Q lt) (hN2 : N ≤ 4611686018427387903) (xs0 : List S49) (w : World) (h : SS g c N w0 I Q w xs0) :
    Calls Try.prog 92 #[.slice (some ⟨g, 0, none⟩) N c, .int .i64 (N : Int), .func (.func 57) #[] caps] w fun e w' => (∃ r, e = .returned r) ∧ SS g c N w0 I Q w' (Srt.stabF z49 lt xs0) := by
  obtain ⟨X, hX⟩ : ∃ X, Srt.stabF z49 lt xs0 = X := ⟨_, rfl⟩
  rw [hX]
  unfold Srt.stabF at hX
  rw [h.len] at hX
  obtain ⟨Y, hY⟩ : ∃ Y, Srt.blkF z49 lt 20 N N 0 xs0 = Y := ⟨_, rfl⟩
  rw [hY] at hX
  have HRX := Aside0.mk hX
  have HBY := Aside0.mk hY
  have HS := Aside0.mk h
  have HC := Aside0.mk hC
  clear h hC hX hY
  go_enter Try.func92, Try.ntmps92
  go_wp2_with fail
  go_loopg [7, 8] N (fun kq v7 v8 wr => ∃ (A B : Nat) (xs : List S49), v7 = .int .i64 (A : Int) ∧ v8 = .int .i64 (B : Int) ∧ Aside0 (A ≤ N ∧ B = A + 20 ∧ N ≤ A + kq) ∧ Aside0 (Srt.blkF z49 lt 20 N kq A xs = Y) ∧ Aside0 (SS g c N w0 I Q wr xs))
  case atStart => exact ⟨0, 20, xs0, rfl, rfl, ⟨by omega, by omega, by omega⟩, HBY, HS⟩
  case round => as_aux_lemma =>
    obtain ⟨A, B, xs, rfl, rfl, HK, HF, HW⟩ := hrel
    obtain ⟨k1, k2, k3⟩ := HK.out
    have HAB := Aside0.mk k2
    by_cases hB : B ≤ N
    · obtain ⟨k', rfl⟩ : ∃ k', gk = k' + 1 := ⟨gk - 1, by omega⟩
      have hg := HF.out
      rw [blk_step (show A + 20 ≤ N by omega), ← k2] at hg
      have HG := Aside0.mk hg
      have hAB : A ≤ B := by omega
      clear hg k2
      go_wp2_with (go_at_call 102; refine (ins_calls g c N w0 I Q lt caps A B xs _ hI HC.out HW.out hAB hB hN2).mono ?_; rintro e w1 ⟨⟨r, rfl⟩, hs1⟩; have HS1 := Aside0.mk hs1; clear hs1)
      go_roundg k'
      case measure => omega
      case rel => exact ⟨B, B + 20, _, rfl, by go_num, ⟨hB, rfl, by have := HAB.out; omega⟩, HG, HS1⟩
    · have hg := HF.out
      rw [blk_end gk (show ¬ A + 20 ≤ N by omega)] at hg
      have HG := Aside0.mk hg
      clear hg k2
      go_wp2_with (go_at_call 102; refine (ins_calls g c N w0 I Q lt caps A N xs _ hI HC.out HW.out k1 (Nat.le_refl _) hN2).mono ?_; rw [HG.out]; rintro e w1 ⟨⟨r, rfl⟩, hs1⟩; have HS1 := Aside0.mk hs1; clear hs1)
      go_loopg [6] N (fun kq v6 wr => ∃ (bz : Nat) (xs : List S49), v6 = .int .i64 (bz : Int) ∧ Aside0 (20 ≤ bz ∧ N ≤ bz + kq) ∧ Aside0 (Srt.rndF z49 lt N kq bz xs = X) ∧ Aside0 (SS g c N w0 I Q wr xs))
      case atStart => exact ⟨20, Y, rfl, ⟨by omega, by omega⟩, HRX, HS1⟩
      case round => as_aux_lemma =>
        obtain ⟨bz, ys, rfl, HK2, HF2, HW2⟩ := hrel
        obtain ⟨j1, j2⟩ := HK2.out
        by_cases hbz : bz < N
        · obtain ⟨k', rfl⟩ : ∃ k', gk = k' + 1 := ⟨gk - 1, by omega⟩
          obtain ⟨Z, hZ⟩ : ∃ Z, Srt.mrgF z49 lt bz N N 0 ys = Z := ⟨_, rfl⟩
          have hg := HF2.out
          rw [rnd_step hbz, hZ] at hg
          have HG2 := Aside0.mk hg
          have HZ := Aside0.mk hZ
          obtain ⟨tb, htb⟩ : ∃ tb, 2 * bz = tb := ⟨_, rfl⟩
          have htb' : (2 : Int) * (bz : Int) = (tb : Int) := by omega
          have htb2 : (bz : Int) * 2 = (tb : Int) := by omega
          have HTB := Aside0.mk (show bz * 2 = tb ∧ 2 * bz = tb ∧ tb ≤ 2 * N from ⟨by omega, htb, by omega⟩)
          clear hg hZ htb
          go_wp2_with fail
          go_loopg [7, 8] N (fun kq v7 v8 wr => ∃ (A B : Nat) (xs : List S49), v7 = .int .i64 (A : Int) ∧ v8 = .int .i64 (B : Int) ∧ Aside0 (A ≤ N ∧ B = A + tb ∧ N ≤ A + kq) ∧ Aside0 (Srt.mrgF z49 lt bz N kq A xs = Z) ∧ Aside0 (SS g c N w0 I Q wr xs))
          case atStart => exact ⟨0, tb, ys, rfl, by go_num, ⟨by omega, by omega, by omega⟩, HZ, HW2⟩
          case round => as_aux_lemma =>
            obtain ⟨A, B, xs, rfl, rfl, HK, HF, HW⟩ := hrel
            obtain ⟨k1, k2, k3⟩ := HK.out
            have HAB := Aside0.mk k2
            obtain ⟨t1, t2, t3⟩ := HTB.out
            obtain ⟨m1, hm1⟩ : ∃ m1, A + bz = m1 := ⟨_, rfl⟩
            have hm1' : (A : Int) + (bz : Int) = (m1 : Int) := by omega
            by_cases hB : B ≤ N
            · obtain ⟨k2', rfl⟩ : ∃ k2', gk = k2' + 1 := ⟨gk - 1, by omega⟩
              have hg := HF.out
              rw [mrg_step (show A + 2 * bz ≤ N by omega), t2, ← k2, hm1] at hg
              have HG := Aside0.mk hg
              have hAm : A < m1 := by omega
              have hmB : m1 < B := by omega
              have hBA : B - A ≤ tb := by omega
              have hBt : B + tb ≤ 2 * N := by omega
              clear hg k2 t1 t2 hm1
              go_wp2_with (go_at_call 103; refine (sym_calls g c N w0 I Q lt caps hI HC.out hN2 tb A m1 B xs _ HW.out hAm hmB hB hBA).mono ?_; rintro e w1 ⟨⟨r, rfl⟩, hs1⟩; have HS1 := Aside0.mk hs1; clear hs1)
              go_roundg k2'
              case measure => omega
              case rel => exact ⟨B, B + tb, _, rfl, by go_num, ⟨hB, rfl, by have := HAB.out; omega⟩, HG, HS1⟩
            · have hg := HF.out
              rw [mrg_end gk (show ¬ A + 2 * bz ≤ N by omega) k3, hm1] at hg
              have HTB2 := Aside0.mk t1
              by_cases hm2 : m1 < N
              · rw [if_pos hm2] at hg
                have HG := Aside0.mk hg
                have hAm : A < m1 := by omega
                have hm3 := decide_eq_true (Int.ofNat_lt.2 hm2)
                clear hg k2 t1 t2 hm1
                go_wp2_with (go_at_call 103; refine (sym_calls g c N w0 I Q lt caps hI HC.out hN2 (N - A) A m1 N xs _ HW.out hAm hm2 (Nat.le_refl _) (Nat.le_refl _)).mono ?_; rw [HG.out]; rintro e w1 ⟨⟨r, rfl⟩, hs1⟩; have HS1 := Aside0.mk hs1; clear hs1)
                go_roundg k'
                case measure => omega
                case rel => exact ⟨tb, Z, by go_num, ⟨by have := HTB2.out; omega, by have := HTB2.out; omega⟩, ⟨by rw [← HTB2.out]; exact HG2.out⟩, HS1⟩
              · rw [if_neg hm2] at hg
                have HG := Aside0.mk hg
                have hm3 := decide_eq_false (fun h => hm2 (Int.ofNat_lt.1 h))
                clear hg k2 t1 t2 hm1
                go_wp2_with fail
                go_roundg k'
                case measure => omega
                case rel => exact ⟨tb, Z, by go_num, ⟨by have := HTB2.out; omega, by have := HTB2.out; omega⟩, ⟨by rw [← HTB2.out]; exact HG2.out⟩, ⟨by rw [← HG.out]; exact HW.out⟩⟩
        · have hg := HF2.out
          rw [rnd_end gk hbz] at hg
          have HG2 := Aside0.mk hg
          clear hg
          go_wp2_with fail
          refine ⟨rfl, .tuple #[], ?_, ⟨_, rfl⟩, ?_⟩
          · simp [results, Try.results92, go_sem]
          · rw [← HG2.out]; exact HW2.out
theorem sort_calls (g c N : Nat) (w0 : World) (I : World → Prop) (Q : S49 → Prop) (lt : S49 → S49 → Bool) (caps : Array Value) (hI : Stays g I) (hC : Cmp caps I Q lt) (hN2 : N ≤ 4611686018427387903) (xs0 : List S49) (w : World) (h : SS g c N w0 I Q w xs0) :
    Calls Try.prog 56 #[.slice (some ⟨g, 0, none⟩) N c, .func (.func 57) #[] caps] w fun e w' => (∃ r, e = .returned r) ∧ SS g c N w0 I Q w' (Srt.stabF z49 lt xs0) := by
  have HS := Aside0.mk h
  have HC := Aside0.mk hC
  clear h hC
  go_enter Try.func56, Try.ntmps56
  go_wp2_with (go_at_call 92; refine (stab_calls g c N w0 I Q lt caps hI HC.out hN2 xs0 _ HS.out).mono ?_; rintro e w1 ⟨⟨r, rfl⟩, hs1⟩; have HS1 := Aside0.mk hs1; clear hs1)
  refine ⟨rfl, .tuple #[], ?_, ⟨_, rfl⟩, HS1.out⟩
  simp [results, Try.results56, go_sem]
theorem ins_nil {c : Nat} (fv : Value) (w : World) : Calls Try.prog 102 #[.slice none 0 c, .int .i64 0, .int .i64 0, fv] w fun e w' => (∃ r, e = .returned r) ∧ w' = w := by
  go_enter Try.func102, Try.ntmps102
  go_wp2_with fail
  go_loopg [8] 0 (fun kq v8 wr => v8 = .int .i64 1 ∧ Aside0 (wr = w))
  case atStart => exact ⟨by go_num, ⟨rfl⟩⟩
  case round =>
    obtain ⟨rfl, HE⟩ := hrel
    go_wp2_with fail
    refine ⟨rfl, .tuple #[], ?_, ⟨_, rfl⟩, HE.out⟩
    simp [results, Try.results102, go_sem]
theorem stab_nil {c : Nat} (fv : Value) (w : World) : Calls Try.prog 92 #[.slice none 0 c, .int .i64 0, fv] w fun e w' => (∃ r, e = .returned r) ∧ w' = w := by
  go_enter Try.func92, Try.ntmps92
  go_wp2_with fail
  go_loopg [7, 8] 0 (fun kq v7 v8 wr => v7 = .int .i64 0 ∧ v8 = .int .i64 20 ∧ Aside0 (wr = w))
  case atStart => exact ⟨rfl, rfl, ⟨rfl⟩⟩
  case round =>
    obtain ⟨rfl, rfl, HE⟩ := hrel
    go_wp2_with (go_at_call 102; refine (ins_nil fv _).mono ?_; rintro e w1 ⟨⟨r, rfl⟩, hs1⟩; have HS1 := Aside0.mk (hs1.trans HE.out); clear hs1)
    go_loopg [6] 0 (fun kq v6 wr => v6 = .int .i64 20 ∧ Aside0 (wr = w))
    case atStart => exact ⟨rfl, HS1⟩
    case round =>
      obtain ⟨rfl, HE2⟩ := hrel
      go_wp2_with fail
      refine ⟨rfl, .tuple #[], ?_, ⟨_, rfl⟩, HE2.out⟩
      simp [results, Try.results92, go_sem]
theorem sort_nil {c : Nat} (fv : Value) (w : World) : Calls Try.prog 56 #[.slice none 0 c, fv] w fun e w' => (∃ r, e = .returned r) ∧ w' = w := by
  go_enter Try.func56, Try.ntmps56
  go_wp2_with (go_at_call 92; refine (stab_nil fv _).mono ?_; rintro e w1 ⟨⟨r, rfl⟩, hs1⟩; have HS1 := Aside0.mk hs1; clear hs1)
  refine ⟨rfl, .tuple #[], ?_, ⟨_, rfl⟩, HS1.out⟩
  simp [results, Try.results56, go_sem]
end Go.Proofs.Ytocndpddghefhaa.X
end
section
namespace Go.Proofs.Ytocndpddghefhaa.X
open Go.RowKit Go.Proofs.YtocndpddghefhaaW.PrintWords Go.Proofs.YtocndpddghefhaaW.PrintLast Go.Proofs.YtocndpddghefhaaW.PrintMore
attribute [local go_sem] max2_int min2_int max_two min_two max_three min_three max_four min_four
set_option linter.unusedVariables false
set_option linter.unusedSimpArgs false
def tape_Merge.f (l0 l1 : List S49) : Option (List S49 × Int) :=
  (tape_Check.f l0).bind fun e => if e ≠ 0 then some ([], e) else (tape_Check.f l1).bind fun e1 => if e1 ≠ 0 then some ([], e1) else if 1024 < l0.length + l1.length then some ([], 8) else some (Srt.stabF z49 (Srt.klt (fun t => t.f0)) (l0 ++ l1), 0)
def TimeOk (t : S49) : Prop := 0 ≤ t.f0 ∧ t.f0 ≤ 86399
theorem tick_go : ∀ (l : List S49) (a : Int), 0 ≤ a → (goAll tickStep l (a, 0)).2 = 0 → ∀ t ∈ l, TimeOk t
  | [], a, _, _, t, h => by simp at h
  | x :: l, a, ha, h, t, ht => by
    rw [goAll_step] at h
    have e1 : (tickStep x (a, 0)).2 = (tickErr a x == 0) := rfl
    have e2 : (tickStep x (a, 0)).1 = (x.f0, tickErr a x) := rfl
    rw [e1, e2] at h
    by_cases c : tickErr a x = 0
    · rw [c] at h
      rw [if_pos (by simp)] at h
      have hx : TimeOk x := by
        unfold tickErr at c
        by_cases d : x.f0 < a ∨ 86399 < x.f0
        · rw [if_pos d] at c; simp at c
        · exact ⟨by omega, by omega⟩
      rcases List.mem_cons.1 ht with e | e
      · rw [e]; exact hx
      · exact tick_go l x.f0 hx.1 h t e
    · rw [if_neg (by simpa using c)] at h
      exact absurd h c
theorem tick_ok (l : List S49) (h : tape_Check.f l = some 0) : ∀ t ∈ l, TimeOk t := by
  unfold tape_Check.f at h
  have h := Option.some.inj h
  by_cases c : (1024 : Int) < (l.length : Int)
  · rw [if_pos c] at h; simp at h
  · rw [if_neg c] at h
    exact tick_go l 0 (Int.le_refl _) h
theorem tick_len (l : List S49) (h : tape_Check.f l = some 0) : l.length ≤ 1024 := by
  unfold tape_Check.f at h
  have h := Option.some.inj h
  by_cases c : (1024 : Int) < (l.length : Int)
  · rw [if_pos c] at h; simp at h
  · omega
theorem time_lt (a b : Int) (ha : 0 ≤ a ∧ a ≤ 86399) (hb : 0 ≤ b ∧ b ≤ 86399) : decide (wrap64 (a - b) < 0) = decide (a < b) := by
  have : wrap64 (a - b) = a - b := by unfold wrap64; omega
  rw [this]
  by_cases h : a < b
  · rw [decide_eq_true h, decide_eq_true (by omega)]
  · rw [decide_eq_false h, decide_eq_false (by omega)]
set_option maxHeartbeats 1600000 in
set_option maxRecDepth 100000 in
theorem merge_cmp : Cmp #[] (fun _ => True) TimeOk (Srt.klt (fun t : S49 => t.f0)) := by
  intro x y w hx hy _
  have HLT := Aside0.mk (time_lt _ _ hx hy)
  clear hx hy
  go_enter Try.func57, Try.ntmps57
  go_wp2_with fail
  exact bodyPost_ret (v := .int .i64 (wrap64 (x.f0 - y.f0))) (by simp [results, Try.results57, go_sem]) rfl ⟨_, rfl, HLT.out, below_alloc (below_alloc (Below.refl _ _) _) _⟩
theorem merge_stays (g : Nat) : Stays g (fun _ => True) := ⟨fun _ _ => trivial, fun _ _ => trivial⟩
set_option maxHeartbeats 1600000 in
set_option maxRecDepth 100000 in
theorem grow_calls (n : Nat) (hn : n ≤ 1024) (w : World) :
    Calls Try.prog 91 #[.slice none 0 0, .int .i64 (n : Int)] w fun e w' => ∃ v, e = .returned v ∧ Kd.R k49 49 w' w.heap.size (fun _ => True) v [] ∧ Below w.heap.size w w' := by
  have HN := Aside0.mk hn
  have h0 : 0 ≤ (n : Int) := by omega
  by_cases hz : n = 0
  · subst hz
    go_enter Try.func91, Try.ntmps91
    go_wp2_with fail
    exact bodyPost_ret (v := .slice none 0 0) (by simp [results, Try.results91, go_sem]) rfl ⟨_, rfl, Kd.R_nil _ _ _ _ _, Below.refl _ _⟩
  · have hp : 0 < (n : Int) := by omega
    have HZ := Aside0.mk hz
    have HAL := Aside0.mk (show n * 24 ≤ 140737488355328 by omega)
    have hw : Go.RowKit.wrap64 (n : Int) = (n : Int) := w64m (show n < 1025 by omega) (by decide)
    have HNZ := Aside0.mk (show 0 < (([] : List S49) ++ List.replicate ((n : Int)).toNat z49).length by simp; omega)
    clear hz hn
    go_enter Try.func91, Try.ntmps91
    go_wp2_with ((with_reducible refine gate_builtin (b := .append) (xs := #[.tmp 20, .tmp 21]) rfl ?_); at_builtin; refine Aside0.out ?_)
    refine Aside0.mk ?_
    refine Kd.R_append_zeros k49 (w0 := w) w.heap.size rfl (.tmp 20) (.tmp 21) 22 3 49 _ _ rfl Try.underlying22 Try.underlying3 info49 rfl (by decide) (by omega) (.slice none 0 0) [] z49 (Go.RowKit.wrap64 (n : Int)) (fun _ => True) rfl rfl ?aZ (fun _ _ => trivial) (Kd.R_nil _ _ _ _ _) ?a0 ?aB ?aS ?aL ?_
    (case aZ => exact k49_mkM _ _ _ _)
    (case a0 => rw [hw]; exact h0)
    (case aB => exact Below.refl _ _)
    (case aS => exact Nat.le_refl _)
    (case aL => rw [hw]; simpa using HAL.out)
    intro v9 w9 ho hb hg hat
    rw [hw] at ho
    obtain ⟨g, cap, rfl, hg1, hg2, hg3⟩ := Kd.R_form ho HNZ.out
    rw [show (([] : List S49) ++ List.replicate ((n : Int)).toNat z49).length = n by simp] at ho
    rw [show (([] : List S49) ++ List.replicate ((n : Int)).toNat z49).length = n by simp]
    have HO9 := Aside0.mk ho
    have HB9 := Aside0.mk hb
    clear ho hb hg hat hg1 hg2 hg3
    go_wp2_with fail
    refine bodyPost_ret (v := .slice (some ⟨g, 0, none⟩) 0 cap) (by simp [results, Try.results91, go_sem]) rfl ⟨_, rfl, ?_, HB9.out⟩
    have := Kd.R_take (m := 0) HO9.out (Nat.zero_le _)
    simpa using this
set_option maxHeartbeats 1600000 in
set_option maxRecDepth 100000 in
theorem concat_calls (bk : Nat) (A0 : Option Addr) (c0 : Nat) (l0 : List S49) (A1 : Option Addr) (c1 : Nat) (l1 : List S49) (w : World) (hbk : w.heap[bk]? = some (.cells #[.slice A0 l0.length c0, .slice A1 l1.length c1] 22 (0, 0))) (hr0 : Kd.C k49 w A0 l0.length l0) (hr1 : Kd.C k49 w A1 l1.length l1) (hn : l0.length + l1.length ≤ 1024) :
    Calls Try.prog 55 #[.slice (some ⟨bk, 0, none⟩) 2 2] w fun e w' => ∃ v, e = .returned v ∧ Kd.R k49 49 w' w.heap.size (fun _ => True) v (l0 ++ l1) ∧ Below w.heap.size w w' := by
  have HR0 := Aside0.mk hr0
  have HR1 := Aside0.mk hr1
  have HBK := Aside0.mk hbk
  have HLEN := Aside0.mk hn
  obtain ⟨n0, hn0⟩ : ∃ n, l0.length = n := ⟨_, rfl⟩
  obtain ⟨n1, hn1⟩ : ∃ n, l1.length = n := ⟨_, rfl⟩
  obtain ⟨n2, hn2⟩ : ∃ n, n0 + n1 = n := ⟨_, rfl⟩
  have HNN := Aside0.mk (show l0.length = n0 ∧ l1.length = n1 ∧ n0 + n1 = n2 ∧ n2 ≤ 1024 from ⟨hn0, hn1, hn2, by omega⟩)
  have hs : (n0 : Int) + (n1 : Int) = (n2 : Int) := by omega
  have hlt0 : ¬ (n0 : Int) < 0 := by omega
  have hlt2 : ¬ (n2 : Int) < 0 := by omega
  have hw0 : Go.RowKit.wrap64 (n0 : Int) = (n0 : Int) := w64m (show n0 < 1025 by omega) (by decide)
  have hw2 : Go.RowKit.wrap64 (n2 : Int) = (n2 : Int) := w64m (show n2 < 1025 by omega) (by decide)
  clear hr0 hr1 hbk hn hn2
  go_enter Try.func55, Try.ntmps55
  go_wp2_with fail
  go_loopg [3, 11] 2 (fun kq v3 v11 wr => ∃ (i : Nat) (s : Nat), v3 = .int .i64 (s : Int) ∧ v11 = .int .i64 (i : Int) ∧ Aside0 (kq + i = 2) ∧ Aside0 (s = if i = 0 then 0 else if i = 1 then n0 else n2) ∧ Aside0 (Below w.heap.size w wr))
  case atStart => exact ⟨0, 0, rfl, rfl, ⟨rfl⟩, ⟨rfl⟩, ⟨Below.refl _ _⟩⟩
  case round => as_aux_lemma =>
    obtain ⟨i, s, rfl, rfl, HK, HS, HB⟩ := hrel
    have hi : i = 0 ∨ i = 1 ∨ i = 2 := by have := HK.out; omega
    have hx0 : wr.cell? ⟨bk, 0, none⟩ = some (.slice A0 l0.length c0) := blk_cell (blk_below HBK.out HB.out) 0
    have hx1 : wr.cell? ⟨bk, 1, none⟩ = some (.slice A1 l1.length c1) := blk_cell (blk_below HBK.out HB.out) 1
    rw [HNN.out.1] at hx0
    rw [HNN.out.2.1] at hx1
    rcases hi with rfl | rfl | rfl
    · obtain rfl : s = 0 := HS.out
      clear hn0 hn1
      go_wp2_with fail
      go_roundg 1
      case measure => have := HK.out; omega
      case rel => exact ⟨1, n0, by go_num, by go_num, ⟨rfl⟩, ⟨rfl⟩, HB⟩
    · obtain rfl : s = n0 := HS.out
      clear hn0 hn1
      go_wp2_with fail
      go_roundg 0
      case measure => have := HK.out; omega
      case rel => exact ⟨2, n2, by go_num, by go_num, ⟨rfl⟩, ⟨rfl⟩, HB⟩
    · obtain rfl : s = n2 := HS.out
      clear hn0 hn1 hx0 hx1
      go_wp2_with (go_at_call 91; refine (grow_calls s HNN.out.2.2.2 _).mono ?_; rintro e w3 ⟨v3, rfl, ho3, hb3⟩; have HO3 := Aside0.mk ho3; have HB3 := Aside0.mk hb3; clear ho3 hb3)
      go_loopg [6, 27] 2 (fun kq v6 v27 wr => ∃ (i : Nat), v27 = .int .i64 (i : Int) ∧ Aside0 (kq + i = 2) ∧ Aside0 (Kd.R k49 49 wr w.heap.size (fun _ => True) v6 (if i = 0 then [] else if i = 1 then l0 else l0 ++ l1)) ∧ Aside0 (Below w.heap.size w wr))
      case atStart => exact ⟨0, rfl, ⟨rfl⟩, ⟨Kd.R_lower HO3.out HB.out.size⟩, ⟨HB.out.trans (HB3.out.mono HB.out.size)⟩⟩
      case round => as_aux_lemma =>
        obtain ⟨i, rfl, HK2, HO, HB2⟩ := hrel
        have hi : i = 0 ∨ i = 1 ∨ i = 2 := by have := HK2.out; omega
        have hx0 : wr.cell? ⟨bk, 0, none⟩ = some (.slice A0 l0.length c0) := blk_cell (blk_below HBK.out HB2.out) 0
        have hx1 : wr.cell? ⟨bk, 1, none⟩ = some (.slice A1 l1.length c1) := blk_cell (blk_below HBK.out HB2.out) 1
        clear hw0 hw2 hs hlt0 hlt2
        rcases hi with rfl | rfl | rfl
        · have HO' := Aside0.mk (show Kd.R k49 49 wr w.heap.size (fun _ => True) u6 ([] : List S49) from HO.out)
          go_wp2_with ((with_reducible refine gate_builtin (b := .append) (xs := #[.tmp 31, .tmp 32]) rfl ?_); at_builtin; refine Aside0.out ?_)
          refine Aside0.mk ?_
          refine Kd.R_append_rows k49 (w0 := w) w.heap.size rfl (.tmp 31) (.tmp 32) 22 49 _ _ rfl Try.underlying22 info49 rfl (by decide) (by omega) _ ([] : List S49) l0 _ _ _ (fun _ => True) (fun _ => False) rfl rfl ?aO ?aR (fun _ _ h => h) (fun _ h => h.elim) (fun _ _ => trivial) ?aB ?aS ?aL ?_
          (case aO => exact HO'.out)
          (case aR => exact (Kd.C_below HR0.out HB2.out))
          (case aB => exact HB2.out)
          (case aS => exact (below_size HB2.out))
          (case aL => have := HLEN.out; simp; omega)
          intro v9 w9 ho hb hg hat
          have HO9 := Aside0.mk ho
          have HB9 := Aside0.mk hb
          clear ho hb hg hat
          go_wp2_with fail
          go_roundg 1
          case measure => have := HK2.out; omega
          case rel => exact ⟨1, by go_num, ⟨rfl⟩, ⟨by have := HO9.out; simpa using this⟩, HB9⟩
        · have HO' := Aside0.mk (show Kd.R k49 49 wr w.heap.size (fun _ => True) u6 l0 from HO.out)
          go_wp2_with (((with_reducible refine gate_builtin (b := .append) (xs := #[.tmp 31, .tmp 32]) rfl ?_); at_builtin; refine Kd.R_append_rows k49 (w0 := w) w.heap.size rfl (.tmp 31) (.tmp 32) 22 49 _ _ rfl Try.underlying22 info49 rfl (by decide) (by omega) _ l0 l1 _ _ _ (fun _ => True) (fun _ => False) rfl rfl ?aO ?aR (fun _ _ h => h) (fun _ h => h.elim) (fun _ _ => trivial) ?aB ?aS ?aL ?_; (case aO => exact HO'.out); (case aR => exact (Kd.C_below HR1.out HB2.out)); (case aB => exact HB2.out); (case aS => exact (below_size HB2.out)); (case aL => have := HLEN.out; simp; omega); intro v9 w9 ho hb hg hat; have HO9 := Aside0.mk ho; have HB9 := Aside0.mk hb; clear ho hb hg hat))
          go_roundg 0
          case measure => have := HK2.out; omega
          case rel => exact ⟨2, by go_num, ⟨rfl⟩, ⟨by have := HO9.out; simpa using this⟩, HB9⟩
        · have HO' := Aside0.mk (show Kd.R k49 49 wr w.heap.size (fun _ => True) u6 (l0 ++ l1) from HO.out)
          clear hx0 hx1
          go_wp2_with fail
          exact bodyPost_ret (v := u6) (by simp [results, Try.results55, go_sem]) rfl ⟨_, rfl, HO'.out, HB2.out⟩
theorem sortv_calls (A3 : Option Addr) (c3 N : Nat) (xs : List S49) (hN : xs.length = N) (w0 w : World) (ho : Kd.R k49 49 w w0.heap.size (fun _ => True) (.slice A3 xs.length c3) xs) (hb : Below w0.heap.size w0 w) (hq : ∀ x ∈ xs, TimeOk x) (hn : xs.length ≤ 2048) :
    Calls Try.prog 56 #[.slice A3 N c3, .func (.func 57) #[] #[]] w fun e w' => (∃ r, e = .returned r) ∧ Kd.R k49 49 w' w0.heap.size (fun _ => True) (.slice A3 N c3) (Srt.stabF z49 (Srt.klt (fun t => t.f0)) xs) ∧ Below w0.heap.size w0 w' := by
  subst hN
  cases A3 with
  | none =>
    have hz : xs.length = 0 := by
      rcases Nat.eq_zero_or_pos xs.length with h | h
      · exact h
      · obtain ⟨g, cap, e, _⟩ := Kd.R_form ho h
        injection e with e _ _
        cases e
    obtain rfl : xs = [] := List.length_eq_zero_iff.1 hz
    refine (sort_nil _ _).mono ?_
    rintro e w' ⟨hr, rfl⟩
    exact ⟨hr, ho, hb⟩
  | some ad =>
    obtain ⟨g, rfl⟩ := Kd.R_head ho
    have hss : SS g c3 xs.length w0 (fun _ => True) TimeOk w xs := ⟨ho, rfl, hb, trivial, hq⟩
    refine (sort_calls g c3 xs.length w0 _ _ _ #[] (merge_stays g) merge_cmp (by omega) xs w hss).mono ?_
    rintro e w' ⟨hr, hs⟩
    exact ⟨hr, hs.own, hs.below⟩
set_option maxHeartbeats 1600000 in
set_option maxRecDepth 100000 in
theorem tape_Merge.calls (A0 : Option Addr) (c0 : Nat) (l0 : List S49) (A1 : Option Addr) (c1 : Nat) (l1 : List S49) (r1 : List S49) (r2 : Int) (w : World) (hr0 : Kd.C k49 w A0 l0.length l0) (hc0 : l0.length ≤ c0) (hr1 : Kd.C k49 w A1 l1.length l1) (hc1 : l1.length ≤ c1) (h0 : tape_Merge.f l0 l1 = some (r1, r2)) :
    Calls Try.prog 24 #[.slice A0 l0.length c0, .slice A1 l1.length c1] w fun e w' => ∃ v0_ : Value, e = .returned (.tuple #[v0_, .int .i64 r2]) ∧ Kd.R k49 49 w' w.heap.size (fun _ => True) v0_ r1 ∧ Below w.heap.size w w' := by
  unfold tape_Merge.f at h0
  obtain ⟨e, he, h⟩ := Option.bind_eq_some_iff.1 h0
  clear h0
  have HR0 := Aside0.mk hr0
  have HR1 := Aside0.mk hr1
  have HE := Aside0.mk he
  have hlen0 := (show l0.length ≤ 9223372036854775807 from Kd.C_max hr0)
  have hlen1 := (show l1.length ≤ 9223372036854775807 from Kd.C_max hr1)
  clear hr0 hr1 he
  by_cases e0 : e ≠ 0
  · rw [if_pos e0] at h
    obtain ⟨rfl, rfl⟩ : [] = r1 ∧ e = r2 := by simpa using h
    have hne : (e != 0) = true := by simpa using e0
    clear h e0
    go_enter Try.func24, Try.ntmps24
    go_wp2_with (go_at_call 47; (with_reducible refine (tape_Check.calls A0 c0 l0 e _ HR0.out hc0 HE.out).mono ?_); rintro e9 w1 ⟨rfl, hb1⟩)
    exact bodyPost_ret (v := .tuple #[.slice none 0 0, .int .i64 e]) (by simp [results, Try.results24, go_sem]) rfl ⟨_, rfl, Kd.R_nil _ _ _ _ _, hb1⟩
  rw [if_neg e0] at h
  obtain rfl : e = 0 := Decidable.not_not.1 e0
  obtain ⟨e1, he1, h⟩ := Option.bind_eq_some_iff.1 h
  have HE1 := Aside0.mk he1
  clear e0 he1
  by_cases e2 : e1 ≠ 0
  · rw [if_pos e2] at h
    obtain ⟨rfl, rfl⟩ : [] = r1 ∧ e1 = r2 := by simpa using h
    have hne : (e1 != 0) = true := by simpa using e2
    clear h e2
    go_enter Try.func24, Try.ntmps24
    go_wp2_with (first
      | (go_at_call 47; (with_reducible refine (tape_Check.calls A0 c0 l0 0 _ HR0.out hc0 HE.out).mono ?_); rintro e9 w1 ⟨rfl, hb1⟩; have HB1 := Aside0.mk hb1; clear hb1)
      | (go_at_call 47; (with_reducible refine (tape_Check.calls A1 c1 l1 _ _ (Kd.C_below HR1.out HB1.out) hc1 HE1.out).mono ?_); rintro e9 w2 ⟨rfl, hb2⟩; have HB2 := Aside0.mk hb2; clear hb2))
    exact bodyPost_ret (v := .tuple #[.slice none 0 0, .int .i64 e1]) (by simp [results, Try.results24, go_sem]) rfl ⟨_, rfl, Kd.R_nil _ _ _ _ _, HB1.out.trans (HB2.out.mono HB1.out.size)⟩
  rw [if_neg e2] at h
  obtain rfl : e1 = 0 := Decidable.not_not.1 e2
  clear e2
  have q0 := tick_len _ HE.out
  have q1 := tick_len _ HE1.out
  obtain ⟨n2, hn2⟩ : ∃ n, l0.length + l1.length = n := ⟨_, rfl⟩
  have hs : (l0.length : Int) + (l1.length : Int) = (n2 : Int) := by omega
  have hw : Go.RowKit.wrap64 (n2 : Int) = (n2 : Int) := w64m (show n2 < 3000 by omega) (by decide)
  by_cases c : 1024 < l0.length + l1.length
  · rw [if_pos c] at h
    obtain ⟨rfl, rfl⟩ : [] = r1 ∧ 8 = r2 := by simpa using h
    have hc := decide_eq_true (show (1024 : Int) < (n2 : Int) by omega)
    clear h c hn2 q0 q1
    go_enter Try.func24, Try.ntmps24
    go_wp2_with (first
      | (go_at_call 47; (with_reducible refine (tape_Check.calls A0 c0 l0 0 _ HR0.out hc0 HE.out).mono ?_); rintro e9 w1 ⟨rfl, hb1⟩; have HB1 := Aside0.mk hb1; clear hb1)
      | (go_at_call 47; (with_reducible refine (tape_Check.calls A1 c1 l1 _ _ (Kd.C_below HR1.out HB1.out) hc1 HE1.out).mono ?_); rintro e9 w2 ⟨rfl, hb2⟩; have HB2 := Aside0.mk hb2; clear hb2))
    exact bodyPost_ret (v := .tuple #[.slice none 0 0, .int .i64 8]) (by simp [results, Try.results24, go_sem]) rfl ⟨_, rfl, Kd.R_nil _ _ _ _ _, HB1.out.trans (HB2.out.mono HB1.out.size)⟩
  rw [if_neg c] at h
  obtain ⟨hr, rfl⟩ : Srt.stabF z49 (Srt.klt (fun t => t.f0)) (l0 ++ l1) = r1 ∧ 0 = r2 := by simpa using h
  have hc := decide_eq_false (show ¬ (1024 : Int) < (n2 : Int) by omega)
  have HL := Aside0.mk (show l0.length + l1.length ≤ 1024 by omega)
  have HR := Aside0.mk hr
  have HQ := Aside0.mk (show ∀ x ∈ l0 ++ l1, TimeOk x from fun x hx => by
    rcases List.mem_append.1 hx with hx | hx
    · exact tick_ok _ HE.out x hx
    · exact tick_ok _ HE1.out x hx)
  have HLL := Aside0.mk (show (l0 ++ l1).length ≤ 2048 by simp; omega)
  clear h hr c hn2 q0 q1
  go_enter Try.func24, Try.ntmps24
  go_wp2_with (first
    | (go_at_call 47; (with_reducible refine (tape_Check.calls A0 c0 l0 0 _ HR0.out hc0 HE.out).mono ?_); rintro e9 w1 ⟨rfl, hb1⟩; have HB1 := Aside0.mk hb1; clear hb1)
    | (go_at_call 47; (with_reducible refine (tape_Check.calls A1 c1 l1 _ _ (Kd.C_below HR1.out HB1.out) hc1 HE1.out).mono ?_); rintro e9 w2 ⟨rfl, hb2⟩; have HB2 := Aside0.mk hb2; clear hb2)
    | (go_at_call 55; refine (concat_calls _ A0 c0 l0 A1 c1 l1 _ (blk_new _ _) (Kd.C_alloc (Kd.C_below (Kd.C_below HR0.out HB1.out) HB2.out) _) (Kd.C_alloc (Kd.C_below (Kd.C_below HR1.out HB1.out) HB2.out) _) HL.out).mono ?_; rintro e9 w3 ⟨v3, rfl, ho3, hb3⟩; obtain ⟨A3, c3, rfl⟩ := Kd.R_slice ho3; have HO3 := Aside0.mk ho3; have HB3 := Aside0.mk hb3; clear ho3 hb3)
    | (go_at_call 56; refine (sortv_calls A3 c3 _ (l0 ++ l1) List.length_append w _ (Kd.R_lower HO3.out (Nat.le_trans HB1.out.size (Nat.le_trans HB2.out.size (by simp)))) (HB1.out.trans ((HB2.out.trans (((below_alloc (Below.refl _ _) _).trans (HB3.out.mono (by simp))).mono HB2.out.size)).mono HB1.out.size)) HQ.out HLL.out).mono ?_; rw [HR.out]; rintro e9 w4 ⟨⟨r9, rfl⟩, ho4, hb4⟩; have HO4 := Aside0.mk ho4; have HB4 := Aside0.mk hb4; clear ho4 hb4))
  exact bodyPost_ret (v := .tuple #[.slice A3 (l0.length + l1.length) c3, .int .i64 0]) (by simp [results, Try.results24, go_sem]) rfl ⟨_, rfl, HO4.out, HB4.out⟩
end Go.Proofs.Ytocndpddghefhaa.X
end
section
namespace Go.Proofs.Ytocndpddghefhaa.X
open Go.RowKit Go.Proofs.YtocndpddghefhaaW.PrintWords Go.Proofs.YtocndpddghefhaaW.PrintLast Go.Proofs.YtocndpddghefhaaW.PrintMore
attribute [local go_sem] max2_int min2_int max_two min_two max_three min_three max_four min_four
set_option linter.unusedVariables false
set_option linter.unusedSimpArgs false
mutual
def contangolaw17_TapeKeeps.j0 : Nat → List (S49) → List (S49) → Int → List (S49) → Bool → Option (Bool)
  | 0, _, _, _, _, _ => none
  | k + 1, x0, x1, x2, x7, x31 => if x31 = true then ((contangolaw17_goes.f k).bind fun t105 => (some t105)) else ((tape_Volume.f x7).bind fun bt106 => ((tape_Volume.f x0).bind fun bt108 => ((tape_Volume.f x1).bind fun bt110 => (if bt106.2 = 0 then (if bt108.2 = 0 then (if bt110.2 = 0 then (if bt106.1 = (wrap64 (bt108.1 + bt110.1)) then (contangolaw17_TapeKeeps.j1 k x2 x7 ((x7.length : Int) != (wrap64 ((x0.length : Int) + (x1.length : Int))))) else (contangolaw17_TapeKeeps.j1 k x2 x7 true)) else (contangolaw17_TapeKeeps.j1 k x2 x7 true)) else (contangolaw17_TapeKeeps.j1 k x2 x7 true)) else (contangolaw17_TapeKeeps.j1 k x2 x7 true)))))
def contangolaw17_TapeKeeps.j1 : Nat → Int → List (S49) → Bool → Option (Bool)
  | 0, _, _, _ => none
  | k + 1, x2, x7, x74 => if x74 = true then (none) else ((tape_Window.f x7 0 (wrap64 (x2 - 1))).bind fun t112 => (if ([] : List (S49)).length + t112.length < 5864062014805 then ((some (([] : List (S49)) ++ t112 : List (S49))).bind fun y115 => ((tape_Window.f x7 x2 86399).bind fun t118 => (if y115.length + t118.length < 5864062014805 then ((contangoref17_Same.f k (y115 ++ t118) x7).bind fun t124 => (if t124 = true then ((contangolaw17_goes.f k).bind fun t125 => (some t125)) else (none))) else (none)))) else (none)))
end
def contangolaw17_TapeKeeps.f (k : Nat) (l0 : List (S49)) (l1 : List (S49)) (a2 : Int) : Option (Bool) := (tape_Merge.f l0 l1).bind fun bt101 => (if bt101.2 = 0 then (if a2 < 0 then (contangolaw17_TapeKeeps.j0 k l0 l1 a2 bt101.1 true) else (contangolaw17_TapeKeeps.j0 k l0 l1 a2 bt101.1 (decide (a2 > 86400)))) else (contangolaw17_TapeKeeps.j0 k l0 l1 a2 bt101.1 true))
set_option maxHeartbeats 8000000 in
set_option maxRecDepth 100000 in
theorem contangolaw17_TapeKeeps.calls (k : Nat) (A0 : Option Addr) (c0 : Nat) (l0 : List (S49)) (A1 : Option Addr) (c1 : Nat) (l1 : List (S49)) (a2 : Int) (r : Bool) (w : World) (hr0 : Kd.C k49 w A0 l0.length l0) (hc0 : l0.length ≤ c0) (hr1 : Kd.C k49 w A1 l1.length l1) (hc1 : l1.length ≤ c1) (h : contangolaw17_TapeKeeps.f k l0 l1 a2 = some r) :
    Calls Try.prog 9 #[.slice A0 l0.length c0, .slice A1 l1.length c1, .int .i64 a2] w fun e w' => e = .returned (.bool r) ∧ Below w.heap.size w w' := by
  have HR0 := Aside0.mk hr0
  have HC0 := Aside0.mk hc0
  clear hr0 hc0
  have HR1 := Aside0.mk hr1
  have HC1 := Aside0.mk hc1
  clear hr1 hc1
  have HB := Aside0.mk (Below.refl w.heap.size w)
  have H : ((tape_Merge.f l0 l1).bind fun bt101 => (if bt101.2 = 0 then (if a2 < 0 then (contangolaw17_TapeKeeps.j0 k l0 l1 a2 bt101.1 true) else (contangolaw17_TapeKeeps.j0 k l0 l1 a2 bt101.1 (decide (a2 > 86400)))) else (contangolaw17_TapeKeeps.j0 k l0 l1 a2 bt101.1 true))) = some r := h
  clear h
  replace H := Option.bind_eq_some_iff.mp H
  obtain ⟨⟨t101, t102⟩, A40, H⟩ := H
  replace H : (if t102 = 0 then (if a2 < 0 then (contangolaw17_TapeKeeps.j0 k l0 l1 a2 t101 true) else (contangolaw17_TapeKeeps.j0 k l0 l1 a2 t101 (decide (a2 > 86400)))) else (contangolaw17_TapeKeeps.j0 k l0 l1 a2 t101 true)) = some r := H
  have A4 := Aside0.mk A40
  clear A40
  have HC5 := Aside0.mk H
  clear H
  go_enter Try.func9, Try.ntmps9
  go_upto_region 2 with (first | ((with_reducible refine gate_callee (f := 24) rfl ?_); refine goesL_ (some 19) rfl rfl Try.func24 (by kernel_rfl) rfl #[.slice A0 l0.length c0, .slice A1 l1.length c1] rfl (by (try simp only [List.map_toArray, List.map_cons, List.map_nil]); first | done | rfl | (simp only [List.length_drop, List.length_take]; rfl)) ?_; (with_reducible refine (tape_Merge.calls _ _ l0 _ _ l1 t101 t102 _ ?side1 ?side2 ?side3 ?side4 A4.out).mono ?_); (case side1 => repeat (first | exact HR0.out | (with_reducible refine Kd.C_alloc ?_ _) | (with_reducible refine Kd.C_drewN ?_ _) | (with_reducible refine Kd.C_drew ?_))); (case side2 => exact HC0.out); (case side3 => repeat (first | exact HR1.out | (with_reducible refine Kd.C_alloc ?_ _) | (with_reducible refine Kd.C_drewN ?_ _) | (with_reducible refine Kd.C_drew ?_))); (case side4 => exact HC1.out); rintro e w6 ⟨v103, rfl, ho0, hb⟩; refine ⟨_, rfl, ?_⟩; have n0_ := Aside0.mk (Kd.R_lower ho0 (below_size (by repeat (first | (with_reducible first | exact HB.out | apply below_alloc | apply pw_below_drewN | apply below_drew1) | exact HB.out)))); have n1_ := Aside0.mk (below_step (by repeat (first | (with_reducible first | exact HB.out | apply below_alloc | apply pw_below_drewN | apply below_drew1) | exact HB.out)) hb); clear HB; have HO104 := n0_; have HB := n1_; clear n0_ n1_; (try clear hb); (try clear hb2); (try clear hk); (try clear hi); (try clear ho0)))
  (try simp only [Act.put, List.setIfInBounds_toArray, List.set_cons_zero, List.set_cons_succ])
  go_cut [31] (fun v31 wc => ∃ (kq : Nat) (x31_4 : Bool), v31 = .bool x31_4 ∧ Aside0 (contangolaw17_TapeKeeps.j0 kq l0 l1 a2 t101 x31_4 = some r) ∧ Aside0 (kq ≤ k) ∧ Aside0 (Kd.R k49 49 wc w.heap.size (fun _ => True) v103 t101) ∧ Aside0 (Below w.heap.size w wc))
  case first =>
    have H := HC5.out
    clear HC5
    by_cases c7 : t102 = 0
    · rw [if_pos c7] at H
      have c7b0 : (t102 == 0) = true := beq_iff_eq.mpr c7
      have c7b1 : (t102 != 0) = false := bne_eq_false_iff_eq.mpr c7
      clear c7
      (first | rw [c7b0] | (simp only [i64_w, i32_w]; rw [c7b0]) | skip)
      by_cases c8 : a2 < 0
      · rw [if_pos c8] at H
        have c8b0 : decide (a2 < 0) = true := decide_eq_true c8
        clear c8
        have H' := Aside0.mk H
        clear H
        go_wp2
        go_meet
        case rel => exact ⟨_, (true), (by first | rfl | (simp; done) | (simp [*]; done)), H', ⟨by first | omega | exact Nat.le_refl _⟩, ⟨by (with_reducible repeat (first | apply Kd.R_alloc | apply Kd.R_drewN | apply Kd.R_drew)); exact HO104.out⟩, ⟨by repeat (first | (with_reducible first | exact HB.out | apply below_alloc | apply pw_below_drewN | apply below_drew1) | exact HB.out)⟩⟩
      · rw [if_neg c8] at H
        have c8b0 : decide (a2 < 0) = false := decide_eq_false c8
        clear c8
        have H' := Aside0.mk H
        clear H
        go_wp2
        go_meet
        case rel => exact ⟨_, (decide (a2 > 86400)), (by first | rfl | (simp; done) | (simp [*]; done)), H', ⟨by first | omega | exact Nat.le_refl _⟩, ⟨by (with_reducible repeat (first | apply Kd.R_alloc | apply Kd.R_drewN | apply Kd.R_drew)); exact HO104.out⟩, ⟨by repeat (first | (with_reducible first | exact HB.out | apply below_alloc | apply pw_below_drewN | apply below_drew1) | exact HB.out)⟩⟩
    · rw [if_neg c7] at H
      have c7b0 : (t102 == 0) = false := beq_eq_false_iff_ne.mpr c7
      have c7b1 : (t102 != 0) = true := bne_iff_ne.mpr c7
      (first | rw [c7b0] | (simp only [i64_w, i32_w]; rw [c7b0]) | skip)
      have H' := Aside0.mk H
      clear H
      go_wp2
      go_meet
      case rel => exact ⟨_, (true), (by first | rfl | (simp; done) | (simp [*]; done)), H', ⟨by first | omega | exact Nat.le_refl _⟩, ⟨by (with_reducible repeat (first | apply Kd.R_alloc | apply Kd.R_drewN | apply Kd.R_drew)); exact HO104.out⟩, ⟨by repeat (first | (with_reducible first | exact HB.out | apply below_alloc | apply pw_below_drewN | apply below_drew1) | exact HB.out)⟩⟩
  case rest =>
    clear HC5
    try clear c1
    try clear c2
    try clear p2
    try clear c7
    try clear c7b0
    try clear c7b1
    try clear c8
    try clear c8b0
    obtain ⟨kq, x31_4, rfl, HA, HJ4, HO_7, HB⟩ := hcut
    cases kq with
    | zero => exact absurd HA.out (by simp [contangolaw17_TapeKeeps.j0])
    | succ kj4 =>
      have H := HA.out
      clear HA
      simp only [contangolaw17_TapeKeeps.j0] at H
      by_cases c9 : x31_4 = true
      · subst c9
        have H1 : ((contangolaw17_goes.f kj4).bind fun t105 => (some t105)) = some r := by rw [if_pos rfl] at H; exact H
        clear H
        have H := H1
        clear H1
        replace H := Option.bind_eq_some_iff.mp H
        obtain ⟨t105, A100, H⟩ := H
        replace H : (some t105) = some r := H
        have A10 := Aside0.mk A100
        clear A100
        obtain rfl := Option.some.inj H
        go_wp2_with (first | ((with_reducible refine gate_callee (f := 14) rfl ?_); refine goesL_ (some 32) rfl rfl Try.func14 (by kernel_rfl) rfl #[] rfl (by (try simp only [List.map_toArray, List.map_cons, List.map_nil]); first | done | rfl | (simp only [List.length_drop, List.length_take]; rfl)) ?_; (with_reducible refine (contangolaw17_goes.calls kj4  t105 _ A10.out).mono ?_); rintro e w11 ⟨rfl, hb⟩; refine ⟨_, rfl, ?_⟩; have n0_ := Aside0.mk (Kd.R_below (by (with_reducible repeat (first | apply Kd.R_alloc | apply Kd.R_drewN | apply Kd.R_drew)); exact HO_7.out) hb); have n1_ := Aside0.mk (below_step (by repeat (first | (with_reducible first | exact HB.out | apply below_alloc | apply pw_below_drewN | apply below_drew1) | exact HB.out)) hb); clear HO_7; clear HB; have HO_7 := n0_; have HB := n1_; clear n0_ n1_; (try clear hb); (try clear hb2); (try clear hk); (try clear hi)))
        go_ret
        exact ⟨by first | rfl | (simp [errW_none, errW_some] <;> rfl) | (simp [*, errW_none, errW_some] <;> rfl), by repeat (first | (with_reducible first | exact HB.out | apply below_alloc | apply pw_below_drewN | apply below_drew1) | exact HB.out)⟩
      · replace c9 := Bool.eq_false_iff.mpr c9
        subst c9
        have H1 : ((tape_Volume.f t101).bind fun bt106 => ((tape_Volume.f l0).bind fun bt108 => ((tape_Volume.f l1).bind fun bt110 => (if bt106.2 = 0 then (if bt108.2 = 0 then (if bt110.2 = 0 then (if bt106.1 = (wrap64 (bt108.1 + bt110.1)) then (contangolaw17_TapeKeeps.j1 kj4 a2 t101 ((t101.length : Int) != (wrap64 ((l0.length : Int) + (l1.length : Int))))) else (contangolaw17_TapeKeeps.j1 kj4 a2 t101 true)) else (contangolaw17_TapeKeeps.j1 kj4 a2 t101 true)) else (contangolaw17_TapeKeeps.j1 kj4 a2 t101 true)) else (contangolaw17_TapeKeeps.j1 kj4 a2 t101 true))))) = some r := by rw [if_neg (show ¬ (false = true) by decide)] at H; exact H
        clear H
        have H := H1
        clear H1
        replace H := Option.bind_eq_some_iff.mp H
        obtain ⟨⟨t106, t107⟩, A120, H⟩ := H
        replace H : ((tape_Volume.f l0).bind fun bt108 => ((tape_Volume.f l1).bind fun bt110 => (if t107 = 0 then (if bt108.2 = 0 then (if bt110.2 = 0 then (if t106 = (wrap64 (bt108.1 + bt110.1)) then (contangolaw17_TapeKeeps.j1 kj4 a2 t101 ((t101.length : Int) != (wrap64 ((l0.length : Int) + (l1.length : Int))))) else (contangolaw17_TapeKeeps.j1 kj4 a2 t101 true)) else (contangolaw17_TapeKeeps.j1 kj4 a2 t101 true)) else (contangolaw17_TapeKeeps.j1 kj4 a2 t101 true)) else (contangolaw17_TapeKeeps.j1 kj4 a2 t101 true)))) = some r := H
        have A12 := Aside0.mk A120
        clear A120
        replace H := Option.bind_eq_some_iff.mp H
        obtain ⟨⟨t108, t109⟩, A130, H⟩ := H
        replace H : ((tape_Volume.f l1).bind fun bt110 => (if t107 = 0 then (if t109 = 0 then (if bt110.2 = 0 then (if t106 = (wrap64 (t108 + bt110.1)) then (contangolaw17_TapeKeeps.j1 kj4 a2 t101 ((t101.length : Int) != (wrap64 ((l0.length : Int) + (l1.length : Int))))) else (contangolaw17_TapeKeeps.j1 kj4 a2 t101 true)) else (contangolaw17_TapeKeeps.j1 kj4 a2 t101 true)) else (contangolaw17_TapeKeeps.j1 kj4 a2 t101 true)) else (contangolaw17_TapeKeeps.j1 kj4 a2 t101 true))) = some r := H
        have A13 := Aside0.mk A130
        clear A130
        replace H := Option.bind_eq_some_iff.mp H
        obtain ⟨⟨t110, t111⟩, A140, H⟩ := H
        replace H : (if t107 = 0 then (if t109 = 0 then (if t111 = 0 then (if t106 = (wrap64 (t108 + t110)) then (contangolaw17_TapeKeeps.j1 kj4 a2 t101 ((t101.length : Int) != (wrap64 ((l0.length : Int) + (l1.length : Int))))) else (contangolaw17_TapeKeeps.j1 kj4 a2 t101 true)) else (contangolaw17_TapeKeeps.j1 kj4 a2 t101 true)) else (contangolaw17_TapeKeeps.j1 kj4 a2 t101 true)) else (contangolaw17_TapeKeeps.j1 kj4 a2 t101 true)) = some r := H
        have A14 := Aside0.mk A140
        clear A140
        have HC15 := Aside0.mk H
        clear H
        obtain ⟨Ao16, co16, eo16⟩ := Kd.R_slice HO_7.out
        subst eo16
        go_upto_region 7 with (first | ((with_reducible refine gate_callee (f := 27) rfl ?_); refine goesL_ (some 35) rfl rfl Try.func27 (by kernel_rfl) rfl #[.slice Ao16 t101.length co16] rfl (by (try simp only [List.map_toArray, List.map_cons, List.map_nil]); first | done | rfl | (simp only [List.length_drop, List.length_take]; rfl)) ?_; (with_reducible refine (tape_Volume.calls _ _ t101 t106 t107 _ ?side1 ?side2 A12.out).mono ?_); (case side1 => repeat (first | exact (Kd.R_reads' HO_7.out).2.2 | (with_reducible refine Kd.C_alloc ?_ _) | (with_reducible refine Kd.C_drewN ?_ _) | (with_reducible refine Kd.C_drew ?_))); (case side2 => exact (Kd.R_reads' HO_7.out).2.1); rintro e w17 ⟨rfl, hb⟩; refine ⟨_, rfl, ?_⟩; have n0_ := Aside0.mk (Kd.R_below (by (with_reducible repeat (first | apply Kd.R_alloc | apply Kd.R_drewN | apply Kd.R_drew)); exact HO_7.out) hb); have n1_ := Aside0.mk (below_step (by repeat (first | (with_reducible first | exact HB.out | apply below_alloc | apply pw_below_drewN | apply below_drew1) | exact HB.out)) hb); clear HO_7; clear HB; have HO_7 := n0_; have HB := n1_; clear n0_ n1_; (try clear hb); (try clear hb2); (try clear hk); (try clear hi)) | ((with_reducible refine gate_callee (f := 27) rfl ?_); refine goesL_ (some 40) rfl rfl Try.func27 (by kernel_rfl) rfl #[.slice A0 l0.length c0] rfl (by (try simp only [List.map_toArray, List.map_cons, List.map_nil]); first | done | rfl | (simp only [List.length_drop, List.length_take]; rfl)) ?_; (with_reducible refine (tape_Volume.calls _ _ l0 t108 t109 _ ?side1 ?side2 A13.out).mono ?_); (case side1 => repeat (first | exact (Kd.C_below HR0.out HB.out) | (with_reducible refine Kd.C_alloc ?_ _) | (with_reducible refine Kd.C_drewN ?_ _) | (with_reducible refine Kd.C_drew ?_))); (case side2 => exact HC0.out); rintro e w18 ⟨rfl, hb⟩; refine ⟨_, rfl, ?_⟩; have n0_ := Aside0.mk (Kd.R_below (by (with_reducible repeat (first | apply Kd.R_alloc | apply Kd.R_drewN | apply Kd.R_drew)); exact HO_7.out) hb); have n1_ := Aside0.mk (below_step (by repeat (first | (with_reducible first | exact HB.out | apply below_alloc | apply pw_below_drewN | apply below_drew1) | exact HB.out)) hb); clear HO_7; clear HB; have HO_7 := n0_; have HB := n1_; clear n0_ n1_; (try clear hb); (try clear hb2); (try clear hk); (try clear hi)) | ((with_reducible refine gate_callee (f := 27) rfl ?_); refine goesL_ (some 45) rfl rfl Try.func27 (by kernel_rfl) rfl #[.slice A1 l1.length c1] rfl (by (try simp only [List.map_toArray, List.map_cons, List.map_nil]); first | done | rfl | (simp only [List.length_drop, List.length_take]; rfl)) ?_; (with_reducible refine (tape_Volume.calls _ _ l1 t110 t111 _ ?side1 ?side2 A14.out).mono ?_); (case side1 => repeat (first | exact (Kd.C_below HR1.out HB.out) | (with_reducible refine Kd.C_alloc ?_ _) | (with_reducible refine Kd.C_drewN ?_ _) | (with_reducible refine Kd.C_drew ?_))); (case side2 => exact HC1.out); rintro e w19 ⟨rfl, hb⟩; refine ⟨_, rfl, ?_⟩; have n0_ := Aside0.mk (Kd.R_below (by (with_reducible repeat (first | apply Kd.R_alloc | apply Kd.R_drewN | apply Kd.R_drew)); exact HO_7.out) hb); have n1_ := Aside0.mk (below_step (by repeat (first | (with_reducible first | exact HB.out | apply below_alloc | apply pw_below_drewN | apply below_drew1) | exact HB.out)) hb); clear HO_7; clear HB; have HO_7 := n0_; have HB := n1_; clear n0_ n1_; (try clear hb); (try clear hb2); (try clear hk); (try clear hi)))
        (try simp only [Act.put, List.setIfInBounds_toArray, List.set_cons_zero, List.set_cons_succ])
        go_cut [74] (fun v74 wc => ∃ (kq : Nat) (x74_14 : Bool), v74 = .bool x74_14 ∧ Aside0 (contangolaw17_TapeKeeps.j1 kq a2 t101 x74_14 = some r) ∧ Aside0 (kq ≤ kj4) ∧ Aside0 (Kd.R k49 49 wc w.heap.size (fun _ => True) (.slice Ao16 t101.length co16) t101) ∧ Aside0 (Below w.heap.size w wc))
        case first =>
          have H := HC15.out
          clear HC15
          by_cases c20 : t107 = 0
          · rw [if_pos c20] at H
            have c20b0 : (t107 == 0) = true := beq_iff_eq.mpr c20
            have c20b1 : (t107 != 0) = false := bne_eq_false_iff_eq.mpr c20
            clear c20
            (first | rw [c20b0] | (simp only [i64_w, i32_w]; rw [c20b0]) | skip)
            by_cases c21 : t109 = 0
            · rw [if_pos c21] at H
              have c21b0 : (t109 == 0) = true := beq_iff_eq.mpr c21
              have c21b1 : (t109 != 0) = false := bne_eq_false_iff_eq.mpr c21
              clear c21
              by_cases c22 : t111 = 0
              · rw [if_pos c22] at H
                have c22b0 : (t111 == 0) = true := beq_iff_eq.mpr c22
                have c22b1 : (t111 != 0) = false := bne_eq_false_iff_eq.mpr c22
                clear c22
                by_cases c23 : t106 = (wrap64 (t108 + t110))
                · rw [if_pos c23] at H
                  have c23b0 : (t106 == (wrap64 (t108 + t110))) = true := beq_iff_eq.mpr c23
                  have c23b1 : (t106 != (wrap64 (t108 + t110))) = false := bne_eq_false_iff_eq.mpr c23
                  clear c23
                  have H' := Aside0.mk H
                  clear H
                  go_wp2
                  go_meet
                  case rel => exact ⟨_, (((t101.length : Int) != (wrap64 ((l0.length : Int) + (l1.length : Int))))), (by first | rfl | (simp; done) | (simp [*]; done)), H', ⟨by have := HJ4.out; first | omega | exact Nat.le_refl _⟩, ⟨by (with_reducible repeat (first | apply Kd.R_alloc | apply Kd.R_drewN | apply Kd.R_drew)); exact HO_7.out⟩, ⟨by repeat (first | (with_reducible first | exact HB.out | apply below_alloc | apply pw_below_drewN | apply below_drew1) | exact HB.out)⟩⟩
                · rw [if_neg c23] at H
                  have c23b0 : (t106 == (wrap64 (t108 + t110))) = false := beq_eq_false_iff_ne.mpr c23
                  have c23b1 : (t106 != (wrap64 (t108 + t110))) = true := bne_iff_ne.mpr c23
                  have H' := Aside0.mk H
                  clear H
                  go_wp2
                  go_meet
                  case rel => exact ⟨_, (true), (by first | rfl | (simp; done) | (simp [*]; done)), H', ⟨by have := HJ4.out; first | omega | exact Nat.le_refl _⟩, ⟨by (with_reducible repeat (first | apply Kd.R_alloc | apply Kd.R_drewN | apply Kd.R_drew)); exact HO_7.out⟩, ⟨by repeat (first | (with_reducible first | exact HB.out | apply below_alloc | apply pw_below_drewN | apply below_drew1) | exact HB.out)⟩⟩
              · rw [if_neg c22] at H
                have c22b0 : (t111 == 0) = false := beq_eq_false_iff_ne.mpr c22
                have c22b1 : (t111 != 0) = true := bne_iff_ne.mpr c22
                have H' := Aside0.mk H
                clear H
                go_wp2
                go_meet
                case rel => exact ⟨_, (true), (by first | rfl | (simp; done) | (simp [*]; done)), H', ⟨by have := HJ4.out; first | omega | exact Nat.le_refl _⟩, ⟨by (with_reducible repeat (first | apply Kd.R_alloc | apply Kd.R_drewN | apply Kd.R_drew)); exact HO_7.out⟩, ⟨by repeat (first | (with_reducible first | exact HB.out | apply below_alloc | apply pw_below_drewN | apply below_drew1) | exact HB.out)⟩⟩
            · rw [if_neg c21] at H
              have c21b0 : (t109 == 0) = false := beq_eq_false_iff_ne.mpr c21
              have c21b1 : (t109 != 0) = true := bne_iff_ne.mpr c21
              have H' := Aside0.mk H
              clear H
              go_wp2
              go_meet
              case rel => exact ⟨_, (true), (by first | rfl | (simp; done) | (simp [*]; done)), H', ⟨by have := HJ4.out; first | omega | exact Nat.le_refl _⟩, ⟨by (with_reducible repeat (first | apply Kd.R_alloc | apply Kd.R_drewN | apply Kd.R_drew)); exact HO_7.out⟩, ⟨by repeat (first | (with_reducible first | exact HB.out | apply below_alloc | apply pw_below_drewN | apply below_drew1) | exact HB.out)⟩⟩
          · rw [if_neg c20] at H
            have c20b0 : (t107 == 0) = false := beq_eq_false_iff_ne.mpr c20
            have c20b1 : (t107 != 0) = true := bne_iff_ne.mpr c20
            (first | rw [c20b0] | (simp only [i64_w, i32_w]; rw [c20b0]) | skip)
            have H' := Aside0.mk H
            clear H
            go_wp2
            go_meet
            case rel => exact ⟨_, (true), (by first | rfl | (simp; done) | (simp [*]; done)), H', ⟨by have := HJ4.out; first | omega | exact Nat.le_refl _⟩, ⟨by (with_reducible repeat (first | apply Kd.R_alloc | apply Kd.R_drewN | apply Kd.R_drew)); exact HO_7.out⟩, ⟨by repeat (first | (with_reducible first | exact HB.out | apply below_alloc | apply pw_below_drewN | apply below_drew1) | exact HB.out)⟩⟩
        case rest =>
          clear HC15
          try clear c1
          try clear c2
          try clear p2
          try clear p6
          try clear c7
          try clear c7b0
          try clear c7b1
          try clear c8
          try clear c8b0
          try clear c9
          try clear c14
          try clear c20
          try clear c20b0
          try clear c20b1
          try clear c21
          try clear c21b0
          try clear c21b1
          try clear c22
          try clear c22b0
          try clear c22b1
          try clear c23
          try clear c23b0
          try clear c23b1
          try clear p2
          obtain ⟨kq, x74_14, rfl, HA, HJ14, HO_7, HB⟩ := hcut
          cases kq with
          | zero => exact absurd HA.out (by simp [contangolaw17_TapeKeeps.j1])
          | succ kj14 =>
            have H := HA.out
            clear HA
            simp only [contangolaw17_TapeKeeps.j1] at H
            by_cases c24 : x74_14 = true
            · subst c24
              have H1 : (none) = some r := by rw [if_pos rfl] at H; exact H
              clear H
              have H := H1
              clear H1
              exact absurd H (by simp)
            · replace c24 := Bool.eq_false_iff.mpr c24
              subst c24
              have H1 : ((tape_Window.f t101 0 (wrap64 (a2 - 1))).bind fun t112 => (if ([] : List (S49)).length + t112.length < 5864062014805 then ((some (([] : List (S49)) ++ t112 : List (S49))).bind fun y115 => ((tape_Window.f t101 a2 86399).bind fun t118 => (if y115.length + t118.length < 5864062014805 then ((contangoref17_Same.f kj14 (y115 ++ t118) t101).bind fun t124 => (if t124 = true then ((contangolaw17_goes.f kj14).bind fun t125 => (some t125)) else (none))) else (none)))) else (none))) = some r := by rw [if_neg (show ¬ (false = true) by decide)] at H; exact H
              clear H
              have H := H1
              clear H1
              replace H := Option.bind_eq_some_iff.mp H
              obtain ⟨t112, A250, H⟩ := H
              replace H : (if ([] : List (S49)).length + t112.length < 5864062014805 then ((some (([] : List (S49)) ++ t112 : List (S49))).bind fun y115 => ((tape_Window.f t101 a2 86399).bind fun t118 => (if y115.length + t118.length < 5864062014805 then ((contangoref17_Same.f kj14 (y115 ++ t118) t101).bind fun t124 => (if t124 = true then ((contangolaw17_goes.f kj14).bind fun t125 => (some t125)) else (none))) else (none)))) else (none)) = some r := H
              have A25 := Aside0.mk A250
              clear A250
              by_cases c26 : ([] : List (S49)).length + t112.length < 5864062014805
              · rw [if_pos c26] at H
                have LMc26 := Aside0.mk c26
                clear c26
                obtain ⟨y115, hy115⟩ : ∃ y_ : List (S49), y_ = (([] : List (S49)) ++ t112) := ⟨_, rfl⟩
                replace H : ((tape_Window.f t101 a2 86399).bind fun t118 => (if y115.length + t118.length < 5864062014805 then ((contangoref17_Same.f kj14 (y115 ++ t118) t101).bind fun t124 => (if t124 = true then ((contangolaw17_goes.f kj14).bind fun t125 => (some t125)) else (none))) else (none))) = some r := by first | (rw [hy115]; with_reducible exact H) | (have H2_ := (Option.bind_some _ _).symm.trans H; rw [hy115]; with_reducible exact H2_) | (have H2_ := (Option.bind_some _ _).symm.trans H; with_reducible exact H2_) | with_reducible exact H | (rw [hy115]; exact H) | exact H
                have Ny115 := Aside0.mk hy115
                clear hy115
                replace H := Option.bind_eq_some_iff.mp H
                obtain ⟨t118, A270, H⟩ := H
                replace H : (if y115.length + t118.length < 5864062014805 then ((contangoref17_Same.f kj14 (y115 ++ t118) t101).bind fun t124 => (if t124 = true then ((contangolaw17_goes.f kj14).bind fun t125 => (some t125)) else (none))) else (none)) = some r := H
                have A27 := Aside0.mk A270
                clear A270
                by_cases c28 : y115.length + t118.length < 5864062014805
                · rw [if_pos c28] at H
                  have LMc28 := Aside0.mk c28
                  clear c28
                  obtain ⟨y121, hy121⟩ : ∃ y_ : List (S49), y_ = (y115 ++ t118) := ⟨_, rfl⟩
                  replace H : ((contangoref17_Same.f kj14 y121 t101).bind fun t124 => (if t124 = true then ((contangolaw17_goes.f kj14).bind fun t125 => (some t125)) else (none))) = some r := by first | (rw [hy121]; with_reducible exact H) | (have H2_ := (Option.bind_some _ _).symm.trans H; rw [hy121]; with_reducible exact H2_) | (have H2_ := (Option.bind_some _ _).symm.trans H; with_reducible exact H2_) | with_reducible exact H | (rw [hy121]; exact H) | exact H
                  have Ny121 := Aside0.mk hy121
                  clear hy121
                  replace H := Option.bind_eq_some_iff.mp H
                  obtain ⟨t124, A290, H⟩ := H
                  replace H : (if t124 = true then ((contangolaw17_goes.f kj14).bind fun t125 => (some t125)) else (none)) = some r := H
                  have A29 := Aside0.mk A290
                  clear A290
                  by_cases c30 : t124 = true
                  · subst c30
                    have H1 : ((contangolaw17_goes.f kj14).bind fun t125 => (some t125)) = some r := by rw [if_pos rfl] at H; exact H
                    clear H
                    have H := H1
                    clear H1
                    replace H := Option.bind_eq_some_iff.mp H
                    obtain ⟨t125, A310, H⟩ := H
                    replace H : (some t125) = some r := H
                    have A31 := Aside0.mk A310
                    clear A310
                    obtain rfl := Option.some.inj H
                    go_wp2_with (first | ((with_reducible refine gate_callee (f := 28) rfl ?_); refine goesL_ (some 79) rfl rfl Try.func28 (by kernel_rfl) rfl #[.slice Ao16 t101.length co16, .int .i64 0, .int .i64 (wrap64 (a2 - 1))] rfl (by (try simp only [List.map_toArray, List.map_cons, List.map_nil]); first | done | rfl | (simp only [List.length_drop, List.length_take]; rfl)) ?_; (with_reducible refine (tape_Window.calls _ _ t101 0 (wrap64 (a2 - 1)) t112 _ ?side1 ?side2 A25.out).mono ?_); (case side1 => repeat (first | exact (Kd.R_reads' HO_7.out).2.2 | (with_reducible refine Kd.C_alloc ?_ _) | (with_reducible refine Kd.C_drewN ?_ _) | (with_reducible refine Kd.C_drew ?_))); (case side2 => exact (Kd.R_reads' HO_7.out).2.1); rintro e w32 ⟨v113, rfl, ho0, hb⟩; refine ⟨_, rfl, ?_⟩; have n0_ := Aside0.mk (Kd.R_elder' (by (with_reducible repeat (first | apply Kd.R_alloc | apply Kd.R_drewN | apply Kd.R_drew)); exact HO_7.out) (Kd.R_base ho0) hb); have n1_ := Aside0.mk (Kd.R_lower (Kd.R_new' ho0 (Kd.R_lt (by (with_reducible repeat (first | apply Kd.R_alloc | apply Kd.R_drewN | apply Kd.R_drew)); exact HO_7.out))) (below_size (by repeat (first | (with_reducible first | exact HB.out | apply below_alloc | apply pw_below_drewN | apply below_drew1) | exact HB.out)))); have n2_ := Aside0.mk (below_step (by repeat (first | (with_reducible first | exact HB.out | apply below_alloc | apply pw_below_drewN | apply below_drew1) | exact HB.out)) hb); clear HO_7; clear HB; have HO_7 := n0_; have HO114 := n1_; have HB := n2_; clear n0_ n1_ n2_; (try clear hb); (try clear hb2); (try clear hk); (try clear hi); (try clear ho0); obtain ⟨Ao34, co34, eo34⟩ := Kd.R_slice HO114.out; subst eo34) | ((with_reducible refine gate_builtin (b := .append) (xs := #[.tmp 75, .tmp 79]) rfl ?_); (try (refine gate_guard (by rfl) ?_; dsimp only)); at_builtin; refine Kd.R_append_rows k49 (w0 := w) w.heap.size rfl (.tmp 75) (.tmp 79) 22 49 (.agg #[(.int .i64 0), (.int .i64 0), (.int .i64 0)]) 24 rfl Try.underlying22 info49 rfl (by decide) (by omega) (.slice none 0 0) ([] : List (S49)) t112 _ _ _ (fun k_ => some k_ ≠ (.slice Ao16 t101.length co16 : Value).ownBlock ∧ some k_ ≠ (.slice Ao34 t112.length co34 : Value).ownBlock) (fun _ => False) rfl rfl ?aO ?aR (fun _ _ h => h) (fun _ h => h.elim) ?aF ?aB ?aS ?aL ?_; (case aR => repeat (first | exact (Kd.R_reads' HO114.out).2.2 | (with_reducible refine Kd.C_alloc ?_ _) | (with_reducible refine Kd.C_drewN ?_ _) | (with_reducible refine Kd.C_drew ?_))); (case aB => exact (by repeat (first | (with_reducible first | exact HB.out | apply below_alloc | apply pw_below_drewN | apply below_drew1) | exact HB.out))); (case aF => exact (fun k_ hk => ⟨Kd.fresh' (Kd.R_lt (by (with_reducible repeat (first | apply Kd.R_alloc | apply Kd.R_drewN | apply Kd.R_drew)); exact HO_7.out)) k_ hk, Kd.fresh' (Kd.R_lt (by (with_reducible repeat (first | apply Kd.R_alloc | apply Kd.R_drewN | apply Kd.R_drew)); exact HO114.out)) k_ hk⟩)); (case aO => exact ((Kd.R_nil _ _ _ _ (fun k_ => some k_ ≠ (.slice Ao16 t101.length co16 : Value).ownBlock ∧ some k_ ≠ (.slice Ao34 t112.length co34 : Value).ownBlock)))); (case aS => exact (below_size (by repeat (first | (with_reducible first | exact HB.out | apply below_alloc | apply pw_below_drewN | apply below_drew1) | exact HB.out)))); (case aL => have := LMc26.out; omega); intro v116 w33 ho hb hg hat; rw [← Ny115.out] at ho; have n0_ := Aside0.mk (Kd.R_after (Kd.R_apart_nil (by (with_reducible repeat (first | apply Kd.R_alloc | apply Kd.R_drewN | apply Kd.R_drew)); exact HO_7.out)) hg hat); have n1_ := Aside0.mk (Kd.R_after (Kd.R_apart_nil (by (with_reducible repeat (first | apply Kd.R_alloc | apply Kd.R_drewN | apply Kd.R_drew)); exact HO114.out)) hg hat); have n2_ := Aside0.mk (hb); have n3_ := Aside0.mk (ho); clear HO_7; clear HO114; clear HB; have HO_7 := n0_; have HO114 := n1_; have HB := n2_; have HO117 := n3_; clear n0_ n1_ n2_ n3_; clear ho hb hg hat) | ((with_reducible refine gate_callee (f := 28) rfl ?_); refine goesL_ (some 84) rfl rfl Try.func28 (by kernel_rfl) rfl #[.slice Ao16 t101.length co16, .int .i64 a2, .int .i64 86399] rfl (by (try simp only [List.map_toArray, List.map_cons, List.map_nil]); first | done | rfl | (simp only [List.length_drop, List.length_take]; rfl)) ?_; (with_reducible refine (tape_Window.calls _ _ t101 a2 86399 t118 _ ?side1 ?side2 A27.out).mono ?_); (case side1 => repeat (first | exact (Kd.R_reads' HO_7.out).2.2 | (with_reducible refine Kd.C_alloc ?_ _) | (with_reducible refine Kd.C_drewN ?_ _) | (with_reducible refine Kd.C_drew ?_))); (case side2 => exact (Kd.R_reads' HO_7.out).2.1); rintro e w35 ⟨v119, rfl, ho0, hb⟩; refine ⟨_, rfl, ?_⟩; have n0_ := Aside0.mk (Kd.R_elder' (by (with_reducible repeat (first | apply Kd.R_alloc | apply Kd.R_drewN | apply Kd.R_drew)); exact HO_7.out) (Kd.R_base ho0) hb); have n1_ := Aside0.mk (Kd.R_elder' (by (with_reducible repeat (first | apply Kd.R_alloc | apply Kd.R_drewN | apply Kd.R_drew)); exact HO114.out) (Kd.R_base ho0) hb); have n2_ := Aside0.mk (Kd.R_elder' (by (with_reducible repeat (first | apply Kd.R_alloc | apply Kd.R_drewN | apply Kd.R_drew)); exact HO117.out) (Kd.R_base ho0) hb); have n3_ := Aside0.mk (Kd.R_lower (Kd.R_new' (Kd.R_new' (Kd.R_new' ho0 (Kd.R_lt (by (with_reducible repeat (first | apply Kd.R_alloc | apply Kd.R_drewN | apply Kd.R_drew)); exact HO_7.out))) (Kd.R_lt (by (with_reducible repeat (first | apply Kd.R_alloc | apply Kd.R_drewN | apply Kd.R_drew)); exact HO114.out))) (Kd.R_lt (by (with_reducible repeat (first | apply Kd.R_alloc | apply Kd.R_drewN | apply Kd.R_drew)); exact HO117.out))) (below_size (by repeat (first | (with_reducible first | exact HB.out | apply below_alloc | apply pw_below_drewN | apply below_drew1) | exact HB.out)))); have n4_ := Aside0.mk (below_step (by repeat (first | (with_reducible first | exact HB.out | apply below_alloc | apply pw_below_drewN | apply below_drew1) | exact HB.out)) hb); clear HO_7; clear HO114; clear HO117; clear HB; have HO_7 := n0_; have HO114 := n1_; have HO117 := n2_; have HO120 := n3_; have HB := n4_; clear n0_ n1_ n2_ n3_ n4_; (try clear hb); (try clear hb2); (try clear hk); (try clear hi); (try clear ho0); obtain ⟨Ao37, co37, eo37⟩ := Kd.R_slice HO120.out; subst eo37) | ((with_reducible refine gate_builtin (b := .append) (xs := #[.tmp 81, .tmp 84]) rfl ?_); (try (refine gate_guard (by rfl) ?_; dsimp only)); at_builtin; refine Kd.R_append_rows k49 (w0 := w) w.heap.size rfl (.tmp 81) (.tmp 84) 22 49 (.agg #[(.int .i64 0), (.int .i64 0), (.int .i64 0)]) 24 rfl Try.underlying22 info49 rfl (by decide) (by omega) v116 y115 t118 _ _ _ (fun k_ => some k_ ≠ (.slice Ao16 t101.length co16 : Value).ownBlock ∧ some k_ ≠ (.slice Ao34 t112.length co34 : Value).ownBlock ∧ some k_ ≠ (.slice Ao37 t118.length co37 : Value).ownBlock) (fun _ => False) rfl rfl ?aO ?aR (fun _ _ h => h) (fun _ h => h.elim) ?aF ?aB ?aS ?aL ?_; (case aR => repeat (first | exact (Kd.R_reads' HO120.out).2.2 | (with_reducible refine Kd.C_alloc ?_ _) | (with_reducible refine Kd.C_drewN ?_ _) | (with_reducible refine Kd.C_drew ?_))); (case aB => exact (by repeat (first | (with_reducible first | exact HB.out | apply below_alloc | apply pw_below_drewN | apply below_drew1) | exact HB.out))); (case aF => exact (fun k_ hk => ⟨Kd.fresh' (Kd.R_lt (by (with_reducible repeat (first | apply Kd.R_alloc | apply Kd.R_drewN | apply Kd.R_drew)); exact HO_7.out)) k_ hk, Kd.fresh' (Kd.R_lt (by (with_reducible repeat (first | apply Kd.R_alloc | apply Kd.R_drewN | apply Kd.R_drew)); exact HO114.out)) k_ hk, Kd.fresh' (Kd.R_lt (by (with_reducible repeat (first | apply Kd.R_alloc | apply Kd.R_drewN | apply Kd.R_drew)); exact HO120.out)) k_ hk⟩)); (case aO => exact (by (with_reducible repeat (first | apply Kd.R_alloc | apply Kd.R_drewN | apply Kd.R_drew)); exact Kd.R_mono HO117.out (fun _ hk => ⟨hk.1.1, ⟨hk.1.2, hk.2⟩⟩))); (case aS => exact (below_size (by repeat (first | (with_reducible first | exact HB.out | apply below_alloc | apply pw_below_drewN | apply below_drew1) | exact HB.out)))); (case aL => have := LMc28.out; omega); intro v122 w36 ho hb hg hat; rw [← Ny121.out] at ho; have n0_ := Aside0.mk (Kd.R_after (ok := (fun k_ => some k_ ≠ (.slice Ao34 t112.length co34 : Value).ownBlock ∧ some k_ ≠ (.slice Ao37 t118.length co37 : Value).ownBlock)) (by (with_reducible repeat (first | apply Kd.R_alloc | apply Kd.R_drewN | apply Kd.R_drew)); exact Kd.R_mono HO_7.out (fun _ hk => ⟨⟨hk.1.1.2, hk.2⟩, hk.1.2⟩)) hg hat); have n1_ := Aside0.mk (Kd.R_after (ok := (fun k_ => some k_ ≠ (.slice Ao16 t101.length co16 : Value).ownBlock ∧ some k_ ≠ (.slice Ao37 t118.length co37 : Value).ownBlock)) (by (with_reducible repeat (first | apply Kd.R_alloc | apply Kd.R_drewN | apply Kd.R_drew)); exact Kd.R_mono HO114.out (fun _ hk => ⟨⟨hk.1.1.2, hk.2⟩, hk.1.2⟩)) hg hat); have n2_ := Aside0.mk (Kd.R_after (ok := (fun k_ => some k_ ≠ (.slice Ao16 t101.length co16 : Value).ownBlock ∧ some k_ ≠ (.slice Ao34 t112.length co34 : Value).ownBlock)) (by (with_reducible repeat (first | apply Kd.R_alloc | apply Kd.R_drewN | apply Kd.R_drew)); exact Kd.R_mono HO120.out (fun _ hk => ⟨⟨hk.1.1.2, hk.1.2⟩, hk.2⟩)) hg hat); have n3_ := Aside0.mk (hb); have n4_ := Aside0.mk (ho); clear HO_7; clear HO114; clear HO120; clear HB; clear HO117; have HO_7 := n0_; have HO114 := n1_; have HO120 := n2_; have HB := n3_; have HO123 := n4_; clear n0_ n1_ n2_ n3_ n4_; clear ho hb hg hat; obtain ⟨Ao38, co38, eo38⟩ := Kd.R_slice HO123.out; subst eo38) | ((with_reducible refine gate_callee (f := 26) rfl ?_); refine goesL_ (some 88) rfl rfl Try.func26 (by kernel_rfl) rfl #[.slice Ao38 y121.length co38, .slice Ao16 t101.length co16] rfl (by (try simp only [List.map_toArray, List.map_cons, List.map_nil]); first | done | rfl | (simp only [List.length_drop, List.length_take]; rfl)) ?_; (with_reducible refine (contangoref17_Same.calls kj14 _ _ y121 _ _ t101 true _ ?side1 ?side2 ?side3 ?side4 A29.out).mono ?_); (case side1 => repeat (first | exact (Kd.R_reads' HO123.out).2.2 | (with_reducible refine Kd.C_alloc ?_ _) | (with_reducible refine Kd.C_drewN ?_ _) | (with_reducible refine Kd.C_drew ?_))); (case side2 => exact (Kd.R_reads' HO123.out).2.1); (case side3 => repeat (first | exact (Kd.R_reads' HO_7.out).2.2 | (with_reducible refine Kd.C_alloc ?_ _) | (with_reducible refine Kd.C_drewN ?_ _) | (with_reducible refine Kd.C_drew ?_))); (case side4 => exact (Kd.R_reads' HO_7.out).2.1); rintro e w' ⟨rfl, ⟨nd, rfl⟩⟩; refine ⟨_, rfl, ?_⟩) | (go_at_call 14; (with_reducible refine (contangolaw17_goes.calls kj14  t125 _ A31.out).mono ?_); rintro e w39 ⟨rfl, hb⟩; have n0_ := Aside0.mk (Kd.R_below (by (with_reducible repeat (first | apply Kd.R_alloc | apply Kd.R_drewN | apply Kd.R_drew)); exact HO_7.out) hb); have n1_ := Aside0.mk (Kd.R_below (by (with_reducible repeat (first | apply Kd.R_alloc | apply Kd.R_drewN | apply Kd.R_drew)); exact HO114.out) hb); have n2_ := Aside0.mk (Kd.R_below (by (with_reducible repeat (first | apply Kd.R_alloc | apply Kd.R_drewN | apply Kd.R_drew)); exact HO120.out) hb); have n3_ := Aside0.mk (Kd.R_below (by (with_reducible repeat (first | apply Kd.R_alloc | apply Kd.R_drewN | apply Kd.R_drew)); exact HO123.out) hb); have n4_ := Aside0.mk (below_step (by repeat (first | (with_reducible first | exact HB.out | apply below_alloc | apply pw_below_drewN | apply below_drew1) | exact HB.out)) hb); clear HO_7; clear HO114; clear HO120; clear HO123; clear HB; have HO_7 := n0_; have HO114 := n1_; have HO120 := n2_; have HO123 := n3_; have HB := n4_; clear n0_ n1_ n2_ n3_ n4_; (try clear hb); (try clear hb2); (try clear hk); (try clear hi)))
                    go_ret
                    exact ⟨by first | rfl | (simp [errW_none, errW_some] <;> rfl) | (simp [*, errW_none, errW_some] <;> rfl), by repeat (first | (with_reducible first | exact HB.out | apply below_alloc | apply pw_below_drewN | apply below_drew1) | exact HB.out)⟩
                  · replace c30 := Bool.eq_false_iff.mpr c30
                    subst c30
                    have H1 : (none) = some r := by rw [if_neg (show ¬ (false = true) by decide)] at H; exact H
                    clear H
                    have H := H1
                    clear H1
                    exact absurd H (by simp)
                · rw [if_neg c28] at H
                  exact absurd H (by simp)
              · rw [if_neg c26] at H
                exact absurd H (by simp)
end Go.Proofs.Ytocndpddghefhaa.X
end
section
namespace Go.Proofs.Ytocndpddghefhaa.Opn
open Go.ChangeShapes Go.WideShapes Go.Proofs.YtocndpddghefhaaW.PrintWords
set_option linter.unusedVariables false
set_option linter.unusedSimpArgs false
structure Opens (P : Program) (t : TypeId) {α : Type} (d : Kd α) (Ok : α → Prop) : Prop where
  sz : d.sz = P.cellsOf t
  opens : ∀ {H : Type} {enc : TypeId × Value → H} {w : World} {base : Nat} {spare : Nat → Bool} {held : Bool} {fuel : Nat} {cs : List Value} {x : DataW H × List MemPlace},
    DataW.trod enc P w base spare held fuel t cs = some x → (∀ n ∈ x.1.weights P t, n ≤ reachBytes) → ∃ v, d.K w v cs ∧ Ok v
theorem opens_int {P : Program} {t : TypeId} {k : IntKind} (ht : P.underlying t = some (.int k)) (hc : P.cellsOf t = 1) : Opens P t (Kd.int k) (fun n => (Lit.int k n).wf = true) := by
  refine ⟨hc.symm, fun h _ => ?_⟩
  obtain ⟨n, rfl, _, hw⟩ := DataW.trod_int ht h
  exact ⟨n, rfl, hw⟩
theorem weights_all {H : Type} {P : Program} {e : TypeId} : ∀ {ds : List (DataW H)} {j : Nat} {d : DataW H}, ds[j]? = some d → ∀ n ∈ d.weights P e, n ∈ DataW.weightsAll P e ds
  | d0 :: ds, 0, d, hd, n, hn => by
    simp only [List.getElem?_cons_zero, Option.some.injEq] at hd
    subst hd
    simp only [DataW.weightsAll, List.mem_append]
    exact Or.inl hn
  | d0 :: ds, j + 1, d, hd, n, hn => by
    simp only [List.getElem?_cons_succ] at hd
    simp only [DataW.weightsAll, List.mem_append]
    exact Or.inr (weights_all hd n hn)
  | [], _, _, hd, _, _ => by simp at hd
theorem list_of {α : Type} {n : Nat} {p : Nat → α → Prop} (h : ∀ i, i < n → ∃ x, p i x) : ∃ l : List α, l.length = n ∧ ∀ i x, l[i]? = some x → p i x := by
  induction n with
  | zero => exact ⟨[], rfl, fun i x hx => by simp at hx⟩
  | succ n ih =>
    obtain ⟨l, hl, hp⟩ := ih (fun i hi => h i (by omega))
    obtain ⟨x, hx⟩ := h n (by omega)
    refine ⟨l ++ [x], by simp [hl], fun i y hy => ?_⟩
    by_cases hi : i < l.length
    · rw [List.getElem?_append_left hi] at hy
      exact hp i y hy
    · rw [List.getElem?_append_right (by omega)] at hy
      have : i - l.length = 0 := by
        cases hk : i - l.length with
        | zero => rfl
        | succ m => rw [hk] at hy; simp at hy
      rw [this] at hy
      simp at hy
      subst hy
      have : i = n := by omega
      subst this
      exact hx
theorem opens_slice {P : Program} {t e : TypeId} {α : Type} {d : Kd α} {Ok : α → Prop} (h : Opens P e d Ok) (ht : P.underlying t = some (.slice e)) (hc : P.cellsOf t = 1) {B : Nat} (hB : P.bytesOf e = B) :
    Opens P t (Kd.slice e d) (fun l => l.length ≤ maxLen ∧ l.length * B ≤ 140737488351232 ∧ ∀ x ∈ l, Ok x) := by
  subst hB
  refine ⟨hc.symm, fun {H enc w base spare held fuel cs x} hx hw => ?_⟩
  rcases DataW.trod_slice ht hx with ⟨rfl, rfl⟩ | ⟨a, len, cap, elems, rest, n, _, rfl, rfl, hb, hl, hm, hlen, hel, hsp, hns⟩
  · exact ⟨[], ⟨none, 0, rfl, Nat.le_refl _, Kd.C_nil _ _⟩, by simp⟩
  simp only [DataW.weights, ht] at hw
  have hw1 : (elems.length + rest.length) * P.bytesOf e ≤ reachBytes := by
    have := hw ((elems.length + rest.length) * P.bytesOf e) (by simp)
    exact this
  have hone : ∀ i, i < len → ∃ v : α, ∃ c, w.cells? base (a.add (i * P.cellsOf e)) (P.cellsOf e) = some c ∧ d.K w v c ∧ Ok v := by
    intro i hi
    have h1 := hel i hi
    rw [List.getElem?_eq_getElem (by omega)] at h1
    obtain ⟨c, hc1, hc2⟩ := Option.bind_eq_some_iff.1 h1
    obtain ⟨v, hv, hok⟩ := h.opens hc2 (fun n hn => hw n (by
      simp only [List.mem_cons, List.mem_append]
      right; left
      refine weights_all (j := i) ?_ n hn
      rw [List.getElem?_map, List.getElem?_eq_getElem (by omega)]
      rfl))
    exact ⟨v, c, hc1, hv, hok⟩
  obtain ⟨l, hl1, hl2⟩ := list_of hone
  subst hl1
  refine ⟨l, ⟨some a, cap, rfl, hl, rfl, ?_, fun _ => ⟨a, rfl, fun j p hj => ?_⟩⟩, ?_, ?_, ?_⟩
  · unfold maxLen at hm; omega
  · obtain ⟨c, hc1, hc2, _⟩ := hl2 j p hj
    obtain ⟨_, hlen2, hcell⟩ := World.cells?_some hc1
    refine ⟨c, by rw [h.sz]; exact hlen2, hc2, fun i u hu => ?_⟩
    have hi : i < P.cellsOf e := by
      have := (List.getElem?_eq_some_iff.1 hu).1
      omega
    have := hcell i hi
    rw [hu, ← Deep.add_add, h.sz] at *
    exact this
  · exact Nat.le_trans hl hm
  · have h2 : l.length * P.bytesOf e ≤ (elems.length + rest.length) * P.bytesOf e := Nat.mul_le_mul_right _ (by omega)
    exact Nat.le_trans h2 hw1
  · intro x hx
    obtain ⟨j, hj⟩ := List.getElem?_of_mem hx
    obtain ⟨c, _, _, ho⟩ := hl2 j x hj
    exact ho
structure OpensF (P : Program) (fs : List Field) (off : Nat) {α : Type} (d : Kd α) (Ok : α → Prop) : Prop where
  opens : ∀ {H : Type} {enc : TypeId × Value → H} {w : World} {base : Nat} {spare : Nat → Bool} {held : Bool} {n : Nat} {cs : List Value} {xs : List (DataW H × List MemPlace)},
    xs.length = fs.length → (∀ (i : Nat) (f : Field), fs[i]? = some f → DataW.trod enc P w base spare held n f.type ((cs.drop f.offset).take (P.cellsOf f.type)) = xs[i]?) →
    (∀ m ∈ DataW.weightsEach P (fs.map (·.type)) (xs.map (·.1)), m ≤ reachBytes) → ∃ v, d.K w v ((cs.drop off).take d.sz) ∧ Ok v
theorem opensF_one {P : Program} {f : Field} {off : Nat} {α : Type} {d : Kd α} {Ok : α → Prop} (h : Opens P f.type d Ok) (ho : f.offset = off) : OpensF P [f] off d Ok := by
  refine ⟨fun {H enc w base spare held n cs xs} hl hx hw => ?_⟩
  match xs, hl with
  | [x], _ =>
    have h1 := hx 0 f rfl
    obtain ⟨v, hv, hok⟩ := h.opens h1 (fun n hn => hw n (by simpa [DataW.weightsEach] using hn))
    refine ⟨v, ?_, hok⟩
    rw [h.sz, ← ho]
    exact hv
theorem opensF_cons {P : Program} {f : Field} {fs : List Field} {off : Nat} {α β : Type} {d : Kd α} {d' : Kd β} {Ok : α → Prop} {Ok' : β → Prop} (h : Opens P f.type d Ok) (ho : f.offset = off) (h' : OpensF P fs (off + d.sz) d' Ok') :
    OpensF P (f :: fs) off (Kd.pair d d') (fun p => Ok p.1 ∧ Ok' p.2) := by
  refine ⟨fun {H enc w base spare held n cs xs} hl hx hw => ?_⟩
  match xs, hl with
  | x :: xs, hl =>
    have h1 := hx 0 f rfl
    obtain ⟨v, hv, hok⟩ := h.opens h1 (fun n hn => hw n (by
      simp only [List.map_cons, DataW.weightsEach, List.mem_append]; exact Or.inl hn))
    obtain ⟨v', hv', hok'⟩ := h'.opens (cs := cs) (xs := xs) (by simpa using hl) (fun i g hg => by
      have := hx (i + 1) g (by simpa using hg)
      simpa using this) (fun m hm => hw m (by simp only [List.map_cons, DataW.weightsEach, List.mem_append]; exact Or.inr hm))
    refine ⟨(v, v'), ⟨(cs.drop off).take d.sz, (cs.drop (off + d.sz)).take d'.sz, ?_, ?_, hv'⟩, hok, hok'⟩
    · show (cs.drop off).take (d.sz + d'.sz) = _
      rw [List.take_add, List.drop_drop]
    · rw [h.sz, ← ho]; exact hv
theorem opens_struct {P : Program} {t : TypeId} {fs : Array Field} {α β : Type} {d : Kd α} {Ok : α → Prop} (h : OpensF P fs.toList 0 d Ok) (ht : P.underlying t = some (.struct fs)) (hc : d.sz = P.cellsOf t) (f : β → α) (mk : α → β) (hf : ∀ a, f (mk a) = a) :
    Opens P t (Kd.iso d f) (fun b => Ok (f b)) := by
  refine ⟨hc, fun {H enc w base spare held fuel cs x} hx hw => ?_⟩
  obtain ⟨xs, n, _, rfl, hlen, hsz, hall⟩ := DataW.trod_struct ht hx
  simp only [DataW.weights, ht] at hw
  obtain ⟨v, hv, hok⟩ := h.opens (cs := cs) (xs := xs) (by simpa using hsz) (fun i f hf => hall i f (by simpa using hf)) hw
  refine ⟨mk v, ?_, by rw [hf]; exact hok⟩
  show d.K w (f (mk v)) cs
  rw [hf]
  rw [List.drop_zero, hc, ← hlen, List.take_length] at hv
  exact hv
theorem opens_imp {P : Program} {t : TypeId} {α : Type} {d : Kd α} {Ok Ok' : α → Prop} (h : Opens P t d Ok) (hi : ∀ v, Ok v → Ok' v) : Opens P t d Ok' :=
  ⟨h.sz, fun hx hw => let ⟨v, hv, ho⟩ := h.opens hx hw; ⟨v, hv, hi v ho⟩⟩
end Go.Proofs.Ytocndpddghefhaa.Opn
end
section
namespace Go.Proofs.Ytocndpddghefhaa.X
open Go.RowKit Go.Proofs.YtocndpddghefhaaW.PrintWords Go.Proofs.YtocndpddghefhaaW.PrintLast Go.Proofs.YtocndpddghefhaaW.PrintMore
attribute [local go_sem] max2_int min2_int max_two min_two max_three min_three max_four min_four
set_option linter.unusedVariables false
set_option linter.unusedSimpArgs false
def ok49 (v : S49) : Prop := (Lit.int .i64 v.f0).wf = true ∧ ((Lit.int .i64 v.f1).wf = true ∧ ((Lit.int .i64 v.f2).wf = true))
theorem opens49 : Opn.Opens Try.prog 49 k49 ok49 := by
  have hu := Try.underlying49
  refine Opn.opens_imp (Opn.opens_struct (Ok := fun (p : Int × (Int × (Int))) => (Lit.int .i64 p.1).wf = true ∧ ((Lit.int .i64 p.2.1).wf = true ∧ ((Lit.int .i64 p.2.2).wf = true))) ?hF hu (by kernel_rfl) (fun x : S49 => (x.f0, x.f1, x.f2)) (fun a => ⟨a.1, a.2.1, a.2.2⟩) (fun _ => rfl)) ?hI
  case hF =>
    refine Opn.opensF_cons (Ok := fun (p : Int) => (Lit.int .i64 p).wf = true) (Ok' := fun (p : Int × (Int)) => (Lit.int .i64 p.1).wf = true ∧ ((Lit.int .i64 p.2).wf = true)) (h := ?_) (ho := ?_) (h' := ?_)
    · exact Opn.opens_int Try.underlying3 (by kernel_rfl)
    · rfl
    · skip
      refine Opn.opensF_cons (Ok := fun (p : Int) => (Lit.int .i64 p).wf = true) (Ok' := fun (p : Int) => (Lit.int .i64 p).wf = true) (h := ?_) (ho := ?_) (h' := ?_)
      · exact Opn.opens_int Try.underlying3 (by kernel_rfl)
      · rfl
      · skip
        refine Opn.opensF_one (Ok := fun (p : Int) => (Lit.int .i64 p).wf = true) (h := ?_) (ho := ?_)
        · exact Opn.opens_int Try.underlying3 (by kernel_rfl)
        · rfl
  case hI => exact fun v h => h
end Go.Proofs.Ytocndpddghefhaa.X
end
section
namespace Go.Proofs.Ytocndpddghefhaa.P
open Go.RowKit Go.Proofs.YtocndpddghefhaaW.PrintWords Go.Proofs.YtocndpddghefhaaW.PrintMore Go.Proofs.Ytocndpddghefhaa.X
theorem Ev_succ {α : Type} {g : Nat → Option α} {r : α} (h : Ev (fun k => g (k + 1)) r) : Ev g r := Ev.step (fun _ => rfl) h
theorem Ev_all {α : Type} {g : Nat → Option α} {r : α} (h : ∀ k, g k = some r) : Ev g r := ⟨0, fun k _ => h k⟩
theorem Ev_bind {α β : Type} {g : Nat → Option α} {f : Nat → α → Option β} {a : α} {r : β} (h : Ev g a) (k : Ev (fun n => f n a) r) : Ev (fun n => (g n).bind (f n)) r := Ev.bind h k
theorem Ev_id {α : Type} {g : Nat → Option α} {r : α} (h : Ev g r) : Ev (fun n => (g n).bind fun x => some x) r := Ev.bind h (Ev.now _)
theorem w_id {x : Int} (h1 : -9223372036854775808 ≤ x) (h2 : x ≤ 9223372036854775807) : wrap64 x = x := by unfold wrap64; omega
theorem w_succ {i n : Nat} (h : i < n) (hn : n ≤ 9223372036854775807) : wrap64 ((i : Int) + 1) = ((i + 1 : Nat) : Int) := by rw [w_id (by omega) (by omega)]; omega
end Go.Proofs.Ytocndpddghefhaa.P
end
section
namespace Go.Proofs.Ytocndpddghefhaa.P
set_option linter.unusedVariables false
set_option linter.unusedSimpArgs false
open Go.RowKit Go.Proofs.YtocndpddghefhaaW.PrintWords Go.Proofs.YtocndpddghefhaaW.PrintMore Go.Proofs.Ytocndpddghefhaa.X
abbrev Tick := S49
def tkGo : Int → List Tick → Int
  | _, [] => 0
  | at_, t :: r => if tickErr at_ t = 0 then tkGo t.f0 r else tickErr at_ t
def tkCheck (l : List Tick) : Int := if 1024 < l.length then 8 else tkGo 0 l
theorem goAll_check : ∀ (l : List Tick) (a : Int), (goAll tickStep l (a, 0)).2 = tkGo a l
  | [], a => rfl
  | t :: r, a => by
    rw [goAll_step, tkGo]
    have e1 : (tickStep t (a, 0)).2 = (tickErr a t == 0) := rfl
    have e2 : (tickStep t (a, 0)).1 = (t.f0, tickErr a t) := rfl
    rw [e1, e2]
    by_cases c : tickErr a t = 0
    · rw [if_pos c, if_pos (beq_iff_eq.2 c), c]
      exact goAll_check r t.f0
    · rw [if_neg c, if_neg (by simpa using c)]
theorem tkCheck_f (l : List Tick) : tape_Check.f l = some (tkCheck l) := by
  unfold tape_Check.f tkCheck
  by_cases c : 1024 < l.length
  · rw [if_pos c, if_pos (show (1024 : Int) < (l.length : Int) by omega)]
  · rw [if_neg c, if_neg (show ¬ (1024 : Int) < (l.length : Int) by omega), goAll_check]
def TkOk (t : Tick) : Prop := 0 ≤ t.f0 ∧ t.f0 ≤ 86399 ∧ 1 ≤ t.f1 ∧ t.f1 ≤ 1048576 ∧ -16777216 ≤ t.f2 ∧ t.f2 ≤ 16777216
theorem tickErr_zero {a : Int} {t : Tick} (h : tickErr a t = 0) : a ≤ t.f0 ∧ t.f0 ≤ 86399 ∧ 1 ≤ t.f1 ∧ t.f1 ≤ 1048576 ∧ -16777216 ≤ t.f2 ∧ t.f2 ≤ 16777216 := by
  unfold tickErr at h
  by_cases c1 : t.f0 < a ∨ 86399 < t.f0
  · rw [if_pos c1] at h; omega
  · rw [if_neg c1] at h
    by_cases c2 : t.f1 < 1 ∨ 1048576 < t.f1
    · rw [if_pos c2] at h; omega
    · rw [if_neg c2] at h
      by_cases c3 : t.f2 < -16777216 ∨ 16777216 < t.f2
      · rw [if_pos c3] at h; omega
      · omega
theorem tickErr_ok {a : Int} {t : Tick} (h : a ≤ t.f0) (h2 : TkOk t) : tickErr a t = 0 := by
  unfold TkOk at h2
  unfold tickErr
  rw [if_neg (by omega), if_neg (by omega), if_neg (by omega)]
theorem tkGo_zero : ∀ (l : List Tick) (a : Int), 0 ≤ a → (tkGo a l = 0 ↔ (∀ t ∈ l, TkOk t) ∧ (∀ t ∈ l, a ≤ t.f0) ∧ l.Pairwise (fun x y => x.f0 ≤ y.f0))
  | [], a, _ => by simp [tkGo]
  | t :: r, a, ha => by
    rw [tkGo]
    constructor
    · intro h
      by_cases c : tickErr a t = 0
      · rw [if_pos c] at h
        have hz := tickErr_zero c
        obtain ⟨h1, h2, h3⟩ := (tkGo_zero r t.f0 (by omega)).1 h
        refine ⟨fun x hx => ?_, fun x hx => ?_, List.pairwise_cons.2 ⟨h2, h3⟩⟩
        · rcases List.mem_cons.1 hx with e | e
          · rw [e]; unfold TkOk; omega
          · exact h1 x e
        · rcases List.mem_cons.1 hx with e | e
          · rw [e]; exact hz.1
          · have := h2 x e; omega
      · rw [if_neg c] at h; exact absurd h c
    · rintro ⟨h1, h2, h3⟩
      obtain ⟨h4, h5⟩ := List.pairwise_cons.1 h3
      have ht := h1 t (by simp)
      rw [if_pos (tickErr_ok (h2 t (by simp)) ht)]
      exact (tkGo_zero r t.f0 ht.1).2 ⟨fun x hx => h1 x (by simp [hx]), h4, h5⟩
theorem tkCheck_zero (l : List Tick) : tkCheck l = 0 ↔ l.length ≤ 1024 ∧ (∀ t ∈ l, TkOk t) ∧ l.Pairwise (fun x y => x.f0 ≤ y.f0) := by
  unfold tkCheck
  by_cases c : 1024 < l.length
  · rw [if_pos c]; exact ⟨fun h => by omega, fun h => by omega⟩
  · rw [if_neg c, tkGo_zero l 0 (Int.le_refl _)]
    exact ⟨fun h => ⟨by omega, h.1, h.2.2⟩, fun h => ⟨h.2.1, fun t ht => (h.2.1 t ht).1, h.2.2⟩⟩
def qtyS : List Tick → Int
  | [] => 0
  | t :: r => t.f1 + qtyS r
theorem qtyS_rng : ∀ (l : List Tick), (∀ t ∈ l, TkOk t) → (l.length : Int) ≤ qtyS l ∧ qtyS l ≤ 1048576 * (l.length : Int)
  | [], _ => by simp [qtyS]
  | t :: r, h => by
    have h1 := h t (by simp)
    unfold TkOk at h1
    have h2 := qtyS_rng r fun x hx => h x (by simp [hx])
    simp only [qtyS, List.length_cons]; omega
theorem vol_go : ∀ (l : List Tick) (s : Int), (∀ t ∈ l, TkOk t) → 0 ≤ s → s + 1048576 * (l.length : Int) ≤ 4611686018427387904 → goAll volStep l s = s + qtyS l
  | [], s, _, _, _ => by simp [goAll, qtyS]
  | t :: r, s, h, h0, h1 => by
    have ht := h t (by simp)
    unfold TkOk at ht
    rw [goAll_step]
    have e1 : (volStep t s).2 = true := rfl
    have e2 : (volStep t s).1 = wrap64 (s + t.f1) := rfl
    simp only [List.length_cons] at h1
    rw [e1, e2, if_pos rfl, w_id (by omega) (by omega), vol_go r _ (fun x hx => h x (by simp [hx])) (by omega) (by omega)]
    simp only [qtyS]; omega
def tkVolume (l : List Tick) : Int × Int := if tkCheck l = 0 then (qtyS l, 0) else (0, tkCheck l)
theorem tkVolume_f (l : List Tick) : tape_Volume.f l = some (tkVolume l) := by
  unfold tape_Volume.f tkVolume
  rw [tkCheck_f]
  simp only [Option.bind_some]
  by_cases c : tkCheck l = 0
  · obtain ⟨h1, h2, h3⟩ := (tkCheck_zero l).1 c
    rw [if_pos c, if_pos c, vol_go l 0 h2 (Int.le_refl _) (by omega), Int.zero_add]
  · rw [if_neg c, if_neg c]
end Go.Proofs.Ytocndpddghefhaa.P
end
section
namespace Go.Proofs.Ytocndpddghefhaa.P
set_option linter.unusedVariables false
set_option linter.unusedSimpArgs false
open Go.RowKit Go.Proofs.YtocndpddghefhaaW.PrintWords Go.Proofs.YtocndpddghefhaaW.PrintMore Go.Proofs.Ytocndpddghefhaa.X
def tkey (t : Tick) : Int := t.f0
def lowT (t : Int) : List Tick → List Tick
  | [] => []
  | b :: bs => if b.f0 < t then b :: lowT t bs else []
def hiT (t : Int) : List Tick → List Tick
  | [] => []
  | b :: bs => if b.f0 < t then hiT t bs else b :: bs
theorem low_hi (t : Int) : ∀ l : List Tick, lowT t l ++ hiT t l = l
  | [] => rfl
  | b :: bs => by
    by_cases c : b.f0 < t
    · simp only [lowT, hiT, if_pos c, List.cons_append, low_hi t bs]
    · simp only [lowT, hiT, if_neg c, List.nil_append]
theorem low_lt (t : Int) : ∀ (l : List Tick), ∀ b ∈ lowT t l, b.f0 < t
  | [], b, h => by simp [lowT] at h
  | x :: l, b, h => by
    by_cases c : x.f0 < t
    · simp only [lowT, if_pos c] at h
      rcases List.mem_cons.1 h with e | e
      · rw [e]; exact c
      · exact low_lt t l b e
    · simp only [lowT, if_neg c] at h; simp at h
theorem hi_ge (t : Int) : ∀ (l : List Tick), l.Pairwise (fun x y => x.f0 ≤ y.f0) → ∀ b ∈ hiT t l, t ≤ b.f0
  | [], _, b, h => by simp [hiT] at h
  | x :: l, hs, b, h => by
    obtain ⟨h1, h2⟩ := List.pairwise_cons.1 hs
    by_cases c : x.f0 < t
    · simp only [hiT, if_pos c] at h
      exact hi_ge t l h2 b h
    · simp only [hiT, if_neg c] at h
      rcases List.mem_cons.1 h with e | e
      · rw [e]; omega
      · have := h1 b e; omega
def mrg : List Tick → List Tick → List Tick
  | [], bs => bs
  | a :: us, bs => lowT a.f0 bs ++ a :: mrg us (hiT a.f0 bs)
def Asc (l : List Tick) : Prop := l.Pairwise (fun x y => x.f0 ≤ y.f0)
theorem asc_split {l : List Tick} (t : Int) (h : Asc l) : Asc (lowT t l) ∧ Asc (hiT t l) := by
  unfold Asc at h
  rw [← low_hi t l] at h
  exact ⟨(List.pairwise_append.1 h).1, (List.pairwise_append.1 h).2.1⟩
theorem mrg_sh : ∀ (us bs : List Tick), Asc us → Srt.Sh tkey (us ++ bs) (mrg us bs)
  | [], bs, _ => Srt.Sh.refl _
  | a :: us, bs, ha => by
    obtain ⟨h1, h2⟩ := List.pairwise_cons.1 ha
    have ih := mrg_sh us (hiT a.f0 bs) h2
    have s1 : Srt.Sh tkey ((a :: us) ++ bs) (lowT a.f0 bs ++ ((a :: us) ++ hiT a.f0 bs)) := by
      have := (Srt.Sh.swap (key := tkey) (U := a :: us) (V := lowT a.f0 bs) (fun x hx y hy => by
        have h3 := low_lt a.f0 bs y hy
        unfold tkey
        rcases List.mem_cons.1 hx with e | e
        · rw [e]; omega
        · have := h1 x e; omega)).append (Srt.Sh.refl (key := tkey) (hiT a.f0 bs))
      rw [List.append_assoc, low_hi, List.append_assoc] at this
      exact this
    refine s1.trans ?_
    have := (Srt.Sh.refl (key := tkey) (lowT a.f0 bs)).append ((Srt.Sh.refl (key := tkey) [a]).append ih)
    simpa [mrg] using this
theorem mrg_asc : ∀ (us bs : List Tick), Asc us → Asc bs → Asc (mrg us bs)
  | [], bs, _, hb => hb
  | a :: us, bs, ha, hb => by
    obtain ⟨h1, h2⟩ := List.pairwise_cons.1 ha
    obtain ⟨b1, b2⟩ := asc_split a.f0 hb
    have ih := mrg_asc us (hiT a.f0 bs) h2 b2
    have hm : ∀ x ∈ mrg us (hiT a.f0 bs), a.f0 ≤ x.f0 := fun x hx => by
      have := (mrg_sh us (hiT a.f0 bs) h2).mem.1 hx
      rcases List.mem_append.1 this with e | e
      · exact h1 x e
      · exact hi_ge a.f0 bs hb x e
    refine List.pairwise_append.2 ⟨b1, List.pairwise_cons.2 ⟨hm, ih⟩, fun x hx y hy => ?_⟩
    have h3 := low_lt a.f0 bs x hx
    rcases List.mem_cons.1 hy with e | e
    · rw [e]; omega
    · have := hm y e; omega
theorem stab_mrg (us bs : List Tick) (ha : Asc us) (hb : Asc bs) : Srt.stabF z49 (Srt.klt (fun t : Tick => t.f0)) (us ++ bs) = mrg us bs := by
  have e : (fun t : Tick => t.f0) = tkey := rfl
  rw [e]
  exact Srt.stabF_eq (key := tkey) _ _ _ (mrg_asc us bs ha hb) (mrg_sh us bs ha)
def merge (l0 l1 : List Tick) : List Tick × Int := if tkCheck l0 ≠ 0 then ([], tkCheck l0) else if tkCheck l1 ≠ 0 then ([], tkCheck l1) else if 1024 < l0.length + l1.length then ([], 8) else (mrg l0 l1, 0)
theorem merge_f (l0 l1 : List Tick) : tape_Merge.f l0 l1 = some (merge l0 l1) := by
  unfold tape_Merge.f merge
  rw [tkCheck_f, tkCheck_f]
  simp only [Option.bind_some]
  by_cases c0 : tkCheck l0 ≠ 0
  · rw [if_pos c0, if_pos c0]
  rw [if_neg c0, if_neg c0]
  by_cases c1 : tkCheck l1 ≠ 0
  · rw [if_pos c1, if_pos c1]
  rw [if_neg c1, if_neg c1]
  by_cases c2 : 1024 < l0.length + l1.length
  · rw [if_pos c2, if_pos c2]
  rw [if_neg c2, if_neg c2, stab_mrg l0 l1 ((tkCheck_zero l0).1 (Decidable.not_not.1 c0)).2.2 ((tkCheck_zero l1).1 (Decidable.not_not.1 c1)).2.2]
theorem mrg_len (l0 l1 : List Tick) (h : Asc l0) : (mrg l0 l1).length = l0.length + l1.length := by
  have := (mrg_sh l0 l1 h).length
  rw [List.length_append] at this
  exact this.symm
theorem same17 (a : List Tick) (ha : a.length ≤ 4611686018427387904) : ∀ (d i : Nat), i + d = a.length → Ev (fun k => contangoref17_Same.l0 k a a i) true
  | 0, i, hd => by
    refine Ev_succ ?_
    simp only [contangoref17_Same.l0, if_neg (show ¬ ((i : Int) < (a.length : Int)) by omega)]
    exact Ev.now _
  | d + 1, i, hd => by
    have hi : i < a.length := by omega
    refine Ev_succ ?_
    simp only [contangoref17_Same.l0, if_pos (show (i : Int) < (a.length : Int) by omega), if_pos (show 0 ≤ (i : Int) by omega), beq_self_eq_true, Bool.not_true, Bool.or_self, Bool.false_eq_true, if_false, w_succ hi (by omega)]
    exact same17 a ha d (i + 1) (by omega)
theorem same17_f (a : List Tick) (ha : a.length ≤ 4611686018427387904) : Ev (fun k => contangoref17_Same.f k a a) true := by
  unfold contangoref17_Same.f
  simp only [if_true]
  exact same17 a ha a.length 0 (by omega)
theorem qtyS_append : ∀ (a b : List Tick), qtyS (a ++ b) = qtyS a + qtyS b
  | [], b => by simp [qtyS]
  | x :: a, b => by simp only [List.cons_append, qtyS, qtyS_append a b]; omega
theorem qtyS_perm {a b : List Tick} (h : a.Perm b) : qtyS a = qtyS b := by
  induction h with
  | nil => rfl
  | cons x _ ih => simp only [qtyS, ih]
  | swap x y l => simp only [qtyS]; omega
  | trans _ _ ih1 ih2 => exact ih1.trans ih2
theorem win_go (a b : Int) : ∀ (l acc : List Tick), goAll (winStep a b) l acc = acc ++ l.filter (fun t => decide (a ≤ t.f0 ∧ t.f0 ≤ b))
  | [], acc => by simp [goAll]
  | t :: l, acc => by
    rw [goAll_step]
    have e1 : (winStep a b t acc).2 = true := rfl
    rw [e1, if_pos rfl, win_go a b l]
    by_cases c : a ≤ t.f0 ∧ t.f0 ≤ b
    · simp only [winStep, if_pos c]
      rw [List.filter_cons_of_pos (by simpa using c)]
      simp
    · simp only [winStep, if_neg c]
      rw [List.filter_cons_of_neg (by simpa using c)]
theorem win_both (m : Int) (hm : 0 ≤ m ∧ m ≤ 86400) : ∀ (l : List Tick), Asc l → (∀ t ∈ l, 0 ≤ t.f0 ∧ t.f0 ≤ 86399) → l.filter (fun t => decide (0 ≤ t.f0 ∧ t.f0 ≤ m - 1)) ++ l.filter (fun t => decide (m ≤ t.f0 ∧ t.f0 ≤ 86399)) = l
  | [], _, _ => rfl
  | t :: l, hs, hr => by
    obtain ⟨h1, h2⟩ := List.pairwise_cons.1 hs
    have ht := hr t (by simp)
    have ih := win_both m hm l h2 fun x hx => hr x (by simp [hx])
    by_cases c : t.f0 < m
    · rw [List.filter_cons_of_pos (by simp; omega), List.filter_cons_of_neg (by simp; omega), List.cons_append, ih]
    · have e : l.filter (fun t => decide (0 ≤ t.f0 ∧ t.f0 ≤ m - 1)) = [] := List.filter_eq_nil_iff.2 fun x hx => by
        have := h1 x hx
        simp; omega
      rw [e, List.nil_append] at ih
      rw [List.filter_cons_of_neg (by simp; omega), List.filter_cons_of_pos (by simp; omega), e, List.nil_append, ih]
end Go.Proofs.Ytocndpddghefhaa.P
end
section
namespace Go.Proofs.Ytocndpddghefhaa.P
open Go.RowKit Go.Proofs.YtocndpddghefhaaW.PrintWords Go.Proofs.YtocndpddghefhaaW.PrintMore Go.Proofs.Ytocndpddghefhaa.X
set_option maxRecDepth 100000 in
theorem goes17 : Ev (fun k => contangolaw17_goes.f k) true := Ev.of (k := 70) (contangolaw17_goes.mono) (by decide +kernel)
end Go.Proofs.Ytocndpddghefhaa.P
end
section
namespace Go.Proofs.Ytocndpddghefhaa.Pure
set_option linter.unusedVariables false
set_option linter.unusedSimpArgs false
open Go.RowKit Go.Proofs.YtocndpddghefhaaW.PrintWords Go.Proofs.YtocndpddghefhaaW.PrintMore Go.Proofs.Ytocndpddghefhaa.X Go.Proofs.Ytocndpddghefhaa.P
theorem TapeKeeps : ∀ (l0 : List (S49)) (l1 : List (S49)) (a2 : Int), (l0.length ≤ maxLen ∧ l0.length * 24 ≤ 140737488351232 ∧ ∀ x ∈ l0, ok49 x) → (l1.length ≤ maxLen ∧ l1.length * 24 ≤ 140737488351232 ∧ ∀ x ∈ l1, ok49 x) → (Lit.int .i64 a2).wf = true → ∃ k, X.contangolaw17_TapeKeeps.f k l0 l1 a2 = some true := by
  intro l0 l1 m _ _ _
  apply Ev.rounds
  have jt : ∀ l, Ev (fun k => contangolaw17_TapeKeeps.j0 k l0 l1 m l true) true := fun l => by
    refine Ev_succ ?_
    simp only [contangolaw17_TapeKeeps.j0, if_true]
    exact Ev_id goes17
  unfold contangolaw17_TapeKeeps.f
  refine Ev_bind (Ev_all fun _ => merge_f l0 l1) ?_
  by_cases e0 : (merge l0 l1).2 = 0
  case neg => simp only [if_neg e0]; exact jt _
  simp only [if_pos e0]
  by_cases c1 : m < 0
  · simp only [if_pos c1]; exact jt _
  by_cases c2 : m > 86400
  · simp only [if_neg c1, decide_eq_true c2]; exact jt _
  simp only [if_neg c1, decide_eq_false c2]

  unfold merge at e0 ⊢
  by_cases d0 : tkCheck l0 ≠ 0
  · rw [if_pos d0] at e0; exact absurd e0 d0
  by_cases d1 : tkCheck l1 ≠ 0
  · rw [if_neg d0, if_pos d1] at e0; exact absurd e0 d1
  by_cases d2 : 1024 < l0.length + l1.length
  · rw [if_neg d0, if_neg d1, if_pos d2] at e0; simp at e0
  simp only [if_neg d0, if_neg d1, if_neg d2]
  have z0 := Decidable.not_not.1 d0
  have z1 := Decidable.not_not.1 d1
  obtain ⟨q0, o0, s0⟩ := (tkCheck_zero l0).1 z0
  obtain ⟨q1, o1, s1⟩ := (tkCheck_zero l1).1 z1
  have hsh := mrg_sh l0 l1 s0
  have hlen := mrg_len l0 l1 s0
  have hok : ∀ t ∈ mrg l0 l1, TkOk t := fun t ht => by
    rcases List.mem_append.1 (hsh.mem.1 ht) with h | h
    · exact o0 t h
    · exact o1 t h
  have hasc := mrg_asc l0 l1 s0 s1
  have zm : tkCheck (mrg l0 l1) = 0 := (tkCheck_zero _).2 ⟨by omega, hok, hasc⟩
  have hq : qtyS (mrg l0 l1) = qtyS l0 + qtyS l1 := by rw [← qtyS_perm hsh.1, qtyS_append]
  have r0 := qtyS_rng l0 o0
  have r1 := qtyS_rng l1 o1
  refine Ev_succ ?_
  simp only [contangolaw17_TapeKeeps.j0, Bool.false_eq_true, if_false, tkVolume_f]
  unfold tkVolume
  rw [if_pos z0, if_pos z1, if_pos zm]
  simp only [Option.bind_some, if_true]
  rw [w_id (show -9223372036854775808 ≤ qtyS l0 + qtyS l1 by omega) (by omega), w_id (show -9223372036854775808 ≤ (l0.length : Int) + (l1.length : Int) by omega) (by omega), show (((mrg l0 l1).length : Int) != (l0.length : Int) + (l1.length : Int)) = false from bne_eq_false_iff_eq.2 (by omega)]
  simp only [if_pos hq]
  refine Ev_succ ?_
  simp only [contangolaw17_TapeKeeps.j1, Bool.false_eq_true, if_false]
  have hw : ∀ a b, tape_Window.f (mrg l0 l1) a b = some ((mrg l0 l1).filter (fun t => decide (a ≤ t.f0 ∧ t.f0 ≤ b))) := fun a b => by
    unfold tape_Window.f
    rw [if_pos (by omega), win_go, List.nil_append]
  rw [w_id (show -9223372036854775808 ≤ m - 1 by omega) (by omega)]
  simp only [hw]
  have hb := win_both m ⟨by omega, by omega⟩ (mrg l0 l1) hasc (fun t ht => ⟨(hok t ht).1, (hok t ht).2.1⟩)
  have l1' := List.length_filter_le (fun t : Tick => decide (0 ≤ t.f0 ∧ t.f0 ≤ m - 1)) (mrg l0 l1)
  have l2' := List.length_filter_le (fun t : Tick => decide (m ≤ t.f0 ∧ t.f0 ≤ 86399)) (mrg l0 l1)
  simp only [Option.bind_some, List.nil_append, List.length_nil, Nat.zero_add, hb]
  have g1 : ((mrg l0 l1).filter (fun t => decide (0 ≤ t.f0 ∧ t.f0 ≤ m - 1))).length < 5864062014805 := by omega
  have g2 : ((mrg l0 l1).filter (fun t => decide (0 ≤ t.f0 ∧ t.f0 ≤ m - 1))).length + ((mrg l0 l1).filter (fun t => decide (m ≤ t.f0 ∧ t.f0 ≤ 86399))).length < 5864062014805 := by omega
  simp only [if_pos g1, if_pos g2]
  refine Ev_bind (same17_f _ (by omega)) ?_
  simp only [if_true]
  exact Ev_id goes17
end Go.Proofs.Ytocndpddghefhaa.Pure
end
