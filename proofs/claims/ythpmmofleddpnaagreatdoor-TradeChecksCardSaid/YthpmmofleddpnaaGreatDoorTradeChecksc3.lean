/- For TradeChecks: contracts, and facts on lists and numbers, that it uses (part 3). -/
import Derived.Lib.SlBytesConst
import Derived.Maps.RangeWalk
import Derived.Maps.Views
import Derived.Test.YthpmmofleddpnaaGreatDoorTradeChecksc2
section
namespace Go.Proofs.YthpmmofleddpnaaGreatDoor.X
open Go.RowKit Go.Proofs.YthpmmofleddpnaaGreatDoorW.PrintWords Go.Proofs.YthpmmofleddpnaaGreatDoorW.PrintLast Go.Proofs.YthpmmofleddpnaaGreatDoorW.PrintMore
attribute [local go_sem] max2_int min2_int max_two min_two max_three min_three max_four min_four
set_option linter.unusedVariables false
set_option linter.unusedSimpArgs false
def srch (day : Int) : Nat → Nat → Nat → Nat
  | 0, i, _ => i
  | f + 1, i, j => if i < j then (if day < startV (2000 + (((i + j) / 2 : Nat) : Int) + 1) then srch day f i ((i + j) / 2) else srch day f ((i + j) / 2 + 1) j) else i
theorem srch_rng (day : Int) : ∀ (f i j : Nat), i ≤ j → i ≤ srch day f i j ∧ srch day f i j ≤ j
  | 0, i, j, h => ⟨Nat.le_refl _, h⟩
  | f + 1, i, j, h => by
    unfold srch
    by_cases c : i < j
    · rw [if_pos c]
      split
      · have := srch_rng day f i ((i + j) / 2) (by omega); omega
      · have := srch_rng day f ((i + j) / 2 + 1) j (by omega); omega
    · rw [if_neg c]; omega
theorem srch_ok (day : Int) : ∀ (f i j : Nat), i ≤ j → j - i ≤ f → (i = 0 ∨ startV (2000 + (i : Int)) ≤ day) → (j = 199 ∨ day < startV (2000 + (j : Int) + 1)) → (srch day f i j = 0 ∨ startV (2000 + (srch day f i j : Int)) ≤ day) ∧ (srch day f i j = 199 ∨ day < startV (2000 + (srch day f i j : Int) + 1))
  | 0, i, j, h, hf, h1, h2 => by
    obtain rfl : i = j := by omega
    exact ⟨h1, h2⟩
  | f + 1, i, j, h, hf, h1, h2 => by
    unfold srch
    by_cases c : i < j
    · rw [if_pos c]
      by_cases d : day < startV (2000 + (((i + j) / 2 : Nat) : Int) + 1)
      · rw [if_pos d]
        exact srch_ok day f i ((i + j) / 2) (by omega) (by omega) h1 (Or.inr d)
      · rw [if_neg d]
        refine srch_ok day f ((i + j) / 2 + 1) j (by omega) (by omega) (Or.inr ?_) h2
        have e : (2000 + (((i + j) / 2 + 1 : Nat) : Int)) = 2000 + (((i + j) / 2 : Nat) : Int) + 1 := by omega
        rw [e]
        omega
    · rw [if_neg c]
      obtain rfl : i = j := by omega
      exact ⟨h1, h2⟩
def yearK (day : Int) : Nat := srch day 199 0 199
def monAt (b : Bool) (D : Int) : Nat → Nat → Nat
  | 0, m => m
  | f + 1, m => if monLen b m ≤ D - monSum b m then monAt b D f (m + 1) else m
theorem year_len : ∀ k : Nat, k < 200 → startV (2000 + (k : Int) + 1) - startV (2000 + (k : Int)) = monSum (leapB (2000 + (k : Int))) 13 := by decide +kernel
def splitV (day : Int) : Int × Int × Int × Int := if 0 ≤ day ∧ day ≤ 73048 then (2000 + (yearK day : Int), (monAt (leapB (2000 + (yearK day : Int))) (day - startV (2000 + (yearK day : Int))) 12 1 : Int), day - startV (2000 + (yearK day : Int)) - monSum (leapB (2000 + (yearK day : Int))) (monAt (leapB (2000 + (yearK day : Int))) (day - startV (2000 + (yearK day : Int))) 12 1) + 1, 0) else (0, 0, 0, 15)
theorem year_ok {day : Int} (h : 0 ≤ day ∧ day ≤ 73048) : yearK day ≤ 199 ∧ 0 ≤ day - startV (2000 + (yearK day : Int)) ∧ day - startV (2000 + (yearK day : Int)) < monSum (leapB (2000 + (yearK day : Int))) 13 := by
  have h1 := srch_rng day 199 0 199 (by omega)
  have h2 := srch_ok day 199 0 199 (by omega) (by omega) (Or.inl rfl) (Or.inl rfl)
  have h3 := year_len (yearK day) (by unfold yearK; omega)
  unfold yearK at *
  generalize srch day 199 0 199 = k at *
  refine ⟨h1.2, ?_, ?_⟩
  · rcases h2.1 with h | h
    · subst h
      have : startV (2000 + ((0 : Nat) : Int)) = 0 := by decide
      omega
    · omega
  · rcases h2.2 with h | h
    · subst h
      have : startV (2000 + ((199 : Nat) : Int) + 1) = 73049 := by decide
      omega
    · omega
set_option maxHeartbeats 1600000 in
set_option maxRecDepth 100000 in
theorem split_lit (day : Int) (h : Nat) (hh : h < 199) (g : Nat) (w : World) (hg : w.heap[g]? = some (.cells #[.int .i64 day] 3 (0, 0))) :
    Calls Tryz.prog 177 #[.int .i64 (h : Int), .pointer (some ⟨g, 0, none⟩)] w fun e w' => e = .returned (.bool (decide (day < startV (2000 + (h : Int) + 1)))) ∧ Below w.heap.size w w' := by
  have hS : w.drew.cell? ⟨g, 0, none⟩ = some (.int .i64 day) := blk_cell hg 0
  have HS := Aside0.mk hS
  have HY := Aside0.mk (show 1 ≤ 2000 + (h : Int) + 1 ∧ 2000 + (h : Int) + 1 ≤ 100000 by omega)
  have w1 : wrap64 (2000 + (h : Int)) = 2000 + (h : Int) := by unfold wrap64; omega
  have w2 : wrap64 (2000 + (h : Int) + 1) = 2000 + (h : Int) + 1 := by unfold wrap64; omega
  have HB := Aside0.mk (below_drew1 (Below.refl w.heap.size w))
  clear hS hg hh
  go_enter Tryz.func177, Tryz.ntmps177
  go_wp2_with fail
  refine start_ (n := 7) (S := fun w' => w'.cell? ⟨g, 0, none⟩ = some (.int .i64 day)) (ds := []) #[false, false, false, false, false, false, false] (by kernel_rfl) rfl rfl HS.out (fun hHeld => ?_)
  generalize w.drew = w21 at HB hHeld ⊢
  clear HS
  refine pure_ (i := 0) (N := some 4) (v := ?_) (a' := ?_) #[true, false, false, false, false, false, false] rfl rfl (by kernel_rfl) (fun _ _ _ h => h) (Or.inl ⟨by rfl, ?_⟩) ?_ ?_
  rotate_left
  · intro w'
    go_simp
    with_reducible rfl
  rotate_left
  · simp only [Act.put, List.setIfInBounds_toArray, List.set_cons_zero, List.set_cons_succ, i64_w, i32_w]
    rfl
  refine pure_ (i := 1) (N := some 5) (v := ?_) (a' := ?_) #[true, true, false, false, false, false, false] rfl rfl (by kernel_rfl) (fun _ _ _ h => h) (Or.inl ⟨by rfl, ?_⟩) ?_ ?_
  rotate_left
  · intro w'
    go_simp
    with_reducible rfl
  rotate_left
  · simp only [Act.put, List.setIfInBounds_toArray, List.set_cons_zero, List.set_cons_succ, i64_w, i32_w]
    rfl
  refine pure_ (i := 2) (N := some 6) (v := ?_) (a' := ?_) #[true, true, true, false, false, false, false] rfl rfl (by kernel_rfl) (fun _ _ _ h => h) (Or.inl ⟨by rfl, ?_⟩) ?_ ?_
  rotate_left
  · intro w'
    go_simp
    with_reducible rfl
  rotate_left
  · simp only [Act.put, List.setIfInBounds_toArray, List.set_cons_zero, List.set_cons_succ, i64_w, i32_w]
    rfl
  refine take_ (i := 4) (N := some 8) (v := ?_) (a' := ?_) #[true, true, true, false, true, false, false] rfl rfl (by kernel_rfl) (fun _ _ _ h => h) (Or.inl ⟨by rfl, ?_⟩) hHeld ?_ ?_
  rotate_left
  · intro w' s0
    go_simp
    with_reducible rfl
  rotate_left
  · simp only [Act.put, List.setIfInBounds_toArray, List.set_cons_zero, List.set_cons_succ, i64_w, i32_w]
    rfl
  refine one_ (i := 3) (N := some 7) #[true, true, true, true, true, false, false] rfl rfl (by kernel_rfl) (by decide) (fun K hK => ?_)
  refine goes_ Tryz.func140 (by kernel_rfl) rfl #[.int .i64 (wrap64 (2000 + (h : Int) + 1))] (by rfl) rfl rfl arg ?_
  rw [w2]
  refine (start_lit _ HY.out.1 HY.out.2 _).mono ?_
  rintro e w22 ⟨rfl, rfl⟩
  refine ⟨_, rfl, ?_⟩
  refine hK.out _ _ hHeld (fun hHeld => ?_)
  clear hK K
  refine norm_ (a' := ?_) ?_ ?_
  rotate_left
  · show Act.put _ (some 7) _ = _
    simp only [Act.put, List.setIfInBounds_toArray, List.set_cons_zero, List.set_cons_succ, i64_w, i32_w]
    rfl
  refine pure_ (i := 5) (N := some 9) (v := ?_) (a' := ?_) #[true, true, true, true, true, true, false] rfl rfl (by kernel_rfl) (fun _ _ _ h => h) (Or.inl ⟨by rfl, ?_⟩) ?_ ?_
  rotate_left
  · intro w'
    go_simp
    with_reducible rfl
  rotate_left
  · simp only [Act.put, List.setIfInBounds_toArray, List.set_cons_zero, List.set_cons_succ, i64_w, i32_w]
    rfl
  refine pure_ (i := 6) (N := some 3) (v := ?_) (a' := ?_) #[true, true, true, true, true, true, true] rfl rfl (by kernel_rfl) (fun _ _ _ h => h) (Or.inl ⟨by rfl, ?_⟩) ?_ ?_
  rotate_left
  · intro w'
    go_simp
    with_reducible rfl
  rotate_left
  · simp only [Act.put, List.setIfInBounds_toArray, List.set_cons_zero, List.set_cons_succ, i64_w, i32_w]
    rfl
  refine done_ (by kernel_rfl) ?_
  go_wp2_with fail
  go_ret
  exact ⟨rfl, HB.out⟩
set_option maxHeartbeats 1600000 in
set_option maxRecDepth 100000 in
theorem search_calls (day : Int) (g : Nat) (w : World) (hg : w.heap[g]? = some (.cells #[.int .i64 day] 3 (0, 0))) :
    Calls Tryz.prog 176 #[.int .i64 199, .func (.func 177) #[] #[.pointer (some ⟨g, 0, none⟩)]] w fun e w' => e = .returned (.int .i64 (yearK day : Int)) ∧ Below w.heap.size w w' := by
  have HG := Aside0.mk hg
  clear hg
  go_enter Tryz.func176, Tryz.ntmps176
  go_wp2_with fail
  go_loopg [5, 6] 199 (fun kq v5 v6 wr => ∃ i j : Nat, v5 = .int .i64 (i : Int) ∧ v6 = .int .i64 (j : Int) ∧ Aside0 (i ≤ j ∧ j ≤ 199 ∧ j - i ≤ kq) ∧ Aside0 (srch day kq i j = yearK day) ∧ Aside0 (Below w.heap.size w wr))
  case atStart => exact ⟨0, 199, rfl, rfl, ⟨by omega, by omega, by omega⟩, ⟨rfl⟩, ⟨Below.refl _ _⟩⟩
  case round =>
    obtain ⟨i, j, rfl, rfl, HI, HF, HB⟩ := hrel
    obtain ⟨i1, i2, i3⟩ := HI.out
    by_cases hlt : i < j
    · obtain ⟨k', rfl⟩ : ∃ k', gk = k' + 1 := ⟨gk - 1, by omega⟩
      have hf := HF.out
      rw [srch, if_pos hlt] at hf
      have hij : (i : Int) < (j : Int) := by omega
      obtain ⟨mid, hm⟩ : ∃ mid, (i + j) / 2 = mid := ⟨_, rfl⟩
      rw [hm] at hf
      have hmw : wrap64 ((IntKind.u64.wrap (wrap64 ((i : Int) + (j : Int)))) / 2) = (mid : Int) := by
        simp only [IntKind.wrap, IntKind.signed, IntKind.bits, wrap64]
        simp
        omega
      have HM := Aside0.mk (show mid < 199 ∧ i ≤ mid ∧ mid < j by omega)
      have hwm : wrap64 ((mid : Int) + 1) = (mid : Int) + 1 := by have := HM.out; unfold wrap64; omega
      by_cases c : day < startV (2000 + (mid : Int) + 1)
      · rw [if_pos c] at hf
        have HC := Aside0.mk (decide_eq_true c)
        have HF2 := Aside0.mk hf
        clear hf c hm hlt i1 i2 i3
        go_wp2_with (go_at_call 177; refine (split_lit day mid HM.out.1 g _ (blk_below HG.out HB.out)).mono ?_; rw [HC.out]; rintro e1 w1 ⟨rfl, hb1⟩; have HB3 := Aside0.mk (below_step HB.out hb1); clear hb1)
        go_roundg k'
        case measure => omega
        case rel => exact ⟨i, mid, rfl, rfl, ⟨by have := HM.out; have := HI.out; omega⟩, HF2, HB3⟩
      · rw [if_neg c] at hf
        have HC := Aside0.mk (decide_eq_false c)
        have HF2 := Aside0.mk hf
        clear hf c hm hlt i1 i2 i3
        go_wp2_with (go_at_call 177; refine (split_lit day mid HM.out.1 g _ (blk_below HG.out HB.out)).mono ?_; rw [HC.out]; rintro e1 w1 ⟨rfl, hb1⟩; have HB3 := Aside0.mk (below_step HB.out hb1); clear hb1)
        go_roundg k'
        case measure => omega
        case rel => exact ⟨mid + 1, j, by go_num, rfl, ⟨by have := HM.out; have := HI.out; omega⟩, HF2, HB3⟩
    · have he : yearK day = i := by
        have hf := HF.out
        cases gk with
        | zero => rw [← hf]; rfl
        | succ k' => rw [srch, if_neg hlt] at hf; exact hf.symm
      have HE := Aside0.mk he
      have hij : ¬ (i : Int) < (j : Int) := by omega
      have hijd := decide_eq_false hij
      clear he hlt
      go_wp2_with fail
      go_ret
      exact ⟨by rw [HE.out]; rfl, HB.out⟩
def date_Split.f (day : Int) : Option (Int × Int × Int × Int) := some (splitV day)
theorem monAt_ok (b : Bool) (D : Int) (h0 : 0 ≤ D) (h1 : D < monSum b 13) : ∀ (f m : Nat), m + f = 13 → 1 ≤ m → m ≤ 12 → monSum b m ≤ D → 1 ≤ monAt b D f m ∧ monAt b D f m ≤ 12
  | 0, m, hf, a, c, hs => by omega
  | f + 1, m, hf, a, c, hs => by
    unfold monAt
    by_cases d : monLen b m ≤ D - monSum b m
    · rw [if_pos d]
      have e : monSum b (m + 1) = monSum b m + monLen b m := rfl
      by_cases c2 : m + 1 ≤ 12
      · exact monAt_ok b D h0 h1 f (m + 1) (by omega) (by omega) c2 (by omega)
      · have : m + 1 = 13 := by omega
        rw [this] at e
        omega
    · rw [if_neg d]
      exact ⟨a, c⟩
set_option maxHeartbeats 3200000 in
set_option maxRecDepth 100000 in
theorem date_Split.calls (a0 : Int) (r1 r2 r3 r4 : Int) (w : World) (h : date_Split.f a0 = some (r1, r2, r3, r4)) (hGL : GlobD w) :
    Calls Tryz.prog 146 #[.int .i64 a0] w fun e w' => e = .returned (.tuple #[.int .i64 r1, .int .i64 r2, .int .i64 r3, .int .i64 r4]) ∧ Below w.heap.size w w' := by
  have hv := Option.some.inj h
  have HGL := Aside0.mk hGL
  have HBA := Aside0.mk (below_alloc (Below.refl w.heap.size w) (.cells #[.int .i64 a0] 3))
  clear h hGL
  unfold splitV at hv
  by_cases c : 0 ≤ a0 ∧ a0 ≤ 73048
  case neg =>
    rw [if_neg c] at hv
    simp only [Prod.mk.injEq] at hv
    obtain ⟨rfl, rfl, rfl, rfl⟩ := hv
    have hf : date_here.f a0 = some false := by
      unfold date_here.f
      by_cases c1 : a0 ≥ 0
      · simp only [if_pos c1]
        rw [decide_eq_false (by omega)]
      · simp only [if_neg c1]
    have HF := Aside0.mk hf
    clear hf c
    go_enter Tryz.func146, Tryz.ntmps146
    go_wp2_with (go_at_call 175; refine (date_here.calls a0 false _ HF.out).mono ?_; rintro e w1 ⟨rfl, hd⟩; have HB := Aside0.mk (below_step HBA.out hd.below); clear hd)
    refine bodyPost_ret (v := .tuple #[.int .i64 0, .int .i64 0, .int .i64 0, .int .i64 15]) (by simp [results, Tryz.results146, go_sem]) rfl ⟨rfl, HB.out⟩
  rw [if_pos c] at hv
  have hf : date_here.f a0 = some true := by
    unfold date_here.f
    simp only [if_pos c.1]
    rw [decide_eq_true (by omega)]
  have HF := Aside0.mk hf
  obtain ⟨y1, y2, y3⟩ := year_ok c
  have HV := Aside0.mk hv
  have HY := Aside0.mk y1
  have HD := Aside0.mk (show 0 ≤ a0 - startV (2000 + (yearK a0 : Int)) ∧ a0 - startV (2000 + (yearK a0 : Int)) < monSum (leapB (2000 + (yearK a0 : Int))) 13 from ⟨y2, y3⟩)
  have wy : wrap64 (2000 + (yearK a0 : Int)) = 2000 + (yearK a0 : Int) := by unfold wrap64; omega
  have HS := Aside0.mk (startV_rng (y := 2000 + (yearK a0 : Int)) (by omega) (by omega))
  have HR := Aside0.mk c
  clear hf hv c y1 y2 y3
  go_enter Tryz.func146, Tryz.ntmps146
  go_wp2_with (first | (go_at_call 175; refine (date_here.calls a0 true _ HF.out).mono ?_; rintro e w1 ⟨rfl, hd⟩; have HB := Aside0.mk (below_step HBA.out hd.below); have HG1 := Aside0.mk (blk_below (blk_new w (.cells #[.int .i64 a0] 3)) hd.below); have hx1 : w1.cell? ⟨w.heap.size, 0, none⟩ = some (.int .i64 a0) := blk_cell HG1.out 0; clear hd) | (go_at_call 176; refine (search_calls a0 w.heap.size _ HG1.out).mono ?_; rintro e w2 ⟨rfl, hb⟩; have HB2 := Aside0.mk (below_step HB.out hb); have HG2 := Aside0.mk (blk_below HG1.out hb); clear hb))
  have hYD := HS.out
  have hDD := HD.out
  obtain ⟨Y, hYe⟩ : ∃ Y : Int, 2000 + (yearK a0 : Int) = Y := ⟨_, rfl⟩
  have HYY := Aside0.mk (show 1 ≤ Y ∧ Y ≤ 100000 by have := HY.out; omega)
  rw [hYe] at HV HD HS wy hYD hDD ⊢
  rw [wy]
  have hwd : wrap64 (a0 - startV Y) = a0 - startV Y := by have := HR.out; unfold wrap64; omega
  have HWD := Aside0.mk hwd
  have hS : w2.drew.cell? ⟨w.heap.size, 0, none⟩ = some (.int .i64 a0) := blk_cell HG2.out 0
  have HSS := Aside0.mk hS
  have HGD := Aside0.mk (glob_far HGL.out (Nat.le_refl _) (below_drew1 HB2.out))
  have HBd := Aside0.mk (below_drew1 HB2.out)
  clear hS hYD hDD hwd wy
  refine start_ (n := 6) (S := fun w' => w'.cell? ⟨w.heap.size, 0, none⟩ = some (.int .i64 a0)) (ds := []) #[false, false, false, false, false, false] (by kernel_rfl) rfl rfl HSS.out (fun hHeld => ?_)
  generalize w2.drew = wd at HGD HBd hHeld ⊢
  clear HSS
  refine take_ (i := 0) (N := some 13) (v := ?_) (a' := ?_) #[true, false, false, false, false, false] rfl rfl (by kernel_rfl) (fun _ _ _ h => h) (Or.inl ⟨by rfl, ?_⟩) hHeld ?_ ?_
  rotate_left
  · intro w' s0
    go_simp
    with_reducible rfl
  rotate_left
  · simp only [Act.put, List.setIfInBounds_toArray, List.set_cons_zero, List.set_cons_succ, i64_w, i32_w]
    rfl
  refine pure_ (i := 1) (N := some 14) (v := ?_) (a' := ?_) #[true, true, false, false, false, false] rfl rfl (by kernel_rfl) (fun _ _ _ h => h) (Or.inl ⟨by rfl, ?_⟩) ?_ ?_
  rotate_left
  · intro w'
    go_simp
    with_reducible rfl
  rotate_left
  · simp only [Act.put, List.setIfInBounds_toArray, List.set_cons_zero, List.set_cons_succ, i64_w, i32_w]
    rfl
  refine one_ (i := 2) (N := some 15) #[true, true, true, false, false, false] rfl rfl (by kernel_rfl) (by decide) (fun K hK => ?_)
  refine goes_ Tryz.func140 (by kernel_rfl) rfl #[.int .i64 Y] (by rfl) rfl rfl arg ?_
  refine (start_lit _ HYY.out.1 HYY.out.2 _).mono ?_
  rintro e w22 ⟨rfl, rfl⟩
  refine ⟨_, rfl, ?_⟩
  refine hK.out _ _ hHeld (fun hHeld => ?_)
  clear hK K
  refine norm_ (a' := ?_) ?_ ?_
  rotate_left
  · show Act.put _ (some 15) _ = _
    simp only [Act.put, List.setIfInBounds_toArray, List.set_cons_zero, List.set_cons_succ, i64_w, i32_w]
    rfl
  refine pure_ (i := 3) (N := some 16) (v := ?_) (a' := ?_) #[true, true, true, true, false, false] rfl rfl (by kernel_rfl) (fun _ _ _ h => h) (Or.inl ⟨by rfl, ?_⟩) ?_ ?_
  rotate_left
  · intro w'
    go_simp
    with_reducible rfl
  rotate_left
  · simp only [Act.put, List.setIfInBounds_toArray, List.set_cons_zero, List.set_cons_succ, i64_w, i32_w]
    rfl
  refine pure_ (i := 4) (N := some 3) (v := ?_) (a' := ?_) #[true, true, true, true, true, false] rfl rfl (by kernel_rfl) (fun _ _ _ h => h) (Or.inl ⟨by rfl, ?_⟩) ?_ ?_
  rotate_left
  · intro w'
    go_simp
    with_reducible rfl
  rotate_left
  · simp only [Act.put, List.setIfInBounds_toArray, List.set_cons_zero, List.set_cons_succ, i64_w, i32_w]
    rfl
  refine pure_ (i := 5) (N := some 4) (v := ?_) (a' := ?_) #[true, true, true, true, true, true] rfl rfl (by kernel_rfl) (fun _ _ _ h => h) (Or.inl ⟨by rfl, ?_⟩) ?_ ?_
  rotate_left
  · intro w'
    go_simp
    with_reducible rfl
  rotate_left
  · simp only [Act.put, List.setIfInBounds_toArray, List.set_cons_zero, List.set_cons_succ, i64_w, i32_w]
    rfl
  refine done_ (by kernel_rfl) ?_
  rw [HWD.out]
  obtain ⟨D, hDe⟩ : ∃ D : Int, a0 - startV Y = D := ⟨_, rfl⟩
  rw [hDe] at HV HD ⊢
  clear hHeld hDe hYe
  go_wp2_with (go_at_call 141; refine (month_calls Y _).mono ?_; rintro e w3 ⟨g, rfl, hg1, hg2, hb⟩; have HGM := Aside0.mk hg2; have HG3 := Aside0.mk (glob_of HGD.out hb); have HB3 := Aside0.mk (below_step HBd.out hb); clear hg1 hg2 hb)
  generalize hLB : leapB Y = b at HV HD HGM
  clear hLB
  have hM1 := monSum_one b
  have HM1 := Aside0.mk hM1
  clear hM1
  go_loopg [3, 4] 12 (fun kq v3 v4 wr => ∃ m : Nat, v3 = .int .i64 (m : Int) ∧ v4 = .int .i64 (D - monSum b m) ∧ Aside0 (m + kq = 13) ∧ Aside0 (1 ≤ m ∧ m ≤ 12) ∧ Aside0 (monSum b m ≤ D) ∧ Aside0 (monAt b D kq m = monAt b D 12 1) ∧ wr = w3)
  case atStart => exact ⟨1, rfl, congrArg (Value.int .i64) (by rw [HM1.out]; omega), ⟨rfl⟩, ⟨by omega⟩, ⟨by rw [HM1.out]; exact HD.out.1⟩, ⟨rfl⟩, rfl⟩
  case round =>
    obtain ⟨m, rfl, rfl, HK, HM, HSM, HAT, rfl⟩ := hrel
    obtain ⟨k', rfl⟩ : ∃ k', gk = k' + 1 := ⟨gk - 1, by have := HK.out; have := HM.out; omega⟩
    have hat := HAT.out
    rw [monAt] at hat
    have hrn := monSum_rng b m
    have hln := monLen_rng b m
    have h13 := monSum_rng b 13
    have hdd := HD.out
    have hmm := HM.out
    have HJ := Aside0.mk (show m < 13 by omega)
    by_cases d : monLen b m ≤ D - monSum b m
    · rw [if_pos d] at hat
      have e : monSum b (m + 1) = monSum b m + monLen b m := rfl
      have hlt : m + 1 ≤ 12 := by
        by_cases c2 : m + 1 ≤ 12
        · exact c2
        · have e13 : m + 1 = 13 := by omega
          rw [e13] at e
          omega
      have HLT := Aside0.mk hlt
      have HAT2 := Aside0.mk hat
      have HSM2 := Aside0.mk (show monSum b (m + 1) ≤ D by omega)
      have HE := Aside0.mk e
      have dd := decide_eq_true d
      have w5 : wrap64 (D - monSum b m - monLen b m) = D - monSum b m - monLen b m := by unfold wrap64; omega
      have w6 : wrap64 ((m : Int) + 1) = (m : Int) + 1 := by unfold wrap64; omega
      have W5 := Aside0.mk w5
      clear hat hrn hln h13 hdd hmm d e hlt w5
      go_wp2_with (go_at_call 169; refine (mon_lit b m HJ.out g _ HGM.out HG3.out).mono ?_; rintro e2 w7 ⟨rfl, rfl⟩)
      go_roundg k'
      case measure => omega
      case rel => exact ⟨m + 1, by go_num, congrArg (Value.int .i64) (by first | (rw [W5.out, HE.out]; omega) | (rw [HE.out]; omega)), ⟨by have := HK.out; omega⟩, ⟨by have := HLT.out; omega⟩, HSM2, HAT2, rfl⟩
    · rw [if_neg d] at hat
      have HAT2 := Aside0.mk hat
      have dd := decide_eq_false d
      have w5 : wrap64 (D - monSum b m + 1) = D - monSum b m + 1 := by unfold wrap64; omega
      have hv := HV.out
      rw [← hat] at hv
      simp only [Prod.mk.injEq] at hv
      obtain ⟨e1, e2, e3, e4⟩ := hv
      have HV2 := Aside0.mk (And.intro e1 (And.intro e2 (And.intro e3 e4)))
      have W5 := Aside0.mk w5
      clear hat hrn hln h13 hdd hmm d e1 e2 e3 e4 w5
      go_wp2_with (go_at_call 169; refine (mon_lit b m HJ.out g _ HGM.out HG3.out).mono ?_; rintro e2 w7 ⟨rfl, rfl⟩)
      obtain ⟨e1, e2, e3, e4⟩ := HV2.out
      refine bodyPost_ret (v := .tuple #[.int .i64 Y, .int .i64 (m : Int), .int .i64 (D - monSum b m + 1), .int .i64 0]) (by simp [results, Tryz.results146, go_sem, W5.out]) rfl ⟨by rw [e1, e2, e3, e4], HB3.out⟩
theorem list_insert_own {H : Type} {P : Program} (w : World) {ops : Array Oper} {rest : List Oper} {o : Oper} {a : Act} {Q : Exit → Act → World → Prop}
    (hg : o.guard = none) (m x v : Operand) (t : TypeId) (hop : o.op = Op.insert t m x v)
    (k e : TypeId) (K : Maps.Keyed P k) (ht : P.underlying t = some (.map k e)) (R : Value → Option (DataW H × List MemPlace)) (b n : Nat) (D : DataW H)
    (hm : a.eval m = .map (some b)) (hown : w.ownsMap P k R b n D) (hn : n < maxLen) (key val : Value) (kl : Lit) (hx : a.eval x = key) (hv : a.eval v = val) (hkey : keyOf P k key = some kl)
    (d : DataW H) (ps : List MemPlace) (hval : R val = some (d, ps))
    (hK : ∀ w', w'.ownsMap P k R b (n + 1) (D.put kl d) → w.grownBy w' (some b) → wpList P ops Q rest (a.put o.dst undef) w') :
    wpList P ops Q (o :: rest) a w := by
  refine wpList_plain hg fun K' hK' => ?_
  obtain ⟨w', hrun, r1, r2⟩ := hown.update K ht hn hkey hval
  unfold Oper.wp
  simp [execOp, hop, hm, hx, hv, hrun, Result.andThen]
  exact hK' _ _ (hK w' r1 r2)
def fillD : Nat → List Int → Int → Int → List Int
  | 0, xs, _, _ => xs
  | f + 1, xs, k, n => if 0 < n then fillD f (xs.set k.toNat (48 + n % 10)) (k - 1) (n / 10) else xs
def dateC (y m d : Int) (l3 l6 l9 : Bool) : List Int := [if l3 then 48 else 48 + y / 1000 % 10, if l3 then 48 else 48 + y / 100 % 10, if l3 then 48 else 48 + y / 10 % 10, if l3 then 48 else 48 + y % 10, 45, if l6 then 48 else 48 + m / 10 % 10, if l6 then 48 else 48 + m % 10, 45, if l9 then 48 else 48 + d / 10 % 10, if l9 then 48 else 48 + d % 10]
theorem fill_y {y m d : Int} (h1 : 1000 ≤ y) (h2 : y ≤ 9999) (l6 l9 : Bool) : fillD 5 (dateC y m d true l6 l9) 3 y = dateC y m d false l6 l9 := by
  have e3 : y / 10 / 10 = y / 100 := by omega
  have e4 : y / 10 / 10 / 10 = y / 1000 := by omega
  have e5 : y / 10 / 10 / 10 / 10 = 0 := by omega
  simp only [fillD]
  rw [if_pos (by omega), if_pos (by omega), if_pos (by omega), if_pos (by omega), if_neg (by omega)]
  have e6 : y / 100 / 10 = y / 1000 := by omega
  simp only [e3, e6, dateC]
  rfl
theorem fill_two {n : Int} (h1 : 1 ≤ n) (h2 : n ≤ 99) (xs : List Int) (p : Nat) (hp : 1 ≤ p) (h48 : xs[p - 1]? = some 48) : fillD 5 xs p n = (xs.set p (48 + n % 10)).set (p - 1) (48 + n / 10 % 10) := by
  have e1 : ((p : Int)).toNat = p := by omega
  have e2 : ((p : Int) - 1).toNat = p - 1 := by omega
  by_cases c : n < 10
  · simp only [fillD]
    rw [if_pos (by omega), if_neg (by omega), e1, show n / 10 % 10 = 0 by omega]
    rw [List.set_comm _ _ (by omega)]
    congr 1
    rw [show (48 + 0 : Int) = 48 from rfl]
    apply List.ext_getElem?
    intro i
    rw [List.getElem?_set]
    by_cases ci : p - 1 = i
    · subst ci
      obtain ⟨hl, _⟩ := List.getElem?_eq_some_iff.1 h48
      rw [if_pos rfl, if_pos hl, h48]
    · rw [if_neg ci]
  · simp only [fillD]
    rw [if_pos (by omega), if_pos (by omega), if_neg (by omega), e1, e2]
theorem fill_m {y m d : Int} (h1 : 1 ≤ m) (h2 : m ≤ 99) (l3 l9 : Bool) : fillD 5 (dateC y m d l3 true l9) 6 m = dateC y m d l3 false l9 := by
  have := fill_two h1 h2 (dateC y m d l3 true l9) 6 (by decide) rfl
  rw [show ((6 : Nat) : Int) = 6 from rfl] at this
  rw [this]
  rfl
theorem fill_d {y m d : Int} (h1 : 1 ≤ d) (h2 : d ≤ 99) (l3 l6 : Bool) : fillD 5 (dateC y m d l3 l6 true) 9 d = dateC y m d l3 l6 false := by
  have := fill_two h1 h2 (dateC y m d l3 l6 true) 9 (by decide) rfl
  rw [show ((9 : Nat) : Int) = 9 from rfl] at this
  rw [this]
  rfl
theorem split_rng {day : Int} (h : 0 ≤ day ∧ day ≤ 73048) : 2000 ≤ (splitV day).1 ∧ (splitV day).1 ≤ 2199 ∧ 1 ≤ (splitV day).2.1 ∧ (splitV day).2.1 ≤ 12 ∧ 1 ≤ (splitV day).2.2.1 ∧ (splitV day).2.2.2 = 0 := by
  obtain ⟨h1, h2, h3⟩ := year_ok h
  unfold splitV
  rw [if_pos h]
  have hm := monAt_ok (leapB (2000 + (yearK day : Int))) (day - startV (2000 + (yearK day : Int))) h2 h3 12 1 (by omega) (by omega) (by omega) (by rw [monSum_one]; exact h2)
  refine ⟨by show 2000 ≤ 2000 + (yearK day : Int); omega, by show 2000 + (yearK day : Int) ≤ 2199; omega, ?_, ?_, ?_, rfl⟩
  · show (1 : Int) ≤ ((monAt _ _ 12 1 : Nat) : Int); omega
  · show ((monAt _ _ 12 1 : Nat) : Int) ≤ 12; omega
  · show (1 : Int) ≤ _ - monSum _ (monAt _ _ 12 1) + 1
    have : ∀ (b : Bool) (D : Int) (f m : Nat), monSum b m ≤ D → monSum b (monAt b D f m) ≤ D := by
      intro b D f
      induction f with
      | zero => exact fun m h => h
      | succ f ih =>
        intro m h
        unfold monAt
        split
        · rename_i c
          exact ih (m + 1) (by show monSum b m + monLen b m ≤ D; omega)
        · exact h
    have := this (leapB (2000 + (yearK day : Int))) (day - startV (2000 + (yearK day : Int))) 12 1 (by rw [monSum_one]; exact h2)
    omega
theorem monAt_lt (b : Bool) (D : Int) (h1 : D < monSum b 13) : ∀ (f m : Nat), m + f = 13 → D - monSum b (monAt b D f m) < 32 := by
  intro f
  induction f with
  | zero =>
    intro m h
    have : m = 13 := by omega
    subst this
    show D - monSum b 13 < 32
    omega
  | succ f ih =>
    intro m h
    unfold monAt
    split
    · exact ih (m + 1) (by omega)
    · rename_i c
      have := monLen_rng b m
      omega
theorem split_day {day : Int} (h : 0 ≤ day ∧ day ≤ 73048) : (splitV day).2.2.1 ≤ 99 := by
  obtain ⟨h1, h2, h3⟩ := year_ok h
  unfold splitV
  rw [if_pos h]
  show _ - monSum _ (monAt _ _ 12 1) + 1 ≤ (99 : Int)
  have := monAt_lt (leapB (2000 + (yearK day : Int))) (day - startV (2000 + (yearK day : Int))) h3 12 1 (by omega)
  omega
def date_Print.f (day : Int) : Option ByteArray := some (if 0 ≤ day ∧ day ≤ 73048 then strOfNums (dateC (splitV day).1 (splitV day).2.1 (splitV day).2.2.1 false false false) else (⟨#[]⟩ : ByteArray))
theorem wf_of {n : Int} (h1 : -9223372036854775808 ≤ n) (h2 : n ≤ 9223372036854775807) : (Lit.int .i64 n).wf = true := by
  simp [Lit.wf, IntKind.min, IntKind.max, IntKind.signed, IntKind.bits]
  omega
def bytesV (xs : List Int) : Array Value := (xs.map (Value.int .u8)).toArray
theorem blk_cellF {w : World} {g : Nat} {cs : Array Value} {t : TypeId} {fr : Nat × Nat} (h : w.heap[g]? = some (.cells cs t fr)) (j : Nat) : w.cell? ⟨g, j, none⟩ = cs[j]? := by
  simp [World.cell?, h]
theorem bytesV_at {xs : List Int} {i : Nat} (h : i < xs.length) : (bytesV xs)[i]? = some (.int .u8 (xs.getD i 0)) := by
  unfold bytesV
  simp [h]
theorem pow10_le : ∀ p : Nat, p < 10 → (10 : Int) ^ (p + 1) ≤ 10000000000 := by decide +kernel
theorem blk_frozenF {w : World} {g j : Nat} {cs : Array Value} {t : TypeId} (h : w.heap[g]? = some (.cells cs t (10, 11))) (hj : j < 10) : w.frozen? ⟨g, j, none⟩ = false := by
  simp [World.frozen?, h]
  omega
theorem blk_setF {w : World} {g : Nat} {xs : List Int} {t : TypeId} (h : w.heap[g]? = some (.cells (bytesV xs) t (10, 11))) (i : Nat) (u : Int) : (w.setCell ⟨g, i, none⟩ (.int .u8 u)).heap[g]? = some (.cells (bytesV (xs.set i u)) t (10, 11)) := by
  have e : (bytesV xs).setIfInBounds i (.int .u8 u) = bytesV (xs.set i u) := by
    unfold bytesV
    simp [List.map_set]
  simp [World.setCell, Array.getElem?_modify, h, e]
theorem grownBy_setCellF (W : World) (b i : Nat) (v : Value) : W.grownBy (W.setCell ⟨b, i, none⟩ v) (some b) :=
  ⟨rfl, rfl, rfl, (by simp [World.setCell]), fun k _ hk => Below.heap_setCell _ _ _ k (fun e => hk (by rw [e]))⟩
theorem key_cases {y m d x c : Int} (hat : ∀ zd : DataW Unit, ((((.map [] : DataW Unit).put (.int .i64 3) (.lit (.int .i64 y))).put (.int .i64 6) (.lit (.int .i64 m))).put (.int .i64 9) (.lit (.int .i64 d))).atKey (.int .i64 x) zd = .lit (.int .i64 c)) : (x = 3 ∧ c = y) ∨ (x = 6 ∧ c = m) ∨ (x = 9 ∧ c = d) := by
  have h := hat .nil
  have ne : ∀ k : Int, x ≠ k → (Lit.int .i64 x) ≠ .int .i64 k := fun k e h => by injection h with _ h; exact e h
  by_cases c9 : x = 9
  · subst c9
    rw [Maps.atKey_put_same (D := (((.map [] : DataW Unit).put (.int .i64 3) (.lit (.int .i64 y))).put (.int .i64 6) (.lit (.int .i64 m)))) (k := .int .i64 9) ⟨_, rfl⟩ (by trivial) (.lit (.int .i64 d)) .nil] at h
    injection h with h
    injection h with _ h
    exact Or.inr (Or.inr ⟨rfl, h.symm⟩)
  rw [Maps.atKey_put_other (ne 9 c9)] at h
  by_cases c6 : x = 6
  · subst c6
    rw [Maps.atKey_put_same (D := ((.map [] : DataW Unit).put (.int .i64 3) (.lit (.int .i64 y)))) (k := .int .i64 6) ⟨_, rfl⟩ (by trivial) (.lit (.int .i64 m)) .nil] at h
    injection h with h
    injection h with _ h
    exact Or.inr (Or.inl ⟨rfl, h.symm⟩)
  rw [Maps.atKey_put_other (ne 6 c6)] at h
  by_cases c3 : x = 3
  · subst c3
    rw [Maps.atKey_put_same (D := (.map [] : DataW Unit)) (k := .int .i64 3) ⟨_, rfl⟩ (by trivial) (.lit (.int .i64 y)) .nil] at h
    injection h with h
    injection h with _ h
    exact Or.inl ⟨rfl, h.symm⟩
  rw [Maps.atKey_put_other (ne 3 c3)] at h
  cases h
set_option maxHeartbeats 3200000 in
set_option maxRecDepth 100000 in
theorem date_Print.calls (a0 : Int) (r : ByteArray) (w : World) (h : date_Print.f a0 = some r) (hGL : GlobD w) :
    Calls Tryz.prog 115 #[.int .i64 a0] w fun e w' => e = .returned (.string r) ∧ Below w.heap.size w w' := by
  obtain rfl := Option.some.inj h
  have HGL := Aside0.mk hGL
  clear h hGL
  by_cases c : 0 ≤ a0 ∧ a0 ≤ 73048
  case neg =>
    rw [if_neg c]
    have hs : date_Split.f a0 = some (0, 0, 0, 15) := by unfold date_Split.f splitV; rw [if_neg c]
    have HS := Aside0.mk hs
    clear hs c
    go_enter Tryz.func115, Tryz.ntmps115
    go_wp2_with (go_at_call 146; refine (date_Split.calls a0 0 0 0 15 _ HS.out HGL.out).mono ?_; rintro e w1 ⟨rfl, hb⟩; have HB := Aside0.mk hb; clear hb)
    go_ret
    exact ⟨rfl, HB.out⟩
  rw [if_pos c]
  have hr := split_rng c
  have hs : date_Split.f a0 = some (splitV a0) := rfl
  have hd31 : (splitV a0).2.2.1 ≤ 99 := split_day c
  generalize splitV a0 = q at hr hs hd31 ⊢
  obtain ⟨y, m, d, e⟩ := q
  obtain ⟨q1, q2, q3, q4, q5, q6⟩ := hr
  dsimp only at q1 q2 q3 q4 q5 q6 hd31 ⊢
  subst q6
  have HS := Aside0.mk hs
  have HRN := Aside0.mk (show 2000 ≤ y ∧ y ≤ 2199 ∧ 1 ≤ m ∧ m ≤ 12 ∧ 1 ≤ d ∧ d ≤ 99 from ⟨q1, q2, q3, q4, q5, hd31⟩)
  have hmm := @run_makeMap Tryz.prog
  have hcv := fun (W : World) (C : Array Value) => Lib.run_convert_bytes_const (P := Tryz.prog) W 54 5 C 10 10 Tryz.underlying54 Tryz.underlying5
  have HK3 := Aside0.mk (Maps.keyOf_int_mk (P := Tryz.prog) Tryz.underlying3 (a := 3) (by decide))
  have HK6 := Aside0.mk (Maps.keyOf_int_mk (P := Tryz.prog) Tryz.underlying3 (a := 6) (by decide))
  have HK9 := Aside0.mk (Maps.keyOf_int_mk (P := Tryz.prog) Tryz.underlying3 (a := 9) (by decide))
  have HWY := Aside0.mk (wf_of (n := y) (by omega) (by omega))
  have HWM := Aside0.mk (wf_of (n := m) (by omega) (by omega))
  have HWD := Aside0.mk (wf_of (n := d) (by omega) (by omega))
  clear q1 q2 q3 q4 q5 hd31 hs c
  go_enter Tryz.func115, Tryz.ntmps115
  go_wp2_with (first | (go_at_call 146; refine (date_Split.calls a0 y m d 0 _ HS.out HGL.out).mono ?_; rintro e w1 ⟨rfl, hb⟩; have HB := Aside0.mk hb; have HM0 := Aside0.mk (show ((w1.alloc (.cells #[.int .u8 48, .int .u8 48, .int .u8 48, .int .u8 48, .int .u8 45, .int .u8 48, .int .u8 48, .int .u8 45, .int .u8 48, .int .u8 48] 5 (10, 11))).alloc (.map #[] 0)).ownsMap Tryz.prog 3 (plainElem (H := Unit) Tryz.prog 3) (w1.heap.size + 1) 0 (.map []) by (have h_ := World.ownsMap_made (w1.alloc (.cells #[.int .u8 48, .int .u8 48, .int .u8 48, .int .u8 48, .int .u8 45, .int .u8 48, .int .u8 48, .int .u8 45, .int .u8 48, .int .u8 48] 5 (10, 11))) Tryz.prog 3 (plainElem (H := Unit) Tryz.prog 3); rwa [show (w1.alloc (.cells #[.int .u8 48, .int .u8 48, .int .u8 48, .int .u8 48, .int .u8 45, .int .u8 48, .int .u8 48, .int .u8 45, .int .u8 48, .int .u8 48] 5 (10, 11))).heap.size = w1.heap.size + 1 by simp] at h_)); clear hb) | (refine list_insert_own _ rfl _ _ _ 222 rfl 3 3 (Maps.int_keyed Tryz.underlying3) Tryz.underlying222 (plainElem (H := Unit) Tryz.prog 3) _ 2 _ rfl HM2.out (by unfold maxLen; omega) _ _ (.int .i64 9) rfl rfl HK9.out _ [] (plainElem_int Tryz.underlying3 HWD.out) ?_; intro w7 hM hg; have HM3 := Aside0.mk hM; have HG3 := Aside0.mk hg; clear hM hg) | (refine list_insert_own _ rfl _ _ _ 222 rfl 3 3 (Maps.int_keyed Tryz.underlying3) Tryz.underlying222 (plainElem (H := Unit) Tryz.prog 3) _ 1 _ rfl HM1.out (by unfold maxLen; omega) _ _ (.int .i64 6) rfl rfl HK6.out _ [] (plainElem_int Tryz.underlying3 HWM.out) ?_; intro w6 hM hg; have HM2 := Aside0.mk hM; have HG2 := Aside0.mk hg; clear hM hg) | (refine list_insert_own _ rfl _ _ _ 222 rfl 3 3 (Maps.int_keyed Tryz.underlying3) Tryz.underlying222 (plainElem (H := Unit) Tryz.prog 3) _ 0 _ rfl HM0.out (by unfold maxLen; omega) _ _ (.int .i64 3) rfl rfl HK3.out _ [] (plainElem_int Tryz.underlying3 HWY.out) ?_; intro w5 hM hg; have HM1 := Aside0.mk hM; have HG1 := Aside0.mk hg; clear hM hg) | (at_range; refine wpList_range_own _ rfl _ 222 rfl 3 3 (Maps.int_keyed Tryz.underlying3) Tryz.underlying222 _ _ _ _ rfl HM3.out ?_; intro w8 hrg0 hg0 hs0; have HR0 := Aside0.mk hrg0; have HG4 := Aside0.mk hg0; have HS0 := Aside0.mk hs0; clear hrg0 hg0 hs0) | go_in)
  have hbk : w8.heap[w1.heap.size]? = some (.cells (bytesV (dateC y m d true true true)) 5 (10, 11)) := by
    have h0 : (w1.alloc (.cells #[.int .u8 48, .int .u8 48, .int .u8 48, .int .u8 48, .int .u8 45, .int .u8 48, .int .u8 48, .int .u8 45, .int .u8 48, .int .u8 48] 5 (10, 11))).heap[w1.heap.size]? = some (.cells #[.int .u8 48, .int .u8 48, .int .u8 48, .int .u8 48, .int .u8 45, .int .u8 48, .int .u8 48, .int .u8 45, .int .u8 48, .int .u8 48] 5 (10, 11)) := by
      show (w1.heap.push _)[w1.heap.size]? = _
      simp
    have h1 := blk_alloc h0 (.map #[] 0)
    have s1 : w1.heap.size < ((w1.alloc (.cells #[.int .u8 48, .int .u8 48, .int .u8 48, .int .u8 48, .int .u8 45, .int .u8 48, .int .u8 48, .int .u8 45, .int .u8 48, .int .u8 48] 5 (10, 11))).alloc (.map #[] 0)).heap.size := by simp; omega
    have h2 := (HG1.out.block w1.heap.size s1 (by simp)).trans h1
    have s2 := Nat.lt_of_lt_of_le s1 HG1.out.size
    have h3 := (HG2.out.block w1.heap.size s2 (by simp)).trans h2
    have s3 := Nat.lt_of_lt_of_le s2 HG2.out.size
    have h4 := (HG3.out.block w1.heap.size s3 (by simp)).trans h3
    have s4 := Nat.lt_of_lt_of_le s3 HG3.out.size
    exact (HG4.out.block w1.heap.size s4 (by simp)).trans h4
  have hbl : Below w.heap.size w w8 := by
    have b0 := below_alloc (below_alloc HB.out (.cells #[.int .u8 48, .int .u8 48, .int .u8 48, .int .u8 48, .int .u8 45, .int .u8 48, .int .u8 48, .int .u8 45, .int .u8 48, .int .u8 48] 5 (10, 11))) (.map #[] 0)
    have b1 := b0.grown HG1.out b0.size (fun j hj => by cases hj; have := HB.out.size; omega)
    have b2 := b1.grown HG2.out b1.size (fun j hj => by cases hj; have := HB.out.size; omega)
    have b3 := b2.grown HG3.out b2.size (fun j hj => by cases hj; have := HB.out.size; omega)
    exact b3.grown HG4.out b3.size (fun j hj => by cases hj)
  have HBK0 := Aside0.mk hbk
  have HBL0 := Aside0.mk hbl
  clear hbk hbl
  go_frame
  go_loopw [8] (fun _ wr => ∃ (left : Lit → Bool) (cnt : Nat), Aside0 (wr.ranges Tryz.prog 3 (plainElem (H := Unit) Tryz.prog 3) (w1.heap.size + 1) w7.heap.size 3 ((((.map [] : DataW Unit).put (.int .i64 3) (.lit (.int .i64 y))).put (.int .i64 6) (.lit (.int .i64 m))).put (.int .i64 9) (.lit (.int .i64 d))) left cnt) ∧ Aside0 (wr.heap[w1.heap.size]? = some (.cells (bytesV (dateC y m d (left (.int .i64 3)) (left (.int .i64 6)) (left (.int .i64 9)))) 5 (10, 11))) ∧ Aside0 (Below w.heap.size w wr)) (fun _ wr => wr.rangeLeft (w1.heap.size + 1) w7.heap.size)
  case atStart => exact ⟨_, _, HR0, HBK0, HBL0⟩
  case round =>
    obtain ⟨left, cnt, HR, HBK, HBL⟩ := hrel
    go_wp2_with (first | (at_next; refine wpList_next_ranges_ii _ rfl _ rfl 3 3 .i64 .i64 (Maps.int_keyed Tryz.underlying3) Tryz.underlying3 Tryz.underlying3 (w1.heap.size + 1) w7.heap.size 3 _ _ _ rfl HR.out ?_ ?_) | go_in)
    · intro hc0 hl0
      have hbk := HBK.out
      rw [hl0, hl0, hl0] at hbk
      have hcs : (convert 54 9 (.slice (some ⟨w1.heap.size, 0, none⟩) 10 10)).run Tryz.prog wr = .ok (.string (strOfNums (dateC y m d false false false))) wr := by
        refine run_convert_bytes_arg wr 54 5 Tryz.underlying54 Tryz.underlying5 w1.heap.size 0 10 10 (dateC y m d false false false) rfl (fun i hi => ?_) 9 Tryz.underlying9
        rw [Nat.zero_add, blk_cellF hbk i]
        exact bytesV_at (by simpa [dateC] using hi)
      clear hl0 hc0 hbk
      go_wp2_with fail
      go_ret
      exact ⟨rfl, HBL.out⟩
    · intro x c w9 cnt1 hwx hwc hlx hat hrg1 hlt hg1 hs1 hen
      have hkc := key_cases hat
      have hlt7 : w1.heap.size < w7.heap.size := by
        have s1 : w1.heap.size < ((w1.alloc (.cells #[.int .u8 48, .int .u8 48, .int .u8 48, .int .u8 48, .int .u8 45, .int .u8 48, .int .u8 48, .int .u8 45, .int .u8 48, .int .u8 48] 5 (10, 11))).alloc (.map #[] 0)).heap.size := by simp; omega
        have := HG1.out.size; have := HG2.out.size; have := HG3.out.size
        omega
      have HKC := Aside0.mk hkc
      have HLX := Aside0.mk hlx
      have HRG := Aside0.mk hrg1
      have HLT := Aside0.mk hlt
      have HLT7 := Aside0.mk hlt7
      have HBK9 := Aside0.mk (blk_grown HBK.out hg1 (fun e => by injection e with e; omega))
      have HBL9 := Aside0.mk (HBL.out.grown hg1 HBL.out.size (fun j hj => by cases hj; have := HB.out.size; omega))
      clear hkc hat hlx hlt hrg1 hlt7 hg1 hs1 hwx hwc
      go_wp2_with fail
      obtain ⟨T, hT⟩ : ∃ T, fillD 5 (dateC y m d (left (.int .i64 3)) (left (.int .i64 6)) (left (.int .i64 9))) x c = T := ⟨_, rfl⟩
      have HT := Aside0.mk hT
      clear hT
      go_loopg [8, 9] 5 (fun kq v8 v9 wr2 => ∃ (k n : Int) (xs : List Int), v8 = .int .i64 k ∧ v9 = .int .i64 n ∧ Aside0 (xs.length = 10 ∧ -1 ≤ k ∧ k ≤ 9 ∧ 0 ≤ n ∧ n < 10 ^ kq ∧ n < 10 ^ (k + 1).toNat) ∧ Aside0 (fillD kq xs k n = T) ∧ Aside0 (wr2.heap[w1.heap.size]? = some (.cells (bytesV xs) 5 (10, 11))) ∧ Aside0 (w9.grownBy wr2 (some w1.heap.size)) ∧ Aside0 (Below w.heap.size w wr2))
      case atStart =>
        refine ⟨x, c, _, rfl, rfl, ⟨?_⟩, HT, HBK9, ⟨World.grownBy.refl _ _⟩, HBL9⟩
        have hr := HRN.out
        refine ⟨rfl, ?_⟩
        rcases HKC.out with ⟨rfl, rfl⟩ | ⟨rfl, rfl⟩ | ⟨rfl, rfl⟩
        · exact ⟨by omega, by omega, by omega, by omega, show c < 10 ^ 4 by omega⟩
        · exact ⟨by omega, by omega, by omega, by omega, show c < 10 ^ 7 by omega⟩
        · exact ⟨by omega, by omega, by omega, by omega, show c < 10 ^ 10 by omega⟩
      case round =>
        obtain ⟨k, n, xs, rfl, rfl, HI, HF, HBX, HGX, HBB⟩ := hrel
        by_cases hn : 0 < n
        · cases gk with
          | zero => exact absurd HI.out (by intro h; have h5 := h.2.2.2.2.1; simp at h5; omega)
          | succ f =>
            obtain ⟨i1, i2, i3, i4, i5, i6⟩ := HI.out
            have hk0 : 0 ≤ k := by
              by_cases c : 0 ≤ k
              · exact c
              · rw [show (k + 1).toNat = 0 by omega] at i6
                simp at i6
                omega
            obtain ⟨p, rfl⟩ : ∃ p : Nat, k = (p : Int) := ⟨k.toNat, by omega⟩
            rw [show ((p : Int) + 1).toNat = p + 1 by omega] at i6
            have hp9 : p < 10 := by omega
            have hbn := Int.lt_of_lt_of_le i6 (pow10_le p hp9)
            have HP := Aside0.mk (show xs.length = 10 ∧ p < 10 ∧ 0 ≤ n ∧ n < 10 ^ (f + 1) ∧ n < 10 ^ (p + 1) from ⟨i1, hp9, i4, i5, i6⟩)
            have hf : wr.frozen? ⟨w1.heap.size, p, none⟩ = false := blk_frozenF HBX.out (by omega)
            have hk1 : (p : Int) < 10 := by omega
            have hm : Int.tmod n 10 = n % 10 := Int.tmod_eq_emod_of_nonneg i4
            have hq : Int.tdiv n 10 = n / 10 := Int.tdiv_eq_ediv_of_nonneg i4
            have hw1 : wrap64 (n % 10) = n % 10 := by unfold wrap64; omega
            have hw2 : wrap64 (48 + n % 10) = 48 + n % 10 := by unfold wrap64; omega
            have hw3 : wrap64 (n / 10) = n / 10 := by unfold wrap64; omega
            have hw4 : wrap64 ((p : Int) - 1) = (p : Int) - 1 := by unfold wrap64; omega
            have hw8 : IntKind.u8.wrap (48 + n % 10) = 48 + n % 10 := by
              simp only [IntKind.wrap, IntKind.bits, IntKind.signed, Bool.false_and, Bool.false_eq_true, if_false]
              omega
            have hc0 : wr.cell? ⟨w1.heap.size, p, none⟩ = some (.int .u8 (xs.getD p 0)) := by
              rw [blk_cellF HBX.out p]
              exact bytesV_at (by omega)
            have HR2 := Aside0.mk (blk_setF HBX.out p (48 + n % 10))
            clear i1 i2 i3 i4 i5 i6 hbn
            go_wp2_with fail
            go_roundg f
            case measure => omega
            case rel =>
              obtain ⟨i1, i2, i3, i4, i5⟩ := HP.out
              refine ⟨(p : Int) - 1, n / 10, xs.set p (48 + n % 10), by first | rfl | rw [hw4], by first | rfl | rw [hw3], ⟨?_⟩, ⟨?_⟩, HR2, ⟨HGX.out.trans (grownBy_setCellF _ _ _ _)⟩, ⟨Below.setCell HBB.out (p := ⟨w1.heap.size, p, none⟩) HB.out.size _⟩⟩
              · refine ⟨by simpa using i1, by omega, by omega, by omega, ?_, ?_⟩
                · rw [Int.pow_succ] at i4
                  generalize (10 : Int) ^ f = z at i4 ⊢
                  omega
                · rw [show ((p : Int) - 1 + 1).toNat = p by omega]
                  rw [Int.pow_succ] at i5
                  generalize (10 : Int) ^ p = z at i5 ⊢
                  omega
              · have h2 := HF.out
                unfold fillD at h2
                rw [if_pos hn, Int.toNat_natCast] at h2
                exact h2
        · have hx : xs = T := by
            have h2 := HF.out
            cases gk with
            | zero => exact h2
            | succ f => unfold fillD at h2; rw [if_neg hn] at h2; exact h2
          have HX := Aside0.mk hx
          clear hx
          go_wp2_with fail
          have hrg2 := HRG.out.kept HGX.out (fun e => by have := Option.some.inj e; omega) (fun e => by have := Option.some.inj e; have := HLT7.out; omega)
          go_roundw
          case measure => rw [hrg2.left_eq, HR.out.left_eq]; exact HLT.out
          case rel =>
            refine ⟨_, cnt1, ⟨hrg2⟩, ⟨?_⟩, HBB⟩
            rw [HBX.out, HX.out, ← HT.out]
            have hr := HRN.out
            have hlx := HLX.out
            rcases HKC.out with ⟨rfl, rfl⟩ | ⟨rfl, rfl⟩ | ⟨rfl, rfl⟩
            · rw [hlx, fill_y (by omega) (by omega)]
              simp [Lit.sameKey]
            · rw [hlx, fill_m (by omega) (by omega)]
              simp [Lit.sameKey]
            · rw [hlx, fill_d (by omega) (by omega)]
              simp [Lit.sameKey]
def strings_ReplaceAll.f (s old new : ByteArray) : Option ByteArray := if s.size < 4294967281 ∧ 1 ≤ old.size ∧ s.size + Lib.countB s old * new.size ≤ 140737488355328 then some ⟨(Lib.replaceAll s.data.toList old.data.toList new.data.toList).toArray⟩ else none
theorem strings_ReplaceAll.calls (a0 a1 a2 : ByteArray) (r : ByteArray) (w : World) (h : strings_ReplaceAll.f a0 a1 a2 = some r) (hGL : GlobD w) :
    Calls Tryz.prog 116 #[.string a0, .string a1, .string a2] w fun e w' => e = .returned (.string r) ∧ Below w.heap.size w w' := by
  unfold strings_ReplaceAll.f at h
  split at h
  case isFalse => cases h
  case isTrue c =>
    obtain rfl := Option.some.inj h
    obtain ⟨m, hm⟩ := hGL.2
    exact Go.Proofs.Tryz.strings_ReplaceAll a0 a1 a2 m w c.1 hm c.2.1 c.2.2
def decL : Nat → Int → List Int → List Int
  | 0, _, acc => acc
  | k + 1, u, acc => if u / 10 = 0 then (48 + u % 10) :: acc else decL k (u / 10) ((48 + u % 10) :: acc)
def words_decimal.f (a0 : Int) : Option ByteArray := if 0 ≤ a0 ∧ a0 < 18446744073709551616 then some (strOfNums (decL 20 a0 [])) else none
theorem dec_u (x : Int) (h0 : 0 ≤ x) (h1 : x < 18446744073709551616) : IntKind.u64.wrap x = x := by
  simp only [IntKind.wrap, IntKind.bits, IntKind.signed, Bool.false_and, Bool.false_eq_true, if_false]
  omega
set_option maxHeartbeats 1600000 in
set_option maxRecDepth 100000 in
theorem words_decimal.calls (a0 : Int) (r : ByteArray) (w : World) (h : words_decimal.f a0 = some r) :
    Calls Tryz.prog 114 #[.int .u64 a0] w fun e w' => e = .returned (.string r) ∧ Below w.heap.size w w' := by
  unfold words_decimal.f at h
  by_cases c : 0 ≤ a0 ∧ a0 < 18446744073709551616
  case neg => rw [if_neg c] at h; cases h
  rw [if_pos c] at h
  have HH := Aside0.mk (Option.some.inj h)
  have HC := Aside0.mk c
  clear h c
  go_enter Tryz.func114, Tryz.ntmps114
  go_wp2_with fail
  go_loopg [0, 4] 20 (fun kq v0 v4 wr => ∃ (u : Int) (acc : List Int) (xs : Array Value), v0 = .int .u64 u ∧ v4 = .int .i64 (kq : Int) ∧ Aside0 (1 ≤ kq ∧ kq ≤ 20 ∧ 0 ≤ u ∧ u < 10 ^ kq ∧ u < 18446744073709551616) ∧ Aside0 (strOfNums (decL kq u acc) = r) ∧ Aside0 (acc.length + kq = 20 ∧ xs.size = 20 ∧ ∀ j, kq ≤ j → j < 20 → xs[j]? = some (.int .u8 (acc.getD (j - kq) 0))) ∧ Aside0 (wr.heap[w.heap.size]? = some (.cells xs 219 (0, 0))) ∧ Aside0 (Below w.heap.size w wr))
  case atStart => exact ⟨a0, [], _, rfl, rfl, ⟨by have := HC.out; omega⟩, HH, ⟨rfl, rfl, fun j h1 h2 => by omega⟩, ⟨blk_new _ _⟩, ⟨below_alloc (Below.refl _ _) _⟩⟩
  case round =>
    obtain ⟨u, acc, xs, rfl, rfl, HU, HF, HX, HL, HB⟩ := hrel
    cases gk with
    | zero => exact absurd HU.out.1 (by omega)
    | succ k =>
      have hat : ((k + 1 : Nat) : Int) - 1 = (k : Int) := by omega
      have hf := fun q => blk_frozen HL.out q
      have hk0 : (0 : Int) ≤ (k : Int) := by omega
      have hk1 : (k : Int) < 20 := by have := HU.out.2.1; omega
      have HK := Aside0.mk hk1
      have hm : Int.tmod u 10 = u % 10 := Int.tmod_eq_emod_of_nonneg HU.out.2.2.1
      have hq : Int.tdiv u 10 = u / 10 := Int.tdiv_eq_ediv_of_nonneg HU.out.2.2.1
      have hwm : IntKind.u64.wrap (u % 10) = u % 10 := dec_u _ (by omega) (by omega)
      have hwa : IntKind.u64.wrap (48 + u % 10) = 48 + u % 10 := dec_u _ (by omega) (by omega)
      have hwq : IntKind.u64.wrap (u / 10) = u / 10 := dec_u _ (by have := HU.out.2.2.1; omega) (by have := HU.out.2.2; omega)
      have hw8 : IntKind.u8.wrap (48 + u % 10) = 48 + u % 10 := by
        simp only [IntKind.wrap, IntKind.bits, IntKind.signed, Bool.false_and, Bool.false_eq_true, if_false]
        omega
      obtain ⟨v0, hc0⟩ : ∃ v0, wr.cell? ⟨w.heap.size, k, none⟩ = some v0 := by
        rw [blk_cell HL.out k]
        exact ⟨_, Array.getElem?_eq_getElem (by have := HX.out.2.1; omega)⟩
      have hX := HX.out
      have hset : ∀ j, k ≤ j → j < 20 → (xs.setIfInBounds k (.int .u8 (48 + u % 10)))[j]? = some (.int .u8 (((48 + u % 10) :: acc).getD (j - k) 0)) := by
        intro j h1 h2
        rw [Array.getElem?_setIfInBounds]
        by_cases hj : k = j
        · subst hj
          simp [show k < xs.size by omega]
        · rw [if_neg hj, hX.2.2 j (by omega) h2, show j - k = (j - (k + 1)) + 1 by omega, List.getD_cons_succ]
      have HS := Aside0.mk hset
      have hfr : (wr.setCell ⟨w.heap.size, k, none⟩ (.int .u8 (48 + u % 10))).heap[w.heap.size]? = some (.cells (xs.setIfInBounds k (.int .u8 (48 + u % 10))) 219 (0, 0)) := blk_set HL.out k _
      have HR := Aside0.mk hfr
      have hsl : ∀ W : World, (Instr.sliceAt 219 (.pointer (some ⟨w.heap.size, 0, none⟩)) (some (.int .i64 (k : Int))) none none).run Tryz.prog W = .ok (.slice (some ⟨w.heap.size, k, none⟩) (20 - k) (20 - k)) W := by
        intro W
        have hal : Tryz.prog.arrayLen 219 = 20 := by kernel_rfl
        rw [run_sliceAt_array_l W 219 _ Tryz.underlying219 .i64 (k : Int) hk0 (by rw [hal]; omega)]
        have hne : ¬ (20 = k) := by omega
        simp only [hal, Int.toNat_natCast, slicedAt, if_neg hne]
        go_simp
      have hcv : (convert 54 9 (.slice (some ⟨w.heap.size, k, none⟩) (20 - k) (20 - k))).run Tryz.prog (wr.setCell ⟨w.heap.size, k, none⟩ (.int .u8 (48 + u % 10))) = .ok (.string (strOfNums ((48 + u % 10) :: acc))) (wr.setCell ⟨w.heap.size, k, none⟩ (.int .u8 (48 + u % 10))) := by
        refine run_convert_bytes_arg _ 54 5 Tryz.underlying54 Tryz.underlying5 _ k _ _ _ (by simp only [List.length_cons]; omega) (fun i hi => ?_) 9 Tryz.underlying9
        rw [blk_cell hfr (k + i), hset (k + i) (by omega) (by omega), show k + i - k = i by omega]
      clear hfr hset hX
      by_cases c1 : u / 10 = 0
      · have c1b := beq_iff_eq.2 c1
        have HC1 := Aside0.mk c1
        clear c1
        go_wp2_with fail
        go_ret
        refine ⟨?_, ?_⟩
        · have h2 := HF.out
          unfold decL at h2
          rw [if_pos HC1.out] at h2
          rw [← h2]
          rfl
        · exact Below.setCell HB.out (p := ⟨w.heap.size, k, none⟩) (Nat.le_refl _) _
      · have c1b := beq_eq_false_iff_ne.2 c1
        have HC1 := Aside0.mk c1
        clear c1
        go_wp2_with fail
        go_roundg k
        case measure => omega
        case rel =>
          refine ⟨u / 10, (48 + u % 10) :: acc, _, rfl, rfl, ⟨?_⟩, ⟨?_⟩, ⟨?_, ?_, HS.out⟩, HR, ⟨Below.setCell HB.out (p := ⟨w.heap.size, k, none⟩) (Nat.le_refl _) _⟩⟩
          · have h1 := HU.out
            have h2 := HC1.out
            have h3 : k ≠ 0 := by
              intro h
              subst h
              have := h1.2.2.2.1
              simp at this
              omega
            refine ⟨by omega, by omega, by omega, ?_, by omega⟩
            have h4 := h1.2.2.2.1
            rw [Int.pow_succ] at h4
            generalize (10 : Int) ^ k = p at h4 ⊢
            omega
          · have h2 := HF.out
            unfold decL at h2
            rw [if_neg HC1.out] at h2
            exact h2
          · have := HX.out.1
            simp only [List.length_cons]
            omega
          · rw [Array.size_setIfInBounds]
            exact HX.out.2.1
def words_size.f (a0 : Int) : Option (Int × ByteArray) := if a0 < 0 then (some (IntKind.u64.wrap (-(IntKind.u64.wrap (a0))), (⟨#[45]⟩ : ByteArray))) else (some (IntKind.u64.wrap (a0), (⟨#[]⟩ : ByteArray)))
set_option maxHeartbeats 8000000 in
set_option maxRecDepth 100000 in
theorem words_size.calls (a0 : Int) (r1 : Int) (r2 : ByteArray) (w : World) (h : words_size.f a0 = some (r1, r2)) :
    Calls Tryz.prog 113 #[.int .i64 a0] w fun e w' => e = .returned (.tuple #[.int .u64 r1, .string r2]) ∧ Drawn0 w w' := by
  have H : (if a0 < 0 then (some (IntKind.u64.wrap (-(IntKind.u64.wrap (a0))), (⟨#[45]⟩ : ByteArray))) else (some (IntKind.u64.wrap (a0), (⟨#[]⟩ : ByteArray)))) = some (r1, r2) := h
  clear h
  by_cases c2 : a0 < 0
  · rw [if_pos c2] at H
    have c2b0 := decide_eq_true c2
    clear c2
    simp only [Option.some.injEq, Prod.mk.injEq] at H
    obtain ⟨rfl, rfl⟩ := H
    go_enter Tryz.func113, Tryz.ntmps113
    go_wp2
    go_ret2
    exact ⟨eqs, drz⟩
  · rw [if_neg c2] at H
    have c2b0 := decide_eq_false c2
    clear c2
    simp only [Option.some.injEq, Prod.mk.injEq] at H
    obtain ⟨rfl, rfl⟩ := H
    go_enter Tryz.func113, Tryz.ntmps113
    go_wp2
    go_ret2
    exact ⟨eqs, drz⟩
def strings_Join.f (l : List ByteArray) (sep : ByteArray) : Option ByteArray := if (Lib.join (l.map (·.data.toList)) sep.data.toList).length ≤ 140737488355328 ∧ l.length ≤ 140737488355328 then some ⟨(Lib.join (l.map (·.data.toList)) sep.data.toList).toArray⟩ else none
theorem strings_Join.calls (A0 : Option Addr) (c0 : Nat) (l0 : List ByteArray) (a1 : ByteArray) (r : ByteArray) (w : World) (hr0 : Kd.C Kd.string w A0 l0.length l0) (hc0 : l0.length ≤ c0) (h : strings_Join.f l0 a1 = some r) :
    Calls Tryz.prog 145 #[.slice A0 l0.length c0, .string a1] w fun e w' => e = .returned (.string r) ∧ Below w.heap.size w w' := by
  unfold strings_Join.f at h
  by_cases c : (Lib.join (l0.map (·.data.toList)) a1.data.toList).length ≤ 140737488355328 ∧ l0.length ≤ 140737488355328
  case neg => rw [if_neg c] at h; cases h
  rw [if_pos c] at h
  obtain rfl := Option.some.inj h
  cases l0 with
  | nil =>
    refine (Go.Proofs.Tryz.strings_Join_none A0 c0 a1 w).mono ?_
    rintro e w' ⟨rfl, rfl⟩
    exact ⟨rfl, Below.refl _ _⟩
  | cons x l =>
    obtain ⟨ad, e0, hx0⟩ := Kd.at_string hr0 (0 : Int) (by omega) (by simp)
    subst e0
    obtain ⟨bk, o, t⟩ := ad
    have ht : t = none := by
      cases t with
      | none => rfl
      | some z =>
        exfalso
        have h1 : w.cell? ⟨bk, o, some z⟩ = some (.string (rdOf ByteArray.empty (x :: l) 0)) := hx0
        unfold World.cell? at h1
        split at h1 <;> simp at h1
    subst ht
    have hadd : ∀ j, (⟨bk, o, none⟩ : Addr).add j = ⟨bk, o + j, none⟩ := fun j => by unfold Addr.add; split <;> simp_all
    refine (Go.Proofs.Tryz.strings_Join bk o c0 (x :: l) a1 w (fun j y hj => ?_) (World.block_lt_of_cell? w _ hx0) c.2 hc0 c.1).mono ?_
    · have hjl : j < (x :: l).length := (List.getElem?_eq_some_iff.1 hj).1
      obtain ⟨ad2, e2, hx2⟩ := Kd.at_string hr0 (j : Int) (by omega) (by omega)
      cases e2
      rw [hadd, Int.toNat_natCast] at hx2
      rw [hx2]
      have : rdOf ByteArray.empty (x :: l) (j : Int) = y := by
        simp only [rdOf, Int.toNat_natCast, List.getD_eq_getElem?_getD, hj, Option.getD_some]
      rw [this]
    · rintro e w' ⟨rfl, hb⟩
      exact ⟨rfl, hb⟩
def words_together.f (a0 : ByteArray) (l1 : List ByteArray) : Option (ByteArray) := (strings_Join.f l1 a0).bind fun t101 => (some t101)
set_option maxHeartbeats 8000000 in
set_option maxRecDepth 100000 in
theorem words_together.calls (a0 : ByteArray) (A1 : Option Addr) (c1 : Nat) (l1 : List ByteArray) (r : ByteArray) (w : World) (hr1 : Kd.C Kd.string w A1 l1.length l1) (hc1 : l1.length ≤ c1) (h : words_together.f a0 l1 = some r) :
    Calls Tryz.prog 112 #[.string a0, .slice A1 l1.length c1] w fun e w' => e = .returned (.string r) ∧ Below w.heap.size w w' := by
  have HR1 := Aside0.mk hr1
  have HC1 := Aside0.mk hc1
  clear hr1 hc1
  have HB := Aside0.mk (Below.refl w.heap.size w)
  have H : ((strings_Join.f l1 a0).bind fun t101 => (some t101)) = some r := h
  clear h
  replace H := bnd H
  obtain ⟨t101, A30, H⟩ := H
  have A3 := Aside0.mk A30
  clear A30
  obtain rfl := Option.some.inj H
  go_enter Tryz.func112, Tryz.ntmps112
  go_wp2_with (first | ((with_reducible refine gate_callee (f := 145) rfl ?_); refine goesL_ (some 7) rfl rfl Tryz.func145 (by kernel_rfl) rfl #[.slice A1 l1.length c1, .string a0] rfl arg ?_; (with_reducible refine (strings_Join.calls _ _ l1 a0 t101 _ ?side1 ?side2 A3.out).mono ?_); (case side1 => repeat (first | exact HR1.out | (with_reducible refine Kd.C_alloc ?_ _) | (with_reducible refine Kd.C_drewN ?_ _) | (with_reducible refine Kd.C_drew ?_))); (case side2 => exact HC1.out); rintro e w4 ⟨rfl, hb⟩; refine ⟨_, rfl, ?_⟩; replace HB := Aside0.mk (below_step bel hb); (try clear hb); (try clear hb2); (try clear hk); (try clear hi)))
  go_ret
  exact ⟨ers, bel⟩
def words_Text.f (a0 : Int) : Option (ByteArray) := (words_size.f a0).bind fun bt101 => ((words_decimal.f bt101.1).bind fun t103 => ((words_together.f (⟨#[]⟩ : ByteArray) (([bt101.2, t103] : List ByteArray))).bind fun t107 => (some t107)))
set_option maxHeartbeats 8000000 in
set_option maxRecDepth 100000 in
theorem words_Text.calls (a0 : Int) (r : ByteArray) (w : World) (h : words_Text.f a0 = some r) :
    Calls Tryz.prog 53 #[.int .i64 a0] w fun e w' => e = .returned (.string r) ∧ Below w.heap.size w w' := by
  have HB := Aside0.mk (Below.refl w.heap.size w)
  have H : ((words_size.f a0).bind fun bt101 => ((words_decimal.f bt101.1).bind fun t103 => ((words_together.f (⟨#[]⟩ : ByteArray) (([bt101.2, t103] : List ByteArray))).bind fun t107 => (some t107)))) = some r := h
  clear h
  replace H := bnd H
  obtain ⟨⟨t101, t102⟩, A20, H⟩ := H
  replace H : ((words_decimal.f t101).bind fun t103 => ((words_together.f (⟨#[]⟩ : ByteArray) (([t102, t103] : List ByteArray))).bind fun t107 => (some t107))) = some r := H
  have A2 := Aside0.mk A20
  clear A20
  replace H := bnd H
  obtain ⟨t103, A30, H⟩ := H
  have A3 := Aside0.mk A30
  clear A30
  obtain ⟨y104, hy104⟩ : ∃ y_ : List ByteArray, y_ = (([t102, t103] : List ByteArray)) := ⟨_, rfl⟩
  replace H : ((words_together.f (⟨#[]⟩ : ByteArray) y104).bind fun t107 => (some t107)) = some r := by first | (rw [hy104]; with_reducible exact H) | (have H2_ := (Option.bind_some _ _).symm.trans H; rw [hy104]; with_reducible exact H2_) | (have H2_ := (Option.bind_some _ _).symm.trans H; with_reducible exact H2_) | with_reducible exact H | (rw [hy104]; exact H) | exact H
  have Ny104 := Aside0.mk hy104
  clear hy104
  replace H := bnd H
  obtain ⟨t107, A40, H⟩ := H
  have A4 := Aside0.mk A40
  clear A40
  obtain rfl := Option.some.inj H
  go_enter Tryz.func53, Tryz.ntmps53
  go_wp2_with (first | ((with_reducible refine gate_callee (f := 113) rfl ?_); refine goesL_ (some 7) rfl rfl Tryz.func113 (by kernel_rfl) rfl #[.int .i64 a0] rfl arg ?_; (with_reducible refine (words_size.calls a0 t101 t102 _ A2.out).mono ?_); rintro e w' ⟨rfl, ⟨nd, rfl⟩⟩; refine ⟨_, rfl, ?_⟩) | ((with_reducible refine gate_callee (f := 114) rfl ?_); refine goesL_ (some 12) rfl rfl Tryz.func114 (by kernel_rfl) rfl #[.int .u64 t101] rfl arg ?_; (with_reducible refine (words_decimal.calls t101 t103 _ A3.out).mono ?_); rintro e w5 ⟨rfl, hb⟩; refine ⟨_, rfl, ?_⟩; replace HB := Aside0.mk (below_step bel hb); (try clear hb); (try clear hb2); (try clear hk); (try clear hi)) | ((with_reducible refine gate_dst (N := 13) rfl ?_); refine Kd.R_lit Kd.string _ 9 ?hg (N := 13) ?hd (xs := ([t102, t103] : List ByteArray)) (inner := [.string t102, .string t103]) (ok := fun _ => True) (okp := fun _ => True) ?hr ?hp (fun _ hk => hk) trivial (Below.refl _ _) (Nat.le_refl _) (by simp) ?_; (case hd => rfl); (case hg => rfl); (case hr => first | (go_simp; done) | (go_simp; rfl)); (case hp => exact (Reps.one (show Kd.M Kd.string _ _ _ t102 [.string t102] from rfl) (Reps.one (show Kd.M Kd.string _ _ _ t103 [.string t103] from rfl) (Reps.none _ _)))); intro v105 w6 ho7 hb hg_ hnew_; clear hg_ hnew_; (first | rw [← Ny104.out] at ho7 | (simp only [Int.reduceToNat] at ho7; rw [← Ny104.out] at ho7)); have HO106 := Aside0.mk (Kd.R_lower ho7 (below_size bel)); replace HB := Aside0.mk (below_step bel hb); clear hb ho7; obtain ⟨Ao8, co8, eo8⟩ := Kd.R_slice HO106.out; subst eo8) | ((with_reducible refine gate_callee (f := 112) rfl ?_); refine goesL_ (some 14) rfl rfl Tryz.func112 (by kernel_rfl) rfl #[.string (⟨#[]⟩ : ByteArray), .slice Ao8 y104.length co8] rfl arg ?_; (with_reducible refine (words_together.calls (⟨#[]⟩ : ByteArray) _ _ y104 t107 _ ?side1 ?side2 A4.out).mono ?_); (case side1 => repeat (first | exact (Kd.R_reads' HO106.out).2.2 | (with_reducible refine Kd.C_alloc ?_ _) | (with_reducible refine Kd.C_drewN ?_ _) | (with_reducible refine Kd.C_drew ?_))); (case side2 => exact (Kd.R_reads' HO106.out).2.1); rintro e w9 ⟨rfl, hb⟩; refine ⟨_, rfl, ?_⟩; replace HO106 := Aside0.mk (Kd.R_below (kr HO106.out) hb); replace HB := Aside0.mk (below_step bel hb); (try clear hb); (try clear hb2); (try clear hk); (try clear hi)))
  go_ret
  exact ⟨ers, bel⟩
def series_Print.j0 : Nat → ByteArray → Bool → ByteArray → Int → Int → Int → Option (ByteArray)
  | 0, _, _, _, _, _, _ => none
  | k + 1, x3, x18, x102000, x102001, x102002, x102003 => if x18 = true then (some (⟨#[]⟩ : ByteArray)) else (if x102000.size + 1 ≤ 9223372036854775807 then ((strings_ReplaceAll.f x3 (⟨#[45]⟩ : ByteArray) (⟨#[]⟩ : ByteArray)).bind fun t103 => (if (x102000 ++ (⟨#[46]⟩ : ByteArray)).size + t103.size ≤ 9223372036854775807 then (if ((x102000 ++ (⟨#[46]⟩ : ByteArray)) ++ t103).size + 1 ≤ 9223372036854775807 then (if x102001 = 2 then (if (((x102000 ++ (⟨#[46]⟩ : ByteArray)) ++ t103) ++ (⟨#[46]⟩ : ByteArray)).size + 1 ≤ 9223372036854775807 then ((words_Text.f x102003).bind fun t104 => (if ((((x102000 ++ (⟨#[46]⟩ : ByteArray)) ++ t103) ++ (⟨#[46]⟩ : ByteArray)) ++ (⟨#[99]⟩ : ByteArray)).size + t104.size ≤ 9223372036854775807 then (some (((((x102000 ++ (⟨#[46]⟩ : ByteArray)) ++ t103) ++ (⟨#[46]⟩ : ByteArray)) ++ (⟨#[99]⟩ : ByteArray)) ++ t104)) else (none))) else (none)) else (if x102001 = 3 then (if (((x102000 ++ (⟨#[46]⟩ : ByteArray)) ++ t103) ++ (⟨#[46]⟩ : ByteArray)).size + 1 ≤ 9223372036854775807 then ((words_Text.f x102003).bind fun t105 => (if ((((x102000 ++ (⟨#[46]⟩ : ByteArray)) ++ t103) ++ (⟨#[46]⟩ : ByteArray)) ++ (⟨#[112]⟩ : ByteArray)).size + t105.size ≤ 9223372036854775807 then (some (((((x102000 ++ (⟨#[46]⟩ : ByteArray)) ++ t103) ++ (⟨#[46]⟩ : ByteArray)) ++ (⟨#[112]⟩ : ByteArray)) ++ t105)) else (none))) else (none)) else (if (((x102000 ++ (⟨#[46]⟩ : ByteArray)) ++ t103) ++ (⟨#[46]⟩ : ByteArray)).size + 1 ≤ 9223372036854775807 then (some ((((x102000 ++ (⟨#[46]⟩ : ByteArray)) ++ t103) ++ (⟨#[46]⟩ : ByteArray)) ++ (⟨#[102]⟩ : ByteArray))) else (none)))) else (none)) else (none))) else (none))
def series_Print.f (k : Nat) (a0_0 : ByteArray) (a0_1 : Int) (a0_2 : Int) (a0_3 : Int) : Option (ByteArray) := (date_Print.f a0_2).bind fun t102 => (if a0_1 < 1 then (series_Print.j0 k t102 true a0_0 a0_1 a0_2 a0_3) else (if a0_1 > 3 then (series_Print.j0 k t102 true a0_0 a0_1 a0_2 a0_3) else (series_Print.j0 k t102 (t102.toList == ([] : List UInt8)) a0_0 a0_1 a0_2 a0_3)))
theorem series_Print.mono_l : ∀ k, (∀ y0 y1 y2 y3 y4 y5, LeO (series_Print.j0 k y0 y1 y2 y3 y4 y5) (series_Print.j0 (k + 1) y0 y1 y2 y3 y4 y5))
  | 0 => fun _ _ _ _ _ _ r h => by simp [series_Print.j0] at h
  | k + 1 => by
    have ih0 := series_Print.mono_l k
    · intro y0 y1 y2 y3 y4 y5
      unfold series_Print.j0
      repeat' first
      | (with_reducible exact ih0 _ _ _ _ _ _)
      | (with_reducible exact LeO.refl _)
      | (with_reducible exact LeO.none _)
      | (with_reducible refine LeO.ite ?_ ?_)
      | (with_reducible refine LeO.bind ?_ (fun _ => ?_))
      | exact ih0 _ _ _ _ _ _
      | exact LeO.none _
      | refine LeO.ite ?_ ?_
      | refine LeO.bind ?_ (fun _ => ?_)
theorem series_Print.mono : ∀ a0 a1 a2 a3 k, LeO (series_Print.f k a0 a1 a2 a3) (series_Print.f (k + 1) a0 a1 a2 a3) := by
  intro a0 a1 a2 a3 k
  have ih0 := series_Print.mono_l k
  unfold series_Print.f
  repeat' first
      | (with_reducible exact ih0 _ _ _ _ _ _)
      | (with_reducible exact LeO.refl _)
      | (with_reducible exact LeO.none _)
      | (with_reducible refine LeO.ite ?_ ?_)
      | (with_reducible refine LeO.bind ?_ (fun _ => ?_))
      | exact ih0 _ _ _ _ _ _
      | exact LeO.none _
      | refine LeO.ite ?_ ?_
      | refine LeO.bind ?_ (fun _ => ?_)
def series_Print.T4 : Bool × List (List Nat × List Nat) := (true, [([], []), ([0], [0]), ([1], [1]), ([], []), ([3], [3]), ([2, 4], [2, 4]), ([5], [5]), ([6, 4, 0, 1, 2, 3, 4, 5, 6], [6])])
def series_Print.B4 : List Nat := [0, 1, 3, 0, 8, 31, 63, 127]
theorem series_Print.tab4 : rtab .any (opsOf Tryz.f54 4) = series_Print.T4 := by kernel_rfl
theorem series_Print.bits4 : waitsOk series_Print.T4.2 series_Print.B4 = true := by kernel_rfl
set_option maxHeartbeats 8000000 in
set_option maxRecDepth 100000 in
theorem series_Print.calls (k : Nat) (a0_0 : ByteArray) (a0_1 : Int) (a0_2 : Int) (a0_3 : Int) (r : ByteArray) (w : World) (h : series_Print.f k a0_0 a0_1 a0_2 a0_3 = some r) (hGL : GlobD w) :
    Calls Tryz.prog 54 #[.agg #[.string a0_0, .int .i64 a0_1, .int .i64 a0_2, .int .i64 a0_3]] w fun e w' => e = .returned (.string r) ∧ Below w.heap.size w w' := by
  have hu23 := Tryz.underlying23
  have HB := Aside0.mk (Below.refl w.heap.size w)
  have HGL := Aside0.mk hGL
  clear hGL
  have H : ((date_Print.f a0_2).bind fun t102 => (if a0_1 < 1 then (series_Print.j0 k t102 true a0_0 a0_1 a0_2 a0_3) else (if a0_1 > 3 then (series_Print.j0 k t102 true a0_0 a0_1 a0_2 a0_3) else (series_Print.j0 k t102 (t102.toList == ([] : List UInt8)) a0_0 a0_1 a0_2 a0_3)))) = some r := h
  clear h
  replace H := bnd H
  obtain ⟨t102, A20, H⟩ := H
  have A2 := Aside0.mk A20
  clear A20
  have HC3 := Aside0.mk H
  clear H
  go_enter Tryz.func54, Tryz.ntmps54
  go_upto_region 2 with (first | ((with_reducible refine gate_dst (N := 1) rfl ?_); refine box_event ?hg (N := 1) ?hd (cs := #[.string a0_0, .int .i64 a0_1, .int .i64 a0_2, .int .i64 a0_3]) (t := 23) ?hr ?_; (case hd => rfl); (case hg => rfl); (case hr => first | (go_simp; done) | (go_simp; rfl)); intro gb101 hg w4 hbox hb; have BK101 := Aside0.mk (hbox); have GW101 := Aside0.mk ((gsz hg : w.heap.size ≤ gb101)); have GE101 := Aside0.mk ((gsz hg : w.heap.size ≤ gb101)); replace HB := Aside0.mk (below_step bel hb); clear hb hbox hg; obtain ⟨hcz5_0, hcz5_1, hcz5_2, hcz5_3, hfz5_0, hfz5_1, hfz5_2, hfz5_3⟩ := cz4 BK101.out) | ((with_reducible refine gate_callee (f := 115) rfl ?_); refine goesL_ (some 6) rfl rfl Tryz.func115 (by kernel_rfl) rfl #[.int .i64 a0_2] rfl arg ?_; (with_reducible refine (date_Print.calls a0_2 t102 _ A2.out (glob_of HGL.out bel)).mono ?_); rintro e w6 ⟨rfl, hb⟩; refine ⟨_, rfl, ?_⟩; replace BK101 := Aside0.mk (blk_below (g := gb101) (bw BK101.out) hb); replace HB := Aside0.mk (below_step bel hb); (try clear hb); (try clear hb2); (try clear hk); (try clear hi)))
  (try simp only [Act.put, List.setIfInBounds_toArray, List.set_cons_zero, List.set_cons_succ])
  go_cut [18] (fun v18 wc => ∃ (kq : Nat) (x18_2 : Bool), v18 = .bool x18_2 ∧ Aside0 (series_Print.j0 kq t102 x18_2 a0_0 a0_1 a0_2 a0_3 = some r) ∧ Aside0 (kq ≤ k) ∧ Aside0 (wc.heap[gb101]? = some (.cells #[.string a0_0, .int .i64 a0_1, .int .i64 a0_2, .int .i64 a0_3] 23 (0, 0))) ∧ Aside0 (Below w.heap.size w wc))
  case first =>
    have H := HC3.out
    clear HC3
    by_cases c7 : a0_1 < 1
    · rw [if_pos c7] at H
      have c7b0 := decide_eq_true c7
      clear c7
      (first | rw [c7b0] | (simp only [i64_w, i32_w]; rw [c7b0]) | skip)
      have H' := Aside0.mk H
      clear H
      obtain ⟨hcz8_0, hcz8_1, hcz8_2, hcz8_3, hfz8_0, hfz8_1, hfz8_2, hfz8_3⟩ := cz4 BK101.out
      go_wp2
      go_meet
      case rel => exact ⟨_, (true), eqs, H', ⟨by first | omega | exact Nat.le_refl _⟩, ⟨bw BK101.out⟩, ⟨bel⟩⟩
    · rw [if_neg c7] at H
      have c7b0 := decide_eq_false c7
      clear c7
      (first | rw [c7b0] | (simp only [i64_w, i32_w]; rw [c7b0]) | skip)
      by_cases c9 : a0_1 > 3
      · rw [if_pos c9] at H
        have c9b0 : decide (3 < a0_1) = true := decide_eq_true c9
        clear c9
        have H' := Aside0.mk H
        clear H
        obtain ⟨hcz10_0, hcz10_1, hcz10_2, hcz10_3, hfz10_0, hfz10_1, hfz10_2, hfz10_3⟩ := cz4 BK101.out
        go_wp2
        go_meet
        case rel => exact ⟨_, (true), eqs, H', ⟨by first | omega | exact Nat.le_refl _⟩, ⟨bw BK101.out⟩, ⟨bel⟩⟩
      · rw [if_neg c9] at H
        have c9b0 : decide (3 < a0_1) = false := decide_eq_false c9
        clear c9
        have H' := Aside0.mk H
        clear H
        obtain ⟨hcz11_0, hcz11_1, hcz11_2, hcz11_3, hfz11_0, hfz11_1, hfz11_2, hfz11_3⟩ := cz4 BK101.out
        go_wp2
        go_meet
        case rel => exact ⟨_, ((t102.toList == ([] : List UInt8))), eqs, H', ⟨by first | omega | exact Nat.le_refl _⟩, ⟨bw BK101.out⟩, ⟨bel⟩⟩
  case rest =>
    clear HC3
    try clear c1
    try clear p2
    try clear c5
    try clear c7
    try clear c7b0
    try clear c9
    try clear c9b0
    try clear c11
    try clear hcz10_0 hcz10_1 hcz10_2 hcz10_3
    try clear hcz11_0 hcz11_1 hcz11_2 hcz11_3
    try clear hcz5_0 hcz5_1 hcz5_2 hcz5_3
    try clear hcz8_0 hcz8_1 hcz8_2 hcz8_3
    try clear hfz10_0 hfz10_1 hfz10_2 hfz10_3
    try clear hfz11_0 hfz11_1 hfz11_2 hfz11_3
    try clear hfz5_0 hfz5_1 hfz5_2 hfz5_3
    try clear hfz8_0 hfz8_1 hfz8_2 hfz8_3
    obtain ⟨kq, x18_2, rfl, HA, HJ2, BK101, HB⟩ := hcut
    cases kq with
    | zero => exact absurd HA.out (by simp [series_Print.j0])
    | succ kj2 =>
      have H := HA.out
      clear HA
      simp only [series_Print.j0] at H
      by_cases c12 : x18_2 = true
      · subst c12
        rw [if_pos rfl] at H
        obtain rfl := Option.some.inj H
        go_wp2
        go_ret
        exact ⟨ers, bel⟩
      · replace c12 := Bool.eq_false_iff.mpr c12
        subst c12
        rw [if_neg (show ¬ (false = true) by decide)] at H
        by_cases c13 : a0_0.size + 1 ≤ 9223372036854775807
        · rw [if_pos c13] at H
          have c13b0 := eq_true c13
          have c13b1 := decide_eq_true c13
          try have c13b2 : (9223372036854775807 < a0_0.size + 1) = False := eq_false (Nat.not_lt.2 c13)
          try (have c13b3 := c13; simp only [ByteArray.size_append, ByteArray.size_extract, Nat.min_self, Nat.zero_add] at c13b3; replace c13b3 := eq_false (Nat.not_lt.2 c13b3))
          replace H := bnd H
          obtain ⟨t103, A140, H⟩ := H
          have A14 := Aside0.mk A140
          clear A140
          by_cases c15 : (a0_0 ++ (⟨#[46]⟩ : ByteArray)).size + t103.size ≤ 9223372036854775807
          · rw [if_pos c15] at H
            have c15b0 := eq_true c15
            have c15b1 := decide_eq_true c15
            try have c15b2 : (9223372036854775807 < (a0_0 ++ (⟨#[46]⟩ : ByteArray)).size + t103.size) = False := eq_false (Nat.not_lt.2 c15)
            try (have c15b3 := c15; simp only [ByteArray.size_append, ByteArray.size_extract, Nat.min_self, Nat.zero_add, show (⟨#[46]⟩ : ByteArray).size = 1 from rfl] at c15b3; replace c15b3 := eq_false (Nat.not_lt.2 c15b3))
            by_cases c16 : ((a0_0 ++ (⟨#[46]⟩ : ByteArray)) ++ t103).size + 1 ≤ 9223372036854775807
            · rw [if_pos c16] at H
              have c16b0 := eq_true c16
              have c16b1 := decide_eq_true c16
              try have c16b2 : (9223372036854775807 < ((a0_0 ++ (⟨#[46]⟩ : ByteArray)) ++ t103).size + 1) = False := eq_false (Nat.not_lt.2 c16)
              try (have c16b3 := c16; simp only [ByteArray.size_append, ByteArray.size_extract, Nat.min_self, Nat.zero_add, show (⟨#[46]⟩ : ByteArray).size = 1 from rfl] at c16b3; replace c16b3 := eq_false (Nat.not_lt.2 c16b3))
              by_cases c17 : a0_1 = 2
              · rw [if_pos c17] at H
                have c17b0 : (a0_1 == 2) = true := beq_iff_eq.mpr c17
                have c17b1 : (a0_1 != 2) = false := bne_eq_false_iff_eq.mpr c17
                clear c17
                by_cases c18 : (((a0_0 ++ (⟨#[46]⟩ : ByteArray)) ++ t103) ++ (⟨#[46]⟩ : ByteArray)).size + 1 ≤ 9223372036854775807
                · rw [if_pos c18] at H
                  have c18b0 := eq_true c18
                  have c18b1 := decide_eq_true c18
                  try have c18b2 : (9223372036854775807 < (((a0_0 ++ (⟨#[46]⟩ : ByteArray)) ++ t103) ++ (⟨#[46]⟩ : ByteArray)).size + 1) = False := eq_false (Nat.not_lt.2 c18)
                  try (have c18b3 := c18; simp only [ByteArray.size_append, ByteArray.size_extract, Nat.min_self, Nat.zero_add, show (⟨#[46]⟩ : ByteArray).size = 1 from rfl] at c18b3; replace c18b3 := eq_false (Nat.not_lt.2 c18b3))
                  replace H := bnd H
                  obtain ⟨t104, A190, H⟩ := H
                  have A19 := Aside0.mk A190
                  clear A190
                  by_cases c20 : ((((a0_0 ++ (⟨#[46]⟩ : ByteArray)) ++ t103) ++ (⟨#[46]⟩ : ByteArray)) ++ (⟨#[99]⟩ : ByteArray)).size + t104.size ≤ 9223372036854775807
                  · rw [if_pos c20] at H
                    have c20b0 := eq_true c20
                    have c20b1 := decide_eq_true c20
                    try have c20b2 : (9223372036854775807 < ((((a0_0 ++ (⟨#[46]⟩ : ByteArray)) ++ t103) ++ (⟨#[46]⟩ : ByteArray)) ++ (⟨#[99]⟩ : ByteArray)).size + t104.size) = False := eq_false (Nat.not_lt.2 c20)
                    try (have c20b3 := c20; simp only [ByteArray.size_append, ByteArray.size_extract, Nat.min_self, Nat.zero_add, show (⟨#[46]⟩ : ByteArray).size = 1 from rfl, show (⟨#[99]⟩ : ByteArray).size = 1 from rfl] at c20b3; replace c20b3 := eq_false (Nat.not_lt.2 c20b3))
                    obtain rfl := Option.some.inj H
                    try go_wp2
                    have n0_ := Aside0.mk (blk_drew BK101.out)
                    have n1_ := Aside0.mk (below_drew1 HB.out)
                    clear BK101
                    clear HB
                    have BK101 := n0_
                    have HB := n1_
                    clear n0_ n1_
                    refine start_ (n := 8) (S := fun w' => w'.cell? ⟨gb101, 0, none⟩ = some (.string a0_0) ∧ w'.cell? ⟨gb101, 1, none⟩ = some (.int .i64 a0_1) ∧ w'.cell? ⟨gb101, 2, none⟩ = some (.int .i64 a0_2) ∧ w'.cell? ⟨gb101, 3, none⟩ = some (.int .i64 a0_3)) (ds := []) #[false, false, false, false, false, false, false, false] (by kernel_rfl) rfl rfl ⟨(blk_cell BK101.out 0).trans rfl, (blk_cell BK101.out 1).trans rfl, (blk_cell BK101.out 2).trans rfl, (blk_cell BK101.out 3).trans rfl⟩ (fun hHeld => ?_); refine with_tabW series_Print.tab4 series_Print.bits4 (fun HT_ HW_ => ?_)
                    generalize wc.drew = w21 at BK101 HB hHeld ⊢
                    refine pure_ (i := 0) (N := some 19) (v := ?_) (a' := ?_) #[true, false, false, false, false, false, false, false] rfl rfl (any_of HT_.out (by kernel_rfl)) (fun _ _ _ h => h) (Or.inl ⟨by rfl, ?_⟩) ?_ ?_
                    rotate_left
                    · intro w'
                      go_simp
                      with_reducible rfl
                    rotate_left
                    · simp only [Act.put, List.setIfInBounds_toArray, List.set_cons_zero, List.set_cons_succ, i64_w, i32_w]
                      rfl
                    refine pure_ (i := 3) (N := some 22) (v := ?_) (a' := ?_) #[true, false, false, true, false, false, false, false] rfl rfl (any_of HT_.out (by kernel_rfl)) (fun _ _ _ h => h) (Or.inl ⟨by rfl, ?_⟩) ?_ ?_
                    rotate_left
                    · intro w'
                      go_simp
                      with_reducible rfl
                    rotate_left
                    · simp only [Act.put, List.setIfInBounds_toArray, List.set_cons_zero, List.set_cons_succ, i64_w, i32_w]
                      rfl
                    refine take_ (i := 1) (N := some 20) (v := ?_) (a' := ?_) #[true, true, false, true, false, false, false, false] rfl rfl (take_ofW HT_.out HW_.out (by kernel_rfl)) (fun _ _ _ h => h) (Or.inl ⟨by rfl, ?_⟩) hHeld ?_ ?_
                    rotate_left
                    · rintro w' ⟨s0, s1, s2, s3⟩
                      go_simp
                      with_reducible rfl
                    rotate_left
                    · simp only [Act.put, List.setIfInBounds_toArray, List.set_cons_zero, List.set_cons_succ, i64_w, i32_w]
                      rfl
                    refine pure_ (i := 2) (N := some 21) (v := ?_) (a' := ?_) #[true, true, true, true, false, false, false, false] rfl rfl (any_of HT_.out (by kernel_rfl)) (fun _ _ _ h => h) (Or.inl ⟨by rfl, ?_⟩) ?_ ?_
                    rotate_left
                    · intro w'
                      go_simp
                      with_reducible rfl
                    rotate_left
                    · simp only [Act.put, List.setIfInBounds_toArray, List.set_cons_zero, List.set_cons_succ, i64_w, i32_w]
                      rfl
                    refine one_ (i := 4) (N := some 23) #[true, true, true, true, true, false, false, false] rfl rfl (one_of HT_.out (by kernel_rfl)) (by decide) (fun K hK => ?_)
                    refine goes_ Tryz.func116 (by kernel_rfl) rfl #[.string t102, .string (⟨#[45]⟩ : ByteArray), .string (⟨#[]⟩ : ByteArray)] (by rfl) rfl rfl arg ?_
                    with_reducible refine (strings_ReplaceAll.calls t102 (⟨#[45]⟩ : ByteArray) (⟨#[]⟩ : ByteArray) t103 _ A14.out (glob_of HGL.out bel)).mono ?_
                    rintro e w22 ⟨rfl, hb⟩
                    refine ⟨_, rfl, ?_⟩
                    have n0_ := Aside0.mk (blk_below (g := gb101) (bw BK101.out) hb)
                    have n1_ := Aside0.mk (below_step bel hb)
                    clear BK101
                    clear HB
                    have BK101 := n0_
                    have HB := n1_
                    clear n0_ n1_
                    (try clear hb)
                    (try clear hb2)
                    (try clear hk)
                    (try clear hi)
                    refine hK.out _ _ ⟨(blk_cell BK101.out 0).trans rfl, (blk_cell BK101.out 1).trans rfl, (blk_cell BK101.out 2).trans rfl, (blk_cell BK101.out 3).trans rfl⟩ (fun hHeld => ?_)
                    clear hK K
                    refine norm_ (a' := ?_) ?_ ?_
                    rotate_left
                    · show Act.put _ (some 23) _ = _
                      simp only [Act.put, List.setIfInBounds_toArray, List.set_cons_zero, List.set_cons_succ, i64_w, i32_w]
                      rfl
                    refine pure_ (i := 5) (N := some 24) (v := ?_) (a' := ?_) #[true, true, true, true, true, true, false, false] rfl rfl (any_of HT_.out (by kernel_rfl)) (fun _ _ _ h => h) (Or.inl ⟨by rfl, ?_⟩) ?_ ?_
                    rotate_left
                    · intro w'
                      go_simp
                      with_reducible rfl
                    rotate_left
                    · simp only [Act.put, List.setIfInBounds_toArray, List.set_cons_zero, List.set_cons_succ, i64_w, i32_w]
                      rfl
                    refine pure_ (i := 6) (N := some 25) (v := ?_) (a' := ?_) #[true, true, true, true, true, true, true, false] rfl rfl (any_of HT_.out (by kernel_rfl)) (fun _ _ _ h => h) (Or.inl ⟨by rfl, ?_⟩) ?_ ?_
                    rotate_left
                    · intro w'
                      go_simp
                      with_reducible rfl
                    rotate_left
                    · simp only [Act.put, List.setIfInBounds_toArray, List.set_cons_zero, List.set_cons_succ, i64_w, i32_w]
                      rfl
                    refine pure_ (i := 7) (N := some 2) (v := ?_) (a' := ?_) #[true, true, true, true, true, true, true, true] rfl rfl (any_of HT_.out (by kernel_rfl)) (fun _ _ _ h => h) (Or.inl ⟨by rfl, ?_⟩) ?_ ?_
                    rotate_left
                    · intro w'
                      go_simp
                      with_reducible rfl
                    rotate_left
                    · simp only [Act.put, List.setIfInBounds_toArray, List.set_cons_zero, List.set_cons_succ, i64_w, i32_w]
                      rfl
                    refine done_ (done_of HT_.out (by kernel_rfl)) ?_
                    obtain ⟨hcz23_0, hcz23_1, hcz23_2, hcz23_3, hfz23_0, hfz23_1, hfz23_2, hfz23_3⟩ := cz4 BK101.out
                    try go_wp2_with (first | ((with_reducible refine gate_callee (f := 53) rfl ?_); refine goesL_ (some 34) rfl rfl Tryz.func53 (by kernel_rfl) rfl #[.int .i64 a0_3] rfl arg ?_; (with_reducible refine (words_Text.calls a0_3 t104 _ A19.out).mono ?_); rintro e w24 ⟨rfl, hb⟩; refine ⟨_, rfl, ?_⟩; replace BK101 := Aside0.mk (blk_below (g := gb101) (bw BK101.out) hb); replace HB := Aside0.mk (below_step bel hb); (try clear hb); (try clear hb2); (try clear hk); (try clear hi)))
                    go_ret
                    exact ⟨ers, bel⟩
                  · rw [if_neg c20] at H
                    exact absurd H (by simp)
                · rw [if_neg c18] at H
                  exact absurd H (by simp)
              · rw [if_neg c17] at H
                have c17b0 : (a0_1 == 2) = false := beq_eq_false_iff_ne.mpr c17
                have c17b1 : (a0_1 != 2) = true := bne_iff_ne.mpr c17
                by_cases c25 : a0_1 = 3
                · rw [if_pos c25] at H
                  have c25b0 : (a0_1 == 3) = true := beq_iff_eq.mpr c25
                  have c25b1 : (a0_1 != 3) = false := bne_eq_false_iff_eq.mpr c25
                  clear c25
                  by_cases c26 : (((a0_0 ++ (⟨#[46]⟩ : ByteArray)) ++ t103) ++ (⟨#[46]⟩ : ByteArray)).size + 1 ≤ 9223372036854775807
                  · rw [if_pos c26] at H
                    have c26b0 := eq_true c26
                    have c26b1 := decide_eq_true c26
                    try have c26b2 : (9223372036854775807 < (((a0_0 ++ (⟨#[46]⟩ : ByteArray)) ++ t103) ++ (⟨#[46]⟩ : ByteArray)).size + 1) = False := eq_false (Nat.not_lt.2 c26)
                    try (have c26b3 := c26; simp only [ByteArray.size_append, ByteArray.size_extract, Nat.min_self, Nat.zero_add, show (⟨#[46]⟩ : ByteArray).size = 1 from rfl] at c26b3; replace c26b3 := eq_false (Nat.not_lt.2 c26b3))
                    replace H := bnd H
                    obtain ⟨t105, A270, H⟩ := H
                    have A27 := Aside0.mk A270
                    clear A270
                    by_cases c28 : ((((a0_0 ++ (⟨#[46]⟩ : ByteArray)) ++ t103) ++ (⟨#[46]⟩ : ByteArray)) ++ (⟨#[112]⟩ : ByteArray)).size + t105.size ≤ 9223372036854775807
                    · rw [if_pos c28] at H
                      have c28b0 := eq_true c28
                      have c28b1 := decide_eq_true c28
                      try have c28b2 : (9223372036854775807 < ((((a0_0 ++ (⟨#[46]⟩ : ByteArray)) ++ t103) ++ (⟨#[46]⟩ : ByteArray)) ++ (⟨#[112]⟩ : ByteArray)).size + t105.size) = False := eq_false (Nat.not_lt.2 c28)
                      try (have c28b3 := c28; simp only [ByteArray.size_append, ByteArray.size_extract, Nat.min_self, Nat.zero_add, show (⟨#[112]⟩ : ByteArray).size = 1 from rfl, show (⟨#[46]⟩ : ByteArray).size = 1 from rfl] at c28b3; replace c28b3 := eq_false (Nat.not_lt.2 c28b3))
                      obtain rfl := Option.some.inj H
                      try go_wp2
                      have n0_ := Aside0.mk (blk_drew BK101.out)
                      have n1_ := Aside0.mk (below_drew1 HB.out)
                      clear BK101
                      clear HB
                      have BK101 := n0_
                      have HB := n1_
                      clear n0_ n1_
                      refine start_ (n := 8) (S := fun w' => w'.cell? ⟨gb101, 0, none⟩ = some (.string a0_0) ∧ w'.cell? ⟨gb101, 1, none⟩ = some (.int .i64 a0_1) ∧ w'.cell? ⟨gb101, 2, none⟩ = some (.int .i64 a0_2) ∧ w'.cell? ⟨gb101, 3, none⟩ = some (.int .i64 a0_3)) (ds := []) #[false, false, false, false, false, false, false, false] (by kernel_rfl) rfl rfl ⟨(blk_cell BK101.out 0).trans rfl, (blk_cell BK101.out 1).trans rfl, (blk_cell BK101.out 2).trans rfl, (blk_cell BK101.out 3).trans rfl⟩ (fun hHeld => ?_); refine with_tabW series_Print.tab4 series_Print.bits4 (fun HT_ HW_ => ?_)
                      generalize wc.drew = w29 at BK101 HB hHeld ⊢
                      refine pure_ (i := 0) (N := some 19) (v := ?_) (a' := ?_) #[true, false, false, false, false, false, false, false] rfl rfl (any_of HT_.out (by kernel_rfl)) (fun _ _ _ h => h) (Or.inl ⟨by rfl, ?_⟩) ?_ ?_
                      rotate_left
                      · intro w'
                        go_simp
                        with_reducible rfl
                      rotate_left
                      · simp only [Act.put, List.setIfInBounds_toArray, List.set_cons_zero, List.set_cons_succ, i64_w, i32_w]
                        rfl
                      refine pure_ (i := 3) (N := some 22) (v := ?_) (a' := ?_) #[true, false, false, true, false, false, false, false] rfl rfl (any_of HT_.out (by kernel_rfl)) (fun _ _ _ h => h) (Or.inl ⟨by rfl, ?_⟩) ?_ ?_
                      rotate_left
                      · intro w'
                        go_simp
                        with_reducible rfl
                      rotate_left
                      · simp only [Act.put, List.setIfInBounds_toArray, List.set_cons_zero, List.set_cons_succ, i64_w, i32_w]
                        rfl
                      refine take_ (i := 1) (N := some 20) (v := ?_) (a' := ?_) #[true, true, false, true, false, false, false, false] rfl rfl (take_ofW HT_.out HW_.out (by kernel_rfl)) (fun _ _ _ h => h) (Or.inl ⟨by rfl, ?_⟩) hHeld ?_ ?_
                      rotate_left
                      · rintro w' ⟨s0, s1, s2, s3⟩
                        go_simp
                        with_reducible rfl
                      rotate_left
                      · simp only [Act.put, List.setIfInBounds_toArray, List.set_cons_zero, List.set_cons_succ, i64_w, i32_w]
                        rfl
                      refine pure_ (i := 2) (N := some 21) (v := ?_) (a' := ?_) #[true, true, true, true, false, false, false, false] rfl rfl (any_of HT_.out (by kernel_rfl)) (fun _ _ _ h => h) (Or.inl ⟨by rfl, ?_⟩) ?_ ?_
                      rotate_left
                      · intro w'
                        go_simp
                        with_reducible rfl
                      rotate_left
                      · simp only [Act.put, List.setIfInBounds_toArray, List.set_cons_zero, List.set_cons_succ, i64_w, i32_w]
                        rfl
                      refine one_ (i := 4) (N := some 23) #[true, true, true, true, true, false, false, false] rfl rfl (one_of HT_.out (by kernel_rfl)) (by decide) (fun K hK => ?_)
                      refine goes_ Tryz.func116 (by kernel_rfl) rfl #[.string t102, .string (⟨#[45]⟩ : ByteArray), .string (⟨#[]⟩ : ByteArray)] (by rfl) rfl rfl arg ?_
                      with_reducible refine (strings_ReplaceAll.calls t102 (⟨#[45]⟩ : ByteArray) (⟨#[]⟩ : ByteArray) t103 _ A14.out (glob_of HGL.out bel)).mono ?_
                      rintro e w30 ⟨rfl, hb⟩
                      refine ⟨_, rfl, ?_⟩
                      have n0_ := Aside0.mk (blk_below (g := gb101) (bw BK101.out) hb)
                      have n1_ := Aside0.mk (below_step bel hb)
                      clear BK101
                      clear HB
                      have BK101 := n0_
                      have HB := n1_
                      clear n0_ n1_
                      (try clear hb)
                      (try clear hb2)
                      (try clear hk)
                      (try clear hi)
                      refine hK.out _ _ ⟨(blk_cell BK101.out 0).trans rfl, (blk_cell BK101.out 1).trans rfl, (blk_cell BK101.out 2).trans rfl, (blk_cell BK101.out 3).trans rfl⟩ (fun hHeld => ?_)
                      clear hK K
                      refine norm_ (a' := ?_) ?_ ?_
                      rotate_left
                      · show Act.put _ (some 23) _ = _
                        simp only [Act.put, List.setIfInBounds_toArray, List.set_cons_zero, List.set_cons_succ, i64_w, i32_w]
                        rfl
                      refine pure_ (i := 5) (N := some 24) (v := ?_) (a' := ?_) #[true, true, true, true, true, true, false, false] rfl rfl (any_of HT_.out (by kernel_rfl)) (fun _ _ _ h => h) (Or.inl ⟨by rfl, ?_⟩) ?_ ?_
                      rotate_left
                      · intro w'
                        go_simp
                        with_reducible rfl
                      rotate_left
                      · simp only [Act.put, List.setIfInBounds_toArray, List.set_cons_zero, List.set_cons_succ, i64_w, i32_w]
                        rfl
                      refine pure_ (i := 6) (N := some 25) (v := ?_) (a' := ?_) #[true, true, true, true, true, true, true, false] rfl rfl (any_of HT_.out (by kernel_rfl)) (fun _ _ _ h => h) (Or.inl ⟨by rfl, ?_⟩) ?_ ?_
                      rotate_left
                      · intro w'
                        go_simp
                        with_reducible rfl
                      rotate_left
                      · simp only [Act.put, List.setIfInBounds_toArray, List.set_cons_zero, List.set_cons_succ, i64_w, i32_w]
                        rfl
                      refine pure_ (i := 7) (N := some 2) (v := ?_) (a' := ?_) #[true, true, true, true, true, true, true, true] rfl rfl (any_of HT_.out (by kernel_rfl)) (fun _ _ _ h => h) (Or.inl ⟨by rfl, ?_⟩) ?_ ?_
                      rotate_left
                      · intro w'
                        go_simp
                        with_reducible rfl
                      rotate_left
                      · simp only [Act.put, List.setIfInBounds_toArray, List.set_cons_zero, List.set_cons_succ, i64_w, i32_w]
                        rfl
                      refine done_ (done_of HT_.out (by kernel_rfl)) ?_
                      obtain ⟨hcz31_0, hcz31_1, hcz31_2, hcz31_3, hfz31_0, hfz31_1, hfz31_2, hfz31_3⟩ := cz4 BK101.out
                      try go_wp2_with (first | ((with_reducible refine gate_callee (f := 53) rfl ?_); refine goesL_ (some 42) rfl rfl Tryz.func53 (by kernel_rfl) rfl #[.int .i64 a0_3] rfl arg ?_; (with_reducible refine (words_Text.calls a0_3 t105 _ A27.out).mono ?_); rintro e w32 ⟨rfl, hb⟩; refine ⟨_, rfl, ?_⟩; replace BK101 := Aside0.mk (blk_below (g := gb101) (bw BK101.out) hb); replace HB := Aside0.mk (below_step bel hb); (try clear hb); (try clear hb2); (try clear hk); (try clear hi)))
                      go_ret
                      exact ⟨ers, bel⟩
                    · rw [if_neg c28] at H
                      exact absurd H (by simp)
                  · rw [if_neg c26] at H
                    exact absurd H (by simp)
                · rw [if_neg c25] at H
                  have c25b0 : (a0_1 == 3) = false := beq_eq_false_iff_ne.mpr c25
                  have c25b1 : (a0_1 != 3) = true := bne_iff_ne.mpr c25
                  by_cases c33 : (((a0_0 ++ (⟨#[46]⟩ : ByteArray)) ++ t103) ++ (⟨#[46]⟩ : ByteArray)).size + 1 ≤ 9223372036854775807
                  · rw [if_pos c33] at H
                    have c33b0 := eq_true c33
                    have c33b1 := decide_eq_true c33
                    try have c33b2 : (9223372036854775807 < (((a0_0 ++ (⟨#[46]⟩ : ByteArray)) ++ t103) ++ (⟨#[46]⟩ : ByteArray)).size + 1) = False := eq_false (Nat.not_lt.2 c33)
                    try (have c33b3 := c33; simp only [ByteArray.size_append, ByteArray.size_extract, Nat.min_self, Nat.zero_add, show (⟨#[46]⟩ : ByteArray).size = 1 from rfl] at c33b3; replace c33b3 := eq_false (Nat.not_lt.2 c33b3))
                    obtain rfl := Option.some.inj H
                    try go_wp2
                    have n0_ := Aside0.mk (blk_drew BK101.out)
                    have n1_ := Aside0.mk (below_drew1 HB.out)
                    clear BK101
                    clear HB
                    have BK101 := n0_
                    have HB := n1_
                    clear n0_ n1_
                    refine start_ (n := 8) (S := fun w' => w'.cell? ⟨gb101, 0, none⟩ = some (.string a0_0) ∧ w'.cell? ⟨gb101, 1, none⟩ = some (.int .i64 a0_1) ∧ w'.cell? ⟨gb101, 2, none⟩ = some (.int .i64 a0_2) ∧ w'.cell? ⟨gb101, 3, none⟩ = some (.int .i64 a0_3)) (ds := []) #[false, false, false, false, false, false, false, false] (by kernel_rfl) rfl rfl ⟨(blk_cell BK101.out 0).trans rfl, (blk_cell BK101.out 1).trans rfl, (blk_cell BK101.out 2).trans rfl, (blk_cell BK101.out 3).trans rfl⟩ (fun hHeld => ?_); refine with_tabW series_Print.tab4 series_Print.bits4 (fun HT_ HW_ => ?_)
                    generalize wc.drew = w34 at BK101 HB hHeld ⊢
                    refine pure_ (i := 0) (N := some 19) (v := ?_) (a' := ?_) #[true, false, false, false, false, false, false, false] rfl rfl (any_of HT_.out (by kernel_rfl)) (fun _ _ _ h => h) (Or.inl ⟨by rfl, ?_⟩) ?_ ?_
                    rotate_left
                    · intro w'
                      go_simp
                      with_reducible rfl
                    rotate_left
                    · simp only [Act.put, List.setIfInBounds_toArray, List.set_cons_zero, List.set_cons_succ, i64_w, i32_w]
                      rfl
                    refine pure_ (i := 3) (N := some 22) (v := ?_) (a' := ?_) #[true, false, false, true, false, false, false, false] rfl rfl (any_of HT_.out (by kernel_rfl)) (fun _ _ _ h => h) (Or.inl ⟨by rfl, ?_⟩) ?_ ?_
                    rotate_left
                    · intro w'
                      go_simp
                      with_reducible rfl
                    rotate_left
                    · simp only [Act.put, List.setIfInBounds_toArray, List.set_cons_zero, List.set_cons_succ, i64_w, i32_w]
                      rfl
                    refine take_ (i := 1) (N := some 20) (v := ?_) (a' := ?_) #[true, true, false, true, false, false, false, false] rfl rfl (take_ofW HT_.out HW_.out (by kernel_rfl)) (fun _ _ _ h => h) (Or.inl ⟨by rfl, ?_⟩) hHeld ?_ ?_
                    rotate_left
                    · rintro w' ⟨s0, s1, s2, s3⟩
                      go_simp
                      with_reducible rfl
                    rotate_left
                    · simp only [Act.put, List.setIfInBounds_toArray, List.set_cons_zero, List.set_cons_succ, i64_w, i32_w]
                      rfl
                    refine pure_ (i := 2) (N := some 21) (v := ?_) (a' := ?_) #[true, true, true, true, false, false, false, false] rfl rfl (any_of HT_.out (by kernel_rfl)) (fun _ _ _ h => h) (Or.inl ⟨by rfl, ?_⟩) ?_ ?_
                    rotate_left
                    · intro w'
                      go_simp
                      with_reducible rfl
                    rotate_left
                    · simp only [Act.put, List.setIfInBounds_toArray, List.set_cons_zero, List.set_cons_succ, i64_w, i32_w]
                      rfl
                    refine one_ (i := 4) (N := some 23) #[true, true, true, true, true, false, false, false] rfl rfl (one_of HT_.out (by kernel_rfl)) (by decide) (fun K hK => ?_)
                    refine goes_ Tryz.func116 (by kernel_rfl) rfl #[.string t102, .string (⟨#[45]⟩ : ByteArray), .string (⟨#[]⟩ : ByteArray)] (by rfl) rfl rfl arg ?_
                    with_reducible refine (strings_ReplaceAll.calls t102 (⟨#[45]⟩ : ByteArray) (⟨#[]⟩ : ByteArray) t103 _ A14.out (glob_of HGL.out bel)).mono ?_
                    rintro e w35 ⟨rfl, hb⟩
                    refine ⟨_, rfl, ?_⟩
                    have n0_ := Aside0.mk (blk_below (g := gb101) (bw BK101.out) hb)
                    have n1_ := Aside0.mk (below_step bel hb)
                    clear BK101
                    clear HB
                    have BK101 := n0_
                    have HB := n1_
                    clear n0_ n1_
                    (try clear hb)
                    (try clear hb2)
                    (try clear hk)
                    (try clear hi)
                    refine hK.out _ _ ⟨(blk_cell BK101.out 0).trans rfl, (blk_cell BK101.out 1).trans rfl, (blk_cell BK101.out 2).trans rfl, (blk_cell BK101.out 3).trans rfl⟩ (fun hHeld => ?_)
                    clear hK K
                    refine norm_ (a' := ?_) ?_ ?_
                    rotate_left
                    · show Act.put _ (some 23) _ = _
                      simp only [Act.put, List.setIfInBounds_toArray, List.set_cons_zero, List.set_cons_succ, i64_w, i32_w]
                      rfl
                    refine pure_ (i := 5) (N := some 24) (v := ?_) (a' := ?_) #[true, true, true, true, true, true, false, false] rfl rfl (any_of HT_.out (by kernel_rfl)) (fun _ _ _ h => h) (Or.inl ⟨by rfl, ?_⟩) ?_ ?_
                    rotate_left
                    · intro w'
                      go_simp
                      with_reducible rfl
                    rotate_left
                    · simp only [Act.put, List.setIfInBounds_toArray, List.set_cons_zero, List.set_cons_succ, i64_w, i32_w]
                      rfl
                    refine pure_ (i := 6) (N := some 25) (v := ?_) (a' := ?_) #[true, true, true, true, true, true, true, false] rfl rfl (any_of HT_.out (by kernel_rfl)) (fun _ _ _ h => h) (Or.inl ⟨by rfl, ?_⟩) ?_ ?_
                    rotate_left
                    · intro w'
                      go_simp
                      with_reducible rfl
                    rotate_left
                    · simp only [Act.put, List.setIfInBounds_toArray, List.set_cons_zero, List.set_cons_succ, i64_w, i32_w]
                      rfl
                    refine pure_ (i := 7) (N := some 2) (v := ?_) (a' := ?_) #[true, true, true, true, true, true, true, true] rfl rfl (any_of HT_.out (by kernel_rfl)) (fun _ _ _ h => h) (Or.inl ⟨by rfl, ?_⟩) ?_ ?_
                    rotate_left
                    · intro w'
                      go_simp
                      with_reducible rfl
                    rotate_left
                    · simp only [Act.put, List.setIfInBounds_toArray, List.set_cons_zero, List.set_cons_succ, i64_w, i32_w]
                      rfl
                    refine done_ (done_of HT_.out (by kernel_rfl)) ?_
                    obtain ⟨hcz36_0, hcz36_1, hcz36_2, hcz36_3, hfz36_0, hfz36_1, hfz36_2, hfz36_3⟩ := cz4 BK101.out
                    try go_wp2
                    go_ret
                    exact ⟨ers, bel⟩
                  · rw [if_neg c33] at H
                    exact absurd H (by simp)
            · rw [if_neg c16] at H
              exact absurd H (by simp)
          · rw [if_neg c15] at H
            exact absurd H (by simp)
        · rw [if_neg c13] at H
          exact absurd H (by simp)
def words_Join.f (l0 : List ByteArray) : Option (ByteArray) := (words_together.f (⟨#[32]⟩ : ByteArray) l0).bind fun t101 => (some t101)
set_option maxHeartbeats 8000000 in
set_option maxRecDepth 100000 in
theorem words_Join.calls (A0 : Option Addr) (c0 : Nat) (l0 : List ByteArray) (r : ByteArray) (w : World) (hr0 : Kd.C Kd.string w A0 l0.length l0) (hc0 : l0.length ≤ c0) (h : words_Join.f l0 = some r) :
    Calls Tryz.prog 52 #[.slice A0 l0.length c0] w fun e w' => e = .returned (.string r) ∧ Below w.heap.size w w' := by
  have HR0 := Aside0.mk hr0
  have HC0 := Aside0.mk hc0
  clear hr0 hc0
  have HB := Aside0.mk (Below.refl w.heap.size w)
  have H : ((words_together.f (⟨#[32]⟩ : ByteArray) l0).bind fun t101 => (some t101)) = some r := h
  clear h
  replace H := bnd H
  obtain ⟨t101, A20, H⟩ := H
  have A2 := Aside0.mk A20
  clear A20
  obtain rfl := Option.some.inj H
  go_enter Tryz.func52, Tryz.ntmps52
  go_wp2_with (first | ((with_reducible refine gate_callee (f := 112) rfl ?_); refine goesL_ (some 4) rfl rfl Tryz.func112 (by kernel_rfl) rfl #[.string (⟨#[32]⟩ : ByteArray), .slice A0 l0.length c0] rfl arg ?_; (with_reducible refine (words_together.calls (⟨#[32]⟩ : ByteArray) _ _ l0 t101 _ ?side1 ?side2 A2.out).mono ?_); (case side1 => repeat (first | exact HR0.out | (with_reducible refine Kd.C_alloc ?_ _) | (with_reducible refine Kd.C_drewN ?_ _) | (with_reducible refine Kd.C_drew ?_))); (case side2 => exact HC0.out); rintro e w3 ⟨rfl, hb⟩; refine ⟨_, rfl, ?_⟩; replace HB := Aside0.mk (below_step bel hb); (try clear hb); (try clear hb2); (try clear hk); (try clear hi)))
  go_ret
  exact ⟨ers, bel⟩
def trade_Print.f (k : Nat) (a0_0 : Int) (a0_1 : Int) (a0_2 : Int) (a0_3 : ByteArray) (a0_4 : Int) (a0_5 : Int) (a0_6 : Int) (a0_7 : Int) (a0_8 : Int) (a0_9 : ByteArray) (a0_10 : ByteArray) (a0_11 : ByteArray) (a0_12 : ByteArray) : Option (ByteArray) := (words_Text.f a0_0).bind fun t102 => ((words_Text.f a0_1).bind fun t103 => ((words_Text.f a0_2).bind fun t104 => ((series_Print.f k a0_3 a0_4 a0_5 a0_6).bind fun t105 => ((words_Text.f a0_7).bind fun t106 => ((words_Text.f a0_8).bind fun t107 => ((words_Join.f (([t102, t103, t104, t105, t106, t107, a0_9, a0_10, a0_11, a0_12] : List ByteArray))).bind fun t111 => (some t111)))))))
theorem trade_Print.mono : ∀ a0 a1 a2 a3 a4 a5 a6 a7 a8 a9 a10 a11 a12 k, LeO (trade_Print.f k a0 a1 a2 a3 a4 a5 a6 a7 a8 a9 a10 a11 a12) (trade_Print.f (k + 1) a0 a1 a2 a3 a4 a5 a6 a7 a8 a9 a10 a11 a12) := by
  intro a0 a1 a2 a3 a4 a5 a6 a7 a8 a9 a10 a11 a12 k
  unfold trade_Print.f
  repeat' first
      | (with_reducible exact series_Print.mono _ _ _ _ _)
      | (with_reducible exact LeO.refl _)
      | (with_reducible exact LeO.none _)
      | (with_reducible refine LeO.ite ?_ ?_)
      | (with_reducible refine LeO.bind ?_ (fun _ => ?_))
      | exact series_Print.mono _ _ _ _ _
      | exact LeO.none _
      | refine LeO.ite ?_ ?_
      | refine LeO.bind ?_ (fun _ => ?_)
def trade_Print.T1 : Bool × List (List Nat × List Nat) := (true, [([], []), ([0], [0]), ([1], [1]), ([], []), ([3], [3]), ([4, 2], [4]), ([], []), ([6], [6]), ([7, 5], [7]), ([], []), ([9], [9]), ([10, 8], [10]), ([], []), ([12], [12]), ([13, 11], [13]), ([], []), ([15], [15]), ([16, 14], [16]), ([], []), ([18], [18]), ([19], [19]), ([], []), ([21], [21]), ([22], [22]), ([], []), ([24], [24]), ([25], [25]), ([], []), ([27], [27]), ([28], [28]), ([2, 5, 8, 11, 14, 17, 20, 23, 26, 29], [2, 5, 8, 11, 14, 17, 20, 23, 26, 29]), ([30, 17], [30]), ([31, 31, 0, 1, 2, 3, 4, 5, 6, 7, 8, 9, 10, 11, 12, 13, 14, 15, 16, 17, 18, 19, 20, 21, 22, 23, 24, 25, 26, 27, 28, 29, 30, 31], [31])])
def trade_Print.B1 : List Nat := [0, 1, 3, 0, 8, 31, 0, 64, 255, 0, 512, 2047, 0, 4096, 16383, 0, 32768, 131071, 0, 262144, 786432, 0, 2097152, 6291456, 0, 16777216, 50331648, 0, 134217728, 402653184, 1073741823, 2147483647, 4294967295]
theorem trade_Print.tab1 : rtab .any (opsOf Tryz.f14 1) = trade_Print.T1 := by kernel_rfl
theorem trade_Print.bits1 : waitsOk trade_Print.T1.2 trade_Print.B1 = true := by kernel_rfl
set_option maxHeartbeats 8000000 in
set_option maxRecDepth 100000 in
theorem trade_Print.calls (k : Nat) (a0_0 : Int) (a0_1 : Int) (a0_2 : Int) (a0_3 : ByteArray) (a0_4 : Int) (a0_5 : Int) (a0_6 : Int) (a0_7 : Int) (a0_8 : Int) (a0_9 : ByteArray) (a0_10 : ByteArray) (a0_11 : ByteArray) (a0_12 : ByteArray) (r : ByteArray) (w : World) (h : trade_Print.f k a0_0 a0_1 a0_2 a0_3 a0_4 a0_5 a0_6 a0_7 a0_8 a0_9 a0_10 a0_11 a0_12 = some r) (hGL : GlobD w) :
    Calls Tryz.prog 14 #[.agg #[.int .i64 a0_0, .int .i64 a0_1, .int .i64 a0_2, .string a0_3, .int .i64 a0_4, .int .i64 a0_5, .int .i64 a0_6, .int .i64 a0_7, .int .i64 a0_8, .string a0_9, .string a0_10, .string a0_11, .string a0_12]] w fun e w' => e = .returned (.string r) ∧ Below w.heap.size w w' := by
  have hu27 := Tryz.underlying27
  have hu23 := Tryz.underlying23
  have HB := Aside0.mk (Below.refl w.heap.size w)
  have HGL := Aside0.mk hGL
  clear hGL
  have H : ((words_Text.f a0_0).bind fun t102 => ((words_Text.f a0_1).bind fun t103 => ((words_Text.f a0_2).bind fun t104 => ((series_Print.f k a0_3 a0_4 a0_5 a0_6).bind fun t105 => ((words_Text.f a0_7).bind fun t106 => ((words_Text.f a0_8).bind fun t107 => ((words_Join.f (([t102, t103, t104, t105, t106, t107, a0_9, a0_10, a0_11, a0_12] : List ByteArray))).bind fun t111 => (some t111)))))))) = some r := h
  clear h
  replace H := bnd H
  obtain ⟨t102, A20, H⟩ := H
  have A2 := Aside0.mk A20
  clear A20
  replace H := bnd H
  obtain ⟨t103, A30, H⟩ := H
  have A3 := Aside0.mk A30
  clear A30
  replace H := bnd H
  obtain ⟨t104, A40, H⟩ := H
  have A4 := Aside0.mk A40
  clear A40
  replace H := bnd H
  obtain ⟨t105, A50, H⟩ := H
  have A5 := Aside0.mk A50
  clear A50
  replace H := bnd H
  obtain ⟨t106, A60, H⟩ := H
  have A6 := Aside0.mk A60
  clear A60
  replace H := bnd H
  obtain ⟨t107, A70, H⟩ := H
  have A7 := Aside0.mk A70
  clear A70
  obtain ⟨y108, hy108⟩ : ∃ y_ : List ByteArray, y_ = (([t102, t103, t104, t105, t106, t107, a0_9, a0_10, a0_11, a0_12] : List ByteArray)) := ⟨_, rfl⟩
  replace H : ((words_Join.f y108).bind fun t111 => (some t111)) = some r := by first | (rw [hy108]; with_reducible exact H) | (have H2_ := (Option.bind_some _ _).symm.trans H; rw [hy108]; with_reducible exact H2_) | (have H2_ := (Option.bind_some _ _).symm.trans H; with_reducible exact H2_) | with_reducible exact H | (rw [hy108]; exact H) | exact H
  have Ny108 := Aside0.mk hy108
  clear hy108
  replace H := bnd H
  obtain ⟨t111, A80, H⟩ := H
  have A8 := Aside0.mk A80
  clear A80
  obtain rfl := Option.some.inj H
  go_enter Tryz.func14, Tryz.ntmps14
  try go_wp2_with (first | ((with_reducible refine gate_dst (N := 1) rfl ?_); refine box_event ?hg (N := 1) ?hd (cs := #[.int .i64 a0_0, .int .i64 a0_1, .int .i64 a0_2, .string a0_3, .int .i64 a0_4, .int .i64 a0_5, .int .i64 a0_6, .int .i64 a0_7, .int .i64 a0_8, .string a0_9, .string a0_10, .string a0_11, .string a0_12]) (t := 27) ?hr ?_; (case hd => rfl); (case hg => rfl); (case hr => first | (go_simp; done) | (go_simp; rfl)); intro gb101 hg w9 hbox hb; have BK101 := Aside0.mk (hbox); have GW101 := Aside0.mk ((gsz hg : w.heap.size ≤ gb101)); have GE101 := Aside0.mk ((gsz hg : w.heap.size ≤ gb101)); replace HB := Aside0.mk (below_step bel hb); clear hb hbox hg))
  have n0_ := Aside0.mk (blk_drew BK101.out)
  have n1_ := Aside0.mk (below_drew1 HB.out)
  clear BK101
  clear HB
  have BK101 := n0_
  have HB := n1_
  clear n0_ n1_
  refine start_ (n := 33) (S := fun w' => w'.cell? ⟨gb101, 0, none⟩ = some (.int .i64 a0_0) ∧ w'.cell? ⟨gb101, 1, none⟩ = some (.int .i64 a0_1) ∧ w'.cell? ⟨gb101, 2, none⟩ = some (.int .i64 a0_2) ∧ w'.cell? ⟨gb101, 3, none⟩ = some (.string a0_3) ∧ w'.cell? ⟨gb101, 4, none⟩ = some (.int .i64 a0_4) ∧ w'.cell? ⟨gb101, 5, none⟩ = some (.int .i64 a0_5) ∧ w'.cell? ⟨gb101, 6, none⟩ = some (.int .i64 a0_6) ∧ w'.cell? ⟨gb101, 7, none⟩ = some (.int .i64 a0_7) ∧ w'.cell? ⟨gb101, 8, none⟩ = some (.int .i64 a0_8) ∧ w'.cell? ⟨gb101, 9, none⟩ = some (.string a0_9) ∧ w'.cell? ⟨gb101, 10, none⟩ = some (.string a0_10) ∧ w'.cell? ⟨gb101, 11, none⟩ = some (.string a0_11) ∧ w'.cell? ⟨gb101, 12, none⟩ = some (.string a0_12)) (ds := []) #[false, false, false, false, false, false, false, false, false, false, false, false, false, false, false, false, false, false, false, false, false, false, false, false, false, false, false, false, false, false, false, false, false] (by kernel_rfl) rfl rfl ⟨(blk_cell BK101.out 0).trans rfl, (blk_cell BK101.out 1).trans rfl, (blk_cell BK101.out 2).trans rfl, (blk_cell BK101.out 3).trans rfl, (blk_cell BK101.out 4).trans rfl, (blk_cell BK101.out 5).trans rfl, (blk_cell BK101.out 6).trans rfl, (blk_cell BK101.out 7).trans rfl, (blk_cell BK101.out 8).trans rfl, (blk_cell BK101.out 9).trans rfl, (blk_cell BK101.out 10).trans rfl, (blk_cell BK101.out 11).trans rfl, (blk_cell BK101.out 12).trans rfl⟩ (fun hHeld => ?_); refine with_tabW trade_Print.tab1 trade_Print.bits1 (fun HT_ HW_ => ?_)
  generalize w9.drew = w10 at BK101 HB hHeld ⊢
  refine pure_ (i := 0) (N := some 3) (v := ?_) (a' := ?_) #[true, false, false, false, false, false, false, false, false, false, false, false, false, false, false, false, false, false, false, false, false, false, false, false, false, false, false, false, false, false, false, false, false] rfl rfl (any_of HT_.out (by kernel_rfl)) (fun _ _ _ h => h) (Or.inl ⟨by rfl, ?_⟩) ?_ ?_
  rotate_left
  · intro w'
    go_simp
    with_reducible rfl
  rotate_left
  · simp only [Act.put, List.setIfInBounds_toArray, List.set_cons_zero, List.set_cons_succ, i64_w, i32_w]
    rfl
  refine pure_ (i := 3) (N := some 6) (v := ?_) (a' := ?_) #[true, false, false, true, false, false, false, false, false, false, false, false, false, false, false, false, false, false, false, false, false, false, false, false, false, false, false, false, false, false, false, false, false] rfl rfl (any_of HT_.out (by kernel_rfl)) (fun _ _ _ h => h) (Or.inl ⟨by rfl, ?_⟩) ?_ ?_
  rotate_left
  · intro w'
    go_simp
    with_reducible rfl
  rotate_left
  · simp only [Act.put, List.setIfInBounds_toArray, List.set_cons_zero, List.set_cons_succ, i64_w, i32_w]
    rfl
  refine pure_ (i := 6) (N := some 9) (v := ?_) (a' := ?_) #[true, false, false, true, false, false, true, false, false, false, false, false, false, false, false, false, false, false, false, false, false, false, false, false, false, false, false, false, false, false, false, false, false] rfl rfl (any_of HT_.out (by kernel_rfl)) (fun _ _ _ h => h) (Or.inl ⟨by rfl, ?_⟩) ?_ ?_
  rotate_left
  · intro w'
    go_simp
    with_reducible rfl
  rotate_left
  · simp only [Act.put, List.setIfInBounds_toArray, List.set_cons_zero, List.set_cons_succ, i64_w, i32_w]
    rfl
  refine pure_ (i := 9) (N := some 12) (v := ?_) (a' := ?_) #[true, false, false, true, false, false, true, false, false, true, false, false, false, false, false, false, false, false, false, false, false, false, false, false, false, false, false, false, false, false, false, false, false] rfl rfl (any_of HT_.out (by kernel_rfl)) (fun _ _ _ h => h) (Or.inl ⟨by rfl, ?_⟩) ?_ ?_
  rotate_left
  · intro w'
    go_simp
    with_reducible rfl
  rotate_left
  · simp only [Act.put, List.setIfInBounds_toArray, List.set_cons_zero, List.set_cons_succ, i64_w, i32_w]
    rfl
  refine pure_ (i := 12) (N := some 15) (v := ?_) (a' := ?_) #[true, false, false, true, false, false, true, false, false, true, false, false, true, false, false, false, false, false, false, false, false, false, false, false, false, false, false, false, false, false, false, false, false] rfl rfl (any_of HT_.out (by kernel_rfl)) (fun _ _ _ h => h) (Or.inl ⟨by rfl, ?_⟩) ?_ ?_
  rotate_left
  · intro w'
    go_simp
    with_reducible rfl
  rotate_left
  · simp only [Act.put, List.setIfInBounds_toArray, List.set_cons_zero, List.set_cons_succ, i64_w, i32_w]
    rfl
  refine pure_ (i := 15) (N := some 18) (v := ?_) (a' := ?_) #[true, false, false, true, false, false, true, false, false, true, false, false, true, false, false, true, false, false, false, false, false, false, false, false, false, false, false, false, false, false, false, false, false] rfl rfl (any_of HT_.out (by kernel_rfl)) (fun _ _ _ h => h) (Or.inl ⟨by rfl, ?_⟩) ?_ ?_
  rotate_left
  · intro w'
    go_simp
    with_reducible rfl
  rotate_left
  · simp only [Act.put, List.setIfInBounds_toArray, List.set_cons_zero, List.set_cons_succ, i64_w, i32_w]
    rfl
  refine pure_ (i := 18) (N := some 21) (v := ?_) (a' := ?_) #[true, false, false, true, false, false, true, false, false, true, false, false, true, false, false, true, false, false, true, false, false, false, false, false, false, false, false, false, false, false, false, false, false] rfl rfl (any_of HT_.out (by kernel_rfl)) (fun _ _ _ h => h) (Or.inl ⟨by rfl, ?_⟩) ?_ ?_
  rotate_left
  · intro w'
    go_simp
    with_reducible rfl
  rotate_left
  · simp only [Act.put, List.setIfInBounds_toArray, List.set_cons_zero, List.set_cons_succ, i64_w, i32_w]
    rfl
  refine pure_ (i := 19) (N := some 22) (v := ?_) (a' := ?_) #[true, false, false, true, false, false, true, false, false, true, false, false, true, false, false, true, false, false, true, true, false, false, false, false, false, false, false, false, false, false, false, false, false] rfl rfl (any_of HT_.out (by kernel_rfl)) (fun _ _ _ h => h) (Or.inl ⟨by rfl, ?_⟩) ?_ ?_
  rotate_left
  · intro w'
    go_simp
    with_reducible rfl
  rotate_left
  · simp only [Act.put, List.setIfInBounds_toArray, List.set_cons_zero, List.set_cons_succ, i64_w, i32_w]
    rfl
  refine pure_ (i := 21) (N := some 24) (v := ?_) (a' := ?_) #[true, false, false, true, false, false, true, false, false, true, false, false, true, false, false, true, false, false, true, true, false, true, false, false, false, false, false, false, false, false, false, false, false] rfl rfl (any_of HT_.out (by kernel_rfl)) (fun _ _ _ h => h) (Or.inl ⟨by rfl, ?_⟩) ?_ ?_
  rotate_left
  · intro w'
    go_simp
    with_reducible rfl
  rotate_left
  · simp only [Act.put, List.setIfInBounds_toArray, List.set_cons_zero, List.set_cons_succ, i64_w, i32_w]
    rfl
  refine pure_ (i := 22) (N := some 25) (v := ?_) (a' := ?_) #[true, false, false, true, false, false, true, false, false, true, false, false, true, false, false, true, false, false, true, true, false, true, true, false, false, false, false, false, false, false, false, false, false] rfl rfl (any_of HT_.out (by kernel_rfl)) (fun _ _ _ h => h) (Or.inl ⟨by rfl, ?_⟩) ?_ ?_
  rotate_left
  · intro w'
    go_simp
    with_reducible rfl
  rotate_left
  · simp only [Act.put, List.setIfInBounds_toArray, List.set_cons_zero, List.set_cons_succ, i64_w, i32_w]
    rfl
  refine pure_ (i := 24) (N := some 27) (v := ?_) (a' := ?_) #[true, false, false, true, false, false, true, false, false, true, false, false, true, false, false, true, false, false, true, true, false, true, true, false, true, false, false, false, false, false, false, false, false] rfl rfl (any_of HT_.out (by kernel_rfl)) (fun _ _ _ h => h) (Or.inl ⟨by rfl, ?_⟩) ?_ ?_
  rotate_left
  · intro w'
    go_simp
    with_reducible rfl
  rotate_left
  · simp only [Act.put, List.setIfInBounds_toArray, List.set_cons_zero, List.set_cons_succ, i64_w, i32_w]
    rfl
  refine pure_ (i := 25) (N := some 28) (v := ?_) (a' := ?_) #[true, false, false, true, false, false, true, false, false, true, false, false, true, false, false, true, false, false, true, true, false, true, true, false, true, true, false, false, false, false, false, false, false] rfl rfl (any_of HT_.out (by kernel_rfl)) (fun _ _ _ h => h) (Or.inl ⟨by rfl, ?_⟩) ?_ ?_
  rotate_left
  · intro w'
    go_simp
    with_reducible rfl
  rotate_left
  · simp only [Act.put, List.setIfInBounds_toArray, List.set_cons_zero, List.set_cons_succ, i64_w, i32_w]
    rfl
  refine pure_ (i := 27) (N := some 30) (v := ?_) (a' := ?_) #[true, false, false, true, false, false, true, false, false, true, false, false, true, false, false, true, false, false, true, true, false, true, true, false, true, true, false, true, false, false, false, false, false] rfl rfl (any_of HT_.out (by kernel_rfl)) (fun _ _ _ h => h) (Or.inl ⟨by rfl, ?_⟩) ?_ ?_
  rotate_left
  · intro w'
    go_simp
    with_reducible rfl
  rotate_left
  · simp only [Act.put, List.setIfInBounds_toArray, List.set_cons_zero, List.set_cons_succ, i64_w, i32_w]
    rfl
  refine pure_ (i := 28) (N := some 31) (v := ?_) (a' := ?_) #[true, false, false, true, false, false, true, false, false, true, false, false, true, false, false, true, false, false, true, true, false, true, true, false, true, true, false, true, true, false, false, false, false] rfl rfl (any_of HT_.out (by kernel_rfl)) (fun _ _ _ h => h) (Or.inl ⟨by rfl, ?_⟩) ?_ ?_
  rotate_left
  · intro w'
    go_simp
    with_reducible rfl
  rotate_left
  · simp only [Act.put, List.setIfInBounds_toArray, List.set_cons_zero, List.set_cons_succ, i64_w, i32_w]
    rfl
  refine take_ (i := 1) (N := some 4) (v := ?_) (a' := ?_) #[true, true, false, true, false, false, true, false, false, true, false, false, true, false, false, true, false, false, true, true, false, true, true, false, true, true, false, true, true, false, false, false, false] rfl rfl (take_ofW HT_.out HW_.out (by kernel_rfl)) (fun _ _ _ h => h) (Or.inl ⟨by rfl, ?_⟩) hHeld ?_ ?_
  rotate_left
  · rintro w' ⟨s0, s1, s2, s3, s4, s5, s6, s7, s8, s9, s10, s11, s12⟩
    go_simp
    with_reducible rfl
  rotate_left
  · simp only [Act.put, List.setIfInBounds_toArray, List.set_cons_zero, List.set_cons_succ, i64_w, i32_w]
    rfl
  refine take_ (i := 4) (N := some 7) (v := ?_) (a' := ?_) #[true, true, false, true, true, false, true, false, false, true, false, false, true, false, false, true, false, false, true, true, false, true, true, false, true, true, false, true, true, false, false, false, false] rfl rfl (take_ofW HT_.out HW_.out (by kernel_rfl)) (fun _ _ _ h => h) (Or.inl ⟨by rfl, ?_⟩) hHeld ?_ ?_
  rotate_left
  · rintro w' ⟨s0, s1, s2, s3, s4, s5, s6, s7, s8, s9, s10, s11, s12⟩
    go_simp
    with_reducible rfl
  rotate_left
  · simp only [Act.put, List.setIfInBounds_toArray, List.set_cons_zero, List.set_cons_succ, i64_w, i32_w]
    rfl
  refine take_ (i := 7) (N := some 10) (v := ?_) (a' := ?_) #[true, true, false, true, true, false, true, true, false, true, false, false, true, false, false, true, false, false, true, true, false, true, true, false, true, true, false, true, true, false, false, false, false] rfl rfl (take_ofW HT_.out HW_.out (by kernel_rfl)) (fun _ _ _ h => h) (Or.inl ⟨by rfl, ?_⟩) hHeld ?_ ?_
  rotate_left
  · rintro w' ⟨s0, s1, s2, s3, s4, s5, s6, s7, s8, s9, s10, s11, s12⟩
    go_simp
    with_reducible rfl
  rotate_left
  · simp only [Act.put, List.setIfInBounds_toArray, List.set_cons_zero, List.set_cons_succ, i64_w, i32_w]
    rfl
  refine take_ (i := 10) (N := some 13) (v := ?_) (a' := ?_) #[true, true, false, true, true, false, true, true, false, true, true, false, true, false, false, true, false, false, true, true, false, true, true, false, true, true, false, true, true, false, false, false, false] rfl rfl (take_ofW HT_.out HW_.out (by kernel_rfl)) (fun _ _ _ h => h) (Or.inl ⟨by rfl, ?_⟩) hHeld ?_ ?_
  rotate_left
  · rintro w' ⟨s0, s1, s2, s3, s4, s5, s6, s7, s8, s9, s10, s11, s12⟩
    go_simp
    with_reducible rfl
  rotate_left
  · simp only [Act.put, List.setIfInBounds_toArray, List.set_cons_zero, List.set_cons_succ, i64_w, i32_w]
    rfl
  refine take_ (i := 13) (N := some 16) (v := ?_) (a' := ?_) #[true, true, false, true, true, false, true, true, false, true, true, false, true, true, false, true, false, false, true, true, false, true, true, false, true, true, false, true, true, false, false, false, false] rfl rfl (take_ofW HT_.out HW_.out (by kernel_rfl)) (fun _ _ _ h => h) (Or.inl ⟨by rfl, ?_⟩) hHeld ?_ ?_
  rotate_left
  · rintro w' ⟨s0, s1, s2, s3, s4, s5, s6, s7, s8, s9, s10, s11, s12⟩
    go_simp
    with_reducible rfl
  rotate_left
  · simp only [Act.put, List.setIfInBounds_toArray, List.set_cons_zero, List.set_cons_succ, i64_w, i32_w]
    rfl
  refine take_ (i := 16) (N := some 19) (v := ?_) (a' := ?_) #[true, true, false, true, true, false, true, true, false, true, true, false, true, true, false, true, true, false, true, true, false, true, true, false, true, true, false, true, true, false, false, false, false] rfl rfl (take_ofW HT_.out HW_.out (by kernel_rfl)) (fun _ _ _ h => h) (Or.inl ⟨by rfl, ?_⟩) hHeld ?_ ?_
  rotate_left
  · rintro w' ⟨s0, s1, s2, s3, s4, s5, s6, s7, s8, s9, s10, s11, s12⟩
    go_simp
    with_reducible rfl
  rotate_left
  · simp only [Act.put, List.setIfInBounds_toArray, List.set_cons_zero, List.set_cons_succ, i64_w, i32_w]
    rfl
  refine take_ (i := 20) (N := some 23) (v := ?_) (a' := ?_) #[true, true, false, true, true, false, true, true, false, true, true, false, true, true, false, true, true, false, true, true, true, true, true, false, true, true, false, true, true, false, false, false, false] rfl rfl (take_ofW HT_.out HW_.out (by kernel_rfl)) (fun _ _ _ h => h) (Or.inl ⟨by rfl, ?_⟩) hHeld ?_ ?_
  rotate_left
  · rintro w' ⟨s0, s1, s2, s3, s4, s5, s6, s7, s8, s9, s10, s11, s12⟩
    go_simp
    with_reducible rfl
  rotate_left
  · simp only [Act.put, List.setIfInBounds_toArray, List.set_cons_zero, List.set_cons_succ, i64_w, i32_w]
    rfl
  refine take_ (i := 23) (N := some 26) (v := ?_) (a' := ?_) #[true, true, false, true, true, false, true, true, false, true, true, false, true, true, false, true, true, false, true, true, true, true, true, true, true, true, false, true, true, false, false, false, false] rfl rfl (take_ofW HT_.out HW_.out (by kernel_rfl)) (fun _ _ _ h => h) (Or.inl ⟨by rfl, ?_⟩) hHeld ?_ ?_
  rotate_left
  · rintro w' ⟨s0, s1, s2, s3, s4, s5, s6, s7, s8, s9, s10, s11, s12⟩
    go_simp
    with_reducible rfl
  rotate_left
  · simp only [Act.put, List.setIfInBounds_toArray, List.set_cons_zero, List.set_cons_succ, i64_w, i32_w]
    rfl
  refine take_ (i := 26) (N := some 29) (v := ?_) (a' := ?_) #[true, true, false, true, true, false, true, true, false, true, true, false, true, true, false, true, true, false, true, true, true, true, true, true, true, true, true, true, true, false, false, false, false] rfl rfl (take_ofW HT_.out HW_.out (by kernel_rfl)) (fun _ _ _ h => h) (Or.inl ⟨by rfl, ?_⟩) hHeld ?_ ?_
  rotate_left
  · rintro w' ⟨s0, s1, s2, s3, s4, s5, s6, s7, s8, s9, s10, s11, s12⟩
    go_simp
    with_reducible rfl
  rotate_left
  · simp only [Act.put, List.setIfInBounds_toArray, List.set_cons_zero, List.set_cons_succ, i64_w, i32_w]
    rfl
  refine take_ (i := 29) (N := some 32) (v := ?_) (a' := ?_) #[true, true, false, true, true, false, true, true, false, true, true, false, true, true, false, true, true, false, true, true, true, true, true, true, true, true, true, true, true, true, false, false, false] rfl rfl (take_ofW HT_.out HW_.out (by kernel_rfl)) (fun _ _ _ h => h) (Or.inl ⟨by rfl, ?_⟩) hHeld ?_ ?_
  rotate_left
  · rintro w' ⟨s0, s1, s2, s3, s4, s5, s6, s7, s8, s9, s10, s11, s12⟩
    go_simp
    with_reducible rfl
  rotate_left
  · simp only [Act.put, List.setIfInBounds_toArray, List.set_cons_zero, List.set_cons_succ, i64_w, i32_w]
    rfl
  refine one_ (i := 2) (N := some 5) #[true, true, true, true, true, false, true, true, false, true, true, false, true, true, false, true, true, false, true, true, true, true, true, true, true, true, true, true, true, true, false, false, false] rfl rfl (one_of HT_.out (by kernel_rfl)) (by decide) (fun K hK => ?_)
  refine goes_ Tryz.func53 (by kernel_rfl) rfl #[.int .i64 a0_0] (by rfl) rfl rfl arg ?_
  with_reducible refine (words_Text.calls a0_0 t102 _ A2.out).mono ?_
  rintro e w11 ⟨rfl, hb⟩
  refine ⟨_, rfl, ?_⟩
  have n0_ := Aside0.mk (blk_below (g := gb101) (bw BK101.out) hb)
  have n1_ := Aside0.mk (below_step bel hb)
  clear BK101
  clear HB
  have BK101 := n0_
  have HB := n1_
  clear n0_ n1_
  (try clear hb)
  (try clear hb2)
  (try clear hk)
  (try clear hi)
  refine hK.out _ _ ⟨(blk_cell BK101.out 0).trans rfl, (blk_cell BK101.out 1).trans rfl, (blk_cell BK101.out 2).trans rfl, (blk_cell BK101.out 3).trans rfl, (blk_cell BK101.out 4).trans rfl, (blk_cell BK101.out 5).trans rfl, (blk_cell BK101.out 6).trans rfl, (blk_cell BK101.out 7).trans rfl, (blk_cell BK101.out 8).trans rfl, (blk_cell BK101.out 9).trans rfl, (blk_cell BK101.out 10).trans rfl, (blk_cell BK101.out 11).trans rfl, (blk_cell BK101.out 12).trans rfl⟩ (fun hHeld => ?_)
  clear hK K
  refine norm_ (a' := ?_) ?_ ?_
  rotate_left
  · show Act.put _ (some 5) _ = _
    simp only [Act.put, List.setIfInBounds_toArray, List.set_cons_zero, List.set_cons_succ, i64_w, i32_w]
    rfl
  refine one_ (i := 5) (N := some 8) #[true, true, true, true, true, true, true, true, false, true, true, false, true, true, false, true, true, false, true, true, true, true, true, true, true, true, true, true, true, true, false, false, false] rfl rfl (one_of HT_.out (by kernel_rfl)) (by decide) (fun K hK => ?_)
  refine goes_ Tryz.func53 (by kernel_rfl) rfl #[.int .i64 a0_1] (by rfl) rfl rfl arg ?_
  with_reducible refine (words_Text.calls a0_1 t103 _ A3.out).mono ?_
  rintro e w12 ⟨rfl, hb⟩
  refine ⟨_, rfl, ?_⟩
  have n0_ := Aside0.mk (blk_below (g := gb101) (bw BK101.out) hb)
  have n1_ := Aside0.mk (below_step bel hb)
  clear BK101
  clear HB
  have BK101 := n0_
  have HB := n1_
  clear n0_ n1_
  (try clear hb)
  (try clear hb2)
  (try clear hk)
  (try clear hi)
  refine hK.out _ _ ⟨(blk_cell BK101.out 0).trans rfl, (blk_cell BK101.out 1).trans rfl, (blk_cell BK101.out 2).trans rfl, (blk_cell BK101.out 3).trans rfl, (blk_cell BK101.out 4).trans rfl, (blk_cell BK101.out 5).trans rfl, (blk_cell BK101.out 6).trans rfl, (blk_cell BK101.out 7).trans rfl, (blk_cell BK101.out 8).trans rfl, (blk_cell BK101.out 9).trans rfl, (blk_cell BK101.out 10).trans rfl, (blk_cell BK101.out 11).trans rfl, (blk_cell BK101.out 12).trans rfl⟩ (fun hHeld => ?_)
  clear hK K
  refine norm_ (a' := ?_) ?_ ?_
  rotate_left
  · show Act.put _ (some 8) _ = _
    simp only [Act.put, List.setIfInBounds_toArray, List.set_cons_zero, List.set_cons_succ, i64_w, i32_w]
    rfl
  refine one_ (i := 8) (N := some 11) #[true, true, true, true, true, true, true, true, true, true, true, false, true, true, false, true, true, false, true, true, true, true, true, true, true, true, true, true, true, true, false, false, false] rfl rfl (one_of HT_.out (by kernel_rfl)) (by decide) (fun K hK => ?_)
  refine goes_ Tryz.func53 (by kernel_rfl) rfl #[.int .i64 a0_2] (by rfl) rfl rfl arg ?_
  with_reducible refine (words_Text.calls a0_2 t104 _ A4.out).mono ?_
  rintro e w13 ⟨rfl, hb⟩
  refine ⟨_, rfl, ?_⟩
  have n0_ := Aside0.mk (blk_below (g := gb101) (bw BK101.out) hb)
  have n1_ := Aside0.mk (below_step bel hb)
  clear BK101
  clear HB
  have BK101 := n0_
  have HB := n1_
  clear n0_ n1_
  (try clear hb)
  (try clear hb2)
  (try clear hk)
  (try clear hi)
  refine hK.out _ _ ⟨(blk_cell BK101.out 0).trans rfl, (blk_cell BK101.out 1).trans rfl, (blk_cell BK101.out 2).trans rfl, (blk_cell BK101.out 3).trans rfl, (blk_cell BK101.out 4).trans rfl, (blk_cell BK101.out 5).trans rfl, (blk_cell BK101.out 6).trans rfl, (blk_cell BK101.out 7).trans rfl, (blk_cell BK101.out 8).trans rfl, (blk_cell BK101.out 9).trans rfl, (blk_cell BK101.out 10).trans rfl, (blk_cell BK101.out 11).trans rfl, (blk_cell BK101.out 12).trans rfl⟩ (fun hHeld => ?_)
  clear hK K
  refine norm_ (a' := ?_) ?_ ?_
  rotate_left
  · show Act.put _ (some 11) _ = _
    simp only [Act.put, List.setIfInBounds_toArray, List.set_cons_zero, List.set_cons_succ, i64_w, i32_w]
    rfl
  refine one_ (i := 11) (N := some 14) #[true, true, true, true, true, true, true, true, true, true, true, true, true, true, false, true, true, false, true, true, true, true, true, true, true, true, true, true, true, true, false, false, false] rfl rfl (one_of HT_.out (by kernel_rfl)) (by decide) (fun K hK => ?_)
  refine goes_ Tryz.func54 (by kernel_rfl) rfl #[.agg #[.string a0_3, .int .i64 a0_4, .int .i64 a0_5, .int .i64 a0_6]] (by rfl) rfl rfl arg ?_
  with_reducible refine (series_Print.calls k a0_3 a0_4 a0_5 a0_6 t105 _ A5.out (glob_of HGL.out bel)).mono ?_
  rintro e w14 ⟨rfl, hb⟩
  refine ⟨_, rfl, ?_⟩
  have n0_ := Aside0.mk (blk_below (g := gb101) (bw BK101.out) hb)
  have n1_ := Aside0.mk (below_step bel hb)
  clear BK101
  clear HB
  have BK101 := n0_
  have HB := n1_
  clear n0_ n1_
  (try clear hb)
  (try clear hb2)
  (try clear hk)
  (try clear hi)
  refine hK.out _ _ ⟨(blk_cell BK101.out 0).trans rfl, (blk_cell BK101.out 1).trans rfl, (blk_cell BK101.out 2).trans rfl, (blk_cell BK101.out 3).trans rfl, (blk_cell BK101.out 4).trans rfl, (blk_cell BK101.out 5).trans rfl, (blk_cell BK101.out 6).trans rfl, (blk_cell BK101.out 7).trans rfl, (blk_cell BK101.out 8).trans rfl, (blk_cell BK101.out 9).trans rfl, (blk_cell BK101.out 10).trans rfl, (blk_cell BK101.out 11).trans rfl, (blk_cell BK101.out 12).trans rfl⟩ (fun hHeld => ?_)
  clear hK K
  refine norm_ (a' := ?_) ?_ ?_
  rotate_left
  · show Act.put _ (some 14) _ = _
    simp only [Act.put, List.setIfInBounds_toArray, List.set_cons_zero, List.set_cons_succ, i64_w, i32_w]
    rfl
  refine one_ (i := 14) (N := some 17) #[true, true, true, true, true, true, true, true, true, true, true, true, true, true, true, true, true, false, true, true, true, true, true, true, true, true, true, true, true, true, false, false, false] rfl rfl (one_of HT_.out (by kernel_rfl)) (by decide) (fun K hK => ?_)
  refine goes_ Tryz.func53 (by kernel_rfl) rfl #[.int .i64 a0_7] (by rfl) rfl rfl arg ?_
  with_reducible refine (words_Text.calls a0_7 t106 _ A6.out).mono ?_
  rintro e w15 ⟨rfl, hb⟩
  refine ⟨_, rfl, ?_⟩
  have n0_ := Aside0.mk (blk_below (g := gb101) (bw BK101.out) hb)
  have n1_ := Aside0.mk (below_step bel hb)
  clear BK101
  clear HB
  have BK101 := n0_
  have HB := n1_
  clear n0_ n1_
  (try clear hb)
  (try clear hb2)
  (try clear hk)
  (try clear hi)
  refine hK.out _ _ ⟨(blk_cell BK101.out 0).trans rfl, (blk_cell BK101.out 1).trans rfl, (blk_cell BK101.out 2).trans rfl, (blk_cell BK101.out 3).trans rfl, (blk_cell BK101.out 4).trans rfl, (blk_cell BK101.out 5).trans rfl, (blk_cell BK101.out 6).trans rfl, (blk_cell BK101.out 7).trans rfl, (blk_cell BK101.out 8).trans rfl, (blk_cell BK101.out 9).trans rfl, (blk_cell BK101.out 10).trans rfl, (blk_cell BK101.out 11).trans rfl, (blk_cell BK101.out 12).trans rfl⟩ (fun hHeld => ?_)
  clear hK K
  refine norm_ (a' := ?_) ?_ ?_
  rotate_left
  · show Act.put _ (some 17) _ = _
    simp only [Act.put, List.setIfInBounds_toArray, List.set_cons_zero, List.set_cons_succ, i64_w, i32_w]
    rfl
  refine one_ (i := 17) (N := some 20) #[true, true, true, true, true, true, true, true, true, true, true, true, true, true, true, true, true, true, true, true, true, true, true, true, true, true, true, true, true, true, false, false, false] rfl rfl (one_of HT_.out (by kernel_rfl)) (by decide) (fun K hK => ?_)
  refine goes_ Tryz.func53 (by kernel_rfl) rfl #[.int .i64 a0_8] (by rfl) rfl rfl arg ?_
  with_reducible refine (words_Text.calls a0_8 t107 _ A7.out).mono ?_
  rintro e w16 ⟨rfl, hb⟩
  refine ⟨_, rfl, ?_⟩
  have n0_ := Aside0.mk (blk_below (g := gb101) (bw BK101.out) hb)
  have n1_ := Aside0.mk (below_step bel hb)
  clear BK101
  clear HB
  have BK101 := n0_
  have HB := n1_
  clear n0_ n1_
  (try clear hb)
  (try clear hb2)
  (try clear hk)
  (try clear hi)
  refine hK.out _ _ ⟨(blk_cell BK101.out 0).trans rfl, (blk_cell BK101.out 1).trans rfl, (blk_cell BK101.out 2).trans rfl, (blk_cell BK101.out 3).trans rfl, (blk_cell BK101.out 4).trans rfl, (blk_cell BK101.out 5).trans rfl, (blk_cell BK101.out 6).trans rfl, (blk_cell BK101.out 7).trans rfl, (blk_cell BK101.out 8).trans rfl, (blk_cell BK101.out 9).trans rfl, (blk_cell BK101.out 10).trans rfl, (blk_cell BK101.out 11).trans rfl, (blk_cell BK101.out 12).trans rfl⟩ (fun hHeld => ?_)
  clear hK K
  refine norm_ (a' := ?_) ?_ ?_
  rotate_left
  · show Act.put _ (some 20) _ = _
    simp only [Act.put, List.setIfInBounds_toArray, List.set_cons_zero, List.set_cons_succ, i64_w, i32_w]
    rfl
  refine one_ (i := 30) (N := some 33) #[true, true, true, true, true, true, true, true, true, true, true, true, true, true, true, true, true, true, true, true, true, true, true, true, true, true, true, true, true, true, true, false, false] rfl rfl (one_of HT_.out (by kernel_rfl)) (by decide) (fun K hK => ?_)
  refine Kd.R_lit_step Kd.string _ 9 ?hg (N := 33) ?hd (xs := ([t102, t103, t104, t105, t106, t107, a0_9, a0_10, a0_11, a0_12] : List ByteArray)) (inner := [.string t102, .string t103, .string t104, .string t105, .string t106, .string t107, .string a0_9, .string a0_10, .string a0_11, .string a0_12]) (ok := fun _ => True) (okp := fun _ => True) ?hr ?hp (fun _ hk => hk) trivial (Below.refl _ _) (Nat.le_refl _) (by simp) ?_; (case hd => rfl); (case hg => rfl); (case hr => first | (go_simp; done) | (go_simp; rfl)); (case hp => exact (Reps.one (show Kd.M Kd.string _ _ _ t102 [.string t102] from rfl) (Reps.one (show Kd.M Kd.string _ _ _ t103 [.string t103] from rfl) (Reps.one (show Kd.M Kd.string _ _ _ t104 [.string t104] from rfl) (Reps.one (show Kd.M Kd.string _ _ _ t105 [.string t105] from rfl) (Reps.one (show Kd.M Kd.string _ _ _ t106 [.string t106] from rfl) (Reps.one (show Kd.M Kd.string _ _ _ t107 [.string t107] from rfl) (Reps.one (show Kd.M Kd.string _ _ _ a0_9 [.string a0_9] from rfl) (Reps.one (show Kd.M Kd.string _ _ _ a0_10 [.string a0_10] from rfl) (Reps.one (show Kd.M Kd.string _ _ _ a0_11 [.string a0_11] from rfl) (Reps.one (show Kd.M Kd.string _ _ _ a0_12 [.string a0_12] from rfl) (Reps.none _ _))))))))))))
  intro v109 w17 ho18 hb hg_ hnew_
  clear hg_ hnew_
  (first | rw [← Ny108.out] at ho18 | (simp only [Int.reduceToNat] at ho18; rw [← Ny108.out] at ho18))
  have n0_ := Aside0.mk (Kd.R_lower ho18 (below_size bel))
  have n1_ := Aside0.mk (blk_below (g := gb101) (bw BK101.out) hb)
  have n2_ := Aside0.mk (below_step bel hb)
  clear BK101
  clear HB
  have HO110 := n0_
  have BK101 := n1_
  have HB := n2_
  clear n0_ n1_ n2_
  clear hb ho18
  obtain ⟨Ao19, co19, eo19⟩ := Kd.R_slice HO110.out
  (first | subst eo19 | (injection eo19 with f1_ f2_ f3_; have f4_ := f1_.symm; have f5_ := f3_.symm; clear f1_ f2_ f3_; subst f4_; subst f5_))
  refine hK.out _ _ ⟨(blk_cell BK101.out 0).trans rfl, (blk_cell BK101.out 1).trans rfl, (blk_cell BK101.out 2).trans rfl, (blk_cell BK101.out 3).trans rfl, (blk_cell BK101.out 4).trans rfl, (blk_cell BK101.out 5).trans rfl, (blk_cell BK101.out 6).trans rfl, (blk_cell BK101.out 7).trans rfl, (blk_cell BK101.out 8).trans rfl, (blk_cell BK101.out 9).trans rfl, (blk_cell BK101.out 10).trans rfl, (blk_cell BK101.out 11).trans rfl, (blk_cell BK101.out 12).trans rfl⟩ (fun hHeld => ?_)
  clear hK K
  refine norm_ (a' := ?_) ?_ ?_
  rotate_left
  · show Act.put _ (some 33) _ = _
    simp only [Act.put, List.setIfInBounds_toArray, List.set_cons_zero, List.set_cons_succ, i64_w, i32_w]
    rfl
  refine one_ (i := 31) (N := some 34) #[true, true, true, true, true, true, true, true, true, true, true, true, true, true, true, true, true, true, true, true, true, true, true, true, true, true, true, true, true, true, true, true, false] rfl rfl (one_of HT_.out (by kernel_rfl)) (by decide) (fun K hK => ?_)
  refine goes_ Tryz.func52 (by kernel_rfl) rfl #[.slice Ao19 y108.length co19] (by rfl) rfl rfl arg ?_
  with_reducible refine (words_Join.calls _ _ y108 t111 _ ?side1 ?side2 A8.out).mono ?_
  (case side1 => repeat (first | exact (Kd.R_reads' HO110.out).2.2 | (with_reducible refine Kd.C_alloc ?_ _) | (with_reducible refine Kd.C_drewN ?_ _) | (with_reducible refine Kd.C_drew ?_)))
  (case side2 => exact (Kd.R_reads' HO110.out).2.1)
  rintro e w20 ⟨rfl, hb⟩
  refine ⟨_, rfl, ?_⟩
  have n0_ := Aside0.mk (Kd.R_below (kr HO110.out) hb)
  have n1_ := Aside0.mk (blk_below (g := gb101) (bw BK101.out) hb)
  have n2_ := Aside0.mk (below_step bel hb)
  clear HO110
  clear BK101
  clear HB
  have HO110 := n0_
  have BK101 := n1_
  have HB := n2_
  clear n0_ n1_ n2_
  (try clear hb)
  (try clear hb2)
  (try clear hk)
  (try clear hi)
  refine hK.out _ _ ⟨(blk_cell BK101.out 0).trans rfl, (blk_cell BK101.out 1).trans rfl, (blk_cell BK101.out 2).trans rfl, (blk_cell BK101.out 3).trans rfl, (blk_cell BK101.out 4).trans rfl, (blk_cell BK101.out 5).trans rfl, (blk_cell BK101.out 6).trans rfl, (blk_cell BK101.out 7).trans rfl, (blk_cell BK101.out 8).trans rfl, (blk_cell BK101.out 9).trans rfl, (blk_cell BK101.out 10).trans rfl, (blk_cell BK101.out 11).trans rfl, (blk_cell BK101.out 12).trans rfl⟩ (fun hHeld => ?_)
  clear hK K
  refine norm_ (a' := ?_) ?_ ?_
  rotate_left
  · show Act.put _ (some 34) _ = _
    simp only [Act.put, List.setIfInBounds_toArray, List.set_cons_zero, List.set_cons_succ, i64_w, i32_w]
    rfl
  refine pure_ (i := 32) (N := some 2) (v := ?_) (a' := ?_) #[true, true, true, true, true, true, true, true, true, true, true, true, true, true, true, true, true, true, true, true, true, true, true, true, true, true, true, true, true, true, true, true, true] rfl rfl (any_of HT_.out (by kernel_rfl)) (fun _ _ _ h => h) (Or.inl ⟨by rfl, ?_⟩) ?_ ?_
  rotate_left
  · intro w'
    go_simp
    with_reducible rfl
  rotate_left
  · simp only [Act.put, List.setIfInBounds_toArray, List.set_cons_zero, List.set_cons_succ, i64_w, i32_w]
    rfl
  refine done_ (done_of HT_.out (by kernel_rfl)) ?_
  try go_wp2
  go_ret
  exact ⟨ers, bel⟩
theorem eqA25 (d : Nat) (w : World) (x0 y0 : ByteArray) (x1 y1 : ByteArray) :
    (Op.equalIn (d + 2) 25 (.agg #[.string x0, .string x1]) (.agg #[.string y0, .string y1])).run Tryz.prog w = .ok (x0.toList == y0.toList && (x1.toList == y1.toList)) w := by
  refine eqA_of Tryz.underlying25 (by kernel_rfl) ?_
  refine eqf_cons (by rfl) (by go_simp; rfl) (by go_simp; rfl) (by go_simp) ?_
  exact eqf_last (by rfl) (by go_simp; rfl) (by go_simp; rfl) (by go_simp)
end Go.Proofs.YthpmmofleddpnaaGreatDoor.X
end
section
namespace Go.Proofs.YthpmmofleddpnaaGreatDoor.X
open Go.RowKit Go.Proofs.YthpmmofleddpnaaGreatDoorW.PrintWords Go.Proofs.YthpmmofleddpnaaGreatDoorW.PrintLast Go.Proofs.YthpmmofleddpnaaGreatDoorW.PrintMore
attribute [local go_sem] max2_int min2_int max_two min_two max_three min_three max_four min_four
set_option linter.unusedVariables false
set_option linter.unusedSimpArgs false
attribute [local go_sem high] eqA25
def contangolaw12_goes.f (k : Nat)  : Option (Bool) := (trade_Parse.f k (⟨#[55, 32, 53, 32, 54, 48, 32, 111, 105, 108, 46, 50, 48, 48, 48, 48, 49, 50, 49, 46, 102, 32, 51, 32, 49, 53, 32, 97, 32, 120, 32, 98, 32, 121]⟩ : ByteArray)).bind fun bt101 => ((trade_Add.f (([(⟨1, 0, 0, (⟨(⟨#[]⟩ : ByteArray), 0, 0, 0⟩ : S23), 0, 0, (⟨(⟨#[]⟩ : ByteArray), (⟨#[]⟩ : ByteArray)⟩ : S25), (⟨(⟨#[]⟩ : ByteArray), (⟨#[]⟩ : ByteArray)⟩ : S25)⟩ : S27), (⟨3, 0, 0, (⟨(⟨#[]⟩ : ByteArray), 0, 0, 0⟩ : S23), 0, 0, (⟨(⟨#[]⟩ : ByteArray), (⟨#[]⟩ : ByteArray)⟩ : S25), (⟨(⟨#[]⟩ : ByteArray), (⟨#[]⟩ : ByteArray)⟩ : S25)⟩ : S27)] : List (S27))) 2 0 0 (⟨#[]⟩ : ByteArray) 0 0 0 0 0 (⟨#[]⟩ : ByteArray) (⟨#[]⟩ : ByteArray) (⟨#[]⟩ : ByteArray) (⟨#[]⟩ : ByteArray)).bind fun bt119 => ((trade_Add.f bt119.1 3 0 0 (⟨#[]⟩ : ByteArray) 0 0 0 0 0 (⟨#[]⟩ : ByteArray) (⟨#[]⟩ : ByteArray) (⟨#[]⟩ : ByteArray) (⟨#[]⟩ : ByteArray)).bind fun bt123 => ((trade_Bust.f bt119.1 2).bind fun bt127 => (if bt101.2.2.2.2.2.2.2.2.2.2.2.2.2 = 0 then (if bt101.1 = 7 then (if bt101.2.2.2.2.2.2.2.1 = 3 then (if bt101.2.2.2.2.2.1 = 20 then (if (bt101.2.2.2.2.2.2.2.2.2.1.toList == ([97] : List UInt8) && (bt101.2.2.2.2.2.2.2.2.2.2.1.toList == ([120] : List UInt8))) = true then (if (bt101.2.2.2.2.2.2.2.2.2.2.2.1.toList == ([98] : List UInt8) && (bt101.2.2.2.2.2.2.2.2.2.2.2.2.1.toList == ([121] : List UInt8))) = true then ((trade_Print.f k bt101.1 bt101.2.1 bt101.2.2.1 bt101.2.2.2.1 bt101.2.2.2.2.1 bt101.2.2.2.2.2.1 bt101.2.2.2.2.2.2.1 bt101.2.2.2.2.2.2.2.1 bt101.2.2.2.2.2.2.2.2.1 bt101.2.2.2.2.2.2.2.2.2.1 bt101.2.2.2.2.2.2.2.2.2.2.1 bt101.2.2.2.2.2.2.2.2.2.2.2.1 bt101.2.2.2.2.2.2.2.2.2.2.2.2.1).bind fun t145 => (if t145.toList = ([55, 32, 53, 32, 54, 48, 32, 111, 105, 108, 46, 50, 48, 48, 48, 48, 49, 50, 49, 46, 102, 32, 51, 32, 49, 53, 32, 97, 32, 120, 32, 98, 32, 121] : List UInt8) then (if bt119.2 = 0 then (if (bt119.1.length : Int) = 3 then (if 1 < (bt119.1.length : Int) then (if ((rd_T27 bt119.1 1).f0) = 2 then (if bt123.2 = 12 then (if bt127.2.2.2.2.2.2.2.2.2.2.2.2.2.2 = 0 then (if bt127.2.1 = 2 then (if (bt127.1.length : Int) = 2 then (if 1 < (bt127.1.length : Int) then (some (((rd_T27 bt127.1 1).f0) == 3)) else (none)) else (none)) else (none)) else (none)) else (none)) else (none)) else (none)) else (none)) else (none)) else (none))) else (none)) else (none)) else (none)) else (none)) else (none)) else (none)))))
theorem contangolaw12_goes.mono : ∀ k, LeO (contangolaw12_goes.f k ) (contangolaw12_goes.f (k + 1) ) := by
  intro  k
  unfold contangolaw12_goes.f
  repeat' first
      | (with_reducible exact trade_Parse.mono _ _)
      | (with_reducible exact trade_Print.mono _ _ _ _ _ _ _ _ _ _ _ _ _ _)
      | (with_reducible exact LeO.refl _)
      | (with_reducible exact LeO.none _)
      | (with_reducible refine LeO.ite ?_ ?_)
      | (with_reducible refine LeO.bind ?_ (fun _ => ?_))
      | exact trade_Parse.mono _ _
      | exact trade_Print.mono _ _ _ _ _ _ _ _ _ _ _ _ _ _
      | exact LeO.none _
      | refine LeO.ite ?_ ?_
      | refine LeO.bind ?_ (fun _ => ?_)
set_option maxHeartbeats 8000000 in
set_option maxRecDepth 100000 in
theorem contangolaw12_goes.calls (k : Nat)  (r : Bool) (w : World) (h : contangolaw12_goes.f k  = some r) (hGL : GlobD w) :
    Calls Tryz.prog 12 #[] w fun e w' => e = .returned (.bool r) ∧ Below w.heap.size w w' := by
  have hu27 := Tryz.underlying27
  have hu25 := Tryz.underlying25
  have HB := Aside0.mk (Below.refl w.heap.size w)
  have HGL := Aside0.mk hGL
  clear hGL
  have H : ((trade_Parse.f k (⟨#[55, 32, 53, 32, 54, 48, 32, 111, 105, 108, 46, 50, 48, 48, 48, 48, 49, 50, 49, 46, 102, 32, 51, 32, 49, 53, 32, 97, 32, 120, 32, 98, 32, 121]⟩ : ByteArray)).bind fun bt101 => ((trade_Add.f (([(⟨1, 0, 0, (⟨(⟨#[]⟩ : ByteArray), 0, 0, 0⟩ : S23), 0, 0, (⟨(⟨#[]⟩ : ByteArray), (⟨#[]⟩ : ByteArray)⟩ : S25), (⟨(⟨#[]⟩ : ByteArray), (⟨#[]⟩ : ByteArray)⟩ : S25)⟩ : S27), (⟨3, 0, 0, (⟨(⟨#[]⟩ : ByteArray), 0, 0, 0⟩ : S23), 0, 0, (⟨(⟨#[]⟩ : ByteArray), (⟨#[]⟩ : ByteArray)⟩ : S25), (⟨(⟨#[]⟩ : ByteArray), (⟨#[]⟩ : ByteArray)⟩ : S25)⟩ : S27)] : List (S27))) 2 0 0 (⟨#[]⟩ : ByteArray) 0 0 0 0 0 (⟨#[]⟩ : ByteArray) (⟨#[]⟩ : ByteArray) (⟨#[]⟩ : ByteArray) (⟨#[]⟩ : ByteArray)).bind fun bt119 => ((trade_Add.f bt119.1 3 0 0 (⟨#[]⟩ : ByteArray) 0 0 0 0 0 (⟨#[]⟩ : ByteArray) (⟨#[]⟩ : ByteArray) (⟨#[]⟩ : ByteArray) (⟨#[]⟩ : ByteArray)).bind fun bt123 => ((trade_Bust.f bt119.1 2).bind fun bt127 => (if bt101.2.2.2.2.2.2.2.2.2.2.2.2.2 = 0 then (if bt101.1 = 7 then (if bt101.2.2.2.2.2.2.2.1 = 3 then (if bt101.2.2.2.2.2.1 = 20 then (if (bt101.2.2.2.2.2.2.2.2.2.1.toList == ([97] : List UInt8) && (bt101.2.2.2.2.2.2.2.2.2.2.1.toList == ([120] : List UInt8))) = true then (if (bt101.2.2.2.2.2.2.2.2.2.2.2.1.toList == ([98] : List UInt8) && (bt101.2.2.2.2.2.2.2.2.2.2.2.2.1.toList == ([121] : List UInt8))) = true then ((trade_Print.f k bt101.1 bt101.2.1 bt101.2.2.1 bt101.2.2.2.1 bt101.2.2.2.2.1 bt101.2.2.2.2.2.1 bt101.2.2.2.2.2.2.1 bt101.2.2.2.2.2.2.2.1 bt101.2.2.2.2.2.2.2.2.1 bt101.2.2.2.2.2.2.2.2.2.1 bt101.2.2.2.2.2.2.2.2.2.2.1 bt101.2.2.2.2.2.2.2.2.2.2.2.1 bt101.2.2.2.2.2.2.2.2.2.2.2.2.1).bind fun t145 => (if t145.toList = ([55, 32, 53, 32, 54, 48, 32, 111, 105, 108, 46, 50, 48, 48, 48, 48, 49, 50, 49, 46, 102, 32, 51, 32, 49, 53, 32, 97, 32, 120, 32, 98, 32, 121] : List UInt8) then (if bt119.2 = 0 then (if (bt119.1.length : Int) = 3 then (if 1 < (bt119.1.length : Int) then (if ((rd_T27 bt119.1 1).f0) = 2 then (if bt123.2 = 12 then (if bt127.2.2.2.2.2.2.2.2.2.2.2.2.2.2 = 0 then (if bt127.2.1 = 2 then (if (bt127.1.length : Int) = 2 then (if 1 < (bt127.1.length : Int) then (some (((rd_T27 bt127.1 1).f0) == 3)) else (none)) else (none)) else (none)) else (none)) else (none)) else (none)) else (none)) else (none)) else (none)) else (none))) else (none)) else (none)) else (none)) else (none)) else (none)) else (none)))))) = some r := h
  clear h
  replace H := bnd H
  obtain ⟨⟨t101, t102, t103, t104, t105, t106, t107, t108, t109, t110, t111, t112, t113, t114⟩, A10, H⟩ := H
  replace H : ((trade_Add.f (([(⟨1, 0, 0, (⟨(⟨#[]⟩ : ByteArray), 0, 0, 0⟩ : S23), 0, 0, (⟨(⟨#[]⟩ : ByteArray), (⟨#[]⟩ : ByteArray)⟩ : S25), (⟨(⟨#[]⟩ : ByteArray), (⟨#[]⟩ : ByteArray)⟩ : S25)⟩ : S27), (⟨3, 0, 0, (⟨(⟨#[]⟩ : ByteArray), 0, 0, 0⟩ : S23), 0, 0, (⟨(⟨#[]⟩ : ByteArray), (⟨#[]⟩ : ByteArray)⟩ : S25), (⟨(⟨#[]⟩ : ByteArray), (⟨#[]⟩ : ByteArray)⟩ : S25)⟩ : S27)] : List (S27))) 2 0 0 (⟨#[]⟩ : ByteArray) 0 0 0 0 0 (⟨#[]⟩ : ByteArray) (⟨#[]⟩ : ByteArray) (⟨#[]⟩ : ByteArray) (⟨#[]⟩ : ByteArray)).bind fun bt119 => ((trade_Add.f bt119.1 3 0 0 (⟨#[]⟩ : ByteArray) 0 0 0 0 0 (⟨#[]⟩ : ByteArray) (⟨#[]⟩ : ByteArray) (⟨#[]⟩ : ByteArray) (⟨#[]⟩ : ByteArray)).bind fun bt123 => ((trade_Bust.f bt119.1 2).bind fun bt127 => (if t114 = 0 then (if t101 = 7 then (if t108 = 3 then (if t106 = 20 then (if (t110.toList == ([97] : List UInt8) && (t111.toList == ([120] : List UInt8))) = true then (if (t112.toList == ([98] : List UInt8) && (t113.toList == ([121] : List UInt8))) = true then ((trade_Print.f k t101 t102 t103 t104 t105 t106 t107 t108 t109 t110 t111 t112 t113).bind fun t145 => (if t145.toList = ([55, 32, 53, 32, 54, 48, 32, 111, 105, 108, 46, 50, 48, 48, 48, 48, 49, 50, 49, 46, 102, 32, 51, 32, 49, 53, 32, 97, 32, 120, 32, 98, 32, 121] : List UInt8) then (if bt119.2 = 0 then (if (bt119.1.length : Int) = 3 then (if 1 < (bt119.1.length : Int) then (if ((rd_T27 bt119.1 1).f0) = 2 then (if bt123.2 = 12 then (if bt127.2.2.2.2.2.2.2.2.2.2.2.2.2.2 = 0 then (if bt127.2.1 = 2 then (if (bt127.1.length : Int) = 2 then (if 1 < (bt127.1.length : Int) then (some (((rd_T27 bt127.1 1).f0) == 3)) else (none)) else (none)) else (none)) else (none)) else (none)) else (none)) else (none)) else (none)) else (none)) else (none))) else (none)) else (none)) else (none)) else (none)) else (none)) else (none))))) = some r := H
  have A1 := Aside0.mk A10
  clear A10
  obtain ⟨y116, hy116⟩ : ∃ y_ : List (S27), y_ = (([(⟨1, 0, 0, (⟨(⟨#[]⟩ : ByteArray), 0, 0, 0⟩ : S23), 0, 0, (⟨(⟨#[]⟩ : ByteArray), (⟨#[]⟩ : ByteArray)⟩ : S25), (⟨(⟨#[]⟩ : ByteArray), (⟨#[]⟩ : ByteArray)⟩ : S25)⟩ : S27), (⟨3, 0, 0, (⟨(⟨#[]⟩ : ByteArray), 0, 0, 0⟩ : S23), 0, 0, (⟨(⟨#[]⟩ : ByteArray), (⟨#[]⟩ : ByteArray)⟩ : S25), (⟨(⟨#[]⟩ : ByteArray), (⟨#[]⟩ : ByteArray)⟩ : S25)⟩ : S27)] : List (S27))) := ⟨_, rfl⟩
  replace H : ((trade_Add.f y116 2 0 0 (⟨#[]⟩ : ByteArray) 0 0 0 0 0 (⟨#[]⟩ : ByteArray) (⟨#[]⟩ : ByteArray) (⟨#[]⟩ : ByteArray) (⟨#[]⟩ : ByteArray)).bind fun bt119 => ((trade_Add.f bt119.1 3 0 0 (⟨#[]⟩ : ByteArray) 0 0 0 0 0 (⟨#[]⟩ : ByteArray) (⟨#[]⟩ : ByteArray) (⟨#[]⟩ : ByteArray) (⟨#[]⟩ : ByteArray)).bind fun bt123 => ((trade_Bust.f bt119.1 2).bind fun bt127 => (if t114 = 0 then (if t101 = 7 then (if t108 = 3 then (if t106 = 20 then (if (t110.toList == ([97] : List UInt8) && (t111.toList == ([120] : List UInt8))) = true then (if (t112.toList == ([98] : List UInt8) && (t113.toList == ([121] : List UInt8))) = true then ((trade_Print.f k t101 t102 t103 t104 t105 t106 t107 t108 t109 t110 t111 t112 t113).bind fun t145 => (if t145.toList = ([55, 32, 53, 32, 54, 48, 32, 111, 105, 108, 46, 50, 48, 48, 48, 48, 49, 50, 49, 46, 102, 32, 51, 32, 49, 53, 32, 97, 32, 120, 32, 98, 32, 121] : List UInt8) then (if bt119.2 = 0 then (if (bt119.1.length : Int) = 3 then (if 1 < (bt119.1.length : Int) then (if ((rd_T27 bt119.1 1).f0) = 2 then (if bt123.2 = 12 then (if bt127.2.2.2.2.2.2.2.2.2.2.2.2.2.2 = 0 then (if bt127.2.1 = 2 then (if (bt127.1.length : Int) = 2 then (if 1 < (bt127.1.length : Int) then (some (((rd_T27 bt127.1 1).f0) == 3)) else (none)) else (none)) else (none)) else (none)) else (none)) else (none)) else (none)) else (none)) else (none)) else (none))) else (none)) else (none)) else (none)) else (none)) else (none)) else (none))))) = some r := by first | (rw [hy116]; with_reducible exact H) | (have H2_ := (Option.bind_some _ _).symm.trans H; rw [hy116]; with_reducible exact H2_) | (have H2_ := (Option.bind_some _ _).symm.trans H; with_reducible exact H2_) | with_reducible exact H | (rw [hy116]; exact H) | exact H
  have Ny116 := Aside0.mk hy116
  clear hy116
  replace H := bnd H
  obtain ⟨⟨t119, t122⟩, A20, H⟩ := H
  replace H : ((trade_Add.f t119 3 0 0 (⟨#[]⟩ : ByteArray) 0 0 0 0 0 (⟨#[]⟩ : ByteArray) (⟨#[]⟩ : ByteArray) (⟨#[]⟩ : ByteArray) (⟨#[]⟩ : ByteArray)).bind fun bt123 => ((trade_Bust.f t119 2).bind fun bt127 => (if t114 = 0 then (if t101 = 7 then (if t108 = 3 then (if t106 = 20 then (if (t110.toList == ([97] : List UInt8) && (t111.toList == ([120] : List UInt8))) = true then (if (t112.toList == ([98] : List UInt8) && (t113.toList == ([121] : List UInt8))) = true then ((trade_Print.f k t101 t102 t103 t104 t105 t106 t107 t108 t109 t110 t111 t112 t113).bind fun t145 => (if t145.toList = ([55, 32, 53, 32, 54, 48, 32, 111, 105, 108, 46, 50, 48, 48, 48, 48, 49, 50, 49, 46, 102, 32, 51, 32, 49, 53, 32, 97, 32, 120, 32, 98, 32, 121] : List UInt8) then (if t122 = 0 then (if (t119.length : Int) = 3 then (if 1 < (t119.length : Int) then (if ((rd_T27 t119 1).f0) = 2 then (if bt123.2 = 12 then (if bt127.2.2.2.2.2.2.2.2.2.2.2.2.2.2 = 0 then (if bt127.2.1 = 2 then (if (bt127.1.length : Int) = 2 then (if 1 < (bt127.1.length : Int) then (some (((rd_T27 bt127.1 1).f0) == 3)) else (none)) else (none)) else (none)) else (none)) else (none)) else (none)) else (none)) else (none)) else (none)) else (none))) else (none)) else (none)) else (none)) else (none)) else (none)) else (none)))) = some r := H
  have A2 := Aside0.mk A20
  clear A20
  replace H := bnd H
  obtain ⟨⟨t123, t126⟩, A30, H⟩ := H
  replace H : ((trade_Bust.f t119 2).bind fun bt127 => (if t114 = 0 then (if t101 = 7 then (if t108 = 3 then (if t106 = 20 then (if (t110.toList == ([97] : List UInt8) && (t111.toList == ([120] : List UInt8))) = true then (if (t112.toList == ([98] : List UInt8) && (t113.toList == ([121] : List UInt8))) = true then ((trade_Print.f k t101 t102 t103 t104 t105 t106 t107 t108 t109 t110 t111 t112 t113).bind fun t145 => (if t145.toList = ([55, 32, 53, 32, 54, 48, 32, 111, 105, 108, 46, 50, 48, 48, 48, 48, 49, 50, 49, 46, 102, 32, 51, 32, 49, 53, 32, 97, 32, 120, 32, 98, 32, 121] : List UInt8) then (if t122 = 0 then (if (t119.length : Int) = 3 then (if 1 < (t119.length : Int) then (if ((rd_T27 t119 1).f0) = 2 then (if t126 = 12 then (if bt127.2.2.2.2.2.2.2.2.2.2.2.2.2.2 = 0 then (if bt127.2.1 = 2 then (if (bt127.1.length : Int) = 2 then (if 1 < (bt127.1.length : Int) then (some (((rd_T27 bt127.1 1).f0) == 3)) else (none)) else (none)) else (none)) else (none)) else (none)) else (none)) else (none)) else (none)) else (none)) else (none))) else (none)) else (none)) else (none)) else (none)) else (none)) else (none))) = some r := H
  have A3 := Aside0.mk A30
  clear A30
  replace H := bnd H
  obtain ⟨⟨t127, t130, t131, t132, t133, t134, t135, t136, t137, t138, t139, t140, t141, t142, t143⟩, A40, H⟩ := H
  replace H : (if t114 = 0 then (if t101 = 7 then (if t108 = 3 then (if t106 = 20 then (if (t110.toList == ([97] : List UInt8) && (t111.toList == ([120] : List UInt8))) = true then (if (t112.toList == ([98] : List UInt8) && (t113.toList == ([121] : List UInt8))) = true then ((trade_Print.f k t101 t102 t103 t104 t105 t106 t107 t108 t109 t110 t111 t112 t113).bind fun t145 => (if t145.toList = ([55, 32, 53, 32, 54, 48, 32, 111, 105, 108, 46, 50, 48, 48, 48, 48, 49, 50, 49, 46, 102, 32, 51, 32, 49, 53, 32, 97, 32, 120, 32, 98, 32, 121] : List UInt8) then (if t122 = 0 then (if (t119.length : Int) = 3 then (if 1 < (t119.length : Int) then (if ((rd_T27 t119 1).f0) = 2 then (if t126 = 12 then (if t143 = 0 then (if t130 = 2 then (if (t127.length : Int) = 2 then (if 1 < (t127.length : Int) then (some (((rd_T27 t127 1).f0) == 3)) else (none)) else (none)) else (none)) else (none)) else (none)) else (none)) else (none)) else (none)) else (none)) else (none))) else (none)) else (none)) else (none)) else (none)) else (none)) else (none)) = some r := H
  have A4 := Aside0.mk A40
  clear A40
  by_cases c5 : t114 = 0
  · rw [if_pos c5] at H
    have c5b0 : (t114 == 0) = true := beq_iff_eq.mpr c5
    have c5b1 : (t114 != 0) = false := bne_eq_false_iff_eq.mpr c5
    clear c5
    by_cases c6 : t101 = 7
    · rw [if_pos c6] at H
      have c6b0 : (t101 == 7) = true := beq_iff_eq.mpr c6
      have c6b1 : (t101 != 7) = false := bne_eq_false_iff_eq.mpr c6
      clear c6
      by_cases c7 : t108 = 3
      · rw [if_pos c7] at H
        have c7b0 : (t108 == 3) = true := beq_iff_eq.mpr c7
        have c7b1 : (t108 != 3) = false := bne_eq_false_iff_eq.mpr c7
        clear c7
        by_cases c8 : t106 = 20
        · rw [if_pos c8] at H
          have c8b0 : (t106 == 20) = true := beq_iff_eq.mpr c8
          have c8b1 : (t106 != 20) = false := bne_eq_false_iff_eq.mpr c8
          clear c8
          by_cases c9 : (t110.toList == ([97] : List UInt8) && (t111.toList == ([120] : List UInt8))) = true
          · rw [if_pos c9] at H
            have c9b0 : (t110.toList == ([97] : List UInt8) && (t111.toList == ([120] : List UInt8))) = true := c9
            (try (have c9b1 : decide (t110.toList = ([97] : List UInt8) && (t111.toList == ([120] : List UInt8))) = true := by simpa using c9))
            (try (have c9b2 : (t110.toList == ([97] : List UInt8) && (t111.toList == ([120] : List UInt8))) = true := by simpa using c9))
            clear c9
            by_cases c10 : (t112.toList == ([98] : List UInt8) && (t113.toList == ([121] : List UInt8))) = true
            · rw [if_pos c10] at H
              have c10b0 : (t112.toList == ([98] : List UInt8) && (t113.toList == ([121] : List UInt8))) = true := c10
              (try (have c10b1 : decide (t112.toList = ([98] : List UInt8) && (t113.toList == ([121] : List UInt8))) = true := by simpa using c10))
              (try (have c10b2 : (t112.toList == ([98] : List UInt8) && (t113.toList == ([121] : List UInt8))) = true := by simpa using c10))
              clear c10
              replace H := bnd H
              obtain ⟨t145, A110, H⟩ := H
              have A11 := Aside0.mk A110
              clear A110
              by_cases c12 : t145.toList = ([55, 32, 53, 32, 54, 48, 32, 111, 105, 108, 46, 50, 48, 48, 48, 48, 49, 50, 49, 46, 102, 32, 51, 32, 49, 53, 32, 97, 32, 120, 32, 98, 32, 121] : List UInt8)
              · rw [if_pos c12] at H
                have c12b0 : (t145.toList == ([55, 32, 53, 32, 54, 48, 32, 111, 105, 108, 46, 50, 48, 48, 48, 48, 49, 50, 49, 46, 102, 32, 51, 32, 49, 53, 32, 97, 32, 120, 32, 98, 32, 121] : List UInt8)) = true := beq_iff_eq.mpr c12
                have c12b1 : (t145.toList != ([55, 32, 53, 32, 54, 48, 32, 111, 105, 108, 46, 50, 48, 48, 48, 48, 49, 50, 49, 46, 102, 32, 51, 32, 49, 53, 32, 97, 32, 120, 32, 98, 32, 121] : List UInt8)) = false := bne_eq_false_iff_eq.mpr c12
                clear c12
                by_cases c13 : t122 = 0
                · rw [if_pos c13] at H
                  have c13b0 : (t122 == 0) = true := beq_iff_eq.mpr c13
                  have c13b1 : (t122 != 0) = false := bne_eq_false_iff_eq.mpr c13
                  clear c13
                  by_cases c14 : (t119.length : Int) = 3
                  · rw [if_pos c14] at H
                    have c14b0 : ((t119.length : Int) == 3) = true := beq_iff_eq.mpr c14
                    have c14b1 : ((t119.length : Int) != 3) = false := bne_eq_false_iff_eq.mpr c14
                    clear c14
                    by_cases c15 : 1 < (t119.length : Int)
                    · rw [if_pos c15] at H
                      have c15b0 := decide_eq_true c15
                      have c15b1 : decide (1 < t119.length) = true := decide_eq_true (by omega)
                      clear c15
                      by_cases c16 : ((rd_T27 t119 1).f0) = 2
                      · rw [if_pos c16] at H
                        have c16b0 : (((rd_T27 t119 1).f0) == 2) = true := beq_iff_eq.mpr c16
                        have c16b1 : (((rd_T27 t119 1).f0) != 2) = false := bne_eq_false_iff_eq.mpr c16
                        clear c16
                        by_cases c17 : t126 = 12
                        · rw [if_pos c17] at H
                          have c17b0 : (t126 == 12) = true := beq_iff_eq.mpr c17
                          have c17b1 : (t126 != 12) = false := bne_eq_false_iff_eq.mpr c17
                          clear c17
                          by_cases c18 : t143 = 0
                          · rw [if_pos c18] at H
                            have c18b0 : (t143 == 0) = true := beq_iff_eq.mpr c18
                            have c18b1 : (t143 != 0) = false := bne_eq_false_iff_eq.mpr c18
                            clear c18
                            by_cases c19 : t130 = 2
                            · rw [if_pos c19] at H
                              have c19b0 : (t130 == 2) = true := beq_iff_eq.mpr c19
                              have c19b1 : (t130 != 2) = false := bne_eq_false_iff_eq.mpr c19
                              clear c19
                              by_cases c20 : (t127.length : Int) = 2
                              · rw [if_pos c20] at H
                                have c20b0 : ((t127.length : Int) == 2) = true := beq_iff_eq.mpr c20
                                have c20b1 : ((t127.length : Int) != 2) = false := bne_eq_false_iff_eq.mpr c20
                                clear c20
                                by_cases c21 : 1 < (t127.length : Int)
                                · rw [if_pos c21] at H
                                  have c21b0 := decide_eq_true c21
                                  have c21b1 : decide (1 < t127.length) = true := decide_eq_true (by omega)
                                  clear c21
                                  obtain rfl := Option.some.inj H
                                  go_enter Tryz.func12, Tryz.ntmps12
                                  go_wp2_with (first | ((with_reducible refine gate_callee (f := 13) rfl ?_); refine goesL_ (some 11) rfl rfl Tryz.func13 (by kernel_rfl) rfl #[.string (⟨#[55, 32, 53, 32, 54, 48, 32, 111, 105, 108, 46, 50, 48, 48, 48, 48, 49, 50, 49, 46, 102, 32, 51, 32, 49, 53, 32, 97, 32, 120, 32, 98, 32, 121]⟩ : ByteArray)] rfl arg ?_; (with_reducible refine (trade_Parse.calls k (⟨#[55, 32, 53, 32, 54, 48, 32, 111, 105, 108, 46, 50, 48, 48, 48, 48, 49, 50, 49, 46, 102, 32, 51, 32, 49, 53, 32, 97, 32, 120, 32, 98, 32, 121]⟩ : ByteArray) t101 t102 t103 t104 t105 t106 t107 t108 t109 t110 t111 t112 t113 t114 _ A1.out (glob_of HGL.out bem)).mono ?_); rintro e w22 ⟨rfl, hb⟩; refine ⟨_, rfl, ?_⟩; replace HB := Aside0.mk (below_step bel hb); (try clear hb); (try clear hb2); (try clear hk); (try clear hi)) | ((with_reducible refine gate_dst (N := 1) rfl ?_); (try (refine gate_guard (by rfl) ?_; dsimp only)); refine box_event ?hg (N := 1) ?hd (cs := #[.int .i64 0, .int .i64 0, .int .i64 0, .string (⟨#[]⟩ : ByteArray), .int .i64 0, .int .i64 0, .int .i64 0, .int .i64 0, .int .i64 0, .string (⟨#[]⟩ : ByteArray), .string (⟨#[]⟩ : ByteArray), .string (⟨#[]⟩ : ByteArray), .string (⟨#[]⟩ : ByteArray)]) (t := 27) ?hr ?_; (case hd => rfl); (case hg => rfl); (case hr => first | (go_simp; done) | (go_simp; rfl)); intro gb115 hg w23 hbox hb; have BK115 := Aside0.mk (hbox); have GW115 := Aside0.mk ((gsz hg : w.heap.size ≤ gb115)); have GE115 := Aside0.mk ((gsz hg : w.heap.size ≤ gb115)); replace HB := Aside0.mk (below_step bel hb); clear hb hbox hg; obtain ⟨hcz24_0, hcz24_1, hcz24_2, hcz24_3, hcz24_4, hcz24_5, hcz24_6, hcz24_7, hcz24_8, hcz24_9, hcz24_10, hcz24_11, hcz24_12, hfz24_0, hfz24_1, hfz24_2, hfz24_3, hfz24_4, hfz24_5, hfz24_6, hfz24_7, hfz24_8, hfz24_9, hfz24_10, hfz24_11, hfz24_12⟩ := cz13 BK115.out) | ((with_reducible refine gate_dst (N := 17) rfl ?_); (try (refine gate_guard (by rfl) ?_; dsimp only)); refine Kd.R_lit k27 _ 27 ?hg (N := 17) ?hd (xs := ([(⟨1, 0, 0, (⟨(⟨#[]⟩ : ByteArray), 0, 0, 0⟩ : S23), 0, 0, (⟨(⟨#[]⟩ : ByteArray), (⟨#[]⟩ : ByteArray)⟩ : S25), (⟨(⟨#[]⟩ : ByteArray), (⟨#[]⟩ : ByteArray)⟩ : S25)⟩ : S27), (⟨3, 0, 0, (⟨(⟨#[]⟩ : ByteArray), 0, 0, 0⟩ : S23), 0, 0, (⟨(⟨#[]⟩ : ByteArray), (⟨#[]⟩ : ByteArray)⟩ : S25), (⟨(⟨#[]⟩ : ByteArray), (⟨#[]⟩ : ByteArray)⟩ : S25)⟩ : S27)] : List (S27))) (inner := [.int .i64 1, .int .i64 0, .int .i64 0, .string (⟨#[]⟩ : ByteArray), .int .i64 0, .int .i64 0, .int .i64 0, .int .i64 0, .int .i64 0, .string (⟨#[]⟩ : ByteArray), .string (⟨#[]⟩ : ByteArray), .string (⟨#[]⟩ : ByteArray), .string (⟨#[]⟩ : ByteArray), .int .i64 3, .int .i64 0, .int .i64 0, .string (⟨#[]⟩ : ByteArray), .int .i64 0, .int .i64 0, .int .i64 0, .int .i64 0, .int .i64 0, .string (⟨#[]⟩ : ByteArray), .string (⟨#[]⟩ : ByteArray), .string (⟨#[]⟩ : ByteArray), .string (⟨#[]⟩ : ByteArray)]) (ok := fun _ => True) (okp := fun _ => True) ?hr ?hp (fun _ hk => hk) trivial (Below.refl _ _) (Nat.le_refl _) (by simp) ?_; (case hd => rfl); (case hg => rfl); (case hr => first | (go_simp; done) | (go_simp; rfl)); (case hp => exact (Reps.front (show Kd.M k27 _ _ _ (⟨1, 0, 0, (⟨(⟨#[]⟩ : ByteArray), 0, 0, 0⟩ : S23), 0, 0, (⟨(⟨#[]⟩ : ByteArray), (⟨#[]⟩ : ByteArray)⟩ : S25), (⟨(⟨#[]⟩ : ByteArray), (⟨#[]⟩ : ByteArray)⟩ : S25)⟩ : S27) [.int .i64 1, .int .i64 0, .int .i64 0, .string (⟨#[]⟩ : ByteArray), .int .i64 0, .int .i64 0, .int .i64 0, .int .i64 0, .int .i64 0, .string (⟨#[]⟩ : ByteArray), .string (⟨#[]⟩ : ByteArray), .string (⟨#[]⟩ : ByteArray), .string (⟨#[]⟩ : ByteArray)] from (k27_mkM _ _ _ (⟨1, 0, 0, (⟨(⟨#[]⟩ : ByteArray), 0, 0, 0⟩ : S23), 0, 0, (⟨(⟨#[]⟩ : ByteArray), (⟨#[]⟩ : ByteArray)⟩ : S25), (⟨(⟨#[]⟩ : ByteArray), (⟨#[]⟩ : ByteArray)⟩ : S25)⟩ : S27) )) rfl (Reps.front (show Kd.M k27 _ _ _ (⟨3, 0, 0, (⟨(⟨#[]⟩ : ByteArray), 0, 0, 0⟩ : S23), 0, 0, (⟨(⟨#[]⟩ : ByteArray), (⟨#[]⟩ : ByteArray)⟩ : S25), (⟨(⟨#[]⟩ : ByteArray), (⟨#[]⟩ : ByteArray)⟩ : S25)⟩ : S27) [.int .i64 3, .int .i64 0, .int .i64 0, .string (⟨#[]⟩ : ByteArray), .int .i64 0, .int .i64 0, .int .i64 0, .int .i64 0, .int .i64 0, .string (⟨#[]⟩ : ByteArray), .string (⟨#[]⟩ : ByteArray), .string (⟨#[]⟩ : ByteArray), .string (⟨#[]⟩ : ByteArray)] from (k27_mkM _ _ _ (⟨3, 0, 0, (⟨(⟨#[]⟩ : ByteArray), 0, 0, 0⟩ : S23), 0, 0, (⟨(⟨#[]⟩ : ByteArray), (⟨#[]⟩ : ByteArray)⟩ : S25), (⟨(⟨#[]⟩ : ByteArray), (⟨#[]⟩ : ByteArray)⟩ : S25)⟩ : S27) )) rfl (Reps.none _ _) rfl) rfl)); intro v117 w25 ho26 hb hg_ hnew_; clear hg_ hnew_; (first | rw [← Ny116.out] at ho26 | (simp only [Int.reduceToNat] at ho26; rw [← Ny116.out] at ho26)); have HO118 := Aside0.mk (Kd.R_lower (Kd.R_newB ho26 (g := gb115) (o := .cells #[.int .i64 t101, .int .i64 t102, .int .i64 t103, .string t104, .int .i64 t105, .int .i64 t106, .int .i64 t107, .int .i64 t108, .int .i64 t109, .string t110, .string t111, .string t112, .string t113] 27 (0, 0)) (bs BK115.out)) (below_size bel)); replace BK115 := Aside0.mk (blk_below (g := gb115) (o := .cells #[.int .i64 t101, .int .i64 t102, .int .i64 t103, .string t104, .int .i64 t105, .int .i64 t106, .int .i64 t107, .int .i64 t108, .int .i64 t109, .string t110, .string t111, .string t112, .string t113] 27 (0, 0)) (bs BK115.out) hb); replace HB := Aside0.mk (below_step bel hb); clear hb ho26; obtain ⟨Ao27, co27, eo27⟩ := Kd.R_slice HO118.out; subst eo27) | ((with_reducible refine gate_callee (f := 43) rfl ?_); refine goesL_ (some 19) rfl rfl Tryz.func43 (by kernel_rfl) rfl #[.slice Ao27 y116.length co27, .agg #[.int .i64 2, .int .i64 0, .int .i64 0, .string (⟨#[]⟩ : ByteArray), .int .i64 0, .int .i64 0, .int .i64 0, .int .i64 0, .int .i64 0, .string (⟨#[]⟩ : ByteArray), .string (⟨#[]⟩ : ByteArray), .string (⟨#[]⟩ : ByteArray), .string (⟨#[]⟩ : ByteArray)]] rfl arg ?_; (with_reducible refine (trade_Add.calls _ _ y116 2 0 0 (⟨#[]⟩ : ByteArray) 0 0 0 0 0 (⟨#[]⟩ : ByteArray) (⟨#[]⟩ : ByteArray) (⟨#[]⟩ : ByteArray) (⟨#[]⟩ : ByteArray) t119 t122 _ ?side1 ?side2 A2.out).mono ?_); (case side1 => repeat (first | exact (Kd.R_reads' HO118.out).2.2 | (with_reducible refine Kd.C_alloc ?_ _) | (with_reducible refine Kd.C_drewN ?_ _) | (with_reducible refine Kd.C_drew ?_))); (case side2 => exact (Kd.R_reads' HO118.out).2.1); rintro e w28 ⟨v120, rfl, ho0, hb⟩; refine ⟨_, rfl, ?_⟩; have HO121 := Aside0.mk (Kd.R_lower (Kd.R_newB (Kd.R_new' ho0 (Kd.R_lt (kr HO118.out))) (g := gb115) (o := .cells #[.int .i64 t101, .int .i64 t102, .int .i64 t103, .string t104, .int .i64 t105, .int .i64 t106, .int .i64 t107, .int .i64 t108, .int .i64 t109, .string t110, .string t111, .string t112, .string t113] 27 (0, 0)) (bw BK115.out)) (below_size bel)); replace HO118 := Aside0.mk (Kd.R_elder' (kr HO118.out) (Kd.R_base ho0) hb); replace BK115 := Aside0.mk (blk_below (g := gb115) (bw BK115.out) hb); replace HB := Aside0.mk (below_step bel hb); (try clear hb); (try clear hb2); (try clear hk); (try clear hi); (try clear ho0); obtain ⟨Ao29, co29, eo29⟩ := Kd.R_slice HO121.out; subst eo29) | ((with_reducible refine gate_callee (f := 43) rfl ?_); refine goesL_ (some 25) rfl rfl Tryz.func43 (by kernel_rfl) rfl #[.slice Ao29 t119.length co29, .agg #[.int .i64 3, .int .i64 0, .int .i64 0, .string (⟨#[]⟩ : ByteArray), .int .i64 0, .int .i64 0, .int .i64 0, .int .i64 0, .int .i64 0, .string (⟨#[]⟩ : ByteArray), .string (⟨#[]⟩ : ByteArray), .string (⟨#[]⟩ : ByteArray), .string (⟨#[]⟩ : ByteArray)]] rfl arg ?_; (with_reducible refine (trade_Add.calls _ _ t119 3 0 0 (⟨#[]⟩ : ByteArray) 0 0 0 0 0 (⟨#[]⟩ : ByteArray) (⟨#[]⟩ : ByteArray) (⟨#[]⟩ : ByteArray) (⟨#[]⟩ : ByteArray) t123 t126 _ ?side1 ?side2 A3.out).mono ?_); (case side1 => repeat (first | exact (Kd.R_reads' HO121.out).2.2 | (with_reducible refine Kd.C_alloc ?_ _) | (with_reducible refine Kd.C_drewN ?_ _) | (with_reducible refine Kd.C_drew ?_))); (case side2 => exact (Kd.R_reads' HO121.out).2.1); rintro e w30 ⟨v124, rfl, ho0, hb⟩; refine ⟨_, rfl, ?_⟩; have HO125 := Aside0.mk (Kd.R_lower (Kd.R_newB (Kd.R_new' (Kd.R_new' ho0 (Kd.R_lt (kr HO118.out))) (Kd.R_lt (kr HO121.out))) (g := gb115) (o := .cells #[.int .i64 t101, .int .i64 t102, .int .i64 t103, .string t104, .int .i64 t105, .int .i64 t106, .int .i64 t107, .int .i64 t108, .int .i64 t109, .string t110, .string t111, .string t112, .string t113] 27 (0, 0)) (bw BK115.out)) (below_size bel)); replace HO118 := Aside0.mk (Kd.R_elder' (kr HO118.out) (Kd.R_base ho0) hb); replace HO121 := Aside0.mk (Kd.R_elder' (kr HO121.out) (Kd.R_base ho0) hb); replace BK115 := Aside0.mk (blk_below (g := gb115) (bw BK115.out) hb); replace HB := Aside0.mk (below_step bel hb); (try clear hb); (try clear hb2); (try clear hk); (try clear hi); (try clear ho0)) | ((with_reducible refine gate_callee (f := 44) rfl ?_); refine goesL_ (some 30) rfl rfl Tryz.func44 (by kernel_rfl) rfl #[.slice Ao29 t119.length co29, .int .i64 2] rfl arg ?_; (with_reducible refine (trade_Bust.calls _ _ t119 2 t127 t130 t131 t132 t133 t134 t135 t136 t137 t138 t139 t140 t141 t142 t143 _ ?side1 ?side2 A4.out).mono ?_); (case side1 => repeat (first | exact (Kd.R_reads' HO121.out).2.2 | (with_reducible refine Kd.C_alloc ?_ _) | (with_reducible refine Kd.C_drewN ?_ _) | (with_reducible refine Kd.C_drew ?_))); (case side2 => exact (Kd.R_reads' HO121.out).2.1); rintro e w31 ⟨v128, rfl, ho0, hb⟩; refine ⟨_, rfl, ?_⟩; have HO129 := Aside0.mk (Kd.R_lower (Kd.R_newB (Kd.R_new' (Kd.R_new' (Kd.R_new' ho0 (Kd.R_lt (kr HO118.out))) (Kd.R_lt (kr HO121.out))) (Kd.R_lt (kr HO125.out))) (g := gb115) (o := .cells #[.int .i64 t101, .int .i64 t102, .int .i64 t103, .string t104, .int .i64 t105, .int .i64 t106, .int .i64 t107, .int .i64 t108, .int .i64 t109, .string t110, .string t111, .string t112, .string t113] 27 (0, 0)) (bw BK115.out)) (below_size bel)); replace HO118 := Aside0.mk (Kd.R_elder' (kr HO118.out) (Kd.R_base ho0) hb); replace HO121 := Aside0.mk (Kd.R_elder' (kr HO121.out) (Kd.R_base ho0) hb); replace HO125 := Aside0.mk (Kd.R_elder' (kr HO125.out) (Kd.R_base ho0) hb); replace BK115 := Aside0.mk (blk_below (g := gb115) (bw BK115.out) hb); replace HB := Aside0.mk (below_step bel hb); (try clear hb); (try clear hb2); (try clear hk); (try clear hi); (try clear ho0)) | ((with_reducible refine gate_dst (N := 8) rfl ?_); (try (refine gate_guard (by rfl) ?_; dsimp only)); refine box_event ?hg (N := 8) ?hd (cs := #[.int .i64 0, .int .i64 0, .int .i64 0, .string (⟨#[]⟩ : ByteArray), .int .i64 0, .int .i64 0, .int .i64 0, .int .i64 0, .int .i64 0, .string (⟨#[]⟩ : ByteArray), .string (⟨#[]⟩ : ByteArray), .string (⟨#[]⟩ : ByteArray), .string (⟨#[]⟩ : ByteArray)]) (t := 27) ?hr ?_; (case hd => rfl); (case hg => rfl); (case hr => first | (go_simp; done) | (go_simp; rfl)); intro gb144 hg w32 hbox hb; replace HO118 := Aside0.mk (Kd.R_below (Kd.R_elderB (kr HO118.out) gb144 (Nat.le_of_eq hg.symm)) hb); replace HO121 := Aside0.mk (Kd.R_below (Kd.R_elderB (kr HO121.out) gb144 (Nat.le_of_eq hg.symm)) hb); replace HO125 := Aside0.mk (Kd.R_below (Kd.R_elderB (kr HO125.out) gb144 (Nat.le_of_eq hg.symm)) hb); replace HO129 := Aside0.mk (Kd.R_below (Kd.R_elderB (kr HO129.out) gb144 (Nat.le_of_eq hg.symm)) hb); have BK144 := Aside0.mk (hbox); have GW144 := Aside0.mk ((gsz hg : w.heap.size ≤ gb144)); have GE144 := Aside0.mk ((gsz hg : w.heap.size ≤ gb144)); have NB115_144 := Aside0.mk ((nlt hg (bw BK115.out) : gb115 ≠ gb144)); have NB144_115 := Aside0.mk ((ngt hg (bw BK115.out) : gb144 ≠ gb115)); replace BK115 := Aside0.mk (blk_below (g := gb115) (bw BK115.out) hb); replace HB := Aside0.mk (below_step bel hb); clear hb hbox hg; have hnb33 := NB144_115.out; have hnc33 := NB115_144.out; obtain ⟨hcz34_0, hcz34_1, hcz34_2, hcz34_3, hcz34_4, hcz34_5, hcz34_6, hcz34_7, hcz34_8, hcz34_9, hcz34_10, hcz34_11, hcz34_12, hfz34_0, hfz34_1, hfz34_2, hfz34_3, hfz34_4, hfz34_5, hfz34_6, hfz34_7, hfz34_8, hfz34_9, hfz34_10, hfz34_11, hfz34_12⟩ := cz13 BK144.out; obtain ⟨hcz35_0, hcz35_1, hcz35_2, hcz35_3, hcz35_4, hcz35_5, hcz35_6, hcz35_7, hcz35_8, hcz35_9, hcz35_10, hcz35_11, hcz35_12, hfz35_0, hfz35_1, hfz35_2, hfz35_3, hfz35_4, hfz35_5, hfz35_6, hfz35_7, hfz35_8, hfz35_9, hfz35_10, hfz35_11, hfz35_12⟩ := cz13 BK115.out) | (go_at_call 14; (with_reducible refine (trade_Print.calls k t101 t102 t103 t104 t105 t106 t107 t108 t109 t110 t111 t112 t113 t145 _ A11.out (glob_of HGL.out bem)).mono ?_); rintro e w36 ⟨rfl, hb⟩; replace HO118 := Aside0.mk (Kd.R_below (by (with_reducible repeat (first | apply Kd.R_alloc | apply Kd.R_drewN | apply Kd.R_drew)); exact (Kd.R_mono (Kd.R_far (p := ⟨gb144, 12, none⟩) (Kd.R_far (p := ⟨gb144, 11, none⟩) (Kd.R_far (p := ⟨gb144, 10, none⟩) (Kd.R_far (p := ⟨gb144, 9, none⟩) (Kd.R_far (p := ⟨gb144, 8, none⟩) (Kd.R_far (p := ⟨gb144, 7, none⟩) (Kd.R_far (p := ⟨gb144, 6, none⟩) (Kd.R_far (p := ⟨gb144, 5, none⟩) (Kd.R_far (p := ⟨gb144, 4, none⟩) (Kd.R_far (p := ⟨gb144, 3, none⟩) (Kd.R_far (p := ⟨gb144, 2, none⟩) (Kd.R_far (p := ⟨gb144, 1, none⟩) (Kd.R_far (p := ⟨gb144, 0, none⟩) (Kd.R_mono HO118.out (fun k_ hk => (⟨hk, hk.2⟩ : _ ∧ k_ ≠ gb144))) (fun _ hk => hk.2) (.int .i64 t130)) (fun _ hk => hk.2) (.int .i64 t131)) (fun _ hk => hk.2) (.int .i64 t132)) (fun _ hk => hk.2) (.string t133)) (fun _ hk => hk.2) (.int .i64 t134)) (fun _ hk => hk.2) (.int .i64 t135)) (fun _ hk => hk.2) (.int .i64 t136)) (fun _ hk => hk.2) (.int .i64 t137)) (fun _ hk => hk.2) (.int .i64 t138)) (fun _ hk => hk.2) (.string t139)) (fun _ hk => hk.2) (.string t140)) (fun _ hk => hk.2) (.string t141)) (fun _ hk => hk.2) (.string t142)) (fun _ h_ => h_.1))) hb); replace HO121 := Aside0.mk (Kd.R_below (by (with_reducible repeat (first | apply Kd.R_alloc | apply Kd.R_drewN | apply Kd.R_drew)); exact (Kd.R_mono (Kd.R_far (p := ⟨gb144, 12, none⟩) (Kd.R_far (p := ⟨gb144, 11, none⟩) (Kd.R_far (p := ⟨gb144, 10, none⟩) (Kd.R_far (p := ⟨gb144, 9, none⟩) (Kd.R_far (p := ⟨gb144, 8, none⟩) (Kd.R_far (p := ⟨gb144, 7, none⟩) (Kd.R_far (p := ⟨gb144, 6, none⟩) (Kd.R_far (p := ⟨gb144, 5, none⟩) (Kd.R_far (p := ⟨gb144, 4, none⟩) (Kd.R_far (p := ⟨gb144, 3, none⟩) (Kd.R_far (p := ⟨gb144, 2, none⟩) (Kd.R_far (p := ⟨gb144, 1, none⟩) (Kd.R_far (p := ⟨gb144, 0, none⟩) (Kd.R_mono HO121.out (fun k_ hk => (⟨hk, hk.2⟩ : _ ∧ k_ ≠ gb144))) (fun _ hk => hk.2) (.int .i64 t130)) (fun _ hk => hk.2) (.int .i64 t131)) (fun _ hk => hk.2) (.int .i64 t132)) (fun _ hk => hk.2) (.string t133)) (fun _ hk => hk.2) (.int .i64 t134)) (fun _ hk => hk.2) (.int .i64 t135)) (fun _ hk => hk.2) (.int .i64 t136)) (fun _ hk => hk.2) (.int .i64 t137)) (fun _ hk => hk.2) (.int .i64 t138)) (fun _ hk => hk.2) (.string t139)) (fun _ hk => hk.2) (.string t140)) (fun _ hk => hk.2) (.string t141)) (fun _ hk => hk.2) (.string t142)) (fun _ h_ => h_.1))) hb); replace HO125 := Aside0.mk (Kd.R_below (by (with_reducible repeat (first | apply Kd.R_alloc | apply Kd.R_drewN | apply Kd.R_drew)); exact (Kd.R_mono (Kd.R_far (p := ⟨gb144, 12, none⟩) (Kd.R_far (p := ⟨gb144, 11, none⟩) (Kd.R_far (p := ⟨gb144, 10, none⟩) (Kd.R_far (p := ⟨gb144, 9, none⟩) (Kd.R_far (p := ⟨gb144, 8, none⟩) (Kd.R_far (p := ⟨gb144, 7, none⟩) (Kd.R_far (p := ⟨gb144, 6, none⟩) (Kd.R_far (p := ⟨gb144, 5, none⟩) (Kd.R_far (p := ⟨gb144, 4, none⟩) (Kd.R_far (p := ⟨gb144, 3, none⟩) (Kd.R_far (p := ⟨gb144, 2, none⟩) (Kd.R_far (p := ⟨gb144, 1, none⟩) (Kd.R_far (p := ⟨gb144, 0, none⟩) (Kd.R_mono HO125.out (fun k_ hk => (⟨hk, hk.2⟩ : _ ∧ k_ ≠ gb144))) (fun _ hk => hk.2) (.int .i64 t130)) (fun _ hk => hk.2) (.int .i64 t131)) (fun _ hk => hk.2) (.int .i64 t132)) (fun _ hk => hk.2) (.string t133)) (fun _ hk => hk.2) (.int .i64 t134)) (fun _ hk => hk.2) (.int .i64 t135)) (fun _ hk => hk.2) (.int .i64 t136)) (fun _ hk => hk.2) (.int .i64 t137)) (fun _ hk => hk.2) (.int .i64 t138)) (fun _ hk => hk.2) (.string t139)) (fun _ hk => hk.2) (.string t140)) (fun _ hk => hk.2) (.string t141)) (fun _ hk => hk.2) (.string t142)) (fun _ h_ => h_.1))) hb); replace HO129 := Aside0.mk (Kd.R_below (by (with_reducible repeat (first | apply Kd.R_alloc | apply Kd.R_drewN | apply Kd.R_drew)); exact (Kd.R_mono (Kd.R_far (p := ⟨gb144, 12, none⟩) (Kd.R_far (p := ⟨gb144, 11, none⟩) (Kd.R_far (p := ⟨gb144, 10, none⟩) (Kd.R_far (p := ⟨gb144, 9, none⟩) (Kd.R_far (p := ⟨gb144, 8, none⟩) (Kd.R_far (p := ⟨gb144, 7, none⟩) (Kd.R_far (p := ⟨gb144, 6, none⟩) (Kd.R_far (p := ⟨gb144, 5, none⟩) (Kd.R_far (p := ⟨gb144, 4, none⟩) (Kd.R_far (p := ⟨gb144, 3, none⟩) (Kd.R_far (p := ⟨gb144, 2, none⟩) (Kd.R_far (p := ⟨gb144, 1, none⟩) (Kd.R_far (p := ⟨gb144, 0, none⟩) (Kd.R_mono HO129.out (fun k_ hk => (⟨hk, hk.2⟩ : _ ∧ k_ ≠ gb144))) (fun _ hk => hk.2) (.int .i64 t130)) (fun _ hk => hk.2) (.int .i64 t131)) (fun _ hk => hk.2) (.int .i64 t132)) (fun _ hk => hk.2) (.string t133)) (fun _ hk => hk.2) (.int .i64 t134)) (fun _ hk => hk.2) (.int .i64 t135)) (fun _ hk => hk.2) (.int .i64 t136)) (fun _ hk => hk.2) (.int .i64 t137)) (fun _ hk => hk.2) (.int .i64 t138)) (fun _ hk => hk.2) (.string t139)) (fun _ hk => hk.2) (.string t140)) (fun _ hk => hk.2) (.string t141)) (fun _ hk => hk.2) (.string t142)) (fun _ h_ => h_.1))) hb); replace BK115 := Aside0.mk (blk_below (g := gb115) (o := .cells #[.int .i64 t101, .int .i64 t102, .int .i64 t103, .string t104, .int .i64 t105, .int .i64 t106, .int .i64 t107, .int .i64 t108, .int .i64 t109, .string t110, .string t111, .string t112, .string t113] 27 (0, 0)) (bs BK115.out) hb); replace BK144 := Aside0.mk (blk_below (g := gb144) (o := .cells #[.int .i64 t130, .int .i64 t131, .int .i64 t132, .string t133, .int .i64 t134, .int .i64 t135, .int .i64 t136, .int .i64 t137, .int .i64 t138, .string t139, .string t140, .string t141, .string t142] 27 (0, 0)) (bs BK144.out) hb); replace HB := Aside0.mk (below_step bem hb); (try clear hb); (try clear hb2); (try clear hk); (try clear hi); have p146 : 0 ≤ (1 : Int) := (by omega); have q146 : 1 < (t119.length : Int) := dt; obtain ⟨ad146, e146, hx146_0, hx146_1, hx146_2, hx146_3, hx146_4, hx146_5, hx146_6, hx146_7, hx146_8, hx146_9, hx146_10, hx146_11, hx146_12⟩ := at_T27 (Kd.R_reads' HO121.out).2.2 1 p146 q146; cases e146; (try simp only [show (1 : Int).toNat = 1 from rfl, Nat.reduceMul, Nat.reduceEqDiff, Go.Addr.add, ↓reduceIte] at hx146_0); (try simp only [show (1 : Int).toNat = 1 from rfl, Nat.reduceMul, Nat.reduceEqDiff, Go.Addr.add, ↓reduceIte] at hx146_1); (try simp only [show (1 : Int).toNat = 1 from rfl, Nat.reduceMul, Nat.reduceEqDiff, Go.Addr.add, ↓reduceIte] at hx146_2); (try simp only [show (1 : Int).toNat = 1 from rfl, Nat.reduceMul, Nat.reduceEqDiff, Go.Addr.add, ↓reduceIte] at hx146_3); (try simp only [show (1 : Int).toNat = 1 from rfl, Nat.reduceMul, Nat.reduceEqDiff, Go.Addr.add, ↓reduceIte] at hx146_4); (try simp only [show (1 : Int).toNat = 1 from rfl, Nat.reduceMul, Nat.reduceEqDiff, Go.Addr.add, ↓reduceIte] at hx146_5); (try simp only [show (1 : Int).toNat = 1 from rfl, Nat.reduceMul, Nat.reduceEqDiff, Go.Addr.add, ↓reduceIte] at hx146_6); (try simp only [show (1 : Int).toNat = 1 from rfl, Nat.reduceMul, Nat.reduceEqDiff, Go.Addr.add, ↓reduceIte] at hx146_7); (try simp only [show (1 : Int).toNat = 1 from rfl, Nat.reduceMul, Nat.reduceEqDiff, Go.Addr.add, ↓reduceIte] at hx146_8); (try simp only [show (1 : Int).toNat = 1 from rfl, Nat.reduceMul, Nat.reduceEqDiff, Go.Addr.add, ↓reduceIte] at hx146_9); (try simp only [show (1 : Int).toNat = 1 from rfl, Nat.reduceMul, Nat.reduceEqDiff, Go.Addr.add, ↓reduceIte] at hx146_10); (try simp only [show (1 : Int).toNat = 1 from rfl, Nat.reduceMul, Nat.reduceEqDiff, Go.Addr.add, ↓reduceIte] at hx146_11); (try simp only [show (1 : Int).toNat = 1 from rfl, Nat.reduceMul, Nat.reduceEqDiff, Go.Addr.add, ↓reduceIte] at hx146_12); have qi146 : (1 < t119.length) = True := eq_true (by omega); (try rw [show ((1 : Int)).toNat = 1 from rfl] at hx146_0); (try rw [show 1 * 13 = 13 from rfl] at hx146_0); (try rw [show ((1 : Int)).toNat = 1 from rfl] at hx146_1); (try rw [show 1 * 13 = 13 from rfl] at hx146_1); (try rw [show ((1 : Int)).toNat = 1 from rfl] at hx146_2); (try rw [show 1 * 13 = 13 from rfl] at hx146_2); (try rw [show ((1 : Int)).toNat = 1 from rfl] at hx146_3); (try rw [show 1 * 13 = 13 from rfl] at hx146_3); (try rw [show ((1 : Int)).toNat = 1 from rfl] at hx146_4); (try rw [show 1 * 13 = 13 from rfl] at hx146_4); (try rw [show ((1 : Int)).toNat = 1 from rfl] at hx146_5); (try rw [show 1 * 13 = 13 from rfl] at hx146_5); (try rw [show ((1 : Int)).toNat = 1 from rfl] at hx146_6); (try rw [show 1 * 13 = 13 from rfl] at hx146_6); (try rw [show ((1 : Int)).toNat = 1 from rfl] at hx146_7); (try rw [show 1 * 13 = 13 from rfl] at hx146_7); (try rw [show ((1 : Int)).toNat = 1 from rfl] at hx146_8); (try rw [show 1 * 13 = 13 from rfl] at hx146_8); (try rw [show ((1 : Int)).toNat = 1 from rfl] at hx146_9); (try rw [show 1 * 13 = 13 from rfl] at hx146_9); (try rw [show ((1 : Int)).toNat = 1 from rfl] at hx146_10); (try rw [show 1 * 13 = 13 from rfl] at hx146_10); (try rw [show ((1 : Int)).toNat = 1 from rfl] at hx146_11); (try rw [show 1 * 13 = 13 from rfl] at hx146_11); (try rw [show ((1 : Int)).toNat = 1 from rfl] at hx146_12); (try rw [show 1 * 13 = 13 from rfl] at hx146_12); replace p146 := eq_true p146; replace q146 := eq_true q146; obtain ⟨hcz37_0, hcz37_1, hcz37_2, hcz37_3, hcz37_4, hcz37_5, hcz37_6, hcz37_7, hcz37_8, hcz37_9, hcz37_10, hcz37_11, hcz37_12, hfz37_0, hfz37_1, hfz37_2, hfz37_3, hfz37_4, hfz37_5, hfz37_6, hfz37_7, hfz37_8, hfz37_9, hfz37_10, hfz37_11, hfz37_12⟩ := cz13 BK144.out; obtain ⟨Ao38, co38, eo38⟩ := Kd.R_slice HO129.out; subst eo38; have p147 : 0 ≤ (1 : Int) := (by omega); have q147 : 1 < (t127.length : Int) := dt; obtain ⟨ad147, e147, hx147_0, hx147_1, hx147_2, hx147_3, hx147_4, hx147_5, hx147_6, hx147_7, hx147_8, hx147_9, hx147_10, hx147_11, hx147_12⟩ := at_T27 (Kd.R_reads' HO129.out).2.2 1 p147 q147; cases e147; (try simp only [show (1 : Int).toNat = 1 from rfl, Nat.reduceMul, Nat.reduceEqDiff, Go.Addr.add, ↓reduceIte] at hx147_0); (try simp only [show (1 : Int).toNat = 1 from rfl, Nat.reduceMul, Nat.reduceEqDiff, Go.Addr.add, ↓reduceIte] at hx147_1); (try simp only [show (1 : Int).toNat = 1 from rfl, Nat.reduceMul, Nat.reduceEqDiff, Go.Addr.add, ↓reduceIte] at hx147_2); (try simp only [show (1 : Int).toNat = 1 from rfl, Nat.reduceMul, Nat.reduceEqDiff, Go.Addr.add, ↓reduceIte] at hx147_3); (try simp only [show (1 : Int).toNat = 1 from rfl, Nat.reduceMul, Nat.reduceEqDiff, Go.Addr.add, ↓reduceIte] at hx147_4); (try simp only [show (1 : Int).toNat = 1 from rfl, Nat.reduceMul, Nat.reduceEqDiff, Go.Addr.add, ↓reduceIte] at hx147_5); (try simp only [show (1 : Int).toNat = 1 from rfl, Nat.reduceMul, Nat.reduceEqDiff, Go.Addr.add, ↓reduceIte] at hx147_6); (try simp only [show (1 : Int).toNat = 1 from rfl, Nat.reduceMul, Nat.reduceEqDiff, Go.Addr.add, ↓reduceIte] at hx147_7); (try simp only [show (1 : Int).toNat = 1 from rfl, Nat.reduceMul, Nat.reduceEqDiff, Go.Addr.add, ↓reduceIte] at hx147_8); (try simp only [show (1 : Int).toNat = 1 from rfl, Nat.reduceMul, Nat.reduceEqDiff, Go.Addr.add, ↓reduceIte] at hx147_9); (try simp only [show (1 : Int).toNat = 1 from rfl, Nat.reduceMul, Nat.reduceEqDiff, Go.Addr.add, ↓reduceIte] at hx147_10); (try simp only [show (1 : Int).toNat = 1 from rfl, Nat.reduceMul, Nat.reduceEqDiff, Go.Addr.add, ↓reduceIte] at hx147_11); (try simp only [show (1 : Int).toNat = 1 from rfl, Nat.reduceMul, Nat.reduceEqDiff, Go.Addr.add, ↓reduceIte] at hx147_12); have qi147 : (1 < t127.length) = True := eq_true (by omega); (try rw [show ((1 : Int)).toNat = 1 from rfl] at hx147_0); (try rw [show 1 * 13 = 13 from rfl] at hx147_0); (try rw [show ((1 : Int)).toNat = 1 from rfl] at hx147_1); (try rw [show 1 * 13 = 13 from rfl] at hx147_1); (try rw [show ((1 : Int)).toNat = 1 from rfl] at hx147_2); (try rw [show 1 * 13 = 13 from rfl] at hx147_2); (try rw [show ((1 : Int)).toNat = 1 from rfl] at hx147_3); (try rw [show 1 * 13 = 13 from rfl] at hx147_3); (try rw [show ((1 : Int)).toNat = 1 from rfl] at hx147_4); (try rw [show 1 * 13 = 13 from rfl] at hx147_4); (try rw [show ((1 : Int)).toNat = 1 from rfl] at hx147_5); (try rw [show 1 * 13 = 13 from rfl] at hx147_5); (try rw [show ((1 : Int)).toNat = 1 from rfl] at hx147_6); (try rw [show 1 * 13 = 13 from rfl] at hx147_6); (try rw [show ((1 : Int)).toNat = 1 from rfl] at hx147_7); (try rw [show 1 * 13 = 13 from rfl] at hx147_7); (try rw [show ((1 : Int)).toNat = 1 from rfl] at hx147_8); (try rw [show 1 * 13 = 13 from rfl] at hx147_8); (try rw [show ((1 : Int)).toNat = 1 from rfl] at hx147_9); (try rw [show 1 * 13 = 13 from rfl] at hx147_9); (try rw [show ((1 : Int)).toNat = 1 from rfl] at hx147_10); (try rw [show 1 * 13 = 13 from rfl] at hx147_10); (try rw [show ((1 : Int)).toNat = 1 from rfl] at hx147_11); (try rw [show 1 * 13 = 13 from rfl] at hx147_11); (try rw [show ((1 : Int)).toNat = 1 from rfl] at hx147_12); (try rw [show 1 * 13 = 13 from rfl] at hx147_12); replace p147 := eq_true p147; replace q147 := eq_true q147))
                                  go_ret
                                  exact ⟨ers, bem⟩
                                · rw [if_neg c21] at H
                                  exact absurd H (by simp)
                              · rw [if_neg c20] at H
                                exact absurd H (by simp)
                            · rw [if_neg c19] at H
                              exact absurd H (by simp)
                          · rw [if_neg c18] at H
                            exact absurd H (by simp)
                        · rw [if_neg c17] at H
                          exact absurd H (by simp)
                      · rw [if_neg c16] at H
                        exact absurd H (by simp)
                    · rw [if_neg c15] at H
                      exact absurd H (by simp)
                  · rw [if_neg c14] at H
                    exact absurd H (by simp)
                · rw [if_neg c13] at H
                  exact absurd H (by simp)
              · rw [if_neg c12] at H
                exact absurd H (by simp)
            · rw [if_neg c10] at H
              exact absurd H (by simp)
          · rw [if_neg c9] at H
            exact absurd H (by simp)
        · rw [if_neg c8] at H
          exact absurd H (by simp)
      · rw [if_neg c7] at H
        exact absurd H (by simp)
    · rw [if_neg c6] at H
      exact absurd H (by simp)
  · rw [if_neg c5] at H
    exact absurd H (by simp)
end Go.Proofs.YthpmmofleddpnaaGreatDoor.X
end
section
namespace Go.Proofs.YthpmmofleddpnaaGreatDoor.X
open Go.RowKit Go.Proofs.YthpmmofleddpnaaGreatDoorW.PrintWords Go.Proofs.YthpmmofleddpnaaGreatDoorW.PrintLast Go.Proofs.YthpmmofleddpnaaGreatDoorW.PrintMore
attribute [local go_sem] max2_int min2_int max_two min_two max_three min_three max_four min_four
set_option linter.unusedVariables false
set_option linter.unusedSimpArgs false
def contangoref09_Find.l0 : Nat → List (S69) → ByteArray → Int → Option (ByteArray × Int × Int × Int × Int × Int × Bool × Bool)
  | 0, _, _, _ => none
  | k + 1, x0, x1, x6 => if x6 < (x0.length : Int) then (if 0 ≤ x6 then (if ((rd_T69 x0 x6).f0).toList = x1.toList then (some ((rd_T69 x0 x6).f0, (rd_T69 x0 x6).f1, (rd_T69 x0 x6).f2, (rd_T69 x0 x6).f3, (rd_T69 x0 x6).f4, (rd_T69 x0 x6).f5, (rd_T69 x0 x6).f6, true)) else (contangoref09_Find.l0 k x0 x1 (wrap64 (x6 + 1)))) else (none)) else (some ((⟨#[]⟩ : ByteArray), 0, 0, 0, 0, 0, false, false))
def contangoref09_Find.f (k : Nat) (l0 : List (S69)) (a1 : ByteArray) : Option (ByteArray × Int × Int × Int × Int × Int × Bool × Bool) := contangoref09_Find.l0 k l0 a1 0
set_option maxHeartbeats 8000000 in
set_option maxRecDepth 100000 in
theorem contangoref09_Find.calls (k : Nat) (A0 : Option Addr) (c0 : Nat) (l0 : List (S69)) (a1 : ByteArray) (r1 : ByteArray) (r2 : Int) (r3 : Int) (r4 : Int) (r5 : Int) (r6 : Int) (r7 : Bool) (r8 : Bool) (w : World) (hr0 : Kd.C k69 w A0 l0.length l0) (hc0 : l0.length ≤ c0) (h : contangoref09_Find.f k l0 a1 = some (r1, r2, r3, r4, r5, r6, r7, r8)) :
    Calls Tryz.prog 39 #[.slice A0 l0.length c0, .string a1] w fun e w' => e = .returned (.tuple #[.agg #[.string r1, .int .i64 r2, .int .i64 r3, .int .i64 r4, .int .i64 r5, .int .i64 r6, .bool r7], .bool r8]) ∧ Below w.heap.size w w' := by
  have hu69 := Tryz.underlying69
  have HR0 := Aside0.mk hr0
  have HC0 := Aside0.mk hc0
  clear hr0 hc0
  have HB := Aside0.mk (Below.refl w.heap.size w)
  have H : (contangoref09_Find.l0 k l0 a1 0) = some (r1, r2, r3, r4, r5, r6, r7, r8) := h
  clear h
  have H' := Aside0.mk H
  clear H
  go_enter Tryz.func39, Tryz.ntmps39
  go_wp2_with (first | ((with_reducible refine gate_dst (N := 4) rfl ?_); refine box_event ?hg (N := 4) ?hd (cs := #[.string (⟨#[]⟩ : ByteArray), .int .i64 0, .int .i64 0, .int .i64 0, .int .i64 0, .int .i64 0, .bool false]) (t := 69) ?hr ?_; (case hd => rfl); (case hg => rfl); (case hr => first | (go_simp; done) | (go_simp; rfl)); intro gb101 hg w3 hbox hb; have BK101 := Aside0.mk (hbox); have GW101 := Aside0.mk ((gsz hg : w.heap.size ≤ gb101)); have GE101 := Aside0.mk ((gsz hg : w.heap.size ≤ gb101)); replace HB := Aside0.mk (below_step bel hb); clear hb hbox hg))
  go_loopg [6] k (fun kq v6 w' => ∃ (x6_1 : Int) (x102000_1 : ByteArray) (x102001_1 : Int) (x102002_1 : Int) (x102003_1 : Int) (x102004_1 : Int) (x102005_1 : Int) (x102006_1 : Bool), v6 = .int .i64 x6_1 ∧ Aside0 (contangoref09_Find.l0 kq l0 a1 x6_1 = some (r1, r2, r3, r4, r5, r6, r7, r8)) ∧ Aside0 (kq ≤ k) ∧ Aside0 (w'.heap[gb101]? = some (.cells #[.string x102000_1, .int .i64 x102001_1, .int .i64 x102002_1, .int .i64 x102003_1, .int .i64 x102004_1, .int .i64 x102005_1, .bool x102006_1] 69 (0, 0))) ∧ Aside0 (Below w.heap.size w w'))
  case atStart => exact ⟨(0), ((⟨#[]⟩ : ByteArray)), (0), (0), (0), (0), (0), (false), eqs, H', ⟨Nat.le_refl _⟩, ⟨bw BK101.out⟩, ⟨bel⟩⟩
  case round =>
    clear H'
    try clear p2
    try clear c3
    obtain ⟨x6_1, x102000_1, x102001_1, x102002_1, x102003_1, x102004_1, x102005_1, x102006_1, rfl, HA, HK1, BK101, HB⟩ := hrel
    cases gk with
    | zero => exact absurd HA.out (by simp [contangoref09_Find.l0])
    | succ k1 =>
      have H := HA.out
      clear HA
      simp only [contangoref09_Find.l0] at H
      by_cases c4 : x6_1 < (l0.length : Int)
      · rw [if_pos c4] at H
        have c4b0 := decide_eq_true c4
        clear c4
        by_cases c5 : 0 ≤ x6_1
        · rw [if_pos c5] at H
          have c5b0 := decide_eq_true c5
          clear c5
          by_cases c6 : ((rd_T69 l0 x6_1).f0).toList = a1.toList
          · rw [if_pos c6] at H
            have c6b0 : (((rd_T69 l0 x6_1).f0).toList == a1.toList) = true := beq_iff_eq.mpr c6
            have c6b1 : (((rd_T69 l0 x6_1).f0).toList != a1.toList) = false := bne_eq_false_iff_eq.mpr c6
            clear c6
            simp only [Option.some.injEq, Prod.mk.injEq] at H
            obtain ⟨rfl, rfl, rfl, rfl, rfl, rfl, rfl, rfl⟩ := H
            have p102 : 0 ≤ (x6_1 : Int) := dt
            have q102 : x6_1 < (l0.length : Int) := dt
            obtain ⟨ad102, e102, hx102_0, hx102_1, hx102_2, hx102_3, hx102_4, hx102_5, hx102_6⟩ := at_T69 HR0.out x6_1 p102 q102
            cases e102
            replace hx102_0 := (HB.out.cell (World.block_lt_of_cell? w _ hx102_0)).trans hx102_0
            replace hx102_1 := (HB.out.cell (World.block_lt_of_cell? w _ hx102_1)).trans hx102_1
            replace hx102_2 := (HB.out.cell (World.block_lt_of_cell? w _ hx102_2)).trans hx102_2
            replace hx102_3 := (HB.out.cell (World.block_lt_of_cell? w _ hx102_3)).trans hx102_3
            replace hx102_4 := (HB.out.cell (World.block_lt_of_cell? w _ hx102_4)).trans hx102_4
            replace hx102_5 := (HB.out.cell (World.block_lt_of_cell? w _ hx102_5)).trans hx102_5
            replace hx102_6 := (HB.out.cell (World.block_lt_of_cell? w _ hx102_6)).trans hx102_6
            replace p102 := eq_true p102
            replace q102 := eq_true q102
            have p103 : 0 ≤ (x6_1 : Int) := dt
            have q103 : x6_1 < (l0.length : Int) := dt
            obtain ⟨ad103, e103, hx103_0, hx103_1, hx103_2, hx103_3, hx103_4, hx103_5, hx103_6⟩ := at_T69 HR0.out x6_1 p103 q103
            obtain rfl : ad102 = ad103 := (by injection e103)
            replace hx103_0 := (HB.out.cell (World.block_lt_of_cell? w _ hx103_0)).trans hx103_0
            replace hx103_1 := (HB.out.cell (World.block_lt_of_cell? w _ hx103_1)).trans hx103_1
            replace hx103_2 := (HB.out.cell (World.block_lt_of_cell? w _ hx103_2)).trans hx103_2
            replace hx103_3 := (HB.out.cell (World.block_lt_of_cell? w _ hx103_3)).trans hx103_3
            replace hx103_4 := (HB.out.cell (World.block_lt_of_cell? w _ hx103_4)).trans hx103_4
            replace hx103_5 := (HB.out.cell (World.block_lt_of_cell? w _ hx103_5)).trans hx103_5
            replace hx103_6 := (HB.out.cell (World.block_lt_of_cell? w _ hx103_6)).trans hx103_6
            replace p103 := eq_true p103
            replace q103 := eq_true q103
            obtain ⟨hcz7_0, hcz7_1, hcz7_2, hcz7_3, hcz7_4, hcz7_5, hcz7_6, hfz7_0, hfz7_1, hfz7_2, hfz7_3, hfz7_4, hfz7_5, hfz7_6⟩ := cz7 BK101.out
            go_wp2
            refine bodyPost_ret (results_ct rfl _ _ gb101 69 #[.string ((rd_T69 l0 x6_1).f0), .int .i64 ((rd_T69 l0 x6_1).f1), .int .i64 ((rd_T69 l0 x6_1).f2), .int .i64 ((rd_T69 l0 x6_1).f3), .int .i64 ((rd_T69 l0 x6_1).f4), .int .i64 ((rd_T69 l0 x6_1).f5), .bool ((rd_T69 l0 x6_1).f6)] (0, 0) _ rfl (bs BK101.out) Tryz.underlying69 rfl (by kernel_rfl)) rfl ?_
            exact ⟨ers, bel⟩
          · rw [if_neg c6] at H
            have c6b0 : (((rd_T69 l0 x6_1).f0).toList == a1.toList) = false := beq_eq_false_iff_ne.mpr c6
            have c6b1 : (((rd_T69 l0 x6_1).f0).toList != a1.toList) = true := bne_iff_ne.mpr c6
            have H' := Aside0.mk H
            clear H
            have p102 : 0 ≤ (x6_1 : Int) := dt
            have q102 : x6_1 < (l0.length : Int) := dt
            obtain ⟨ad102, e102, hx102_0, hx102_1, hx102_2, hx102_3, hx102_4, hx102_5, hx102_6⟩ := at_T69 HR0.out x6_1 p102 q102
            cases e102
            replace hx102_0 := (HB.out.cell (World.block_lt_of_cell? w _ hx102_0)).trans hx102_0
            replace hx102_1 := (HB.out.cell (World.block_lt_of_cell? w _ hx102_1)).trans hx102_1
            replace hx102_2 := (HB.out.cell (World.block_lt_of_cell? w _ hx102_2)).trans hx102_2
            replace hx102_3 := (HB.out.cell (World.block_lt_of_cell? w _ hx102_3)).trans hx102_3
            replace hx102_4 := (HB.out.cell (World.block_lt_of_cell? w _ hx102_4)).trans hx102_4
            replace hx102_5 := (HB.out.cell (World.block_lt_of_cell? w _ hx102_5)).trans hx102_5
            replace hx102_6 := (HB.out.cell (World.block_lt_of_cell? w _ hx102_6)).trans hx102_6
            replace p102 := eq_true p102
            replace q102 := eq_true q102
            go_wp2
            go_roundg k1
            case measure => have := HK1.out; omega
            case rel => exact ⟨(wrap64 (x6_1 + 1)), (x102000_1), (x102001_1), (x102002_1), (x102003_1), (x102004_1), (x102005_1), (x102006_1), eqs, H', ⟨hko⟩, ⟨bw BK101.out⟩, ⟨bel⟩⟩
        · rw [if_neg c5] at H
          exact absurd H (by simp)
      · rw [if_neg c4] at H
        have c4b0 := decide_eq_false c4
        clear c4
        simp only [Option.some.injEq, Prod.mk.injEq] at H
        obtain ⟨rfl, rfl, rfl, rfl, rfl, rfl, rfl, rfl⟩ := H
        obtain ⟨hcz8_0, hcz8_1, hcz8_2, hcz8_3, hcz8_4, hcz8_5, hcz8_6, hfz8_0, hfz8_1, hfz8_2, hfz8_3, hfz8_4, hfz8_5, hfz8_6⟩ := cz7 BK101.out
        go_wp2
        refine bodyPost_ret (results_ct rfl _ _ gb101 69 #[.string (⟨#[]⟩ : ByteArray), .int .i64 0, .int .i64 0, .int .i64 0, .int .i64 0, .int .i64 0, .bool false] (0, 0) _ rfl (bs BK101.out) Tryz.underlying69 rfl (by kernel_rfl)) rfl ?_
        exact ⟨ers, bel⟩
def contangoref03_Name.l0 : Nat → ByteArray → Int → Option (Bool)
  | 0, _, _ => none
  | k + 1, x0, x3 => if x3 < (x0.size : Int) then (if 0 ≤ x3 then (if (bt x0 x3) ≥ 97 then (if ((bt x0 x3) ≤ 122) then (contangoref03_Name.l0 k x0 (wrap64 (x3 + 1))) else (if x3 = 0 then (some false) else (if (bt x0 x3) < 48 then (some false) else (if (bt x0 x3) > 57 then (some false) else (contangoref03_Name.l0 k x0 (wrap64 (x3 + 1))))))) else (if x3 = 0 then (some false) else (if (bt x0 x3) < 48 then (some false) else (if (bt x0 x3) > 57 then (some false) else (contangoref03_Name.l0 k x0 (wrap64 (x3 + 1))))))) else (none)) else (if (x0.size : Int) > 0 then (some (decide ((x0.size : Int) ≤ 12))) else (some false))
def contangoref03_Name.f (k : Nat) (a0 : ByteArray) : Option (Bool) := contangoref03_Name.l0 k a0 0
set_option maxHeartbeats 8000000 in
set_option maxRecDepth 100000 in
theorem contangoref03_Name.calls (k : Nat) (a0 : ByteArray) (r : Bool) (w : World) (h : contangoref03_Name.f k a0 = some r) :
    Calls Tryz.prog 95 #[.string a0] w fun e w' => e = .returned (.bool r) ∧ Drawn0 w w' := by
  have H : (contangoref03_Name.l0 k a0 0) = some r := h
  clear h
  have H' := Aside0.mk H
  clear H
  go_enter Tryz.func95, Tryz.ntmps95
  go_wp2
  go_loopg [3] k (fun kq v3 w' => ∃ (x3_1 : Int), v3 = .int .i64 x3_1 ∧ Aside0 (contangoref03_Name.l0 kq a0 x3_1 = some r) ∧ Aside0 (kq ≤ k) ∧ Drawn0 w w')
  case atStart => exact ⟨(0), eqs, H', ⟨Nat.le_refl _⟩, drz⟩
  case round =>
    clear H'
    obtain ⟨x3_1, rfl, HA, HK1, ⟨m1, rfl⟩⟩ := hrel
    cases gk with
    | zero => exact absurd HA.out (by simp [contangoref03_Name.l0])
    | succ k1 =>
      have H := HA.out
      clear HA
      simp only [contangoref03_Name.l0] at H
      by_cases c2 : x3_1 < (a0.size : Int)
      · rw [if_pos c2] at H
        have c2b0 := decide_eq_true c2
        clear c2
        by_cases c3 : 0 ≤ x3_1
        · rw [if_pos c3] at H
          have c3b0 := decide_eq_true c3
          clear c3
          by_cases c5 : (bt a0 x3_1) ≥ 97
          · rw [if_pos c5] at H
            have c5b0 : decide (97 ≤ (bt a0 x3_1)) = true := decide_eq_true c5
            clear c5
            by_cases c7 : ((bt a0 x3_1) ≤ 122)
            · rw [if_pos c7] at H
              have c7b0 : decide ((bt a0 x3_1) ≤ 122) = true := decide_eq_true c7
              clear c7
              have H' := Aside0.mk H
              clear H
              have p4 : 0 ≤ (x3_1 : Int) := dt
              have q4 : x3_1 < (a0.size : Int) := dt
              have hx4 := bt_at a0 x3_1
              replace p4 := eq_true p4
              replace q4 := eq_true q4
              have p6 : 0 ≤ (x3_1 : Int) := dt
              have q6 : x3_1 < (a0.size : Int) := dt
              have hx6 := bt_at a0 x3_1
              replace p6 := eq_true p6
              replace q6 := eq_true q6
              go_wp2
              go_roundg k1
              case measure => have := HK1.out; omega
              case rel => exact ⟨(wrap64 (x3_1 + 1)), eqs, H', ⟨hko⟩, drz⟩
            · rw [if_neg c7] at H
              have c7b0 : decide ((bt a0 x3_1) ≤ 122) = false := decide_eq_false c7
              clear c7
              by_cases c8 : x3_1 = 0
              · rw [if_pos c8] at H
                have c8b0 : (x3_1 == 0) = true := beq_iff_eq.mpr c8
                have c8b1 : (x3_1 != 0) = false := bne_eq_false_iff_eq.mpr c8
                clear c8
                obtain rfl := Option.some.inj H
                have p4 : 0 ≤ (x3_1 : Int) := dt
                have q4 : x3_1 < (a0.size : Int) := dt
                have hx4 := bt_at a0 x3_1
                replace p4 := eq_true p4
                replace q4 := eq_true q4
                have p6 : 0 ≤ (x3_1 : Int) := dt
                have q6 : x3_1 < (a0.size : Int) := dt
                have hx6 := bt_at a0 x3_1
                replace p6 := eq_true p6
                replace q6 := eq_true q6
                go_wp2
                go_ret
                exact ⟨eqs, drz⟩
              · rw [if_neg c8] at H
                have c8b0 : (x3_1 == 0) = false := beq_eq_false_iff_ne.mpr c8
                have c8b1 : (x3_1 != 0) = true := bne_iff_ne.mpr c8
                by_cases c10 : (bt a0 x3_1) < 48
                · rw [if_pos c10] at H
                  have c10b0 := decide_eq_true c10
                  clear c10
                  obtain rfl := Option.some.inj H
                  have p4 : 0 ≤ (x3_1 : Int) := dt
                  have q4 : x3_1 < (a0.size : Int) := dt
                  have hx4 := bt_at a0 x3_1
                  replace p4 := eq_true p4
                  replace q4 := eq_true q4
                  have p6 : 0 ≤ (x3_1 : Int) := dt
                  have q6 : x3_1 < (a0.size : Int) := dt
                  have hx6 := bt_at a0 x3_1
                  replace p6 := eq_true p6
                  replace q6 := eq_true q6
                  have p9 : 0 ≤ (x3_1 : Int) := dt
                  have q9 : x3_1 < (a0.size : Int) := dt
                  have hx9 := bt_at a0 x3_1
                  replace p9 := eq_true p9
                  replace q9 := eq_true q9
                  go_wp2
                  go_ret
                  exact ⟨eqs, drz⟩
                · rw [if_neg c10] at H
                  have c10b0 := decide_eq_false c10
                  clear c10
                  by_cases c12 : (bt a0 x3_1) > 57
                  · rw [if_pos c12] at H
                    have c12b0 : decide (57 < (bt a0 x3_1)) = true := decide_eq_true c12
                    clear c12
                    obtain rfl := Option.some.inj H
                    have p4 : 0 ≤ (x3_1 : Int) := dt
                    have q4 : x3_1 < (a0.size : Int) := dt
                    have hx4 := bt_at a0 x3_1
                    replace p4 := eq_true p4
                    replace q4 := eq_true q4
                    have p6 : 0 ≤ (x3_1 : Int) := dt
                    have q6 : x3_1 < (a0.size : Int) := dt
                    have hx6 := bt_at a0 x3_1
                    replace p6 := eq_true p6
                    replace q6 := eq_true q6
                    have p9 : 0 ≤ (x3_1 : Int) := dt
                    have q9 : x3_1 < (a0.size : Int) := dt
                    have hx9 := bt_at a0 x3_1
                    replace p9 := eq_true p9
                    replace q9 := eq_true q9
                    have p11 : 0 ≤ (x3_1 : Int) := dt
                    have q11 : x3_1 < (a0.size : Int) := dt
                    have hx11 := bt_at a0 x3_1
                    replace p11 := eq_true p11
                    replace q11 := eq_true q11
                    go_wp2
                    go_ret
                    exact ⟨eqs, drz⟩
                  · rw [if_neg c12] at H
                    have c12b0 : decide (57 < (bt a0 x3_1)) = false := decide_eq_false c12
                    clear c12
                    have H' := Aside0.mk H
                    clear H
                    have p4 : 0 ≤ (x3_1 : Int) := dt
                    have q4 : x3_1 < (a0.size : Int) := dt
                    have hx4 := bt_at a0 x3_1
                    replace p4 := eq_true p4
                    replace q4 := eq_true q4
                    have p6 : 0 ≤ (x3_1 : Int) := dt
                    have q6 : x3_1 < (a0.size : Int) := dt
                    have hx6 := bt_at a0 x3_1
                    replace p6 := eq_true p6
                    replace q6 := eq_true q6
                    have p9 : 0 ≤ (x3_1 : Int) := dt
                    have q9 : x3_1 < (a0.size : Int) := dt
                    have hx9 := bt_at a0 x3_1
                    replace p9 := eq_true p9
                    replace q9 := eq_true q9
                    have p11 : 0 ≤ (x3_1 : Int) := dt
                    have q11 : x3_1 < (a0.size : Int) := dt
                    have hx11 := bt_at a0 x3_1
                    replace p11 := eq_true p11
                    replace q11 := eq_true q11
                    go_wp2
                    go_roundg k1
                    case measure => have := HK1.out; omega
                    case rel => exact ⟨(wrap64 (x3_1 + 1)), eqs, H', ⟨hko⟩, drz⟩
          · rw [if_neg c5] at H
            have c5b0 : decide (97 ≤ (bt a0 x3_1)) = false := decide_eq_false c5
            clear c5
            by_cases c13 : x3_1 = 0
            · rw [if_pos c13] at H
              have c13b0 : (x3_1 == 0) = true := beq_iff_eq.mpr c13
              have c13b1 : (x3_1 != 0) = false := bne_eq_false_iff_eq.mpr c13
              clear c13
              obtain rfl := Option.some.inj H
              have p4 : 0 ≤ (x3_1 : Int) := dt
              have q4 : x3_1 < (a0.size : Int) := dt
              have hx4 := bt_at a0 x3_1
              replace p4 := eq_true p4
              replace q4 := eq_true q4
              go_wp2
              go_ret
              exact ⟨eqs, drz⟩
            · rw [if_neg c13] at H
              have c13b0 : (x3_1 == 0) = false := beq_eq_false_iff_ne.mpr c13
              have c13b1 : (x3_1 != 0) = true := bne_iff_ne.mpr c13
              by_cases c15 : (bt a0 x3_1) < 48
              · rw [if_pos c15] at H
                have c15b0 := decide_eq_true c15
                clear c15
                obtain rfl := Option.some.inj H
                have p4 : 0 ≤ (x3_1 : Int) := dt
                have q4 : x3_1 < (a0.size : Int) := dt
                have hx4 := bt_at a0 x3_1
                replace p4 := eq_true p4
                replace q4 := eq_true q4
                have p14 : 0 ≤ (x3_1 : Int) := dt
                have q14 : x3_1 < (a0.size : Int) := dt
                have hx14 := bt_at a0 x3_1
                replace p14 := eq_true p14
                replace q14 := eq_true q14
                go_wp2
                go_ret
                exact ⟨eqs, drz⟩
              · rw [if_neg c15] at H
                have c15b0 := decide_eq_false c15
                clear c15
                by_cases c17 : (bt a0 x3_1) > 57
                · rw [if_pos c17] at H
                  have c17b0 : decide (57 < (bt a0 x3_1)) = true := decide_eq_true c17
                  clear c17
                  obtain rfl := Option.some.inj H
                  have p4 : 0 ≤ (x3_1 : Int) := dt
                  have q4 : x3_1 < (a0.size : Int) := dt
                  have hx4 := bt_at a0 x3_1
                  replace p4 := eq_true p4
                  replace q4 := eq_true q4
                  have p14 : 0 ≤ (x3_1 : Int) := dt
                  have q14 : x3_1 < (a0.size : Int) := dt
                  have hx14 := bt_at a0 x3_1
                  replace p14 := eq_true p14
                  replace q14 := eq_true q14
                  have p16 : 0 ≤ (x3_1 : Int) := dt
                  have q16 : x3_1 < (a0.size : Int) := dt
                  have hx16 := bt_at a0 x3_1
                  replace p16 := eq_true p16
                  replace q16 := eq_true q16
                  go_wp2
                  go_ret
                  exact ⟨eqs, drz⟩
                · rw [if_neg c17] at H
                  have c17b0 : decide (57 < (bt a0 x3_1)) = false := decide_eq_false c17
                  clear c17
                  have H' := Aside0.mk H
                  clear H
                  have p4 : 0 ≤ (x3_1 : Int) := dt
                  have q4 : x3_1 < (a0.size : Int) := dt
                  have hx4 := bt_at a0 x3_1
                  replace p4 := eq_true p4
                  replace q4 := eq_true q4
                  have p14 : 0 ≤ (x3_1 : Int) := dt
                  have q14 : x3_1 < (a0.size : Int) := dt
                  have hx14 := bt_at a0 x3_1
                  replace p14 := eq_true p14
                  replace q14 := eq_true q14
                  have p16 : 0 ≤ (x3_1 : Int) := dt
                  have q16 : x3_1 < (a0.size : Int) := dt
                  have hx16 := bt_at a0 x3_1
                  replace p16 := eq_true p16
                  replace q16 := eq_true q16
                  go_wp2
                  go_roundg k1
                  case measure => have := HK1.out; omega
                  case rel => exact ⟨(wrap64 (x3_1 + 1)), eqs, H', ⟨hko⟩, drz⟩
        · rw [if_neg c3] at H
          exact absurd H (by simp)
      · rw [if_neg c2] at H
        have c2b0 := decide_eq_false c2
        clear c2
        by_cases c18 : (a0.size : Int) > 0
        · rw [if_pos c18] at H
          have c18b0 : decide (0 < (a0.size : Int)) = true := decide_eq_true c18
          have c18b1 : decide (0 < a0.size) = true := decide_eq_true (by omega)
          clear c18
          obtain rfl := Option.some.inj H
          go_wp2
          go_ret
          exact ⟨eqs, drz⟩
        · rw [if_neg c18] at H
          have c18b0 : decide (0 < (a0.size : Int)) = false := decide_eq_false c18
          have c18b1 : decide (0 < a0.size) = false := decide_eq_false (by omega)
          clear c18
          obtain rfl := Option.some.inj H
          go_wp2
          go_ret
          exact ⟨eqs, drz⟩
def contangoref09_within.f (a0 : Int) (a1 : Int) (a2 : Int) : Option (Bool) := if a0 ≥ a1 then (some (decide (a0 ≤ a2))) else (some false)
set_option maxHeartbeats 8000000 in
set_option maxRecDepth 100000 in
theorem contangoref09_within.calls (a0 : Int) (a1 : Int) (a2 : Int) (r : Bool) (w : World) (h : contangoref09_within.f a0 a1 a2 = some r) :
    Calls Tryz.prog 94 #[.int .i64 a0, .int .i64 a1, .int .i64 a2] w fun e w' => e = .returned (.bool r) ∧ Drawn0 w w' := by
  have H : (if a0 ≥ a1 then (some (decide (a0 ≤ a2))) else (some false)) = some r := h
  clear h
  by_cases c4 : a0 ≥ a1
  · rw [if_pos c4] at H
    have c4b0 : decide (a1 ≤ a0) = true := decide_eq_true c4
    clear c4
    obtain rfl := Option.some.inj H
    go_enter Tryz.func94, Tryz.ntmps94
    go_wp2
    go_ret
    exact ⟨eqs, drz⟩
  · rw [if_neg c4] at H
    have c4b0 : decide (a1 ≤ a0) = false := decide_eq_false c4
    clear c4
    obtain rfl := Option.some.inj H
    go_enter Tryz.func94, Tryz.ntmps94
    go_wp2
    go_ret
    exact ⟨eqs, drz⟩
def contangoref09_Check.f (k : Nat) (a0_0 : ByteArray) (a0_1 : Int) (a0_2 : Int) (a0_3 : Int) (a0_4 : Int) (a0_5 : Int) (a0_6 : Bool) : Option (Int) := (contangoref03_Name.f k a0_0).bind fun t102 => (if t102 = true then ((contangoref09_within.f a0_1 0 7).bind fun t103 => (if t103 = true then ((contangoref09_within.f a0_2 1 4096).bind fun t104 => (if t104 = true then ((contangoref09_within.f a0_3 1 16777216).bind fun t105 => (if t105 = true then ((contangoref09_within.f a0_4 (-16777216) 16777216).bind fun t106 => (if t106 = true then ((contangoref09_within.f a0_5 (-16777216) 16777216).bind fun t107 => (if t107 = true then (if a0_4 > a0_5 then (some 17) else (if a0_3 = 0 then (none) else (if (Int.tmod a0_4 a0_3) = 0 then (if (Int.tmod a0_5 a0_3) = 0 then (some 0) else (some 17)) else (some 17)))) else (some 17))) else (some 17))) else (some 16))) else (some 2))) else (some 25))) else (some 10))
set_option maxHeartbeats 8000000 in
set_option maxRecDepth 100000 in
theorem contangoref09_Check.calls (k : Nat) (a0_0 : ByteArray) (a0_1 : Int) (a0_2 : Int) (a0_3 : Int) (a0_4 : Int) (a0_5 : Int) (a0_6 : Bool) (r : Int) (w : World) (h : contangoref09_Check.f k a0_0 a0_1 a0_2 a0_3 a0_4 a0_5 a0_6 = some r) :
    Calls Tryz.prog 93 #[.agg #[.string a0_0, .int .i64 a0_1, .int .i64 a0_2, .int .i64 a0_3, .int .i64 a0_4, .int .i64 a0_5, .bool a0_6]] w fun e w' => e = .returned (.int .i64 r) ∧ Below w.heap.size w w' := by
  have hu69 := Tryz.underlying69
  have HB := Aside0.mk (Below.refl w.heap.size w)
  have H : ((contangoref03_Name.f k a0_0).bind fun t102 => (if t102 = true then ((contangoref09_within.f a0_1 0 7).bind fun t103 => (if t103 = true then ((contangoref09_within.f a0_2 1 4096).bind fun t104 => (if t104 = true then ((contangoref09_within.f a0_3 1 16777216).bind fun t105 => (if t105 = true then ((contangoref09_within.f a0_4 (-16777216) 16777216).bind fun t106 => (if t106 = true then ((contangoref09_within.f a0_5 (-16777216) 16777216).bind fun t107 => (if t107 = true then (if a0_4 > a0_5 then (some 17) else (if a0_3 = 0 then (none) else (if (Int.tmod a0_4 a0_3) = 0 then (if (Int.tmod a0_5 a0_3) = 0 then (some 0) else (some 17)) else (some 17)))) else (some 17))) else (some 17))) else (some 16))) else (some 2))) else (some 25))) else (some 10))) = some r := h
  clear h
  replace H := bnd H
  obtain ⟨t102, A20, H⟩ := H
  have A2 := Aside0.mk A20
  clear A20
  by_cases c3 : t102 = true
  · subst c3
    rw [if_pos rfl] at H
    replace H := bnd H
    obtain ⟨t103, A40, H⟩ := H
    have A4 := Aside0.mk A40
    clear A40
    go_enter Tryz.func93, Tryz.ntmps93
    go_wp2_with (first | ((with_reducible refine gate_dst (N := 1) rfl ?_); refine box_event ?hg (N := 1) ?hd (cs := #[.string a0_0, .int .i64 a0_1, .int .i64 a0_2, .int .i64 a0_3, .int .i64 a0_4, .int .i64 a0_5, .bool a0_6]) (t := 69) ?hr ?_; (case hd => rfl); (case hg => rfl); (case hr => first | (go_simp; done) | (go_simp; rfl)); intro gb101 hg w15 hbox hb; have BK101 := Aside0.mk (hbox); have GW101 := Aside0.mk ((gsz hg : w.heap.size ≤ gb101)); have GE101 := Aside0.mk ((gsz hg : w.heap.size ≤ gb101)); replace HB := Aside0.mk (below_step bel hb); clear hb hbox hg; obtain ⟨hcz16_0, hcz16_1, hcz16_2, hcz16_3, hcz16_4, hcz16_5, hcz16_6, hfz16_0, hfz16_1, hfz16_2, hfz16_3, hfz16_4, hfz16_5, hfz16_6⟩ := cz7 BK101.out) | ((with_reducible refine gate_callee (f := 95) rfl ?_); refine Aside0.out ?_))
    by_cases c5 : t103 = true
    · subst c5
      rw [if_pos rfl] at H
      replace H := bnd H
      obtain ⟨t104, A60, H⟩ := H
      have A6 := Aside0.mk A60
      clear A60
      refine Aside0.mk ?_
      (refine goesL_ (some 6) rfl rfl Tryz.func95 (by kernel_rfl) rfl #[.string a0_0] rfl arg ?_; (with_reducible refine (contangoref03_Name.calls k a0_0 true _ A2.out).mono ?_); rintro e w' ⟨rfl, ⟨nd, rfl⟩⟩; refine ⟨_, rfl, ?_⟩)
      go_wp2_with (((with_reducible refine gate_callee (f := 94) rfl ?_); refine Aside0.out ?_))
      by_cases c7 : t104 = true
      · subst c7
        rw [if_pos rfl] at H
        replace H := bnd H
        obtain ⟨t105, A80, H⟩ := H
        have A8 := Aside0.mk A80
        clear A80
        refine Aside0.mk ?_
        (refine goesL_ (some 11) rfl rfl Tryz.func94 (by kernel_rfl) rfl #[.int .i64 a0_1, .int .i64 0, .int .i64 7] rfl arg ?_; (with_reducible refine (contangoref09_within.calls a0_1 0 7 true _ A4.out).mono ?_); rintro e w' ⟨rfl, ⟨nd, rfl⟩⟩; refine ⟨_, rfl, ?_⟩)
        go_wp2_with (((with_reducible refine gate_callee (f := 94) rfl ?_); refine Aside0.out ?_))
        by_cases c9 : t105 = true
        · subst c9
          rw [if_pos rfl] at H
          replace H := bnd H
          obtain ⟨t106, A100, H⟩ := H
          have A10 := Aside0.mk A100
          clear A100
          refine Aside0.mk ?_
          (refine goesL_ (some 16) rfl rfl Tryz.func94 (by kernel_rfl) rfl #[.int .i64 a0_2, .int .i64 1, .int .i64 4096] rfl arg ?_; (with_reducible refine (contangoref09_within.calls a0_2 1 4096 true _ A6.out).mono ?_); rintro e w' ⟨rfl, ⟨nd, rfl⟩⟩; refine ⟨_, rfl, ?_⟩)
          go_wp2_with (((with_reducible refine gate_callee (f := 94) rfl ?_); refine Aside0.out ?_))
          by_cases c11 : t106 = true
          · subst c11
            rw [if_pos rfl] at H
            replace H := bnd H
            obtain ⟨t107, A120, H⟩ := H
            have A12 := Aside0.mk A120
            clear A120
            refine Aside0.mk ?_
            (refine goesL_ (some 21) rfl rfl Tryz.func94 (by kernel_rfl) rfl #[.int .i64 a0_3, .int .i64 1, .int .i64 16777216] rfl arg ?_; (with_reducible refine (contangoref09_within.calls a0_3 1 16777216 true _ A8.out).mono ?_); rintro e w' ⟨rfl, ⟨nd, rfl⟩⟩; refine ⟨_, rfl, ?_⟩)
            go_wp2_with (((with_reducible refine gate_callee (f := 94) rfl ?_); refine Aside0.out ?_))
            by_cases c13 : t107 = true
            · subst c13
              rw [if_pos rfl] at H
              refine Aside0.mk ?_
              (refine goesL_ (some 26) rfl rfl Tryz.func94 (by kernel_rfl) rfl #[.int .i64 a0_4, .int .i64 (-16777216), .int .i64 16777216] rfl arg ?_; (with_reducible refine (contangoref09_within.calls a0_4 (-16777216) 16777216 true _ A10.out).mono ?_); rintro e w' ⟨rfl, ⟨nd, rfl⟩⟩; refine ⟨_, rfl, ?_⟩)
              go_wp2_with (fail)
              by_cases c14 : a0_4 > a0_5
              · rw [if_pos c14] at H
                have c14b0 : decide (a0_5 < a0_4) = true := decide_eq_true c14
                clear c14
                obtain rfl := Option.some.inj H
                go_wp2_with ((go_at_call 94; (with_reducible refine (contangoref09_within.calls a0_5 (-16777216) 16777216 true _ A12.out).mono ?_); rintro e w' ⟨rfl, ⟨nd, rfl⟩⟩))
                go_ret
                exact ⟨ers, bel⟩
              · rw [if_neg c14] at H
                have c14b0 : decide (a0_5 < a0_4) = false := decide_eq_false c14
                clear c14
                by_cases c17 : a0_3 = 0
                · rw [if_pos c17] at H
                  exact absurd H (by simp)
                · rw [if_neg c17] at H
                  have c17b0 : (a0_3 == 0) = false := beq_eq_false_iff_ne.mpr c17
                  have c17b1 : (a0_3 != 0) = true := bne_iff_ne.mpr c17
                  by_cases c18 : (Int.tmod a0_4 a0_3) = 0
                  · rw [if_pos c18] at H
                    have c18b0 : ((Int.tmod a0_4 a0_3) == 0) = true := beq_iff_eq.mpr c18
                    have c18b1 : ((Int.tmod a0_4 a0_3) != 0) = false := bne_eq_false_iff_eq.mpr c18
                    clear c18
                    by_cases c19 : (Int.tmod a0_5 a0_3) = 0
                    · rw [if_pos c19] at H
                      have c19b0 : ((Int.tmod a0_5 a0_3) == 0) = true := beq_iff_eq.mpr c19
                      have c19b1 : ((Int.tmod a0_5 a0_3) != 0) = false := bne_eq_false_iff_eq.mpr c19
                      clear c19
                      obtain rfl := Option.some.inj H
                      go_wp2_with ((go_at_call 94; (with_reducible refine (contangoref09_within.calls a0_5 (-16777216) 16777216 true _ A12.out).mono ?_); rintro e w' ⟨rfl, ⟨nd, rfl⟩⟩))
                      go_ret
                      exact ⟨ers, bel⟩
                    · rw [if_neg c19] at H
                      have c19b0 : ((Int.tmod a0_5 a0_3) == 0) = false := beq_eq_false_iff_ne.mpr c19
                      have c19b1 : ((Int.tmod a0_5 a0_3) != 0) = true := bne_iff_ne.mpr c19
                      obtain rfl := Option.some.inj H
                      go_wp2_with ((go_at_call 94; (with_reducible refine (contangoref09_within.calls a0_5 (-16777216) 16777216 true _ A12.out).mono ?_); rintro e w' ⟨rfl, ⟨nd, rfl⟩⟩))
                      go_ret
                      exact ⟨ers, bel⟩
                  · rw [if_neg c18] at H
                    have c18b0 : ((Int.tmod a0_4 a0_3) == 0) = false := beq_eq_false_iff_ne.mpr c18
                    have c18b1 : ((Int.tmod a0_4 a0_3) != 0) = true := bne_iff_ne.mpr c18
                    obtain rfl := Option.some.inj H
                    go_wp2_with ((go_at_call 94; (with_reducible refine (contangoref09_within.calls a0_5 (-16777216) 16777216 true _ A12.out).mono ?_); rintro e w' ⟨rfl, ⟨nd, rfl⟩⟩))
                    go_ret
                    exact ⟨ers, bel⟩
            · replace c13 := Bool.eq_false_iff.mpr c13
              subst c13
              rw [if_neg (show ¬ (false = true) by decide)] at H
              obtain rfl := Option.some.inj H
              refine Aside0.mk ?_
              (refine goesL_ (some 26) rfl rfl Tryz.func94 (by kernel_rfl) rfl #[.int .i64 a0_4, .int .i64 (-16777216), .int .i64 16777216] rfl arg ?_; (with_reducible refine (contangoref09_within.calls a0_4 (-16777216) 16777216 true _ A10.out).mono ?_); rintro e w' ⟨rfl, ⟨nd, rfl⟩⟩; refine ⟨_, rfl, ?_⟩)
              go_wp2_with ((go_at_call 94; (with_reducible refine (contangoref09_within.calls a0_5 (-16777216) 16777216 false _ A12.out).mono ?_); rintro e w' ⟨rfl, ⟨nd, rfl⟩⟩))
              go_ret
              exact ⟨ers, bel⟩
          · replace c11 := Bool.eq_false_iff.mpr c11
            subst c11
            rw [if_neg (show ¬ (false = true) by decide)] at H
            obtain rfl := Option.some.inj H
            refine Aside0.mk ?_
            (refine goesL_ (some 21) rfl rfl Tryz.func94 (by kernel_rfl) rfl #[.int .i64 a0_3, .int .i64 1, .int .i64 16777216] rfl arg ?_; (with_reducible refine (contangoref09_within.calls a0_3 1 16777216 true _ A8.out).mono ?_); rintro e w' ⟨rfl, ⟨nd, rfl⟩⟩; refine ⟨_, rfl, ?_⟩)
            go_wp2_with (((with_reducible refine gate_callee (f := 94) rfl ?_); refine goesL_ (some 26) rfl rfl Tryz.func94 (by kernel_rfl) rfl #[.int .i64 a0_4, .int .i64 (-16777216), .int .i64 16777216] rfl arg ?_; (with_reducible refine (contangoref09_within.calls a0_4 (-16777216) 16777216 false _ A10.out).mono ?_); rintro e w' ⟨rfl, ⟨nd, rfl⟩⟩; refine ⟨_, rfl, ?_⟩))
            go_ret
            exact ⟨ers, bel⟩
        · replace c9 := Bool.eq_false_iff.mpr c9
          subst c9
          rw [if_neg (show ¬ (false = true) by decide)] at H
          obtain rfl := Option.some.inj H
          refine Aside0.mk ?_
          (refine goesL_ (some 16) rfl rfl Tryz.func94 (by kernel_rfl) rfl #[.int .i64 a0_2, .int .i64 1, .int .i64 4096] rfl arg ?_; (with_reducible refine (contangoref09_within.calls a0_2 1 4096 true _ A6.out).mono ?_); rintro e w' ⟨rfl, ⟨nd, rfl⟩⟩; refine ⟨_, rfl, ?_⟩)
          go_wp2_with (((with_reducible refine gate_callee (f := 94) rfl ?_); refine goesL_ (some 21) rfl rfl Tryz.func94 (by kernel_rfl) rfl #[.int .i64 a0_3, .int .i64 1, .int .i64 16777216] rfl arg ?_; (with_reducible refine (contangoref09_within.calls a0_3 1 16777216 false _ A8.out).mono ?_); rintro e w' ⟨rfl, ⟨nd, rfl⟩⟩; refine ⟨_, rfl, ?_⟩))
          go_ret
          exact ⟨ers, bel⟩
      · replace c7 := Bool.eq_false_iff.mpr c7
        subst c7
        rw [if_neg (show ¬ (false = true) by decide)] at H
        obtain rfl := Option.some.inj H
        refine Aside0.mk ?_
        (refine goesL_ (some 11) rfl rfl Tryz.func94 (by kernel_rfl) rfl #[.int .i64 a0_1, .int .i64 0, .int .i64 7] rfl arg ?_; (with_reducible refine (contangoref09_within.calls a0_1 0 7 true _ A4.out).mono ?_); rintro e w' ⟨rfl, ⟨nd, rfl⟩⟩; refine ⟨_, rfl, ?_⟩)
        go_wp2_with (((with_reducible refine gate_callee (f := 94) rfl ?_); refine goesL_ (some 16) rfl rfl Tryz.func94 (by kernel_rfl) rfl #[.int .i64 a0_2, .int .i64 1, .int .i64 4096] rfl arg ?_; (with_reducible refine (contangoref09_within.calls a0_2 1 4096 false _ A6.out).mono ?_); rintro e w' ⟨rfl, ⟨nd, rfl⟩⟩; refine ⟨_, rfl, ?_⟩))
        go_ret
        exact ⟨ers, bel⟩
    · replace c5 := Bool.eq_false_iff.mpr c5
      subst c5
      rw [if_neg (show ¬ (false = true) by decide)] at H
      obtain rfl := Option.some.inj H
      refine Aside0.mk ?_
      (refine goesL_ (some 6) rfl rfl Tryz.func95 (by kernel_rfl) rfl #[.string a0_0] rfl arg ?_; (with_reducible refine (contangoref03_Name.calls k a0_0 true _ A2.out).mono ?_); rintro e w' ⟨rfl, ⟨nd, rfl⟩⟩; refine ⟨_, rfl, ?_⟩)
      go_wp2_with (((with_reducible refine gate_callee (f := 94) rfl ?_); refine goesL_ (some 11) rfl rfl Tryz.func94 (by kernel_rfl) rfl #[.int .i64 a0_1, .int .i64 0, .int .i64 7] rfl arg ?_; (with_reducible refine (contangoref09_within.calls a0_1 0 7 false _ A4.out).mono ?_); rintro e w' ⟨rfl, ⟨nd, rfl⟩⟩; refine ⟨_, rfl, ?_⟩))
      go_ret
      exact ⟨ers, bel⟩
  · replace c3 := Bool.eq_false_iff.mpr c3
    subst c3
    rw [if_neg (show ¬ (false = true) by decide)] at H
    obtain rfl := Option.some.inj H
    go_enter Tryz.func93, Tryz.ntmps93
    go_wp2_with (first | ((with_reducible refine gate_dst (N := 1) rfl ?_); refine box_event ?hg (N := 1) ?hd (cs := #[.string a0_0, .int .i64 a0_1, .int .i64 a0_2, .int .i64 a0_3, .int .i64 a0_4, .int .i64 a0_5, .bool a0_6]) (t := 69) ?hr ?_; (case hd => rfl); (case hg => rfl); (case hr => first | (go_simp; done) | (go_simp; rfl)); intro gb101 hg w36 hbox hb; have BK101 := Aside0.mk (hbox); have GW101 := Aside0.mk ((gsz hg : w.heap.size ≤ gb101)); have GE101 := Aside0.mk ((gsz hg : w.heap.size ≤ gb101)); replace HB := Aside0.mk (below_step bel hb); clear hb hbox hg; obtain ⟨hcz37_0, hcz37_1, hcz37_2, hcz37_3, hcz37_4, hcz37_5, hcz37_6, hfz37_0, hfz37_1, hfz37_2, hfz37_3, hfz37_4, hfz37_5, hfz37_6⟩ := cz7 BK101.out) | ((with_reducible refine gate_callee (f := 95) rfl ?_); refine goesL_ (some 6) rfl rfl Tryz.func95 (by kernel_rfl) rfl #[.string a0_0] rfl arg ?_; (with_reducible refine (contangoref03_Name.calls k a0_0 false _ A2.out).mono ?_); rintro e w' ⟨rfl, ⟨nd, rfl⟩⟩; refine ⟨_, rfl, ?_⟩))
    go_ret
    exact ⟨ers, bel⟩
def contangoref09_Price.f (k : Nat) (a0_0 : ByteArray) (a0_1 : Int) (a0_2 : Int) (a0_3 : Int) (a0_4 : Int) (a0_5 : Int) (a0_6 : Bool) (a1 : Int) : Option (Int) := (contangoref09_Check.f k a0_0 a0_1 a0_2 a0_3 a0_4 a0_5 a0_6).bind fun t102 => (if t102 = 0 then ((contangoref09_within.f a1 a0_4 a0_5).bind fun t103 => (if t103 = true then (if a0_3 = 0 then (none) else (if (Int.tmod a1 a0_3) = 0 then (some 0) else (some 16))) else (some 17))) else (some t102))
set_option maxHeartbeats 8000000 in
set_option maxRecDepth 100000 in
theorem contangoref09_Price.calls (k : Nat) (a0_0 : ByteArray) (a0_1 : Int) (a0_2 : Int) (a0_3 : Int) (a0_4 : Int) (a0_5 : Int) (a0_6 : Bool) (a1 : Int) (r : Int) (w : World) (h : contangoref09_Price.f k a0_0 a0_1 a0_2 a0_3 a0_4 a0_5 a0_6 a1 = some r) :
    Calls Tryz.prog 40 #[.agg #[.string a0_0, .int .i64 a0_1, .int .i64 a0_2, .int .i64 a0_3, .int .i64 a0_4, .int .i64 a0_5, .bool a0_6], .int .i64 a1] w fun e w' => e = .returned (.int .i64 r) ∧ Below w.heap.size w w' := by
  have hu69 := Tryz.underlying69
  have HB := Aside0.mk (Below.refl w.heap.size w)
  have H : ((contangoref09_Check.f k a0_0 a0_1 a0_2 a0_3 a0_4 a0_5 a0_6).bind fun t102 => (if t102 = 0 then ((contangoref09_within.f a1 a0_4 a0_5).bind fun t103 => (if t103 = true then (if a0_3 = 0 then (none) else (if (Int.tmod a1 a0_3) = 0 then (some 0) else (some 16))) else (some 17))) else (some t102))) = some r := h
  clear h
  replace H := bnd H
  obtain ⟨t102, A30, H⟩ := H
  have A3 := Aside0.mk A30
  clear A30
  by_cases c4 : t102 = 0
  · rw [if_pos c4] at H
    have c4b0 : (t102 == 0) = true := beq_iff_eq.mpr c4
    have c4b1 : (t102 != 0) = false := bne_eq_false_iff_eq.mpr c4
    clear c4
    replace H := bnd H
    obtain ⟨t103, A50, H⟩ := H
    have A5 := Aside0.mk A50
    clear A50
    go_enter Tryz.func40, Tryz.ntmps40
    go_wp2_with (first | ((with_reducible refine gate_dst (N := 2) rfl ?_); refine box_event ?hg (N := 2) ?hd (cs := #[.string a0_0, .int .i64 a0_1, .int .i64 a0_2, .int .i64 a0_3, .int .i64 a0_4, .int .i64 a0_5, .bool a0_6]) (t := 69) ?hr ?_; (case hd => rfl); (case hg => rfl); (case hr => first | (go_simp; done) | (go_simp; rfl)); intro gb101 hg w9 hbox hb; have BK101 := Aside0.mk (hbox); have GW101 := Aside0.mk ((gsz hg : w.heap.size ≤ gb101)); have GE101 := Aside0.mk ((gsz hg : w.heap.size ≤ gb101)); replace HB := Aside0.mk (below_step bel hb); clear hb hbox hg; obtain ⟨hcz10_0, hcz10_1, hcz10_2, hcz10_3, hcz10_4, hcz10_5, hcz10_6, hfz10_0, hfz10_1, hfz10_2, hfz10_3, hfz10_4, hfz10_5, hfz10_6⟩ := cz7 BK101.out) | ((with_reducible refine gate_callee (f := 93) rfl ?_); refine Aside0.out ?_))
    by_cases c6 : t103 = true
    · subst c6
      rw [if_pos rfl] at H
      refine Aside0.mk ?_
      (refine goesL_ (some 7) rfl rfl Tryz.func93 (by kernel_rfl) rfl #[.agg #[.string a0_0, .int .i64 a0_1, .int .i64 a0_2, .int .i64 a0_3, .int .i64 a0_4, .int .i64 a0_5, .bool a0_6]] rfl arg ?_; (with_reducible refine (contangoref09_Check.calls k a0_0 a0_1 a0_2 a0_3 a0_4 a0_5 a0_6 t102 _ A3.out).mono ?_); rintro e w11 ⟨rfl, hb⟩; refine ⟨_, rfl, ?_⟩; replace BK101 := Aside0.mk (blk_below (g := gb101) (bw BK101.out) hb); replace HB := Aside0.mk (below_step bel hb); (try clear hb); (try clear hb2); (try clear hk); (try clear hi); obtain ⟨hcz12_0, hcz12_1, hcz12_2, hcz12_3, hcz12_4, hcz12_5, hcz12_6, hfz12_0, hfz12_1, hfz12_2, hfz12_3, hfz12_4, hfz12_5, hfz12_6⟩ := cz7 BK101.out)
      go_wp2_with (((with_reducible refine gate_callee (f := 94) rfl ?_); refine Aside0.out ?_))
      by_cases c7 : a0_3 = 0
      · rw [if_pos c7] at H
        exact absurd H (by simp)
      · rw [if_neg c7] at H
        have c7b0 : (a0_3 == 0) = false := beq_eq_false_iff_ne.mpr c7
        have c7b1 : (a0_3 != 0) = true := bne_iff_ne.mpr c7
        by_cases c8 : (Int.tmod a1 a0_3) = 0
        · rw [if_pos c8] at H
          have c8b0 : ((Int.tmod a1 a0_3) == 0) = true := beq_iff_eq.mpr c8
          have c8b1 : ((Int.tmod a1 a0_3) != 0) = false := bne_eq_false_iff_eq.mpr c8
          clear c8
          obtain rfl := Option.some.inj H
          refine Aside0.mk ?_
          (refine goesL_ (some 16) rfl rfl Tryz.func94 (by kernel_rfl) rfl #[.int .i64 a1, .int .i64 a0_4, .int .i64 a0_5] rfl arg ?_; (with_reducible refine (contangoref09_within.calls a1 a0_4 a0_5 true _ A5.out).mono ?_); rintro e w' ⟨rfl, ⟨nd, rfl⟩⟩; refine ⟨_, rfl, ?_⟩)
          go_wp2_with (fail)
          go_ret
          exact ⟨ers, bel⟩
        · rw [if_neg c8] at H
          have c8b0 : ((Int.tmod a1 a0_3) == 0) = false := beq_eq_false_iff_ne.mpr c8
          have c8b1 : ((Int.tmod a1 a0_3) != 0) = true := bne_iff_ne.mpr c8
          obtain rfl := Option.some.inj H
          refine Aside0.mk ?_
          (refine goesL_ (some 16) rfl rfl Tryz.func94 (by kernel_rfl) rfl #[.int .i64 a1, .int .i64 a0_4, .int .i64 a0_5] rfl arg ?_; (with_reducible refine (contangoref09_within.calls a1 a0_4 a0_5 true _ A5.out).mono ?_); rintro e w' ⟨rfl, ⟨nd, rfl⟩⟩; refine ⟨_, rfl, ?_⟩)
          go_wp2_with (fail)
          go_ret
          exact ⟨ers, bel⟩
    · replace c6 := Bool.eq_false_iff.mpr c6
      subst c6
      rw [if_neg (show ¬ (false = true) by decide)] at H
      obtain rfl := Option.some.inj H
      refine Aside0.mk ?_
      (refine goesL_ (some 7) rfl rfl Tryz.func93 (by kernel_rfl) rfl #[.agg #[.string a0_0, .int .i64 a0_1, .int .i64 a0_2, .int .i64 a0_3, .int .i64 a0_4, .int .i64 a0_5, .bool a0_6]] rfl arg ?_; (with_reducible refine (contangoref09_Check.calls k a0_0 a0_1 a0_2 a0_3 a0_4 a0_5 a0_6 t102 _ A3.out).mono ?_); rintro e w19 ⟨rfl, hb⟩; refine ⟨_, rfl, ?_⟩; replace BK101 := Aside0.mk (blk_below (g := gb101) (bw BK101.out) hb); replace HB := Aside0.mk (below_step bel hb); (try clear hb); (try clear hb2); (try clear hk); (try clear hi); obtain ⟨hcz20_0, hcz20_1, hcz20_2, hcz20_3, hcz20_4, hcz20_5, hcz20_6, hfz20_0, hfz20_1, hfz20_2, hfz20_3, hfz20_4, hfz20_5, hfz20_6⟩ := cz7 BK101.out)
      go_wp2_with (((with_reducible refine gate_callee (f := 94) rfl ?_); refine goesL_ (some 16) rfl rfl Tryz.func94 (by kernel_rfl) rfl #[.int .i64 a1, .int .i64 a0_4, .int .i64 a0_5] rfl arg ?_; (with_reducible refine (contangoref09_within.calls a1 a0_4 a0_5 false _ A5.out).mono ?_); rintro e w' ⟨rfl, ⟨nd, rfl⟩⟩; refine ⟨_, rfl, ?_⟩))
      go_ret
      exact ⟨ers, bel⟩
  · rw [if_neg c4] at H
    have c4b0 : (t102 == 0) = false := beq_eq_false_iff_ne.mpr c4
    have c4b1 : (t102 != 0) = true := bne_iff_ne.mpr c4
    obtain rfl := Option.some.inj H
    go_enter Tryz.func40, Tryz.ntmps40
    go_wp2_with (first | ((with_reducible refine gate_dst (N := 2) rfl ?_); refine box_event ?hg (N := 2) ?hd (cs := #[.string a0_0, .int .i64 a0_1, .int .i64 a0_2, .int .i64 a0_3, .int .i64 a0_4, .int .i64 a0_5, .bool a0_6]) (t := 69) ?hr ?_; (case hd => rfl); (case hg => rfl); (case hr => first | (go_simp; done) | (go_simp; rfl)); intro gb101 hg w21 hbox hb; have BK101 := Aside0.mk (hbox); have GW101 := Aside0.mk ((gsz hg : w.heap.size ≤ gb101)); have GE101 := Aside0.mk ((gsz hg : w.heap.size ≤ gb101)); replace HB := Aside0.mk (below_step bel hb); clear hb hbox hg; obtain ⟨hcz22_0, hcz22_1, hcz22_2, hcz22_3, hcz22_4, hcz22_5, hcz22_6, hfz22_0, hfz22_1, hfz22_2, hfz22_3, hfz22_4, hfz22_5, hfz22_6⟩ := cz7 BK101.out) | ((with_reducible refine gate_callee (f := 93) rfl ?_); refine goesL_ (some 7) rfl rfl Tryz.func93 (by kernel_rfl) rfl #[.agg #[.string a0_0, .int .i64 a0_1, .int .i64 a0_2, .int .i64 a0_3, .int .i64 a0_4, .int .i64 a0_5, .bool a0_6]] rfl arg ?_; (with_reducible refine (contangoref09_Check.calls k a0_0 a0_1 a0_2 a0_3 a0_4 a0_5 a0_6 t102 _ A3.out).mono ?_); rintro e w23 ⟨rfl, hb⟩; refine ⟨_, rfl, ?_⟩; replace BK101 := Aside0.mk (blk_below (g := gb101) (bw BK101.out) hb); replace HB := Aside0.mk (below_step bel hb); (try clear hb); (try clear hb2); (try clear hk); (try clear hi)))
    go_ret
    exact ⟨ers, bel⟩
end Go.Proofs.YthpmmofleddpnaaGreatDoor.X
end
