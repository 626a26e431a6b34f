/- For TradeChecks: contracts, and facts on lists and numbers, that it uses (part 2). -/
import Derived.Test.YthpmmofleddpnaaGreatDoorTradeChecksc1
section
namespace Go.Proofs.YthpmmofleddpnaaGreatDoor.X
open Go.RowKit Go.Proofs.YthpmmofleddpnaaGreatDoorW.PrintWords Go.Proofs.YthpmmofleddpnaaGreatDoorW.PrintLast Go.Proofs.YthpmmofleddpnaaGreatDoorW.PrintMore
attribute [local go_sem] max2_int min2_int max_two min_two max_three min_three max_four min_four
set_option linter.unusedVariables false
set_option linter.unusedSimpArgs false
mutual
def series_Parse.j0 : Nat → List ByteArray → Bool → ByteArray → Int → Int → Int → Option (ByteArray × Int × Int × Int × Int)
  | 0, _, _, _, _, _, _ => none
  | k + 1, x4, x30, x102000, x102001, x102002, x102003 => if x30 = true then (some (x102000, x102001, x102002, x102003, 5)) else (if 1 < (x4.length : Int) then ((series_digits.f k (rdOf ByteArray.empty x4 1)).bind fun bt109 => (if 2 < (x4.length : Int) then ((series_what.f (rdOf ByteArray.empty x4 2)).bind fun bt112 => (if bt109.2 = true then (series_Parse.j1 k x4 bt109.1 bt112.1 bt112.2.1 (!bt112.2.2) x102000 x102001 x102002 x102003) else (series_Parse.j1 k x4 bt109.1 bt112.1 bt112.2.1 true x102000 x102001 x102002 x102003))) else (none))) else (none))
def series_Parse.j1 : Nat → List ByteArray → Int → Int → ByteArray → Bool → ByteArray → Int → Int → Int → Option (ByteArray × Int × Int × Int × Int)
  | 0, _, _, _, _, _, _, _, _, _ => none
  | k + 1, x4, x5, x7, x8, x52, x102000, x102001, x102002, x102003 => if x52 = true then (some (x102000, x102001, x102002, x102003, 5)) else ((date_Of.f (wrap64 (Int.tdiv x5 10000)) (Int.tmod (wrap64 (Int.tdiv x5 100)) 100) (Int.tmod x5 100)).bind fun bt115 => (if bt115.2 = 0 then (if x7 = 1 then (if 0 < (x4.length : Int) then (some (rdOf ByteArray.empty x4 0, x7, bt115.1, 0, 0)) else (none)) else ((words_Int.f k x8).bind fun bt118 => (if bt118.2 = 0 then (if bt118.1 < (-16777216) then (some (x102000, x102001, x102002, x102003, 17)) else (if bt118.1 > 16777216 then (some (x102000, x102001, x102002, x102003, 17)) else (if 0 < (x4.length : Int) then (some (rdOf ByteArray.empty x4 0, x7, bt115.1, bt118.1, 0)) else (none)))) else (some (x102000, x102001, x102002, x102003, bt118.2))))) else (some (x102000, x102001, x102002, x102003, 15))))
end
def series_Parse.f (k : Nat) (a0 : ByteArray) : Option (ByteArray × Int × Int × Int × Int) := (strings_Split.f a0 (⟨#[46]⟩ : ByteArray)).bind fun t102 => (if (t102.length : Int) = 3 then (if 0 < (t102.length : Int) then ((words_Name.f k (rdOf ByteArray.empty t102 0)).bind fun t106 => (if t106 = true then (if 1 < (t102.length : Int) then (series_Parse.j0 k t102 (((rdOf ByteArray.empty t102 1).size : Int) != 8) (⟨#[]⟩ : ByteArray) 0 0 0) else (none)) else (series_Parse.j0 k t102 true (⟨#[]⟩ : ByteArray) 0 0 0))) else (none)) else (series_Parse.j0 k t102 true (⟨#[]⟩ : ByteArray) 0 0 0))
theorem series_Parse.mono_l : ∀ k, (∀ y0 y1 y2 y3 y4 y5, LeO (series_Parse.j0 k y0 y1 y2 y3 y4 y5) (series_Parse.j0 (k + 1) y0 y1 y2 y3 y4 y5)) ∧ (∀ y0 y1 y2 y3 y4 y5 y6 y7 y8, LeO (series_Parse.j1 k y0 y1 y2 y3 y4 y5 y6 y7 y8) (series_Parse.j1 (k + 1) y0 y1 y2 y3 y4 y5 y6 y7 y8))
  | 0 => ⟨fun _ _ _ _ _ _ r h => by simp [series_Parse.j0] at h, fun _ _ _ _ _ _ _ _ _ r h => by simp [series_Parse.j1] at h⟩
  | k + 1 => by
    obtain ⟨ih0, ih1⟩ := series_Parse.mono_l k
    refine ⟨?_, ?_⟩
    · intro y0 y1 y2 y3 y4 y5
      unfold series_Parse.j0
      repeat' first
      | (with_reducible exact ih0 _ _ _ _ _ _)
      | (with_reducible exact ih1 _ _ _ _ _ _ _ _ _)
      | (with_reducible exact series_digits.mono _ _)
      | (with_reducible exact words_Int.mono _ _)
      | (with_reducible exact words_Name.mono _ _)
      | (with_reducible exact LeO.refl _)
      | (with_reducible exact LeO.none _)
      | (with_reducible refine LeO.ite ?_ ?_)
      | (with_reducible refine LeO.bind ?_ (fun _ => ?_))
      | exact ih0 _ _ _ _ _ _
      | exact ih1 _ _ _ _ _ _ _ _ _
      | exact series_digits.mono _ _
      | exact words_Int.mono _ _
      | exact words_Name.mono _ _
      | exact LeO.none _
      | refine LeO.ite ?_ ?_
      | refine LeO.bind ?_ (fun _ => ?_)
    · intro y0 y1 y2 y3 y4 y5 y6 y7 y8
      unfold series_Parse.j1
      repeat' first
      | (with_reducible exact ih0 _ _ _ _ _ _)
      | (with_reducible exact ih1 _ _ _ _ _ _ _ _ _)
      | (with_reducible exact series_digits.mono _ _)
      | (with_reducible exact words_Int.mono _ _)
      | (with_reducible exact words_Name.mono _ _)
      | (with_reducible exact LeO.refl _)
      | (with_reducible exact LeO.none _)
      | (with_reducible refine LeO.ite ?_ ?_)
      | (with_reducible refine LeO.bind ?_ (fun _ => ?_))
      | exact ih0 _ _ _ _ _ _
      | exact ih1 _ _ _ _ _ _ _ _ _
      | exact series_digits.mono _ _
      | exact words_Int.mono _ _
      | exact words_Name.mono _ _
      | exact LeO.none _
      | refine LeO.ite ?_ ?_
      | refine LeO.bind ?_ (fun _ => ?_)
theorem series_Parse.mono : ∀ a0 k, LeO (series_Parse.f k a0) (series_Parse.f (k + 1) a0) := by
  intro a0 k
  obtain ⟨ih0, ih1⟩ := series_Parse.mono_l k
  unfold series_Parse.f
  repeat' first
      | (with_reducible exact ih0 _ _ _ _ _ _)
      | (with_reducible exact ih1 _ _ _ _ _ _ _ _ _)
      | (with_reducible exact series_digits.mono _ _)
      | (with_reducible exact words_Int.mono _ _)
      | (with_reducible exact words_Name.mono _ _)
      | (with_reducible exact LeO.refl _)
      | (with_reducible exact LeO.none _)
      | (with_reducible refine LeO.ite ?_ ?_)
      | (with_reducible refine LeO.bind ?_ (fun _ => ?_))
      | exact ih0 _ _ _ _ _ _
      | exact ih1 _ _ _ _ _ _ _ _ _
      | exact series_digits.mono _ _
      | exact words_Int.mono _ _
      | exact words_Name.mono _ _
      | exact LeO.none _
      | refine LeO.ite ?_ ?_
      | refine LeO.bind ?_ (fun _ => ?_)
set_option maxHeartbeats 8000000 in
set_option maxRecDepth 100000 in
theorem series_Parse.calls (k : Nat) (a0 : ByteArray) (r1 : ByteArray) (r2 : Int) (r3 : Int) (r4 : Int) (r5 : Int) (w : World) (h : series_Parse.f k a0 = some (r1, r2, r3, r4, r5)) (hGL : GlobD w) :
    Calls Tryz.prog 50 #[.string a0] w fun e w' => e = .returned (.tuple #[.agg #[.string r1, .int .i64 r2, .int .i64 r3, .int .i64 r4], .int .i64 r5]) ∧ Below w.heap.size w w' := by
  have hu23 := Tryz.underlying23
  have HB := Aside0.mk (Below.refl w.heap.size w)
  have HGL := Aside0.mk hGL
  clear hGL
  have H : ((strings_Split.f a0 (⟨#[46]⟩ : ByteArray)).bind fun t102 => (if (t102.length : Int) = 3 then (if 0 < (t102.length : Int) then ((words_Name.f k (rdOf ByteArray.empty t102 0)).bind fun t106 => (if t106 = true then (if 1 < (t102.length : Int) then (series_Parse.j0 k t102 (((rdOf ByteArray.empty t102 1).size : Int) != 8) (⟨#[]⟩ : ByteArray) 0 0 0) else (none)) else (series_Parse.j0 k t102 true (⟨#[]⟩ : ByteArray) 0 0 0))) else (none)) else (series_Parse.j0 k t102 true (⟨#[]⟩ : ByteArray) 0 0 0))) = some (r1, r2, r3, r4, r5) := h
  clear h
  replace H := bnd H
  obtain ⟨t102, A20, H⟩ := H
  have A2 := Aside0.mk A20
  clear A20
  have HC3 := Aside0.mk H
  clear H
  go_enter Tryz.func50, Tryz.ntmps50
  go_upto_region 2 with (first | ((with_reducible refine gate_dst (N := 2) rfl ?_); (try (refine gate_guard (by rfl) ?_; dsimp only)); refine box_event ?hg (N := 2) ?hd (cs := #[.string (⟨#[]⟩ : ByteArray), .int .i64 0, .int .i64 0, .int .i64 0]) (t := 23) ?hr ?_; (case hd => rfl); (case hg => rfl); (case hr => first | (go_simp; done) | (go_simp; rfl)); intro gb101 hg w4 hbox hb; have BK101 := Aside0.mk (hbox); have GW101 := Aside0.mk ((gsz hg : w.heap.size ≤ gb101)); have GE101 := Aside0.mk ((gsz hg : w.heap.size ≤ gb101)); replace HB := Aside0.mk (below_step bel hb); clear hb hbox hg) | ((with_reducible refine gate_callee (f := 103) rfl ?_); refine goesL_ (some 13) rfl rfl Tryz.func103 (by kernel_rfl) rfl #[.string a0, .string (⟨#[46]⟩ : ByteArray)] rfl arg ?_; (with_reducible refine (strings_Split.calls a0 (⟨#[46]⟩ : ByteArray) t102 _ A2.out).mono ?_); rintro e w5 ⟨v103, rfl, ho0, hb⟩; refine ⟨_, rfl, ?_⟩; have HO104 := Aside0.mk (Kd.R_lower ho0 (below_size bel)); replace BK101 := Aside0.mk (blk_below (g := gb101) (bw BK101.out) hb); replace HB := Aside0.mk (below_step bel hb); (try clear hb); (try clear hb2); (try clear hk); (try clear hi); (try clear ho0)))
  (try simp only [Act.put, List.setIfInBounds_toArray, List.set_cons_zero, List.set_cons_succ])
  go_cut [30] (fun v30 wc => ∃ (kq : Nat) (x30_2 : Bool), v30 = .bool x30_2 ∧ Aside0 (series_Parse.j0 kq t102 x30_2 (⟨#[]⟩ : ByteArray) 0 0 0 = some (r1, r2, r3, r4, r5)) ∧ Aside0 (kq ≤ k) ∧ Aside0 (Kd.R Kd.string 9 wc w.heap.size (fun _ => True) v103 t102) ∧ Aside0 (wc.heap[gb101]? = some (.cells #[.string (⟨#[]⟩ : ByteArray), .int .i64 0, .int .i64 0, .int .i64 0] 23 (0, 0))) ∧ Aside0 (Below w.heap.size w wc))
  case first =>
    have H := HC3.out
    clear HC3
    by_cases c6 : (t102.length : Int) = 3
    · rw [if_pos c6] at H
      have c6b0 : ((t102.length : Int) == 3) = true := beq_iff_eq.mpr c6
      have c6b1 : ((t102.length : Int) != 3) = false := bne_eq_false_iff_eq.mpr c6
      clear c6
      (first | rw [c6b0] | (simp only [i64_w, i32_w]; rw [c6b0]) | skip)
      by_cases c7 : 0 < (t102.length : Int)
      · rw [if_pos c7] at H
        have c7b0 := decide_eq_true c7
        have c7b1 : decide (0 < t102.length) = true := decide_eq_true (by omega)
        clear c7
        replace H := bnd H
        obtain ⟨t106, A80, H⟩ := H
        have A8 := Aside0.mk A80
        clear A80
        by_cases c9 : t106 = true
        · subst c9
          rw [if_pos rfl] at H
          by_cases c10 : 1 < (t102.length : Int)
          · rw [if_pos c10] at H
            have c10b0 := decide_eq_true c10
            have c10b1 : decide (1 < t102.length) = true := decide_eq_true (by omega)
            clear c10
            have H' := Aside0.mk H
            clear H
            obtain ⟨Ao11, co11, eo11⟩ := Kd.R_slice HO104.out
            subst eo11
            have p105 : 0 ≤ (0 : Int) := (by omega)
            have q105 : 0 < (t102.length : Int) := dt
            obtain ⟨ad105, e105, hx105_0⟩ := Kd.at_string (Kd.R_reads' HO104.out).2.2 0 p105 q105
            cases e105
            have qi105 : (0 < t102.length) = True := eq_true (by omega)
            (try rw [show ((0 : Int)).toNat = 0 from rfl] at hx105_0)
            (try rw [Addr.add_zero'] at hx105_0)
            replace p105 := eq_true p105
            replace q105 := eq_true q105
            go_wp2_with (first | (go_at_call 48; (with_reducible refine (words_Name.calls k (rdOf ByteArray.empty t102 0) true _ A8.out).mono ?_); rintro e w' ⟨rfl, ⟨nd, rfl⟩⟩; have p107 : 0 ≤ (1 : Int) := (by omega); have q107 : 1 < (t102.length : Int) := dt; obtain ⟨ad107, e107, hx107_0⟩ := Kd.at_string (Kd.R_reads' HO104.out).2.2 1 p107 q107; obtain rfl : ad105 = ad107 := (by injection e107); (try simp only [show (1 : Int).toNat = 1 from rfl, Nat.reduceMul, Nat.reduceEqDiff, Go.Addr.add, ↓reduceIte] at hx107_0); have qi107 : (1 < t102.length) = True := eq_true (by omega); (try rw [show ((1 : Int)).toNat = 1 from rfl] at hx107_0); replace p107 := eq_true p107; replace q107 := eq_true q107))
            go_meet
            case rel => exact ⟨_, ((((rdOf ByteArray.empty t102 1).size : Int) != 8)), eqs, H', ⟨by first | omega | exact Nat.le_refl _⟩, ⟨kr HO104.out⟩, ⟨bw BK101.out⟩, ⟨bel⟩⟩
          · rw [if_neg c10] at H
            exact absurd H (by simp)
        · replace c9 := Bool.eq_false_iff.mpr c9
          subst c9
          rw [if_neg (show ¬ (false = true) by decide)] at H
          have H' := Aside0.mk H
          clear H
          obtain ⟨Ao12, co12, eo12⟩ := Kd.R_slice HO104.out
          subst eo12
          have p105 : 0 ≤ (0 : Int) := (by omega)
          have q105 : 0 < (t102.length : Int) := dt
          obtain ⟨ad105, e105, hx105_0⟩ := Kd.at_string (Kd.R_reads' HO104.out).2.2 0 p105 q105
          cases e105
          have qi105 : (0 < t102.length) = True := eq_true (by omega)
          (try rw [show ((0 : Int)).toNat = 0 from rfl] at hx105_0)
          (try rw [Addr.add_zero'] at hx105_0)
          replace p105 := eq_true p105
          replace q105 := eq_true q105
          go_wp2_with (first | (go_at_call 48; (with_reducible refine (words_Name.calls k (rdOf ByteArray.empty t102 0) false _ A8.out).mono ?_); rintro e w' ⟨rfl, ⟨nd, rfl⟩⟩))
          go_meet
          case rel => exact ⟨_, (true), eqs, H', ⟨by first | omega | exact Nat.le_refl _⟩, ⟨kr HO104.out⟩, ⟨bw BK101.out⟩, ⟨bel⟩⟩
      · rw [if_neg c7] at H
        exact absurd H (by simp)
    · rw [if_neg c6] at H
      have c6b0 : ((t102.length : Int) == 3) = false := beq_eq_false_iff_ne.mpr c6
      have c6b1 : ((t102.length : Int) != 3) = true := bne_iff_ne.mpr c6
      (first | rw [c6b0] | (simp only [i64_w, i32_w]; rw [c6b0]) | skip)
      have H' := Aside0.mk H
      clear H
      obtain ⟨Ao13, co13, eo13⟩ := Kd.R_slice HO104.out
      subst eo13
      go_wp2
      go_meet
      case rel => exact ⟨_, (true), eqs, H', ⟨by first | omega | exact Nat.le_refl _⟩, ⟨kr HO104.out⟩, ⟨bw BK101.out⟩, ⟨bel⟩⟩
  case rest =>
    clear HC3
    try clear c1
    try clear p1
    try clear q1
    try clear hx1
    try clear qi1
    try clear p2
    try clear c5
    try clear c6
    try clear c6b0
    try clear c6b1
    try clear c7
    try clear c7b0
    try clear c7b1
    try clear c9
    try clear c10
    try clear c10b0
    try clear c10b1
    try clear p10
    try clear q10
    try clear hx10
    try clear qi10
    try clear hx105_0
    try clear hx107_0
    try clear p105
    try clear p107
    try clear q105
    try clear q107
    obtain ⟨kq, x30_2, rfl, HA, HJ2, HO_4, BK101, HB⟩ := hcut
    cases kq with
    | zero => exact absurd HA.out (by simp [series_Parse.j0])
    | succ kj2 =>
      have H := HA.out
      clear HA
      simp only [series_Parse.j0] at H
      by_cases c14 : x30_2 = true
      · subst c14
        rw [if_pos rfl] at H
        simp only [Option.some.injEq, Prod.mk.injEq] at H
        obtain ⟨rfl, rfl, rfl, rfl, rfl⟩ := H
        obtain ⟨hcz15_0, hcz15_1, hcz15_2, hcz15_3, hfz15_0, hfz15_1, hfz15_2, hfz15_3⟩ := cz4 BK101.out
        go_wp2
        refine bodyPost_ret (results_ct rfl _ _ gb101 23 #[.string (⟨#[]⟩ : ByteArray), .int .i64 0, .int .i64 0, .int .i64 0] (0, 0) _ rfl (bs BK101.out) Tryz.underlying23 rfl (by kernel_rfl)) rfl ?_
        exact ⟨ers, bel⟩
      · replace c14 := Bool.eq_false_iff.mpr c14
        subst c14
        rw [if_neg (show ¬ (false = true) by decide)] at H
        by_cases c16 : 1 < (t102.length : Int)
        · rw [if_pos c16] at H
          have c16b0 := decide_eq_true c16
          have c16b1 : decide (1 < t102.length) = true := decide_eq_true (by omega)
          clear c16
          replace H := bnd H
          obtain ⟨⟨t109, t110⟩, A170, H⟩ := H
          replace H : (if 2 < (t102.length : Int) then ((series_what.f (rdOf ByteArray.empty t102 2)).bind fun bt112 => (if t110 = true then (series_Parse.j1 kj2 t102 t109 bt112.1 bt112.2.1 (!bt112.2.2) (⟨#[]⟩ : ByteArray) 0 0 0) else (series_Parse.j1 kj2 t102 t109 bt112.1 bt112.2.1 true (⟨#[]⟩ : ByteArray) 0 0 0))) else (none)) = some (r1, r2, r3, r4, r5) := H
          have A17 := Aside0.mk A170
          clear A170
          by_cases c18 : 2 < (t102.length : Int)
          · rw [if_pos c18] at H
            have c18b0 := decide_eq_true c18
            have c18b1 : decide (2 < t102.length) = true := decide_eq_true (by omega)
            clear c18
            replace H := bnd H
            obtain ⟨⟨t112, t113, t114⟩, A190, H⟩ := H
            replace H : (if t110 = true then (series_Parse.j1 kj2 t102 t109 t112 t113 (!t114) (⟨#[]⟩ : ByteArray) 0 0 0) else (series_Parse.j1 kj2 t102 t109 t112 t113 true (⟨#[]⟩ : ByteArray) 0 0 0)) = some (r1, r2, r3, r4, r5) := H
            have A19 := Aside0.mk A190
            clear A190
            have HC20 := Aside0.mk H
            clear H
            obtain ⟨Ao21, co21, eo21⟩ := Kd.R_slice HO_4.out
            subst eo21
            have p108 : 0 ≤ (1 : Int) := (by omega)
            have q108 : 1 < (t102.length : Int) := dt
            obtain ⟨ad108, e108, hx108_0⟩ := Kd.at_string (Kd.R_reads' HO_4.out).2.2 1 p108 q108
            cases e108
            (try simp only [show (1 : Int).toNat = 1 from rfl, Nat.reduceMul, Nat.reduceEqDiff, Go.Addr.add, ↓reduceIte] at hx108_0)
            have qi108 : (1 < t102.length) = True := eq_true (by omega)
            (try rw [show ((1 : Int)).toNat = 1 from rfl] at hx108_0)
            replace p108 := eq_true p108
            replace q108 := eq_true q108
            go_upto_region 6 with (first | ((with_reducible refine gate_callee (f := 107) rfl ?_); refine goesL_ (some 36) rfl rfl Tryz.func107 (by kernel_rfl) rfl #[.string (rdOf ByteArray.empty t102 1)] rfl arg ?_; (with_reducible refine (series_digits.calls kj2 (rdOf ByteArray.empty t102 1) t109 t110 _ A17.out).mono ?_); rintro e w' ⟨rfl, ⟨nd, rfl⟩⟩; refine ⟨_, rfl, ?_⟩; have p111 : 0 ≤ (2 : Int) := (by omega); have q111 : 2 < (t102.length : Int) := dt; obtain ⟨ad111, e111, hx111_0⟩ := Kd.at_string (Kd.R_reads' HO_4.out).2.2 2 p111 q111; obtain rfl : ad108 = ad111 := (by injection e111); (try simp only [show (2 : Int).toNat = 2 from rfl, Nat.reduceMul, Nat.reduceEqDiff, Go.Addr.add, ↓reduceIte] at hx111_0); have qi111 : (2 < t102.length) = True := eq_true (by omega); (try rw [show ((2 : Int)).toNat = 2 from rfl] at hx111_0); replace p111 := eq_true p111; replace q111 := eq_true q111) | ((with_reducible refine gate_callee (f := 108) rfl ?_); refine goesL_ (some 43) rfl rfl Tryz.func108 (by kernel_rfl) rfl #[.string (rdOf ByteArray.empty t102 2)] rfl arg ?_; (with_reducible refine (series_what.calls (rdOf ByteArray.empty t102 2) t112 t113 t114 _ A19.out).mono ?_); rintro e w' ⟨rfl, ⟨nd, rfl⟩⟩; refine ⟨_, rfl, ?_⟩))
            (try simp only [Act.put, List.setIfInBounds_toArray, List.set_cons_zero, List.set_cons_succ])
            go_cut [52] (fun v52 wc => ∃ (kq : Nat) (x52_19 : Bool), v52 = .bool x52_19 ∧ Aside0 (series_Parse.j1 kq t102 t109 t112 t113 x52_19 (⟨#[]⟩ : ByteArray) 0 0 0 = some (r1, r2, r3, r4, r5)) ∧ Aside0 (kq ≤ kj2) ∧ Aside0 (Kd.R Kd.string 9 wc w.heap.size (fun _ => True) (.slice (some ad108) t102.length co21) t102) ∧ Aside0 (wc.heap[gb101]? = some (.cells #[.string (⟨#[]⟩ : ByteArray), .int .i64 0, .int .i64 0, .int .i64 0] 23 (0, 0))) ∧ Aside0 (Below w.heap.size w wc))
            case first =>
              have H := HC20.out
              clear HC20
              by_cases c22 : t110 = true
              · subst c22
                rw [if_pos rfl] at H
                have H' := Aside0.mk H
                clear H
                go_wp2
                go_meet
                case rel => exact ⟨_, (!t114), eqs, H', ⟨by have := HJ2.out; first | omega | exact Nat.le_refl _⟩, ⟨kr HO_4.out⟩, ⟨bw BK101.out⟩, ⟨bel⟩⟩
              · replace c22 := Bool.eq_false_iff.mpr c22
                subst c22
                rw [if_neg (show ¬ (false = true) by decide)] at H
                have H' := Aside0.mk H
                clear H
                go_wp2
                go_meet
                case rel => exact ⟨_, (true), eqs, H', ⟨by have := HJ2.out; first | omega | exact Nat.le_refl _⟩, ⟨kr HO_4.out⟩, ⟨bw BK101.out⟩, ⟨bel⟩⟩
            case rest =>
              clear HC20
              try clear c1
              try clear p1
              try clear q1
              try clear hx1
              try clear qi1
              try clear c2
              try clear p2
              try clear c5
              try clear c6
              try clear c6b0
              try clear c6b1
              try clear c7
              try clear c7b0
              try clear c7b1
              try clear c9
              try clear c10
              try clear c10b0
              try clear c10b1
              try clear p10
              try clear q10
              try clear hx10
              try clear qi10
              try clear p11
              try clear q11
              try clear hx11
              try clear qi11
              try clear c14
              try clear c16
              try clear c16b0
              try clear c16b1
              try clear c18
              try clear c18b0
              try clear c18b1
              try clear c22
              try clear hcz15_0 hcz15_1 hcz15_2 hcz15_3 hfz15_0 hfz15_1 hfz15_2 hfz15_3
              try clear hx105_0
              try clear hx107_0
              try clear hx108_0
              try clear hx111_0
              try clear p1
              try clear p10
              try clear p105
              try clear p107
              try clear p108
              try clear p111
              try clear p2
              try clear q1
              try clear q10
              try clear q105
              try clear q107
              try clear q108
              try clear q111
              obtain ⟨kq, x52_19, rfl, HA, HJ19, HO_4, BK101, HB⟩ := hcut
              cases kq with
              | zero => exact absurd HA.out (by simp [series_Parse.j1])
              | succ kj19 =>
                have H := HA.out
                clear HA
                simp only [series_Parse.j1] at H
                by_cases c23 : x52_19 = true
                · subst c23
                  rw [if_pos rfl] at H
                  simp only [Option.some.injEq, Prod.mk.injEq] at H
                  obtain ⟨rfl, rfl, rfl, rfl, rfl⟩ := H
                  obtain ⟨hcz24_0, hcz24_1, hcz24_2, hcz24_3, hfz24_0, hfz24_1, hfz24_2, hfz24_3⟩ := cz4 BK101.out
                  go_wp2
                  refine bodyPost_ret (results_ct rfl _ _ gb101 23 #[.string (⟨#[]⟩ : ByteArray), .int .i64 0, .int .i64 0, .int .i64 0] (0, 0) _ rfl (bs BK101.out) Tryz.underlying23 rfl (by kernel_rfl)) rfl ?_
                  exact ⟨ers, bel⟩
                · replace c23 := Bool.eq_false_iff.mpr c23
                  subst c23
                  rw [if_neg (show ¬ (false = true) by decide)] at H
                  replace H := bnd H
                  obtain ⟨⟨t115, t116⟩, A250, H⟩ := H
                  replace H : (if t116 = 0 then (if t112 = 1 then (if 0 < (t102.length : Int) then (some (rdOf ByteArray.empty t102 0, t112, t115, 0, 0)) else (none)) else ((words_Int.f kj19 t113).bind fun bt118 => (if bt118.2 = 0 then (if bt118.1 < (-16777216) then (some ((⟨#[]⟩ : ByteArray), 0, 0, 0, 17)) else (if bt118.1 > 16777216 then (some ((⟨#[]⟩ : ByteArray), 0, 0, 0, 17)) else (if 0 < (t102.length : Int) then (some (rdOf ByteArray.empty t102 0, t112, t115, bt118.1, 0)) else (none)))) else (some ((⟨#[]⟩ : ByteArray), 0, 0, 0, bt118.2))))) else (some ((⟨#[]⟩ : ByteArray), 0, 0, 0, 15))) = some (r1, r2, r3, r4, r5) := H
                  have A25 := Aside0.mk A250
                  clear A250
                  by_cases c26 : t116 = 0
                  · rw [if_pos c26] at H
                    have c26b0 : (t116 == 0) = true := beq_iff_eq.mpr c26
                    have c26b1 : (t116 != 0) = false := bne_eq_false_iff_eq.mpr c26
                    clear c26
                    by_cases c27 : t112 = 1
                    · rw [if_pos c27] at H
                      have c27b0 : (t112 == 1) = true := beq_iff_eq.mpr c27
                      have c27b1 : (t112 != 1) = false := bne_eq_false_iff_eq.mpr c27
                      clear c27
                      by_cases c28 : 0 < (t102.length : Int)
                      · rw [if_pos c28] at H
                        have c28b0 := decide_eq_true c28
                        have c28b1 : decide (0 < t102.length) = true := decide_eq_true (by omega)
                        clear c28
                        simp only [Option.some.injEq, Prod.mk.injEq] at H
                        obtain ⟨rfl, rfl, rfl, rfl, rfl⟩ := H
                        go_wp2_with (first | ((with_reducible refine gate_callee (f := 109) rfl ?_); refine goesL_ (some 62) rfl rfl Tryz.func109 (by kernel_rfl) rfl #[.int .i64 (wrap64 (Int.tdiv t109 10000)), .int .i64 (Int.tmod (wrap64 (Int.tdiv t109 100)) 100), .int .i64 (Int.tmod t109 100)] rfl arg ?_; (with_reducible refine (date_Of.calls (wrap64 (Int.tdiv t109 10000)) (Int.tmod (wrap64 (Int.tdiv t109 100)) 100) (Int.tmod t109 100) t115 t116 _ A25.out (glob_of HGL.out bel)).mono ?_); rintro e w29 ⟨rfl, hb⟩; refine ⟨_, rfl, ?_⟩; replace HO_4 := Aside0.mk (Kd.R_below (kr HO_4.out) hb); replace BK101 := Aside0.mk (blk_below (g := gb101) (bw BK101.out) hb); replace HB := Aside0.mk (below_step bel hb); (try clear hb); (try clear hb2); (try clear hk); (try clear hi); have p117 : 0 ≤ (0 : Int) := (by omega); have q117 : 0 < (t102.length : Int) := dt; obtain ⟨ad117, e117, hx117_0⟩ := Kd.at_string (Kd.R_reads' HO_4.out).2.2 0 p117 q117; obtain rfl : ad108 = ad117 := (by injection e117); have qi117 : (0 < t102.length) = True := eq_true (by omega); (try rw [show ((0 : Int)).toNat = 0 from rfl] at hx117_0); (try rw [Addr.add_zero'] at hx117_0); replace p117 := eq_true p117; replace q117 := eq_true q117; obtain ⟨hcz30_0, hcz30_1, hcz30_2, hcz30_3, hfz30_0, hfz30_1, hfz30_2, hfz30_3⟩ := cz4 BK101.out))
                        refine bodyPost_ret (results_ct rfl _ _ gb101 23 #[.string (rdOf ByteArray.empty t102 0), .int .i64 t112, .int .i64 t115, .int .i64 0] (0, 0) _ rfl (bs BK101.out) Tryz.underlying23 rfl (by kernel_rfl)) rfl ?_
                        exact ⟨ers, bel⟩
                      · rw [if_neg c28] at H
                        exact absurd H (by simp)
                    · rw [if_neg c27] at H
                      have c27b0 : (t112 == 1) = false := beq_eq_false_iff_ne.mpr c27
                      have c27b1 : (t112 != 1) = true := bne_iff_ne.mpr c27
                      replace H := bnd H
                      obtain ⟨⟨t118, t119⟩, A310, H⟩ := H
                      replace H : (if t119 = 0 then (if t118 < (-16777216) then (some ((⟨#[]⟩ : ByteArray), 0, 0, 0, 17)) else (if t118 > 16777216 then (some ((⟨#[]⟩ : ByteArray), 0, 0, 0, 17)) else (if 0 < (t102.length : Int) then (some (rdOf ByteArray.empty t102 0, t112, t115, t118, 0)) else (none)))) else (some ((⟨#[]⟩ : ByteArray), 0, 0, 0, t119))) = some (r1, r2, r3, r4, r5) := H
                      have A31 := Aside0.mk A310
                      clear A310
                      by_cases c32 : t119 = 0
                      · rw [if_pos c32] at H
                        have c32b0 : (t119 == 0) = true := beq_iff_eq.mpr c32
                        have c32b1 : (t119 != 0) = false := bne_eq_false_iff_eq.mpr c32
                        clear c32
                        by_cases c33 : t118 < (-16777216)
                        · rw [if_pos c33] at H
                          have c33b0 := decide_eq_true c33
                          clear c33
                          simp only [Option.some.injEq, Prod.mk.injEq] at H
                          obtain ⟨rfl, rfl, rfl, rfl, rfl⟩ := H
                          go_wp2_with (first | ((with_reducible refine gate_callee (f := 109) rfl ?_); refine goesL_ (some 62) rfl rfl Tryz.func109 (by kernel_rfl) rfl #[.int .i64 (wrap64 (Int.tdiv t109 10000)), .int .i64 (Int.tmod (wrap64 (Int.tdiv t109 100)) 100), .int .i64 (Int.tmod t109 100)] rfl arg ?_; (with_reducible refine (date_Of.calls (wrap64 (Int.tdiv t109 10000)) (Int.tmod (wrap64 (Int.tdiv t109 100)) 100) (Int.tmod t109 100) t115 t116 _ A25.out (glob_of HGL.out bel)).mono ?_); rintro e w34 ⟨rfl, hb⟩; refine ⟨_, rfl, ?_⟩; replace HO_4 := Aside0.mk (Kd.R_below (kr HO_4.out) hb); replace BK101 := Aside0.mk (blk_below (g := gb101) (bw BK101.out) hb); replace HB := Aside0.mk (below_step bel hb); (try clear hb); (try clear hb2); (try clear hk); (try clear hi)) | ((with_reducible refine gate_callee (f := 110) rfl ?_); refine goesL_ (some 72) rfl rfl Tryz.func110 (by kernel_rfl) rfl #[.string t113] rfl arg ?_; (with_reducible refine (words_Int.calls kj19 t113 t118 t119 _ A31.out).mono ?_); rintro e w' ⟨rfl, ⟨nd, rfl⟩⟩; refine ⟨_, rfl, ?_⟩; (try (rw [drewN_self w34]; generalize hq_ : World.drewN w34 _ = w34; have n0_ : Aside0 (Kd.R Kd.string 9 w34 w.heap.size (fun _ => True) (.slice (some ad108) t102.length co21) t102) := ⟨by rw [← hq_]; exact (kr HO_4.out)⟩; have n1_ : Aside0 (w34.heap[gb101]? = some (.cells #[.string (⟨#[]⟩ : ByteArray), .int .i64 0, .int .i64 0, .int .i64 0] 23 (0, 0))) := ⟨by rw [← hq_]; exact (bw BK101.out)⟩; have n2_ : Aside0 (Below w.heap.size w w34) := ⟨by rw [← hq_]; exact bel⟩; clear HO_4 BK101 HB hq_; have HO_4 := n0_; have BK101 := n1_; have HB := n2_; clear n0_ n1_ n2_)); obtain ⟨hcz35_0, hcz35_1, hcz35_2, hcz35_3, hfz35_0, hfz35_1, hfz35_2, hfz35_3⟩ := cz4 BK101.out))
                          refine bodyPost_ret (results_ct rfl _ _ gb101 23 #[.string (⟨#[]⟩ : ByteArray), .int .i64 0, .int .i64 0, .int .i64 0] (0, 0) _ rfl (bs BK101.out) Tryz.underlying23 rfl (by kernel_rfl)) rfl ?_
                          exact ⟨ers, bel⟩
                        · rw [if_neg c33] at H
                          have c33b0 := decide_eq_false c33
                          clear c33
                          by_cases c36 : t118 > 16777216
                          · rw [if_pos c36] at H
                            have c36b0 : decide (16777216 < t118) = true := decide_eq_true c36
                            clear c36
                            simp only [Option.some.injEq, Prod.mk.injEq] at H
                            obtain ⟨rfl, rfl, rfl, rfl, rfl⟩ := H
                            go_wp2_with (first | ((with_reducible refine gate_callee (f := 109) rfl ?_); refine goesL_ (some 62) rfl rfl Tryz.func109 (by kernel_rfl) rfl #[.int .i64 (wrap64 (Int.tdiv t109 10000)), .int .i64 (Int.tmod (wrap64 (Int.tdiv t109 100)) 100), .int .i64 (Int.tmod t109 100)] rfl arg ?_; (with_reducible refine (date_Of.calls (wrap64 (Int.tdiv t109 10000)) (Int.tmod (wrap64 (Int.tdiv t109 100)) 100) (Int.tmod t109 100) t115 t116 _ A25.out (glob_of HGL.out bel)).mono ?_); rintro e w37 ⟨rfl, hb⟩; refine ⟨_, rfl, ?_⟩; replace HO_4 := Aside0.mk (Kd.R_below (kr HO_4.out) hb); replace BK101 := Aside0.mk (blk_below (g := gb101) (bw BK101.out) hb); replace HB := Aside0.mk (below_step bel hb); (try clear hb); (try clear hb2); (try clear hk); (try clear hi)) | ((with_reducible refine gate_callee (f := 110) rfl ?_); refine goesL_ (some 72) rfl rfl Tryz.func110 (by kernel_rfl) rfl #[.string t113] rfl arg ?_; (with_reducible refine (words_Int.calls kj19 t113 t118 t119 _ A31.out).mono ?_); rintro e w' ⟨rfl, ⟨nd, rfl⟩⟩; refine ⟨_, rfl, ?_⟩; (try (rw [drewN_self w37]; generalize hq_ : World.drewN w37 _ = w37; have n0_ : Aside0 (Kd.R Kd.string 9 w37 w.heap.size (fun _ => True) (.slice (some ad108) t102.length co21) t102) := ⟨by rw [← hq_]; exact (kr HO_4.out)⟩; have n1_ : Aside0 (w37.heap[gb101]? = some (.cells #[.string (⟨#[]⟩ : ByteArray), .int .i64 0, .int .i64 0, .int .i64 0] 23 (0, 0))) := ⟨by rw [← hq_]; exact (bw BK101.out)⟩; have n2_ : Aside0 (Below w.heap.size w w37) := ⟨by rw [← hq_]; exact bel⟩; clear HO_4 BK101 HB hq_; have HO_4 := n0_; have BK101 := n1_; have HB := n2_; clear n0_ n1_ n2_)); obtain ⟨hcz38_0, hcz38_1, hcz38_2, hcz38_3, hfz38_0, hfz38_1, hfz38_2, hfz38_3⟩ := cz4 BK101.out))
                            refine bodyPost_ret (results_ct rfl _ _ gb101 23 #[.string (⟨#[]⟩ : ByteArray), .int .i64 0, .int .i64 0, .int .i64 0] (0, 0) _ rfl (bs BK101.out) Tryz.underlying23 rfl (by kernel_rfl)) rfl ?_
                            exact ⟨ers, bel⟩
                          · rw [if_neg c36] at H
                            have c36b0 : decide (16777216 < t118) = false := decide_eq_false c36
                            clear c36
                            by_cases c39 : 0 < (t102.length : Int)
                            · rw [if_pos c39] at H
                              have c39b0 := decide_eq_true c39
                              have c39b1 : decide (0 < t102.length) = true := decide_eq_true (by omega)
                              clear c39
                              simp only [Option.some.injEq, Prod.mk.injEq] at H
                              obtain ⟨rfl, rfl, rfl, rfl, rfl⟩ := H
                              go_wp2_with (first | ((with_reducible refine gate_callee (f := 109) rfl ?_); refine goesL_ (some 62) rfl rfl Tryz.func109 (by kernel_rfl) rfl #[.int .i64 (wrap64 (Int.tdiv t109 10000)), .int .i64 (Int.tmod (wrap64 (Int.tdiv t109 100)) 100), .int .i64 (Int.tmod t109 100)] rfl arg ?_; (with_reducible refine (date_Of.calls (wrap64 (Int.tdiv t109 10000)) (Int.tmod (wrap64 (Int.tdiv t109 100)) 100) (Int.tmod t109 100) t115 t116 _ A25.out (glob_of HGL.out bel)).mono ?_); rintro e w40 ⟨rfl, hb⟩; refine ⟨_, rfl, ?_⟩; replace HO_4 := Aside0.mk (Kd.R_below (kr HO_4.out) hb); replace BK101 := Aside0.mk (blk_below (g := gb101) (bw BK101.out) hb); replace HB := Aside0.mk (below_step bel hb); (try clear hb); (try clear hb2); (try clear hk); (try clear hi)) | ((with_reducible refine gate_callee (f := 110) rfl ?_); refine goesL_ (some 72) rfl rfl Tryz.func110 (by kernel_rfl) rfl #[.string t113] rfl arg ?_; (with_reducible refine (words_Int.calls kj19 t113 t118 t119 _ A31.out).mono ?_); rintro e w' ⟨rfl, ⟨nd, rfl⟩⟩; refine ⟨_, rfl, ?_⟩; (try (rw [drewN_self w40]; generalize hq_ : World.drewN w40 _ = w40; have n0_ : Aside0 (Kd.R Kd.string 9 w40 w.heap.size (fun _ => True) (.slice (some ad108) t102.length co21) t102) := ⟨by rw [← hq_]; exact (kr HO_4.out)⟩; have n1_ : Aside0 (w40.heap[gb101]? = some (.cells #[.string (⟨#[]⟩ : ByteArray), .int .i64 0, .int .i64 0, .int .i64 0] 23 (0, 0))) := ⟨by rw [← hq_]; exact (bw BK101.out)⟩; have n2_ : Aside0 (Below w.heap.size w w40) := ⟨by rw [← hq_]; exact bel⟩; clear HO_4 BK101 HB hq_; have HO_4 := n0_; have BK101 := n1_; have HB := n2_; clear n0_ n1_ n2_)); have p120 : 0 ≤ (0 : Int) := (by omega); have q120 : 0 < (t102.length : Int) := dt; obtain ⟨ad120, e120, hx120_0⟩ := Kd.at_string (Kd.R_reads' HO_4.out).2.2 0 p120 q120; obtain rfl : ad108 = ad120 := (by injection e120); have qi120 : (0 < t102.length) = True := eq_true (by omega); (try rw [show ((0 : Int)).toNat = 0 from rfl] at hx120_0); (try rw [Addr.add_zero'] at hx120_0); replace p120 := eq_true p120; replace q120 := eq_true q120; obtain ⟨hcz41_0, hcz41_1, hcz41_2, hcz41_3, hfz41_0, hfz41_1, hfz41_2, hfz41_3⟩ := cz4 BK101.out))
                              refine bodyPost_ret (results_ct rfl _ _ gb101 23 #[.string (rdOf ByteArray.empty t102 0), .int .i64 t112, .int .i64 t115, .int .i64 t118] (0, 0) _ rfl (bs BK101.out) Tryz.underlying23 rfl (by kernel_rfl)) rfl ?_
                              exact ⟨ers, bel⟩
                            · rw [if_neg c39] at H
                              exact absurd H (by simp)
                      · rw [if_neg c32] at H
                        have c32b0 : (t119 == 0) = false := beq_eq_false_iff_ne.mpr c32
                        have c32b1 : (t119 != 0) = true := bne_iff_ne.mpr c32
                        simp only [Option.some.injEq, Prod.mk.injEq] at H
                        obtain ⟨rfl, rfl, rfl, rfl, rfl⟩ := H
                        go_wp2_with (first | ((with_reducible refine gate_callee (f := 109) rfl ?_); refine goesL_ (some 62) rfl rfl Tryz.func109 (by kernel_rfl) rfl #[.int .i64 (wrap64 (Int.tdiv t109 10000)), .int .i64 (Int.tmod (wrap64 (Int.tdiv t109 100)) 100), .int .i64 (Int.tmod t109 100)] rfl arg ?_; (with_reducible refine (date_Of.calls (wrap64 (Int.tdiv t109 10000)) (Int.tmod (wrap64 (Int.tdiv t109 100)) 100) (Int.tmod t109 100) t115 t116 _ A25.out (glob_of HGL.out bel)).mono ?_); rintro e w42 ⟨rfl, hb⟩; refine ⟨_, rfl, ?_⟩; replace HO_4 := Aside0.mk (Kd.R_below (kr HO_4.out) hb); replace BK101 := Aside0.mk (blk_below (g := gb101) (bw BK101.out) hb); replace HB := Aside0.mk (below_step bel hb); (try clear hb); (try clear hb2); (try clear hk); (try clear hi)) | ((with_reducible refine gate_callee (f := 110) rfl ?_); refine goesL_ (some 72) rfl rfl Tryz.func110 (by kernel_rfl) rfl #[.string t113] rfl arg ?_; (with_reducible refine (words_Int.calls kj19 t113 t118 t119 _ A31.out).mono ?_); rintro e w' ⟨rfl, ⟨nd, rfl⟩⟩; refine ⟨_, rfl, ?_⟩; (try (rw [drewN_self w42]; generalize hq_ : World.drewN w42 _ = w42; have n0_ : Aside0 (Kd.R Kd.string 9 w42 w.heap.size (fun _ => True) (.slice (some ad108) t102.length co21) t102) := ⟨by rw [← hq_]; exact (kr HO_4.out)⟩; have n1_ : Aside0 (w42.heap[gb101]? = some (.cells #[.string (⟨#[]⟩ : ByteArray), .int .i64 0, .int .i64 0, .int .i64 0] 23 (0, 0))) := ⟨by rw [← hq_]; exact (bw BK101.out)⟩; have n2_ : Aside0 (Below w.heap.size w w42) := ⟨by rw [← hq_]; exact bel⟩; clear HO_4 BK101 HB hq_; have HO_4 := n0_; have BK101 := n1_; have HB := n2_; clear n0_ n1_ n2_)); obtain ⟨hcz43_0, hcz43_1, hcz43_2, hcz43_3, hfz43_0, hfz43_1, hfz43_2, hfz43_3⟩ := cz4 BK101.out))
                        refine bodyPost_ret (results_ct rfl _ _ gb101 23 #[.string (⟨#[]⟩ : ByteArray), .int .i64 0, .int .i64 0, .int .i64 0] (0, 0) _ rfl (bs BK101.out) Tryz.underlying23 rfl (by kernel_rfl)) rfl ?_
                        exact ⟨ers, bel⟩
                  · rw [if_neg c26] at H
                    have c26b0 : (t116 == 0) = false := beq_eq_false_iff_ne.mpr c26
                    have c26b1 : (t116 != 0) = true := bne_iff_ne.mpr c26
                    simp only [Option.some.injEq, Prod.mk.injEq] at H
                    obtain ⟨rfl, rfl, rfl, rfl, rfl⟩ := H
                    go_wp2_with (first | ((with_reducible refine gate_callee (f := 109) rfl ?_); refine goesL_ (some 62) rfl rfl Tryz.func109 (by kernel_rfl) rfl #[.int .i64 (wrap64 (Int.tdiv t109 10000)), .int .i64 (Int.tmod (wrap64 (Int.tdiv t109 100)) 100), .int .i64 (Int.tmod t109 100)] rfl arg ?_; (with_reducible refine (date_Of.calls (wrap64 (Int.tdiv t109 10000)) (Int.tmod (wrap64 (Int.tdiv t109 100)) 100) (Int.tmod t109 100) t115 t116 _ A25.out (glob_of HGL.out bel)).mono ?_); rintro e w44 ⟨rfl, hb⟩; refine ⟨_, rfl, ?_⟩; replace HO_4 := Aside0.mk (Kd.R_below (kr HO_4.out) hb); replace BK101 := Aside0.mk (blk_below (g := gb101) (bw BK101.out) hb); replace HB := Aside0.mk (below_step bel hb); (try clear hb); (try clear hb2); (try clear hk); (try clear hi); obtain ⟨hcz45_0, hcz45_1, hcz45_2, hcz45_3, hfz45_0, hfz45_1, hfz45_2, hfz45_3⟩ := cz4 BK101.out))
                    refine bodyPost_ret (results_ct rfl _ _ gb101 23 #[.string (⟨#[]⟩ : ByteArray), .int .i64 0, .int .i64 0, .int .i64 0] (0, 0) _ rfl (bs BK101.out) Tryz.underlying23 rfl (by kernel_rfl)) rfl ?_
                    exact ⟨ers, bel⟩
          · rw [if_neg c18] at H
            exact absurd H (by simp)
        · rw [if_neg c16] at H
          exact absurd H (by simp)
def trade_Parse_1.f (k : Nat) (a0 : ByteArray) : Option (Bool) := (words_Name.f k a0).bind fun t101 => (some (!t101))
theorem trade_Parse_1.mono : ∀ a0 k, LeO (trade_Parse_1.f k a0) (trade_Parse_1.f (k + 1) a0) := by
  intro a0 k
  unfold trade_Parse_1.f
  repeat' first
      | (with_reducible exact words_Name.mono _ _)
      | (with_reducible exact LeO.refl _)
      | (with_reducible exact LeO.none _)
      | (with_reducible refine LeO.ite ?_ ?_)
      | (with_reducible refine LeO.bind ?_ (fun _ => ?_))
      | exact words_Name.mono _ _
      | exact LeO.none _
      | refine LeO.ite ?_ ?_
      | refine LeO.bind ?_ (fun _ => ?_)
set_option maxHeartbeats 8000000 in
set_option maxRecDepth 100000 in
theorem trade_Parse_1.calls (k : Nat) (a0 : ByteArray) (r : Bool) (w : World) (h : trade_Parse_1.f k a0 = some r) :
    Calls Tryz.prog 47 #[.string a0] w fun e w' => e = .returned (.bool r) ∧ Drawn0 w w' := by
  have H : ((words_Name.f k a0).bind fun t101 => (some (!t101))) = some r := h
  clear h
  replace H := bnd H
  obtain ⟨t101, A20, H⟩ := H
  have A2 := Aside0.mk A20
  clear A20
  obtain rfl := Option.some.inj H
  go_enter Tryz.func47, Tryz.ntmps47
  go_wp2_with (first | ((with_reducible refine gate_callee (f := 48) rfl ?_); refine goesL_ (some 4) rfl rfl Tryz.func48 (by kernel_rfl) rfl #[.string a0] rfl arg ?_; (with_reducible refine (words_Name.calls k a0 t101 _ A2.out).mono ?_); rintro e w' ⟨rfl, ⟨nd, rfl⟩⟩; refine ⟨_, rfl, ?_⟩))
  go_ret
  exact ⟨eqs, drz⟩
def slices_IndexFunc_string_string.l0 : Nat → List ByteArray → Int → Int → Option (Int)
  | 0, _, _, _ => none
  | k + 1, x0, x7, x8 => if x8 < x7 then (if 0 ≤ x8 then (if x8 < (x0.length : Int) then ((trade_Parse_1.f k (rdOf ByteArray.empty x0 x8)).bind fun t102 => (if t102 = true then (some x8) else (slices_IndexFunc_string_string.l0 k x0 x7 (wrap64 (x8 + 1))))) else (none)) else (none)) else (some (-1))
def slices_IndexFunc_string_string.f (k : Nat) (l0 : List ByteArray) : Option (Int) := slices_IndexFunc_string_string.l0 k l0 (l0.length : Int) 0
theorem slices_IndexFunc_string_string.mono_l : ∀ k, (∀ y0 y1 y2, LeO (slices_IndexFunc_string_string.l0 k y0 y1 y2) (slices_IndexFunc_string_string.l0 (k + 1) y0 y1 y2))
  | 0 => fun _ _ _ r h => by simp [slices_IndexFunc_string_string.l0] at h
  | k + 1 => by
    have ih0 := slices_IndexFunc_string_string.mono_l k
    · intro y0 y1 y2
      unfold slices_IndexFunc_string_string.l0
      repeat' first
      | (with_reducible exact ih0 _ _ _)
      | (with_reducible exact trade_Parse_1.mono _ _)
      | (with_reducible exact LeO.refl _)
      | (with_reducible exact LeO.none _)
      | (with_reducible refine LeO.ite ?_ ?_)
      | (with_reducible refine LeO.bind ?_ (fun _ => ?_))
      | exact ih0 _ _ _
      | exact trade_Parse_1.mono _ _
      | exact LeO.none _
      | refine LeO.ite ?_ ?_
      | refine LeO.bind ?_ (fun _ => ?_)
theorem slices_IndexFunc_string_string.mono : ∀ a0 k, LeO (slices_IndexFunc_string_string.f k a0) (slices_IndexFunc_string_string.f (k + 1) a0) := by
  intro a0 k
  have ih0 := slices_IndexFunc_string_string.mono_l k
  unfold slices_IndexFunc_string_string.f
  repeat' first
      | (with_reducible exact ih0 _ _ _)
      | (with_reducible exact trade_Parse_1.mono _ _)
      | (with_reducible exact LeO.refl _)
      | (with_reducible exact LeO.none _)
      | (with_reducible refine LeO.ite ?_ ?_)
      | (with_reducible refine LeO.bind ?_ (fun _ => ?_))
      | exact ih0 _ _ _
      | exact trade_Parse_1.mono _ _
      | exact LeO.none _
      | refine LeO.ite ?_ ?_
      | refine LeO.bind ?_ (fun _ => ?_)
set_option maxHeartbeats 8000000 in
set_option maxRecDepth 100000 in
theorem slices_IndexFunc_string_string.calls (k : Nat) (A0 : Option Addr) (c0 : Nat) (l0 : List ByteArray) (r : Int) (w : World) (hr0 : Kd.C Kd.string w A0 l0.length l0) (hc0 : l0.length ≤ c0) (h : slices_IndexFunc_string_string.f k l0 = some r) :
    Calls Tryz.prog 104 #[.slice A0 l0.length c0, .func (.func 47) #[] #[]] w fun e w' => e = .returned (.int .i64 r) ∧ Drawn0 w w' := by
  have HR0 := Aside0.mk hr0
  have HC0 := Aside0.mk hc0
  clear hr0 hc0
  have H : (slices_IndexFunc_string_string.l0 k l0 (l0.length : Int) 0) = some r := h
  clear h
  have H' := Aside0.mk H
  clear H
  go_enter Tryz.func104, Tryz.ntmps104
  go_wp2
  go_loopg [8] k (fun kq v8 w' => ∃ (x8_1 : Int), v8 = .int .i64 x8_1 ∧ Aside0 (slices_IndexFunc_string_string.l0 kq l0 (l0.length : Int) x8_1 = some r) ∧ Aside0 (kq ≤ k) ∧ Drawn0 w w')
  case atStart => exact ⟨(0), eqs, H', ⟨Nat.le_refl _⟩, drz⟩
  case round =>
    clear H'
    try clear c1
    obtain ⟨x8_1, rfl, HA, HK1, ⟨m1, rfl⟩⟩ := hrel
    cases gk with
    | zero => exact absurd HA.out (by simp [slices_IndexFunc_string_string.l0])
    | succ k1 =>
      have H := HA.out
      clear HA
      simp only [slices_IndexFunc_string_string.l0] at H
      by_cases c2 : x8_1 < (l0.length : Int)
      · rw [if_pos c2] at H
        have c2b0 := decide_eq_true c2
        clear c2
        by_cases c3 : 0 ≤ x8_1
        · rw [if_pos c3] at H
          have c3b0 := decide_eq_true c3
          clear c3
          by_cases c4 : x8_1 < (l0.length : Int)
          · rw [if_pos c4] at H
            have c4b0 := decide_eq_true c4
            clear c4
            replace H := bnd H
            obtain ⟨t102, A50, H⟩ := H
            have A5 := Aside0.mk A50
            clear A50
            by_cases c6 : t102 = true
            · subst c6
              rw [if_pos rfl] at H
              obtain rfl := Option.some.inj H
              have p101 : 0 ≤ (x8_1 : Int) := dt
              have q101 : x8_1 < (l0.length : Int) := dt
              obtain ⟨ad101, e101, hx101_0⟩ := Kd.at_string HR0.out x8_1 p101 q101
              cases e101
              replace p101 := eq_true p101
              replace q101 := eq_true q101
              go_wp2_with (first | (go_at_call 47; (with_reducible refine (trade_Parse_1.calls k1 (rdOf ByteArray.empty l0 x8_1) true _ A5.out).mono ?_); rintro e w' ⟨rfl, ⟨nd, rfl⟩⟩))
              go_ret
              exact ⟨eqs, drz⟩
            · replace c6 := Bool.eq_false_iff.mpr c6
              subst c6
              rw [if_neg (show ¬ (false = true) by decide)] at H
              have H' := Aside0.mk H
              clear H
              have p101 : 0 ≤ (x8_1 : Int) := dt
              have q101 : x8_1 < (l0.length : Int) := dt
              obtain ⟨ad101, e101, hx101_0⟩ := Kd.at_string HR0.out x8_1 p101 q101
              cases e101
              replace p101 := eq_true p101
              replace q101 := eq_true q101
              go_wp2_with (first | (go_at_call 47; (with_reducible refine (trade_Parse_1.calls k1 (rdOf ByteArray.empty l0 x8_1) false _ A5.out).mono ?_); rintro e w' ⟨rfl, ⟨nd, rfl⟩⟩))
              go_roundg k1
              case measure => have := HK1.out; omega
              case rel => exact ⟨(wrap64 (x8_1 + 1)), eqs, H', ⟨hko⟩, drz⟩
          · rw [if_neg c4] at H
            exact absurd H (by simp)
        · rw [if_neg c3] at H
          exact absurd H (by simp)
      · rw [if_neg c2] at H
        have c2b0 := decide_eq_false c2
        clear c2
        obtain rfl := Option.some.inj H
        go_wp2
        go_ret
        exact ⟨eqs, drz⟩
def slices_ContainsFunc_string_string.f (k : Nat) (l0 : List ByteArray) : Option (Bool) := (slices_IndexFunc_string_string.f k l0).bind fun t101 => (some (decide (t101 ≥ 0)))
theorem slices_ContainsFunc_string_string.mono : ∀ a0 k, LeO (slices_ContainsFunc_string_string.f k a0) (slices_ContainsFunc_string_string.f (k + 1) a0) := by
  intro a0 k
  unfold slices_ContainsFunc_string_string.f
  repeat' first
      | (with_reducible exact slices_IndexFunc_string_string.mono _ _)
      | (with_reducible exact LeO.refl _)
      | (with_reducible exact LeO.none _)
      | (with_reducible refine LeO.ite ?_ ?_)
      | (with_reducible refine LeO.bind ?_ (fun _ => ?_))
      | exact slices_IndexFunc_string_string.mono _ _
      | exact LeO.none _
      | refine LeO.ite ?_ ?_
      | refine LeO.bind ?_ (fun _ => ?_)
set_option maxHeartbeats 8000000 in
set_option maxRecDepth 100000 in
theorem slices_ContainsFunc_string_string.calls (k : Nat) (A0 : Option Addr) (c0 : Nat) (l0 : List ByteArray) (r : Bool) (w : World) (hr0 : Kd.C Kd.string w A0 l0.length l0) (hc0 : l0.length ≤ c0) (h : slices_ContainsFunc_string_string.f k l0 = some r) :
    Calls Tryz.prog 46 #[.slice A0 l0.length c0, .func (.func 47) #[] #[]] w fun e w' => e = .returned (.bool r) ∧ Drawn0 w w' := by
  have HR0 := Aside0.mk hr0
  have HC0 := Aside0.mk hc0
  clear hr0 hc0
  have H : ((slices_IndexFunc_string_string.f k l0).bind fun t101 => (some (decide (t101 ≥ 0)))) = some r := h
  clear h
  replace H := bnd H
  obtain ⟨t101, A20, H⟩ := H
  have A2 := Aside0.mk A20
  clear A20
  obtain rfl := Option.some.inj H
  go_enter Tryz.func46, Tryz.ntmps46
  go_wp2_with (first | ((with_reducible refine gate_callee (f := 104) rfl ?_); refine goesL_ (some 7) rfl rfl Tryz.func104 (by kernel_rfl) rfl #[.slice A0 l0.length c0, .func (.func 47) #[] #[]] rfl arg ?_; (with_reducible refine (slices_IndexFunc_string_string.calls k _ _ l0 t101 _ ?side1 ?side2 A2.out).mono ?_); (case side1 => repeat (first | exact HR0.out | (with_reducible refine Kd.C_alloc ?_ _) | (with_reducible refine Kd.C_drewN ?_ _) | (with_reducible refine Kd.C_drew ?_))); (case side2 => exact HC0.out); rintro e w' ⟨rfl, ⟨nd, rfl⟩⟩; refine ⟨_, rfl, ?_⟩))
  go_ret
  exact ⟨eqs, drz⟩
mutual
def words_Fields.l0 : Nat → List ByteArray → Int → List ByteArray → Int → Int → Option (List ByteArray × Int)
  | 0, _, _, _, _, _ => none
  | k + 1, x4, x5, x15, x16, x17 => if x17 < x16 then (if 0 ≤ x17 then (if x17 < (x15.length : Int) then (if (rdOf ByteArray.empty x15 x17).toList = ([] : List UInt8) then (if 5 = 0 then (some (x4, 0)) else (some (([] : List ByteArray), 5))) else (words_Fields.l1 k x4 x5 (rdOf ByteArray.empty x15 x17) x15 x16 x17 ((rdOf ByteArray.empty x15 x17).size : Int) 0)) else (none)) else (none)) else (if x5 = 0 then (some (x4, 0)) else (some (([] : List ByteArray), x5)))
def words_Fields.l1 : Nat → List ByteArray → Int → ByteArray → List ByteArray → Int → Int → Int → Int → Option (List ByteArray × Int)
  | 0, _, _, _, _, _, _, _, _ => none
  | k + 1, x4, x5, x7, x15, x16, x17, x24, x25 => if x25 < x24 then (if 0 ≤ x25 then (if x25 < (x7.size : Int) then (if (bt x7 x25) ≤ 32 then (if 5 = 0 then (some (x4, 0)) else (some (([] : List ByteArray), 5))) else (if (bt x7 x25) > 126 then (if 5 = 0 then (some (x4, 0)) else (some (([] : List ByteArray), 5))) else (words_Fields.l1 k x4 x5 x7 x15 x16 x17 x24 (wrap64 (x25 + 1))))) else (none)) else (none)) else (if x4.length < 8796093022208 then (words_Fields.l0 k (x4 ++ [x7]) x5 x15 x16 (wrap64 (x17 + 1))) else (none))
end
def words_Fields.f (k : Nat) (a0 : ByteArray) : Option (List ByteArray × Int) := if (a0.size : Int) > 512 then (some (([] : List ByteArray), 8)) else (if a0.toList = ([] : List UInt8) then (some (([] : List ByteArray), 0)) else ((strings_Split.f a0 (⟨#[32]⟩ : ByteArray)).bind fun t101 => (words_Fields.l0 k ([] : List ByteArray) 0 t101 (t101.length : Int) 0)))
theorem words_Fields.mono_l : ∀ k, (∀ y0 y1 y2 y3 y4, LeO (words_Fields.l0 k y0 y1 y2 y3 y4) (words_Fields.l0 (k + 1) y0 y1 y2 y3 y4)) ∧ (∀ y0 y1 y2 y3 y4 y5 y6 y7, LeO (words_Fields.l1 k y0 y1 y2 y3 y4 y5 y6 y7) (words_Fields.l1 (k + 1) y0 y1 y2 y3 y4 y5 y6 y7))
  | 0 => ⟨fun _ _ _ _ _ r h => by simp [words_Fields.l0] at h, fun _ _ _ _ _ _ _ _ r h => by simp [words_Fields.l1] at h⟩
  | k + 1 => by
    obtain ⟨ih0, ih1⟩ := words_Fields.mono_l k
    refine ⟨?_, ?_⟩
    · intro y0 y1 y2 y3 y4
      unfold words_Fields.l0
      repeat' first
      | (with_reducible exact ih0 _ _ _ _ _)
      | (with_reducible exact ih1 _ _ _ _ _ _ _ _)
      | (with_reducible exact LeO.refl _)
      | (with_reducible exact LeO.none _)
      | (with_reducible refine LeO.ite ?_ ?_)
      | (with_reducible refine LeO.bind ?_ (fun _ => ?_))
      | exact ih0 _ _ _ _ _
      | exact ih1 _ _ _ _ _ _ _ _
      | exact LeO.none _
      | refine LeO.ite ?_ ?_
      | refine LeO.bind ?_ (fun _ => ?_)
    · intro y0 y1 y2 y3 y4 y5 y6 y7
      unfold words_Fields.l1
      repeat' first
      | (with_reducible exact ih0 _ _ _ _ _)
      | (with_reducible exact ih1 _ _ _ _ _ _ _ _)
      | (with_reducible exact LeO.refl _)
      | (with_reducible exact LeO.none _)
      | (with_reducible refine LeO.ite ?_ ?_)
      | (with_reducible refine LeO.bind ?_ (fun _ => ?_))
      | exact ih0 _ _ _ _ _
      | exact ih1 _ _ _ _ _ _ _ _
      | exact LeO.none _
      | refine LeO.ite ?_ ?_
      | refine LeO.bind ?_ (fun _ => ?_)
theorem words_Fields.mono : ∀ a0 k, LeO (words_Fields.f k a0) (words_Fields.f (k + 1) a0) := by
  intro a0 k
  obtain ⟨ih0, ih1⟩ := words_Fields.mono_l k
  unfold words_Fields.f
  repeat' first
      | (with_reducible exact ih0 _ _ _ _ _)
      | (with_reducible exact ih1 _ _ _ _ _ _ _ _)
      | (with_reducible exact LeO.refl _)
      | (with_reducible exact LeO.none _)
      | (with_reducible refine LeO.ite ?_ ?_)
      | (with_reducible refine LeO.bind ?_ (fun _ => ?_))
      | exact ih0 _ _ _ _ _
      | exact ih1 _ _ _ _ _ _ _ _
      | exact LeO.none _
      | refine LeO.ite ?_ ?_
      | refine LeO.bind ?_ (fun _ => ?_)
set_option maxHeartbeats 8000000 in
set_option maxRecDepth 100000 in
theorem words_Fields.calls (k : Nat) (a0 : ByteArray) (r1 : List ByteArray) (r2 : Int) (w : World) (h : words_Fields.f k a0 = some (r1, r2)) :
    Calls Tryz.prog 45 #[.string a0] w fun e w' => ∃ v0_ : Value, e = .returned (.tuple #[v0_, .int .i64 r2]) ∧ Kd.R Kd.string 9 w' w.heap.size (fun _ => True) v0_ r1 ∧ Below w.heap.size w w' := by
  have HB := Aside0.mk (Below.refl w.heap.size w)
  have H : (if (a0.size : Int) > 512 then (some (([] : List ByteArray), 8)) else (if a0.toList = ([] : List UInt8) then (some (([] : List ByteArray), 0)) else ((strings_Split.f a0 (⟨#[32]⟩ : ByteArray)).bind fun t101 => (words_Fields.l0 k ([] : List ByteArray) 0 t101 (t101.length : Int) 0)))) = some (r1, r2) := h
  clear h
  by_cases c2 : (a0.size : Int) > 512
  · rw [if_pos c2] at H
    have c2b0 : decide (512 < (a0.size : Int)) = true := decide_eq_true c2
    have c2b1 : decide (512 < a0.size) = true := decide_eq_true (by omega)
    clear c2
    simp only [Option.some.injEq, Prod.mk.injEq] at H
    obtain ⟨rfl, rfl⟩ := H
    go_enter Tryz.func45, Tryz.ntmps45
    go_wp2
    try (go_step3; go_wp2)
    try (go_step3; go_wp2)
    try rw [Exit.noGoto_ret]
    go_ret2
    exact ⟨_, ers, by first | exact Kd.R_nil _ _ _ _ _ | exact Kd.N_nil _ _ _ _ _ | exact Kd.V_nil _ _ _ _ _ | exact Kd.Q_nil _ _ _ _ _ | exact Kd.S_nil _ _ _ _ _, bel⟩
  · rw [if_neg c2] at H
    have c2b0 : decide (512 < (a0.size : Int)) = false := decide_eq_false c2
    have c2b1 : decide (512 < a0.size) = false := decide_eq_false (by omega)
    clear c2
    by_cases c3 : a0.toList = ([] : List UInt8)
    · rw [if_pos c3] at H
      have c3b0 : (a0.toList == ([] : List UInt8)) = true := beq_iff_eq.mpr c3
      have c3b1 : (a0.toList != ([] : List UInt8)) = false := bne_eq_false_iff_eq.mpr c3
      clear c3
      simp only [Option.some.injEq, Prod.mk.injEq] at H
      obtain ⟨rfl, rfl⟩ := H
      go_enter Tryz.func45, Tryz.ntmps45
      go_wp2
      try (go_step3; go_wp2)
      try (go_step3; go_wp2)
      try rw [Exit.noGoto_ret]
      go_ret2
      exact ⟨_, ers, by first | exact Kd.R_nil _ _ _ _ _ | exact Kd.N_nil _ _ _ _ _ | exact Kd.V_nil _ _ _ _ _ | exact Kd.Q_nil _ _ _ _ _ | exact Kd.S_nil _ _ _ _ _, bel⟩
    · rw [if_neg c3] at H
      have c3b0 : (a0.toList == ([] : List UInt8)) = false := beq_eq_false_iff_ne.mpr c3
      have c3b1 : (a0.toList != ([] : List UInt8)) = true := bne_iff_ne.mpr c3
      replace H := bnd H
      obtain ⟨t101, A40, H⟩ := H
      have A4 := Aside0.mk A40
      clear A40
      have H' := Aside0.mk H
      clear H
      go_enter Tryz.func45, Tryz.ntmps45
      go_wp2_with (first | ((with_reducible refine gate_callee (f := 103) rfl ?_); refine goesL_ (some 15) rfl rfl Tryz.func103 (by kernel_rfl) rfl #[.string a0, .string (⟨#[32]⟩ : ByteArray)] rfl arg ?_; (with_reducible refine (strings_Split.calls a0 (⟨#[32]⟩ : ByteArray) t101 _ A4.out).mono ?_); rintro e w5 ⟨v102, rfl, ho0, hb⟩; refine ⟨_, rfl, ?_⟩; have HO103 := Aside0.mk (Kd.R_lower ho0 (below_size bel)); replace HB := Aside0.mk (below_step bel hb); (try clear hb); (try clear hb2); (try clear hk); (try clear hi); (try clear ho0); obtain ⟨Ao6, co6, eo6⟩ := Kd.R_slice HO103.out; subst eo6))
      try (go_step3; go_wp2_with (first | ((with_reducible refine gate_callee (f := 103) rfl ?_); refine goesL_ (some 15) rfl rfl Tryz.func103 (by kernel_rfl) rfl #[.string a0, .string (⟨#[32]⟩ : ByteArray)] rfl arg ?_; (with_reducible refine (strings_Split.calls a0 (⟨#[32]⟩ : ByteArray) t101 _ A4.out).mono ?_); rintro e w5 ⟨v102, rfl, ho0, hb⟩; refine ⟨_, rfl, ?_⟩; have HO103 := Aside0.mk (Kd.R_lower ho0 (below_size bel)); replace HB := Aside0.mk (below_step bel hb); (try clear hb); (try clear hb2); (try clear hk); (try clear hi); (try clear ho0); obtain ⟨Ao6, co6, eo6⟩ := Kd.R_slice HO103.out; subst eo6)))
      try (go_step3; go_wp2_with (first | ((with_reducible refine gate_callee (f := 103) rfl ?_); refine goesL_ (some 15) rfl rfl Tryz.func103 (by kernel_rfl) rfl #[.string a0, .string (⟨#[32]⟩ : ByteArray)] rfl arg ?_; (with_reducible refine (strings_Split.calls a0 (⟨#[32]⟩ : ByteArray) t101 _ A4.out).mono ?_); rintro e w5 ⟨v102, rfl, ho0, hb⟩; refine ⟨_, rfl, ?_⟩; have HO103 := Aside0.mk (Kd.R_lower ho0 (below_size bel)); replace HB := Aside0.mk (below_step bel hb); (try clear hb); (try clear hb2); (try clear hk); (try clear hi); (try clear ho0); obtain ⟨Ao6, co6, eo6⟩ := Kd.R_slice HO103.out; subst eo6)))
      go_loopg [4, 5, 17] k (fun kq v4 v5 v17 w' => ∃ (x4_1 : List ByteArray) (x5_1 : Int) (x17_1 : Int), v5 = .int .i64 x5_1 ∧ v17 = .int .i64 x17_1 ∧ Aside0 (words_Fields.l0 kq x4_1 x5_1 t101 (t101.length : Int) x17_1 = some (r1, r2)) ∧ Aside0 (kq ≤ k) ∧ Aside0 (Kd.R Kd.string 9 w' w.heap.size (fun k_ => some k_ ≠ ((.slice Ao6 t101.length co6) : Value).ownBlock) v4 x4_1) ∧ Aside0 (Kd.R Kd.string 9 w' w.heap.size (fun k_ => some k_ ≠ (v4 : Value).ownBlock) (.slice Ao6 t101.length co6) t101) ∧ Aside0 (Below w.heap.size w w'))
      case atStart => exact ⟨(([] : List ByteArray)), (0), (0), eqs, eqs, H', ⟨Nat.le_refl _⟩, ⟨by first | exact Kd.R_nil _ _ _ _ _ | exact Kd.N_nil _ _ _ _ _ | exact Kd.V_nil _ _ _ _ _ | exact Kd.Q_nil _ _ _ _ _ | exact Kd.S_nil _ _ _ _ _⟩, ⟨by (with_reducible repeat (first | apply Kd.R_alloc | apply Kd.R_drewN | apply Kd.R_drew)); exact Kd.R_mono HO103.out (fun _ hk => (by simp [Value.ownBlock]))⟩, ⟨bel⟩⟩
      case round =>
        clear H'
        try clear c1
        try clear c2
        try clear c2b0
        try clear c2b1
        try clear p2
        try clear c3
        try clear c3b0
        try clear c3b1
        try clear c4
        obtain ⟨x4_1, x5_1, x17_1, rfl, rfl, HA, HK1, HO_4, HO_15, HB⟩ := hrel
        cases gk with
        | zero => exact absurd HA.out (by simp [words_Fields.l0])
        | succ k1 =>
          have H := HA.out
          clear HA
          simp only [words_Fields.l0] at H
          by_cases c7 : x17_1 < (t101.length : Int)
          · rw [if_pos c7] at H
            have c7b0 := decide_eq_true c7
            clear c7
            by_cases c8 : 0 ≤ x17_1
            · rw [if_pos c8] at H
              have c8b0 := decide_eq_true c8
              clear c8
              by_cases c9 : x17_1 < (t101.length : Int)
              · rw [if_pos c9] at H
                have c9b0 := decide_eq_true c9
                clear c9
                by_cases c10 : (rdOf ByteArray.empty t101 x17_1).toList = ([] : List UInt8)
                · rw [if_pos c10] at H
                  have c10b0 : ((rdOf ByteArray.empty t101 x17_1).toList == ([] : List UInt8)) = true := beq_iff_eq.mpr c10
                  have c10b1 : ((rdOf ByteArray.empty t101 x17_1).toList != ([] : List UInt8)) = false := bne_eq_false_iff_eq.mpr c10
                  clear c10
                  by_cases c11 : 5 = 0
                  · exact absurd c11 (by decide)
                  · rw [if_neg c11] at H
                    have c11b0 : (5 == 0) = false := beq_eq_false_iff_ne.mpr c11
                    have c11b1 : (5 != 0) = true := bne_iff_ne.mpr c11
                    simp only [Option.some.injEq, Prod.mk.injEq] at H
                    obtain ⟨rfl, rfl⟩ := H
                    have p104 : 0 ≤ (x17_1 : Int) := dt
                    have q104 : x17_1 < (t101.length : Int) := dt
                    obtain ⟨ad104, e104, hx104_0⟩ := Kd.at_string (Kd.R_reads' HO_15.out).2.2 x17_1 p104 q104
                    cases e104
                    replace p104 := eq_true p104
                    replace q104 := eq_true q104
                    go_wp2
                    try (go_step3; go_wp2)
                    try (go_step3; go_wp2)
                    try rw [Exit.noGoto_ret]
                    go_ret2
                    exact ⟨_, ers, by first | exact Kd.R_nil _ _ _ _ _ | exact Kd.N_nil _ _ _ _ _ | exact Kd.V_nil _ _ _ _ _ | exact Kd.Q_nil _ _ _ _ _ | exact Kd.S_nil _ _ _ _ _, bel⟩
                · rw [if_neg c10] at H
                  have c10b0 : ((rdOf ByteArray.empty t101 x17_1).toList == ([] : List UInt8)) = false := beq_eq_false_iff_ne.mpr c10
                  have c10b1 : ((rdOf ByteArray.empty t101 x17_1).toList != ([] : List UInt8)) = true := bne_iff_ne.mpr c10
                  have H' := Aside0.mk H
                  clear H
                  have p104 : 0 ≤ (x17_1 : Int) := dt
                  have q104 : x17_1 < (t101.length : Int) := dt
                  obtain ⟨ad104, e104, hx104_0⟩ := Kd.at_string (Kd.R_reads' HO_15.out).2.2 x17_1 p104 q104
                  cases e104
                  replace p104 := eq_true p104
                  replace q104 := eq_true q104
                  go_wp2
                  try (go_step3; go_wp2)
                  try (go_step3; go_wp2)
                  go_loopg [5, 25] k1 (fun kq v5 v25 w' => ∃ (x5_2 : Int) (x25_2 : Int), v5 = .int .i64 x5_2 ∧ v25 = .int .i64 x25_2 ∧ Aside0 (words_Fields.l1 kq x4_1 x5_2 (rdOf ByteArray.empty t101 x17_1) t101 (t101.length : Int) x17_1 ((rdOf ByteArray.empty t101 x17_1).size : Int) x25_2 = some (r1, r2)) ∧ Aside0 (kq ≤ k1) ∧ Aside0 (Kd.R Kd.string 9 w' w.heap.size (fun k_ => some k_ ≠ ((.slice (some ad104) t101.length co6) : Value).ownBlock) u4 x4_1) ∧ Aside0 (Kd.R Kd.string 9 w' w.heap.size (fun k_ => some k_ ≠ (u4 : Value).ownBlock) (.slice (some ad104) t101.length co6) t101) ∧ Aside0 (Below w.heap.size w w'))
                  case atStart => exact ⟨(x5_1), (0), eqs, eqs, H', ⟨Nat.le_refl _⟩, ⟨kr HO_4.out⟩, ⟨kr HO_15.out⟩, ⟨bel⟩⟩
                  case round =>
                    clear H'
                    try clear c1
                    try clear p1
                    try clear q1
                    try clear hx1
                    try clear c2
                    try clear c2b0
                    try clear c2b1
                    try clear p2
                    try clear c3
                    try clear c3b0
                    try clear c3b1
                    try clear c4
                    try clear c7
                    try clear c7b0
                    try clear c8
                    try clear c8b0
                    try clear c9
                    try clear c9b0
                    try clear c10
                    try clear c10b0
                    try clear c10b1
                    try clear p10
                    try clear q10
                    try clear hx10
                    try clear c11
                    try clear c11b0
                    try clear c11b1
                    try clear hx104_0
                    try clear p104
                    try clear p2
                    try clear q104
                    obtain ⟨x5_2, x25_2, rfl, rfl, HA, HK2, HO_4, HO_15, HB⟩ := hrel
                    cases gk with
                    | zero => exact absurd HA.out (by simp [words_Fields.l1])
                    | succ k2 =>
                      have H := HA.out
                      clear HA
                      simp only [words_Fields.l1] at H
                      by_cases c12 : x25_2 < ((rdOf ByteArray.empty t101 x17_1).size : Int)
                      · rw [if_pos c12] at H
                        have c12b0 := decide_eq_true c12
                        clear c12
                        by_cases c13 : 0 ≤ x25_2
                        · rw [if_pos c13] at H
                          have c13b0 := decide_eq_true c13
                          clear c13
                          by_cases c14 : x25_2 < ((rdOf ByteArray.empty t101 x17_1).size : Int)
                          · rw [if_pos c14] at H
                            have c14b0 := decide_eq_true c14
                            clear c14
                            by_cases c16 : (bt (rdOf ByteArray.empty t101 x17_1) x25_2) ≤ 32
                            · rw [if_pos c16] at H
                              have c16b0 := decide_eq_true c16
                              clear c16
                              by_cases c17 : 5 = 0
                              · exact absurd c17 (by decide)
                              · rw [if_neg c17] at H
                                have c17b0 : (5 == 0) = false := beq_eq_false_iff_ne.mpr c17
                                have c17b1 : (5 != 0) = true := bne_iff_ne.mpr c17
                                simp only [Option.some.injEq, Prod.mk.injEq] at H
                                obtain ⟨rfl, rfl⟩ := H
                                have p15 : 0 ≤ (x25_2 : Int) := dt
                                have q15 : x25_2 < ((rdOf ByteArray.empty t101 x17_1).size : Int) := dt
                                have hx15 := bt_at (rdOf ByteArray.empty t101 x17_1) x25_2
                                replace p15 := eq_true p15
                                replace q15 := eq_true q15
                                go_wp2
                                try (go_step3; go_wp2)
                                try (go_step3; go_wp2)
                                try rw [Exit.noGoto_ret]
                                go_ret2
                                exact ⟨_, ers, by first | exact Kd.R_nil _ _ _ _ _ | exact Kd.N_nil _ _ _ _ _ | exact Kd.V_nil _ _ _ _ _ | exact Kd.Q_nil _ _ _ _ _ | exact Kd.S_nil _ _ _ _ _, bel⟩
                            · rw [if_neg c16] at H
                              have c16b0 := decide_eq_false c16
                              clear c16
                              by_cases c19 : (bt (rdOf ByteArray.empty t101 x17_1) x25_2) > 126
                              · rw [if_pos c19] at H
                                have c19b0 : decide (126 < (bt (rdOf ByteArray.empty t101 x17_1) x25_2)) = true := decide_eq_true c19
                                clear c19
                                by_cases c20 : 5 = 0
                                · exact absurd c20 (by decide)
                                · rw [if_neg c20] at H
                                  have c20b0 : (5 == 0) = false := beq_eq_false_iff_ne.mpr c20
                                  have c20b1 : (5 != 0) = true := bne_iff_ne.mpr c20
                                  simp only [Option.some.injEq, Prod.mk.injEq] at H
                                  obtain ⟨rfl, rfl⟩ := H
                                  have p15 : 0 ≤ (x25_2 : Int) := dt
                                  have q15 : x25_2 < ((rdOf ByteArray.empty t101 x17_1).size : Int) := dt
                                  have hx15 := bt_at (rdOf ByteArray.empty t101 x17_1) x25_2
                                  replace p15 := eq_true p15
                                  replace q15 := eq_true q15
                                  have p18 : 0 ≤ (x25_2 : Int) := dt
                                  have q18 : x25_2 < ((rdOf ByteArray.empty t101 x17_1).size : Int) := dt
                                  have hx18 := bt_at (rdOf ByteArray.empty t101 x17_1) x25_2
                                  replace p18 := eq_true p18
                                  replace q18 := eq_true q18
                                  go_wp2
                                  try (go_step3; go_wp2)
                                  try (go_step3; go_wp2)
                                  try rw [Exit.noGoto_ret]
                                  go_ret2
                                  exact ⟨_, ers, by first | exact Kd.R_nil _ _ _ _ _ | exact Kd.N_nil _ _ _ _ _ | exact Kd.V_nil _ _ _ _ _ | exact Kd.Q_nil _ _ _ _ _ | exact Kd.S_nil _ _ _ _ _, bel⟩
                              · rw [if_neg c19] at H
                                have c19b0 : decide (126 < (bt (rdOf ByteArray.empty t101 x17_1) x25_2)) = false := decide_eq_false c19
                                clear c19
                                have H' := Aside0.mk H
                                clear H
                                have p15 : 0 ≤ (x25_2 : Int) := dt
                                have q15 : x25_2 < ((rdOf ByteArray.empty t101 x17_1).size : Int) := dt
                                have hx15 := bt_at (rdOf ByteArray.empty t101 x17_1) x25_2
                                replace p15 := eq_true p15
                                replace q15 := eq_true q15
                                have p18 : 0 ≤ (x25_2 : Int) := dt
                                have q18 : x25_2 < ((rdOf ByteArray.empty t101 x17_1).size : Int) := dt
                                have hx18 := bt_at (rdOf ByteArray.empty t101 x17_1) x25_2
                                replace p18 := eq_true p18
                                replace q18 := eq_true q18
                                go_wp2
                                try (go_step3; go_wp2)
                                try (go_step3; go_wp2)
                                go_roundg k2
                                case measure => have := HK1.out; have := HK2.out; omega
                                case rel => exact ⟨(x5_2), (wrap64 (x25_2 + 1)), eqs, eqs, H', ⟨by have := HK1.out; have := HK2.out; omega⟩, ⟨kr HO_4.out⟩, ⟨kr HO_15.out⟩, ⟨bel⟩⟩
                          · rw [if_neg c14] at H
                            exact absurd H (by simp)
                        · rw [if_neg c13] at H
                          exact absurd H (by simp)
                      · rw [if_neg c12] at H
                        have c12b0 := decide_eq_false c12
                        clear c12
                        by_cases c21 : x4_1.length < 8796093022208
                        · rw [if_pos c21] at H
                          have LMc21 := Aside0.mk c21
                          clear c21
                          obtain ⟨y105, hy105⟩ : ∃ y_ : List ByteArray, y_ = (x4_1 ++ [(rdOf ByteArray.empty t101 x17_1)]) := ⟨_, rfl⟩
                          replace H : (words_Fields.l0 k2 y105 x5_2 t101 (t101.length : Int) (wrap64 (x17_1 + 1))) = some (r1, r2) := by first | (rw [hy105]; with_reducible exact H) | (have H2_ := (Option.bind_some _ _).symm.trans H; rw [hy105]; with_reducible exact H2_) | (have H2_ := (Option.bind_some _ _).symm.trans H; with_reducible exact H2_) | with_reducible exact H | (rw [hy105]; exact H) | exact H
                          have Ny105 := Aside0.mk hy105
                          clear hy105
                          have H' := Aside0.mk H
                          clear H
                          go_wp2_with (first | ((with_reducible refine gate_builtin (b := .append) (xs := #[.tmp 39, .tmp 41]) rfl ?_); at_builtin; refine Kd.R_append Kd.string (w0 := w) w.heap.size rfl (.tmp 39) (.tmp 41) 85 9 (.string ⟨#[]⟩) 16 rfl Tryz.underlying85 info9 rfl (by decide) (by omega) u4 x4_1 (rdOf ByteArray.empty t101 x17_1) [.string (rdOf ByteArray.empty t101 x17_1)] (fun k_ => some k_ ≠ (.slice (some ad104) t101.length co6 : Value).ownBlock) (fun _ => False) rfl rfl ?aP (fun _ hk => hk.elim) ?aF ?aO ?aB ?aS ?aL ?_; (case aP => exact rfl); (case aB => exact bel); (case aF => exact (fun k_ hk => Kd.fresh' (Kd.R_lt (kr HO_15.out)) k_ hk)); (case aO => exact (kr HO_4.out)); (case aS => exact (below_size bel)); (case aL => have := LMc21.out; omega); intro v106 w22 ho hb hg hat; rw [← Ny105.out] at ho; have n0_ := Aside0.mk (Kd.R_after (ok := (fun _ => True)) (by (with_reducible repeat (first | apply Kd.R_alloc | apply Kd.R_drewN | apply Kd.R_drew)); exact Kd.R_mono HO_15.out (fun _ hk => ⟨trivial, hk⟩)) hg hat); have n1_ := Aside0.mk (hb); have n2_ := Aside0.mk (ho); clear HO_15; clear HB; clear HO_4; have HO_15 := n0_; have HB := n1_; have HO107 := n2_; clear n0_ n1_ n2_; clear ho hb hg hat))
                          try (go_step3; go_wp2_with (first | ((with_reducible refine gate_builtin (b := .append) (xs := #[.tmp 39, .tmp 41]) rfl ?_); at_builtin; refine Kd.R_append Kd.string (w0 := w) w.heap.size rfl (.tmp 39) (.tmp 41) 85 9 (.string ⟨#[]⟩) 16 rfl Tryz.underlying85 info9 rfl (by decide) (by omega) u4 x4_1 (rdOf ByteArray.empty t101 x17_1) [.string (rdOf ByteArray.empty t101 x17_1)] (fun k_ => some k_ ≠ (.slice (some ad104) t101.length co6 : Value).ownBlock) (fun _ => False) rfl rfl ?aP (fun _ hk => hk.elim) ?aF ?aO ?aB ?aS ?aL ?_; (case aP => exact rfl); (case aB => exact bel); (case aF => exact (fun k_ hk => Kd.fresh' (Kd.R_lt (kr HO_15.out)) k_ hk)); (case aO => exact (kr HO_4.out)); (case aS => exact (below_size bel)); (case aL => have := LMc21.out; omega); intro v106 w22 ho hb hg hat; rw [← Ny105.out] at ho; have n0_ := Aside0.mk (Kd.R_after (ok := (fun _ => True)) (by (with_reducible repeat (first | apply Kd.R_alloc | apply Kd.R_drewN | apply Kd.R_drew)); exact Kd.R_mono HO_15.out (fun _ hk => ⟨trivial, hk⟩)) hg hat); have n1_ := Aside0.mk (hb); have n2_ := Aside0.mk (ho); clear HO_15; clear HB; clear HO_4; have HO_15 := n0_; have HB := n1_; have HO107 := n2_; clear n0_ n1_ n2_; clear ho hb hg hat)))
                          try (go_step3; go_wp2_with (first | ((with_reducible refine gate_builtin (b := .append) (xs := #[.tmp 39, .tmp 41]) rfl ?_); at_builtin; refine Kd.R_append Kd.string (w0 := w) w.heap.size rfl (.tmp 39) (.tmp 41) 85 9 (.string ⟨#[]⟩) 16 rfl Tryz.underlying85 info9 rfl (by decide) (by omega) u4 x4_1 (rdOf ByteArray.empty t101 x17_1) [.string (rdOf ByteArray.empty t101 x17_1)] (fun k_ => some k_ ≠ (.slice (some ad104) t101.length co6 : Value).ownBlock) (fun _ => False) rfl rfl ?aP (fun _ hk => hk.elim) ?aF ?aO ?aB ?aS ?aL ?_; (case aP => exact rfl); (case aB => exact bel); (case aF => exact (fun k_ hk => Kd.fresh' (Kd.R_lt (kr HO_15.out)) k_ hk)); (case aO => exact (kr HO_4.out)); (case aS => exact (below_size bel)); (case aL => have := LMc21.out; omega); intro v106 w22 ho hb hg hat; rw [← Ny105.out] at ho; have n0_ := Aside0.mk (Kd.R_after (ok := (fun _ => True)) (by (with_reducible repeat (first | apply Kd.R_alloc | apply Kd.R_drewN | apply Kd.R_drew)); exact Kd.R_mono HO_15.out (fun _ hk => ⟨trivial, hk⟩)) hg hat); have n1_ := Aside0.mk (hb); have n2_ := Aside0.mk (ho); clear HO_15; clear HB; clear HO_4; have HO_15 := n0_; have HB := n1_; have HO107 := n2_; clear n0_ n1_ n2_; clear ho hb hg hat)))
                          go_roundg k2
                          case measure => have := HK1.out; have := HK2.out; omega
                          case rel => exact ⟨(y105), (x5_2), (wrap64 (x17_1 + 1)), eqs, eqs, H', ⟨by have := HK1.out; have := HK2.out; omega⟩, ⟨kr HO107.out⟩, ⟨by (with_reducible repeat (first | apply Kd.R_alloc | apply Kd.R_drewN | apply Kd.R_drew)); exact Kd.R_mono HO_15.out (fun _ hk => hk.2)⟩, ⟨bel⟩⟩
                        · rw [if_neg c21] at H
                          exact absurd H (by simp)
              · rw [if_neg c9] at H
                exact absurd H (by simp)
            · rw [if_neg c8] at H
              exact absurd H (by simp)
          · rw [if_neg c7] at H
            have c7b0 := decide_eq_false c7
            clear c7
            by_cases c23 : x5_1 = 0
            · rw [if_pos c23] at H
              have c23b0 : (x5_1 == 0) = true := beq_iff_eq.mpr c23
              have c23b1 : (x5_1 != 0) = false := bne_eq_false_iff_eq.mpr c23
              clear c23
              simp only [Option.some.injEq, Prod.mk.injEq] at H
              obtain ⟨rfl, rfl⟩ := H
              go_wp2
              try (go_step3; go_wp2)
              try (go_step3; go_wp2)
              try rw [Exit.noGoto_ret]
              go_ret2
              exact ⟨_, ers, by (with_reducible repeat (first | apply Kd.R_alloc | apply Kd.R_drewN | apply Kd.R_drew)); exact Kd.R_mono HO_4.out (fun _ hk => trivial), bel⟩
            · rw [if_neg c23] at H
              have c23b0 : (x5_1 == 0) = false := beq_eq_false_iff_ne.mpr c23
              have c23b1 : (x5_1 != 0) = true := bne_iff_ne.mpr c23
              simp only [Option.some.injEq, Prod.mk.injEq] at H
              obtain ⟨rfl, rfl⟩ := H
              go_wp2
              try (go_step3; go_wp2)
              try (go_step3; go_wp2)
              try rw [Exit.noGoto_ret]
              go_ret2
              exact ⟨_, ers, by first | exact Kd.R_nil _ _ _ _ _ | exact Kd.N_nil _ _ _ _ _ | exact Kd.V_nil _ _ _ _ _ | exact Kd.Q_nil _ _ _ _ _ | exact Kd.S_nil _ _ _ _ _, bel⟩
def rfS (l : List ByteArray) (i : Nat) : ByteArray := rdOf ByteArray.empty l (i : Int)
def pr6 (k : Nat) (l : List ByteArray) (t : S27) : Option (S27 × Int) := some (t, 0)
def pr5 (k : Nat) (l : List ByteArray) (t : S27) : Option (S27 × Int) := (words_Int.f k (rfS l 5)).bind fun q => if q.2 = 0 then pr6 k l { t with f5 := q.1 } else some (z27, q.2)
def pr4 (k : Nat) (l : List ByteArray) (t : S27) : Option (S27 × Int) := (words_Int.f k (rfS l 4)).bind fun q => if q.2 = 0 then pr5 k l { t with f4 := q.1 } else some (z27, q.2)
def pr3 (k : Nat) (l : List ByteArray) (t : S27) : Option (S27 × Int) := (series_Parse.f k (rfS l 3)).bind fun q => if q.2.2.2.2 = 0 then pr4 k l { t with f3 := ⟨q.1, q.2.1, q.2.2.1, q.2.2.2.1⟩ } else some (z27, q.2.2.2.2)
def pr2 (k : Nat) (l : List ByteArray) (t : S27) : Option (S27 × Int) := (words_Int.f k (rfS l 2)).bind fun q => if q.2 = 0 then pr3 k l { t with f2 := q.1 } else some (z27, q.2)
def pr1 (k : Nat) (l : List ByteArray) (t : S27) : Option (S27 × Int) := (words_Int.f k (rfS l 1)).bind fun q => if q.2 = 0 then pr2 k l { t with f1 := q.1 } else some (z27, q.2)
def pr0 (k : Nat) (l : List ByteArray) (t : S27) : Option (S27 × Int) := (words_Int.f k (rfS l 0)).bind fun q => if q.2 = 0 then pr1 k l { t with f0 := q.1 } else some (z27, q.2)
def prAt : Nat → Nat → List ByteArray → S27 → Option (S27 × Int)
  | 0 => pr0
  | 1 => pr1
  | 2 => pr2
  | 3 => pr3
  | 4 => pr4
  | 5 => pr5
  | _ => pr6
def t0T (l : List ByteArray) : S27 := { z27 with f6 := ⟨rfS l 6, rfS l 7⟩, f7 := ⟨rfS l 8, rfS l 9⟩ }
def prsT (k : Nat) (s : ByteArray) : Option (S27 × Int) :=
  (words_Fields.f k s).bind fun q => if q.2 = 0 then (if q.1.length = 10 then (slices_ContainsFunc_string_string.f k (q.1.drop 6)).bind fun b => if b = true then some (z27, 5) else pr0 k q.1 (t0T q.1) else some (z27, 5)) else some (z27, q.2)
theorem prsT_mono (s : ByteArray) (k : Nat) : LeO (prsT k s) (prsT (k + 1) s) := by
  have h6 : ∀ l t, LeO (pr6 k l t) (pr6 (k + 1) l t) := fun l t => LeO.refl _
  have h5 : ∀ l t, LeO (pr5 k l t) (pr5 (k + 1) l t) := fun l t => LeO.bind (words_Int.mono _ _) fun q => LeO.ite (h6 _ _) (LeO.refl _)
  have h4 : ∀ l t, LeO (pr4 k l t) (pr4 (k + 1) l t) := fun l t => LeO.bind (words_Int.mono _ _) fun q => LeO.ite (h5 _ _) (LeO.refl _)
  have h3 : ∀ l t, LeO (pr3 k l t) (pr3 (k + 1) l t) := fun l t => LeO.bind (series_Parse.mono _ _) fun q => LeO.ite (h4 _ _) (LeO.refl _)
  have h2 : ∀ l t, LeO (pr2 k l t) (pr2 (k + 1) l t) := fun l t => LeO.bind (words_Int.mono _ _) fun q => LeO.ite (h3 _ _) (LeO.refl _)
  have h1 : ∀ l t, LeO (pr1 k l t) (pr1 (k + 1) l t) := fun l t => LeO.bind (words_Int.mono _ _) fun q => LeO.ite (h2 _ _) (LeO.refl _)
  have h0 : ∀ l t, LeO (pr0 k l t) (pr0 (k + 1) l t) := fun l t => LeO.bind (words_Int.mono _ _) fun q => LeO.ite (h1 _ _) (LeO.refl _)
  exact LeO.bind (words_Fields.mono _ _) fun q => LeO.ite (LeO.ite (LeO.bind (slices_ContainsFunc_string_string.mono _ _) fun b => LeO.ite (LeO.refl _) (h0 _ _)) (LeO.refl _)) (LeO.refl _)
def trade_Parse.f (k : Nat) (a0 : ByteArray) : Option (Int × Int × Int × ByteArray × Int × Int × Int × Int × Int × ByteArray × ByteArray × ByteArray × ByteArray × Int) := (prsT k a0).bind fun p => some (p.1.f0, p.1.f1, p.1.f2, p.1.f3.f0, p.1.f3.f1, p.1.f3.f2, p.1.f3.f3, p.1.f4, p.1.f5, p.1.f6.f0, p.1.f6.f1, p.1.f7.f0, p.1.f7.f1, p.2)
theorem trade_Parse.mono : ∀ a0 k, LeO (trade_Parse.f k a0) (trade_Parse.f (k + 1) a0) := fun a0 k => LeO.bind (prsT_mono a0 k) fun p => LeO.refl _
theorem kt_cell {T : TypeId} {a b : World} (h : KT T a b) {g : Nat} {cs : Array Value} (hg : a.heap[g]? = some (.cells cs T (0, 0))) (j : Nat) {v : Value} (hv : a.cell? ⟨g, j, none⟩ = some v) : b.cell? ⟨g, j, none⟩ = some v := (blk_cell (h g cs hg) j).trans ((blk_cell hg j).symm.trans hv)
set_option maxHeartbeats 1600000 in
set_option maxRecDepth 100000 in
theorem num_lit (k : Nat) (s : ByteArray) (x e : Int) (b gt off : Nat) (cs : Array Value) (old : Int) (w : World) (hs : words_Int.f k s = some (x, e)) (hb : w.heap[b]? = some (.cells #[.pointer (some ⟨gt, off, none⟩)] 94 (0, 0))) (hg : w.heap[gt]? = some (.cells cs 27 (0, 0))) (ho : cs[off]? = some (.int .i64 old)) :
    Calls Tryz.prog 111 #[.string s, .pointer (some ⟨b, 0, none⟩)] w fun ex w' => ex = .returned (.int .i64 e) ∧ ∃ w1, Below w.heap.size w w1 ∧ w' = w1.setCell ⟨gt, off, none⟩ (.int .i64 x) := by
  have HS := Aside0.mk hs
  have HB := Aside0.mk hb
  have HG := Aside0.mk hg
  have HO := Aside0.mk ho
  clear hs hb hg ho
  go_enter Tryz.func111, Tryz.ntmps111
  go_wp2_with (go_at_call 110; refine (words_Int.calls k s x e _ HS.out).mono ?_; rintro e1 w1 ⟨rfl, hd1⟩; have HBW := Aside0.mk hd1.below; have hp : w1.cell? ⟨b, 0, none⟩ = some (.pointer (some ⟨gt, off, none⟩)) := blk_cell (blk_below HB.out HBW.out) 0; have hc := (blk_cell (blk_below HG.out HBW.out) off).trans HO.out; have hf := blk_frozen (blk_below HG.out HBW.out) off; clear hd1)
  exact bodyPost_ret (v := .int .i64 e) (by simp [results, Tryz.results111, go_sem]) rfl ⟨rfl, _, HBW.out, rfl⟩
set_option maxHeartbeats 1600000 in
set_option maxRecDepth 100000 in
theorem number_calls (gt off : Nat) (w : World) :
    Calls Tryz.prog 51 #[.pointer (some ⟨gt, off, none⟩)] w fun e w' => ∃ b : Nat, e = .returned (.func (.func 111) #[] #[.pointer (some ⟨b, 0, none⟩)]) ∧ w'.heap[b]? = some (.cells #[.pointer (some ⟨gt, off, none⟩)] 94 (0, 0)) ∧ Below w.heap.size w w' := by
  go_enter Tryz.func51, Tryz.ntmps51
  go_wp2_with fail
  exact bodyPost_ret (v := .func (.func 111) #[] #[.pointer (some ⟨w.heap.size, 0, none⟩)]) (by simp [results, Tryz.results51, go_sem]) rfl ⟨_, rfl, blk_new _ _, below_alloc (Below.refl _ _) _⟩
set_option maxHeartbeats 1600000 in
set_option maxRecDepth 100000 in
theorem ser_lit (k : Nat) (s : ByteArray) (r1 : ByteArray) (r2 r3 r4 r5 : Int) (gt : Nat) (t : S27) (w : World) (hs : series_Parse.f k s = some (r1, r2, r3, r4, r5)) (hg : w.heap[gt]? = some (.cells #[.int .i64 t.f0, .int .i64 t.f1, .int .i64 t.f2, .string t.f3.f0, .int .i64 t.f3.f1, .int .i64 t.f3.f2, .int .i64 t.f3.f3, .int .i64 t.f4, .int .i64 t.f5, .string t.f6.f0, .string t.f6.f1, .string t.f7.f0, .string t.f7.f1] 27 (0, 0))) (hGL : GlobD w) :
    Calls Tryz.prog 49 #[.string s, .pointer (some ⟨gt, 0, none⟩)] w fun ex w' => ex = .returned (.int .i64 r5) ∧ ∃ w1, Below w.heap.size w w1 ∧ w' = (((w1.setCell ⟨gt, 3, none⟩ (.string r1)).setCell ⟨gt, 4, none⟩ (.int .i64 r2)).setCell ⟨gt, 5, none⟩ (.int .i64 r3)).setCell ⟨gt, 6, none⟩ (.int .i64 r4) := by
  have HS := Aside0.mk hs
  have HG := Aside0.mk hg
  have HGL := Aside0.mk hGL
  clear hs hg hGL
  go_enter Tryz.func49, Tryz.ntmps49
  go_wp2_with (go_at_call 50; refine (series_Parse.calls k s r1 r2 r3 r4 r5 _ HS.out HGL.out).mono ?_; rintro e1 w1 ⟨rfl, hb1⟩; have HBW := Aside0.mk hb1; have hG1 := blk_below HG.out hb1; have hc3 : ∀ o, (w1.alloc o).cell? ⟨gt, 3, none⟩ = some (.string t.f3.f0) := fun o => blk_cell (blk_alloc hG1 o) 3; have hf3 : ∀ o, (w1.alloc o).frozen? ⟨gt, 3, none⟩ = false := fun o => blk_frozen (blk_alloc hG1 o) 3; have hc4 : ∀ o, (w1.alloc o).cell? ⟨gt, 4, none⟩ = some (.int .i64 t.f3.f1) := fun o => blk_cell (blk_alloc hG1 o) 4; have hf4 : ∀ o, (w1.alloc o).frozen? ⟨gt, 4, none⟩ = false := fun o => blk_frozen (blk_alloc hG1 o) 4; have hc5 : ∀ o, (w1.alloc o).cell? ⟨gt, 5, none⟩ = some (.int .i64 t.f3.f2) := fun o => blk_cell (blk_alloc hG1 o) 5; have hf5 : ∀ o, (w1.alloc o).frozen? ⟨gt, 5, none⟩ = false := fun o => blk_frozen (blk_alloc hG1 o) 5; have hc6 : ∀ o, (w1.alloc o).cell? ⟨gt, 6, none⟩ = some (.int .i64 t.f3.f3) := fun o => blk_cell (blk_alloc hG1 o) 6; have hf6 : ∀ o, (w1.alloc o).frozen? ⟨gt, 6, none⟩ = false := fun o => blk_frozen (blk_alloc hG1 o) 6; clear hb1 hG1)
  exact bodyPost_ret (v := .int .i64 r5) (by simp [results, Tryz.results49, go_sem]) rfl ⟨rfl, _, below_alloc HBW.out _, rfl⟩
theorem strsT {n : Nat} {w : World} {base : Nat} {ok : Nat → Prop} {v : Value} {l : List ByteArray} (h : Kd.R Kd.string 9 w base ok v l) (hl : l.length = n) (hn : 0 < n) : ∃ gL cap, v = .slice (some ⟨gL, 0, none⟩) n cap ∧ n ≤ cap ∧ (∃ cur, w.heap[gL]? = some (.cells cur 9 (0, 0))) ∧ Kd.C Kd.string w (some ⟨gL, 0, none⟩) l.length l ∧ ∀ j : Nat, j < n → w.cell? ⟨gL, j, none⟩ = some (.string (rfS l j)) := by
  obtain ⟨g, cap, rfl, _, _, hcur⟩ := Kd.R_form h (by omega)
  have hC := (Kd.R_reads' h).2.2
  refine ⟨g, cap, by rw [hl], by have := (Kd.R_reads' h).2.1; omega, hcur, hC, fun j hj => ?_⟩
  obtain ⟨ad, e, hx⟩ := Kd.at_string hC (j : Int) (by omega) (by omega)
  cases e
  rw [Int.toNat_natCast] at hx
  have e2 : (⟨g, 0, none⟩ : Addr).add j = ⟨g, j, none⟩ := by
    unfold Addr.add
    split <;> simp_all
  rwa [e2] at hx
def trp.T6 : Bool × List (List Nat × List Nat) := (true, [([], []), ([0], [0]), ([1], [1]), ([], []), ([3], [3]), ([4], [4]), ([2, 5], [2, 5]), ([], []), ([7], [7]), ([8], [8]), ([], []), ([10], [10]), ([11], [11]), ([9, 12], [9, 12]), ([6, 13], [6, 13]), ([], []), ([15, 14, 0, 1, 2, 3, 4, 5, 6, 7, 8, 9, 10, 11, 12, 13, 14, 15], [14, 15])])
def trp.B6 : List Nat := [0, 1, 3, 0, 8, 24, 63, 0, 128, 384, 0, 1024, 3072, 8064, 16383, 0, 65535]
theorem trp.tab6 : rtab .any (opsOf Tryz.f13 6) = trp.T6 := by kernel_rfl
theorem trp.bits6 : waitsOk trp.T6.2 trp.B6 = true := by kernel_rfl
set_option maxHeartbeats 6400000 in
set_option maxRecDepth 100000 in
theorem parse_core (k : Nat) (a0 : ByteArray) (p : S27 × Int) (w : World) (h : prsT k a0 = some p) (hGL : GlobD w) :
    Calls Tryz.prog 13 #[.string a0] w fun e w' => e = .returned (.tuple #[.agg #[.int .i64 p.1.f0, .int .i64 p.1.f1, .int .i64 p.1.f2, .string p.1.f3.f0, .int .i64 p.1.f3.f1, .int .i64 p.1.f3.f2, .int .i64 p.1.f3.f3, .int .i64 p.1.f4, .int .i64 p.1.f5, .string p.1.f6.f0, .string p.1.f6.f1, .string p.1.f7.f0, .string p.1.f7.f1], .int .i64 p.2]) ∧ Below w.heap.size w w' := by
  unfold prsT at h
  obtain ⟨⟨l, e1⟩, hF, h⟩ := Option.bind_eq_some_iff.1 h
  dsimp only at h
  have HF := Aside0.mk hF
  have HGL := Aside0.mk hGL
  have HBA := Aside0.mk (below_alloc (Below.refl w.heap.size w) (.cells #[.int .i64 0, .int .i64 0, .int .i64 0, .string (⟨#[]⟩ : ByteArray), .int .i64 0, .int .i64 0, .int .i64 0, .int .i64 0, .int .i64 0, .string (⟨#[]⟩ : ByteArray), .string (⟨#[]⟩ : ByteArray), .string (⟨#[]⟩ : ByteArray), .string (⟨#[]⟩ : ByteArray)] 27))
  have HZ := Aside0.mk (show (w.alloc (.cells #[.int .i64 0, .int .i64 0, .int .i64 0, .string (⟨#[]⟩ : ByteArray), .int .i64 0, .int .i64 0, .int .i64 0, .int .i64 0, .int .i64 0, .string (⟨#[]⟩ : ByteArray), .string (⟨#[]⟩ : ByteArray), .string (⟨#[]⟩ : ByteArray), .string (⟨#[]⟩ : ByteArray)] 27)).heap[w.heap.size]? = some (.cells #[.int .i64 0, .int .i64 0, .int .i64 0, .string (⟨#[]⟩ : ByteArray), .int .i64 0, .int .i64 0, .int .i64 0, .int .i64 0, .int .i64 0, .string (⟨#[]⟩ : ByteArray), .string (⟨#[]⟩ : ByteArray), .string (⟨#[]⟩ : ByteArray), .string (⟨#[]⟩ : ByteArray)] 27 (0, 0)) from blk_new _ _)
  clear hF hGL
  by_cases c1 : e1 = 0
  case neg =>
    rw [if_neg c1] at h
    obtain rfl := Option.some.inj h
    have hne : (e1 != 0) = true := bne_iff_ne.2 c1
    clear c1 h
    go_enter Tryz.func13, Tryz.ntmps13
    go_wp2_with (go_at_call 45; refine (words_Fields.calls k a0 l _ _ HF.out).mono ?_; rintro e w1 ⟨v0, rfl, ho, hb⟩; have HB1 := Aside0.mk (below_step HBA.out hb); have hZ1 := blk_below HZ.out hb; obtain ⟨A1, cc1, rfl⟩ := Kd.R_slice ho; have hfc0 : w1.cell? ⟨w.heap.size, 0, none⟩ = some (.int .i64 0) := blk_cell hZ1 0; have hf0 : w1.frozen? ⟨w.heap.size, 0, none⟩ = false := blk_frozen hZ1 0; have hfc1 : w1.cell? ⟨w.heap.size, 1, none⟩ = some (.int .i64 0) := blk_cell hZ1 1; have hf1 : w1.frozen? ⟨w.heap.size, 1, none⟩ = false := blk_frozen hZ1 1; have hfc2 : w1.cell? ⟨w.heap.size, 2, none⟩ = some (.int .i64 0) := blk_cell hZ1 2; have hf2 : w1.frozen? ⟨w.heap.size, 2, none⟩ = false := blk_frozen hZ1 2; have hfc3 : w1.cell? ⟨w.heap.size, 3, none⟩ = some (.string (⟨#[]⟩ : ByteArray)) := blk_cell hZ1 3; have hf3 : w1.frozen? ⟨w.heap.size, 3, none⟩ = false := blk_frozen hZ1 3; have hfc4 : w1.cell? ⟨w.heap.size, 4, none⟩ = some (.int .i64 0) := blk_cell hZ1 4; have hf4 : w1.frozen? ⟨w.heap.size, 4, none⟩ = false := blk_frozen hZ1 4; have hfc5 : w1.cell? ⟨w.heap.size, 5, none⟩ = some (.int .i64 0) := blk_cell hZ1 5; have hf5 : w1.frozen? ⟨w.heap.size, 5, none⟩ = false := blk_frozen hZ1 5; have hfc6 : w1.cell? ⟨w.heap.size, 6, none⟩ = some (.int .i64 0) := blk_cell hZ1 6; have hf6 : w1.frozen? ⟨w.heap.size, 6, none⟩ = false := blk_frozen hZ1 6; have hfc7 : w1.cell? ⟨w.heap.size, 7, none⟩ = some (.int .i64 0) := blk_cell hZ1 7; have hf7 : w1.frozen? ⟨w.heap.size, 7, none⟩ = false := blk_frozen hZ1 7; have hfc8 : w1.cell? ⟨w.heap.size, 8, none⟩ = some (.int .i64 0) := blk_cell hZ1 8; have hf8 : w1.frozen? ⟨w.heap.size, 8, none⟩ = false := blk_frozen hZ1 8; have hfc9 : w1.cell? ⟨w.heap.size, 9, none⟩ = some (.string (⟨#[]⟩ : ByteArray)) := blk_cell hZ1 9; have hf9 : w1.frozen? ⟨w.heap.size, 9, none⟩ = false := blk_frozen hZ1 9; have hfc10 : w1.cell? ⟨w.heap.size, 10, none⟩ = some (.string (⟨#[]⟩ : ByteArray)) := blk_cell hZ1 10; have hf10 : w1.frozen? ⟨w.heap.size, 10, none⟩ = false := blk_frozen hZ1 10; have hfc11 : w1.cell? ⟨w.heap.size, 11, none⟩ = some (.string (⟨#[]⟩ : ByteArray)) := blk_cell hZ1 11; have hf11 : w1.frozen? ⟨w.heap.size, 11, none⟩ = false := blk_frozen hZ1 11; have hfc12 : w1.cell? ⟨w.heap.size, 12, none⟩ = some (.string (⟨#[]⟩ : ByteArray)) := blk_cell hZ1 12; have hf12 : w1.frozen? ⟨w.heap.size, 12, none⟩ = false := blk_frozen hZ1 12; have HZ1 := Aside0.mk hZ1; clear hb ho hZ1)
    refine bodyPost_ret (results_ct rfl _ _ w.heap.size 27 #[.int .i64 0, .int .i64 0, .int .i64 0, .string (⟨#[]⟩ : ByteArray), .int .i64 0, .int .i64 0, .int .i64 0, .int .i64 0, .int .i64 0, .string (⟨#[]⟩ : ByteArray), .string (⟨#[]⟩ : ByteArray), .string (⟨#[]⟩ : ByteArray), .string (⟨#[]⟩ : ByteArray)] (0, 0) _ rfl (blk_put (cs := #[.int .i64 0, .int .i64 0, .int .i64 0, .string (⟨#[]⟩ : ByteArray), .int .i64 0, .int .i64 0, .int .i64 0, .int .i64 0, .int .i64 0, .string (⟨#[]⟩ : ByteArray), .string (⟨#[]⟩ : ByteArray), .string (⟨#[]⟩ : ByteArray), .string (⟨#[]⟩ : ByteArray)]) (blk_put (cs := #[.int .i64 0, .int .i64 0, .int .i64 0, .string (⟨#[]⟩ : ByteArray), .int .i64 0, .int .i64 0, .int .i64 0, .int .i64 0, .int .i64 0, .string (⟨#[]⟩ : ByteArray), .string (⟨#[]⟩ : ByteArray), .string (⟨#[]⟩ : ByteArray), .string (⟨#[]⟩ : ByteArray)]) (blk_put (cs := #[.int .i64 0, .int .i64 0, .int .i64 0, .string (⟨#[]⟩ : ByteArray), .int .i64 0, .int .i64 0, .int .i64 0, .int .i64 0, .int .i64 0, .string (⟨#[]⟩ : ByteArray), .string (⟨#[]⟩ : ByteArray), .string (⟨#[]⟩ : ByteArray), .string (⟨#[]⟩ : ByteArray)]) (blk_put (cs := #[.int .i64 0, .int .i64 0, .int .i64 0, .string (⟨#[]⟩ : ByteArray), .int .i64 0, .int .i64 0, .int .i64 0, .int .i64 0, .int .i64 0, .string (⟨#[]⟩ : ByteArray), .string (⟨#[]⟩ : ByteArray), .string (⟨#[]⟩ : ByteArray), .string (⟨#[]⟩ : ByteArray)]) (blk_put (cs := #[.int .i64 0, .int .i64 0, .int .i64 0, .string (⟨#[]⟩ : ByteArray), .int .i64 0, .int .i64 0, .int .i64 0, .int .i64 0, .int .i64 0, .string (⟨#[]⟩ : ByteArray), .string (⟨#[]⟩ : ByteArray), .string (⟨#[]⟩ : ByteArray), .string (⟨#[]⟩ : ByteArray)]) (blk_put (cs := #[.int .i64 0, .int .i64 0, .int .i64 0, .string (⟨#[]⟩ : ByteArray), .int .i64 0, .int .i64 0, .int .i64 0, .int .i64 0, .int .i64 0, .string (⟨#[]⟩ : ByteArray), .string (⟨#[]⟩ : ByteArray), .string (⟨#[]⟩ : ByteArray), .string (⟨#[]⟩ : ByteArray)]) (blk_put (cs := #[.int .i64 0, .int .i64 0, .int .i64 0, .string (⟨#[]⟩ : ByteArray), .int .i64 0, .int .i64 0, .int .i64 0, .int .i64 0, .int .i64 0, .string (⟨#[]⟩ : ByteArray), .string (⟨#[]⟩ : ByteArray), .string (⟨#[]⟩ : ByteArray), .string (⟨#[]⟩ : ByteArray)]) (blk_put (cs := #[.int .i64 0, .int .i64 0, .int .i64 0, .string (⟨#[]⟩ : ByteArray), .int .i64 0, .int .i64 0, .int .i64 0, .int .i64 0, .int .i64 0, .string (⟨#[]⟩ : ByteArray), .string (⟨#[]⟩ : ByteArray), .string (⟨#[]⟩ : ByteArray), .string (⟨#[]⟩ : ByteArray)]) (blk_put (cs := #[.int .i64 0, .int .i64 0, .int .i64 0, .string (⟨#[]⟩ : ByteArray), .int .i64 0, .int .i64 0, .int .i64 0, .int .i64 0, .int .i64 0, .string (⟨#[]⟩ : ByteArray), .string (⟨#[]⟩ : ByteArray), .string (⟨#[]⟩ : ByteArray), .string (⟨#[]⟩ : ByteArray)]) (blk_put (cs := #[.int .i64 0, .int .i64 0, .int .i64 0, .string (⟨#[]⟩ : ByteArray), .int .i64 0, .int .i64 0, .int .i64 0, .int .i64 0, .int .i64 0, .string (⟨#[]⟩ : ByteArray), .string (⟨#[]⟩ : ByteArray), .string (⟨#[]⟩ : ByteArray), .string (⟨#[]⟩ : ByteArray)]) (blk_put (cs := #[.int .i64 0, .int .i64 0, .int .i64 0, .string (⟨#[]⟩ : ByteArray), .int .i64 0, .int .i64 0, .int .i64 0, .int .i64 0, .int .i64 0, .string (⟨#[]⟩ : ByteArray), .string (⟨#[]⟩ : ByteArray), .string (⟨#[]⟩ : ByteArray), .string (⟨#[]⟩ : ByteArray)]) (blk_put (cs := #[.int .i64 0, .int .i64 0, .int .i64 0, .string (⟨#[]⟩ : ByteArray), .int .i64 0, .int .i64 0, .int .i64 0, .int .i64 0, .int .i64 0, .string (⟨#[]⟩ : ByteArray), .string (⟨#[]⟩ : ByteArray), .string (⟨#[]⟩ : ByteArray), .string (⟨#[]⟩ : ByteArray)]) (blk_put (cs := #[.int .i64 0, .int .i64 0, .int .i64 0, .string (⟨#[]⟩ : ByteArray), .int .i64 0, .int .i64 0, .int .i64 0, .int .i64 0, .int .i64 0, .string (⟨#[]⟩ : ByteArray), .string (⟨#[]⟩ : ByteArray), .string (⟨#[]⟩ : ByteArray), .string (⟨#[]⟩ : ByteArray)]) (HZ1.out) 0 _ rfl) 1 _ rfl) 2 _ rfl) 3 _ rfl) 4 _ rfl) 5 _ rfl) 6 _ rfl) 7 _ rfl) 8 _ rfl) 9 _ rfl) 10 _ rfl) 11 _ rfl) 12 _ rfl) Tryz.underlying27 rfl (by kernel_rfl)) rfl ⟨rfl, ?_⟩
    exact (Below.setCell (Below.setCell (Below.setCell (Below.setCell (Below.setCell (Below.setCell (Below.setCell (Below.setCell (Below.setCell (Below.setCell (Below.setCell (Below.setCell (Below.setCell HB1.out (p := ⟨w.heap.size, 0, none⟩) (by first | exact Nat.le_refl _ | exact Nat.le_succ _) _) (p := ⟨w.heap.size, 1, none⟩) (by first | exact Nat.le_refl _ | exact Nat.le_succ _) _) (p := ⟨w.heap.size, 2, none⟩) (by first | exact Nat.le_refl _ | exact Nat.le_succ _) _) (p := ⟨w.heap.size, 3, none⟩) (by first | exact Nat.le_refl _ | exact Nat.le_succ _) _) (p := ⟨w.heap.size, 4, none⟩) (by first | exact Nat.le_refl _ | exact Nat.le_succ _) _) (p := ⟨w.heap.size, 5, none⟩) (by first | exact Nat.le_refl _ | exact Nat.le_succ _) _) (p := ⟨w.heap.size, 6, none⟩) (by first | exact Nat.le_refl _ | exact Nat.le_succ _) _) (p := ⟨w.heap.size, 7, none⟩) (by first | exact Nat.le_refl _ | exact Nat.le_succ _) _) (p := ⟨w.heap.size, 8, none⟩) (by first | exact Nat.le_refl _ | exact Nat.le_succ _) _) (p := ⟨w.heap.size, 9, none⟩) (by first | exact Nat.le_refl _ | exact Nat.le_succ _) _) (p := ⟨w.heap.size, 10, none⟩) (by first | exact Nat.le_refl _ | exact Nat.le_succ _) _) (p := ⟨w.heap.size, 11, none⟩) (by first | exact Nat.le_refl _ | exact Nat.le_succ _) _) (p := ⟨w.heap.size, 12, none⟩) (by first | exact Nat.le_refl _ | exact Nat.le_succ _) _)
  subst c1
  rw [if_pos rfl] at h
  by_cases c2 : l.length = 10
  case neg =>
    rw [if_neg c2] at h
    obtain rfl := Option.some.inj h
    have hne : ((l.length : Int) != 10) = true := bne_iff_ne.2 (by omega)
    clear c2 h
    go_enter Tryz.func13, Tryz.ntmps13
    go_wp2_with (go_at_call 45; refine (words_Fields.calls k a0 l _ _ HF.out).mono ?_; rintro e w1 ⟨v0, rfl, ho, hb⟩; have HB1 := Aside0.mk (below_step HBA.out hb); have hZ1 := blk_below HZ.out hb; obtain ⟨A1, cc1, rfl⟩ := Kd.R_slice ho; have hfc0 : w1.cell? ⟨w.heap.size, 0, none⟩ = some (.int .i64 0) := blk_cell hZ1 0; have hf0 : w1.frozen? ⟨w.heap.size, 0, none⟩ = false := blk_frozen hZ1 0; have hfc1 : w1.cell? ⟨w.heap.size, 1, none⟩ = some (.int .i64 0) := blk_cell hZ1 1; have hf1 : w1.frozen? ⟨w.heap.size, 1, none⟩ = false := blk_frozen hZ1 1; have hfc2 : w1.cell? ⟨w.heap.size, 2, none⟩ = some (.int .i64 0) := blk_cell hZ1 2; have hf2 : w1.frozen? ⟨w.heap.size, 2, none⟩ = false := blk_frozen hZ1 2; have hfc3 : w1.cell? ⟨w.heap.size, 3, none⟩ = some (.string (⟨#[]⟩ : ByteArray)) := blk_cell hZ1 3; have hf3 : w1.frozen? ⟨w.heap.size, 3, none⟩ = false := blk_frozen hZ1 3; have hfc4 : w1.cell? ⟨w.heap.size, 4, none⟩ = some (.int .i64 0) := blk_cell hZ1 4; have hf4 : w1.frozen? ⟨w.heap.size, 4, none⟩ = false := blk_frozen hZ1 4; have hfc5 : w1.cell? ⟨w.heap.size, 5, none⟩ = some (.int .i64 0) := blk_cell hZ1 5; have hf5 : w1.frozen? ⟨w.heap.size, 5, none⟩ = false := blk_frozen hZ1 5; have hfc6 : w1.cell? ⟨w.heap.size, 6, none⟩ = some (.int .i64 0) := blk_cell hZ1 6; have hf6 : w1.frozen? ⟨w.heap.size, 6, none⟩ = false := blk_frozen hZ1 6; have hfc7 : w1.cell? ⟨w.heap.size, 7, none⟩ = some (.int .i64 0) := blk_cell hZ1 7; have hf7 : w1.frozen? ⟨w.heap.size, 7, none⟩ = false := blk_frozen hZ1 7; have hfc8 : w1.cell? ⟨w.heap.size, 8, none⟩ = some (.int .i64 0) := blk_cell hZ1 8; have hf8 : w1.frozen? ⟨w.heap.size, 8, none⟩ = false := blk_frozen hZ1 8; have hfc9 : w1.cell? ⟨w.heap.size, 9, none⟩ = some (.string (⟨#[]⟩ : ByteArray)) := blk_cell hZ1 9; have hf9 : w1.frozen? ⟨w.heap.size, 9, none⟩ = false := blk_frozen hZ1 9; have hfc10 : w1.cell? ⟨w.heap.size, 10, none⟩ = some (.string (⟨#[]⟩ : ByteArray)) := blk_cell hZ1 10; have hf10 : w1.frozen? ⟨w.heap.size, 10, none⟩ = false := blk_frozen hZ1 10; have hfc11 : w1.cell? ⟨w.heap.size, 11, none⟩ = some (.string (⟨#[]⟩ : ByteArray)) := blk_cell hZ1 11; have hf11 : w1.frozen? ⟨w.heap.size, 11, none⟩ = false := blk_frozen hZ1 11; have hfc12 : w1.cell? ⟨w.heap.size, 12, none⟩ = some (.string (⟨#[]⟩ : ByteArray)) := blk_cell hZ1 12; have hf12 : w1.frozen? ⟨w.heap.size, 12, none⟩ = false := blk_frozen hZ1 12; have HZ1 := Aside0.mk hZ1; clear hb ho hZ1)
    refine bodyPost_ret (results_ct rfl _ _ w.heap.size 27 #[.int .i64 0, .int .i64 0, .int .i64 0, .string (⟨#[]⟩ : ByteArray), .int .i64 0, .int .i64 0, .int .i64 0, .int .i64 0, .int .i64 0, .string (⟨#[]⟩ : ByteArray), .string (⟨#[]⟩ : ByteArray), .string (⟨#[]⟩ : ByteArray), .string (⟨#[]⟩ : ByteArray)] (0, 0) _ rfl (blk_put (cs := #[.int .i64 0, .int .i64 0, .int .i64 0, .string (⟨#[]⟩ : ByteArray), .int .i64 0, .int .i64 0, .int .i64 0, .int .i64 0, .int .i64 0, .string (⟨#[]⟩ : ByteArray), .string (⟨#[]⟩ : ByteArray), .string (⟨#[]⟩ : ByteArray), .string (⟨#[]⟩ : ByteArray)]) (blk_put (cs := #[.int .i64 0, .int .i64 0, .int .i64 0, .string (⟨#[]⟩ : ByteArray), .int .i64 0, .int .i64 0, .int .i64 0, .int .i64 0, .int .i64 0, .string (⟨#[]⟩ : ByteArray), .string (⟨#[]⟩ : ByteArray), .string (⟨#[]⟩ : ByteArray), .string (⟨#[]⟩ : ByteArray)]) (blk_put (cs := #[.int .i64 0, .int .i64 0, .int .i64 0, .string (⟨#[]⟩ : ByteArray), .int .i64 0, .int .i64 0, .int .i64 0, .int .i64 0, .int .i64 0, .string (⟨#[]⟩ : ByteArray), .string (⟨#[]⟩ : ByteArray), .string (⟨#[]⟩ : ByteArray), .string (⟨#[]⟩ : ByteArray)]) (blk_put (cs := #[.int .i64 0, .int .i64 0, .int .i64 0, .string (⟨#[]⟩ : ByteArray), .int .i64 0, .int .i64 0, .int .i64 0, .int .i64 0, .int .i64 0, .string (⟨#[]⟩ : ByteArray), .string (⟨#[]⟩ : ByteArray), .string (⟨#[]⟩ : ByteArray), .string (⟨#[]⟩ : ByteArray)]) (blk_put (cs := #[.int .i64 0, .int .i64 0, .int .i64 0, .string (⟨#[]⟩ : ByteArray), .int .i64 0, .int .i64 0, .int .i64 0, .int .i64 0, .int .i64 0, .string (⟨#[]⟩ : ByteArray), .string (⟨#[]⟩ : ByteArray), .string (⟨#[]⟩ : ByteArray), .string (⟨#[]⟩ : ByteArray)]) (blk_put (cs := #[.int .i64 0, .int .i64 0, .int .i64 0, .string (⟨#[]⟩ : ByteArray), .int .i64 0, .int .i64 0, .int .i64 0, .int .i64 0, .int .i64 0, .string (⟨#[]⟩ : ByteArray), .string (⟨#[]⟩ : ByteArray), .string (⟨#[]⟩ : ByteArray), .string (⟨#[]⟩ : ByteArray)]) (blk_put (cs := #[.int .i64 0, .int .i64 0, .int .i64 0, .string (⟨#[]⟩ : ByteArray), .int .i64 0, .int .i64 0, .int .i64 0, .int .i64 0, .int .i64 0, .string (⟨#[]⟩ : ByteArray), .string (⟨#[]⟩ : ByteArray), .string (⟨#[]⟩ : ByteArray), .string (⟨#[]⟩ : ByteArray)]) (blk_put (cs := #[.int .i64 0, .int .i64 0, .int .i64 0, .string (⟨#[]⟩ : ByteArray), .int .i64 0, .int .i64 0, .int .i64 0, .int .i64 0, .int .i64 0, .string (⟨#[]⟩ : ByteArray), .string (⟨#[]⟩ : ByteArray), .string (⟨#[]⟩ : ByteArray), .string (⟨#[]⟩ : ByteArray)]) (blk_put (cs := #[.int .i64 0, .int .i64 0, .int .i64 0, .string (⟨#[]⟩ : ByteArray), .int .i64 0, .int .i64 0, .int .i64 0, .int .i64 0, .int .i64 0, .string (⟨#[]⟩ : ByteArray), .string (⟨#[]⟩ : ByteArray), .string (⟨#[]⟩ : ByteArray), .string (⟨#[]⟩ : ByteArray)]) (blk_put (cs := #[.int .i64 0, .int .i64 0, .int .i64 0, .string (⟨#[]⟩ : ByteArray), .int .i64 0, .int .i64 0, .int .i64 0, .int .i64 0, .int .i64 0, .string (⟨#[]⟩ : ByteArray), .string (⟨#[]⟩ : ByteArray), .string (⟨#[]⟩ : ByteArray), .string (⟨#[]⟩ : ByteArray)]) (blk_put (cs := #[.int .i64 0, .int .i64 0, .int .i64 0, .string (⟨#[]⟩ : ByteArray), .int .i64 0, .int .i64 0, .int .i64 0, .int .i64 0, .int .i64 0, .string (⟨#[]⟩ : ByteArray), .string (⟨#[]⟩ : ByteArray), .string (⟨#[]⟩ : ByteArray), .string (⟨#[]⟩ : ByteArray)]) (blk_put (cs := #[.int .i64 0, .int .i64 0, .int .i64 0, .string (⟨#[]⟩ : ByteArray), .int .i64 0, .int .i64 0, .int .i64 0, .int .i64 0, .int .i64 0, .string (⟨#[]⟩ : ByteArray), .string (⟨#[]⟩ : ByteArray), .string (⟨#[]⟩ : ByteArray), .string (⟨#[]⟩ : ByteArray)]) (blk_put (cs := #[.int .i64 0, .int .i64 0, .int .i64 0, .string (⟨#[]⟩ : ByteArray), .int .i64 0, .int .i64 0, .int .i64 0, .int .i64 0, .int .i64 0, .string (⟨#[]⟩ : ByteArray), .string (⟨#[]⟩ : ByteArray), .string (⟨#[]⟩ : ByteArray), .string (⟨#[]⟩ : ByteArray)]) (HZ1.out) 0 _ rfl) 1 _ rfl) 2 _ rfl) 3 _ rfl) 4 _ rfl) 5 _ rfl) 6 _ rfl) 7 _ rfl) 8 _ rfl) 9 _ rfl) 10 _ rfl) 11 _ rfl) 12 _ rfl) Tryz.underlying27 rfl (by kernel_rfl)) rfl ⟨rfl, ?_⟩
    exact (Below.setCell (Below.setCell (Below.setCell (Below.setCell (Below.setCell (Below.setCell (Below.setCell (Below.setCell (Below.setCell (Below.setCell (Below.setCell (Below.setCell (Below.setCell HB1.out (p := ⟨w.heap.size, 0, none⟩) (by first | exact Nat.le_refl _ | exact Nat.le_succ _) _) (p := ⟨w.heap.size, 1, none⟩) (by first | exact Nat.le_refl _ | exact Nat.le_succ _) _) (p := ⟨w.heap.size, 2, none⟩) (by first | exact Nat.le_refl _ | exact Nat.le_succ _) _) (p := ⟨w.heap.size, 3, none⟩) (by first | exact Nat.le_refl _ | exact Nat.le_succ _) _) (p := ⟨w.heap.size, 4, none⟩) (by first | exact Nat.le_refl _ | exact Nat.le_succ _) _) (p := ⟨w.heap.size, 5, none⟩) (by first | exact Nat.le_refl _ | exact Nat.le_succ _) _) (p := ⟨w.heap.size, 6, none⟩) (by first | exact Nat.le_refl _ | exact Nat.le_succ _) _) (p := ⟨w.heap.size, 7, none⟩) (by first | exact Nat.le_refl _ | exact Nat.le_succ _) _) (p := ⟨w.heap.size, 8, none⟩) (by first | exact Nat.le_refl _ | exact Nat.le_succ _) _) (p := ⟨w.heap.size, 9, none⟩) (by first | exact Nat.le_refl _ | exact Nat.le_succ _) _) (p := ⟨w.heap.size, 10, none⟩) (by first | exact Nat.le_refl _ | exact Nat.le_succ _) _) (p := ⟨w.heap.size, 11, none⟩) (by first | exact Nat.le_refl _ | exact Nat.le_succ _) _) (p := ⟨w.heap.size, 12, none⟩) (by first | exact Nat.le_refl _ | exact Nat.le_succ _) _)
  rw [if_pos c2] at h
  obtain ⟨bd, hC, h⟩ := Option.bind_eq_some_iff.1 h
  have HL10 := Aside0.mk c2
  obtain ⟨l6, hl6⟩ : ∃ y, y = l.drop 6 := ⟨_, rfl⟩
  have HL6 := Aside0.mk hl6
  rw [← hl6] at hC
  have HC := Aside0.mk hC
  clear hC c2 hl6
  cases bd with
  | true =>
    rw [if_pos rfl] at h
    obtain rfl := Option.some.inj h
    clear h
    go_enter Tryz.func13, Tryz.ntmps13
    go_wp2_with (first | (go_at_call 45; refine (words_Fields.calls k a0 l _ _ HF.out).mono ?_; rintro e w1 ⟨v0, rfl, ho, hb⟩; have HB1 := Aside0.mk (below_step HBA.out hb); have hZ1 := blk_below HZ.out hb; obtain ⟨gL, cap, rfl, hcap, ⟨cur, hcur⟩, hRC, hcs⟩ := strsT ho HL10.out (by omega); obtain ⟨i0, hi0, _, hsz0, _⟩ := info_parts info9; obtain ⟨A6, hA6⟩ : ∃ A1, A1 = (if cap = 6 then (some ⟨gL, 0, none⟩ : Option Addr) else (some ⟨gL, 0, none⟩ : Option Addr).map (·.add (6 * 1))) := ⟨_, rfl⟩; have hl6n : l6.length = 4 := (by rw [HL6.out, List.length_drop, HL10.out]); have hcutB : ∀ W : World, (Instr.slice 85 (.slice (some ⟨gL, 0, none⟩) 10 cap) (some (.int .i64 6)) none none).run Tryz.prog W = .ok (.slice A6 l6.length (cap - 6)) W := (by intro W; rw [hA6, hl6n]; exact cut_from (P := Tryz.prog) 85 9 .i64 Tryz.underlying85 hi0 1 hsz0 (some ⟨gL, 0, none⟩) 10 cap 6 (by decide) (by decide) W); have HR6 := Aside0.mk (show Kd.C Kd.string w1 A6 l6.length l6 from by rw [hA6, HL6.out]; exact Kd.C_drop (m := 6) (c := cap) hRC (by rw [HL10.out]; decide) (by rw [HL10.out]; exact hcap)); have HC6 := Aside0.mk (show l6.length ≤ cap - 6 from by omega); have HCS := Aside0.mk hcs; have HCUR := Aside0.mk hcur; have HZ1 := Aside0.mk hZ1; clear hA6 hl6n hcs hcur hRC hcap hsz0 hi0 hb ho hZ1) | (go_at_call 46; refine (slices_ContainsFunc_string_string.calls k A6 (cap - 6) l6 true _ HR6.out HC6.out HC.out).mono ?_; rintro e w2 ⟨rfl, hd2⟩; have hb2 := hd2.below; have HB2 := Aside0.mk (below_step HB1.out hb2); have hZ2 := blk_below HZ1.out hb2; have hfc0 : w2.cell? ⟨w.heap.size, 0, none⟩ = some (.int .i64 0) := blk_cell hZ2 0; have hf0 : w2.frozen? ⟨w.heap.size, 0, none⟩ = false := blk_frozen hZ2 0; have hfc1 : w2.cell? ⟨w.heap.size, 1, none⟩ = some (.int .i64 0) := blk_cell hZ2 1; have hf1 : w2.frozen? ⟨w.heap.size, 1, none⟩ = false := blk_frozen hZ2 1; have hfc2 : w2.cell? ⟨w.heap.size, 2, none⟩ = some (.int .i64 0) := blk_cell hZ2 2; have hf2 : w2.frozen? ⟨w.heap.size, 2, none⟩ = false := blk_frozen hZ2 2; have hfc3 : w2.cell? ⟨w.heap.size, 3, none⟩ = some (.string (⟨#[]⟩ : ByteArray)) := blk_cell hZ2 3; have hf3 : w2.frozen? ⟨w.heap.size, 3, none⟩ = false := blk_frozen hZ2 3; have hfc4 : w2.cell? ⟨w.heap.size, 4, none⟩ = some (.int .i64 0) := blk_cell hZ2 4; have hf4 : w2.frozen? ⟨w.heap.size, 4, none⟩ = false := blk_frozen hZ2 4; have hfc5 : w2.cell? ⟨w.heap.size, 5, none⟩ = some (.int .i64 0) := blk_cell hZ2 5; have hf5 : w2.frozen? ⟨w.heap.size, 5, none⟩ = false := blk_frozen hZ2 5; have hfc6 : w2.cell? ⟨w.heap.size, 6, none⟩ = some (.int .i64 0) := blk_cell hZ2 6; have hf6 : w2.frozen? ⟨w.heap.size, 6, none⟩ = false := blk_frozen hZ2 6; have hfc7 : w2.cell? ⟨w.heap.size, 7, none⟩ = some (.int .i64 0) := blk_cell hZ2 7; have hf7 : w2.frozen? ⟨w.heap.size, 7, none⟩ = false := blk_frozen hZ2 7; have hfc8 : w2.cell? ⟨w.heap.size, 8, none⟩ = some (.int .i64 0) := blk_cell hZ2 8; have hf8 : w2.frozen? ⟨w.heap.size, 8, none⟩ = false := blk_frozen hZ2 8; have hfc9 : w2.cell? ⟨w.heap.size, 9, none⟩ = some (.string (⟨#[]⟩ : ByteArray)) := blk_cell hZ2 9; have hf9 : w2.frozen? ⟨w.heap.size, 9, none⟩ = false := blk_frozen hZ2 9; have hfc10 : w2.cell? ⟨w.heap.size, 10, none⟩ = some (.string (⟨#[]⟩ : ByteArray)) := blk_cell hZ2 10; have hf10 : w2.frozen? ⟨w.heap.size, 10, none⟩ = false := blk_frozen hZ2 10; have hfc11 : w2.cell? ⟨w.heap.size, 11, none⟩ = some (.string (⟨#[]⟩ : ByteArray)) := blk_cell hZ2 11; have hf11 : w2.frozen? ⟨w.heap.size, 11, none⟩ = false := blk_frozen hZ2 11; have hfc12 : w2.cell? ⟨w.heap.size, 12, none⟩ = some (.string (⟨#[]⟩ : ByteArray)) := blk_cell hZ2 12; have hf12 : w2.frozen? ⟨w.heap.size, 12, none⟩ = false := blk_frozen hZ2 12; have HZ2 := Aside0.mk hZ2; clear hb2 hd2 hZ2))
    refine bodyPost_ret (results_ct rfl _ _ w.heap.size 27 #[.int .i64 0, .int .i64 0, .int .i64 0, .string (⟨#[]⟩ : ByteArray), .int .i64 0, .int .i64 0, .int .i64 0, .int .i64 0, .int .i64 0, .string (⟨#[]⟩ : ByteArray), .string (⟨#[]⟩ : ByteArray), .string (⟨#[]⟩ : ByteArray), .string (⟨#[]⟩ : ByteArray)] (0, 0) _ rfl (blk_put (cs := #[.int .i64 0, .int .i64 0, .int .i64 0, .string (⟨#[]⟩ : ByteArray), .int .i64 0, .int .i64 0, .int .i64 0, .int .i64 0, .int .i64 0, .string (⟨#[]⟩ : ByteArray), .string (⟨#[]⟩ : ByteArray), .string (⟨#[]⟩ : ByteArray), .string (⟨#[]⟩ : ByteArray)]) (blk_put (cs := #[.int .i64 0, .int .i64 0, .int .i64 0, .string (⟨#[]⟩ : ByteArray), .int .i64 0, .int .i64 0, .int .i64 0, .int .i64 0, .int .i64 0, .string (⟨#[]⟩ : ByteArray), .string (⟨#[]⟩ : ByteArray), .string (⟨#[]⟩ : ByteArray), .string (⟨#[]⟩ : ByteArray)]) (blk_put (cs := #[.int .i64 0, .int .i64 0, .int .i64 0, .string (⟨#[]⟩ : ByteArray), .int .i64 0, .int .i64 0, .int .i64 0, .int .i64 0, .int .i64 0, .string (⟨#[]⟩ : ByteArray), .string (⟨#[]⟩ : ByteArray), .string (⟨#[]⟩ : ByteArray), .string (⟨#[]⟩ : ByteArray)]) (blk_put (cs := #[.int .i64 0, .int .i64 0, .int .i64 0, .string (⟨#[]⟩ : ByteArray), .int .i64 0, .int .i64 0, .int .i64 0, .int .i64 0, .int .i64 0, .string (⟨#[]⟩ : ByteArray), .string (⟨#[]⟩ : ByteArray), .string (⟨#[]⟩ : ByteArray), .string (⟨#[]⟩ : ByteArray)]) (blk_put (cs := #[.int .i64 0, .int .i64 0, .int .i64 0, .string (⟨#[]⟩ : ByteArray), .int .i64 0, .int .i64 0, .int .i64 0, .int .i64 0, .int .i64 0, .string (⟨#[]⟩ : ByteArray), .string (⟨#[]⟩ : ByteArray), .string (⟨#[]⟩ : ByteArray), .string (⟨#[]⟩ : ByteArray)]) (blk_put (cs := #[.int .i64 0, .int .i64 0, .int .i64 0, .string (⟨#[]⟩ : ByteArray), .int .i64 0, .int .i64 0, .int .i64 0, .int .i64 0, .int .i64 0, .string (⟨#[]⟩ : ByteArray), .string (⟨#[]⟩ : ByteArray), .string (⟨#[]⟩ : ByteArray), .string (⟨#[]⟩ : ByteArray)]) (blk_put (cs := #[.int .i64 0, .int .i64 0, .int .i64 0, .string (⟨#[]⟩ : ByteArray), .int .i64 0, .int .i64 0, .int .i64 0, .int .i64 0, .int .i64 0, .string (⟨#[]⟩ : ByteArray), .string (⟨#[]⟩ : ByteArray), .string (⟨#[]⟩ : ByteArray), .string (⟨#[]⟩ : ByteArray)]) (blk_put (cs := #[.int .i64 0, .int .i64 0, .int .i64 0, .string (⟨#[]⟩ : ByteArray), .int .i64 0, .int .i64 0, .int .i64 0, .int .i64 0, .int .i64 0, .string (⟨#[]⟩ : ByteArray), .string (⟨#[]⟩ : ByteArray), .string (⟨#[]⟩ : ByteArray), .string (⟨#[]⟩ : ByteArray)]) (blk_put (cs := #[.int .i64 0, .int .i64 0, .int .i64 0, .string (⟨#[]⟩ : ByteArray), .int .i64 0, .int .i64 0, .int .i64 0, .int .i64 0, .int .i64 0, .string (⟨#[]⟩ : ByteArray), .string (⟨#[]⟩ : ByteArray), .string (⟨#[]⟩ : ByteArray), .string (⟨#[]⟩ : ByteArray)]) (blk_put (cs := #[.int .i64 0, .int .i64 0, .int .i64 0, .string (⟨#[]⟩ : ByteArray), .int .i64 0, .int .i64 0, .int .i64 0, .int .i64 0, .int .i64 0, .string (⟨#[]⟩ : ByteArray), .string (⟨#[]⟩ : ByteArray), .string (⟨#[]⟩ : ByteArray), .string (⟨#[]⟩ : ByteArray)]) (blk_put (cs := #[.int .i64 0, .int .i64 0, .int .i64 0, .string (⟨#[]⟩ : ByteArray), .int .i64 0, .int .i64 0, .int .i64 0, .int .i64 0, .int .i64 0, .string (⟨#[]⟩ : ByteArray), .string (⟨#[]⟩ : ByteArray), .string (⟨#[]⟩ : ByteArray), .string (⟨#[]⟩ : ByteArray)]) (blk_put (cs := #[.int .i64 0, .int .i64 0, .int .i64 0, .string (⟨#[]⟩ : ByteArray), .int .i64 0, .int .i64 0, .int .i64 0, .int .i64 0, .int .i64 0, .string (⟨#[]⟩ : ByteArray), .string (⟨#[]⟩ : ByteArray), .string (⟨#[]⟩ : ByteArray), .string (⟨#[]⟩ : ByteArray)]) (blk_put (cs := #[.int .i64 0, .int .i64 0, .int .i64 0, .string (⟨#[]⟩ : ByteArray), .int .i64 0, .int .i64 0, .int .i64 0, .int .i64 0, .int .i64 0, .string (⟨#[]⟩ : ByteArray), .string (⟨#[]⟩ : ByteArray), .string (⟨#[]⟩ : ByteArray), .string (⟨#[]⟩ : ByteArray)]) (HZ2.out) 0 _ rfl) 1 _ rfl) 2 _ rfl) 3 _ rfl) 4 _ rfl) 5 _ rfl) 6 _ rfl) 7 _ rfl) 8 _ rfl) 9 _ rfl) 10 _ rfl) 11 _ rfl) 12 _ rfl) Tryz.underlying27 rfl (by kernel_rfl)) rfl ⟨rfl, ?_⟩
    exact (Below.setCell (Below.setCell (Below.setCell (Below.setCell (Below.setCell (Below.setCell (Below.setCell (Below.setCell (Below.setCell (Below.setCell (Below.setCell (Below.setCell (Below.setCell HB2.out (p := ⟨w.heap.size, 0, none⟩) (by first | exact Nat.le_refl _ | exact Nat.le_succ _) _) (p := ⟨w.heap.size, 1, none⟩) (by first | exact Nat.le_refl _ | exact Nat.le_succ _) _) (p := ⟨w.heap.size, 2, none⟩) (by first | exact Nat.le_refl _ | exact Nat.le_succ _) _) (p := ⟨w.heap.size, 3, none⟩) (by first | exact Nat.le_refl _ | exact Nat.le_succ _) _) (p := ⟨w.heap.size, 4, none⟩) (by first | exact Nat.le_refl _ | exact Nat.le_succ _) _) (p := ⟨w.heap.size, 5, none⟩) (by first | exact Nat.le_refl _ | exact Nat.le_succ _) _) (p := ⟨w.heap.size, 6, none⟩) (by first | exact Nat.le_refl _ | exact Nat.le_succ _) _) (p := ⟨w.heap.size, 7, none⟩) (by first | exact Nat.le_refl _ | exact Nat.le_succ _) _) (p := ⟨w.heap.size, 8, none⟩) (by first | exact Nat.le_refl _ | exact Nat.le_succ _) _) (p := ⟨w.heap.size, 9, none⟩) (by first | exact Nat.le_refl _ | exact Nat.le_succ _) _) (p := ⟨w.heap.size, 10, none⟩) (by first | exact Nat.le_refl _ | exact Nat.le_succ _) _) (p := ⟨w.heap.size, 11, none⟩) (by first | exact Nat.le_refl _ | exact Nat.le_succ _) _) (p := ⟨w.heap.size, 12, none⟩) (by first | exact Nat.le_refl _ | exact Nat.le_succ _) _)
  | false =>
  rw [if_neg (by simp)] at h
  have HP0 := Aside0.mk h
  clear h
  go_enter Tryz.func13, Tryz.ntmps13
  go_wp2_with (first | (go_at_call 45; refine (words_Fields.calls k a0 l _ _ HF.out).mono ?_; rintro e w1 ⟨v0, rfl, ho, hb⟩; have HB1 := Aside0.mk (below_step HBA.out hb); have hZ1 := blk_below HZ.out hb; obtain ⟨gL, cap, rfl, hcap, ⟨cur, hcur⟩, hRC, hcs⟩ := strsT ho HL10.out (by omega); obtain ⟨i0, hi0, _, hsz0, _⟩ := info_parts info9; obtain ⟨A6, hA6⟩ : ∃ A1, A1 = (if cap = 6 then (some ⟨gL, 0, none⟩ : Option Addr) else (some ⟨gL, 0, none⟩ : Option Addr).map (·.add (6 * 1))) := ⟨_, rfl⟩; have hl6n : l6.length = 4 := (by rw [HL6.out, List.length_drop, HL10.out]); have hcutB : ∀ W : World, (Instr.slice 85 (.slice (some ⟨gL, 0, none⟩) 10 cap) (some (.int .i64 6)) none none).run Tryz.prog W = .ok (.slice A6 l6.length (cap - 6)) W := (by intro W; rw [hA6, hl6n]; exact cut_from (P := Tryz.prog) 85 9 .i64 Tryz.underlying85 hi0 1 hsz0 (some ⟨gL, 0, none⟩) 10 cap 6 (by decide) (by decide) W); have HR6 := Aside0.mk (show Kd.C Kd.string w1 A6 l6.length l6 from by rw [hA6, HL6.out]; exact Kd.C_drop (m := 6) (c := cap) hRC (by rw [HL10.out]; decide) (by rw [HL10.out]; exact hcap)); have HC6 := Aside0.mk (show l6.length ≤ cap - 6 from by omega); have HCS := Aside0.mk hcs; have HCUR := Aside0.mk hcur; have HZ1 := Aside0.mk hZ1; clear hA6 hl6n hcs hcur hRC hcap hsz0 hi0 hb ho hZ1) | (go_at_call 46; refine (slices_ContainsFunc_string_string.calls k A6 (cap - 6) l6 false _ HR6.out HC6.out HC.out).mono ?_; rintro e w2 ⟨rfl, hd2⟩; have hb2 := hd2.below; have HB2 := Aside0.mk (below_step HB1.out hb2); have HZ2 := Aside0.mk (blk_below HZ1.out hb2); have HB12 := Aside0.mk hb2; clear hb2 hd2))
  have hs6 : w2.drew.cell? ⟨gL, 6, none⟩ = some (.string (rfS l 6)) := (HB12.out.cell (World.block_lt_of_cell? w1 _ (HCS.out 6 (by omega)))).trans (HCS.out 6 (by omega))
  have hs7 : w2.drew.cell? ⟨gL, 7, none⟩ = some (.string (rfS l 7)) := (HB12.out.cell (World.block_lt_of_cell? w1 _ (HCS.out 7 (by omega)))).trans (HCS.out 7 (by omega))
  have hs8 : w2.drew.cell? ⟨gL, 8, none⟩ = some (.string (rfS l 8)) := (HB12.out.cell (World.block_lt_of_cell? w1 _ (HCS.out 8 (by omega)))).trans (HCS.out 8 (by omega))
  have hs9 : w2.drew.cell? ⟨gL, 9, none⟩ = some (.string (rfS l 9)) := (HB12.out.cell (World.block_lt_of_cell? w1 _ (HCS.out 9 (by omega)))).trans (HCS.out 9 (by omega))
  have HBd := Aside0.mk (below_drew1 HB2.out)
  have HZd := Aside0.mk (blk_drew HZ2.out)
  have HK9 := Aside0.mk (KT.drew (KT.below (KT.refl 9 w1) HB12.out))
  refine start_ (n := 17) (S := fun w' => w'.cell? ⟨gL, 6, none⟩ = some (.string (rfS l 6)) ∧ w'.cell? ⟨gL, 7, none⟩ = some (.string (rfS l 7)) ∧ w'.cell? ⟨gL, 8, none⟩ = some (.string (rfS l 8)) ∧ w'.cell? ⟨gL, 9, none⟩ = some (.string (rfS l 9))) (ds := []) #[false, false, false, false, false, false, false, false, false, false, false, false, false, false, false, false, false] (by kernel_rfl) rfl rfl ⟨hs6, hs7, hs8, hs9⟩ (fun hHeld => ?_)
  refine with_tabW trp.tab6 trp.bits6 (fun HT_ HW_ => ?_)
  generalize w2.drew = wd at HBd HZd HK9 hs6 hs7 hs8 hs9 hHeld ⊢
  refine pure_ (i := 0) (N := some 29) (v := ?_) (a' := ?_) #[true, false, false, false, false, false, false, false, false, false, false, false, false, false, false, false, false] rfl rfl (any_of HT_.out (by kernel_rfl)) (fun _ _ _ h => h) (Or.inl ⟨by rfl, ?_⟩) ?_ ?_
  rotate_left
  · intro w'
    go_simp
    with_reducible rfl
  rotate_left
  · simp only [Act.put, List.setIfInBounds_toArray, List.set_cons_zero, List.set_cons_succ, i64_w, i32_w]
    rfl
  refine pure_ (i := 1) (N := some 30) (v := ?_) (a' := ?_) #[true, true, false, false, false, false, false, false, false, false, false, false, false, false, false, false, false] rfl rfl (any_of HT_.out (by kernel_rfl)) (fun _ _ _ h => h) (Or.inl ⟨by rfl, ?_⟩) ?_ ?_
  rotate_left
  · intro w'
    go_simp
    with_reducible rfl
  rotate_left
  · simp only [Act.put, List.setIfInBounds_toArray, List.set_cons_zero, List.set_cons_succ, i64_w, i32_w]
    rfl
  refine take_ (i := 2) (N := some 31) (v := ?_) (a' := ?_) #[true, true, true, false, false, false, false, false, false, false, false, false, false, false, false, false, false] rfl rfl (take_ofW HT_.out HW_.out (by kernel_rfl)) (fun _ _ _ h => h) (Or.inl ⟨by rfl, ?_⟩) hHeld ?_ ?_
  rotate_left
  · rintro w' ⟨s0, s1, s2, s3⟩
    go_simp
    with_reducible rfl
  rotate_left
  · simp only [Act.put, List.setIfInBounds_toArray, List.set_cons_zero, List.set_cons_succ, i64_w, i32_w]
    rfl
  refine pure_ (i := 3) (N := some 32) (v := ?_) (a' := ?_) #[true, true, true, true, false, false, false, false, false, false, false, false, false, false, false, false, false] rfl rfl (any_of HT_.out (by kernel_rfl)) (fun _ _ _ h => h) (Or.inl ⟨by rfl, ?_⟩) ?_ ?_
  rotate_left
  · intro w'
    go_simp
    with_reducible rfl
  rotate_left
  · simp only [Act.put, List.setIfInBounds_toArray, List.set_cons_zero, List.set_cons_succ, i64_w, i32_w]
    rfl
  refine pure_ (i := 4) (N := some 33) (v := ?_) (a' := ?_) #[true, true, true, true, true, false, false, false, false, false, false, false, false, false, false, false, false] rfl rfl (any_of HT_.out (by kernel_rfl)) (fun _ _ _ h => h) (Or.inl ⟨by rfl, ?_⟩) ?_ ?_
  rotate_left
  · intro w'
    go_simp
    with_reducible rfl
  rotate_left
  · simp only [Act.put, List.setIfInBounds_toArray, List.set_cons_zero, List.set_cons_succ, i64_w, i32_w]
    rfl
  refine take_ (i := 5) (N := some 34) (v := ?_) (a' := ?_) #[true, true, true, true, true, true, false, false, false, false, false, false, false, false, false, false, false] rfl rfl (take_ofW HT_.out HW_.out (by kernel_rfl)) (fun _ _ _ h => h) (Or.inl ⟨by rfl, ?_⟩) hHeld ?_ ?_
  rotate_left
  · rintro w' ⟨s0, s1, s2, s3⟩
    go_simp
    with_reducible rfl
  rotate_left
  · simp only [Act.put, List.setIfInBounds_toArray, List.set_cons_zero, List.set_cons_succ, i64_w, i32_w]
    rfl
  refine pure_ (i := 6) (N := some 35) (v := ?_) (a' := ?_) #[true, true, true, true, true, true, true, false, false, false, false, false, false, false, false, false, false] rfl rfl (any_of HT_.out (by kernel_rfl)) (fun _ _ _ h => h) (Or.inl ⟨by rfl, ?_⟩) ?_ ?_
  rotate_left
  · intro w'
    go_simp
    with_reducible rfl
  rotate_left
  · simp only [Act.put, List.setIfInBounds_toArray, List.set_cons_zero, List.set_cons_succ, i64_w, i32_w]
    rfl
  refine pure_ (i := 7) (N := some 36) (v := ?_) (a' := ?_) #[true, true, true, true, true, true, true, true, false, false, false, false, false, false, false, false, false] rfl rfl (any_of HT_.out (by kernel_rfl)) (fun _ _ _ h => h) (Or.inl ⟨by rfl, ?_⟩) ?_ ?_
  rotate_left
  · intro w'
    go_simp
    with_reducible rfl
  rotate_left
  · simp only [Act.put, List.setIfInBounds_toArray, List.set_cons_zero, List.set_cons_succ, i64_w, i32_w]
    rfl
  refine pure_ (i := 8) (N := some 37) (v := ?_) (a' := ?_) #[true, true, true, true, true, true, true, true, true, false, false, false, false, false, false, false, false] rfl rfl (any_of HT_.out (by kernel_rfl)) (fun _ _ _ h => h) (Or.inl ⟨by rfl, ?_⟩) ?_ ?_
  rotate_left
  · intro w'
    go_simp
    with_reducible rfl
  rotate_left
  · simp only [Act.put, List.setIfInBounds_toArray, List.set_cons_zero, List.set_cons_succ, i64_w, i32_w]
    rfl
  refine take_ (i := 9) (N := some 38) (v := ?_) (a' := ?_) #[true, true, true, true, true, true, true, true, true, true, false, false, false, false, false, false, false] rfl rfl (take_ofW HT_.out HW_.out (by kernel_rfl)) (fun _ _ _ h => h) (Or.inl ⟨by rfl, ?_⟩) hHeld ?_ ?_
  rotate_left
  · rintro w' ⟨s0, s1, s2, s3⟩
    go_simp
    with_reducible rfl
  rotate_left
  · simp only [Act.put, List.setIfInBounds_toArray, List.set_cons_zero, List.set_cons_succ, i64_w, i32_w]
    rfl
  refine pure_ (i := 10) (N := some 39) (v := ?_) (a' := ?_) #[true, true, true, true, true, true, true, true, true, true, true, false, false, false, false, false, false] rfl rfl (any_of HT_.out (by kernel_rfl)) (fun _ _ _ h => h) (Or.inl ⟨by rfl, ?_⟩) ?_ ?_
  rotate_left
  · intro w'
    go_simp
    with_reducible rfl
  rotate_left
  · simp only [Act.put, List.setIfInBounds_toArray, List.set_cons_zero, List.set_cons_succ, i64_w, i32_w]
    rfl
  refine pure_ (i := 11) (N := some 40) (v := ?_) (a' := ?_) #[true, true, true, true, true, true, true, true, true, true, true, true, false, false, false, false, false] rfl rfl (any_of HT_.out (by kernel_rfl)) (fun _ _ _ h => h) (Or.inl ⟨by rfl, ?_⟩) ?_ ?_
  rotate_left
  · intro w'
    go_simp
    with_reducible rfl
  rotate_left
  · simp only [Act.put, List.setIfInBounds_toArray, List.set_cons_zero, List.set_cons_succ, i64_w, i32_w]
    rfl
  refine take_ (i := 12) (N := some 41) (v := ?_) (a' := ?_) #[true, true, true, true, true, true, true, true, true, true, true, true, true, false, false, false, false] rfl rfl (take_ofW HT_.out HW_.out (by kernel_rfl)) (fun _ _ _ h => h) (Or.inl ⟨by rfl, ?_⟩) hHeld ?_ ?_
  rotate_left
  · rintro w' ⟨s0, s1, s2, s3⟩
    go_simp
    with_reducible rfl
  rotate_left
  · simp only [Act.put, List.setIfInBounds_toArray, List.set_cons_zero, List.set_cons_succ, i64_w, i32_w]
    rfl
  refine pure_ (i := 13) (N := some 42) (v := ?_) (a' := ?_) #[true, true, true, true, true, true, true, true, true, true, true, true, true, true, false, false, false] rfl rfl (any_of HT_.out (by kernel_rfl)) (fun _ _ _ h => h) (Or.inl ⟨by rfl, ?_⟩) ?_ ?_
  rotate_left
  · intro w'
    go_simp
    with_reducible rfl
  rotate_left
  · simp only [Act.put, List.setIfInBounds_toArray, List.set_cons_zero, List.set_cons_succ, i64_w, i32_w]
    rfl
  refine pure_ (i := 14) (N := some 43) (v := ?_) (a' := ?_) #[true, true, true, true, true, true, true, true, true, true, true, true, true, true, true, false, false] rfl rfl (any_of HT_.out (by kernel_rfl)) (fun _ _ _ h => h) (Or.inl ⟨by rfl, ?_⟩) ?_ ?_
  rotate_left
  · intro w'
    go_simp
    with_reducible rfl
  rotate_left
  · simp only [Act.put, List.setIfInBounds_toArray, List.set_cons_zero, List.set_cons_succ, i64_w, i32_w]
    rfl
  have HH2 := Aside0.mk (show ∀ o_, (wd.alloc o_).cell? ⟨gL, 6, none⟩ = some (.string (rfS l 6)) ∧ (wd.alloc o_).cell? ⟨gL, 7, none⟩ = some (.string (rfS l 7)) ∧ (wd.alloc o_).cell? ⟨gL, 8, none⟩ = some (.string (rfS l 8)) ∧ (wd.alloc o_).cell? ⟨gL, 9, none⟩ = some (.string (rfS l 9)) from fun o_ => by
    have al : ∀ {p : Addr} {v_ : Value}, wd.cell? p = some v_ → (wd.alloc o_).cell? p = some v_ := fun hp => ((below_alloc (Below.refl wd.heap.size wd) o_).cell (World.block_lt_of_cell? wd _ hp)).trans hp
    obtain ⟨q0, q1, q2, q3⟩ := hHeld
    exact ⟨al q0, al q1, al q2, al q3⟩)
  refine one_ (i := 15) (N := some 6) #[true, true, true, true, true, true, true, true, true, true, true, true, true, true, true, true, false] rfl rfl (one_of HT_.out (by kernel_rfl)) (by decide) (fun K hK => ?_)
  rw [if_pos (by rfl)]
  unfold Oper.wp
  go_simp
  refine hK.out _ _ (HH2.out _) (fun hHeld => ?_)
  clear hK K
  refine one_ (i := 16) (N := none) #[true, true, true, true, true, true, true, true, true, true, true, true, true, true, true, true, true] rfl rfl (one_of HT_.out (by kernel_rfl)) (by decide) (fun K hK => ?_)
  rw [if_pos (by rfl)]
  unfold Oper.wp
  go_simp
  refine hK.out _ _ (HH2.out _) (fun hHeld => ?_)
  clear hK K
  refine done_ (done_of HT_.out (by kernel_rfl)) ?_
  have HLT := Aside0.mk (show w.heap.size < wd.heap.size from (Array.getElem?_eq_some_iff.1 HZd.out).1)
  have HGn := Aside0.mk (show (wd.alloc (.cells #[.int .i64 0, .int .i64 0, .int .i64 0, .string (⟨#[]⟩ : ByteArray), .int .i64 0, .int .i64 0, .int .i64 0, .int .i64 0, .int .i64 0, .string (rfS l 6), .string (rfS l 7), .string (rfS l 8), .string (rfS l 9)] 27)).heap[wd.heap.size]? = some (.cells #[.int .i64 0, .int .i64 0, .int .i64 0, .string (⟨#[]⟩ : ByteArray), .int .i64 0, .int .i64 0, .int .i64 0, .int .i64 0, .int .i64 0, .string (rfS l 6), .string (rfS l 7), .string (rfS l 8), .string (rfS l 9)] 27 (0, 0)) from blk_new _ _)
  have HBg := Aside0.mk (below_alloc HBd.out (.cells #[.int .i64 0, .int .i64 0, .int .i64 0, .string (⟨#[]⟩ : ByteArray), .int .i64 0, .int .i64 0, .int .i64 0, .int .i64 0, .int .i64 0, .string (rfS l 6), .string (rfS l 7), .string (rfS l 8), .string (rfS l 9)] 27))
  have HZg := Aside0.mk (blk_alloc HZd.out (.cells #[.int .i64 0, .int .i64 0, .int .i64 0, .string (⟨#[]⟩ : ByteArray), .int .i64 0, .int .i64 0, .int .i64 0, .int .i64 0, .int .i64 0, .string (rfS l 6), .string (rfS l 7), .string (rfS l 8), .string (rfS l 9)] 27))
  have HK9g := Aside0.mk (KT.alloc HK9.out (.cells #[.int .i64 0, .int .i64 0, .int .i64 0, .string (⟨#[]⟩ : ByteArray), .int .i64 0, .int .i64 0, .int .i64 0, .int .i64 0, .int .i64 0, .string (rfS l 6), .string (rfS l 7), .string (rfS l 8), .string (rfS l 9)] 27))
  generalize wd.alloc (.cells #[.int .i64 0, .int .i64 0, .int .i64 0, .string (⟨#[]⟩ : ByteArray), .int .i64 0, .int .i64 0, .int .i64 0, .int .i64 0, .int .i64 0, .string (rfS l 6), .string (rfS l 7), .string (rfS l 8), .string (rfS l 9)] 27) = wg at HGn HBg HZg HK9g ⊢
  clear HH2 HT_ HW_ hHeld hs6 hs7 hs8 hs9 HBd HZd HK9
  generalize wd.heap.size = gt at HLT HGn ⊢
  go_wp2_with (first | (go_at_call 51; refine (number_calls gt 0 _).mono ?_; rintro e0 v0 ⟨b0, rfl, hn0, hw0⟩; have HN0 := Aside0.mk hn0; have HW0 := Aside0.mk hw0; clear hn0 hw0) | (go_at_call 51; refine (number_calls gt 1 _).mono ?_; rintro e1 v1 ⟨b1, rfl, hn1, hw1⟩; have HN1 := Aside0.mk hn1; have HW1 := Aside0.mk hw1; clear hn1 hw1) | (go_at_call 51; refine (number_calls gt 2 _).mono ?_; rintro e2 v2 ⟨b2, rfl, hn2, hw2⟩; have HN2 := Aside0.mk hn2; have HW2 := Aside0.mk hw2; clear hn2 hw2) | (go_at_call 51; refine (number_calls gt 7 _).mono ?_; rintro e4 v4 ⟨b4, rfl, hn4, hw4⟩; have HN4 := Aside0.mk hn4; have HW4 := Aside0.mk hw4; clear hn4 hw4) | (go_at_call 51; refine (number_calls gt 8 _).mono ?_; rintro e5 v5 ⟨b5, rfl, hn5, hw5⟩; have HN5 := Aside0.mk hn5; have HW5 := Aside0.mk hw5; clear hn5 hw5))
  have HX0 := Aside0.mk (blk_below (blk_below (blk_below (blk_below HN0.out HW1.out) HW2.out) HW4.out) HW5.out)
  have HX1 := Aside0.mk (blk_below (blk_below (blk_below HN1.out HW2.out) HW4.out) HW5.out)
  have HX2 := Aside0.mk (blk_below (blk_below HN2.out HW4.out) HW5.out)
  have HX4 := Aside0.mk (blk_below HN4.out HW5.out)
  have HX5 := Aside0.mk HN5.out
  have HBv := Aside0.mk (below_step (below_step (below_step (below_step HW0.out HW1.out) HW2.out) HW4.out) HW5.out)
  have HGS := Aside0.mk (show gt < v5.heap.size from (Array.getElem?_eq_some_iff.1 (blk_below HGn.out HBv.out)).1)
  go_loopg [58] 6 (fun kq v58 wr => ∃ (i : Nat) (t : S27), v58 = .int .i64 (i : Int) ∧ Aside0 (kq + i = 6) ∧ Aside0 (prAt i k l t = some p) ∧ Aside0 (wr.heap[gt]? = some (.cells #[.int .i64 t.f0, .int .i64 t.f1, .int .i64 t.f2, .string t.f3.f0, .int .i64 t.f3.f1, .int .i64 t.f3.f2, .int .i64 t.f3.f3, .int .i64 t.f4, .int .i64 t.f5, .string t.f6.f0, .string t.f6.f1, .string t.f7.f0, .string t.f7.f1] 27 (0, 0))) ∧ Aside0 (KT 94 v5 wr) ∧ Aside0 (wr.heap[v5.heap.size]? = some (.cells #[(.func (.func 111) #[] #[.pointer (some ⟨b0, 0, none⟩)]), (.func (.func 111) #[] #[.pointer (some ⟨b1, 0, none⟩)]), (.func (.func 111) #[] #[.pointer (some ⟨b2, 0, none⟩)]), (.func (.func 49) #[] #[.pointer (some ⟨gt, 0, none⟩)]), (.func (.func 111) #[] #[.pointer (some ⟨b4, 0, none⟩)]), (.func (.func 111) #[] #[.pointer (some ⟨b5, 0, none⟩)])] 92 (0, 0))) ∧ Aside0 (wr.heap[w.heap.size]? = some (.cells #[.int .i64 0, .int .i64 0, .int .i64 0, .string (⟨#[]⟩ : ByteArray), .int .i64 0, .int .i64 0, .int .i64 0, .int .i64 0, .int .i64 0, .string (⟨#[]⟩ : ByteArray), .string (⟨#[]⟩ : ByteArray), .string (⟨#[]⟩ : ByteArray), .string (⟨#[]⟩ : ByteArray)] 27 (0, 0))) ∧ Aside0 (KT 9 w1 wr) ∧ Aside0 (Below w.heap.size w wr))
  case atStart => exact ⟨0, t0T l, rfl, ⟨rfl⟩, HP0, ⟨blk_alloc (blk_below HGn.out HBv.out) _⟩, ⟨KT.alloc (KT.refl _ _) _⟩, ⟨blk_new _ _⟩, ⟨blk_alloc (blk_below HZg.out HBv.out) _⟩, ⟨KT.alloc (KT.below HK9g.out HBv.out) _⟩, ⟨below_alloc (below_step HBg.out HBv.out) _⟩⟩
  case round =>
    obtain ⟨i, t, rfl, HK, HP, HGr, HKP, HS, HZr, HKr, HBr⟩ := hrel
    have hi : i = 0 ∨ i = 1 ∨ i = 2 ∨ i = 3 ∨ i = 4 ∨ i = 5 ∨ i = 6 := by have := HK.out; omega
    rcases hi with rfl | rfl | rfl | rfl | rfl | rfl | rfl
    · obtain ⟨⟨x, e⟩, hq, hh⟩ := Option.bind_eq_some_iff.1 HP.out
      dsimp only at hh
      have hfn : wr.cell? ⟨v5.heap.size, 0, none⟩ = some (.func (.func 111) #[] #[.pointer (some ⟨b0, 0, none⟩)]) := blk_cell HS.out 0
      have hst : wr.cell? ⟨gL, 0, none⟩ = some (.string (rfS l 0)) := kt_cell HKr.out HCUR.out 0 (HCS.out 0 (by omega))
      have HQ := Aside0.mk hq
      clear hq
      have HBX := Aside0.mk (HKP.out _ _ HX0.out)
      by_cases c : e = 0
      · subst c
        rw [if_pos rfl] at hh
        have HH := Aside0.mk hh
        clear hh
        go_wp2_with (go_at_call 111; refine (num_lit k (rfS l 0) x 0 b0 gt 0 #[.int .i64 t.f0, .int .i64 t.f1, .int .i64 t.f2, .string t.f3.f0, .int .i64 t.f3.f1, .int .i64 t.f3.f2, .int .i64 t.f3.f3, .int .i64 t.f4, .int .i64 t.f5, .string t.f6.f0, .string t.f6.f1, .string t.f7.f0, .string t.f7.f1] t.f0 wr HQ.out HBX.out HGr.out rfl).mono ?_; rintro e6 w6 ⟨rfl, w7, hb7, rfl⟩; have HB7 := Aside0.mk hb7; clear hb7)
        go_roundg (gk - 1)
        case measure => have := HK.out; omega
        case rel => exact ⟨1, { t with f0 := x }, by go_num, ⟨by have := HK.out; omega⟩, HH, ⟨(blk_put (cs := #[.int .i64 t.f0, .int .i64 t.f1, .int .i64 t.f2, .string t.f3.f0, .int .i64 t.f3.f1, .int .i64 t.f3.f2, .int .i64 t.f3.f3, .int .i64 t.f4, .int .i64 t.f5, .string t.f6.f0, .string t.f6.f1, .string t.f7.f0, .string t.f7.f1]) (blk_below HGr.out HB7.out) 0 (.int .i64 x) rfl)⟩, ⟨(KT.setCell (KT.below HKP.out HB7.out) (blk_below HGr.out HB7.out) (by decide) (.int .i64 x))⟩, ⟨(blk_far (blk_below HS.out HB7.out) (Nat.ne_of_gt HGS.out) (.int .i64 x))⟩, ⟨(blk_far (blk_below HZr.out HB7.out) (Nat.ne_of_lt HLT.out) (.int .i64 x))⟩, ⟨(KT.setCell (KT.below HKr.out HB7.out) (blk_below HGr.out HB7.out) (by decide) (.int .i64 x))⟩, ⟨(Below.setCell (below_step HBr.out HB7.out) (p := ⟨gt, 0, none⟩) (Nat.le_of_lt HLT.out) (.int .i64 x))⟩⟩
      · rw [if_neg c] at hh
        obtain rfl := Option.some.inj hh
        have hz : (e != 0) = true := bne_iff_ne.2 c
        clear hh c
        go_wp2_with (go_at_call 111; refine (num_lit k (rfS l 0) x e b0 gt 0 #[.int .i64 t.f0, .int .i64 t.f1, .int .i64 t.f2, .string t.f3.f0, .int .i64 t.f3.f1, .int .i64 t.f3.f2, .int .i64 t.f3.f3, .int .i64 t.f4, .int .i64 t.f5, .string t.f6.f0, .string t.f6.f1, .string t.f7.f0, .string t.f7.f1] t.f0 wr HQ.out HBX.out HGr.out rfl).mono ?_; rintro e6 w6 ⟨rfl, w7, hb7, rfl⟩; have HB7 := Aside0.mk hb7; have hZ6 : (w7.setCell ⟨gt, 0, none⟩ (.int .i64 x)).heap[w.heap.size]? = some (.cells #[.int .i64 0, .int .i64 0, .int .i64 0, .string (⟨#[]⟩ : ByteArray), .int .i64 0, .int .i64 0, .int .i64 0, .int .i64 0, .int .i64 0, .string (⟨#[]⟩ : ByteArray), .string (⟨#[]⟩ : ByteArray), .string (⟨#[]⟩ : ByteArray), .string (⟨#[]⟩ : ByteArray)] 27 (0, 0)) := (blk_far (blk_below HZr.out hb7) (Nat.ne_of_lt HLT.out) (.int .i64 x)); have hfc0 : (w7.setCell ⟨gt, 0, none⟩ (.int .i64 x)).cell? ⟨w.heap.size, 0, none⟩ = some (.int .i64 0) := blk_cell hZ6 0; have hf0 : (w7.setCell ⟨gt, 0, none⟩ (.int .i64 x)).frozen? ⟨w.heap.size, 0, none⟩ = false := blk_frozen hZ6 0; have hfc1 : (w7.setCell ⟨gt, 0, none⟩ (.int .i64 x)).cell? ⟨w.heap.size, 1, none⟩ = some (.int .i64 0) := blk_cell hZ6 1; have hf1 : (w7.setCell ⟨gt, 0, none⟩ (.int .i64 x)).frozen? ⟨w.heap.size, 1, none⟩ = false := blk_frozen hZ6 1; have hfc2 : (w7.setCell ⟨gt, 0, none⟩ (.int .i64 x)).cell? ⟨w.heap.size, 2, none⟩ = some (.int .i64 0) := blk_cell hZ6 2; have hf2 : (w7.setCell ⟨gt, 0, none⟩ (.int .i64 x)).frozen? ⟨w.heap.size, 2, none⟩ = false := blk_frozen hZ6 2; have hfc3 : (w7.setCell ⟨gt, 0, none⟩ (.int .i64 x)).cell? ⟨w.heap.size, 3, none⟩ = some (.string (⟨#[]⟩ : ByteArray)) := blk_cell hZ6 3; have hf3 : (w7.setCell ⟨gt, 0, none⟩ (.int .i64 x)).frozen? ⟨w.heap.size, 3, none⟩ = false := blk_frozen hZ6 3; have hfc4 : (w7.setCell ⟨gt, 0, none⟩ (.int .i64 x)).cell? ⟨w.heap.size, 4, none⟩ = some (.int .i64 0) := blk_cell hZ6 4; have hf4 : (w7.setCell ⟨gt, 0, none⟩ (.int .i64 x)).frozen? ⟨w.heap.size, 4, none⟩ = false := blk_frozen hZ6 4; have hfc5 : (w7.setCell ⟨gt, 0, none⟩ (.int .i64 x)).cell? ⟨w.heap.size, 5, none⟩ = some (.int .i64 0) := blk_cell hZ6 5; have hf5 : (w7.setCell ⟨gt, 0, none⟩ (.int .i64 x)).frozen? ⟨w.heap.size, 5, none⟩ = false := blk_frozen hZ6 5; have hfc6 : (w7.setCell ⟨gt, 0, none⟩ (.int .i64 x)).cell? ⟨w.heap.size, 6, none⟩ = some (.int .i64 0) := blk_cell hZ6 6; have hf6 : (w7.setCell ⟨gt, 0, none⟩ (.int .i64 x)).frozen? ⟨w.heap.size, 6, none⟩ = false := blk_frozen hZ6 6; have hfc7 : (w7.setCell ⟨gt, 0, none⟩ (.int .i64 x)).cell? ⟨w.heap.size, 7, none⟩ = some (.int .i64 0) := blk_cell hZ6 7; have hf7 : (w7.setCell ⟨gt, 0, none⟩ (.int .i64 x)).frozen? ⟨w.heap.size, 7, none⟩ = false := blk_frozen hZ6 7; have hfc8 : (w7.setCell ⟨gt, 0, none⟩ (.int .i64 x)).cell? ⟨w.heap.size, 8, none⟩ = some (.int .i64 0) := blk_cell hZ6 8; have hf8 : (w7.setCell ⟨gt, 0, none⟩ (.int .i64 x)).frozen? ⟨w.heap.size, 8, none⟩ = false := blk_frozen hZ6 8; have hfc9 : (w7.setCell ⟨gt, 0, none⟩ (.int .i64 x)).cell? ⟨w.heap.size, 9, none⟩ = some (.string (⟨#[]⟩ : ByteArray)) := blk_cell hZ6 9; have hf9 : (w7.setCell ⟨gt, 0, none⟩ (.int .i64 x)).frozen? ⟨w.heap.size, 9, none⟩ = false := blk_frozen hZ6 9; have hfc10 : (w7.setCell ⟨gt, 0, none⟩ (.int .i64 x)).cell? ⟨w.heap.size, 10, none⟩ = some (.string (⟨#[]⟩ : ByteArray)) := blk_cell hZ6 10; have hf10 : (w7.setCell ⟨gt, 0, none⟩ (.int .i64 x)).frozen? ⟨w.heap.size, 10, none⟩ = false := blk_frozen hZ6 10; have hfc11 : (w7.setCell ⟨gt, 0, none⟩ (.int .i64 x)).cell? ⟨w.heap.size, 11, none⟩ = some (.string (⟨#[]⟩ : ByteArray)) := blk_cell hZ6 11; have hf11 : (w7.setCell ⟨gt, 0, none⟩ (.int .i64 x)).frozen? ⟨w.heap.size, 11, none⟩ = false := blk_frozen hZ6 11; have hfc12 : (w7.setCell ⟨gt, 0, none⟩ (.int .i64 x)).cell? ⟨w.heap.size, 12, none⟩ = some (.string (⟨#[]⟩ : ByteArray)) := blk_cell hZ6 12; have hf12 : (w7.setCell ⟨gt, 0, none⟩ (.int .i64 x)).frozen? ⟨w.heap.size, 12, none⟩ = false := blk_frozen hZ6 12; have HZ6 := Aside0.mk hZ6; clear hZ6; clear hb7)
        refine bodyPost_ret (results_ct rfl _ _ w.heap.size 27 #[.int .i64 0, .int .i64 0, .int .i64 0, .string (⟨#[]⟩ : ByteArray), .int .i64 0, .int .i64 0, .int .i64 0, .int .i64 0, .int .i64 0, .string (⟨#[]⟩ : ByteArray), .string (⟨#[]⟩ : ByteArray), .string (⟨#[]⟩ : ByteArray), .string (⟨#[]⟩ : ByteArray)] (0, 0) _ rfl (blk_put (cs := #[.int .i64 0, .int .i64 0, .int .i64 0, .string (⟨#[]⟩ : ByteArray), .int .i64 0, .int .i64 0, .int .i64 0, .int .i64 0, .int .i64 0, .string (⟨#[]⟩ : ByteArray), .string (⟨#[]⟩ : ByteArray), .string (⟨#[]⟩ : ByteArray), .string (⟨#[]⟩ : ByteArray)]) (blk_put (cs := #[.int .i64 0, .int .i64 0, .int .i64 0, .string (⟨#[]⟩ : ByteArray), .int .i64 0, .int .i64 0, .int .i64 0, .int .i64 0, .int .i64 0, .string (⟨#[]⟩ : ByteArray), .string (⟨#[]⟩ : ByteArray), .string (⟨#[]⟩ : ByteArray), .string (⟨#[]⟩ : ByteArray)]) (blk_put (cs := #[.int .i64 0, .int .i64 0, .int .i64 0, .string (⟨#[]⟩ : ByteArray), .int .i64 0, .int .i64 0, .int .i64 0, .int .i64 0, .int .i64 0, .string (⟨#[]⟩ : ByteArray), .string (⟨#[]⟩ : ByteArray), .string (⟨#[]⟩ : ByteArray), .string (⟨#[]⟩ : ByteArray)]) (blk_put (cs := #[.int .i64 0, .int .i64 0, .int .i64 0, .string (⟨#[]⟩ : ByteArray), .int .i64 0, .int .i64 0, .int .i64 0, .int .i64 0, .int .i64 0, .string (⟨#[]⟩ : ByteArray), .string (⟨#[]⟩ : ByteArray), .string (⟨#[]⟩ : ByteArray), .string (⟨#[]⟩ : ByteArray)]) (blk_put (cs := #[.int .i64 0, .int .i64 0, .int .i64 0, .string (⟨#[]⟩ : ByteArray), .int .i64 0, .int .i64 0, .int .i64 0, .int .i64 0, .int .i64 0, .string (⟨#[]⟩ : ByteArray), .string (⟨#[]⟩ : ByteArray), .string (⟨#[]⟩ : ByteArray), .string (⟨#[]⟩ : ByteArray)]) (blk_put (cs := #[.int .i64 0, .int .i64 0, .int .i64 0, .string (⟨#[]⟩ : ByteArray), .int .i64 0, .int .i64 0, .int .i64 0, .int .i64 0, .int .i64 0, .string (⟨#[]⟩ : ByteArray), .string (⟨#[]⟩ : ByteArray), .string (⟨#[]⟩ : ByteArray), .string (⟨#[]⟩ : ByteArray)]) (blk_put (cs := #[.int .i64 0, .int .i64 0, .int .i64 0, .string (⟨#[]⟩ : ByteArray), .int .i64 0, .int .i64 0, .int .i64 0, .int .i64 0, .int .i64 0, .string (⟨#[]⟩ : ByteArray), .string (⟨#[]⟩ : ByteArray), .string (⟨#[]⟩ : ByteArray), .string (⟨#[]⟩ : ByteArray)]) (blk_put (cs := #[.int .i64 0, .int .i64 0, .int .i64 0, .string (⟨#[]⟩ : ByteArray), .int .i64 0, .int .i64 0, .int .i64 0, .int .i64 0, .int .i64 0, .string (⟨#[]⟩ : ByteArray), .string (⟨#[]⟩ : ByteArray), .string (⟨#[]⟩ : ByteArray), .string (⟨#[]⟩ : ByteArray)]) (blk_put (cs := #[.int .i64 0, .int .i64 0, .int .i64 0, .string (⟨#[]⟩ : ByteArray), .int .i64 0, .int .i64 0, .int .i64 0, .int .i64 0, .int .i64 0, .string (⟨#[]⟩ : ByteArray), .string (⟨#[]⟩ : ByteArray), .string (⟨#[]⟩ : ByteArray), .string (⟨#[]⟩ : ByteArray)]) (blk_put (cs := #[.int .i64 0, .int .i64 0, .int .i64 0, .string (⟨#[]⟩ : ByteArray), .int .i64 0, .int .i64 0, .int .i64 0, .int .i64 0, .int .i64 0, .string (⟨#[]⟩ : ByteArray), .string (⟨#[]⟩ : ByteArray), .string (⟨#[]⟩ : ByteArray), .string (⟨#[]⟩ : ByteArray)]) (blk_put (cs := #[.int .i64 0, .int .i64 0, .int .i64 0, .string (⟨#[]⟩ : ByteArray), .int .i64 0, .int .i64 0, .int .i64 0, .int .i64 0, .int .i64 0, .string (⟨#[]⟩ : ByteArray), .string (⟨#[]⟩ : ByteArray), .string (⟨#[]⟩ : ByteArray), .string (⟨#[]⟩ : ByteArray)]) (blk_put (cs := #[.int .i64 0, .int .i64 0, .int .i64 0, .string (⟨#[]⟩ : ByteArray), .int .i64 0, .int .i64 0, .int .i64 0, .int .i64 0, .int .i64 0, .string (⟨#[]⟩ : ByteArray), .string (⟨#[]⟩ : ByteArray), .string (⟨#[]⟩ : ByteArray), .string (⟨#[]⟩ : ByteArray)]) (blk_put (cs := #[.int .i64 0, .int .i64 0, .int .i64 0, .string (⟨#[]⟩ : ByteArray), .int .i64 0, .int .i64 0, .int .i64 0, .int .i64 0, .int .i64 0, .string (⟨#[]⟩ : ByteArray), .string (⟨#[]⟩ : ByteArray), .string (⟨#[]⟩ : ByteArray), .string (⟨#[]⟩ : ByteArray)]) (HZ6.out) 0 _ rfl) 1 _ rfl) 2 _ rfl) 3 _ rfl) 4 _ rfl) 5 _ rfl) 6 _ rfl) 7 _ rfl) 8 _ rfl) 9 _ rfl) 10 _ rfl) 11 _ rfl) 12 _ rfl) Tryz.underlying27 rfl (by kernel_rfl)) rfl ⟨rfl, ?_⟩
        exact (Below.setCell (Below.setCell (Below.setCell (Below.setCell (Below.setCell (Below.setCell (Below.setCell (Below.setCell (Below.setCell (Below.setCell (Below.setCell (Below.setCell (Below.setCell (Below.setCell (below_step HBr.out HB7.out) (p := ⟨gt, 0, none⟩) (Nat.le_of_lt HLT.out) (.int .i64 x)) (p := ⟨w.heap.size, 0, none⟩) (by first | exact Nat.le_refl _ | exact Nat.le_succ _) _) (p := ⟨w.heap.size, 1, none⟩) (by first | exact Nat.le_refl _ | exact Nat.le_succ _) _) (p := ⟨w.heap.size, 2, none⟩) (by first | exact Nat.le_refl _ | exact Nat.le_succ _) _) (p := ⟨w.heap.size, 3, none⟩) (by first | exact Nat.le_refl _ | exact Nat.le_succ _) _) (p := ⟨w.heap.size, 4, none⟩) (by first | exact Nat.le_refl _ | exact Nat.le_succ _) _) (p := ⟨w.heap.size, 5, none⟩) (by first | exact Nat.le_refl _ | exact Nat.le_succ _) _) (p := ⟨w.heap.size, 6, none⟩) (by first | exact Nat.le_refl _ | exact Nat.le_succ _) _) (p := ⟨w.heap.size, 7, none⟩) (by first | exact Nat.le_refl _ | exact Nat.le_succ _) _) (p := ⟨w.heap.size, 8, none⟩) (by first | exact Nat.le_refl _ | exact Nat.le_succ _) _) (p := ⟨w.heap.size, 9, none⟩) (by first | exact Nat.le_refl _ | exact Nat.le_succ _) _) (p := ⟨w.heap.size, 10, none⟩) (by first | exact Nat.le_refl _ | exact Nat.le_succ _) _) (p := ⟨w.heap.size, 11, none⟩) (by first | exact Nat.le_refl _ | exact Nat.le_succ _) _) (p := ⟨w.heap.size, 12, none⟩) (by first | exact Nat.le_refl _ | exact Nat.le_succ _) _)
    · obtain ⟨⟨x, e⟩, hq, hh⟩ := Option.bind_eq_some_iff.1 HP.out
      dsimp only at hh
      have hfn : wr.cell? ⟨v5.heap.size, 1, none⟩ = some (.func (.func 111) #[] #[.pointer (some ⟨b1, 0, none⟩)]) := blk_cell HS.out 1
      have hst : wr.cell? ⟨gL, 1, none⟩ = some (.string (rfS l 1)) := kt_cell HKr.out HCUR.out 1 (HCS.out 1 (by omega))
      have HQ := Aside0.mk hq
      clear hq
      have HBX := Aside0.mk (HKP.out _ _ HX1.out)
      by_cases c : e = 0
      · subst c
        rw [if_pos rfl] at hh
        have HH := Aside0.mk hh
        clear hh
        go_wp2_with (go_at_call 111; refine (num_lit k (rfS l 1) x 0 b1 gt 1 #[.int .i64 t.f0, .int .i64 t.f1, .int .i64 t.f2, .string t.f3.f0, .int .i64 t.f3.f1, .int .i64 t.f3.f2, .int .i64 t.f3.f3, .int .i64 t.f4, .int .i64 t.f5, .string t.f6.f0, .string t.f6.f1, .string t.f7.f0, .string t.f7.f1] t.f1 wr HQ.out HBX.out HGr.out rfl).mono ?_; rintro e6 w6 ⟨rfl, w7, hb7, rfl⟩; have HB7 := Aside0.mk hb7; clear hb7)
        go_roundg (gk - 1)
        case measure => have := HK.out; omega
        case rel => exact ⟨2, { t with f1 := x }, by go_num, ⟨by have := HK.out; omega⟩, HH, ⟨(blk_put (cs := #[.int .i64 t.f0, .int .i64 t.f1, .int .i64 t.f2, .string t.f3.f0, .int .i64 t.f3.f1, .int .i64 t.f3.f2, .int .i64 t.f3.f3, .int .i64 t.f4, .int .i64 t.f5, .string t.f6.f0, .string t.f6.f1, .string t.f7.f0, .string t.f7.f1]) (blk_below HGr.out HB7.out) 1 (.int .i64 x) rfl)⟩, ⟨(KT.setCell (KT.below HKP.out HB7.out) (blk_below HGr.out HB7.out) (by decide) (.int .i64 x))⟩, ⟨(blk_far (blk_below HS.out HB7.out) (Nat.ne_of_gt HGS.out) (.int .i64 x))⟩, ⟨(blk_far (blk_below HZr.out HB7.out) (Nat.ne_of_lt HLT.out) (.int .i64 x))⟩, ⟨(KT.setCell (KT.below HKr.out HB7.out) (blk_below HGr.out HB7.out) (by decide) (.int .i64 x))⟩, ⟨(Below.setCell (below_step HBr.out HB7.out) (p := ⟨gt, 1, none⟩) (Nat.le_of_lt HLT.out) (.int .i64 x))⟩⟩
      · rw [if_neg c] at hh
        obtain rfl := Option.some.inj hh
        have hz : (e != 0) = true := bne_iff_ne.2 c
        clear hh c
        go_wp2_with (go_at_call 111; refine (num_lit k (rfS l 1) x e b1 gt 1 #[.int .i64 t.f0, .int .i64 t.f1, .int .i64 t.f2, .string t.f3.f0, .int .i64 t.f3.f1, .int .i64 t.f3.f2, .int .i64 t.f3.f3, .int .i64 t.f4, .int .i64 t.f5, .string t.f6.f0, .string t.f6.f1, .string t.f7.f0, .string t.f7.f1] t.f1 wr HQ.out HBX.out HGr.out rfl).mono ?_; rintro e6 w6 ⟨rfl, w7, hb7, rfl⟩; have HB7 := Aside0.mk hb7; have hZ6 : (w7.setCell ⟨gt, 1, none⟩ (.int .i64 x)).heap[w.heap.size]? = some (.cells #[.int .i64 0, .int .i64 0, .int .i64 0, .string (⟨#[]⟩ : ByteArray), .int .i64 0, .int .i64 0, .int .i64 0, .int .i64 0, .int .i64 0, .string (⟨#[]⟩ : ByteArray), .string (⟨#[]⟩ : ByteArray), .string (⟨#[]⟩ : ByteArray), .string (⟨#[]⟩ : ByteArray)] 27 (0, 0)) := (blk_far (blk_below HZr.out hb7) (Nat.ne_of_lt HLT.out) (.int .i64 x)); have hfc0 : (w7.setCell ⟨gt, 1, none⟩ (.int .i64 x)).cell? ⟨w.heap.size, 0, none⟩ = some (.int .i64 0) := blk_cell hZ6 0; have hf0 : (w7.setCell ⟨gt, 1, none⟩ (.int .i64 x)).frozen? ⟨w.heap.size, 0, none⟩ = false := blk_frozen hZ6 0; have hfc1 : (w7.setCell ⟨gt, 1, none⟩ (.int .i64 x)).cell? ⟨w.heap.size, 1, none⟩ = some (.int .i64 0) := blk_cell hZ6 1; have hf1 : (w7.setCell ⟨gt, 1, none⟩ (.int .i64 x)).frozen? ⟨w.heap.size, 1, none⟩ = false := blk_frozen hZ6 1; have hfc2 : (w7.setCell ⟨gt, 1, none⟩ (.int .i64 x)).cell? ⟨w.heap.size, 2, none⟩ = some (.int .i64 0) := blk_cell hZ6 2; have hf2 : (w7.setCell ⟨gt, 1, none⟩ (.int .i64 x)).frozen? ⟨w.heap.size, 2, none⟩ = false := blk_frozen hZ6 2; have hfc3 : (w7.setCell ⟨gt, 1, none⟩ (.int .i64 x)).cell? ⟨w.heap.size, 3, none⟩ = some (.string (⟨#[]⟩ : ByteArray)) := blk_cell hZ6 3; have hf3 : (w7.setCell ⟨gt, 1, none⟩ (.int .i64 x)).frozen? ⟨w.heap.size, 3, none⟩ = false := blk_frozen hZ6 3; have hfc4 : (w7.setCell ⟨gt, 1, none⟩ (.int .i64 x)).cell? ⟨w.heap.size, 4, none⟩ = some (.int .i64 0) := blk_cell hZ6 4; have hf4 : (w7.setCell ⟨gt, 1, none⟩ (.int .i64 x)).frozen? ⟨w.heap.size, 4, none⟩ = false := blk_frozen hZ6 4; have hfc5 : (w7.setCell ⟨gt, 1, none⟩ (.int .i64 x)).cell? ⟨w.heap.size, 5, none⟩ = some (.int .i64 0) := blk_cell hZ6 5; have hf5 : (w7.setCell ⟨gt, 1, none⟩ (.int .i64 x)).frozen? ⟨w.heap.size, 5, none⟩ = false := blk_frozen hZ6 5; have hfc6 : (w7.setCell ⟨gt, 1, none⟩ (.int .i64 x)).cell? ⟨w.heap.size, 6, none⟩ = some (.int .i64 0) := blk_cell hZ6 6; have hf6 : (w7.setCell ⟨gt, 1, none⟩ (.int .i64 x)).frozen? ⟨w.heap.size, 6, none⟩ = false := blk_frozen hZ6 6; have hfc7 : (w7.setCell ⟨gt, 1, none⟩ (.int .i64 x)).cell? ⟨w.heap.size, 7, none⟩ = some (.int .i64 0) := blk_cell hZ6 7; have hf7 : (w7.setCell ⟨gt, 1, none⟩ (.int .i64 x)).frozen? ⟨w.heap.size, 7, none⟩ = false := blk_frozen hZ6 7; have hfc8 : (w7.setCell ⟨gt, 1, none⟩ (.int .i64 x)).cell? ⟨w.heap.size, 8, none⟩ = some (.int .i64 0) := blk_cell hZ6 8; have hf8 : (w7.setCell ⟨gt, 1, none⟩ (.int .i64 x)).frozen? ⟨w.heap.size, 8, none⟩ = false := blk_frozen hZ6 8; have hfc9 : (w7.setCell ⟨gt, 1, none⟩ (.int .i64 x)).cell? ⟨w.heap.size, 9, none⟩ = some (.string (⟨#[]⟩ : ByteArray)) := blk_cell hZ6 9; have hf9 : (w7.setCell ⟨gt, 1, none⟩ (.int .i64 x)).frozen? ⟨w.heap.size, 9, none⟩ = false := blk_frozen hZ6 9; have hfc10 : (w7.setCell ⟨gt, 1, none⟩ (.int .i64 x)).cell? ⟨w.heap.size, 10, none⟩ = some (.string (⟨#[]⟩ : ByteArray)) := blk_cell hZ6 10; have hf10 : (w7.setCell ⟨gt, 1, none⟩ (.int .i64 x)).frozen? ⟨w.heap.size, 10, none⟩ = false := blk_frozen hZ6 10; have hfc11 : (w7.setCell ⟨gt, 1, none⟩ (.int .i64 x)).cell? ⟨w.heap.size, 11, none⟩ = some (.string (⟨#[]⟩ : ByteArray)) := blk_cell hZ6 11; have hf11 : (w7.setCell ⟨gt, 1, none⟩ (.int .i64 x)).frozen? ⟨w.heap.size, 11, none⟩ = false := blk_frozen hZ6 11; have hfc12 : (w7.setCell ⟨gt, 1, none⟩ (.int .i64 x)).cell? ⟨w.heap.size, 12, none⟩ = some (.string (⟨#[]⟩ : ByteArray)) := blk_cell hZ6 12; have hf12 : (w7.setCell ⟨gt, 1, none⟩ (.int .i64 x)).frozen? ⟨w.heap.size, 12, none⟩ = false := blk_frozen hZ6 12; have HZ6 := Aside0.mk hZ6; clear hZ6; clear hb7)
        refine bodyPost_ret (results_ct rfl _ _ w.heap.size 27 #[.int .i64 0, .int .i64 0, .int .i64 0, .string (⟨#[]⟩ : ByteArray), .int .i64 0, .int .i64 0, .int .i64 0, .int .i64 0, .int .i64 0, .string (⟨#[]⟩ : ByteArray), .string (⟨#[]⟩ : ByteArray), .string (⟨#[]⟩ : ByteArray), .string (⟨#[]⟩ : ByteArray)] (0, 0) _ rfl (blk_put (cs := #[.int .i64 0, .int .i64 0, .int .i64 0, .string (⟨#[]⟩ : ByteArray), .int .i64 0, .int .i64 0, .int .i64 0, .int .i64 0, .int .i64 0, .string (⟨#[]⟩ : ByteArray), .string (⟨#[]⟩ : ByteArray), .string (⟨#[]⟩ : ByteArray), .string (⟨#[]⟩ : ByteArray)]) (blk_put (cs := #[.int .i64 0, .int .i64 0, .int .i64 0, .string (⟨#[]⟩ : ByteArray), .int .i64 0, .int .i64 0, .int .i64 0, .int .i64 0, .int .i64 0, .string (⟨#[]⟩ : ByteArray), .string (⟨#[]⟩ : ByteArray), .string (⟨#[]⟩ : ByteArray), .string (⟨#[]⟩ : ByteArray)]) (blk_put (cs := #[.int .i64 0, .int .i64 0, .int .i64 0, .string (⟨#[]⟩ : ByteArray), .int .i64 0, .int .i64 0, .int .i64 0, .int .i64 0, .int .i64 0, .string (⟨#[]⟩ : ByteArray), .string (⟨#[]⟩ : ByteArray), .string (⟨#[]⟩ : ByteArray), .string (⟨#[]⟩ : ByteArray)]) (blk_put (cs := #[.int .i64 0, .int .i64 0, .int .i64 0, .string (⟨#[]⟩ : ByteArray), .int .i64 0, .int .i64 0, .int .i64 0, .int .i64 0, .int .i64 0, .string (⟨#[]⟩ : ByteArray), .string (⟨#[]⟩ : ByteArray), .string (⟨#[]⟩ : ByteArray), .string (⟨#[]⟩ : ByteArray)]) (blk_put (cs := #[.int .i64 0, .int .i64 0, .int .i64 0, .string (⟨#[]⟩ : ByteArray), .int .i64 0, .int .i64 0, .int .i64 0, .int .i64 0, .int .i64 0, .string (⟨#[]⟩ : ByteArray), .string (⟨#[]⟩ : ByteArray), .string (⟨#[]⟩ : ByteArray), .string (⟨#[]⟩ : ByteArray)]) (blk_put (cs := #[.int .i64 0, .int .i64 0, .int .i64 0, .string (⟨#[]⟩ : ByteArray), .int .i64 0, .int .i64 0, .int .i64 0, .int .i64 0, .int .i64 0, .string (⟨#[]⟩ : ByteArray), .string (⟨#[]⟩ : ByteArray), .string (⟨#[]⟩ : ByteArray), .string (⟨#[]⟩ : ByteArray)]) (blk_put (cs := #[.int .i64 0, .int .i64 0, .int .i64 0, .string (⟨#[]⟩ : ByteArray), .int .i64 0, .int .i64 0, .int .i64 0, .int .i64 0, .int .i64 0, .string (⟨#[]⟩ : ByteArray), .string (⟨#[]⟩ : ByteArray), .string (⟨#[]⟩ : ByteArray), .string (⟨#[]⟩ : ByteArray)]) (blk_put (cs := #[.int .i64 0, .int .i64 0, .int .i64 0, .string (⟨#[]⟩ : ByteArray), .int .i64 0, .int .i64 0, .int .i64 0, .int .i64 0, .int .i64 0, .string (⟨#[]⟩ : ByteArray), .string (⟨#[]⟩ : ByteArray), .string (⟨#[]⟩ : ByteArray), .string (⟨#[]⟩ : ByteArray)]) (blk_put (cs := #[.int .i64 0, .int .i64 0, .int .i64 0, .string (⟨#[]⟩ : ByteArray), .int .i64 0, .int .i64 0, .int .i64 0, .int .i64 0, .int .i64 0, .string (⟨#[]⟩ : ByteArray), .string (⟨#[]⟩ : ByteArray), .string (⟨#[]⟩ : ByteArray), .string (⟨#[]⟩ : ByteArray)]) (blk_put (cs := #[.int .i64 0, .int .i64 0, .int .i64 0, .string (⟨#[]⟩ : ByteArray), .int .i64 0, .int .i64 0, .int .i64 0, .int .i64 0, .int .i64 0, .string (⟨#[]⟩ : ByteArray), .string (⟨#[]⟩ : ByteArray), .string (⟨#[]⟩ : ByteArray), .string (⟨#[]⟩ : ByteArray)]) (blk_put (cs := #[.int .i64 0, .int .i64 0, .int .i64 0, .string (⟨#[]⟩ : ByteArray), .int .i64 0, .int .i64 0, .int .i64 0, .int .i64 0, .int .i64 0, .string (⟨#[]⟩ : ByteArray), .string (⟨#[]⟩ : ByteArray), .string (⟨#[]⟩ : ByteArray), .string (⟨#[]⟩ : ByteArray)]) (blk_put (cs := #[.int .i64 0, .int .i64 0, .int .i64 0, .string (⟨#[]⟩ : ByteArray), .int .i64 0, .int .i64 0, .int .i64 0, .int .i64 0, .int .i64 0, .string (⟨#[]⟩ : ByteArray), .string (⟨#[]⟩ : ByteArray), .string (⟨#[]⟩ : ByteArray), .string (⟨#[]⟩ : ByteArray)]) (blk_put (cs := #[.int .i64 0, .int .i64 0, .int .i64 0, .string (⟨#[]⟩ : ByteArray), .int .i64 0, .int .i64 0, .int .i64 0, .int .i64 0, .int .i64 0, .string (⟨#[]⟩ : ByteArray), .string (⟨#[]⟩ : ByteArray), .string (⟨#[]⟩ : ByteArray), .string (⟨#[]⟩ : ByteArray)]) (HZ6.out) 0 _ rfl) 1 _ rfl) 2 _ rfl) 3 _ rfl) 4 _ rfl) 5 _ rfl) 6 _ rfl) 7 _ rfl) 8 _ rfl) 9 _ rfl) 10 _ rfl) 11 _ rfl) 12 _ rfl) Tryz.underlying27 rfl (by kernel_rfl)) rfl ⟨rfl, ?_⟩
        exact (Below.setCell (Below.setCell (Below.setCell (Below.setCell (Below.setCell (Below.setCell (Below.setCell (Below.setCell (Below.setCell (Below.setCell (Below.setCell (Below.setCell (Below.setCell (Below.setCell (below_step HBr.out HB7.out) (p := ⟨gt, 1, none⟩) (Nat.le_of_lt HLT.out) (.int .i64 x)) (p := ⟨w.heap.size, 0, none⟩) (by first | exact Nat.le_refl _ | exact Nat.le_succ _) _) (p := ⟨w.heap.size, 1, none⟩) (by first | exact Nat.le_refl _ | exact Nat.le_succ _) _) (p := ⟨w.heap.size, 2, none⟩) (by first | exact Nat.le_refl _ | exact Nat.le_succ _) _) (p := ⟨w.heap.size, 3, none⟩) (by first | exact Nat.le_refl _ | exact Nat.le_succ _) _) (p := ⟨w.heap.size, 4, none⟩) (by first | exact Nat.le_refl _ | exact Nat.le_succ _) _) (p := ⟨w.heap.size, 5, none⟩) (by first | exact Nat.le_refl _ | exact Nat.le_succ _) _) (p := ⟨w.heap.size, 6, none⟩) (by first | exact Nat.le_refl _ | exact Nat.le_succ _) _) (p := ⟨w.heap.size, 7, none⟩) (by first | exact Nat.le_refl _ | exact Nat.le_succ _) _) (p := ⟨w.heap.size, 8, none⟩) (by first | exact Nat.le_refl _ | exact Nat.le_succ _) _) (p := ⟨w.heap.size, 9, none⟩) (by first | exact Nat.le_refl _ | exact Nat.le_succ _) _) (p := ⟨w.heap.size, 10, none⟩) (by first | exact Nat.le_refl _ | exact Nat.le_succ _) _) (p := ⟨w.heap.size, 11, none⟩) (by first | exact Nat.le_refl _ | exact Nat.le_succ _) _) (p := ⟨w.heap.size, 12, none⟩) (by first | exact Nat.le_refl _ | exact Nat.le_succ _) _)
    · obtain ⟨⟨x, e⟩, hq, hh⟩ := Option.bind_eq_some_iff.1 HP.out
      dsimp only at hh
      have hfn : wr.cell? ⟨v5.heap.size, 2, none⟩ = some (.func (.func 111) #[] #[.pointer (some ⟨b2, 0, none⟩)]) := blk_cell HS.out 2
      have hst : wr.cell? ⟨gL, 2, none⟩ = some (.string (rfS l 2)) := kt_cell HKr.out HCUR.out 2 (HCS.out 2 (by omega))
      have HQ := Aside0.mk hq
      clear hq
      have HBX := Aside0.mk (HKP.out _ _ HX2.out)
      by_cases c : e = 0
      · subst c
        rw [if_pos rfl] at hh
        have HH := Aside0.mk hh
        clear hh
        go_wp2_with (go_at_call 111; refine (num_lit k (rfS l 2) x 0 b2 gt 2 #[.int .i64 t.f0, .int .i64 t.f1, .int .i64 t.f2, .string t.f3.f0, .int .i64 t.f3.f1, .int .i64 t.f3.f2, .int .i64 t.f3.f3, .int .i64 t.f4, .int .i64 t.f5, .string t.f6.f0, .string t.f6.f1, .string t.f7.f0, .string t.f7.f1] t.f2 wr HQ.out HBX.out HGr.out rfl).mono ?_; rintro e6 w6 ⟨rfl, w7, hb7, rfl⟩; have HB7 := Aside0.mk hb7; clear hb7)
        go_roundg (gk - 1)
        case measure => have := HK.out; omega
        case rel => exact ⟨3, { t with f2 := x }, by go_num, ⟨by have := HK.out; omega⟩, HH, ⟨(blk_put (cs := #[.int .i64 t.f0, .int .i64 t.f1, .int .i64 t.f2, .string t.f3.f0, .int .i64 t.f3.f1, .int .i64 t.f3.f2, .int .i64 t.f3.f3, .int .i64 t.f4, .int .i64 t.f5, .string t.f6.f0, .string t.f6.f1, .string t.f7.f0, .string t.f7.f1]) (blk_below HGr.out HB7.out) 2 (.int .i64 x) rfl)⟩, ⟨(KT.setCell (KT.below HKP.out HB7.out) (blk_below HGr.out HB7.out) (by decide) (.int .i64 x))⟩, ⟨(blk_far (blk_below HS.out HB7.out) (Nat.ne_of_gt HGS.out) (.int .i64 x))⟩, ⟨(blk_far (blk_below HZr.out HB7.out) (Nat.ne_of_lt HLT.out) (.int .i64 x))⟩, ⟨(KT.setCell (KT.below HKr.out HB7.out) (blk_below HGr.out HB7.out) (by decide) (.int .i64 x))⟩, ⟨(Below.setCell (below_step HBr.out HB7.out) (p := ⟨gt, 2, none⟩) (Nat.le_of_lt HLT.out) (.int .i64 x))⟩⟩
      · rw [if_neg c] at hh
        obtain rfl := Option.some.inj hh
        have hz : (e != 0) = true := bne_iff_ne.2 c
        clear hh c
        go_wp2_with (go_at_call 111; refine (num_lit k (rfS l 2) x e b2 gt 2 #[.int .i64 t.f0, .int .i64 t.f1, .int .i64 t.f2, .string t.f3.f0, .int .i64 t.f3.f1, .int .i64 t.f3.f2, .int .i64 t.f3.f3, .int .i64 t.f4, .int .i64 t.f5, .string t.f6.f0, .string t.f6.f1, .string t.f7.f0, .string t.f7.f1] t.f2 wr HQ.out HBX.out HGr.out rfl).mono ?_; rintro e6 w6 ⟨rfl, w7, hb7, rfl⟩; have HB7 := Aside0.mk hb7; have hZ6 : (w7.setCell ⟨gt, 2, none⟩ (.int .i64 x)).heap[w.heap.size]? = some (.cells #[.int .i64 0, .int .i64 0, .int .i64 0, .string (⟨#[]⟩ : ByteArray), .int .i64 0, .int .i64 0, .int .i64 0, .int .i64 0, .int .i64 0, .string (⟨#[]⟩ : ByteArray), .string (⟨#[]⟩ : ByteArray), .string (⟨#[]⟩ : ByteArray), .string (⟨#[]⟩ : ByteArray)] 27 (0, 0)) := (blk_far (blk_below HZr.out hb7) (Nat.ne_of_lt HLT.out) (.int .i64 x)); have hfc0 : (w7.setCell ⟨gt, 2, none⟩ (.int .i64 x)).cell? ⟨w.heap.size, 0, none⟩ = some (.int .i64 0) := blk_cell hZ6 0; have hf0 : (w7.setCell ⟨gt, 2, none⟩ (.int .i64 x)).frozen? ⟨w.heap.size, 0, none⟩ = false := blk_frozen hZ6 0; have hfc1 : (w7.setCell ⟨gt, 2, none⟩ (.int .i64 x)).cell? ⟨w.heap.size, 1, none⟩ = some (.int .i64 0) := blk_cell hZ6 1; have hf1 : (w7.setCell ⟨gt, 2, none⟩ (.int .i64 x)).frozen? ⟨w.heap.size, 1, none⟩ = false := blk_frozen hZ6 1; have hfc2 : (w7.setCell ⟨gt, 2, none⟩ (.int .i64 x)).cell? ⟨w.heap.size, 2, none⟩ = some (.int .i64 0) := blk_cell hZ6 2; have hf2 : (w7.setCell ⟨gt, 2, none⟩ (.int .i64 x)).frozen? ⟨w.heap.size, 2, none⟩ = false := blk_frozen hZ6 2; have hfc3 : (w7.setCell ⟨gt, 2, none⟩ (.int .i64 x)).cell? ⟨w.heap.size, 3, none⟩ = some (.string (⟨#[]⟩ : ByteArray)) := blk_cell hZ6 3; have hf3 : (w7.setCell ⟨gt, 2, none⟩ (.int .i64 x)).frozen? ⟨w.heap.size, 3, none⟩ = false := blk_frozen hZ6 3; have hfc4 : (w7.setCell ⟨gt, 2, none⟩ (.int .i64 x)).cell? ⟨w.heap.size, 4, none⟩ = some (.int .i64 0) := blk_cell hZ6 4; have hf4 : (w7.setCell ⟨gt, 2, none⟩ (.int .i64 x)).frozen? ⟨w.heap.size, 4, none⟩ = false := blk_frozen hZ6 4; have hfc5 : (w7.setCell ⟨gt, 2, none⟩ (.int .i64 x)).cell? ⟨w.heap.size, 5, none⟩ = some (.int .i64 0) := blk_cell hZ6 5; have hf5 : (w7.setCell ⟨gt, 2, none⟩ (.int .i64 x)).frozen? ⟨w.heap.size, 5, none⟩ = false := blk_frozen hZ6 5; have hfc6 : (w7.setCell ⟨gt, 2, none⟩ (.int .i64 x)).cell? ⟨w.heap.size, 6, none⟩ = some (.int .i64 0) := blk_cell hZ6 6; have hf6 : (w7.setCell ⟨gt, 2, none⟩ (.int .i64 x)).frozen? ⟨w.heap.size, 6, none⟩ = false := blk_frozen hZ6 6; have hfc7 : (w7.setCell ⟨gt, 2, none⟩ (.int .i64 x)).cell? ⟨w.heap.size, 7, none⟩ = some (.int .i64 0) := blk_cell hZ6 7; have hf7 : (w7.setCell ⟨gt, 2, none⟩ (.int .i64 x)).frozen? ⟨w.heap.size, 7, none⟩ = false := blk_frozen hZ6 7; have hfc8 : (w7.setCell ⟨gt, 2, none⟩ (.int .i64 x)).cell? ⟨w.heap.size, 8, none⟩ = some (.int .i64 0) := blk_cell hZ6 8; have hf8 : (w7.setCell ⟨gt, 2, none⟩ (.int .i64 x)).frozen? ⟨w.heap.size, 8, none⟩ = false := blk_frozen hZ6 8; have hfc9 : (w7.setCell ⟨gt, 2, none⟩ (.int .i64 x)).cell? ⟨w.heap.size, 9, none⟩ = some (.string (⟨#[]⟩ : ByteArray)) := blk_cell hZ6 9; have hf9 : (w7.setCell ⟨gt, 2, none⟩ (.int .i64 x)).frozen? ⟨w.heap.size, 9, none⟩ = false := blk_frozen hZ6 9; have hfc10 : (w7.setCell ⟨gt, 2, none⟩ (.int .i64 x)).cell? ⟨w.heap.size, 10, none⟩ = some (.string (⟨#[]⟩ : ByteArray)) := blk_cell hZ6 10; have hf10 : (w7.setCell ⟨gt, 2, none⟩ (.int .i64 x)).frozen? ⟨w.heap.size, 10, none⟩ = false := blk_frozen hZ6 10; have hfc11 : (w7.setCell ⟨gt, 2, none⟩ (.int .i64 x)).cell? ⟨w.heap.size, 11, none⟩ = some (.string (⟨#[]⟩ : ByteArray)) := blk_cell hZ6 11; have hf11 : (w7.setCell ⟨gt, 2, none⟩ (.int .i64 x)).frozen? ⟨w.heap.size, 11, none⟩ = false := blk_frozen hZ6 11; have hfc12 : (w7.setCell ⟨gt, 2, none⟩ (.int .i64 x)).cell? ⟨w.heap.size, 12, none⟩ = some (.string (⟨#[]⟩ : ByteArray)) := blk_cell hZ6 12; have hf12 : (w7.setCell ⟨gt, 2, none⟩ (.int .i64 x)).frozen? ⟨w.heap.size, 12, none⟩ = false := blk_frozen hZ6 12; have HZ6 := Aside0.mk hZ6; clear hZ6; clear hb7)
        refine bodyPost_ret (results_ct rfl _ _ w.heap.size 27 #[.int .i64 0, .int .i64 0, .int .i64 0, .string (⟨#[]⟩ : ByteArray), .int .i64 0, .int .i64 0, .int .i64 0, .int .i64 0, .int .i64 0, .string (⟨#[]⟩ : ByteArray), .string (⟨#[]⟩ : ByteArray), .string (⟨#[]⟩ : ByteArray), .string (⟨#[]⟩ : ByteArray)] (0, 0) _ rfl (blk_put (cs := #[.int .i64 0, .int .i64 0, .int .i64 0, .string (⟨#[]⟩ : ByteArray), .int .i64 0, .int .i64 0, .int .i64 0, .int .i64 0, .int .i64 0, .string (⟨#[]⟩ : ByteArray), .string (⟨#[]⟩ : ByteArray), .string (⟨#[]⟩ : ByteArray), .string (⟨#[]⟩ : ByteArray)]) (blk_put (cs := #[.int .i64 0, .int .i64 0, .int .i64 0, .string (⟨#[]⟩ : ByteArray), .int .i64 0, .int .i64 0, .int .i64 0, .int .i64 0, .int .i64 0, .string (⟨#[]⟩ : ByteArray), .string (⟨#[]⟩ : ByteArray), .string (⟨#[]⟩ : ByteArray), .string (⟨#[]⟩ : ByteArray)]) (blk_put (cs := #[.int .i64 0, .int .i64 0, .int .i64 0, .string (⟨#[]⟩ : ByteArray), .int .i64 0, .int .i64 0, .int .i64 0, .int .i64 0, .int .i64 0, .string (⟨#[]⟩ : ByteArray), .string (⟨#[]⟩ : ByteArray), .string (⟨#[]⟩ : ByteArray), .string (⟨#[]⟩ : ByteArray)]) (blk_put (cs := #[.int .i64 0, .int .i64 0, .int .i64 0, .string (⟨#[]⟩ : ByteArray), .int .i64 0, .int .i64 0, .int .i64 0, .int .i64 0, .int .i64 0, .string (⟨#[]⟩ : ByteArray), .string (⟨#[]⟩ : ByteArray), .string (⟨#[]⟩ : ByteArray), .string (⟨#[]⟩ : ByteArray)]) (blk_put (cs := #[.int .i64 0, .int .i64 0, .int .i64 0, .string (⟨#[]⟩ : ByteArray), .int .i64 0, .int .i64 0, .int .i64 0, .int .i64 0, .int .i64 0, .string (⟨#[]⟩ : ByteArray), .string (⟨#[]⟩ : ByteArray), .string (⟨#[]⟩ : ByteArray), .string (⟨#[]⟩ : ByteArray)]) (blk_put (cs := #[.int .i64 0, .int .i64 0, .int .i64 0, .string (⟨#[]⟩ : ByteArray), .int .i64 0, .int .i64 0, .int .i64 0, .int .i64 0, .int .i64 0, .string (⟨#[]⟩ : ByteArray), .string (⟨#[]⟩ : ByteArray), .string (⟨#[]⟩ : ByteArray), .string (⟨#[]⟩ : ByteArray)]) (blk_put (cs := #[.int .i64 0, .int .i64 0, .int .i64 0, .string (⟨#[]⟩ : ByteArray), .int .i64 0, .int .i64 0, .int .i64 0, .int .i64 0, .int .i64 0, .string (⟨#[]⟩ : ByteArray), .string (⟨#[]⟩ : ByteArray), .string (⟨#[]⟩ : ByteArray), .string (⟨#[]⟩ : ByteArray)]) (blk_put (cs := #[.int .i64 0, .int .i64 0, .int .i64 0, .string (⟨#[]⟩ : ByteArray), .int .i64 0, .int .i64 0, .int .i64 0, .int .i64 0, .int .i64 0, .string (⟨#[]⟩ : ByteArray), .string (⟨#[]⟩ : ByteArray), .string (⟨#[]⟩ : ByteArray), .string (⟨#[]⟩ : ByteArray)]) (blk_put (cs := #[.int .i64 0, .int .i64 0, .int .i64 0, .string (⟨#[]⟩ : ByteArray), .int .i64 0, .int .i64 0, .int .i64 0, .int .i64 0, .int .i64 0, .string (⟨#[]⟩ : ByteArray), .string (⟨#[]⟩ : ByteArray), .string (⟨#[]⟩ : ByteArray), .string (⟨#[]⟩ : ByteArray)]) (blk_put (cs := #[.int .i64 0, .int .i64 0, .int .i64 0, .string (⟨#[]⟩ : ByteArray), .int .i64 0, .int .i64 0, .int .i64 0, .int .i64 0, .int .i64 0, .string (⟨#[]⟩ : ByteArray), .string (⟨#[]⟩ : ByteArray), .string (⟨#[]⟩ : ByteArray), .string (⟨#[]⟩ : ByteArray)]) (blk_put (cs := #[.int .i64 0, .int .i64 0, .int .i64 0, .string (⟨#[]⟩ : ByteArray), .int .i64 0, .int .i64 0, .int .i64 0, .int .i64 0, .int .i64 0, .string (⟨#[]⟩ : ByteArray), .string (⟨#[]⟩ : ByteArray), .string (⟨#[]⟩ : ByteArray), .string (⟨#[]⟩ : ByteArray)]) (blk_put (cs := #[.int .i64 0, .int .i64 0, .int .i64 0, .string (⟨#[]⟩ : ByteArray), .int .i64 0, .int .i64 0, .int .i64 0, .int .i64 0, .int .i64 0, .string (⟨#[]⟩ : ByteArray), .string (⟨#[]⟩ : ByteArray), .string (⟨#[]⟩ : ByteArray), .string (⟨#[]⟩ : ByteArray)]) (blk_put (cs := #[.int .i64 0, .int .i64 0, .int .i64 0, .string (⟨#[]⟩ : ByteArray), .int .i64 0, .int .i64 0, .int .i64 0, .int .i64 0, .int .i64 0, .string (⟨#[]⟩ : ByteArray), .string (⟨#[]⟩ : ByteArray), .string (⟨#[]⟩ : ByteArray), .string (⟨#[]⟩ : ByteArray)]) (HZ6.out) 0 _ rfl) 1 _ rfl) 2 _ rfl) 3 _ rfl) 4 _ rfl) 5 _ rfl) 6 _ rfl) 7 _ rfl) 8 _ rfl) 9 _ rfl) 10 _ rfl) 11 _ rfl) 12 _ rfl) Tryz.underlying27 rfl (by kernel_rfl)) rfl ⟨rfl, ?_⟩
        exact (Below.setCell (Below.setCell (Below.setCell (Below.setCell (Below.setCell (Below.setCell (Below.setCell (Below.setCell (Below.setCell (Below.setCell (Below.setCell (Below.setCell (Below.setCell (Below.setCell (below_step HBr.out HB7.out) (p := ⟨gt, 2, none⟩) (Nat.le_of_lt HLT.out) (.int .i64 x)) (p := ⟨w.heap.size, 0, none⟩) (by first | exact Nat.le_refl _ | exact Nat.le_succ _) _) (p := ⟨w.heap.size, 1, none⟩) (by first | exact Nat.le_refl _ | exact Nat.le_succ _) _) (p := ⟨w.heap.size, 2, none⟩) (by first | exact Nat.le_refl _ | exact Nat.le_succ _) _) (p := ⟨w.heap.size, 3, none⟩) (by first | exact Nat.le_refl _ | exact Nat.le_succ _) _) (p := ⟨w.heap.size, 4, none⟩) (by first | exact Nat.le_refl _ | exact Nat.le_succ _) _) (p := ⟨w.heap.size, 5, none⟩) (by first | exact Nat.le_refl _ | exact Nat.le_succ _) _) (p := ⟨w.heap.size, 6, none⟩) (by first | exact Nat.le_refl _ | exact Nat.le_succ _) _) (p := ⟨w.heap.size, 7, none⟩) (by first | exact Nat.le_refl _ | exact Nat.le_succ _) _) (p := ⟨w.heap.size, 8, none⟩) (by first | exact Nat.le_refl _ | exact Nat.le_succ _) _) (p := ⟨w.heap.size, 9, none⟩) (by first | exact Nat.le_refl _ | exact Nat.le_succ _) _) (p := ⟨w.heap.size, 10, none⟩) (by first | exact Nat.le_refl _ | exact Nat.le_succ _) _) (p := ⟨w.heap.size, 11, none⟩) (by first | exact Nat.le_refl _ | exact Nat.le_succ _) _) (p := ⟨w.heap.size, 12, none⟩) (by first | exact Nat.le_refl _ | exact Nat.le_succ _) _)
    · obtain ⟨⟨x1, x2, x3, x4, e⟩, hq, hh⟩ := Option.bind_eq_some_iff.1 HP.out
      dsimp only at hh
      have hfn : wr.cell? ⟨v5.heap.size, 3, none⟩ = some (.func (.func 49) #[] #[.pointer (some ⟨gt, 0, none⟩)]) := blk_cell HS.out 3
      have hst : wr.cell? ⟨gL, 3, none⟩ = some (.string (rfS l 3)) := kt_cell HKr.out HCUR.out 3 (HCS.out 3 (by omega))
      have HQ := Aside0.mk hq
      clear hq
      by_cases c : e = 0
      · subst c
        rw [if_pos rfl] at hh
        have HH := Aside0.mk hh
        clear hh
        go_wp2_with (go_at_call 49; refine (ser_lit k (rfS l 3) x1 x2 x3 x4 0 gt t wr HQ.out HGr.out (glob_of HGL.out HBr.out)).mono ?_; rintro e6 w6 ⟨rfl, w7, hb7, rfl⟩; have HB7 := Aside0.mk hb7; clear hb7)
        go_roundg (gk - 1)
        case measure => have := HK.out; omega
        case rel => exact ⟨4, { t with f3 := ⟨x1, x2, x3, x4⟩ }, by go_num, ⟨by have := HK.out; omega⟩, HH, ⟨(blk_put (cs := #[.int .i64 t.f0, .int .i64 t.f1, .int .i64 t.f2, .string x1, .int .i64 x2, .int .i64 x3, .int .i64 t.f3.f3, .int .i64 t.f4, .int .i64 t.f5, .string t.f6.f0, .string t.f6.f1, .string t.f7.f0, .string t.f7.f1]) (blk_put (cs := #[.int .i64 t.f0, .int .i64 t.f1, .int .i64 t.f2, .string x1, .int .i64 x2, .int .i64 t.f3.f2, .int .i64 t.f3.f3, .int .i64 t.f4, .int .i64 t.f5, .string t.f6.f0, .string t.f6.f1, .string t.f7.f0, .string t.f7.f1]) (blk_put (cs := #[.int .i64 t.f0, .int .i64 t.f1, .int .i64 t.f2, .string x1, .int .i64 t.f3.f1, .int .i64 t.f3.f2, .int .i64 t.f3.f3, .int .i64 t.f4, .int .i64 t.f5, .string t.f6.f0, .string t.f6.f1, .string t.f7.f0, .string t.f7.f1]) (blk_put (cs := #[.int .i64 t.f0, .int .i64 t.f1, .int .i64 t.f2, .string t.f3.f0, .int .i64 t.f3.f1, .int .i64 t.f3.f2, .int .i64 t.f3.f3, .int .i64 t.f4, .int .i64 t.f5, .string t.f6.f0, .string t.f6.f1, .string t.f7.f0, .string t.f7.f1]) (blk_below HGr.out HB7.out) 3 (.string x1) rfl) 4 (.int .i64 x2) rfl) 5 (.int .i64 x3) rfl) 6 (.int .i64 x4) rfl)⟩, ⟨(KT.setCell (KT.setCell (KT.setCell (KT.setCell (KT.below HKP.out HB7.out) (blk_below HGr.out HB7.out) (by decide) (.string x1)) (blk_put (cs := #[.int .i64 t.f0, .int .i64 t.f1, .int .i64 t.f2, .string t.f3.f0, .int .i64 t.f3.f1, .int .i64 t.f3.f2, .int .i64 t.f3.f3, .int .i64 t.f4, .int .i64 t.f5, .string t.f6.f0, .string t.f6.f1, .string t.f7.f0, .string t.f7.f1]) (blk_below HGr.out HB7.out) 3 (.string x1) rfl) (by decide) (.int .i64 x2)) (blk_put (cs := #[.int .i64 t.f0, .int .i64 t.f1, .int .i64 t.f2, .string x1, .int .i64 t.f3.f1, .int .i64 t.f3.f2, .int .i64 t.f3.f3, .int .i64 t.f4, .int .i64 t.f5, .string t.f6.f0, .string t.f6.f1, .string t.f7.f0, .string t.f7.f1]) (blk_put (cs := #[.int .i64 t.f0, .int .i64 t.f1, .int .i64 t.f2, .string t.f3.f0, .int .i64 t.f3.f1, .int .i64 t.f3.f2, .int .i64 t.f3.f3, .int .i64 t.f4, .int .i64 t.f5, .string t.f6.f0, .string t.f6.f1, .string t.f7.f0, .string t.f7.f1]) (blk_below HGr.out HB7.out) 3 (.string x1) rfl) 4 (.int .i64 x2) rfl) (by decide) (.int .i64 x3)) (blk_put (cs := #[.int .i64 t.f0, .int .i64 t.f1, .int .i64 t.f2, .string x1, .int .i64 x2, .int .i64 t.f3.f2, .int .i64 t.f3.f3, .int .i64 t.f4, .int .i64 t.f5, .string t.f6.f0, .string t.f6.f1, .string t.f7.f0, .string t.f7.f1]) (blk_put (cs := #[.int .i64 t.f0, .int .i64 t.f1, .int .i64 t.f2, .string x1, .int .i64 t.f3.f1, .int .i64 t.f3.f2, .int .i64 t.f3.f3, .int .i64 t.f4, .int .i64 t.f5, .string t.f6.f0, .string t.f6.f1, .string t.f7.f0, .string t.f7.f1]) (blk_put (cs := #[.int .i64 t.f0, .int .i64 t.f1, .int .i64 t.f2, .string t.f3.f0, .int .i64 t.f3.f1, .int .i64 t.f3.f2, .int .i64 t.f3.f3, .int .i64 t.f4, .int .i64 t.f5, .string t.f6.f0, .string t.f6.f1, .string t.f7.f0, .string t.f7.f1]) (blk_below HGr.out HB7.out) 3 (.string x1) rfl) 4 (.int .i64 x2) rfl) 5 (.int .i64 x3) rfl) (by decide) (.int .i64 x4))⟩, ⟨(blk_far (blk_far (blk_far (blk_far (blk_below HS.out HB7.out) (Nat.ne_of_gt HGS.out) (.string x1)) (Nat.ne_of_gt HGS.out) (.int .i64 x2)) (Nat.ne_of_gt HGS.out) (.int .i64 x3)) (Nat.ne_of_gt HGS.out) (.int .i64 x4))⟩, ⟨(blk_far (blk_far (blk_far (blk_far (blk_below HZr.out HB7.out) (Nat.ne_of_lt HLT.out) (.string x1)) (Nat.ne_of_lt HLT.out) (.int .i64 x2)) (Nat.ne_of_lt HLT.out) (.int .i64 x3)) (Nat.ne_of_lt HLT.out) (.int .i64 x4))⟩, ⟨(KT.setCell (KT.setCell (KT.setCell (KT.setCell (KT.below HKr.out HB7.out) (blk_below HGr.out HB7.out) (by decide) (.string x1)) (blk_put (cs := #[.int .i64 t.f0, .int .i64 t.f1, .int .i64 t.f2, .string t.f3.f0, .int .i64 t.f3.f1, .int .i64 t.f3.f2, .int .i64 t.f3.f3, .int .i64 t.f4, .int .i64 t.f5, .string t.f6.f0, .string t.f6.f1, .string t.f7.f0, .string t.f7.f1]) (blk_below HGr.out HB7.out) 3 (.string x1) rfl) (by decide) (.int .i64 x2)) (blk_put (cs := #[.int .i64 t.f0, .int .i64 t.f1, .int .i64 t.f2, .string x1, .int .i64 t.f3.f1, .int .i64 t.f3.f2, .int .i64 t.f3.f3, .int .i64 t.f4, .int .i64 t.f5, .string t.f6.f0, .string t.f6.f1, .string t.f7.f0, .string t.f7.f1]) (blk_put (cs := #[.int .i64 t.f0, .int .i64 t.f1, .int .i64 t.f2, .string t.f3.f0, .int .i64 t.f3.f1, .int .i64 t.f3.f2, .int .i64 t.f3.f3, .int .i64 t.f4, .int .i64 t.f5, .string t.f6.f0, .string t.f6.f1, .string t.f7.f0, .string t.f7.f1]) (blk_below HGr.out HB7.out) 3 (.string x1) rfl) 4 (.int .i64 x2) rfl) (by decide) (.int .i64 x3)) (blk_put (cs := #[.int .i64 t.f0, .int .i64 t.f1, .int .i64 t.f2, .string x1, .int .i64 x2, .int .i64 t.f3.f2, .int .i64 t.f3.f3, .int .i64 t.f4, .int .i64 t.f5, .string t.f6.f0, .string t.f6.f1, .string t.f7.f0, .string t.f7.f1]) (blk_put (cs := #[.int .i64 t.f0, .int .i64 t.f1, .int .i64 t.f2, .string x1, .int .i64 t.f3.f1, .int .i64 t.f3.f2, .int .i64 t.f3.f3, .int .i64 t.f4, .int .i64 t.f5, .string t.f6.f0, .string t.f6.f1, .string t.f7.f0, .string t.f7.f1]) (blk_put (cs := #[.int .i64 t.f0, .int .i64 t.f1, .int .i64 t.f2, .string t.f3.f0, .int .i64 t.f3.f1, .int .i64 t.f3.f2, .int .i64 t.f3.f3, .int .i64 t.f4, .int .i64 t.f5, .string t.f6.f0, .string t.f6.f1, .string t.f7.f0, .string t.f7.f1]) (blk_below HGr.out HB7.out) 3 (.string x1) rfl) 4 (.int .i64 x2) rfl) 5 (.int .i64 x3) rfl) (by decide) (.int .i64 x4))⟩, ⟨(Below.setCell (Below.setCell (Below.setCell (Below.setCell (below_step HBr.out HB7.out) (p := ⟨gt, 3, none⟩) (Nat.le_of_lt HLT.out) (.string x1)) (p := ⟨gt, 4, none⟩) (Nat.le_of_lt HLT.out) (.int .i64 x2)) (p := ⟨gt, 5, none⟩) (Nat.le_of_lt HLT.out) (.int .i64 x3)) (p := ⟨gt, 6, none⟩) (Nat.le_of_lt HLT.out) (.int .i64 x4))⟩⟩
      · rw [if_neg c] at hh
        obtain rfl := Option.some.inj hh
        have hz : (e != 0) = true := bne_iff_ne.2 c
        clear hh c
        go_wp2_with (go_at_call 49; refine (ser_lit k (rfS l 3) x1 x2 x3 x4 e gt t wr HQ.out HGr.out (glob_of HGL.out HBr.out)).mono ?_; rintro e6 w6 ⟨rfl, w7, hb7, rfl⟩; have HB7 := Aside0.mk hb7; have hZ6 : ((((w7.setCell ⟨gt, 3, none⟩ (.string x1)).setCell ⟨gt, 4, none⟩ (.int .i64 x2)).setCell ⟨gt, 5, none⟩ (.int .i64 x3)).setCell ⟨gt, 6, none⟩ (.int .i64 x4)).heap[w.heap.size]? = some (.cells #[.int .i64 0, .int .i64 0, .int .i64 0, .string (⟨#[]⟩ : ByteArray), .int .i64 0, .int .i64 0, .int .i64 0, .int .i64 0, .int .i64 0, .string (⟨#[]⟩ : ByteArray), .string (⟨#[]⟩ : ByteArray), .string (⟨#[]⟩ : ByteArray), .string (⟨#[]⟩ : ByteArray)] 27 (0, 0)) := (blk_far (blk_far (blk_far (blk_far (blk_below HZr.out hb7) (Nat.ne_of_lt HLT.out) (.string x1)) (Nat.ne_of_lt HLT.out) (.int .i64 x2)) (Nat.ne_of_lt HLT.out) (.int .i64 x3)) (Nat.ne_of_lt HLT.out) (.int .i64 x4)); have hfc0 : ((((w7.setCell ⟨gt, 3, none⟩ (.string x1)).setCell ⟨gt, 4, none⟩ (.int .i64 x2)).setCell ⟨gt, 5, none⟩ (.int .i64 x3)).setCell ⟨gt, 6, none⟩ (.int .i64 x4)).cell? ⟨w.heap.size, 0, none⟩ = some (.int .i64 0) := blk_cell hZ6 0; have hf0 : ((((w7.setCell ⟨gt, 3, none⟩ (.string x1)).setCell ⟨gt, 4, none⟩ (.int .i64 x2)).setCell ⟨gt, 5, none⟩ (.int .i64 x3)).setCell ⟨gt, 6, none⟩ (.int .i64 x4)).frozen? ⟨w.heap.size, 0, none⟩ = false := blk_frozen hZ6 0; have hfc1 : ((((w7.setCell ⟨gt, 3, none⟩ (.string x1)).setCell ⟨gt, 4, none⟩ (.int .i64 x2)).setCell ⟨gt, 5, none⟩ (.int .i64 x3)).setCell ⟨gt, 6, none⟩ (.int .i64 x4)).cell? ⟨w.heap.size, 1, none⟩ = some (.int .i64 0) := blk_cell hZ6 1; have hf1 : ((((w7.setCell ⟨gt, 3, none⟩ (.string x1)).setCell ⟨gt, 4, none⟩ (.int .i64 x2)).setCell ⟨gt, 5, none⟩ (.int .i64 x3)).setCell ⟨gt, 6, none⟩ (.int .i64 x4)).frozen? ⟨w.heap.size, 1, none⟩ = false := blk_frozen hZ6 1; have hfc2 : ((((w7.setCell ⟨gt, 3, none⟩ (.string x1)).setCell ⟨gt, 4, none⟩ (.int .i64 x2)).setCell ⟨gt, 5, none⟩ (.int .i64 x3)).setCell ⟨gt, 6, none⟩ (.int .i64 x4)).cell? ⟨w.heap.size, 2, none⟩ = some (.int .i64 0) := blk_cell hZ6 2; have hf2 : ((((w7.setCell ⟨gt, 3, none⟩ (.string x1)).setCell ⟨gt, 4, none⟩ (.int .i64 x2)).setCell ⟨gt, 5, none⟩ (.int .i64 x3)).setCell ⟨gt, 6, none⟩ (.int .i64 x4)).frozen? ⟨w.heap.size, 2, none⟩ = false := blk_frozen hZ6 2; have hfc3 : ((((w7.setCell ⟨gt, 3, none⟩ (.string x1)).setCell ⟨gt, 4, none⟩ (.int .i64 x2)).setCell ⟨gt, 5, none⟩ (.int .i64 x3)).setCell ⟨gt, 6, none⟩ (.int .i64 x4)).cell? ⟨w.heap.size, 3, none⟩ = some (.string (⟨#[]⟩ : ByteArray)) := blk_cell hZ6 3; have hf3 : ((((w7.setCell ⟨gt, 3, none⟩ (.string x1)).setCell ⟨gt, 4, none⟩ (.int .i64 x2)).setCell ⟨gt, 5, none⟩ (.int .i64 x3)).setCell ⟨gt, 6, none⟩ (.int .i64 x4)).frozen? ⟨w.heap.size, 3, none⟩ = false := blk_frozen hZ6 3; have hfc4 : ((((w7.setCell ⟨gt, 3, none⟩ (.string x1)).setCell ⟨gt, 4, none⟩ (.int .i64 x2)).setCell ⟨gt, 5, none⟩ (.int .i64 x3)).setCell ⟨gt, 6, none⟩ (.int .i64 x4)).cell? ⟨w.heap.size, 4, none⟩ = some (.int .i64 0) := blk_cell hZ6 4; have hf4 : ((((w7.setCell ⟨gt, 3, none⟩ (.string x1)).setCell ⟨gt, 4, none⟩ (.int .i64 x2)).setCell ⟨gt, 5, none⟩ (.int .i64 x3)).setCell ⟨gt, 6, none⟩ (.int .i64 x4)).frozen? ⟨w.heap.size, 4, none⟩ = false := blk_frozen hZ6 4; have hfc5 : ((((w7.setCell ⟨gt, 3, none⟩ (.string x1)).setCell ⟨gt, 4, none⟩ (.int .i64 x2)).setCell ⟨gt, 5, none⟩ (.int .i64 x3)).setCell ⟨gt, 6, none⟩ (.int .i64 x4)).cell? ⟨w.heap.size, 5, none⟩ = some (.int .i64 0) := blk_cell hZ6 5; have hf5 : ((((w7.setCell ⟨gt, 3, none⟩ (.string x1)).setCell ⟨gt, 4, none⟩ (.int .i64 x2)).setCell ⟨gt, 5, none⟩ (.int .i64 x3)).setCell ⟨gt, 6, none⟩ (.int .i64 x4)).frozen? ⟨w.heap.size, 5, none⟩ = false := blk_frozen hZ6 5; have hfc6 : ((((w7.setCell ⟨gt, 3, none⟩ (.string x1)).setCell ⟨gt, 4, none⟩ (.int .i64 x2)).setCell ⟨gt, 5, none⟩ (.int .i64 x3)).setCell ⟨gt, 6, none⟩ (.int .i64 x4)).cell? ⟨w.heap.size, 6, none⟩ = some (.int .i64 0) := blk_cell hZ6 6; have hf6 : ((((w7.setCell ⟨gt, 3, none⟩ (.string x1)).setCell ⟨gt, 4, none⟩ (.int .i64 x2)).setCell ⟨gt, 5, none⟩ (.int .i64 x3)).setCell ⟨gt, 6, none⟩ (.int .i64 x4)).frozen? ⟨w.heap.size, 6, none⟩ = false := blk_frozen hZ6 6; have hfc7 : ((((w7.setCell ⟨gt, 3, none⟩ (.string x1)).setCell ⟨gt, 4, none⟩ (.int .i64 x2)).setCell ⟨gt, 5, none⟩ (.int .i64 x3)).setCell ⟨gt, 6, none⟩ (.int .i64 x4)).cell? ⟨w.heap.size, 7, none⟩ = some (.int .i64 0) := blk_cell hZ6 7; have hf7 : ((((w7.setCell ⟨gt, 3, none⟩ (.string x1)).setCell ⟨gt, 4, none⟩ (.int .i64 x2)).setCell ⟨gt, 5, none⟩ (.int .i64 x3)).setCell ⟨gt, 6, none⟩ (.int .i64 x4)).frozen? ⟨w.heap.size, 7, none⟩ = false := blk_frozen hZ6 7; have hfc8 : ((((w7.setCell ⟨gt, 3, none⟩ (.string x1)).setCell ⟨gt, 4, none⟩ (.int .i64 x2)).setCell ⟨gt, 5, none⟩ (.int .i64 x3)).setCell ⟨gt, 6, none⟩ (.int .i64 x4)).cell? ⟨w.heap.size, 8, none⟩ = some (.int .i64 0) := blk_cell hZ6 8; have hf8 : ((((w7.setCell ⟨gt, 3, none⟩ (.string x1)).setCell ⟨gt, 4, none⟩ (.int .i64 x2)).setCell ⟨gt, 5, none⟩ (.int .i64 x3)).setCell ⟨gt, 6, none⟩ (.int .i64 x4)).frozen? ⟨w.heap.size, 8, none⟩ = false := blk_frozen hZ6 8; have hfc9 : ((((w7.setCell ⟨gt, 3, none⟩ (.string x1)).setCell ⟨gt, 4, none⟩ (.int .i64 x2)).setCell ⟨gt, 5, none⟩ (.int .i64 x3)).setCell ⟨gt, 6, none⟩ (.int .i64 x4)).cell? ⟨w.heap.size, 9, none⟩ = some (.string (⟨#[]⟩ : ByteArray)) := blk_cell hZ6 9; have hf9 : ((((w7.setCell ⟨gt, 3, none⟩ (.string x1)).setCell ⟨gt, 4, none⟩ (.int .i64 x2)).setCell ⟨gt, 5, none⟩ (.int .i64 x3)).setCell ⟨gt, 6, none⟩ (.int .i64 x4)).frozen? ⟨w.heap.size, 9, none⟩ = false := blk_frozen hZ6 9; have hfc10 : ((((w7.setCell ⟨gt, 3, none⟩ (.string x1)).setCell ⟨gt, 4, none⟩ (.int .i64 x2)).setCell ⟨gt, 5, none⟩ (.int .i64 x3)).setCell ⟨gt, 6, none⟩ (.int .i64 x4)).cell? ⟨w.heap.size, 10, none⟩ = some (.string (⟨#[]⟩ : ByteArray)) := blk_cell hZ6 10; have hf10 : ((((w7.setCell ⟨gt, 3, none⟩ (.string x1)).setCell ⟨gt, 4, none⟩ (.int .i64 x2)).setCell ⟨gt, 5, none⟩ (.int .i64 x3)).setCell ⟨gt, 6, none⟩ (.int .i64 x4)).frozen? ⟨w.heap.size, 10, none⟩ = false := blk_frozen hZ6 10; have hfc11 : ((((w7.setCell ⟨gt, 3, none⟩ (.string x1)).setCell ⟨gt, 4, none⟩ (.int .i64 x2)).setCell ⟨gt, 5, none⟩ (.int .i64 x3)).setCell ⟨gt, 6, none⟩ (.int .i64 x4)).cell? ⟨w.heap.size, 11, none⟩ = some (.string (⟨#[]⟩ : ByteArray)) := blk_cell hZ6 11; have hf11 : ((((w7.setCell ⟨gt, 3, none⟩ (.string x1)).setCell ⟨gt, 4, none⟩ (.int .i64 x2)).setCell ⟨gt, 5, none⟩ (.int .i64 x3)).setCell ⟨gt, 6, none⟩ (.int .i64 x4)).frozen? ⟨w.heap.size, 11, none⟩ = false := blk_frozen hZ6 11; have hfc12 : ((((w7.setCell ⟨gt, 3, none⟩ (.string x1)).setCell ⟨gt, 4, none⟩ (.int .i64 x2)).setCell ⟨gt, 5, none⟩ (.int .i64 x3)).setCell ⟨gt, 6, none⟩ (.int .i64 x4)).cell? ⟨w.heap.size, 12, none⟩ = some (.string (⟨#[]⟩ : ByteArray)) := blk_cell hZ6 12; have hf12 : ((((w7.setCell ⟨gt, 3, none⟩ (.string x1)).setCell ⟨gt, 4, none⟩ (.int .i64 x2)).setCell ⟨gt, 5, none⟩ (.int .i64 x3)).setCell ⟨gt, 6, none⟩ (.int .i64 x4)).frozen? ⟨w.heap.size, 12, none⟩ = false := blk_frozen hZ6 12; have HZ6 := Aside0.mk hZ6; clear hZ6; clear hb7)
        refine bodyPost_ret (results_ct rfl _ _ w.heap.size 27 #[.int .i64 0, .int .i64 0, .int .i64 0, .string (⟨#[]⟩ : ByteArray), .int .i64 0, .int .i64 0, .int .i64 0, .int .i64 0, .int .i64 0, .string (⟨#[]⟩ : ByteArray), .string (⟨#[]⟩ : ByteArray), .string (⟨#[]⟩ : ByteArray), .string (⟨#[]⟩ : ByteArray)] (0, 0) _ rfl (blk_put (cs := #[.int .i64 0, .int .i64 0, .int .i64 0, .string (⟨#[]⟩ : ByteArray), .int .i64 0, .int .i64 0, .int .i64 0, .int .i64 0, .int .i64 0, .string (⟨#[]⟩ : ByteArray), .string (⟨#[]⟩ : ByteArray), .string (⟨#[]⟩ : ByteArray), .string (⟨#[]⟩ : ByteArray)]) (blk_put (cs := #[.int .i64 0, .int .i64 0, .int .i64 0, .string (⟨#[]⟩ : ByteArray), .int .i64 0, .int .i64 0, .int .i64 0, .int .i64 0, .int .i64 0, .string (⟨#[]⟩ : ByteArray), .string (⟨#[]⟩ : ByteArray), .string (⟨#[]⟩ : ByteArray), .string (⟨#[]⟩ : ByteArray)]) (blk_put (cs := #[.int .i64 0, .int .i64 0, .int .i64 0, .string (⟨#[]⟩ : ByteArray), .int .i64 0, .int .i64 0, .int .i64 0, .int .i64 0, .int .i64 0, .string (⟨#[]⟩ : ByteArray), .string (⟨#[]⟩ : ByteArray), .string (⟨#[]⟩ : ByteArray), .string (⟨#[]⟩ : ByteArray)]) (blk_put (cs := #[.int .i64 0, .int .i64 0, .int .i64 0, .string (⟨#[]⟩ : ByteArray), .int .i64 0, .int .i64 0, .int .i64 0, .int .i64 0, .int .i64 0, .string (⟨#[]⟩ : ByteArray), .string (⟨#[]⟩ : ByteArray), .string (⟨#[]⟩ : ByteArray), .string (⟨#[]⟩ : ByteArray)]) (blk_put (cs := #[.int .i64 0, .int .i64 0, .int .i64 0, .string (⟨#[]⟩ : ByteArray), .int .i64 0, .int .i64 0, .int .i64 0, .int .i64 0, .int .i64 0, .string (⟨#[]⟩ : ByteArray), .string (⟨#[]⟩ : ByteArray), .string (⟨#[]⟩ : ByteArray), .string (⟨#[]⟩ : ByteArray)]) (blk_put (cs := #[.int .i64 0, .int .i64 0, .int .i64 0, .string (⟨#[]⟩ : ByteArray), .int .i64 0, .int .i64 0, .int .i64 0, .int .i64 0, .int .i64 0, .string (⟨#[]⟩ : ByteArray), .string (⟨#[]⟩ : ByteArray), .string (⟨#[]⟩ : ByteArray), .string (⟨#[]⟩ : ByteArray)]) (blk_put (cs := #[.int .i64 0, .int .i64 0, .int .i64 0, .string (⟨#[]⟩ : ByteArray), .int .i64 0, .int .i64 0, .int .i64 0, .int .i64 0, .int .i64 0, .string (⟨#[]⟩ : ByteArray), .string (⟨#[]⟩ : ByteArray), .string (⟨#[]⟩ : ByteArray), .string (⟨#[]⟩ : ByteArray)]) (blk_put (cs := #[.int .i64 0, .int .i64 0, .int .i64 0, .string (⟨#[]⟩ : ByteArray), .int .i64 0, .int .i64 0, .int .i64 0, .int .i64 0, .int .i64 0, .string (⟨#[]⟩ : ByteArray), .string (⟨#[]⟩ : ByteArray), .string (⟨#[]⟩ : ByteArray), .string (⟨#[]⟩ : ByteArray)]) (blk_put (cs := #[.int .i64 0, .int .i64 0, .int .i64 0, .string (⟨#[]⟩ : ByteArray), .int .i64 0, .int .i64 0, .int .i64 0, .int .i64 0, .int .i64 0, .string (⟨#[]⟩ : ByteArray), .string (⟨#[]⟩ : ByteArray), .string (⟨#[]⟩ : ByteArray), .string (⟨#[]⟩ : ByteArray)]) (blk_put (cs := #[.int .i64 0, .int .i64 0, .int .i64 0, .string (⟨#[]⟩ : ByteArray), .int .i64 0, .int .i64 0, .int .i64 0, .int .i64 0, .int .i64 0, .string (⟨#[]⟩ : ByteArray), .string (⟨#[]⟩ : ByteArray), .string (⟨#[]⟩ : ByteArray), .string (⟨#[]⟩ : ByteArray)]) (blk_put (cs := #[.int .i64 0, .int .i64 0, .int .i64 0, .string (⟨#[]⟩ : ByteArray), .int .i64 0, .int .i64 0, .int .i64 0, .int .i64 0, .int .i64 0, .string (⟨#[]⟩ : ByteArray), .string (⟨#[]⟩ : ByteArray), .string (⟨#[]⟩ : ByteArray), .string (⟨#[]⟩ : ByteArray)]) (blk_put (cs := #[.int .i64 0, .int .i64 0, .int .i64 0, .string (⟨#[]⟩ : ByteArray), .int .i64 0, .int .i64 0, .int .i64 0, .int .i64 0, .int .i64 0, .string (⟨#[]⟩ : ByteArray), .string (⟨#[]⟩ : ByteArray), .string (⟨#[]⟩ : ByteArray), .string (⟨#[]⟩ : ByteArray)]) (blk_put (cs := #[.int .i64 0, .int .i64 0, .int .i64 0, .string (⟨#[]⟩ : ByteArray), .int .i64 0, .int .i64 0, .int .i64 0, .int .i64 0, .int .i64 0, .string (⟨#[]⟩ : ByteArray), .string (⟨#[]⟩ : ByteArray), .string (⟨#[]⟩ : ByteArray), .string (⟨#[]⟩ : ByteArray)]) (HZ6.out) 0 _ rfl) 1 _ rfl) 2 _ rfl) 3 _ rfl) 4 _ rfl) 5 _ rfl) 6 _ rfl) 7 _ rfl) 8 _ rfl) 9 _ rfl) 10 _ rfl) 11 _ rfl) 12 _ rfl) Tryz.underlying27 rfl (by kernel_rfl)) rfl ⟨rfl, ?_⟩
        exact (Below.setCell (Below.setCell (Below.setCell (Below.setCell (Below.setCell (Below.setCell (Below.setCell (Below.setCell (Below.setCell (Below.setCell (Below.setCell (Below.setCell (Below.setCell (Below.setCell (Below.setCell (Below.setCell (Below.setCell (below_step HBr.out HB7.out) (p := ⟨gt, 3, none⟩) (Nat.le_of_lt HLT.out) (.string x1)) (p := ⟨gt, 4, none⟩) (Nat.le_of_lt HLT.out) (.int .i64 x2)) (p := ⟨gt, 5, none⟩) (Nat.le_of_lt HLT.out) (.int .i64 x3)) (p := ⟨gt, 6, none⟩) (Nat.le_of_lt HLT.out) (.int .i64 x4)) (p := ⟨w.heap.size, 0, none⟩) (by first | exact Nat.le_refl _ | exact Nat.le_succ _) _) (p := ⟨w.heap.size, 1, none⟩) (by first | exact Nat.le_refl _ | exact Nat.le_succ _) _) (p := ⟨w.heap.size, 2, none⟩) (by first | exact Nat.le_refl _ | exact Nat.le_succ _) _) (p := ⟨w.heap.size, 3, none⟩) (by first | exact Nat.le_refl _ | exact Nat.le_succ _) _) (p := ⟨w.heap.size, 4, none⟩) (by first | exact Nat.le_refl _ | exact Nat.le_succ _) _) (p := ⟨w.heap.size, 5, none⟩) (by first | exact Nat.le_refl _ | exact Nat.le_succ _) _) (p := ⟨w.heap.size, 6, none⟩) (by first | exact Nat.le_refl _ | exact Nat.le_succ _) _) (p := ⟨w.heap.size, 7, none⟩) (by first | exact Nat.le_refl _ | exact Nat.le_succ _) _) (p := ⟨w.heap.size, 8, none⟩) (by first | exact Nat.le_refl _ | exact Nat.le_succ _) _) (p := ⟨w.heap.size, 9, none⟩) (by first | exact Nat.le_refl _ | exact Nat.le_succ _) _) (p := ⟨w.heap.size, 10, none⟩) (by first | exact Nat.le_refl _ | exact Nat.le_succ _) _) (p := ⟨w.heap.size, 11, none⟩) (by first | exact Nat.le_refl _ | exact Nat.le_succ _) _) (p := ⟨w.heap.size, 12, none⟩) (by first | exact Nat.le_refl _ | exact Nat.le_succ _) _)
    · obtain ⟨⟨x, e⟩, hq, hh⟩ := Option.bind_eq_some_iff.1 HP.out
      dsimp only at hh
      have hfn : wr.cell? ⟨v5.heap.size, 4, none⟩ = some (.func (.func 111) #[] #[.pointer (some ⟨b4, 0, none⟩)]) := blk_cell HS.out 4
      have hst : wr.cell? ⟨gL, 4, none⟩ = some (.string (rfS l 4)) := kt_cell HKr.out HCUR.out 4 (HCS.out 4 (by omega))
      have HQ := Aside0.mk hq
      clear hq
      have HBX := Aside0.mk (HKP.out _ _ HX4.out)
      by_cases c : e = 0
      · subst c
        rw [if_pos rfl] at hh
        have HH := Aside0.mk hh
        clear hh
        go_wp2_with (go_at_call 111; refine (num_lit k (rfS l 4) x 0 b4 gt 7 #[.int .i64 t.f0, .int .i64 t.f1, .int .i64 t.f2, .string t.f3.f0, .int .i64 t.f3.f1, .int .i64 t.f3.f2, .int .i64 t.f3.f3, .int .i64 t.f4, .int .i64 t.f5, .string t.f6.f0, .string t.f6.f1, .string t.f7.f0, .string t.f7.f1] t.f4 wr HQ.out HBX.out HGr.out rfl).mono ?_; rintro e6 w6 ⟨rfl, w7, hb7, rfl⟩; have HB7 := Aside0.mk hb7; clear hb7)
        go_roundg (gk - 1)
        case measure => have := HK.out; omega
        case rel => exact ⟨5, { t with f4 := x }, by go_num, ⟨by have := HK.out; omega⟩, HH, ⟨(blk_put (cs := #[.int .i64 t.f0, .int .i64 t.f1, .int .i64 t.f2, .string t.f3.f0, .int .i64 t.f3.f1, .int .i64 t.f3.f2, .int .i64 t.f3.f3, .int .i64 t.f4, .int .i64 t.f5, .string t.f6.f0, .string t.f6.f1, .string t.f7.f0, .string t.f7.f1]) (blk_below HGr.out HB7.out) 7 (.int .i64 x) rfl)⟩, ⟨(KT.setCell (KT.below HKP.out HB7.out) (blk_below HGr.out HB7.out) (by decide) (.int .i64 x))⟩, ⟨(blk_far (blk_below HS.out HB7.out) (Nat.ne_of_gt HGS.out) (.int .i64 x))⟩, ⟨(blk_far (blk_below HZr.out HB7.out) (Nat.ne_of_lt HLT.out) (.int .i64 x))⟩, ⟨(KT.setCell (KT.below HKr.out HB7.out) (blk_below HGr.out HB7.out) (by decide) (.int .i64 x))⟩, ⟨(Below.setCell (below_step HBr.out HB7.out) (p := ⟨gt, 7, none⟩) (Nat.le_of_lt HLT.out) (.int .i64 x))⟩⟩
      · rw [if_neg c] at hh
        obtain rfl := Option.some.inj hh
        have hz : (e != 0) = true := bne_iff_ne.2 c
        clear hh c
        go_wp2_with (go_at_call 111; refine (num_lit k (rfS l 4) x e b4 gt 7 #[.int .i64 t.f0, .int .i64 t.f1, .int .i64 t.f2, .string t.f3.f0, .int .i64 t.f3.f1, .int .i64 t.f3.f2, .int .i64 t.f3.f3, .int .i64 t.f4, .int .i64 t.f5, .string t.f6.f0, .string t.f6.f1, .string t.f7.f0, .string t.f7.f1] t.f4 wr HQ.out HBX.out HGr.out rfl).mono ?_; rintro e6 w6 ⟨rfl, w7, hb7, rfl⟩; have HB7 := Aside0.mk hb7; have hZ6 : (w7.setCell ⟨gt, 7, none⟩ (.int .i64 x)).heap[w.heap.size]? = some (.cells #[.int .i64 0, .int .i64 0, .int .i64 0, .string (⟨#[]⟩ : ByteArray), .int .i64 0, .int .i64 0, .int .i64 0, .int .i64 0, .int .i64 0, .string (⟨#[]⟩ : ByteArray), .string (⟨#[]⟩ : ByteArray), .string (⟨#[]⟩ : ByteArray), .string (⟨#[]⟩ : ByteArray)] 27 (0, 0)) := (blk_far (blk_below HZr.out hb7) (Nat.ne_of_lt HLT.out) (.int .i64 x)); have hfc0 : (w7.setCell ⟨gt, 7, none⟩ (.int .i64 x)).cell? ⟨w.heap.size, 0, none⟩ = some (.int .i64 0) := blk_cell hZ6 0; have hf0 : (w7.setCell ⟨gt, 7, none⟩ (.int .i64 x)).frozen? ⟨w.heap.size, 0, none⟩ = false := blk_frozen hZ6 0; have hfc1 : (w7.setCell ⟨gt, 7, none⟩ (.int .i64 x)).cell? ⟨w.heap.size, 1, none⟩ = some (.int .i64 0) := blk_cell hZ6 1; have hf1 : (w7.setCell ⟨gt, 7, none⟩ (.int .i64 x)).frozen? ⟨w.heap.size, 1, none⟩ = false := blk_frozen hZ6 1; have hfc2 : (w7.setCell ⟨gt, 7, none⟩ (.int .i64 x)).cell? ⟨w.heap.size, 2, none⟩ = some (.int .i64 0) := blk_cell hZ6 2; have hf2 : (w7.setCell ⟨gt, 7, none⟩ (.int .i64 x)).frozen? ⟨w.heap.size, 2, none⟩ = false := blk_frozen hZ6 2; have hfc3 : (w7.setCell ⟨gt, 7, none⟩ (.int .i64 x)).cell? ⟨w.heap.size, 3, none⟩ = some (.string (⟨#[]⟩ : ByteArray)) := blk_cell hZ6 3; have hf3 : (w7.setCell ⟨gt, 7, none⟩ (.int .i64 x)).frozen? ⟨w.heap.size, 3, none⟩ = false := blk_frozen hZ6 3; have hfc4 : (w7.setCell ⟨gt, 7, none⟩ (.int .i64 x)).cell? ⟨w.heap.size, 4, none⟩ = some (.int .i64 0) := blk_cell hZ6 4; have hf4 : (w7.setCell ⟨gt, 7, none⟩ (.int .i64 x)).frozen? ⟨w.heap.size, 4, none⟩ = false := blk_frozen hZ6 4; have hfc5 : (w7.setCell ⟨gt, 7, none⟩ (.int .i64 x)).cell? ⟨w.heap.size, 5, none⟩ = some (.int .i64 0) := blk_cell hZ6 5; have hf5 : (w7.setCell ⟨gt, 7, none⟩ (.int .i64 x)).frozen? ⟨w.heap.size, 5, none⟩ = false := blk_frozen hZ6 5; have hfc6 : (w7.setCell ⟨gt, 7, none⟩ (.int .i64 x)).cell? ⟨w.heap.size, 6, none⟩ = some (.int .i64 0) := blk_cell hZ6 6; have hf6 : (w7.setCell ⟨gt, 7, none⟩ (.int .i64 x)).frozen? ⟨w.heap.size, 6, none⟩ = false := blk_frozen hZ6 6; have hfc7 : (w7.setCell ⟨gt, 7, none⟩ (.int .i64 x)).cell? ⟨w.heap.size, 7, none⟩ = some (.int .i64 0) := blk_cell hZ6 7; have hf7 : (w7.setCell ⟨gt, 7, none⟩ (.int .i64 x)).frozen? ⟨w.heap.size, 7, none⟩ = false := blk_frozen hZ6 7; have hfc8 : (w7.setCell ⟨gt, 7, none⟩ (.int .i64 x)).cell? ⟨w.heap.size, 8, none⟩ = some (.int .i64 0) := blk_cell hZ6 8; have hf8 : (w7.setCell ⟨gt, 7, none⟩ (.int .i64 x)).frozen? ⟨w.heap.size, 8, none⟩ = false := blk_frozen hZ6 8; have hfc9 : (w7.setCell ⟨gt, 7, none⟩ (.int .i64 x)).cell? ⟨w.heap.size, 9, none⟩ = some (.string (⟨#[]⟩ : ByteArray)) := blk_cell hZ6 9; have hf9 : (w7.setCell ⟨gt, 7, none⟩ (.int .i64 x)).frozen? ⟨w.heap.size, 9, none⟩ = false := blk_frozen hZ6 9; have hfc10 : (w7.setCell ⟨gt, 7, none⟩ (.int .i64 x)).cell? ⟨w.heap.size, 10, none⟩ = some (.string (⟨#[]⟩ : ByteArray)) := blk_cell hZ6 10; have hf10 : (w7.setCell ⟨gt, 7, none⟩ (.int .i64 x)).frozen? ⟨w.heap.size, 10, none⟩ = false := blk_frozen hZ6 10; have hfc11 : (w7.setCell ⟨gt, 7, none⟩ (.int .i64 x)).cell? ⟨w.heap.size, 11, none⟩ = some (.string (⟨#[]⟩ : ByteArray)) := blk_cell hZ6 11; have hf11 : (w7.setCell ⟨gt, 7, none⟩ (.int .i64 x)).frozen? ⟨w.heap.size, 11, none⟩ = false := blk_frozen hZ6 11; have hfc12 : (w7.setCell ⟨gt, 7, none⟩ (.int .i64 x)).cell? ⟨w.heap.size, 12, none⟩ = some (.string (⟨#[]⟩ : ByteArray)) := blk_cell hZ6 12; have hf12 : (w7.setCell ⟨gt, 7, none⟩ (.int .i64 x)).frozen? ⟨w.heap.size, 12, none⟩ = false := blk_frozen hZ6 12; have HZ6 := Aside0.mk hZ6; clear hZ6; clear hb7)
        refine bodyPost_ret (results_ct rfl _ _ w.heap.size 27 #[.int .i64 0, .int .i64 0, .int .i64 0, .string (⟨#[]⟩ : ByteArray), .int .i64 0, .int .i64 0, .int .i64 0, .int .i64 0, .int .i64 0, .string (⟨#[]⟩ : ByteArray), .string (⟨#[]⟩ : ByteArray), .string (⟨#[]⟩ : ByteArray), .string (⟨#[]⟩ : ByteArray)] (0, 0) _ rfl (blk_put (cs := #[.int .i64 0, .int .i64 0, .int .i64 0, .string (⟨#[]⟩ : ByteArray), .int .i64 0, .int .i64 0, .int .i64 0, .int .i64 0, .int .i64 0, .string (⟨#[]⟩ : ByteArray), .string (⟨#[]⟩ : ByteArray), .string (⟨#[]⟩ : ByteArray), .string (⟨#[]⟩ : ByteArray)]) (blk_put (cs := #[.int .i64 0, .int .i64 0, .int .i64 0, .string (⟨#[]⟩ : ByteArray), .int .i64 0, .int .i64 0, .int .i64 0, .int .i64 0, .int .i64 0, .string (⟨#[]⟩ : ByteArray), .string (⟨#[]⟩ : ByteArray), .string (⟨#[]⟩ : ByteArray), .string (⟨#[]⟩ : ByteArray)]) (blk_put (cs := #[.int .i64 0, .int .i64 0, .int .i64 0, .string (⟨#[]⟩ : ByteArray), .int .i64 0, .int .i64 0, .int .i64 0, .int .i64 0, .int .i64 0, .string (⟨#[]⟩ : ByteArray), .string (⟨#[]⟩ : ByteArray), .string (⟨#[]⟩ : ByteArray), .string (⟨#[]⟩ : ByteArray)]) (blk_put (cs := #[.int .i64 0, .int .i64 0, .int .i64 0, .string (⟨#[]⟩ : ByteArray), .int .i64 0, .int .i64 0, .int .i64 0, .int .i64 0, .int .i64 0, .string (⟨#[]⟩ : ByteArray), .string (⟨#[]⟩ : ByteArray), .string (⟨#[]⟩ : ByteArray), .string (⟨#[]⟩ : ByteArray)]) (blk_put (cs := #[.int .i64 0, .int .i64 0, .int .i64 0, .string (⟨#[]⟩ : ByteArray), .int .i64 0, .int .i64 0, .int .i64 0, .int .i64 0, .int .i64 0, .string (⟨#[]⟩ : ByteArray), .string (⟨#[]⟩ : ByteArray), .string (⟨#[]⟩ : ByteArray), .string (⟨#[]⟩ : ByteArray)]) (blk_put (cs := #[.int .i64 0, .int .i64 0, .int .i64 0, .string (⟨#[]⟩ : ByteArray), .int .i64 0, .int .i64 0, .int .i64 0, .int .i64 0, .int .i64 0, .string (⟨#[]⟩ : ByteArray), .string (⟨#[]⟩ : ByteArray), .string (⟨#[]⟩ : ByteArray), .string (⟨#[]⟩ : ByteArray)]) (blk_put (cs := #[.int .i64 0, .int .i64 0, .int .i64 0, .string (⟨#[]⟩ : ByteArray), .int .i64 0, .int .i64 0, .int .i64 0, .int .i64 0, .int .i64 0, .string (⟨#[]⟩ : ByteArray), .string (⟨#[]⟩ : ByteArray), .string (⟨#[]⟩ : ByteArray), .string (⟨#[]⟩ : ByteArray)]) (blk_put (cs := #[.int .i64 0, .int .i64 0, .int .i64 0, .string (⟨#[]⟩ : ByteArray), .int .i64 0, .int .i64 0, .int .i64 0, .int .i64 0, .int .i64 0, .string (⟨#[]⟩ : ByteArray), .string (⟨#[]⟩ : ByteArray), .string (⟨#[]⟩ : ByteArray), .string (⟨#[]⟩ : ByteArray)]) (blk_put (cs := #[.int .i64 0, .int .i64 0, .int .i64 0, .string (⟨#[]⟩ : ByteArray), .int .i64 0, .int .i64 0, .int .i64 0, .int .i64 0, .int .i64 0, .string (⟨#[]⟩ : ByteArray), .string (⟨#[]⟩ : ByteArray), .string (⟨#[]⟩ : ByteArray), .string (⟨#[]⟩ : ByteArray)]) (blk_put (cs := #[.int .i64 0, .int .i64 0, .int .i64 0, .string (⟨#[]⟩ : ByteArray), .int .i64 0, .int .i64 0, .int .i64 0, .int .i64 0, .int .i64 0, .string (⟨#[]⟩ : ByteArray), .string (⟨#[]⟩ : ByteArray), .string (⟨#[]⟩ : ByteArray), .string (⟨#[]⟩ : ByteArray)]) (blk_put (cs := #[.int .i64 0, .int .i64 0, .int .i64 0, .string (⟨#[]⟩ : ByteArray), .int .i64 0, .int .i64 0, .int .i64 0, .int .i64 0, .int .i64 0, .string (⟨#[]⟩ : ByteArray), .string (⟨#[]⟩ : ByteArray), .string (⟨#[]⟩ : ByteArray), .string (⟨#[]⟩ : ByteArray)]) (blk_put (cs := #[.int .i64 0, .int .i64 0, .int .i64 0, .string (⟨#[]⟩ : ByteArray), .int .i64 0, .int .i64 0, .int .i64 0, .int .i64 0, .int .i64 0, .string (⟨#[]⟩ : ByteArray), .string (⟨#[]⟩ : ByteArray), .string (⟨#[]⟩ : ByteArray), .string (⟨#[]⟩ : ByteArray)]) (blk_put (cs := #[.int .i64 0, .int .i64 0, .int .i64 0, .string (⟨#[]⟩ : ByteArray), .int .i64 0, .int .i64 0, .int .i64 0, .int .i64 0, .int .i64 0, .string (⟨#[]⟩ : ByteArray), .string (⟨#[]⟩ : ByteArray), .string (⟨#[]⟩ : ByteArray), .string (⟨#[]⟩ : ByteArray)]) (HZ6.out) 0 _ rfl) 1 _ rfl) 2 _ rfl) 3 _ rfl) 4 _ rfl) 5 _ rfl) 6 _ rfl) 7 _ rfl) 8 _ rfl) 9 _ rfl) 10 _ rfl) 11 _ rfl) 12 _ rfl) Tryz.underlying27 rfl (by kernel_rfl)) rfl ⟨rfl, ?_⟩
        exact (Below.setCell (Below.setCell (Below.setCell (Below.setCell (Below.setCell (Below.setCell (Below.setCell (Below.setCell (Below.setCell (Below.setCell (Below.setCell (Below.setCell (Below.setCell (Below.setCell (below_step HBr.out HB7.out) (p := ⟨gt, 7, none⟩) (Nat.le_of_lt HLT.out) (.int .i64 x)) (p := ⟨w.heap.size, 0, none⟩) (by first | exact Nat.le_refl _ | exact Nat.le_succ _) _) (p := ⟨w.heap.size, 1, none⟩) (by first | exact Nat.le_refl _ | exact Nat.le_succ _) _) (p := ⟨w.heap.size, 2, none⟩) (by first | exact Nat.le_refl _ | exact Nat.le_succ _) _) (p := ⟨w.heap.size, 3, none⟩) (by first | exact Nat.le_refl _ | exact Nat.le_succ _) _) (p := ⟨w.heap.size, 4, none⟩) (by first | exact Nat.le_refl _ | exact Nat.le_succ _) _) (p := ⟨w.heap.size, 5, none⟩) (by first | exact Nat.le_refl _ | exact Nat.le_succ _) _) (p := ⟨w.heap.size, 6, none⟩) (by first | exact Nat.le_refl _ | exact Nat.le_succ _) _) (p := ⟨w.heap.size, 7, none⟩) (by first | exact Nat.le_refl _ | exact Nat.le_succ _) _) (p := ⟨w.heap.size, 8, none⟩) (by first | exact Nat.le_refl _ | exact Nat.le_succ _) _) (p := ⟨w.heap.size, 9, none⟩) (by first | exact Nat.le_refl _ | exact Nat.le_succ _) _) (p := ⟨w.heap.size, 10, none⟩) (by first | exact Nat.le_refl _ | exact Nat.le_succ _) _) (p := ⟨w.heap.size, 11, none⟩) (by first | exact Nat.le_refl _ | exact Nat.le_succ _) _) (p := ⟨w.heap.size, 12, none⟩) (by first | exact Nat.le_refl _ | exact Nat.le_succ _) _)
    · obtain ⟨⟨x, e⟩, hq, hh⟩ := Option.bind_eq_some_iff.1 HP.out
      dsimp only at hh
      have hfn : wr.cell? ⟨v5.heap.size, 5, none⟩ = some (.func (.func 111) #[] #[.pointer (some ⟨b5, 0, none⟩)]) := blk_cell HS.out 5
      have hst : wr.cell? ⟨gL, 5, none⟩ = some (.string (rfS l 5)) := kt_cell HKr.out HCUR.out 5 (HCS.out 5 (by omega))
      have HQ := Aside0.mk hq
      clear hq
      have HBX := Aside0.mk (HKP.out _ _ HX5.out)
      by_cases c : e = 0
      · subst c
        rw [if_pos rfl] at hh
        have HH := Aside0.mk hh
        clear hh
        go_wp2_with (go_at_call 111; refine (num_lit k (rfS l 5) x 0 b5 gt 8 #[.int .i64 t.f0, .int .i64 t.f1, .int .i64 t.f2, .string t.f3.f0, .int .i64 t.f3.f1, .int .i64 t.f3.f2, .int .i64 t.f3.f3, .int .i64 t.f4, .int .i64 t.f5, .string t.f6.f0, .string t.f6.f1, .string t.f7.f0, .string t.f7.f1] t.f5 wr HQ.out HBX.out HGr.out rfl).mono ?_; rintro e6 w6 ⟨rfl, w7, hb7, rfl⟩; have HB7 := Aside0.mk hb7; clear hb7)
        go_roundg (gk - 1)
        case measure => have := HK.out; omega
        case rel => exact ⟨6, { t with f5 := x }, by go_num, ⟨by have := HK.out; omega⟩, HH, ⟨(blk_put (cs := #[.int .i64 t.f0, .int .i64 t.f1, .int .i64 t.f2, .string t.f3.f0, .int .i64 t.f3.f1, .int .i64 t.f3.f2, .int .i64 t.f3.f3, .int .i64 t.f4, .int .i64 t.f5, .string t.f6.f0, .string t.f6.f1, .string t.f7.f0, .string t.f7.f1]) (blk_below HGr.out HB7.out) 8 (.int .i64 x) rfl)⟩, ⟨(KT.setCell (KT.below HKP.out HB7.out) (blk_below HGr.out HB7.out) (by decide) (.int .i64 x))⟩, ⟨(blk_far (blk_below HS.out HB7.out) (Nat.ne_of_gt HGS.out) (.int .i64 x))⟩, ⟨(blk_far (blk_below HZr.out HB7.out) (Nat.ne_of_lt HLT.out) (.int .i64 x))⟩, ⟨(KT.setCell (KT.below HKr.out HB7.out) (blk_below HGr.out HB7.out) (by decide) (.int .i64 x))⟩, ⟨(Below.setCell (below_step HBr.out HB7.out) (p := ⟨gt, 8, none⟩) (Nat.le_of_lt HLT.out) (.int .i64 x))⟩⟩
      · rw [if_neg c] at hh
        obtain rfl := Option.some.inj hh
        have hz : (e != 0) = true := bne_iff_ne.2 c
        clear hh c
        go_wp2_with (go_at_call 111; refine (num_lit k (rfS l 5) x e b5 gt 8 #[.int .i64 t.f0, .int .i64 t.f1, .int .i64 t.f2, .string t.f3.f0, .int .i64 t.f3.f1, .int .i64 t.f3.f2, .int .i64 t.f3.f3, .int .i64 t.f4, .int .i64 t.f5, .string t.f6.f0, .string t.f6.f1, .string t.f7.f0, .string t.f7.f1] t.f5 wr HQ.out HBX.out HGr.out rfl).mono ?_; rintro e6 w6 ⟨rfl, w7, hb7, rfl⟩; have HB7 := Aside0.mk hb7; have hZ6 : (w7.setCell ⟨gt, 8, none⟩ (.int .i64 x)).heap[w.heap.size]? = some (.cells #[.int .i64 0, .int .i64 0, .int .i64 0, .string (⟨#[]⟩ : ByteArray), .int .i64 0, .int .i64 0, .int .i64 0, .int .i64 0, .int .i64 0, .string (⟨#[]⟩ : ByteArray), .string (⟨#[]⟩ : ByteArray), .string (⟨#[]⟩ : ByteArray), .string (⟨#[]⟩ : ByteArray)] 27 (0, 0)) := (blk_far (blk_below HZr.out hb7) (Nat.ne_of_lt HLT.out) (.int .i64 x)); have hfc0 : (w7.setCell ⟨gt, 8, none⟩ (.int .i64 x)).cell? ⟨w.heap.size, 0, none⟩ = some (.int .i64 0) := blk_cell hZ6 0; have hf0 : (w7.setCell ⟨gt, 8, none⟩ (.int .i64 x)).frozen? ⟨w.heap.size, 0, none⟩ = false := blk_frozen hZ6 0; have hfc1 : (w7.setCell ⟨gt, 8, none⟩ (.int .i64 x)).cell? ⟨w.heap.size, 1, none⟩ = some (.int .i64 0) := blk_cell hZ6 1; have hf1 : (w7.setCell ⟨gt, 8, none⟩ (.int .i64 x)).frozen? ⟨w.heap.size, 1, none⟩ = false := blk_frozen hZ6 1; have hfc2 : (w7.setCell ⟨gt, 8, none⟩ (.int .i64 x)).cell? ⟨w.heap.size, 2, none⟩ = some (.int .i64 0) := blk_cell hZ6 2; have hf2 : (w7.setCell ⟨gt, 8, none⟩ (.int .i64 x)).frozen? ⟨w.heap.size, 2, none⟩ = false := blk_frozen hZ6 2; have hfc3 : (w7.setCell ⟨gt, 8, none⟩ (.int .i64 x)).cell? ⟨w.heap.size, 3, none⟩ = some (.string (⟨#[]⟩ : ByteArray)) := blk_cell hZ6 3; have hf3 : (w7.setCell ⟨gt, 8, none⟩ (.int .i64 x)).frozen? ⟨w.heap.size, 3, none⟩ = false := blk_frozen hZ6 3; have hfc4 : (w7.setCell ⟨gt, 8, none⟩ (.int .i64 x)).cell? ⟨w.heap.size, 4, none⟩ = some (.int .i64 0) := blk_cell hZ6 4; have hf4 : (w7.setCell ⟨gt, 8, none⟩ (.int .i64 x)).frozen? ⟨w.heap.size, 4, none⟩ = false := blk_frozen hZ6 4; have hfc5 : (w7.setCell ⟨gt, 8, none⟩ (.int .i64 x)).cell? ⟨w.heap.size, 5, none⟩ = some (.int .i64 0) := blk_cell hZ6 5; have hf5 : (w7.setCell ⟨gt, 8, none⟩ (.int .i64 x)).frozen? ⟨w.heap.size, 5, none⟩ = false := blk_frozen hZ6 5; have hfc6 : (w7.setCell ⟨gt, 8, none⟩ (.int .i64 x)).cell? ⟨w.heap.size, 6, none⟩ = some (.int .i64 0) := blk_cell hZ6 6; have hf6 : (w7.setCell ⟨gt, 8, none⟩ (.int .i64 x)).frozen? ⟨w.heap.size, 6, none⟩ = false := blk_frozen hZ6 6; have hfc7 : (w7.setCell ⟨gt, 8, none⟩ (.int .i64 x)).cell? ⟨w.heap.size, 7, none⟩ = some (.int .i64 0) := blk_cell hZ6 7; have hf7 : (w7.setCell ⟨gt, 8, none⟩ (.int .i64 x)).frozen? ⟨w.heap.size, 7, none⟩ = false := blk_frozen hZ6 7; have hfc8 : (w7.setCell ⟨gt, 8, none⟩ (.int .i64 x)).cell? ⟨w.heap.size, 8, none⟩ = some (.int .i64 0) := blk_cell hZ6 8; have hf8 : (w7.setCell ⟨gt, 8, none⟩ (.int .i64 x)).frozen? ⟨w.heap.size, 8, none⟩ = false := blk_frozen hZ6 8; have hfc9 : (w7.setCell ⟨gt, 8, none⟩ (.int .i64 x)).cell? ⟨w.heap.size, 9, none⟩ = some (.string (⟨#[]⟩ : ByteArray)) := blk_cell hZ6 9; have hf9 : (w7.setCell ⟨gt, 8, none⟩ (.int .i64 x)).frozen? ⟨w.heap.size, 9, none⟩ = false := blk_frozen hZ6 9; have hfc10 : (w7.setCell ⟨gt, 8, none⟩ (.int .i64 x)).cell? ⟨w.heap.size, 10, none⟩ = some (.string (⟨#[]⟩ : ByteArray)) := blk_cell hZ6 10; have hf10 : (w7.setCell ⟨gt, 8, none⟩ (.int .i64 x)).frozen? ⟨w.heap.size, 10, none⟩ = false := blk_frozen hZ6 10; have hfc11 : (w7.setCell ⟨gt, 8, none⟩ (.int .i64 x)).cell? ⟨w.heap.size, 11, none⟩ = some (.string (⟨#[]⟩ : ByteArray)) := blk_cell hZ6 11; have hf11 : (w7.setCell ⟨gt, 8, none⟩ (.int .i64 x)).frozen? ⟨w.heap.size, 11, none⟩ = false := blk_frozen hZ6 11; have hfc12 : (w7.setCell ⟨gt, 8, none⟩ (.int .i64 x)).cell? ⟨w.heap.size, 12, none⟩ = some (.string (⟨#[]⟩ : ByteArray)) := blk_cell hZ6 12; have hf12 : (w7.setCell ⟨gt, 8, none⟩ (.int .i64 x)).frozen? ⟨w.heap.size, 12, none⟩ = false := blk_frozen hZ6 12; have HZ6 := Aside0.mk hZ6; clear hZ6; clear hb7)
        refine bodyPost_ret (results_ct rfl _ _ w.heap.size 27 #[.int .i64 0, .int .i64 0, .int .i64 0, .string (⟨#[]⟩ : ByteArray), .int .i64 0, .int .i64 0, .int .i64 0, .int .i64 0, .int .i64 0, .string (⟨#[]⟩ : ByteArray), .string (⟨#[]⟩ : ByteArray), .string (⟨#[]⟩ : ByteArray), .string (⟨#[]⟩ : ByteArray)] (0, 0) _ rfl (blk_put (cs := #[.int .i64 0, .int .i64 0, .int .i64 0, .string (⟨#[]⟩ : ByteArray), .int .i64 0, .int .i64 0, .int .i64 0, .int .i64 0, .int .i64 0, .string (⟨#[]⟩ : ByteArray), .string (⟨#[]⟩ : ByteArray), .string (⟨#[]⟩ : ByteArray), .string (⟨#[]⟩ : ByteArray)]) (blk_put (cs := #[.int .i64 0, .int .i64 0, .int .i64 0, .string (⟨#[]⟩ : ByteArray), .int .i64 0, .int .i64 0, .int .i64 0, .int .i64 0, .int .i64 0, .string (⟨#[]⟩ : ByteArray), .string (⟨#[]⟩ : ByteArray), .string (⟨#[]⟩ : ByteArray), .string (⟨#[]⟩ : ByteArray)]) (blk_put (cs := #[.int .i64 0, .int .i64 0, .int .i64 0, .string (⟨#[]⟩ : ByteArray), .int .i64 0, .int .i64 0, .int .i64 0, .int .i64 0, .int .i64 0, .string (⟨#[]⟩ : ByteArray), .string (⟨#[]⟩ : ByteArray), .string (⟨#[]⟩ : ByteArray), .string (⟨#[]⟩ : ByteArray)]) (blk_put (cs := #[.int .i64 0, .int .i64 0, .int .i64 0, .string (⟨#[]⟩ : ByteArray), .int .i64 0, .int .i64 0, .int .i64 0, .int .i64 0, .int .i64 0, .string (⟨#[]⟩ : ByteArray), .string (⟨#[]⟩ : ByteArray), .string (⟨#[]⟩ : ByteArray), .string (⟨#[]⟩ : ByteArray)]) (blk_put (cs := #[.int .i64 0, .int .i64 0, .int .i64 0, .string (⟨#[]⟩ : ByteArray), .int .i64 0, .int .i64 0, .int .i64 0, .int .i64 0, .int .i64 0, .string (⟨#[]⟩ : ByteArray), .string (⟨#[]⟩ : ByteArray), .string (⟨#[]⟩ : ByteArray), .string (⟨#[]⟩ : ByteArray)]) (blk_put (cs := #[.int .i64 0, .int .i64 0, .int .i64 0, .string (⟨#[]⟩ : ByteArray), .int .i64 0, .int .i64 0, .int .i64 0, .int .i64 0, .int .i64 0, .string (⟨#[]⟩ : ByteArray), .string (⟨#[]⟩ : ByteArray), .string (⟨#[]⟩ : ByteArray), .string (⟨#[]⟩ : ByteArray)]) (blk_put (cs := #[.int .i64 0, .int .i64 0, .int .i64 0, .string (⟨#[]⟩ : ByteArray), .int .i64 0, .int .i64 0, .int .i64 0, .int .i64 0, .int .i64 0, .string (⟨#[]⟩ : ByteArray), .string (⟨#[]⟩ : ByteArray), .string (⟨#[]⟩ : ByteArray), .string (⟨#[]⟩ : ByteArray)]) (blk_put (cs := #[.int .i64 0, .int .i64 0, .int .i64 0, .string (⟨#[]⟩ : ByteArray), .int .i64 0, .int .i64 0, .int .i64 0, .int .i64 0, .int .i64 0, .string (⟨#[]⟩ : ByteArray), .string (⟨#[]⟩ : ByteArray), .string (⟨#[]⟩ : ByteArray), .string (⟨#[]⟩ : ByteArray)]) (blk_put (cs := #[.int .i64 0, .int .i64 0, .int .i64 0, .string (⟨#[]⟩ : ByteArray), .int .i64 0, .int .i64 0, .int .i64 0, .int .i64 0, .int .i64 0, .string (⟨#[]⟩ : ByteArray), .string (⟨#[]⟩ : ByteArray), .string (⟨#[]⟩ : ByteArray), .string (⟨#[]⟩ : ByteArray)]) (blk_put (cs := #[.int .i64 0, .int .i64 0, .int .i64 0, .string (⟨#[]⟩ : ByteArray), .int .i64 0, .int .i64 0, .int .i64 0, .int .i64 0, .int .i64 0, .string (⟨#[]⟩ : ByteArray), .string (⟨#[]⟩ : ByteArray), .string (⟨#[]⟩ : ByteArray), .string (⟨#[]⟩ : ByteArray)]) (blk_put (cs := #[.int .i64 0, .int .i64 0, .int .i64 0, .string (⟨#[]⟩ : ByteArray), .int .i64 0, .int .i64 0, .int .i64 0, .int .i64 0, .int .i64 0, .string (⟨#[]⟩ : ByteArray), .string (⟨#[]⟩ : ByteArray), .string (⟨#[]⟩ : ByteArray), .string (⟨#[]⟩ : ByteArray)]) (blk_put (cs := #[.int .i64 0, .int .i64 0, .int .i64 0, .string (⟨#[]⟩ : ByteArray), .int .i64 0, .int .i64 0, .int .i64 0, .int .i64 0, .int .i64 0, .string (⟨#[]⟩ : ByteArray), .string (⟨#[]⟩ : ByteArray), .string (⟨#[]⟩ : ByteArray), .string (⟨#[]⟩ : ByteArray)]) (blk_put (cs := #[.int .i64 0, .int .i64 0, .int .i64 0, .string (⟨#[]⟩ : ByteArray), .int .i64 0, .int .i64 0, .int .i64 0, .int .i64 0, .int .i64 0, .string (⟨#[]⟩ : ByteArray), .string (⟨#[]⟩ : ByteArray), .string (⟨#[]⟩ : ByteArray), .string (⟨#[]⟩ : ByteArray)]) (HZ6.out) 0 _ rfl) 1 _ rfl) 2 _ rfl) 3 _ rfl) 4 _ rfl) 5 _ rfl) 6 _ rfl) 7 _ rfl) 8 _ rfl) 9 _ rfl) 10 _ rfl) 11 _ rfl) 12 _ rfl) Tryz.underlying27 rfl (by kernel_rfl)) rfl ⟨rfl, ?_⟩
        exact (Below.setCell (Below.setCell (Below.setCell (Below.setCell (Below.setCell (Below.setCell (Below.setCell (Below.setCell (Below.setCell (Below.setCell (Below.setCell (Below.setCell (Below.setCell (Below.setCell (below_step HBr.out HB7.out) (p := ⟨gt, 8, none⟩) (Nat.le_of_lt HLT.out) (.int .i64 x)) (p := ⟨w.heap.size, 0, none⟩) (by first | exact Nat.le_refl _ | exact Nat.le_succ _) _) (p := ⟨w.heap.size, 1, none⟩) (by first | exact Nat.le_refl _ | exact Nat.le_succ _) _) (p := ⟨w.heap.size, 2, none⟩) (by first | exact Nat.le_refl _ | exact Nat.le_succ _) _) (p := ⟨w.heap.size, 3, none⟩) (by first | exact Nat.le_refl _ | exact Nat.le_succ _) _) (p := ⟨w.heap.size, 4, none⟩) (by first | exact Nat.le_refl _ | exact Nat.le_succ _) _) (p := ⟨w.heap.size, 5, none⟩) (by first | exact Nat.le_refl _ | exact Nat.le_succ _) _) (p := ⟨w.heap.size, 6, none⟩) (by first | exact Nat.le_refl _ | exact Nat.le_succ _) _) (p := ⟨w.heap.size, 7, none⟩) (by first | exact Nat.le_refl _ | exact Nat.le_succ _) _) (p := ⟨w.heap.size, 8, none⟩) (by first | exact Nat.le_refl _ | exact Nat.le_succ _) _) (p := ⟨w.heap.size, 9, none⟩) (by first | exact Nat.le_refl _ | exact Nat.le_succ _) _) (p := ⟨w.heap.size, 10, none⟩) (by first | exact Nat.le_refl _ | exact Nat.le_succ _) _) (p := ⟨w.heap.size, 11, none⟩) (by first | exact Nat.le_refl _ | exact Nat.le_succ _) _) (p := ⟨w.heap.size, 12, none⟩) (by first | exact Nat.le_refl _ | exact Nat.le_succ _) _)
    · obtain rfl := Option.some.inj (show some (t, (0 : Int)) = some p from HP.out)
      have hfc0 : wr.cell? ⟨w.heap.size, 0, none⟩ = some (.int .i64 0) := blk_cell HZr.out 0
      have hf0 : wr.frozen? ⟨w.heap.size, 0, none⟩ = false := blk_frozen HZr.out 0
      have hfc1 : wr.cell? ⟨w.heap.size, 1, none⟩ = some (.int .i64 0) := blk_cell HZr.out 1
      have hf1 : wr.frozen? ⟨w.heap.size, 1, none⟩ = false := blk_frozen HZr.out 1
      have hfc2 : wr.cell? ⟨w.heap.size, 2, none⟩ = some (.int .i64 0) := blk_cell HZr.out 2
      have hf2 : wr.frozen? ⟨w.heap.size, 2, none⟩ = false := blk_frozen HZr.out 2
      have hfc3 : wr.cell? ⟨w.heap.size, 3, none⟩ = some (.string (⟨#[]⟩ : ByteArray)) := blk_cell HZr.out 3
      have hf3 : wr.frozen? ⟨w.heap.size, 3, none⟩ = false := blk_frozen HZr.out 3
      have hfc4 : wr.cell? ⟨w.heap.size, 4, none⟩ = some (.int .i64 0) := blk_cell HZr.out 4
      have hf4 : wr.frozen? ⟨w.heap.size, 4, none⟩ = false := blk_frozen HZr.out 4
      have hfc5 : wr.cell? ⟨w.heap.size, 5, none⟩ = some (.int .i64 0) := blk_cell HZr.out 5
      have hf5 : wr.frozen? ⟨w.heap.size, 5, none⟩ = false := blk_frozen HZr.out 5
      have hfc6 : wr.cell? ⟨w.heap.size, 6, none⟩ = some (.int .i64 0) := blk_cell HZr.out 6
      have hf6 : wr.frozen? ⟨w.heap.size, 6, none⟩ = false := blk_frozen HZr.out 6
      have hfc7 : wr.cell? ⟨w.heap.size, 7, none⟩ = some (.int .i64 0) := blk_cell HZr.out 7
      have hf7 : wr.frozen? ⟨w.heap.size, 7, none⟩ = false := blk_frozen HZr.out 7
      have hfc8 : wr.cell? ⟨w.heap.size, 8, none⟩ = some (.int .i64 0) := blk_cell HZr.out 8
      have hf8 : wr.frozen? ⟨w.heap.size, 8, none⟩ = false := blk_frozen HZr.out 8
      have hfc9 : wr.cell? ⟨w.heap.size, 9, none⟩ = some (.string (⟨#[]⟩ : ByteArray)) := blk_cell HZr.out 9
      have hf9 : wr.frozen? ⟨w.heap.size, 9, none⟩ = false := blk_frozen HZr.out 9
      have hfc10 : wr.cell? ⟨w.heap.size, 10, none⟩ = some (.string (⟨#[]⟩ : ByteArray)) := blk_cell HZr.out 10
      have hf10 : wr.frozen? ⟨w.heap.size, 10, none⟩ = false := blk_frozen HZr.out 10
      have hfc11 : wr.cell? ⟨w.heap.size, 11, none⟩ = some (.string (⟨#[]⟩ : ByteArray)) := blk_cell HZr.out 11
      have hf11 : wr.frozen? ⟨w.heap.size, 11, none⟩ = false := blk_frozen HZr.out 11
      have hfc12 : wr.cell? ⟨w.heap.size, 12, none⟩ = some (.string (⟨#[]⟩ : ByteArray)) := blk_cell HZr.out 12
      have hf12 : wr.frozen? ⟨w.heap.size, 12, none⟩ = false := blk_frozen HZr.out 12
      have hg0 : wr.cell? ⟨gt, 0, none⟩ = some (.int .i64 t.f0) := blk_cell HGr.out 0
      have hg1 : wr.cell? ⟨gt, 1, none⟩ = some (.int .i64 t.f1) := blk_cell HGr.out 1
      have hg2 : wr.cell? ⟨gt, 2, none⟩ = some (.int .i64 t.f2) := blk_cell HGr.out 2
      have hg3 : wr.cell? ⟨gt, 3, none⟩ = some (.string t.f3.f0) := blk_cell HGr.out 3
      have hg4 : wr.cell? ⟨gt, 4, none⟩ = some (.int .i64 t.f3.f1) := blk_cell HGr.out 4
      have hg5 : wr.cell? ⟨gt, 5, none⟩ = some (.int .i64 t.f3.f2) := blk_cell HGr.out 5
      have hg6 : wr.cell? ⟨gt, 6, none⟩ = some (.int .i64 t.f3.f3) := blk_cell HGr.out 6
      have hg7 : wr.cell? ⟨gt, 7, none⟩ = some (.int .i64 t.f4) := blk_cell HGr.out 7
      have hg8 : wr.cell? ⟨gt, 8, none⟩ = some (.int .i64 t.f5) := blk_cell HGr.out 8
      have hg9 : wr.cell? ⟨gt, 9, none⟩ = some (.string t.f6.f0) := blk_cell HGr.out 9
      have hg10 : wr.cell? ⟨gt, 10, none⟩ = some (.string t.f6.f1) := blk_cell HGr.out 10
      have hg11 : wr.cell? ⟨gt, 11, none⟩ = some (.string t.f7.f0) := blk_cell HGr.out 11
      have hg12 : wr.cell? ⟨gt, 12, none⟩ = some (.string t.f7.f1) := blk_cell HGr.out 12
      go_wp2_with fail
      refine bodyPost_ret (results_ct rfl _ _ w.heap.size 27 #[.int .i64 t.f0, .int .i64 t.f1, .int .i64 t.f2, .string t.f3.f0, .int .i64 t.f3.f1, .int .i64 t.f3.f2, .int .i64 t.f3.f3, .int .i64 t.f4, .int .i64 t.f5, .string t.f6.f0, .string t.f6.f1, .string t.f7.f0, .string t.f7.f1] (0, 0) _ rfl (blk_put (cs := #[.int .i64 t.f0, .int .i64 t.f1, .int .i64 t.f2, .string t.f3.f0, .int .i64 t.f3.f1, .int .i64 t.f3.f2, .int .i64 t.f3.f3, .int .i64 t.f4, .int .i64 t.f5, .string t.f6.f0, .string t.f6.f1, .string t.f7.f0, .string (⟨#[]⟩ : ByteArray)]) (blk_put (cs := #[.int .i64 t.f0, .int .i64 t.f1, .int .i64 t.f2, .string t.f3.f0, .int .i64 t.f3.f1, .int .i64 t.f3.f2, .int .i64 t.f3.f3, .int .i64 t.f4, .int .i64 t.f5, .string t.f6.f0, .string t.f6.f1, .string (⟨#[]⟩ : ByteArray), .string (⟨#[]⟩ : ByteArray)]) (blk_put (cs := #[.int .i64 t.f0, .int .i64 t.f1, .int .i64 t.f2, .string t.f3.f0, .int .i64 t.f3.f1, .int .i64 t.f3.f2, .int .i64 t.f3.f3, .int .i64 t.f4, .int .i64 t.f5, .string t.f6.f0, .string (⟨#[]⟩ : ByteArray), .string (⟨#[]⟩ : ByteArray), .string (⟨#[]⟩ : ByteArray)]) (blk_put (cs := #[.int .i64 t.f0, .int .i64 t.f1, .int .i64 t.f2, .string t.f3.f0, .int .i64 t.f3.f1, .int .i64 t.f3.f2, .int .i64 t.f3.f3, .int .i64 t.f4, .int .i64 t.f5, .string (⟨#[]⟩ : ByteArray), .string (⟨#[]⟩ : ByteArray), .string (⟨#[]⟩ : ByteArray), .string (⟨#[]⟩ : ByteArray)]) (blk_put (cs := #[.int .i64 t.f0, .int .i64 t.f1, .int .i64 t.f2, .string t.f3.f0, .int .i64 t.f3.f1, .int .i64 t.f3.f2, .int .i64 t.f3.f3, .int .i64 t.f4, .int .i64 0, .string (⟨#[]⟩ : ByteArray), .string (⟨#[]⟩ : ByteArray), .string (⟨#[]⟩ : ByteArray), .string (⟨#[]⟩ : ByteArray)]) (blk_put (cs := #[.int .i64 t.f0, .int .i64 t.f1, .int .i64 t.f2, .string t.f3.f0, .int .i64 t.f3.f1, .int .i64 t.f3.f2, .int .i64 t.f3.f3, .int .i64 0, .int .i64 0, .string (⟨#[]⟩ : ByteArray), .string (⟨#[]⟩ : ByteArray), .string (⟨#[]⟩ : ByteArray), .string (⟨#[]⟩ : ByteArray)]) (blk_put (cs := #[.int .i64 t.f0, .int .i64 t.f1, .int .i64 t.f2, .string t.f3.f0, .int .i64 t.f3.f1, .int .i64 t.f3.f2, .int .i64 0, .int .i64 0, .int .i64 0, .string (⟨#[]⟩ : ByteArray), .string (⟨#[]⟩ : ByteArray), .string (⟨#[]⟩ : ByteArray), .string (⟨#[]⟩ : ByteArray)]) (blk_put (cs := #[.int .i64 t.f0, .int .i64 t.f1, .int .i64 t.f2, .string t.f3.f0, .int .i64 t.f3.f1, .int .i64 0, .int .i64 0, .int .i64 0, .int .i64 0, .string (⟨#[]⟩ : ByteArray), .string (⟨#[]⟩ : ByteArray), .string (⟨#[]⟩ : ByteArray), .string (⟨#[]⟩ : ByteArray)]) (blk_put (cs := #[.int .i64 t.f0, .int .i64 t.f1, .int .i64 t.f2, .string t.f3.f0, .int .i64 0, .int .i64 0, .int .i64 0, .int .i64 0, .int .i64 0, .string (⟨#[]⟩ : ByteArray), .string (⟨#[]⟩ : ByteArray), .string (⟨#[]⟩ : ByteArray), .string (⟨#[]⟩ : ByteArray)]) (blk_put (cs := #[.int .i64 t.f0, .int .i64 t.f1, .int .i64 t.f2, .string (⟨#[]⟩ : ByteArray), .int .i64 0, .int .i64 0, .int .i64 0, .int .i64 0, .int .i64 0, .string (⟨#[]⟩ : ByteArray), .string (⟨#[]⟩ : ByteArray), .string (⟨#[]⟩ : ByteArray), .string (⟨#[]⟩ : ByteArray)]) (blk_put (cs := #[.int .i64 t.f0, .int .i64 t.f1, .int .i64 0, .string (⟨#[]⟩ : ByteArray), .int .i64 0, .int .i64 0, .int .i64 0, .int .i64 0, .int .i64 0, .string (⟨#[]⟩ : ByteArray), .string (⟨#[]⟩ : ByteArray), .string (⟨#[]⟩ : ByteArray), .string (⟨#[]⟩ : ByteArray)]) (blk_put (cs := #[.int .i64 t.f0, .int .i64 0, .int .i64 0, .string (⟨#[]⟩ : ByteArray), .int .i64 0, .int .i64 0, .int .i64 0, .int .i64 0, .int .i64 0, .string (⟨#[]⟩ : ByteArray), .string (⟨#[]⟩ : ByteArray), .string (⟨#[]⟩ : ByteArray), .string (⟨#[]⟩ : ByteArray)]) (blk_put (cs := #[.int .i64 0, .int .i64 0, .int .i64 0, .string (⟨#[]⟩ : ByteArray), .int .i64 0, .int .i64 0, .int .i64 0, .int .i64 0, .int .i64 0, .string (⟨#[]⟩ : ByteArray), .string (⟨#[]⟩ : ByteArray), .string (⟨#[]⟩ : ByteArray), .string (⟨#[]⟩ : ByteArray)]) (HZr.out) 0 _ rfl) 1 _ rfl) 2 _ rfl) 3 _ rfl) 4 _ rfl) 5 _ rfl) 6 _ rfl) 7 _ rfl) 8 _ rfl) 9 _ rfl) 10 _ rfl) 11 _ rfl) 12 _ rfl) Tryz.underlying27 rfl (by kernel_rfl)) rfl ⟨rfl, ?_⟩
      exact (Below.setCell (Below.setCell (Below.setCell (Below.setCell (Below.setCell (Below.setCell (Below.setCell (Below.setCell (Below.setCell (Below.setCell (Below.setCell (Below.setCell (Below.setCell HBr.out (p := ⟨w.heap.size, 0, none⟩) (by first | exact Nat.le_refl _ | exact Nat.le_succ _) _) (p := ⟨w.heap.size, 1, none⟩) (by first | exact Nat.le_refl _ | exact Nat.le_succ _) _) (p := ⟨w.heap.size, 2, none⟩) (by first | exact Nat.le_refl _ | exact Nat.le_succ _) _) (p := ⟨w.heap.size, 3, none⟩) (by first | exact Nat.le_refl _ | exact Nat.le_succ _) _) (p := ⟨w.heap.size, 4, none⟩) (by first | exact Nat.le_refl _ | exact Nat.le_succ _) _) (p := ⟨w.heap.size, 5, none⟩) (by first | exact Nat.le_refl _ | exact Nat.le_succ _) _) (p := ⟨w.heap.size, 6, none⟩) (by first | exact Nat.le_refl _ | exact Nat.le_succ _) _) (p := ⟨w.heap.size, 7, none⟩) (by first | exact Nat.le_refl _ | exact Nat.le_succ _) _) (p := ⟨w.heap.size, 8, none⟩) (by first | exact Nat.le_refl _ | exact Nat.le_succ _) _) (p := ⟨w.heap.size, 9, none⟩) (by first | exact Nat.le_refl _ | exact Nat.le_succ _) _) (p := ⟨w.heap.size, 10, none⟩) (by first | exact Nat.le_refl _ | exact Nat.le_succ _) _) (p := ⟨w.heap.size, 11, none⟩) (by first | exact Nat.le_refl _ | exact Nat.le_succ _) _) (p := ⟨w.heap.size, 12, none⟩) (by first | exact Nat.le_refl _ | exact Nat.le_succ _) _)
theorem trade_Parse.calls (k : Nat) (a0 : ByteArray) (r1 r2 r3 : Int) (r4 : ByteArray) (r5 r6 r7 r8 r9 : Int) (r10 r11 r12 r13 : ByteArray) (r14 : Int) (w : World) (h : trade_Parse.f k a0 = some (r1, r2, r3, r4, r5, r6, r7, r8, r9, r10, r11, r12, r13, r14)) (hGL : GlobD w) :
    Calls Tryz.prog 13 #[.string a0] w fun e w' => e = .returned (.tuple #[.agg #[.int .i64 r1, .int .i64 r2, .int .i64 r3, .string r4, .int .i64 r5, .int .i64 r6, .int .i64 r7, .int .i64 r8, .int .i64 r9, .string r10, .string r11, .string r12, .string r13], .int .i64 r14]) ∧ Below w.heap.size w w' := by
  unfold trade_Parse.f at h
  obtain ⟨p, hp, h⟩ := Option.bind_eq_some_iff.1 h
  simp only [Option.some.injEq, Prod.mk.injEq] at h
  obtain ⟨rfl, rfl, rfl, rfl, rfl, rfl, rfl, rfl, rfl, rfl, rfl, rfl, rfl, rfl⟩ := h
  exact parse_core k a0 p w hp hGL
def date_here.f (a0 : Int) : Option (Bool) := if a0 ≥ 0 then (some (decide (a0 ≤ 73048))) else (some false)
set_option maxHeartbeats 8000000 in
set_option maxRecDepth 100000 in
theorem date_here.calls (a0 : Int) (r : Bool) (w : World) (h : date_here.f a0 = some r) :
    Calls Tryz.prog 175 #[.int .i64 a0] w fun e w' => e = .returned (.bool r) ∧ Drawn0 w w' := by
  have H : (if a0 ≥ 0 then (some (decide (a0 ≤ 73048))) else (some false)) = some r := h
  clear h
  by_cases c2 : a0 ≥ 0
  · rw [if_pos c2] at H
    have c2b0 : decide (0 ≤ a0) = true := decide_eq_true c2
    clear c2
    obtain rfl := Option.some.inj H
    go_enter Tryz.func175, Tryz.ntmps175
    go_wp2
    go_ret
    exact ⟨eqs, drz⟩
  · rw [if_neg c2] at H
    have c2b0 : decide (0 ≤ a0) = false := decide_eq_false c2
    clear c2
    obtain rfl := Option.some.inj H
    go_enter Tryz.func175, Tryz.ntmps175
    go_wp2
    go_ret
    exact ⟨eqs, drz⟩
end Go.Proofs.YthpmmofleddpnaaGreatDoor.X
end
