/- For ProductRounds: contracts, and facts on lists and numbers, that it uses (part 4). -/
import Derived.Test.YtieifncibojciaaDoorProductRoundsc3
section
namespace Go.Proofs.YtieifncibojciaaDoor.P
set_option linter.unusedVariables false
set_option linter.unusedSimpArgs false
open Go.RowKit Go.Proofs.YtieifncibojciaaDoorW.PrintWords Go.Proofs.YtieifncibojciaaDoorW.PrintMore Go.Proofs.YtieifncibojciaaDoor.X
def roundE (p : Prod9) (n m : Int) : Int × Int := if prodE p = 0 then (if -16777216 ≤ n ∧ n ≤ 16777216 then (if 1 ≤ m ∧ m ≤ 5 then (prodRound p n m, 0) else (0, 2)) else (0, 17)) else (0, prodE p)
theorem szI_small {n : Int} (h : -16777216 ≤ n ∧ n ≤ 16777216) : szI n * szI 1 < 18446744073709551616 := by
  have e1 : szI (1 : Int) = 1 := rfl
  rw [e1]
  unfold szI
  split <;> omega
theorem roundE_f (p : Prod9) (n m : Int) : Ev (fun k => product_Round.f k p.f0 p.f1 p.f2 p.f3 p.f4 p.f5 p.f6 n m) (roundE p n m) := by
  by_cases h : prodE p = 0
  case neg =>
    unfold roundE product_Round.f
    rw [if_neg h]
    refine Ev_bind (prod_f p) ?_
    simp only [if_neg h]
    exact Ev.now _
  by_cases hn : -16777216 ≤ n ∧ n ≤ 16777216
  case neg =>
    unfold roundE product_Round.f
    rw [if_pos h, if_neg hn]
    refine Ev_bind (prod_f p) ?_
    simp only [if_pos h, pwithin_f, Option.bind_some, and_iff, if_neg hn]
    exact Ev.now _
  by_cases hm : 1 ≤ m ∧ m ≤ 5
  case pos =>
    have e : roundE p n m = (prodRound p n m, 0) := by unfold roundE; rw [if_pos h, if_pos hn, if_pos hm]
    rw [e]
    exact prodRound_f p n m h hn hm
  unfold roundE product_Round.f
  rw [if_pos h, if_pos hn, if_neg hm]
  refine Ev_bind (prod_f p) ?_
  have e : mulDiv n 1 p.f3 m = (0, 2) := by unfold mulDiv; rw [if_neg (fun g => hm g.2.2.2)]
  simp only [if_pos h, pwithin_f, Option.bind_some, and_iff, if_pos hn, mulDiv_f _ n 1 p.f3 m (szI_small hn), e, if_neg (show ¬ (2 : Int) = 0 by decide)]
  exact Ev.now _
theorem pwithin2_f (n c : Int) (h0 : 0 ≤ c) (h1 : c ≤ 4611686018427387904) : product_within.f n c = some (decide (-c ≤ n) && decide (n ≤ c)) := by
  unfold product_within.f
  rw [w_id (x := -c) (by omega) (by omega)]
  by_cases h : -c ≤ n
  · rw [if_pos h, decide_eq_true h, Bool.true_and]
  · rw [if_neg h, decide_eq_false h, Bool.false_and]
def valE (p : Prod9) (n q : Int) : Int × Int := if prodE p = 0 then (if -33554432 ≤ n ∧ n ≤ 33554432 then (if -1048576 ≤ q ∧ q ≤ 1048576 then (wrap64 (wrap64 (n * p.f2) * q), 0) else (0, 18)) else (0, 17)) else (0, prodE p)
theorem valE_f (p : Prod9) (n q : Int) : Ev (fun k => product_Value.f k p.f0 p.f1 p.f2 p.f3 p.f4 p.f5 p.f6 n q) (valE p n q) := by
  unfold valE product_Value.f
  refine Ev_bind (prod_f p) ?_
  by_cases h : prodE p = 0
  · simp only [if_pos h, pwithin2_f n 33554432 (by decide) (by decide), Option.bind_some, and_iff]
    by_cases hn : -33554432 ≤ n ∧ n ≤ 33554432
    · simp only [if_pos hn, pwithin2_f q 1048576 (by decide) (by decide), Option.bind_some, and_iff]
      by_cases hq : -1048576 ≤ q ∧ q ≤ 1048576
      · simp only [if_pos hq]; exact Ev.now _
      · simp only [if_neg hq]; exact Ev.now _
    · simp only [if_neg hn]; exact Ev.now _
  · simp only [if_neg h]; exact Ev.now _
end Go.Proofs.YtieifncibojciaaDoor.P
end
section
namespace Go.Proofs.YtieifncibojciaaDoor.P
open Go.RowKit Go.Proofs.YtieifncibojciaaDoorW.PrintWords Go.Proofs.YtieifncibojciaaDoorW.PrintMore Go.Proofs.YtieifncibojciaaDoor.X
set_option maxRecDepth 100000 in
theorem goes09 : Ev (fun k => contangolaw09_goes.f k) true := Ev.of (k := 60) (contangolaw09_goes.mono) (by decide +kernel)
end Go.Proofs.YtieifncibojciaaDoor.P
end
section
namespace Go.Proofs.YtieifncibojciaaDoor.Pure
set_option linter.unusedVariables false
set_option linter.unusedSimpArgs false
open Go.RowKit Go.Proofs.YtieifncibojciaaDoorW.PrintWords Go.Proofs.YtieifncibojciaaDoorW.PrintMore Go.Proofs.YtieifncibojciaaDoor.X Go.Proofs.YtieifncibojciaaDoor.P
theorem round_ok {p : Prod9} (h : prodE p = 0) {n m : Int} (hn : -16777216 ≤ n ∧ n ≤ 16777216) (hm : 1 ≤ m ∧ m ≤ 5) : prodPrice p (prodRound p n m) = 0 := by
  have hok := prodE_zero h
  unfold ProdOk at hok
  obtain ⟨m1, m2, m3, m4, m5, m6, m7⟩ := md_one (S := n) (c := p.f3) (m := m) (by omega) (by omega) hm
  have hc := clamp_rng (n := wrap64 ((mdV n 1 p.f3 m).1 * p.f3)) (show p.f4 ≤ p.f5 by omega)
  have ht : Int.tmod (prodRound p n m) p.f3 = 0 := by
    unfold prodRound
    generalize (mdV n 1 p.f3 m).1 = q at m4 m5
    have ew : wrap64 (q * p.f3) = q * p.f3 := w_id (by omega) (by omega)
    rw [ew]
    unfold clampI
    split
    · exact hok.2.2.2.2.2.2.2.1
    · split
      · exact hok.2.2.2.2.2.2.2.2
      · exact mul_tmod _ _
  unfold prodPrice
  rw [if_pos h]
  unfold prodRound at ht ⊢
  rw [if_neg (by omega), if_pos ht]
theorem round_stays {p : Prod9} {n m : Int} (h : prodPrice p n = 0) (hm : 1 ≤ m ∧ m ≤ 5) : prodE p = 0 ∧ (-16777216 ≤ n ∧ n ≤ 16777216) ∧ prodRound p n m = n := by
  have he : prodE p = 0 := by
    unfold prodPrice at h
    by_cases c : prodE p = 0
    · exact c
    · rw [if_neg c] at h; exact absurd h c
  have hok := prodE_zero he
  unfold ProdOk at hok
  unfold prodPrice at h
  rw [if_pos he] at h
  by_cases c1 : n < p.f4 ∨ n > p.f5
  · rw [if_pos c1] at h; exact absurd h (by decide)
  rw [if_neg c1] at h
  by_cases c2 : Int.tmod n p.f3 = 0
  case neg => rw [if_neg c2] at h; exact absurd h (by decide)
  have hn : -16777216 ≤ n ∧ n ≤ 16777216 := by omega
  refine ⟨he, hn, ?_⟩
  obtain ⟨m1, m2, m3, m4, m5, m6, m7⟩ := md_one (S := n) (c := p.f3) (m := m) (by omega) (by omega) hm
  obtain ⟨z, hz⟩ := tmod_mul c2
  have hq : (mdV n 1 p.f3 m).1 = z := by
    generalize (mdV n 1 p.f3 m).1 = q at m4 m5
    have a1 : q * p.f3 < (z + 1) * p.f3 := by rw [Int.add_mul, ← hz]; omega
    have a2 : (z - 1) * p.f3 < q * p.f3 := by rw [Int.sub_mul, ← hz]; omega
    have b1 := lt_of_mulp (by omega) a1
    have b2 := lt_of_mulp (by omega) a2
    omega
  unfold prodRound
  rw [hq, ← hz, w_id (by omega) (by omega), clamp_id (by omega) (by omega)]
theorem mul_rng {a b A B : Int} (ha : -A ≤ a ∧ a ≤ A) (hb : -B ≤ b ∧ b ≤ B) : -(A * B) ≤ a * b ∧ a * b ≤ A * B := by
  have h1 : a.natAbs ≤ A.natAbs := by omega
  have h2 : b.natAbs ≤ B.natAbs := by omega
  have h3 := Nat.mul_le_mul h1 h2
  rw [← Int.natAbs_mul] at h3
  have h4 : ((A.natAbs * B.natAbs : Nat) : Int) = A * B := by
    rw [Int.natCast_mul, Int.natAbs_of_nonneg (by omega), Int.natAbs_of_nonneg (by omega)]
  omega
theorem val_of {p : Prod9} {n q : Int} (h : (valE p n q).2 = 0) : prodE p = 0 ∧ (-33554432 ≤ n ∧ n ≤ 33554432) ∧ (-1048576 ≤ q ∧ q ≤ 1048576) := by
  unfold valE at h
  by_cases c1 : prodE p = 0
  case neg => rw [if_neg c1] at h; exact absurd h c1
  rw [if_pos c1] at h
  by_cases c2 : -33554432 ≤ n ∧ n ≤ 33554432
  case neg => rw [if_neg c2] at h; exact absurd h (by decide)
  rw [if_pos c2] at h
  by_cases c3 : -1048576 ≤ q ∧ q ≤ 1048576
  case neg => rw [if_neg c3] at h; exact absurd h (by decide)
  exact ⟨c1, c2, c3⟩
theorem val_eq {p : Prod9} {n q : Int} (h1 : prodE p = 0) (h2 : -33554432 ≤ n ∧ n ≤ 33554432) (h3 : -1048576 ≤ q ∧ q ≤ 1048576) : valE p n q = (n * p.f2 * q, 0) ∧ -144115188075855872 ≤ n * p.f2 * q ∧ n * p.f2 * q ≤ 144115188075855872 := by
  have hp : 1 ≤ p.f2 ∧ p.f2 ≤ 4096 := by
    have h := h1
    unfold prodE at h
    by_cases a : nameB p.f0 = true
    case neg => rw [if_neg a] at h; exact absurd h (by decide)
    rw [if_pos a] at h
    by_cases b : p.f1 < 0 ∨ p.f1 ≥ 8
    · rw [if_pos b] at h; exact absurd h (by decide)
    rw [if_neg b] at h
    by_cases c : p.f2 < 1 ∨ p.f2 > 4096
    · rw [if_pos c] at h; exact absurd h (by decide)
    omega
  have a1 := mul_rng (a := n) (b := p.f2) (A := 33554432) (B := 4096) (by omega) (by omega)
  have a2 := mul_rng (a := n * p.f2) (b := q) (A := 33554432 * 4096) (B := 1048576) a1 (by omega)
  have e1 : (33554432 * 4096 : Int) = 137438953472 := by decide
  have e2 : (33554432 * 4096 * 1048576 : Int) = 144115188075855872 := by decide
  rw [e1] at a1
  rw [e2] at a2
  refine ⟨?_, a2.1, a2.2⟩
  unfold valE
  rw [if_pos h1, if_pos h2, if_pos h3, w_id (x := n * p.f2) (by omega) (by omega), w_id (by omega) (by omega)]
theorem adds (p : Prod9) (n q0 q1 : Int) (h1 : -9223372036854775808 ≤ n ∧ n ≤ 9223372036854775807) : Ev (fun k => contangolaw09_ProductRounds.l0 k n 6 p.f0 p.f1 p.f2 p.f3 p.f4 p.f5 p.f6 q0 q1) true := by
  refine Ev_succ ?_
  simp only [contangolaw09_ProductRounds.l0, if_neg (show ¬ (6 : Int) ≤ 5 by decide)]
  refine Ev_bind (valE_f p n q0) ?_
  refine Ev_bind (valE_f p n q1) ?_
  refine Ev_bind (valE_f p (wrap64 (-n)) q0) ?_
  have done : ∀ a b c : Int, Ev (fun k => contangolaw09_ProductRounds.j1 k n a b c true p.f0 p.f1 p.f2 p.f3 p.f4 p.f5 p.f6 q0 q1) true := by
    intro a b c
    refine Ev_succ ?_
    simp only [contangolaw09_ProductRounds.j1, if_true]
    exact Ev_id goes09
  by_cases c1 : (valE p n q0).2 = 0
  case neg => simp only [if_neg c1]; exact done _ _ _
  simp only [if_pos c1]
  by_cases c2 : (valE p n q1).2 = 0
  case neg => simp only [if_neg c2]; exact done _ _ _
  simp only [if_pos c2]
  by_cases c3 : (valE p (wrap64 (-n)) q0).2 = 0
  case neg =>
    have e : ((valE p (wrap64 (-n)) q0).2 != 0) = true := bne_iff_ne.2 c3
    rw [e]
    exact done _ _ _
  have e : ((valE p (wrap64 (-n)) q0).2 != 0) = false := by rw [c3]; rfl
  rw [e]
  obtain ⟨k1, k2, k3⟩ := val_of c1
  obtain ⟨_, _, k4⟩ := val_of c2
  have hw : wrap64 (-n) = -n := w_id (by omega) (by omega)
  rw [hw]
  obtain ⟨v1, v2, v3⟩ := val_eq k1 k2 k3
  obtain ⟨u1, u2, u3⟩ := val_eq k1 k2 k4
  obtain ⟨t1, t2, t3⟩ := val_eq (n := -n) k1 (by omega) k3
  rw [v1, u1, t1]
  have hneg : -n * p.f2 * q0 = -(n * p.f2 * q0) := by rw [Int.neg_mul, Int.neg_mul]
  refine Ev_succ ?_
  simp only [contangolaw09_ProductRounds.j1, Bool.false_eq_true, if_false]
  rw [w_id (x := q0 + q1) (by omega) (by omega)]
  refine Ev_bind (valE_f p n (q0 + q1)) ?_
  simp only [hneg, w_id (x := -(n * p.f2 * q0)) (by omega) (by omega), if_true]
  by_cases c4 : -1048576 ≤ q0 + q1 ∧ q0 + q1 ≤ 1048576
  · obtain ⟨s1, s2, s3⟩ := val_eq k1 k2 c4
    have hadd : n * p.f2 * (q0 + q1) = n * p.f2 * q0 + n * p.f2 * q1 := Int.mul_add _ _ _
    rw [s1]
    simp only [if_true, hadd, w_id (x := n * p.f2 * q0 + n * p.f2 * q1) (by omega) (by omega)]
    exact Ev_id goes09
  · have e4 : valE p n (q0 + q1) = (0, 18) := by unfold valE; rw [if_pos k1, if_pos k2, if_neg c4]
    rw [e4]
    simp only [if_neg (show ¬ (18 : Int) = 0 by decide), if_true]
    exact Ev_id goes09
theorem rounds_step (p : Prod9) (n q0 q1 : Int) (h1 : -9223372036854775808 ≤ n ∧ n ≤ 9223372036854775807) (m : Int) (hm : 1 ≤ m ∧ m ≤ 5) (ih : Ev (fun k => contangolaw09_ProductRounds.l0 k n (m + 1) p.f0 p.f1 p.f2 p.f3 p.f4 p.f5 p.f6 q0 q1) true) : Ev (fun k => contangolaw09_ProductRounds.l0 k n m p.f0 p.f1 p.f2 p.f3 p.f4 p.f5 p.f6 q0 q1) true := by
  refine Ev_succ ?_
  simp only [contangolaw09_ProductRounds.l0, if_pos (show m ≤ 5 by omega), w_id (x := m + 1) (by omega) (by omega)]
  refine Ev_bind (roundE_f p n m) ?_
  by_cases c1 : (roundE p n m).2 = 0
  · simp only [if_pos c1]
    have hr : prodE p = 0 ∧ (-16777216 ≤ n ∧ n ≤ 16777216) ∧ roundE p n m = (prodRound p n m, 0) := by
      unfold roundE at c1 ⊢
      by_cases a : prodE p = 0
      case neg => rw [if_neg a] at c1; exact absurd c1 a
      rw [if_pos a] at c1 ⊢
      by_cases b : -16777216 ≤ n ∧ n ≤ 16777216
      case neg => rw [if_neg b] at c1; exact absurd c1 (by decide)
      rw [if_pos b, if_pos hm]
      exact ⟨a, b, rfl⟩
    obtain ⟨r1, r2, r3⟩ := hr
    rw [r3]
    refine Ev_bind (prodPrice_f p (prodRound p n m)) ?_
    simp only [if_pos (round_ok r1 r2 hm)]
    refine Ev_bind (prodPrice_f p n) ?_
    by_cases c2 : prodPrice p n = 0
    · simp only [if_pos c2, if_pos (round_stays c2 hm).2.2]; exact ih
    · simp only [if_neg c2]; exact ih
  · simp only [if_neg c1]
    refine Ev_bind (prodPrice_f p n) ?_
    have c2 : ¬ prodPrice p n = 0 := by
      intro c2
      obtain ⟨a, b, _⟩ := round_stays c2 hm
      apply c1
      unfold roundE
      rw [if_pos a, if_pos b, if_pos hm]
    simp only [if_neg c2]
    exact ih
theorem ProductRounds : ∀ (x0 : S45) (a1 : Int) (x2 : S46), ok45 x0 → (Lit.int .i64 a1).wf = true → ok46 x2 → ∃ k, X.contangolaw09_ProductRounds.f k x0.f0 x0.f1 x0.f2 x0.f3 x0.f4 x0.f5 x0.f6 a1 x2.f0 x2.f1 = some true := by
  intro p n q h0 h1 h2
  have hn := wf_rng h1
  refine Ev.rounds ?_
  unfold contangolaw09_ProductRounds.f
  refine rounds_step p n _ _ hn 1 (by omega) ?_
  refine rounds_step p n _ _ hn 2 (by omega) ?_
  refine rounds_step p n _ _ hn 3 (by omega) ?_
  refine rounds_step p n _ _ hn 4 (by omega) ?_
  refine rounds_step p n _ _ hn 5 (by omega) ?_
  exact adds p n _ _ hn
end Go.Proofs.YtieifncibojciaaDoor.Pure
end
