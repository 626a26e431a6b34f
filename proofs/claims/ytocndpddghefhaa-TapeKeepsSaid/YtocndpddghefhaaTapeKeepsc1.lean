/- For TapeKeeps: contracts, and facts on lists and numbers, that it uses (part 1). -/
import Derived.ArgAppend
import Derived.Below
import Derived.BigQuiet
import Derived.BigRegion
import Derived.ChangeAlike
import Derived.Deep.AppendLies
import Derived.Deep.CutBlock
import Derived.Deep.DeepCutAuto
import Derived.Deep.Draws
import Derived.Deep.LoopGhost
import Derived.Deep.OwnRows
import Derived.Deep.QuietTactic
import Derived.Deep.RegionHeld3
import Derived.KernelRfl
import Derived.Laws.BitsLemmas
import Derived.Laws.BytesArg
import Derived.Laws.IdiomCopy
import Derived.Laws.MakeOwn
import Derived.Laws.OwnMore
import Derived.Laws.Rows
import Derived.Laws.Slices
import Derived.Lib.AppendStr
import Derived.Lib.ConvBytes
import Derived.Maps.AppendAt
import Derived.OrdersHeld
import Derived.OwnWalk
import Derived.RegionTactic
import Derived.RowKit
import Derived.RowKit3
import Derived.Tactics
import Derived.Test.YtocndpddghefhaaProg
import Derived.Test.YtocndpddghefhaaTapeKeepsc0
import Derived.WalkKit
import Derived.WideLaws
section
namespace Go.Proofs.Ytocndpddghefhaa.Fix
theorem bl_gtr : ∀ a b : List UInt8, (!(Op.bytesLess a b || a == b)) = Op.bytesLess b a
  | [], [] => rfl
  | [], y :: b => by simp [Op.bytesLess]
  | x :: a, [] => by simp [Op.bytesLess]
  | x :: a, y :: b => by
    have ih := bl_gtr a b
    simp only [Op.bytesLess]
    by_cases h : x = y
    · subst h
      have : ¬ x < x := by simp
      simp only [this, decide_false, Bool.false_or, beq_self_eq_true, Bool.true_and, ← ih]
      congr 1
      simp
    · have h1 : (x == y) = false := by simpa using h
      have h2 : (y == x) = false := by simpa using fun e => h e.symm
      have h3 : (x :: a == y :: b) = false := by simp [h]
      rw [h1, h2, h3]
      simp only [Bool.false_and, Bool.or_false]
      have : decide (y < x) = !decide (x < y) := by
        rw [Bool.eq_iff_iff]
        simp only [decide_eq_true_eq, Bool.not_eq_true', decide_eq_false_iff_not, UInt8.lt_iff_toNat_lt]
        have : x.toNat ≠ y.toNat := fun e => h (UInt8.toNat_inj.1 e)
        omega
      rw [this]
@[go_sem high] theorem x_string_gtr (t : TypeId) (a b : ByteArray) : binOp .gtr t (.string a) (.string b) = pure (.bool (Op.bytesLess b.toList a.toList)) := by
  rw [← bl_gtr]; simp [binOp, Op.stringOp]
@[go_sem high] theorem x_string_leq (t : TypeId) (a b : ByteArray) : binOp .leq t (.string a) (.string b) = pure (.bool (!(Op.bytesLess b.toList a.toList))) := by
  rw [← bl_gtr, Bool.not_not]; simp [binOp, Op.stringOp]
@[go_sem high] theorem x_string_geq (t : TypeId) (a b : ByteArray) : binOp .geq t (.string a) (.string b) = pure (.bool (!(Op.bytesLess a.toList b.toList))) := by
  simp [binOp, Op.stringOp]
end Go.Proofs.Ytocndpddghefhaa.Fix
end
section
namespace Go.Proofs.Ytocndpddghefhaa.X
open Go.RowKit Go.Proofs.YtocndpddghefhaaW.PrintWords Go.Proofs.YtocndpddghefhaaW.PrintLast Go.Proofs.YtocndpddghefhaaW.PrintMore
attribute [local go_sem] max2_int min2_int max_two min_two max_three min_three max_four min_four
set_option linter.unusedVariables false
set_option linter.unusedSimpArgs false
def errW : Option Int → Value
  | none => .nilIface
  | some c => .iface 0 (.int .i64 c)
theorem errW_none : errW none = .nilIface := rfl
theorem errW_some (c : Int) : errW (some c) = .iface 0 (.int .i64 c) := rfl
theorem info49 : (Try.prog.info? 49).map (fun i => (i.zero, i.size, i.bytes)) = some (some (.agg #[(.int .i64 0), (.int .i64 0), (.int .i64 0)]), 3, 24) := by kernel_rfl
structure S49 where
  f0 : Int
  f1 : Int
  f2 : Int
def z49 : S49 := ⟨(0 : Int), (0 : Int), (0 : Int)⟩
def k49 : Kd S49 := Kd.iso (Kd.pair (Kd.int .i64) (Kd.pair (Kd.int .i64) (Kd.int .i64))) (fun x : S49 => (x.f0, x.f1, x.f2))
theorem k49_open {w : World} {x : S49} {cs : List Value} (h : k49.K w x cs) : cs = [.int .i64 x.f0, .int .i64 x.f1, .int .i64 x.f2] := by
  obtain ⟨_, _, rfl, rfl, ⟨_, _, rfl, rfl, rfl⟩⟩ := h
  exact rfl
theorem k49_mkM (w : World) (base : Nat) (ok : Nat → Prop) (x : S49)  : k49.M w base ok x [.int .i64 x.f0, .int .i64 x.f1, .int .i64 x.f2] := ⟨[.int .i64 x.f0], [.int .i64 x.f1, .int .i64 x.f2], rfl, rfl, ⟨[.int .i64 x.f1], [.int .i64 x.f2], rfl, rfl, rfl⟩⟩
def rd_T49 (xs : List S49) (i : Int) : S49 := xs.getD i.toNat z49
theorem at_T49 {w : World} {A : Option Addr} {n : Nat} {xs : List S49} (h : Kd.C k49 w A n xs) (i : Int) (h0 : 0 ≤ i) (h1 : i < n) : ∃ ad , A = some ad ∧ w.cell? (ad.add (i.toNat * 3)) = some (.int .i64 (rd_T49 xs i).f0) ∧ w.cell? ⟨(ad.add (i.toNat * 3)).block, (ad.add (i.toNat * 3)).off + 1, none⟩ = some (.int .i64 (rd_T49 xs i).f1) ∧ w.cell? ⟨(ad.add (i.toNat * 3)).block, (ad.add (i.toNat * 3)).off + 2, none⟩ = some (.int .i64 (rd_T49 xs i).f2) := by
  obtain ⟨ad, c, e, _, hK, hc0⟩ := Kd.C_get h z49 i h0 h1
  have hc : ∀ j u, c[j]? = some u → w.cell? (ad.add (i.toNat * 3 + j)) = some u := hc0
  obtain rfl := k49_open hK
  exact ⟨ad, e, hc 0 _ rfl, by rw [← add_field _ _ 1 (by omega)]; exact hc 1 _ rfl, by rw [← add_field _ _ 2 (by omega)]; exact hc 2 _ rfl⟩
structure S60 where
  f0 : ByteArray
  f1 : Int
  f2 : Int
  f3 : Int
structure S62 where
  f0 : S60
  f1 : Int
structure S34 where
  f0 : ByteArray
  f1 : Int
  f2 : Int
  f3 : Int
  f4 : Int
  f5 : Int
  f6 : Bool
structure S36 where
  f0 : (List S49)
  f1 : Int
  f2 : Int
  f3 : Int
  f4 : Int
  f5 : Int
  f6 : Int
  f7 : Int
end Go.Proofs.Ytocndpddghefhaa.X
end
section
namespace Go.Proofs.Ytocndpddghefhaa.X
open Go.RowKit Go.Proofs.YtocndpddghefhaaW.PrintWords Go.Proofs.YtocndpddghefhaaW.PrintLast Go.Proofs.YtocndpddghefhaaW.PrintMore
attribute [local go_sem] max2_int min2_int max_two min_two max_three min_three max_four min_four
set_option linter.unusedVariables false
set_option linter.unusedSimpArgs false
theorem eqA49 (d : Nat) (w : World) (x0 y0 : Int) (x1 y1 : Int) (x2 y2 : Int) :
    (Op.equalIn (d + 2) 49 (.agg #[.int .i64 x0, .int .i64 x1, .int .i64 x2]) (.agg #[.int .i64 y0, .int .i64 y1, .int .i64 y2])).run Try.prog w = .ok (x0 == y0 && (x1 == y1 && (x2 == y2))) w := by
  refine eqA_of Try.underlying49 (by kernel_rfl) ?_
  refine eqf_cons (by rfl) (by go_simp; rfl) (by go_simp; rfl) (by go_simp) ?_
  refine eqf_cons (by rfl) (by go_simp; rfl) (by go_simp; rfl) (by go_simp) ?_
  exact eqf_last (by rfl) (by go_simp; rfl) (by go_simp; rfl) (by go_simp)
end Go.Proofs.Ytocndpddghefhaa.X
end
section
namespace Go.Proofs.Ytocndpddghefhaa.X
open Go.RowKit Go.Proofs.YtocndpddghefhaaW.PrintWords Go.Proofs.YtocndpddghefhaaW.PrintLast Go.Proofs.YtocndpddghefhaaW.PrintMore
attribute [local go_sem] max2_int min2_int max_two min_two max_three min_three max_four min_four
set_option linter.unusedVariables false
set_option linter.unusedSimpArgs false
attribute [local go_sem high] eqA49
def contangoref17_Same.l0 : Nat → List (S49) → List (S49) → Int → Option (Bool)
  | 0, _, _, _ => none
  | k + 1, x0, x1, x5 => if x5 < (x0.length : Int) then (if 0 ≤ x5 then (if x5 < (x1.length : Int) then (if (!(((rd_T49 x0 x5).f0) == ((rd_T49 x1 x5).f0)) || (!(((rd_T49 x0 x5).f1) == ((rd_T49 x1 x5).f1)) || (!(((rd_T49 x0 x5).f2) == ((rd_T49 x1 x5).f2))))) = true then (some false) else (contangoref17_Same.l0 k x0 x1 (wrap64 (x5 + 1)))) else (none)) else (none)) else (some true)
def contangoref17_Same.f (k : Nat) (l0 : List (S49)) (l1 : List (S49)) : Option (Bool) := if (l0.length : Int) = (l1.length : Int) then (contangoref17_Same.l0 k l0 l1 0) else (some false)
theorem contangoref17_Same.mono_l : ∀ k, (∀ y0 y1 y2, LeO (contangoref17_Same.l0 k y0 y1 y2) (contangoref17_Same.l0 (k + 1) y0 y1 y2))
  | 0 => fun _ _ _ r h => by simp [contangoref17_Same.l0] at h
  | k + 1 => by
    have ih0 := contangoref17_Same.mono_l k
    · intro y0 y1 y2
      unfold contangoref17_Same.l0
      repeat' first
      | (with_reducible exact ih0 _ _ _)
      | (with_reducible exact LeO.refl _)
      | (with_reducible exact LeO.none _)
      | (with_reducible refine LeO.ite ?_ ?_)
      | (with_reducible refine LeO.bind ?_ (fun _ => ?_))
      | exact ih0 _ _ _
      | exact LeO.none _
      | refine LeO.ite ?_ ?_
      | refine LeO.bind ?_ (fun _ => ?_)
theorem contangoref17_Same.mono : ∀ a0 a1 k, LeO (contangoref17_Same.f k a0 a1) (contangoref17_Same.f (k + 1) a0 a1) := by
  intro a0 a1 k
  have ih0 := contangoref17_Same.mono_l k
  unfold contangoref17_Same.f
  repeat' first
      | (with_reducible exact ih0 _ _ _)
      | (with_reducible exact LeO.refl _)
      | (with_reducible exact LeO.none _)
      | (with_reducible refine LeO.ite ?_ ?_)
      | (with_reducible refine LeO.bind ?_ (fun _ => ?_))
      | exact ih0 _ _ _
      | exact LeO.none _
      | refine LeO.ite ?_ ?_
      | refine LeO.bind ?_ (fun _ => ?_)
set_option maxHeartbeats 8000000 in
set_option maxRecDepth 100000 in
theorem contangoref17_Same.calls (k : Nat) (A0 : Option Addr) (c0 : Nat) (l0 : List (S49)) (A1 : Option Addr) (c1 : Nat) (l1 : List (S49)) (r : Bool) (w : World) (hr0 : Kd.C k49 w A0 l0.length l0) (hc0 : l0.length ≤ c0) (hr1 : Kd.C k49 w A1 l1.length l1) (hc1 : l1.length ≤ c1) (h : contangoref17_Same.f k l0 l1 = some r) :
    Calls Try.prog 26 #[.slice A0 l0.length c0, .slice A1 l1.length c1] w fun e w' => e = .returned (.bool r) ∧ Drawn0 w w' := by
  have hu49 := Try.underlying49
  have HR0 := Aside0.mk hr0
  have HC0 := Aside0.mk hc0
  clear hr0 hc0
  have HR1 := Aside0.mk hr1
  have HC1 := Aside0.mk hc1
  clear hr1 hc1
  have H : (if (l0.length : Int) = (l1.length : Int) then (contangoref17_Same.l0 k l0 l1 0) else (some false)) = some r := h
  clear h
  by_cases c3 : (l0.length : Int) = (l1.length : Int)
  · rw [if_pos c3] at H
    have c3b0 : ((l0.length : Int) == (l1.length : Int)) = true := beq_iff_eq.mpr c3
    have c3b1 : ((l0.length : Int) != (l1.length : Int)) = false := bne_eq_false_iff_eq.mpr c3
    have c3b2 : (l0.length == l1.length) = true := by first | simpa using c3 | (simp at c3 ⊢; omega)
    clear c3
    have H' := Aside0.mk H
    clear H
    go_enter Try.func26, Try.ntmps26
    go_wp2
    repeat (go_quiet (fail); try go_wp2)
    go_loopg [5] k (fun kq v5 w' => ∃ (x5_1 : Int), v5 = .int .i64 x5_1 ∧ Aside0 (contangoref17_Same.l0 kq l0 l1 x5_1 = some r) ∧ Aside0 (kq ≤ k) ∧ Drawn0 w w')
    case atStart => exact ⟨(0), (by first | rfl | (simp; done) | (simp [*]; done)), H', ⟨Nat.le_refl _⟩, by repeat (first | exact Drawn0.refl _ | apply Drawn0.step)⟩
    case round =>
      clear H'
      try clear c1
      try clear c2
      try clear p2
      try clear c3
      try clear c3b0
      try clear c3b1
      try clear c3b2
      obtain ⟨x5_1, rfl, HA, HK1, ⟨m1, rfl⟩⟩ := hrel
      cases gk with
      | zero => exact absurd HA.out (by simp [contangoref17_Same.l0])
      | succ k1 =>
        have H := HA.out
        clear HA
        simp only [contangoref17_Same.l0] at H
        by_cases c4 : x5_1 < (l0.length : Int)
        · rw [if_pos c4] at H
          have c4b0 : decide (x5_1 < (l0.length : Int)) = true := decide_eq_true c4
          clear c4
          by_cases c5 : 0 ≤ x5_1
          · rw [if_pos c5] at H
            have c5b0 : decide (0 ≤ x5_1) = true := decide_eq_true c5
            clear c5
            by_cases c6 : x5_1 < (l1.length : Int)
            · rw [if_pos c6] at H
              have c6b0 : decide (x5_1 < (l1.length : Int)) = true := decide_eq_true c6
              clear c6
              by_cases c7 : (!(((rd_T49 l0 x5_1).f0) == ((rd_T49 l1 x5_1).f0)) || (!(((rd_T49 l0 x5_1).f1) == ((rd_T49 l1 x5_1).f1)) || (!(((rd_T49 l0 x5_1).f2) == ((rd_T49 l1 x5_1).f2))))) = true
              · rw [if_pos c7] at H
                have c7b0 : (!(((rd_T49 l0 x5_1).f0) == ((rd_T49 l1 x5_1).f0)) || (!(((rd_T49 l0 x5_1).f1) == ((rd_T49 l1 x5_1).f1)) || (!(((rd_T49 l0 x5_1).f2) == ((rd_T49 l1 x5_1).f2))))) = true := c7
                clear c7
                obtain rfl := Option.some.inj H
                have p101 : 0 ≤ (x5_1 : Int) := of_decide_eq_true (by first | (with_reducible assumption) | assumption)
                have q101 : x5_1 < (l0.length : Int) := of_decide_eq_true (by first | (with_reducible assumption) | assumption)
                obtain ⟨ad101, e101, hx101_0, hx101_1, hx101_2⟩ := at_T49 HR0.out x5_1 p101 q101
                cases e101
                replace p101 := eq_true p101
                replace q101 := eq_true q101
                have p102 : 0 ≤ (x5_1 : Int) := of_decide_eq_true (by first | (with_reducible assumption) | assumption)
                have q102 : x5_1 < (l1.length : Int) := of_decide_eq_true (by first | (with_reducible assumption) | assumption)
                obtain ⟨ad102, e102, hx102_0, hx102_1, hx102_2⟩ := at_T49 HR1.out x5_1 p102 q102
                cases e102
                replace p102 := eq_true p102
                replace q102 := eq_true q102
                go_wp2
                repeat (go_quiet (fail); try go_wp2)
                go_ret
                exact ⟨by first | rfl | (simp; done) | (simp [*]; done), by repeat (first | exact Drawn0.refl _ | apply Drawn0.step)⟩
              · rw [if_neg c7] at H
                have c7b0 : (!(((rd_T49 l0 x5_1).f0) == ((rd_T49 l1 x5_1).f0)) || (!(((rd_T49 l0 x5_1).f1) == ((rd_T49 l1 x5_1).f1)) || (!(((rd_T49 l0 x5_1).f2) == ((rd_T49 l1 x5_1).f2))))) = false := by simpa using c7
                clear c7
                have H' := Aside0.mk H
                clear H
                have p101 : 0 ≤ (x5_1 : Int) := of_decide_eq_true (by first | (with_reducible assumption) | assumption)
                have q101 : x5_1 < (l0.length : Int) := of_decide_eq_true (by first | (with_reducible assumption) | assumption)
                obtain ⟨ad101, e101, hx101_0, hx101_1, hx101_2⟩ := at_T49 HR0.out x5_1 p101 q101
                cases e101
                replace p101 := eq_true p101
                replace q101 := eq_true q101
                have p102 : 0 ≤ (x5_1 : Int) := of_decide_eq_true (by first | (with_reducible assumption) | assumption)
                have q102 : x5_1 < (l1.length : Int) := of_decide_eq_true (by first | (with_reducible assumption) | assumption)
                obtain ⟨ad102, e102, hx102_0, hx102_1, hx102_2⟩ := at_T49 HR1.out x5_1 p102 q102
                cases e102
                replace p102 := eq_true p102
                replace q102 := eq_true q102
                go_wp2
                repeat (go_quiet (fail); try go_wp2)
                go_roundg k1
                case measure => have := HK1.out; omega
                case rel => exact ⟨(wrap64 (x5_1 + 1)), (by first | rfl | (simp; done) | (simp [*]; done)), H', ⟨by have := HK1.out; omega⟩, by repeat (first | exact Drawn0.refl _ | apply Drawn0.step)⟩
            · rw [if_neg c6] at H
              exact absurd H (by simp)
          · rw [if_neg c5] at H
            exact absurd H (by simp)
        · rw [if_neg c4] at H
          have c4b0 : decide (x5_1 < (l0.length : Int)) = false := decide_eq_false c4
          clear c4
          obtain rfl := Option.some.inj H
          go_wp2
          repeat (go_quiet (fail); try go_wp2)
          go_ret
          exact ⟨by first | rfl | (simp; done) | (simp [*]; done), by repeat (first | exact Drawn0.refl _ | apply Drawn0.step)⟩
  · rw [if_neg c3] at H
    have c3b0 : ((l0.length : Int) == (l1.length : Int)) = false := beq_eq_false_iff_ne.mpr c3
    have c3b1 : ((l0.length : Int) != (l1.length : Int)) = true := bne_iff_ne.mpr c3
    have c3b2 : (l0.length == l1.length) = false := by first | simpa using c3 | (simp at c3 ⊢; omega)
    obtain rfl := Option.some.inj H
    go_enter Try.func26, Try.ntmps26
    go_wp2
    repeat (go_quiet (fail); try go_wp2)
    go_ret
    exact ⟨by first | rfl | (simp; done) | (simp [*]; done), by repeat (first | exact Drawn0.refl _ | apply Drawn0.step)⟩
end Go.Proofs.Ytocndpddghefhaa.X
end
section
namespace Go.Proofs.Ytocndpddghefhaa.X
open Go.RowKit Go.Proofs.YtocndpddghefhaaW.PrintWords
def goAll {τ σ : Type} (go : τ → σ → σ × Bool) : List τ → σ → σ
  | [], s => s
  | t :: r, s => if (go t s).2 = true then goAll go r (go t s).1 else (go t s).1
theorem goAll_step {τ σ : Type} (go : τ → σ → σ × Bool) (t : τ) (r : List τ) (s : σ) : goAll go (t :: r) s = if (go t s).2 = true then goAll go r (go t s).1 else (go t s).1 := rfl
def KT (T : TypeId) (W W' : World) : Prop := ∀ (g : Nat) (cs : Array Value), W.heap[g]? = some (.cells cs T (0, 0)) → W'.heap[g]? = some (.cells cs T (0, 0))
theorem KT.refl (T : TypeId) (W : World) : KT T W W := fun _ _ h => h
theorem KT.trans {T : TypeId} {a b c : World} (h : KT T a b) (k : KT T b c) : KT T a c := fun g cs hg => k g cs (h g cs hg)
theorem KT.alloc {T : TypeId} {a b : World} (h : KT T a b) (o : Obj) : KT T a (b.alloc o) := fun g cs hg => blk_alloc (h g cs hg) o
theorem KT.drew {T : TypeId} {a b : World} (h : KT T a b) : KT T a b.drew := h
theorem KT.drewN {T : TypeId} {a b : World} (h : KT T a b) (n : Nat) : KT T a (b.drewN n) := h
theorem KT.setCell {T T' : TypeId} {a b : World} (h : KT T a b) {p : Addr} {cs' : Array Value} (hb : b.heap[p.block]? = some (.cells cs' T' (0, 0))) (hne : T' ≠ T) (u : Value) : KT T a (b.setCell p u) := fun g cs hg => by
  have h1 := h g cs hg
  refine blk_far h1 (fun e => ?_) u
  rw [e, hb] at h1
  injection h1 with h2
  injection h2 with _ h3 _
  exact hne h3
theorem KT.below {T : TypeId} {a b c : World} (h : KT T a b) (hb : Below b.heap.size b c) : KT T a c := fun g cs hg => blk_below (h g cs hg) hb
theorem KT.grown {T T' : TypeId} {a b c : World} (h : KT T a b) {row : Option Nat} (hg : b.grownBy c row) (hr : ∀ k, row = some k → ∃ cs', b.heap[k]? = some (.cells cs' T' (0, 0))) (hne : T' ≠ T) : KT T a c := fun g cs hh => by
  have h1 := h g cs hh
  refine blk_grown h1 hg (fun e => ?_)
  obtain ⟨cs', h2⟩ := hr g e.symm
  rw [h2] at h1
  injection h1 with h3
  injection h3 with _ h4 _
  exact hne h4
theorem blk_put1 {w : World} {g : Nat} {t : TypeId} {v : Value} (h : w.heap[g]? = some (.cells #[v] t (0, 0))) (u : Value) : (w.setCell ⟨g, 0, none⟩ u).heap[g]? = some (.cells #[u] t (0, 0)) := blk_set h 0 u
theorem blk_one {w : World} {g : Nat} {t : TypeId} {v : Value} (h : w.heap[g]? = some (.cells #[v] t (0, 0))) : w.cell? ⟨g, 0, none⟩ = some v := blk_cell h 0
end Go.Proofs.Ytocndpddghefhaa.X
end
section
namespace Go.Proofs.Ytocndpddghefhaa.X
open Go.RowKit Go.Proofs.YtocndpddghefhaaW.PrintWords Go.Proofs.YtocndpddghefhaaW.PrintLast Go.Proofs.YtocndpddghefhaaW.PrintMore
attribute [local go_sem] max2_int min2_int max_two min_two max_three min_three max_four min_four
set_option linter.unusedVariables false
set_option linter.unusedSimpArgs false
def rangeStep (t : S49) (s : Int × Int) : (Int × Int) × Bool := ((mn s.1 t.f2, mx s.2 t.f2), true)
set_option maxHeartbeats 1600000 in
theorem tape_over_Range {σ : Type} (Inv : σ → World → Prop) (go : S49 → σ → σ × Bool) (A : Option Addr) (c : Nat) (l : List S49) (g1 g2 : Nat) (w0 w : World)
    (hr : Kd.C k49 w0 A l.length l) (hb0 : Below w0.heap.size w0 w) (s0 : σ) (hI : Inv s0 w) (Ok : Nat → σ → Prop) (hOk : Ok 0 s0) (hOks : ∀ i t s, i < l.length → Ok i s → (go t s).2 = true → Ok (i + 1) (go t s).1)
    (hmono : ∀ s W W', Inv s W → Below W.heap.size W W' → Inv s W')
    (hstep : ∀ (t : S49) (s : σ) (i : Nat) (W : World), i < l.length → Ok i s → Below w0.heap.size w0 W → Inv s W → Calls Try.prog 41 #[.agg #[.int .i64 t.f0, .int .i64 t.f1, .int .i64 t.f2], .pointer (some ⟨g1, 0, none⟩), .pointer (some ⟨g2, 0, none⟩)] W fun e W' => e = .returned (.bool (go t s).2) ∧ Inv (go t s).1 W' ∧ Below w0.heap.size w0 W' ∧ KT 76 W W') :
    Calls Try.prog 37 #[.agg #[.func (.func 41) #[] #[.pointer (some ⟨g1, 0, none⟩), .pointer (some ⟨g2, 0, none⟩)]], .slice A l.length c] w fun e W' => (∃ b : Bool, e = .returned (.bool b)) ∧ Inv (goAll go l s0) W' ∧ Below w0.heap.size w0 W' := by
  have HR := Aside0.mk hr
  have HM := Aside0.mk hmono
  have HS := Aside0.mk hstep
  have HI := Aside0.mk hI
  have HO := Aside0.mk hOk
  have HOS := Aside0.mk hOks
  have HB := Aside0.mk hb0
  have hlen := (show l.length ≤ 9223372036854775807 from Kd.C_max hr)
  have hbs := hb0.size
  clear hr hmono hstep hI hb0 hOk hOks
  go_enter Try.func37, Try.ntmps37
  go_wp2_with fail
  go_loopg [9] l.length (fun kq v9 wr => ∃ (i : Nat) (s : σ), v9 = .int .i64 (i : Int) ∧ Aside0 (kq + i = l.length) ∧ Aside0 (Inv s wr) ∧ Aside0 (Ok i s) ∧ Aside0 (goAll go (l.drop i) s = goAll go l s0) ∧ Aside0 (Below w0.heap.size w0 wr) ∧ Aside0 (w.heap.size < wr.heap.size) ∧ Aside0 (wr.heap[w.heap.size]? = some (.cells #[.func (.func 41) #[] #[.pointer (some ⟨g1, 0, none⟩), .pointer (some ⟨g2, 0, none⟩)]] 76 (0, 0))))
  case atStart => exact ⟨0, s0, rfl, ⟨by omega⟩, ⟨HM.out _ _ _ HI.out (below_alloc (Below.refl _ _) _)⟩, HO, ⟨rfl⟩, ⟨HB.out.alloc hbs _⟩, ⟨by simp⟩, ⟨blk_new w _⟩⟩
  case round =>
    obtain ⟨i, s, rfl, Hk, HI2, HO2, HG, HB2, HL, HF⟩ := hrel
    have hf := blk_one HF.out
    have hfl := HL.out
    by_cases hlt : i < l.length
    · obtain ⟨ad, ea, hx0, hx1, hx2⟩ := at_T49 HR.out (i : Int) (by omega) (by omega)
      cases ea
      replace hx0 := (HB2.out.cell (World.block_lt_of_cell? w0 _ hx0)).trans hx0
      replace hx1 := (HB2.out.cell (World.block_lt_of_cell? w0 _ hx1)).trans hx1
      replace hx2 := (HB2.out.cell (World.block_lt_of_cell? w0 _ hx2)).trans hx2
      have hti : rd_T49 l (i : Int) = l[i] := by simp [rd_T49, hlt]
      have hdrop : l.drop i = l[i] :: l.drop (i + 1) := (List.getElem_cons_drop hlt).symm
      rw [hti, Int.toNat_natCast] at hx0 hx1 hx2
      obtain ⟨t, ht⟩ : ∃ t, l[i] = t := ⟨_, rfl⟩
      rw [ht] at hx0 hx1 hx2 hdrop
      have HG2 := HG.out
      rw [hdrop, goAll_step] at HG2
      have HD := Aside0.mk HG2
      have HLT := Aside0.mk hlt
      clear hti ht hdrop HG2 HG
      cases hgo : (go t s).2 with
      | true =>
        have HGO := Aside0.mk hgo
        clear hgo
        go_wp2_with (go_at_call 41; refine (HS.out t s i _ HLT.out HO2.out (HB2.out.alloc (Nat.le_trans hbs (Nat.le_of_lt HL.out)) _) (HM.out _ _ _ HI2.out (below_alloc (Below.refl _ _) _))).mono ?_; rw [HGO.out]; rintro e W' ⟨rfl, hI3, hB3, hK3⟩; have HI3 := Aside0.mk hI3; have HB3 := Aside0.mk hB3; have HF3 := Aside0.mk (hK3 _ _ (blk_alloc HF.out _)); have HL3 := blk_lt HF3.out; clear hI3 hB3 hK3)
        go_roundg (gk - 1)
        case measure => have := Hk.out; omega
        case rel =>
          have hd := HD.out
          rw [HGO.out, if_pos rfl] at hd
          exact ⟨i + 1, _, by go_num, ⟨by have := Hk.out; omega⟩, HI3, ⟨HOS.out _ _ _ HLT.out HO2.out HGO.out⟩, ⟨hd⟩, HB3, ⟨HL3⟩, HF3⟩
      | false =>
        have HGO := Aside0.mk hgo
        clear hgo
        go_wp2_with (go_at_call 41; refine (HS.out t s i _ HLT.out HO2.out (HB2.out.alloc (Nat.le_trans hbs (Nat.le_of_lt HL.out)) _) (HM.out _ _ _ HI2.out (below_alloc (Below.refl _ _) _))).mono ?_; rw [HGO.out]; rintro e W' ⟨rfl, hI3, hB3, hK3⟩; have HI3 := Aside0.mk hI3; have HB3 := Aside0.mk hB3; clear hI3 hB3 hK3)
        go_ret
        have hd := HD.out
        rw [HGO.out, if_neg (by simp)] at hd
        rw [← hd]
        exact ⟨⟨_, rfl⟩, HI3.out, HB3.out⟩
    · go_wp2_with fail
      go_ret
      have hd := HG.out
      rw [List.drop_of_length_le (by omega)] at hd
      rw [← hd]
      exact ⟨⟨_, rfl⟩, HI2.out, HB2.out⟩
set_option maxHeartbeats 1600000 in
theorem tape_Range_lit (t : S49) (n m : Int) (g1 g2 : Nat) (w0 w : World) (hne : g1 ≠ g2) (h1 : w.heap[g1]? = some (.cells #[.int .i64 n] 3 (0, 0))) (h2 : w.heap[g2]? = some (.cells #[.int .i64 m] 3 (0, 0))) (hb : Below w0.heap.size w0 w) (hg1 : w0.heap.size ≤ g1) (hg2 : w0.heap.size ≤ g2) :
    Calls Try.prog 41 #[.agg #[.int .i64 t.f0, .int .i64 t.f1, .int .i64 t.f2], .pointer (some ⟨g1, 0, none⟩), .pointer (some ⟨g2, 0, none⟩)] w fun e w' => e = .returned (.bool true) ∧ (w'.heap[g1]? = some (.cells #[.int .i64 (mn n t.f2)] 3 (0, 0)) ∧ w'.heap[g2]? = some (.cells #[.int .i64 (mx m t.f2)] 3 (0, 0))) ∧ Below w0.heap.size w0 w' ∧ KT 76 w w' := by
  have hl1 := blk_lt h1
  have hl2 := blk_lt h2
  obtain ⟨W, hW⟩ : ∃ W, w.alloc (.cells #[.int .i64 t.f0, .int .i64 t.f1, .int .i64 t.f2] 49) = W := ⟨_, rfl⟩
  have h3 := blk_new w (.cells #[.int .i64 t.f0, .int .i64 t.f1, .int .i64 t.f2] 49)
  have k1 := blk_alloc h1 (.cells #[.int .i64 t.f0, .int .i64 t.f1, .int .i64 t.f2] 49)
  have k2 := blk_alloc h2 (.cells #[.int .i64 t.f0, .int .i64 t.f1, .int .i64 t.f2] 49)
  rw [hW] at h3 k1 k2
  have hc1 := blk_one k1
  have hc2 := blk_one k2
  have hc3 : W.cell? ⟨w.heap.size, 2, none⟩ = some (.int .i64 t.f2) := blk_cell h3 2
  have hc4 : ∀ u, (W.setCell ⟨g1, 0, none⟩ u).cell? ⟨w.heap.size, 2, none⟩ = some (.int .i64 t.f2) := fun u => blk_cell (blk_far h3 (show w.heap.size ≠ g1 by omega) u) 2
  have hf1 := blk_frozen k1 0
  have hf2 := blk_frozen k2 0
  have hf3 : ∀ u, (W.setCell ⟨g1, 0, none⟩ u).frozen? ⟨g2, 0, none⟩ = false := fun u => blk_frozen (blk_far k2 hne.symm u) 0
  obtain ⟨p, hp⟩ : ∃ p, (if t.f2 < n then t.f2 else n) = p := ⟨_, rfl⟩
  obtain ⟨q, hq⟩ : ∃ q, (if m < t.f2 then t.f2 else m) = q := ⟨_, rfl⟩
  have hp' : mn n t.f2 = p := hp
  have hq' : mx m t.f2 = q := hq
  go_enter Try.func41, Try.ntmps41
  go_wp2
  go_region
  go_wp2
  go_ret
  rw [hp', hq']
  have j1 : ((W.setCell ⟨g1, 0, none⟩ (.int .i64 p)).setCell ⟨g2, 0, none⟩ (.int .i64 q)).heap[g1]? = some (.cells #[.int .i64 p] 3 (0, 0)) := blk_far (p := ⟨g2, 0, none⟩) (blk_put1 k1 _) hne _
  have j2 : ((W.setCell ⟨g1, 0, none⟩ (.int .i64 p)).setCell ⟨g2, 0, none⟩ (.int .i64 q)).heap[g2]? = some (.cells #[.int .i64 q] 3 (0, 0)) := blk_put1 (blk_far (p := ⟨g1, 0, none⟩) k2 hne.symm _) _
  refine ⟨rfl, ⟨j1, j2⟩, ?_, ?_⟩
  · have hbW : Below w0.heap.size w0 W := by rw [← hW]; exact hb.alloc hb.size _
    exact below_drew1 ((hbW.setCell (p := ⟨g1, 0, none⟩) hg1 _).setCell (p := ⟨g2, 0, none⟩) hg2 _)
  · have hk : KT 76 w W := by rw [← hW]; exact (KT.refl _ _).alloc _
    exact ((hk.setCell (p := ⟨g1, 0, none⟩) k1 (by decide) _).setCell (p := ⟨g2, 0, none⟩) (blk_far (p := ⟨g1, 0, none⟩) k2 hne.symm _) (by decide) _).drew
def tape_Range.f (l : List S49) : Option (Int × Int × Bool) := if l.length = 0 then some (0, 0, false) else some ((goAll rangeStep l ((rd_T49 l 0).f2, (rd_T49 l 0).f2)).1, (goAll rangeStep l ((rd_T49 l 0).f2, (rd_T49 l 0).f2)).2, true)
set_option maxHeartbeats 1600000 in
set_option maxRecDepth 100000 in
theorem tape_Range.calls (A0 : Option Addr) (c0 : Nat) (l0 : List S49) (r1 r2 : Int) (r3 : Bool) (w : World) (hr0 : Kd.C k49 w A0 l0.length l0) (hc0 : l0.length ≤ c0) (h : tape_Range.f l0 = some (r1, r2, r3)) :
    Calls Try.prog 15 #[.slice A0 l0.length c0] w fun e w' => e = .returned (.tuple #[.int .i64 r1, .int .i64 r2, .bool r3]) ∧ Below w.heap.size w w' := by
  have HR := Aside0.mk hr0
  unfold tape_Range.f at h
  have k1 := blk_alloc (blk_new w (.cells #[.int .i64 0] 3)) (.cells #[.int .i64 0] 3)
  have k2 := blk_new (w.alloc (.cells #[.int .i64 0] 3)) (.cells #[.int .i64 0] 3)
  have hs2 : (w.alloc (.cells #[.int .i64 0] 3)).heap.size = w.heap.size + 1 := by simp
  have hBW := ((Below.refl w.heap.size w).alloc (Nat.le_refl _) (.cells #[.int .i64 0] 3)).alloc (by simp) (.cells #[.int .i64 0] 3)
  rw [hs2] at k2
  have hne : w.heap.size ≠ w.heap.size + 1 := by omega
  obtain ⟨W, hW⟩ : ∃ W, (w.alloc (.cells #[.int .i64 0] 3)).alloc (.cells #[.int .i64 0] 3) = W := ⟨_, rfl⟩
  rw [hW] at k1 k2 hBW
  have K1 := Aside0.mk k1
  have K2 := Aside0.mk k2
  have HBW := Aside0.mk hBW
  have hc1 := blk_one k1
  have hc2 := blk_one k2
  have hc5 : ∀ u, (W.setCell ⟨w.heap.size, 0, none⟩ u).cell? ⟨w.heap.size + 1, 0, none⟩ = some (.int .i64 0) := fun u => blk_one (blk_far (p := ⟨w.heap.size, 0, none⟩) k2 hne.symm u)
  have hf1 := blk_frozen k1 0
  have hf2 := blk_frozen k2 0
  have hf3 : ∀ u, (W.setCell ⟨w.heap.size, 0, none⟩ u).frozen? ⟨w.heap.size + 1, 0, none⟩ = false := fun u => blk_frozen (blk_far k2 hne.symm u) 0
  clear hr0 k1 k2 hBW
  by_cases c0_ : l0.length = 0
  · rw [if_pos c0_] at h
    obtain ⟨rfl, rfl, rfl⟩ : 0 = r1 ∧ 0 = r2 ∧ false = r3 := by simpa using h
    have d0 : ((l0.length : Int) == 0) = true := beq_iff_eq.2 (by omega)
    clear h
    go_enter Try.func15, Try.ntmps15
    go_wp2
    have j1 : ((W.setCell ⟨w.heap.size, 0, none⟩ (.int .i64 0)).setCell ⟨w.heap.size + 1, 0, none⟩ (.int .i64 0)).cell? ⟨w.heap.size, 0, none⟩ = some (.int .i64 0) := blk_one (blk_far (p := ⟨w.heap.size + 1, 0, none⟩) (blk_put1 K1.out _) hne _)
    have j2 : ((W.setCell ⟨w.heap.size, 0, none⟩ (.int .i64 0)).setCell ⟨w.heap.size + 1, 0, none⟩ (.int .i64 0)).cell? ⟨w.heap.size + 1, 0, none⟩ = some (.int .i64 0) := blk_one (blk_put1 (blk_far (p := ⟨w.heap.size, 0, none⟩) K2.out hne.symm _) _)
    refine bodyPost_ret (v := .tuple #[.int .i64 0, .int .i64 0, .bool false]) (by simp [results, Try.results15, go_sem, j1, j2]) rfl ⟨rfl, ?_⟩
    exact (HBW.out.setCell (p := ⟨w.heap.size, 0, none⟩) (Nat.le_refl _) _).setCell (p := ⟨w.heap.size + 1, 0, none⟩) (by simp) _
  · rw [if_neg c0_] at h
    have d0 : ((l0.length : Int) == 0) = false := beq_eq_false_iff_ne.2 (by omega)
    obtain ⟨ad, ea, hx0, hx1, hx2⟩ := at_T49 HR.out 0 (by omega) (by omega)
    cases ea
    obtain ⟨z, hz⟩ : ∃ z, (rd_T49 l0 0).f2 = z := ⟨_, rfl⟩
    rw [hz] at h hx2
    have hx3 : w.cell? ⟨ad.block, ad.off + 2, none⟩ = some (.int .i64 z) := by simpa [Addr.add] using hx2
    have hlt := World.block_lt_of_cell? w _ hx3
    have hx4 : W.cell? ⟨ad.block, ad.off + 2, none⟩ = some (.int .i64 z) := (HBW.out.cell hlt).trans hx3
    have hx5 : ∀ u, (W.setCell ⟨w.heap.size, 0, none⟩ u).cell? ⟨ad.block, ad.off + 2, none⟩ = some (.int .i64 z) := fun u => ((Below.setCell (p := ⟨w.heap.size, 0, none⟩) HBW.out (Nat.le_refl _) u).cell hlt).trans hx3
    have hpos : 0 < l0.length := by omega
    clear hx0 hx1 hx2 hx3 hz
    go_enter Try.func15, Try.ntmps15
    go_wp2
    go_region
    obtain ⟨X, hX⟩ : ∃ X, ((W.setCell ⟨w.heap.size, 0, none⟩ (.int .i64 z)).setCell ⟨w.heap.size + 1, 0, none⟩ (.int .i64 z)).drew = X := ⟨_, rfl⟩
    have x1 : X.heap[w.heap.size]? = some (.cells #[.int .i64 z] 3 (0, 0)) := by rw [← hX]; exact blk_far (p := ⟨w.heap.size + 1, 0, none⟩) (blk_put1 K1.out _) hne _
    have x2 : X.heap[w.heap.size + 1]? = some (.cells #[.int .i64 z] 3 (0, 0)) := by rw [← hX]; exact blk_put1 (blk_far (p := ⟨w.heap.size, 0, none⟩) K2.out hne.symm _) _
    have XB : Below w.heap.size w X := by rw [← hX]; exact below_drew1 ((HBW.out.setCell (p := ⟨w.heap.size, 0, none⟩) (Nat.le_refl _) _).setCell (p := ⟨w.heap.size + 1, 0, none⟩) (by simp) _)
    rw [hX]
    clear hX hx4 hx5 hc1 hc2 hc5 hf1 hf2 hf3
    go_wp2_with fail
    refine (tape_over_Range (fun (s : Int × Int) W => W.heap[w.heap.size]? = some (.cells #[.int .i64 s.1] 3 (0, 0)) ∧ W.heap[w.heap.size + 1]? = some (.cells #[.int .i64 s.2] 3 (0, 0))) rangeStep (some ad) c0 l0 w.heap.size (w.heap.size + 1) w X HR.out XB (z, z) ⟨x1, x2⟩ (fun _ _ => True) trivial (fun _ _ _ _ _ _ => trivial) (fun s W W' h hb => ⟨blk_below h.1 hb, blk_below h.2 hb⟩) (fun t s _ W _ _ hb h1 => tape_Range_lit t s.1 s.2 _ _ w W hne h1.1 h1.2 hb (Nat.le_refl _) (by omega))).mono ?_
    rintro e w1 ⟨⟨b, rfl⟩, ⟨hI1, hI2⟩, hB1⟩
    obtain ⟨⟨s1, s2⟩, hs⟩ : ∃ s, goAll rangeStep l0 (z, z) = s := ⟨_, rfl⟩
    rw [hs] at hI1 hI2 h
    obtain ⟨rfl, rfl, rfl⟩ : s1 = r1 ∧ s2 = r2 ∧ true = r3 := by simpa using h
    have I1 := Aside0.mk hI1
    have I2 := Aside0.mk hI2
    have HB1 := Aside0.mk hB1
    have hc1 := blk_one hI1
    have hc2 := blk_one hI2
    have hf1 := blk_frozen hI1 0
    have hf2 := blk_frozen hI2 0
    have hc5 : ∀ u, (w1.setCell ⟨w.heap.size, 0, none⟩ u).cell? ⟨w.heap.size + 1, 0, none⟩ = some (.int .i64 s2) := fun u => blk_one (blk_far (p := ⟨w.heap.size, 0, none⟩) hI2 hne.symm u)
    have hf3 : ∀ u, (w1.setCell ⟨w.heap.size, 0, none⟩ u).frozen? ⟨w.heap.size + 1, 0, none⟩ = false := fun u => blk_frozen (blk_far (p := ⟨w.heap.size, 0, none⟩) hI2 hne.symm u) 0
    clear hI1 hI2 hB1 hs h x1 x2
    go_wp2
    go_region
    go_wp2
    have j1 : (((w1.setCell ⟨w.heap.size, 0, none⟩ (.int .i64 s1)).setCell ⟨w.heap.size + 1, 0, none⟩ (.int .i64 s2)).drew).cell? ⟨w.heap.size, 0, none⟩ = some (.int .i64 s1) := blk_one (w := ((w1.setCell ⟨w.heap.size, 0, none⟩ (.int .i64 s1)).setCell ⟨w.heap.size + 1, 0, none⟩ (.int .i64 s2)).drew) (blk_far (p := ⟨w.heap.size + 1, 0, none⟩) (blk_put1 I1.out _) hne _)
    have j2 : (((w1.setCell ⟨w.heap.size, 0, none⟩ (.int .i64 s1)).setCell ⟨w.heap.size + 1, 0, none⟩ (.int .i64 s2)).drew).cell? ⟨w.heap.size + 1, 0, none⟩ = some (.int .i64 s2) := blk_one (w := ((w1.setCell ⟨w.heap.size, 0, none⟩ (.int .i64 s1)).setCell ⟨w.heap.size + 1, 0, none⟩ (.int .i64 s2)).drew) (blk_put1 (blk_far (p := ⟨w.heap.size, 0, none⟩) I2.out hne.symm _) _)
    refine bodyPost_ret (v := .tuple #[.int .i64 s1, .int .i64 s2, .bool true]) (by simp [results, Try.results15, go_sem, j1, j2]) rfl ⟨rfl, ?_⟩
    exact below_drew1 ((HB1.out.setCell (p := ⟨w.heap.size, 0, none⟩) (Nat.le_refl _) _).setCell (p := ⟨w.heap.size + 1, 0, none⟩) (by simp) _)
end Go.Proofs.Ytocndpddghefhaa.X
end
section
namespace Go.Proofs.Ytocndpddghefhaa.X
open Go.RowKit Go.Proofs.YtocndpddghefhaaW.PrintWords Go.Proofs.YtocndpddghefhaaW.PrintLast Go.Proofs.YtocndpddghefhaaW.PrintMore
attribute [local go_sem] max2_int min2_int max_two min_two max_three min_three max_four min_four
set_option linter.unusedVariables false
set_option linter.unusedSimpArgs false
def bits_Len64.f (k : Nat) (a0 : Int) : Option Int := none
theorem bits_Len64.mono : ∀ a0 k, LeO (bits_Len64.f k a0) (bits_Len64.f (k + 1) a0) := fun _ _ => LeO.none _
theorem bits_Len64.calls (k : Nat) (a0 : Int) (r : Int) (w : World) (h : bits_Len64.f k a0 = some r) :
    Calls Try.prog 107 #[.int .u64 a0] w fun e w' => e = .returned (.int .i64 r) ∧ Drawn0 w w' := by cases h
end Go.Proofs.Ytocndpddghefhaa.X
end
section
namespace Go.Proofs.Ytocndpddghefhaa.X
open Go.RowKit Go.Proofs.YtocndpddghefhaaW.PrintWords Go.Proofs.YtocndpddghefhaaW.PrintLast Go.Proofs.YtocndpddghefhaaW.PrintMore
attribute [local go_sem] max2_int min2_int max_two min_two max_three min_three max_four min_four
set_option linter.unusedVariables false
set_option linter.unusedSimpArgs false
def bits_LeadingZeros64.f (k : Nat) (a0 : Int) : Option (Int) := (bits_Len64.f k a0).bind fun t101 => (some (wrap64 (64 - t101)))
theorem bits_LeadingZeros64.mono : ∀ a0 k, LeO (bits_LeadingZeros64.f k a0) (bits_LeadingZeros64.f (k + 1) a0) := by
  intro a0 k
  unfold bits_LeadingZeros64.f
  repeat' first
      | (with_reducible exact bits_Len64.mono _ _)
      | (with_reducible exact LeO.refl _)
      | (with_reducible exact LeO.none _)
      | (with_reducible refine LeO.ite ?_ ?_)
      | (with_reducible refine LeO.bind ?_ (fun _ => ?_))
      | exact bits_Len64.mono _ _
      | exact LeO.none _
      | refine LeO.ite ?_ ?_
      | refine LeO.bind ?_ (fun _ => ?_)
set_option maxHeartbeats 8000000 in
set_option maxRecDepth 100000 in
theorem bits_LeadingZeros64.calls (k : Nat) (a0 : Int) (r : Int) (w : World) (h : bits_LeadingZeros64.f k a0 = some r) :
    Calls Try.prog 98 #[.int .u64 a0] w fun e w' => e = .returned (.int .i64 r) ∧ Drawn0 w w' := by
  have H : ((bits_Len64.f k a0).bind fun t101 => (some (wrap64 (64 - t101)))) = some r := h
  clear h
  replace H := Option.bind_eq_some_iff.mp H
  obtain ⟨t101, A20, H⟩ := H
  replace H : (some (wrap64 (64 - t101))) = some r := H
  have A2 := Aside0.mk A20
  clear A20
  obtain rfl := Option.some.inj H
  go_enter Try.func98, Try.ntmps98
  go_wp2_with (first | ((with_reducible refine gate_callee (f := 107) rfl ?_); refine goesL_ (some 4) rfl rfl Try.func107 (by kernel_rfl) rfl #[.int .u64 a0] rfl (by (try simp only [List.map_toArray, List.map_cons, List.map_nil]); first | done | rfl | (simp only [List.length_drop, List.length_take]; rfl)) ?_; (with_reducible refine (bits_Len64.calls k a0 t101 _ A2.out).mono ?_); rintro e w' ⟨rfl, ⟨nd, rfl⟩⟩; refine ⟨_, rfl, ?_⟩))
  go_ret
  exact ⟨by first | rfl | (simp; done) | (simp [*]; done), by repeat (first | exact Drawn0.refl _ | apply Drawn0.step)⟩
end Go.Proofs.Ytocndpddghefhaa.X
end
section
namespace Go.Proofs.Ytocndpddghefhaa.X
open Go.RowKit Go.Proofs.YtocndpddghefhaaW.PrintWords Go.Proofs.YtocndpddghefhaaW.PrintLast Go.Proofs.YtocndpddghefhaaW.PrintMore
attribute [local go_sem] max2_int min2_int max_two min_two max_three min_three max_four min_four
set_option linter.unusedVariables false
set_option linter.unusedSimpArgs false
mutual
def bits_Div64.j2 : Nat → Int → Int → Int → Int → Int → Int → Int → Int → Option (Int × Int)
  | 0, _, _, _, _, _, _, _, _ => none
  | k + 1, x2, x8, x9, x10, x11, x13, x14, x15 => if x9 = 0 then (none) else (bits_Div64.l1 k x2 x8 x9 x10 x14 x15 (IntKind.u64.wrap ((IntKind.u64.wrap ((IntKind.u64.wrap ((IntKind.u64.wrap (x11 * 4294967296)) + x13)) - (IntKind.u64.wrap (x15 * x2)))) - (IntKind.u64.wrap ((IntKind.u64.wrap (Int.tdiv (IntKind.u64.wrap ((IntKind.u64.wrap ((IntKind.u64.wrap (x11 * 4294967296)) + x13)) - (IntKind.u64.wrap (x15 * x2)))) x9)) * x9)))) (IntKind.u64.wrap ((IntKind.u64.wrap ((IntKind.u64.wrap (x11 * 4294967296)) + x13)) - (IntKind.u64.wrap (x15 * x2)))) (IntKind.u64.wrap (Int.tdiv (IntKind.u64.wrap ((IntKind.u64.wrap ((IntKind.u64.wrap (x11 * 4294967296)) + x13)) - (IntKind.u64.wrap (x15 * x2)))) x9)))
def bits_Div64.l1 : Nat → Int → Int → Int → Int → Int → Int → Int → Int → Int → Option (Int × Int)
  | 0, _, _, _, _, _, _, _, _, _ => none
  | k + 1, x2, x8, x9, x10, x14, x15, x16, x17, x18 => if x18 ≥ 4294967296 then (bits_Div64.j4 k x2 x8 x9 x10 x14 x15 x16 x17 x18 true) else (bits_Div64.j4 k x2 x8 x9 x10 x14 x15 x16 x17 x18 (decide ((IntKind.u64.wrap (x18 * x10)) > (IntKind.u64.wrap ((IntKind.u64.wrap (4294967296 * x16)) + x14)))))
def bits_Div64.j4 : Nat → Int → Int → Int → Int → Int → Int → Int → Int → Int → Bool → Option (Int × Int)
  | 0, _, _, _, _, _, _, _, _, _, _ => none
  | k + 1, x2, x8, x9, x10, x14, x15, x16, x17, x18, x113 => if x113 = true then (if (IntKind.u64.wrap (x16 + x9)) ≥ 4294967296 then (if 0 ≤ x8 then (some (IntKind.u64.wrap ((IntKind.u64.wrap (x15 * 4294967296)) + (IntKind.u64.wrap (x18 - 1))), shr .u64 (IntKind.u64.wrap ((IntKind.u64.wrap ((IntKind.u64.wrap (x17 * 4294967296)) + x14)) - (IntKind.u64.wrap ((IntKind.u64.wrap (x18 - 1)) * x2)))) x8)) else (none)) else (bits_Div64.l1 k x2 x8 x9 x10 x14 x15 (IntKind.u64.wrap (x16 + x9)) x17 (IntKind.u64.wrap (x18 - 1)))) else (if 0 ≤ x8 then (some (IntKind.u64.wrap ((IntKind.u64.wrap (x15 * 4294967296)) + x18), shr .u64 (IntKind.u64.wrap ((IntKind.u64.wrap ((IntKind.u64.wrap (x17 * 4294967296)) + x14)) - (IntKind.u64.wrap (x18 * x2)))) x8)) else (none))
def bits_Div64.l0 : Nat → Int → Int → Int → Int → Int → Int → Int → Int → Int → Option (Int × Int)
  | 0, _, _, _, _, _, _, _, _, _ => none
  | k + 1, x2, x8, x9, x10, x11, x13, x14, x15, x16 => if x15 ≥ 4294967296 then (bits_Div64.j1 k x2 x8 x9 x10 x11 x13 x14 x15 x16 true) else (bits_Div64.j1 k x2 x8 x9 x10 x11 x13 x14 x15 x16 (decide ((IntKind.u64.wrap (x15 * x10)) > (IntKind.u64.wrap ((IntKind.u64.wrap (4294967296 * x16)) + x13)))))
def bits_Div64.j1 : Nat → Int → Int → Int → Int → Int → Int → Int → Int → Int → Bool → Option (Int × Int)
  | 0, _, _, _, _, _, _, _, _, _, _ => none
  | k + 1, x2, x8, x9, x10, x11, x13, x14, x15, x16, x78 => if x78 = true then (if (IntKind.u64.wrap (x16 + x9)) ≥ 4294967296 then (bits_Div64.j2 k x2 x8 x9 x10 x11 x13 x14 (IntKind.u64.wrap (x15 - 1))) else (bits_Div64.l0 k x2 x8 x9 x10 x11 x13 x14 (IntKind.u64.wrap (x15 - 1)) (IntKind.u64.wrap (x16 + x9)))) else (bits_Div64.j2 k x2 x8 x9 x10 x11 x13 x14 x15)
end
def bits_Div64.f (k : Nat) (a0 : Int) (a1 : Int) (a2 : Int) : Option (Int × Int) := if a2 = 0 then (none) else (if a2 ≤ a0 then (none) else (if a0 = 0 then (some (IntKind.u64.wrap (Int.tdiv a1 a2), Int.tmod a1 a2)) else ((bits_LeadingZeros64.f k a2).bind fun t101 => (if 0 ≤ (IntKind.u64.wrap (t101)) then (if 0 ≤ (IntKind.u64.wrap (64 - (IntKind.u64.wrap (t101)))) then (if ((shl .u64 a2 (IntKind.u64.wrap (t101))) / 4294967296) = 0 then (none) else (bits_Div64.l0 k (shl .u64 a2 (IntKind.u64.wrap (t101))) (IntKind.u64.wrap (t101)) ((shl .u64 a2 (IntKind.u64.wrap (t101))) / 4294967296) (Go.bits .and .u64 (shl .u64 a2 (IntKind.u64.wrap (t101))) 4294967295) (Go.bits .or .u64 (shl .u64 a0 (IntKind.u64.wrap (t101))) (shr .u64 a1 (IntKind.u64.wrap (64 - (IntKind.u64.wrap (t101)))))) ((shl .u64 a1 (IntKind.u64.wrap (t101))) / 4294967296) (Go.bits .and .u64 (shl .u64 a1 (IntKind.u64.wrap (t101))) 4294967295) (IntKind.u64.wrap (Int.tdiv (Go.bits .or .u64 (shl .u64 a0 (IntKind.u64.wrap (t101))) (shr .u64 a1 (IntKind.u64.wrap (64 - (IntKind.u64.wrap (t101)))))) ((shl .u64 a2 (IntKind.u64.wrap (t101))) / 4294967296))) (IntKind.u64.wrap ((Go.bits .or .u64 (shl .u64 a0 (IntKind.u64.wrap (t101))) (shr .u64 a1 (IntKind.u64.wrap (64 - (IntKind.u64.wrap (t101)))))) - (IntKind.u64.wrap ((IntKind.u64.wrap (Int.tdiv (Go.bits .or .u64 (shl .u64 a0 (IntKind.u64.wrap (t101))) (shr .u64 a1 (IntKind.u64.wrap (64 - (IntKind.u64.wrap (t101)))))) ((shl .u64 a2 (IntKind.u64.wrap (t101))) / 4294967296))) * ((shl .u64 a2 (IntKind.u64.wrap (t101))) / 4294967296))))))) else (none)) else (none)))))
theorem bits_Div64.mono_l : ∀ k, (∀ y0 y1 y2 y3 y4 y5 y6 y7, LeO (bits_Div64.j2 k y0 y1 y2 y3 y4 y5 y6 y7) (bits_Div64.j2 (k + 1) y0 y1 y2 y3 y4 y5 y6 y7)) ∧ (∀ y0 y1 y2 y3 y4 y5 y6 y7 y8, LeO (bits_Div64.l1 k y0 y1 y2 y3 y4 y5 y6 y7 y8) (bits_Div64.l1 (k + 1) y0 y1 y2 y3 y4 y5 y6 y7 y8)) ∧ (∀ y0 y1 y2 y3 y4 y5 y6 y7 y8 y9, LeO (bits_Div64.j4 k y0 y1 y2 y3 y4 y5 y6 y7 y8 y9) (bits_Div64.j4 (k + 1) y0 y1 y2 y3 y4 y5 y6 y7 y8 y9)) ∧ (∀ y0 y1 y2 y3 y4 y5 y6 y7 y8, LeO (bits_Div64.l0 k y0 y1 y2 y3 y4 y5 y6 y7 y8) (bits_Div64.l0 (k + 1) y0 y1 y2 y3 y4 y5 y6 y7 y8)) ∧ (∀ y0 y1 y2 y3 y4 y5 y6 y7 y8 y9, LeO (bits_Div64.j1 k y0 y1 y2 y3 y4 y5 y6 y7 y8 y9) (bits_Div64.j1 (k + 1) y0 y1 y2 y3 y4 y5 y6 y7 y8 y9))
  | 0 => ⟨fun _ _ _ _ _ _ _ _ r h => by simp [bits_Div64.j2] at h, fun _ _ _ _ _ _ _ _ _ r h => by simp [bits_Div64.l1] at h, fun _ _ _ _ _ _ _ _ _ _ r h => by simp [bits_Div64.j4] at h, fun _ _ _ _ _ _ _ _ _ r h => by simp [bits_Div64.l0] at h, fun _ _ _ _ _ _ _ _ _ _ r h => by simp [bits_Div64.j1] at h⟩
  | k + 1 => by
    obtain ⟨ih0, ih1, ih2, ih3, ih4⟩ := bits_Div64.mono_l k
    refine ⟨?_, ?_, ?_, ?_, ?_⟩
    · intro y0 y1 y2 y3 y4 y5 y6 y7
      unfold bits_Div64.j2
      repeat' first
      | (with_reducible exact ih0 _ _ _ _ _ _ _ _)
      | (with_reducible exact ih1 _ _ _ _ _ _ _ _ _)
      | (with_reducible exact ih2 _ _ _ _ _ _ _ _ _ _)
      | (with_reducible exact ih3 _ _ _ _ _ _ _ _ _)
      | (with_reducible exact ih4 _ _ _ _ _ _ _ _ _ _)
      | (with_reducible exact bits_LeadingZeros64.mono _ _)
      | (with_reducible exact LeO.refl _)
      | (with_reducible exact LeO.none _)
      | (with_reducible refine LeO.ite ?_ ?_)
      | (with_reducible refine LeO.bind ?_ (fun _ => ?_))
      | exact ih0 _ _ _ _ _ _ _ _
      | exact ih1 _ _ _ _ _ _ _ _ _
      | exact ih2 _ _ _ _ _ _ _ _ _ _
      | exact ih3 _ _ _ _ _ _ _ _ _
      | exact ih4 _ _ _ _ _ _ _ _ _ _
      | exact bits_LeadingZeros64.mono _ _
      | exact LeO.none _
      | refine LeO.ite ?_ ?_
      | refine LeO.bind ?_ (fun _ => ?_)
    · intro y0 y1 y2 y3 y4 y5 y6 y7 y8
      unfold bits_Div64.l1
      repeat' first
      | (with_reducible exact ih0 _ _ _ _ _ _ _ _)
      | (with_reducible exact ih1 _ _ _ _ _ _ _ _ _)
      | (with_reducible exact ih2 _ _ _ _ _ _ _ _ _ _)
      | (with_reducible exact ih3 _ _ _ _ _ _ _ _ _)
      | (with_reducible exact ih4 _ _ _ _ _ _ _ _ _ _)
      | (with_reducible exact bits_LeadingZeros64.mono _ _)
      | (with_reducible exact LeO.refl _)
      | (with_reducible exact LeO.none _)
      | (with_reducible refine LeO.ite ?_ ?_)
      | (with_reducible refine LeO.bind ?_ (fun _ => ?_))
      | exact ih0 _ _ _ _ _ _ _ _
      | exact ih1 _ _ _ _ _ _ _ _ _
      | exact ih2 _ _ _ _ _ _ _ _ _ _
      | exact ih3 _ _ _ _ _ _ _ _ _
      | exact ih4 _ _ _ _ _ _ _ _ _ _
      | exact bits_LeadingZeros64.mono _ _
      | exact LeO.none _
      | refine LeO.ite ?_ ?_
      | refine LeO.bind ?_ (fun _ => ?_)
    · intro y0 y1 y2 y3 y4 y5 y6 y7 y8 y9
      unfold bits_Div64.j4
      repeat' first
      | (with_reducible exact ih0 _ _ _ _ _ _ _ _)
      | (with_reducible exact ih1 _ _ _ _ _ _ _ _ _)
      | (with_reducible exact ih2 _ _ _ _ _ _ _ _ _ _)
      | (with_reducible exact ih3 _ _ _ _ _ _ _ _ _)
      | (with_reducible exact ih4 _ _ _ _ _ _ _ _ _ _)
      | (with_reducible exact bits_LeadingZeros64.mono _ _)
      | (with_reducible exact LeO.refl _)
      | (with_reducible exact LeO.none _)
      | (with_reducible refine LeO.ite ?_ ?_)
      | (with_reducible refine LeO.bind ?_ (fun _ => ?_))
      | exact ih0 _ _ _ _ _ _ _ _
      | exact ih1 _ _ _ _ _ _ _ _ _
      | exact ih2 _ _ _ _ _ _ _ _ _ _
      | exact ih3 _ _ _ _ _ _ _ _ _
      | exact ih4 _ _ _ _ _ _ _ _ _ _
      | exact bits_LeadingZeros64.mono _ _
      | exact LeO.none _
      | refine LeO.ite ?_ ?_
      | refine LeO.bind ?_ (fun _ => ?_)
    · intro y0 y1 y2 y3 y4 y5 y6 y7 y8
      unfold bits_Div64.l0
      repeat' first
      | (with_reducible exact ih0 _ _ _ _ _ _ _ _)
      | (with_reducible exact ih1 _ _ _ _ _ _ _ _ _)
      | (with_reducible exact ih2 _ _ _ _ _ _ _ _ _ _)
      | (with_reducible exact ih3 _ _ _ _ _ _ _ _ _)
      | (with_reducible exact ih4 _ _ _ _ _ _ _ _ _ _)
      | (with_reducible exact bits_LeadingZeros64.mono _ _)
      | (with_reducible exact LeO.refl _)
      | (with_reducible exact LeO.none _)
      | (with_reducible refine LeO.ite ?_ ?_)
      | (with_reducible refine LeO.bind ?_ (fun _ => ?_))
      | exact ih0 _ _ _ _ _ _ _ _
      | exact ih1 _ _ _ _ _ _ _ _ _
      | exact ih2 _ _ _ _ _ _ _ _ _ _
      | exact ih3 _ _ _ _ _ _ _ _ _
      | exact ih4 _ _ _ _ _ _ _ _ _ _
      | exact bits_LeadingZeros64.mono _ _
      | exact LeO.none _
      | refine LeO.ite ?_ ?_
      | refine LeO.bind ?_ (fun _ => ?_)
    · intro y0 y1 y2 y3 y4 y5 y6 y7 y8 y9
      unfold bits_Div64.j1
      repeat' first
      | (with_reducible exact ih0 _ _ _ _ _ _ _ _)
      | (with_reducible exact ih1 _ _ _ _ _ _ _ _ _)
      | (with_reducible exact ih2 _ _ _ _ _ _ _ _ _ _)
      | (with_reducible exact ih3 _ _ _ _ _ _ _ _ _)
      | (with_reducible exact ih4 _ _ _ _ _ _ _ _ _ _)
      | (with_reducible exact bits_LeadingZeros64.mono _ _)
      | (with_reducible exact LeO.refl _)
      | (with_reducible exact LeO.none _)
      | (with_reducible refine LeO.ite ?_ ?_)
      | (with_reducible refine LeO.bind ?_ (fun _ => ?_))
      | exact ih0 _ _ _ _ _ _ _ _
      | exact ih1 _ _ _ _ _ _ _ _ _
      | exact ih2 _ _ _ _ _ _ _ _ _ _
      | exact ih3 _ _ _ _ _ _ _ _ _
      | exact ih4 _ _ _ _ _ _ _ _ _ _
      | exact bits_LeadingZeros64.mono _ _
      | exact LeO.none _
      | refine LeO.ite ?_ ?_
      | refine LeO.bind ?_ (fun _ => ?_)
theorem bits_Div64.mono : ∀ a0 a1 a2 k, LeO (bits_Div64.f k a0 a1 a2) (bits_Div64.f (k + 1) a0 a1 a2) := by
  intro a0 a1 a2 k
  obtain ⟨ih0, ih1, ih2, ih3, ih4⟩ := bits_Div64.mono_l k
  unfold bits_Div64.f
  repeat' first
      | (with_reducible exact ih0 _ _ _ _ _ _ _ _)
      | (with_reducible exact ih1 _ _ _ _ _ _ _ _ _)
      | (with_reducible exact ih2 _ _ _ _ _ _ _ _ _ _)
      | (with_reducible exact ih3 _ _ _ _ _ _ _ _ _)
      | (with_reducible exact ih4 _ _ _ _ _ _ _ _ _ _)
      | (with_reducible exact bits_LeadingZeros64.mono _ _)
      | (with_reducible exact LeO.refl _)
      | (with_reducible exact LeO.none _)
      | (with_reducible refine LeO.ite ?_ ?_)
      | (with_reducible refine LeO.bind ?_ (fun _ => ?_))
      | exact ih0 _ _ _ _ _ _ _ _
      | exact ih1 _ _ _ _ _ _ _ _ _
      | exact ih2 _ _ _ _ _ _ _ _ _ _
      | exact ih3 _ _ _ _ _ _ _ _ _
      | exact ih4 _ _ _ _ _ _ _ _ _ _
      | exact bits_LeadingZeros64.mono _ _
      | exact LeO.none _
      | refine LeO.ite ?_ ?_
      | refine LeO.bind ?_ (fun _ => ?_)
set_option maxHeartbeats 8000000 in
set_option maxRecDepth 100000 in
theorem bits_Div64.calls (k : Nat) (a0 : Int) (a1 : Int) (a2 : Int) (r1 : Int) (r2 : Int) (w : World) (h : bits_Div64.f k a0 a1 a2 = some (r1, r2)) :
    Calls Try.prog 71 #[.int .u64 a0, .int .u64 a1, .int .u64 a2] w fun e w' => e = .returned (.tuple #[.int .u64 r1, .int .u64 r2]) ∧ Drawn0 w w' := by
  have H : (if a2 = 0 then (none) else (if a2 ≤ a0 then (none) else (if a0 = 0 then (some (IntKind.u64.wrap (Int.tdiv a1 a2), Int.tmod a1 a2)) else ((bits_LeadingZeros64.f k a2).bind fun t101 => (if 0 ≤ (IntKind.u64.wrap (t101)) then (if 0 ≤ (IntKind.u64.wrap (64 - (IntKind.u64.wrap (t101)))) then (if ((shl .u64 a2 (IntKind.u64.wrap (t101))) / 4294967296) = 0 then (none) else (bits_Div64.l0 k (shl .u64 a2 (IntKind.u64.wrap (t101))) (IntKind.u64.wrap (t101)) ((shl .u64 a2 (IntKind.u64.wrap (t101))) / 4294967296) (Go.bits .and .u64 (shl .u64 a2 (IntKind.u64.wrap (t101))) 4294967295) (Go.bits .or .u64 (shl .u64 a0 (IntKind.u64.wrap (t101))) (shr .u64 a1 (IntKind.u64.wrap (64 - (IntKind.u64.wrap (t101)))))) ((shl .u64 a1 (IntKind.u64.wrap (t101))) / 4294967296) (Go.bits .and .u64 (shl .u64 a1 (IntKind.u64.wrap (t101))) 4294967295) (IntKind.u64.wrap (Int.tdiv (Go.bits .or .u64 (shl .u64 a0 (IntKind.u64.wrap (t101))) (shr .u64 a1 (IntKind.u64.wrap (64 - (IntKind.u64.wrap (t101)))))) ((shl .u64 a2 (IntKind.u64.wrap (t101))) / 4294967296))) (IntKind.u64.wrap ((Go.bits .or .u64 (shl .u64 a0 (IntKind.u64.wrap (t101))) (shr .u64 a1 (IntKind.u64.wrap (64 - (IntKind.u64.wrap (t101)))))) - (IntKind.u64.wrap ((IntKind.u64.wrap (Int.tdiv (Go.bits .or .u64 (shl .u64 a0 (IntKind.u64.wrap (t101))) (shr .u64 a1 (IntKind.u64.wrap (64 - (IntKind.u64.wrap (t101)))))) ((shl .u64 a2 (IntKind.u64.wrap (t101))) / 4294967296))) * ((shl .u64 a2 (IntKind.u64.wrap (t101))) / 4294967296))))))) else (none)) else (none)))))) = some (r1, r2) := h
  clear h
  by_cases c4 : a2 = 0
  · rw [if_pos c4] at H
    exact absurd H (by simp)
  · rw [if_neg c4] at H
    have c4b0 : (a2 == 0) = false := beq_eq_false_iff_ne.mpr c4
    have c4b1 : (a2 != 0) = true := bne_iff_ne.mpr c4
    by_cases c5 : a2 ≤ a0
    · rw [if_pos c5] at H
      exact absurd H (by simp)
    · rw [if_neg c5] at H
      have c5b0 : decide (a2 ≤ a0) = false := decide_eq_false c5
      clear c5
      by_cases c6 : a0 = 0
      · rw [if_pos c6] at H
        have c6b0 : (a0 == 0) = true := beq_iff_eq.mpr c6
        have c6b1 : (a0 != 0) = false := bne_eq_false_iff_eq.mpr c6
        clear c6
        simp only [Option.some.injEq, Prod.mk.injEq] at H
        obtain ⟨rfl, rfl⟩ := H
        go_enter Try.func71, Try.ntmps71
        go_wp2
        repeat (go_quiet (fail); try go_wp2)
        go_ret2
        exact ⟨by first | rfl | (simp; done) | (simp [*]; done), by repeat (first | exact Drawn0.refl _ | apply Drawn0.step)⟩
      · rw [if_neg c6] at H
        have c6b0 : (a0 == 0) = false := beq_eq_false_iff_ne.mpr c6
        have c6b1 : (a0 != 0) = true := bne_iff_ne.mpr c6
        replace H := Option.bind_eq_some_iff.mp H
        obtain ⟨t101, A70, H⟩ := H
        replace H : (if 0 ≤ (IntKind.u64.wrap (t101)) then (if 0 ≤ (IntKind.u64.wrap (64 - (IntKind.u64.wrap (t101)))) then (if ((shl .u64 a2 (IntKind.u64.wrap (t101))) / 4294967296) = 0 then (none) else (bits_Div64.l0 k (shl .u64 a2 (IntKind.u64.wrap (t101))) (IntKind.u64.wrap (t101)) ((shl .u64 a2 (IntKind.u64.wrap (t101))) / 4294967296) (Go.bits .and .u64 (shl .u64 a2 (IntKind.u64.wrap (t101))) 4294967295) (Go.bits .or .u64 (shl .u64 a0 (IntKind.u64.wrap (t101))) (shr .u64 a1 (IntKind.u64.wrap (64 - (IntKind.u64.wrap (t101)))))) ((shl .u64 a1 (IntKind.u64.wrap (t101))) / 4294967296) (Go.bits .and .u64 (shl .u64 a1 (IntKind.u64.wrap (t101))) 4294967295) (IntKind.u64.wrap (Int.tdiv (Go.bits .or .u64 (shl .u64 a0 (IntKind.u64.wrap (t101))) (shr .u64 a1 (IntKind.u64.wrap (64 - (IntKind.u64.wrap (t101)))))) ((shl .u64 a2 (IntKind.u64.wrap (t101))) / 4294967296))) (IntKind.u64.wrap ((Go.bits .or .u64 (shl .u64 a0 (IntKind.u64.wrap (t101))) (shr .u64 a1 (IntKind.u64.wrap (64 - (IntKind.u64.wrap (t101)))))) - (IntKind.u64.wrap ((IntKind.u64.wrap (Int.tdiv (Go.bits .or .u64 (shl .u64 a0 (IntKind.u64.wrap (t101))) (shr .u64 a1 (IntKind.u64.wrap (64 - (IntKind.u64.wrap (t101)))))) ((shl .u64 a2 (IntKind.u64.wrap (t101))) / 4294967296))) * ((shl .u64 a2 (IntKind.u64.wrap (t101))) / 4294967296))))))) else (none)) else (none)) = some (r1, r2) := H
        have A7 := Aside0.mk A70
        clear A70
        obtain ⟨ji8, hji8⟩ : ∃ j_ : Int, (IntKind.u64.wrap (t101)) = j_ := ⟨_, rfl⟩
        replace H : (if 0 ≤ (ji8) then (if 0 ≤ (IntKind.u64.wrap (64 - (ji8))) then (if ((shl .u64 a2 (ji8)) / 4294967296) = 0 then (none) else (bits_Div64.l0 k (shl .u64 a2 (ji8)) ji8 ((shl .u64 a2 (ji8)) / 4294967296) (Go.bits .and .u64 (shl .u64 a2 (ji8)) 4294967295) (Go.bits .or .u64 (shl .u64 a0 (ji8)) (shr .u64 a1 (IntKind.u64.wrap (64 - (ji8))))) ((shl .u64 a1 (ji8)) / 4294967296) (Go.bits .and .u64 (shl .u64 a1 (ji8)) 4294967295) (IntKind.u64.wrap (Int.tdiv (Go.bits .or .u64 (shl .u64 a0 (ji8)) (shr .u64 a1 (IntKind.u64.wrap (64 - (ji8))))) ((shl .u64 a2 (ji8)) / 4294967296))) (IntKind.u64.wrap ((Go.bits .or .u64 (shl .u64 a0 (ji8)) (shr .u64 a1 (IntKind.u64.wrap (64 - (ji8))))) - (IntKind.u64.wrap ((IntKind.u64.wrap (Int.tdiv (Go.bits .or .u64 (shl .u64 a0 (ji8)) (shr .u64 a1 (IntKind.u64.wrap (64 - (ji8))))) ((shl .u64 a2 (ji8)) / 4294967296))) * ((shl .u64 a2 (ji8)) / 4294967296))))))) else (none)) else (none)) = some (r1, r2) := by first | (rw [hji8] at H; exact H) | (simp only [hji8] at H ⊢; exact H)
        (try rw [hji8] at A7)
        by_cases c9 : 0 ≤ (ji8)
        · rw [if_pos c9] at H
          have c9b0 := eq_true c9
          have c9b1 : decide (0 ≤ (ji8)) = true := decide_eq_true c9
          clear c9
          obtain ⟨ji10, hji10⟩ : ∃ j_ : Int, (shl .u64 a2 (ji8)) = j_ := ⟨_, rfl⟩
          replace H : (if 0 ≤ (IntKind.u64.wrap (64 - (ji8))) then (if ((ji10) / 4294967296) = 0 then (none) else (bits_Div64.l0 k ji10 ji8 ((ji10) / 4294967296) (Go.bits .and .u64 (ji10) 4294967295) (Go.bits .or .u64 (shl .u64 a0 (ji8)) (shr .u64 a1 (IntKind.u64.wrap (64 - (ji8))))) ((shl .u64 a1 (ji8)) / 4294967296) (Go.bits .and .u64 (shl .u64 a1 (ji8)) 4294967295) (IntKind.u64.wrap (Int.tdiv (Go.bits .or .u64 (shl .u64 a0 (ji8)) (shr .u64 a1 (IntKind.u64.wrap (64 - (ji8))))) ((ji10) / 4294967296))) (IntKind.u64.wrap ((Go.bits .or .u64 (shl .u64 a0 (ji8)) (shr .u64 a1 (IntKind.u64.wrap (64 - (ji8))))) - (IntKind.u64.wrap ((IntKind.u64.wrap (Int.tdiv (Go.bits .or .u64 (shl .u64 a0 (ji8)) (shr .u64 a1 (IntKind.u64.wrap (64 - (ji8))))) ((ji10) / 4294967296))) * ((ji10) / 4294967296))))))) else (none)) = some (r1, r2) := by first | (rw [hji10] at H; exact H) | (simp only [hji10] at H ⊢; exact H)
          (try rw [hji10] at A7)
          have hji10_ : (IntKind.u64.wrap (a2 * 2 ^ min (ji8).toNat 64)) = ji10 := hji10
          have hji10z : (ji8) ≤ 64 → (IntKind.u64.wrap (a2 * 2 ^ (ji8).toNat)) = ji10 := shl_small hji10
          have c11b0 := eq_true (of_decide_eq_true (by first | (with_reducible assumption) | assumption) : 0 ≤ (ji8))
          obtain ⟨ji12, hji12⟩ : ∃ j_ : Int, (shl .u64 a0 (ji8)) = j_ := ⟨_, rfl⟩
          replace H : (if 0 ≤ (IntKind.u64.wrap (64 - (ji8))) then (if ((ji10) / 4294967296) = 0 then (none) else (bits_Div64.l0 k ji10 ji8 ((ji10) / 4294967296) (Go.bits .and .u64 (ji10) 4294967295) (Go.bits .or .u64 (ji12) (shr .u64 a1 (IntKind.u64.wrap (64 - (ji8))))) ((shl .u64 a1 (ji8)) / 4294967296) (Go.bits .and .u64 (shl .u64 a1 (ji8)) 4294967295) (IntKind.u64.wrap (Int.tdiv (Go.bits .or .u64 (ji12) (shr .u64 a1 (IntKind.u64.wrap (64 - (ji8))))) ((ji10) / 4294967296))) (IntKind.u64.wrap ((Go.bits .or .u64 (ji12) (shr .u64 a1 (IntKind.u64.wrap (64 - (ji8))))) - (IntKind.u64.wrap ((IntKind.u64.wrap (Int.tdiv (Go.bits .or .u64 (ji12) (shr .u64 a1 (IntKind.u64.wrap (64 - (ji8))))) ((ji10) / 4294967296))) * ((ji10) / 4294967296))))))) else (none)) = some (r1, r2) := by first | (rw [hji12] at H; exact H) | (simp only [hji12] at H ⊢; exact H)
          (try rw [hji12] at A7)
          have hji12_ : (IntKind.u64.wrap (a0 * 2 ^ min (ji8).toNat 64)) = ji12 := hji12
          have hji12z : (ji8) ≤ 64 → (IntKind.u64.wrap (a0 * 2 ^ (ji8).toNat)) = ji12 := shl_small hji12
          obtain ⟨ji13, hji13⟩ : ∃ j_ : Int, (IntKind.u64.wrap (64 - (ji8))) = j_ := ⟨_, rfl⟩
          replace H : (if 0 ≤ (ji13) then (if ((ji10) / 4294967296) = 0 then (none) else (bits_Div64.l0 k ji10 ji8 ((ji10) / 4294967296) (Go.bits .and .u64 (ji10) 4294967295) (Go.bits .or .u64 (ji12) (shr .u64 a1 (ji13))) ((shl .u64 a1 (ji8)) / 4294967296) (Go.bits .and .u64 (shl .u64 a1 (ji8)) 4294967295) (IntKind.u64.wrap (Int.tdiv (Go.bits .or .u64 (ji12) (shr .u64 a1 (ji13))) ((ji10) / 4294967296))) (IntKind.u64.wrap ((Go.bits .or .u64 (ji12) (shr .u64 a1 (ji13))) - (IntKind.u64.wrap ((IntKind.u64.wrap (Int.tdiv (Go.bits .or .u64 (ji12) (shr .u64 a1 (ji13))) ((ji10) / 4294967296))) * ((ji10) / 4294967296))))))) else (none)) = some (r1, r2) := by first | (rw [hji13] at H; exact H) | (simp only [hji13] at H ⊢; exact H)
          (try rw [hji13] at A7)
          by_cases c14 : 0 ≤ (ji13)
          · rw [if_pos c14] at H
            have c14b0 := eq_true c14
            have c14b1 : decide (0 ≤ (ji13)) = true := decide_eq_true c14
            clear c14
            obtain ⟨ji15, hji15⟩ : ∃ j_ : Int, (shr .u64 a1 (ji13)) = j_ := ⟨_, rfl⟩
            replace H : (if ((ji10) / 4294967296) = 0 then (none) else (bits_Div64.l0 k ji10 ji8 ((ji10) / 4294967296) (Go.bits .and .u64 (ji10) 4294967295) (Go.bits .or .u64 (ji12) (ji15)) ((shl .u64 a1 (ji8)) / 4294967296) (Go.bits .and .u64 (shl .u64 a1 (ji8)) 4294967295) (IntKind.u64.wrap (Int.tdiv (Go.bits .or .u64 (ji12) (ji15)) ((ji10) / 4294967296))) (IntKind.u64.wrap ((Go.bits .or .u64 (ji12) (ji15)) - (IntKind.u64.wrap ((IntKind.u64.wrap (Int.tdiv (Go.bits .or .u64 (ji12) (ji15)) ((ji10) / 4294967296))) * ((ji10) / 4294967296))))))) = some (r1, r2) := by first | (rw [hji15] at H; exact H) | (simp only [hji15] at H ⊢; exact H)
            (try rw [hji15] at A7)
            have hji15_ : (a1 / 2 ^ min (ji13).toNat 64) = ji15 := hji15
            have hji15z : (ji13) ≤ 64 → (a1 / 2 ^ (ji13).toNat) = ji15 := shr_small hji15
            have c16b0 := eq_true (of_decide_eq_true (by first | (with_reducible assumption) | assumption) : 0 ≤ (ji8))
            obtain ⟨ji17, hji17⟩ : ∃ j_ : Int, (shl .u64 a1 (ji8)) = j_ := ⟨_, rfl⟩
            replace H : (if ((ji10) / 4294967296) = 0 then (none) else (bits_Div64.l0 k ji10 ji8 ((ji10) / 4294967296) (Go.bits .and .u64 (ji10) 4294967295) (Go.bits .or .u64 (ji12) (ji15)) ((ji17) / 4294967296) (Go.bits .and .u64 (ji17) 4294967295) (IntKind.u64.wrap (Int.tdiv (Go.bits .or .u64 (ji12) (ji15)) ((ji10) / 4294967296))) (IntKind.u64.wrap ((Go.bits .or .u64 (ji12) (ji15)) - (IntKind.u64.wrap ((IntKind.u64.wrap (Int.tdiv (Go.bits .or .u64 (ji12) (ji15)) ((ji10) / 4294967296))) * ((ji10) / 4294967296))))))) = some (r1, r2) := by first | (rw [hji17] at H; exact H) | (simp only [hji17] at H ⊢; exact H)
            (try rw [hji17] at A7)
            have hji17_ : (IntKind.u64.wrap (a1 * 2 ^ min (ji8).toNat 64)) = ji17 := hji17
            have hji17z : (ji8) ≤ 64 → (IntKind.u64.wrap (a1 * 2 ^ (ji8).toNat)) = ji17 := shl_small hji17
            by_cases c18 : ((ji10) / 4294967296) = 0
            · rw [if_pos c18] at H
              exact absurd H (by simp)
            · rw [if_neg c18] at H
              have c18b0 : (((ji10) / 4294967296) == 0) = false := beq_eq_false_iff_ne.mpr c18
              have c18b1 : (((ji10) / 4294967296) != 0) = true := bne_iff_ne.mpr c18
              have HC19 := Aside0.mk H
              clear H
              go_enter Try.func71, Try.ntmps71
              go_upto_block 0 with (first | (go_at_call 98; (with_reducible refine (bits_LeadingZeros64.calls k a2 t101 _ A7.out).mono ?_); rintro e w' ⟨rfl, ⟨nd, rfl⟩⟩; (try first | exact ⟨rfl, _, World.drewN_drewN _ _ _⟩ | exact ⟨rfl, _, Eq.trans (World.drewN_drewN _ _ _) (congrArg (World.drewN _) (Nat.add_assoc _ _ _))⟩)))
              repeat (go_quiet (first | (go_at_call 98; (with_reducible refine (bits_LeadingZeros64.calls k a2 t101 _ A7.out).mono ?_); rintro e w' ⟨rfl, ⟨nd, rfl⟩⟩; (try first | exact ⟨rfl, _, World.drewN_drewN _ _ _⟩ | exact ⟨rfl, _, Eq.trans (World.drewN_drewN _ _ _) (congrArg (World.drewN _) (Nat.add_assoc _ _ _))⟩))); go_upto_block 0 with (first | (go_at_call 98; (with_reducible refine (bits_LeadingZeros64.calls k a2 t101 _ A7.out).mono ?_); rintro e w' ⟨rfl, ⟨nd, rfl⟩⟩; (try first | exact ⟨rfl, _, World.drewN_drewN _ _ _⟩ | exact ⟨rfl, _, Eq.trans (World.drewN_drewN _ _ _) (congrArg (World.drewN _) (Nat.add_assoc _ _ _))⟩))))
              (try simp only [Act.put, List.setIfInBounds_toArray, List.set_cons_zero, List.set_cons_succ])
              go_cut [15] (fun v15 wc => ∃ (kq : Nat) (x15_18 : Int), v15 = .int .u64 x15_18 ∧ Aside0 (bits_Div64.j2 kq ji10 ji8 ((ji10) / 4294967296) (Go.bits .and .u64 (ji10) 4294967295) (Go.bits .or .u64 (ji12) (ji15)) ((ji17) / 4294967296) (Go.bits .and .u64 (ji17) 4294967295) x15_18 = some (r1, r2)) ∧ Aside0 (kq ≤ k) ∧ Drawn0 w wc)
              case first =>
                have H := HC19.out
                clear HC19
                have H' := Aside0.mk H
                clear H
                go_wp2
                repeat (go_quiet (fail); try go_wp2)
                go_loopg [15, 16] k (fun kq v15 v16 w' => ∃ (x15_1 : Int) (x16_1 : Int), v15 = .int .u64 x15_1 ∧ v16 = .int .u64 x16_1 ∧ Aside0 (bits_Div64.l0 kq ji10 ji8 ((ji10) / 4294967296) (Go.bits .and .u64 (ji10) 4294967295) (Go.bits .or .u64 (ji12) (ji15)) ((ji17) / 4294967296) (Go.bits .and .u64 (ji17) 4294967295) x15_1 x16_1 = some (r1, r2)) ∧ Aside0 (kq ≤ k) ∧ Drawn0 w w')
                case atStart => exact ⟨(IntKind.u64.wrap (Int.tdiv (Go.bits .or .u64 (ji12) (ji15)) ((ji10) / 4294967296))), (IntKind.u64.wrap ((Go.bits .or .u64 (ji12) (ji15)) - (IntKind.u64.wrap ((IntKind.u64.wrap (Int.tdiv (Go.bits .or .u64 (ji12) (ji15)) ((ji10) / 4294967296))) * ((ji10) / 4294967296))))), (by first | rfl | (simp; done) | (simp only [← hji10, ← hji12, ← hji15] <;> (first | rfl | simp)) | (simp [*]; done)), (by first | rfl | (simp; done) | (simp only [← hji10, ← hji12, ← hji15] <;> (first | rfl | simp)) | (simp [*]; done)), H', ⟨Nat.le_refl _⟩, by repeat (first | exact Drawn0.refl _ | apply Drawn0.step)⟩
                case round =>
                  clear H'
                  try clear c1
                  try clear p2
                  try clear c4
                  try clear c4b0
                  try clear c4b1
                  try clear c5
                  try clear c5b0
                  try clear c6
                  try clear c6b0
                  try clear c6b1
                  try clear c7
                  try clear c9
                  try clear c9b0
                  try clear c9b1
                  try clear c11
                  try clear c11b0
                  try clear c14
                  try clear c14b0
                  try clear c14b1
                  try clear c16
                  try clear c16b0
                  try clear c18
                  try clear c18b0
                  try clear c18b1
                  obtain ⟨x15_1, x16_1, rfl, rfl, HA, HK1, ⟨m1, rfl⟩⟩ := hrel
                  cases gk with
                  | zero => exact absurd HA.out (by simp [bits_Div64.l0])
                  | succ k1 =>
                    have H := HA.out
                    clear HA
                    simp only [bits_Div64.l0] at H
                    have HC20 := Aside0.mk H
                    clear H
                    go_upto_region 17 with (fail)
                    repeat (go_quiet (fail); go_upto_region 17 with (fail))
                    go_cut [78] (fun v78 wc => ∃ (kq : Nat) (x78_19 : Bool), v78 = .bool x78_19 ∧ Aside0 (bits_Div64.j1 kq ji10 ji8 ((ji10) / 4294967296) (Go.bits .and .u64 (ji10) 4294967295) (Go.bits .or .u64 (ji12) (ji15)) ((ji17) / 4294967296) (Go.bits .and .u64 (ji17) 4294967295) x15_1 x16_1 x78_19 = some (r1, r2)) ∧ Aside0 (kq ≤ k1) ∧ Drawn0 w wc)
                    case first =>
                      have H := HC20.out
                      clear HC20
                      by_cases c21 : x15_1 ≥ 4294967296
                      · rw [if_pos c21] at H
                        have c21b0 : decide (4294967296 ≤ x15_1) = true := decide_eq_true c21
                        clear c21
                        (first | rw [c21b0] | (simp only [i64_w, i32_w]; rw [c21b0]) | skip)
                        have H' := Aside0.mk H
                        clear H
                        go_wp2
                        repeat (go_quiet (fail); try go_wp2)
                        go_meet
                        case rel => exact ⟨_, (true), (by first | rfl | (simp; done) | (simp [*]; done)), H', ⟨by have := HK1.out; first | omega | exact Nat.le_refl _⟩, by repeat (first | exact Drawn0.refl _ | apply Drawn0.step)⟩
                      · rw [if_neg c21] at H
                        have c21b0 : decide (4294967296 ≤ x15_1) = false := decide_eq_false c21
                        clear c21
                        (first | rw [c21b0] | (simp only [i64_w, i32_w]; rw [c21b0]) | skip)
                        have H' := Aside0.mk H
                        clear H
                        go_wp2
                        repeat (go_quiet (fail); try go_wp2)
                        go_meet
                        case rel => exact ⟨_, (decide ((IntKind.u64.wrap (x15_1 * (Go.bits .and .u64 (ji10) 4294967295))) > (IntKind.u64.wrap ((IntKind.u64.wrap (4294967296 * x16_1)) + ((ji17) / 4294967296))))), (by first | rfl | (simp; done) | (simp only [← hji10, ← hji17] <;> (first | rfl | simp)) | (simp [*]; done)), H', ⟨by have := HK1.out; first | omega | exact Nat.le_refl _⟩, by repeat (first | exact Drawn0.refl _ | apply Drawn0.step)⟩
                    case rest =>
                      clear HC20
                      try clear c1
                      try clear c2
                      try clear p2
                      try clear c4
                      try clear c4b0
                      try clear c4b1
                      try clear c5
                      try clear c5b0
                      try clear c6
                      try clear c6b0
                      try clear c6b1
                      try clear c7
                      try clear c9
                      try clear c9b0
                      try clear c9b1
                      try clear c11
                      try clear c11b0
                      try clear c14
                      try clear c14b0
                      try clear c14b1
                      try clear c16
                      try clear c16b0
                      try clear c18
                      try clear c18b0
                      try clear c18b1
                      try clear c21
                      try clear c21b0
                      try clear p2
                      obtain ⟨kq, x78_19, rfl, HA, HJ19, ⟨mc19, rfl⟩⟩ := hcut
                      cases kq with
                      | zero => exact absurd HA.out (by simp [bits_Div64.j1])
                      | succ kj19 =>
                        have H := HA.out
                        clear HA
                        simp only [bits_Div64.j1] at H
                        by_cases c22 : x78_19 = true
                        · subst c22
                          have H1 : (if (IntKind.u64.wrap (x16_1 + ((ji10) / 4294967296))) ≥ 4294967296 then (bits_Div64.j2 kj19 ji10 ji8 ((ji10) / 4294967296) (Go.bits .and .u64 (ji10) 4294967295) (Go.bits .or .u64 (ji12) (ji15)) ((ji17) / 4294967296) (Go.bits .and .u64 (ji17) 4294967295) (IntKind.u64.wrap (x15_1 - 1))) else (bits_Div64.l0 kj19 ji10 ji8 ((ji10) / 4294967296) (Go.bits .and .u64 (ji10) 4294967295) (Go.bits .or .u64 (ji12) (ji15)) ((ji17) / 4294967296) (Go.bits .and .u64 (ji17) 4294967295) (IntKind.u64.wrap (x15_1 - 1)) (IntKind.u64.wrap (x16_1 + ((ji10) / 4294967296))))) = some (r1, r2) := by rw [if_pos rfl] at H; exact H
                          clear H
                          have H := H1
                          clear H1
                          by_cases c23 : (IntKind.u64.wrap (x16_1 + ((ji10) / 4294967296))) ≥ 4294967296
                          · rw [if_pos c23] at H
                            have c23b0 : decide (4294967296 ≤ (IntKind.u64.wrap (x16_1 + ((ji10) / 4294967296)))) = true := decide_eq_true c23
                            clear c23
                            have H' := Aside0.mk H
                            clear H
                            go_wp2
                            repeat (go_quiet (fail); try go_wp2)
                            go_meet
                            case rel => exact ⟨_, (IntKind.u64.wrap (x15_1 - 1)), (by first | rfl | (simp; done) | (simp [*]; done)), H', ⟨by have := HK1.out; have := HJ19.out; first | omega | exact Nat.le_refl _⟩, by repeat (first | exact Drawn0.refl _ | apply Drawn0.step)⟩
                          · rw [if_neg c23] at H
                            have c23b0 : decide (4294967296 ≤ (IntKind.u64.wrap (x16_1 + ((ji10) / 4294967296)))) = false := decide_eq_false c23
                            clear c23
                            have H' := Aside0.mk H
                            clear H
                            go_wp2
                            repeat (go_quiet (fail); try go_wp2)
                            go_roundg kj19
                            case measure => have := HK1.out; have := HJ19.out; omega
                            case rel => exact ⟨(IntKind.u64.wrap (x15_1 - 1)), (IntKind.u64.wrap (x16_1 + ((ji10) / 4294967296))), (by first | rfl | (simp; done) | (simp [*]; done)), (by first | rfl | (simp; done) | (simp only [← hji10] <;> (first | rfl | simp)) | (simp [*]; done)), H', ⟨by have := HK1.out; have := HJ19.out; omega⟩, by repeat (first | exact Drawn0.refl _ | apply Drawn0.step)⟩
                        · replace c22 := Bool.eq_false_iff.mpr c22
                          subst c22
                          have H1 : (bits_Div64.j2 kj19 ji10 ji8 ((ji10) / 4294967296) (Go.bits .and .u64 (ji10) 4294967295) (Go.bits .or .u64 (ji12) (ji15)) ((ji17) / 4294967296) (Go.bits .and .u64 (ji17) 4294967295) x15_1) = some (r1, r2) := by rw [if_neg (show ¬ (false = true) by decide)] at H; exact H
                          clear H
                          have H := H1
                          clear H1
                          have H' := Aside0.mk H
                          clear H
                          go_wp2
                          repeat (go_quiet (fail); try go_wp2)
                          go_meet
                          case rel => exact ⟨_, (x15_1), (by first | rfl | (simp; done) | (simp [*]; done)), H', ⟨by have := HK1.out; have := HJ19.out; first | omega | exact Nat.le_refl _⟩, by repeat (first | exact Drawn0.refl _ | apply Drawn0.step)⟩
              case rest =>
                clear HC19
                try clear c1
                try clear c2
                try clear p2
                try clear c4
                try clear c4b0
                try clear c4b1
                try clear c5
                try clear c5b0
                try clear c6
                try clear c6b0
                try clear c6b1
                try clear c7
                try clear c9
                try clear c9b0
                try clear c9b1
                try clear c11
                try clear c11b0
                try clear c14
                try clear c14b0
                try clear c14b1
                try clear c16
                try clear c16b0
                try clear c18
                try clear c18b0
                try clear c18b1
                try clear c19
                try clear c21
                try clear c21b0
                try clear c22
                try clear c23
                try clear c23b0
                try clear p2
                obtain ⟨kq, x15_18, rfl, HA, HJ18, ⟨mc18, rfl⟩⟩ := hcut
                cases kq with
                | zero => exact absurd HA.out (by simp [bits_Div64.j2])
                | succ kj18 =>
                  have H := HA.out
                  clear HA
                  simp only [bits_Div64.j2] at H
                  by_cases c24 : ((ji10) / 4294967296) = 0
                  · rw [if_pos c24] at H
                    exact absurd H (by simp)
                  · rw [if_neg c24] at H
                    have c24b0 : (((ji10) / 4294967296) == 0) = false := beq_eq_false_iff_ne.mpr c24
                    have c24b1 : (((ji10) / 4294967296) != 0) = true := bne_iff_ne.mpr c24
                    have H' := Aside0.mk H
                    clear H
                    go_wp2
                    repeat (go_quiet (fail); try go_wp2)
                    go_loopg [16, 18] kj18 (fun kq v16 v18 w' => ∃ (x16_2 : Int) (x18_2 : Int), v16 = .int .u64 x16_2 ∧ v18 = .int .u64 x18_2 ∧ Aside0 (bits_Div64.l1 kq ji10 ji8 ((ji10) / 4294967296) (Go.bits .and .u64 (ji10) 4294967295) (Go.bits .and .u64 (ji17) 4294967295) x15_18 x16_2 (IntKind.u64.wrap ((IntKind.u64.wrap ((IntKind.u64.wrap ((Go.bits .or .u64 (ji12) (ji15)) * 4294967296)) + ((ji17) / 4294967296))) - (IntKind.u64.wrap (x15_18 * ji10)))) x18_2 = some (r1, r2)) ∧ Aside0 (kq ≤ kj18) ∧ Drawn0 w w')
                    case atStart => exact ⟨(IntKind.u64.wrap ((IntKind.u64.wrap ((IntKind.u64.wrap ((IntKind.u64.wrap ((Go.bits .or .u64 (ji12) (ji15)) * 4294967296)) + ((ji17) / 4294967296))) - (IntKind.u64.wrap (x15_18 * ji10)))) - (IntKind.u64.wrap ((IntKind.u64.wrap (Int.tdiv (IntKind.u64.wrap ((IntKind.u64.wrap ((IntKind.u64.wrap ((Go.bits .or .u64 (ji12) (ji15)) * 4294967296)) + ((ji17) / 4294967296))) - (IntKind.u64.wrap (x15_18 * ji10)))) ((ji10) / 4294967296))) * ((ji10) / 4294967296))))), (IntKind.u64.wrap (Int.tdiv (IntKind.u64.wrap ((IntKind.u64.wrap ((IntKind.u64.wrap ((Go.bits .or .u64 (ji12) (ji15)) * 4294967296)) + ((ji17) / 4294967296))) - (IntKind.u64.wrap (x15_18 * ji10)))) ((ji10) / 4294967296))), (by first | rfl | (simp; done) | (simp only [← hji10, ← hji12, ← hji15, ← hji17] <;> (first | rfl | simp)) | (simp [*]; done)), (by first | rfl | (simp; done) | (simp only [← hji10, ← hji12, ← hji15, ← hji17] <;> (first | rfl | simp)) | (simp [*]; done)), H', ⟨Nat.le_refl _⟩, by repeat (first | exact Drawn0.refl _ | apply Drawn0.step)⟩
                    case round =>
                      clear H'
                      try clear c1
                      try clear c2
                      try clear p2
                      try clear c4
                      try clear c4b0
                      try clear c4b1
                      try clear c5
                      try clear c5b0
                      try clear c6
                      try clear c6b0
                      try clear c6b1
                      try clear c7
                      try clear c9
                      try clear c9b0
                      try clear c9b1
                      try clear c11
                      try clear c11b0
                      try clear c14
                      try clear c14b0
                      try clear c14b1
                      try clear c16
                      try clear c16b0
                      try clear c18
                      try clear c18b0
                      try clear c18b1
                      try clear c19
                      try clear c21
                      try clear c21b0
                      try clear c22
                      try clear c23
                      try clear c23b0
                      try clear c24
                      try clear c24b0
                      try clear c24b1
                      try clear p2
                      obtain ⟨x16_2, x18_2, rfl, rfl, HA, HK2, ⟨m2, rfl⟩⟩ := hrel
                      cases gk with
                      | zero => exact absurd HA.out (by simp [bits_Div64.l1])
                      | succ k2 =>
                        have H := HA.out
                        clear HA
                        simp only [bits_Div64.l1] at H
                        have HC25 := Aside0.mk H
                        clear H
                        go_upto_region 24 with (fail)
                        repeat (go_quiet (fail); go_upto_region 24 with (fail))
                        go_cut [113] (fun v113 wc => ∃ (kq : Nat) (x113_24 : Bool), v113 = .bool x113_24 ∧ Aside0 (bits_Div64.j4 kq ji10 ji8 ((ji10) / 4294967296) (Go.bits .and .u64 (ji10) 4294967295) (Go.bits .and .u64 (ji17) 4294967295) x15_18 x16_2 (IntKind.u64.wrap ((IntKind.u64.wrap ((IntKind.u64.wrap ((Go.bits .or .u64 (ji12) (ji15)) * 4294967296)) + ((ji17) / 4294967296))) - (IntKind.u64.wrap (x15_18 * ji10)))) x18_2 x113_24 = some (r1, r2)) ∧ Aside0 (kq ≤ k2) ∧ Drawn0 w wc)
                        case first =>
                          have H := HC25.out
                          clear HC25
                          by_cases c26 : x18_2 ≥ 4294967296
                          · rw [if_pos c26] at H
                            have c26b0 : decide (4294967296 ≤ x18_2) = true := decide_eq_true c26
                            clear c26
                            (first | rw [c26b0] | (simp only [i64_w, i32_w]; rw [c26b0]) | skip)
                            have H' := Aside0.mk H
                            clear H
                            go_wp2
                            repeat (go_quiet (fail); try go_wp2)
                            go_meet
                            case rel => exact ⟨_, (true), (by first | rfl | (simp; done) | (simp [*]; done)), H', ⟨by have := HJ18.out; have := HK2.out; first | omega | exact Nat.le_refl _⟩, by repeat (first | exact Drawn0.refl _ | apply Drawn0.step)⟩
                          · rw [if_neg c26] at H
                            have c26b0 : decide (4294967296 ≤ x18_2) = false := decide_eq_false c26
                            clear c26
                            (first | rw [c26b0] | (simp only [i64_w, i32_w]; rw [c26b0]) | skip)
                            have H' := Aside0.mk H
                            clear H
                            go_wp2
                            repeat (go_quiet (fail); try go_wp2)
                            go_meet
                            case rel => exact ⟨_, (decide ((IntKind.u64.wrap (x18_2 * (Go.bits .and .u64 (ji10) 4294967295))) > (IntKind.u64.wrap ((IntKind.u64.wrap (4294967296 * x16_2)) + (Go.bits .and .u64 (ji17) 4294967295))))), (by first | rfl | (simp; done) | (simp only [← hji10, ← hji17] <;> (first | rfl | simp)) | (simp [*]; done)), H', ⟨by have := HJ18.out; have := HK2.out; first | omega | exact Nat.le_refl _⟩, by repeat (first | exact Drawn0.refl _ | apply Drawn0.step)⟩
                        case rest =>
                          clear HC25
                          try clear c1
                          try clear c2
                          try clear p2
                          try clear c4
                          try clear c4b0
                          try clear c4b1
                          try clear c5
                          try clear c5b0
                          try clear c6
                          try clear c6b0
                          try clear c6b1
                          try clear c7
                          try clear c9
                          try clear c9b0
                          try clear c9b1
                          try clear c11
                          try clear c11b0
                          try clear c14
                          try clear c14b0
                          try clear c14b1
                          try clear c16
                          try clear c16b0
                          try clear c18
                          try clear c18b0
                          try clear c18b1
                          try clear c19
                          try clear c21
                          try clear c21b0
                          try clear c22
                          try clear c23
                          try clear c23b0
                          try clear c24
                          try clear c24b0
                          try clear c24b1
                          try clear c26
                          try clear c26b0
                          try clear p2
                          obtain ⟨kq, x113_24, rfl, HA, HJ24, ⟨mc24, rfl⟩⟩ := hcut
                          cases kq with
                          | zero => exact absurd HA.out (by simp [bits_Div64.j4])
                          | succ kj24 =>
                            have H := HA.out
                            clear HA
                            simp only [bits_Div64.j4] at H
                            by_cases c27 : x113_24 = true
                            · subst c27
                              have H1 : (if (IntKind.u64.wrap (x16_2 + ((ji10) / 4294967296))) ≥ 4294967296 then (if 0 ≤ ji8 then (some (IntKind.u64.wrap ((IntKind.u64.wrap (x15_18 * 4294967296)) + (IntKind.u64.wrap (x18_2 - 1))), shr .u64 (IntKind.u64.wrap ((IntKind.u64.wrap ((IntKind.u64.wrap ((IntKind.u64.wrap ((IntKind.u64.wrap ((IntKind.u64.wrap ((Go.bits .or .u64 (ji12) (ji15)) * 4294967296)) + ((ji17) / 4294967296))) - (IntKind.u64.wrap (x15_18 * ji10)))) * 4294967296)) + (Go.bits .and .u64 (ji17) 4294967295))) - (IntKind.u64.wrap ((IntKind.u64.wrap (x18_2 - 1)) * ji10)))) ji8)) else (none)) else (bits_Div64.l1 kj24 ji10 ji8 ((ji10) / 4294967296) (Go.bits .and .u64 (ji10) 4294967295) (Go.bits .and .u64 (ji17) 4294967295) x15_18 (IntKind.u64.wrap (x16_2 + ((ji10) / 4294967296))) (IntKind.u64.wrap ((IntKind.u64.wrap ((IntKind.u64.wrap ((Go.bits .or .u64 (ji12) (ji15)) * 4294967296)) + ((ji17) / 4294967296))) - (IntKind.u64.wrap (x15_18 * ji10)))) (IntKind.u64.wrap (x18_2 - 1)))) = some (r1, r2) := by rw [if_pos rfl] at H; exact H
                              clear H
                              have H := H1
                              clear H1
                              by_cases c28 : (IntKind.u64.wrap (x16_2 + ((ji10) / 4294967296))) ≥ 4294967296
                              · rw [if_pos c28] at H
                                have c28b0 : decide (4294967296 ≤ (IntKind.u64.wrap (x16_2 + ((ji10) / 4294967296)))) = true := decide_eq_true c28
                                clear c28
                                by_cases c29 : 0 ≤ ji8
                                · rw [if_pos c29] at H
                                  have c29b0 := eq_true c29
                                  have c29b1 : decide (0 ≤ ji8) = true := decide_eq_true c29
                                  clear c29
                                  obtain ⟨ji30, hji30⟩ : ∃ j_ : Int, (shr .u64 (IntKind.u64.wrap ((IntKind.u64.wrap ((IntKind.u64.wrap ((IntKind.u64.wrap ((IntKind.u64.wrap ((IntKind.u64.wrap ((Go.bits .or .u64 (ji12) (ji15)) * 4294967296)) + ((ji17) / 4294967296))) - (IntKind.u64.wrap (x15_18 * ji10)))) * 4294967296)) + (Go.bits .and .u64 (ji17) 4294967295))) - (IntKind.u64.wrap ((IntKind.u64.wrap (x18_2 - 1)) * ji10)))) ji8) = j_ := ⟨_, rfl⟩
                                  replace H : (some (IntKind.u64.wrap ((IntKind.u64.wrap (x15_18 * 4294967296)) + (IntKind.u64.wrap (x18_2 - 1))), ji30)) = some (r1, r2) := by first | (rw [hji30] at H; exact H) | (simp only [hji30] at H ⊢; exact H)
                                  have hji30_ : ((IntKind.u64.wrap ((IntKind.u64.wrap ((IntKind.u64.wrap ((IntKind.u64.wrap ((IntKind.u64.wrap ((IntKind.u64.wrap ((Go.bits .or .u64 (ji12) (ji15)) * 4294967296)) + ((ji17) / 4294967296))) - (IntKind.u64.wrap (x15_18 * ji10)))) * 4294967296)) + (Go.bits .and .u64 (ji17) 4294967295))) - (IntKind.u64.wrap ((IntKind.u64.wrap (x18_2 - 1)) * ji10)))) / 2 ^ min ji8.toNat 64) = ji30 := hji30
                                  have hji30z : ji8 ≤ 64 → ((IntKind.u64.wrap ((IntKind.u64.wrap ((IntKind.u64.wrap ((IntKind.u64.wrap ((IntKind.u64.wrap ((IntKind.u64.wrap ((Go.bits .or .u64 (ji12) (ji15)) * 4294967296)) + ((ji17) / 4294967296))) - (IntKind.u64.wrap (x15_18 * ji10)))) * 4294967296)) + (Go.bits .and .u64 (ji17) 4294967295))) - (IntKind.u64.wrap ((IntKind.u64.wrap (x18_2 - 1)) * ji10)))) / 2 ^ ji8.toNat) = ji30 := shr_small hji30
                                  simp only [Option.some.injEq, Prod.mk.injEq] at H
                                  obtain ⟨rfl, rfl⟩ := H
                                  go_wp2
                                  repeat (go_quiet (fail); try go_wp2)
                                  go_ret2
                                  exact ⟨by first | rfl | (simp; done) | (simp only [← hji8, ← hji10, ← hji12, ← hji13, ← hji15, ← hji17, ← hji30] <;> (first | rfl | simp)) | (simp [*]; done), by repeat (first | exact Drawn0.refl _ | apply Drawn0.step)⟩
                                · rw [if_neg c29] at H
                                  exact absurd H (by simp)
                              · rw [if_neg c28] at H
                                have c28b0 : decide (4294967296 ≤ (IntKind.u64.wrap (x16_2 + ((ji10) / 4294967296)))) = false := decide_eq_false c28
                                clear c28
                                have H' := Aside0.mk H
                                clear H
                                go_wp2
                                repeat (go_quiet (fail); try go_wp2)
                                go_roundg kj24
                                case measure => have := HJ18.out; have := HK2.out; have := HJ24.out; omega
                                case rel => exact ⟨(IntKind.u64.wrap (x16_2 + ((ji10) / 4294967296))), (IntKind.u64.wrap (x18_2 - 1)), (by first | rfl | (simp; done) | (simp only [← hji10] <;> (first | rfl | simp)) | (simp [*]; done)), (by first | rfl | (simp; done) | (simp [*]; done)), H', ⟨by have := HJ18.out; have := HK2.out; have := HJ24.out; omega⟩, by repeat (first | exact Drawn0.refl _ | apply Drawn0.step)⟩
                            · replace c27 := Bool.eq_false_iff.mpr c27
                              subst c27
                              have H1 : (if 0 ≤ ji8 then (some (IntKind.u64.wrap ((IntKind.u64.wrap (x15_18 * 4294967296)) + x18_2), shr .u64 (IntKind.u64.wrap ((IntKind.u64.wrap ((IntKind.u64.wrap ((IntKind.u64.wrap ((IntKind.u64.wrap ((IntKind.u64.wrap ((Go.bits .or .u64 (ji12) (ji15)) * 4294967296)) + ((ji17) / 4294967296))) - (IntKind.u64.wrap (x15_18 * ji10)))) * 4294967296)) + (Go.bits .and .u64 (ji17) 4294967295))) - (IntKind.u64.wrap (x18_2 * ji10)))) ji8)) else (none)) = some (r1, r2) := by rw [if_neg (show ¬ (false = true) by decide)] at H; exact H
                              clear H
                              have H := H1
                              clear H1
                              by_cases c31 : 0 ≤ ji8
                              · rw [if_pos c31] at H
                                have c31b0 := eq_true c31
                                have c31b1 : decide (0 ≤ ji8) = true := decide_eq_true c31
                                clear c31
                                obtain ⟨ji32, hji32⟩ : ∃ j_ : Int, (shr .u64 (IntKind.u64.wrap ((IntKind.u64.wrap ((IntKind.u64.wrap ((IntKind.u64.wrap ((IntKind.u64.wrap ((IntKind.u64.wrap ((Go.bits .or .u64 (ji12) (ji15)) * 4294967296)) + ((ji17) / 4294967296))) - (IntKind.u64.wrap (x15_18 * ji10)))) * 4294967296)) + (Go.bits .and .u64 (ji17) 4294967295))) - (IntKind.u64.wrap (x18_2 * ji10)))) ji8) = j_ := ⟨_, rfl⟩
                                replace H : (some (IntKind.u64.wrap ((IntKind.u64.wrap (x15_18 * 4294967296)) + x18_2), ji32)) = some (r1, r2) := by first | (rw [hji32] at H; exact H) | (simp only [hji32] at H ⊢; exact H)
                                have hji32_ : ((IntKind.u64.wrap ((IntKind.u64.wrap ((IntKind.u64.wrap ((IntKind.u64.wrap ((IntKind.u64.wrap ((IntKind.u64.wrap ((Go.bits .or .u64 (ji12) (ji15)) * 4294967296)) + ((ji17) / 4294967296))) - (IntKind.u64.wrap (x15_18 * ji10)))) * 4294967296)) + (Go.bits .and .u64 (ji17) 4294967295))) - (IntKind.u64.wrap (x18_2 * ji10)))) / 2 ^ min ji8.toNat 64) = ji32 := hji32
                                have hji32z : ji8 ≤ 64 → ((IntKind.u64.wrap ((IntKind.u64.wrap ((IntKind.u64.wrap ((IntKind.u64.wrap ((IntKind.u64.wrap ((IntKind.u64.wrap ((Go.bits .or .u64 (ji12) (ji15)) * 4294967296)) + ((ji17) / 4294967296))) - (IntKind.u64.wrap (x15_18 * ji10)))) * 4294967296)) + (Go.bits .and .u64 (ji17) 4294967295))) - (IntKind.u64.wrap (x18_2 * ji10)))) / 2 ^ ji8.toNat) = ji32 := shr_small hji32
                                simp only [Option.some.injEq, Prod.mk.injEq] at H
                                obtain ⟨rfl, rfl⟩ := H
                                go_wp2
                                repeat (go_quiet (fail); try go_wp2)
                                go_ret2
                                exact ⟨by first | rfl | (simp; done) | (simp only [← hji8, ← hji10, ← hji12, ← hji13, ← hji15, ← hji17, ← hji32] <;> (first | rfl | simp)) | (simp [*]; done), by repeat (first | exact Drawn0.refl _ | apply Drawn0.step)⟩
                              · rw [if_neg c31] at H
                                exact absurd H (by simp)
          · rw [if_neg c14] at H
            exact absurd H (by simp)
        · rw [if_neg c9] at H
          exact absurd H (by simp)
end Go.Proofs.Ytocndpddghefhaa.X
end
section
namespace Go.Proofs.Ytocndpddghefhaa.X
open Go.RowKit Go.Proofs.YtocndpddghefhaaW.PrintWords Go.Proofs.YtocndpddghefhaaW.PrintLast Go.Proofs.YtocndpddghefhaaW.PrintMore
attribute [local go_sem] max2_int min2_int max_two min_two max_three min_three max_four min_four
set_option linter.unusedVariables false
set_option linter.unusedSimpArgs false
def bits_Mul64.f (a0 : Int) (a1 : Int) : Option (Int × Int) := some (IntKind.u64.wrap ((IntKind.u64.wrap ((IntKind.u64.wrap ((a0 / 4294967296) * (a1 / 4294967296))) + ((IntKind.u64.wrap ((IntKind.u64.wrap ((a0 / 4294967296) * (Go.bits .and .u64 a1 4294967295))) + ((IntKind.u64.wrap ((Go.bits .and .u64 a0 4294967295) * (Go.bits .and .u64 a1 4294967295))) / 4294967296))) / 4294967296))) + ((IntKind.u64.wrap ((Go.bits .and .u64 (IntKind.u64.wrap ((IntKind.u64.wrap ((a0 / 4294967296) * (Go.bits .and .u64 a1 4294967295))) + ((IntKind.u64.wrap ((Go.bits .and .u64 a0 4294967295) * (Go.bits .and .u64 a1 4294967295))) / 4294967296))) 4294967295) + (IntKind.u64.wrap ((Go.bits .and .u64 a0 4294967295) * (a1 / 4294967296))))) / 4294967296)), IntKind.u64.wrap (a0 * a1))
set_option maxHeartbeats 8000000 in
set_option maxRecDepth 100000 in
theorem bits_Mul64.calls (a0 : Int) (a1 : Int) (r1 : Int) (r2 : Int) (w : World) (h : bits_Mul64.f a0 a1 = some (r1, r2)) :
    Calls Try.prog 69 #[.int .u64 a0, .int .u64 a1] w fun e w' => e = .returned (.tuple #[.int .u64 r1, .int .u64 r2]) ∧ Drawn0 w w' := by
  have H : (some (IntKind.u64.wrap ((IntKind.u64.wrap ((IntKind.u64.wrap ((a0 / 4294967296) * (a1 / 4294967296))) + ((IntKind.u64.wrap ((IntKind.u64.wrap ((a0 / 4294967296) * (Go.bits .and .u64 a1 4294967295))) + ((IntKind.u64.wrap ((Go.bits .and .u64 a0 4294967295) * (Go.bits .and .u64 a1 4294967295))) / 4294967296))) / 4294967296))) + ((IntKind.u64.wrap ((Go.bits .and .u64 (IntKind.u64.wrap ((IntKind.u64.wrap ((a0 / 4294967296) * (Go.bits .and .u64 a1 4294967295))) + ((IntKind.u64.wrap ((Go.bits .and .u64 a0 4294967295) * (Go.bits .and .u64 a1 4294967295))) / 4294967296))) 4294967295) + (IntKind.u64.wrap ((Go.bits .and .u64 a0 4294967295) * (a1 / 4294967296))))) / 4294967296)), IntKind.u64.wrap (a0 * a1))) = some (r1, r2) := h
  clear h
  simp only [Option.some.injEq, Prod.mk.injEq] at H
  obtain ⟨rfl, rfl⟩ := H
  go_enter Try.func69, Try.ntmps69
  go_wp2
  go_ret2
  exact ⟨by first | rfl | (simp; done) | (simp [*]; done), by repeat (first | exact Drawn0.refl _ | apply Drawn0.step)⟩
end Go.Proofs.Ytocndpddghefhaa.X
end
section
namespace Go.Proofs.Ytocndpddghefhaa.X
open Go.RowKit Go.Proofs.YtocndpddghefhaaW.PrintWords Go.Proofs.YtocndpddghefhaaW.PrintLast Go.Proofs.YtocndpddghefhaaW.PrintMore
attribute [local go_sem] max2_int min2_int max_two min_two max_three min_three max_four min_four
set_option linter.unusedVariables false
set_option linter.unusedSimpArgs false
def cents_Fits.f (a0 : Int) : Option (Bool) := if a0 ≥ (-1152921504606846976) then (some (decide (a0 ≤ 1152921504606846976))) else (some false)
set_option maxHeartbeats 8000000 in
set_option maxRecDepth 100000 in
theorem cents_Fits.calls (a0 : Int) (r : Bool) (w : World) (h : cents_Fits.f a0 = some r) :
    Calls Try.prog 68 #[.int .i64 a0] w fun e w' => e = .returned (.bool r) ∧ Drawn0 w w' := by
  have H : (if a0 ≥ (-1152921504606846976) then (some (decide (a0 ≤ 1152921504606846976))) else (some false)) = some r := h
  clear h
  by_cases c2 : a0 ≥ (-1152921504606846976)
  · rw [if_pos c2] at H
    have c2b0 : decide ((-1152921504606846976) ≤ a0) = true := decide_eq_true c2
    clear c2
    obtain rfl := Option.some.inj H
    go_enter Try.func68, Try.ntmps68
    go_wp2
    go_ret
    exact ⟨by first | rfl | (simp; done) | (simp [*]; done), by repeat (first | exact Drawn0.refl _ | apply Drawn0.step)⟩
  · rw [if_neg c2] at H
    have c2b0 : decide ((-1152921504606846976) ≤ a0) = false := decide_eq_false c2
    clear c2
    obtain rfl := Option.some.inj H
    go_enter Try.func68, Try.ntmps68
    go_wp2
    go_ret
    exact ⟨by first | rfl | (simp; done) | (simp [*]; done), by repeat (first | exact Drawn0.refl _ | apply Drawn0.step)⟩
end Go.Proofs.Ytocndpddghefhaa.X
end
section
namespace Go.Proofs.Ytocndpddghefhaa.X
open Go.RowKit Go.Proofs.YtocndpddghefhaaW.PrintWords Go.Proofs.YtocndpddghefhaaW.PrintLast Go.Proofs.YtocndpddghefhaaW.PrintMore
attribute [local go_sem] max2_int min2_int max_two min_two max_three min_three max_four min_four
set_option linter.unusedVariables false
set_option linter.unusedSimpArgs false
def cents_signed.f (a0 : Int) (a1 : Bool) : Option (Int × Int) := if a0 > 1152921504606846976 then (some (0, 3)) else (if a1 = true then (some (wrap64 (-(wrap64 (a0))), 0)) else (some (wrap64 (a0), 0)))
set_option maxHeartbeats 8000000 in
set_option maxRecDepth 100000 in
theorem cents_signed.calls (a0 : Int) (a1 : Bool) (r1 : Int) (r2 : Int) (w : World) (h : cents_signed.f a0 a1 = some (r1, r2)) :
    Calls Try.prog 73 #[.int .u64 a0, .bool a1] w fun e w' => e = .returned (.tuple #[.int .i64 r1, .int .i64 r2]) ∧ Drawn0 w w' := by
  have H : (if a0 > 1152921504606846976 then (some (0, 3)) else (if a1 = true then (some (wrap64 (-(wrap64 (a0))), 0)) else (some (wrap64 (a0), 0)))) = some (r1, r2) := h
  clear h
  by_cases c3 : a0 > 1152921504606846976
  · rw [if_pos c3] at H
    have c3b0 : decide (1152921504606846976 < a0) = true := decide_eq_true c3
    clear c3
    simp only [Option.some.injEq, Prod.mk.injEq] at H
    obtain ⟨rfl, rfl⟩ := H
    go_enter Try.func73, Try.ntmps73
    go_wp2
    go_ret2
    exact ⟨by first | rfl | (simp; done) | (simp [*]; done), by repeat (first | exact Drawn0.refl _ | apply Drawn0.step)⟩
  · rw [if_neg c3] at H
    have c3b0 : decide (1152921504606846976 < a0) = false := decide_eq_false c3
    clear c3
    by_cases c4 : a1 = true
    · subst c4
      have H1 : (some (wrap64 (-(wrap64 (a0))), 0)) = some (r1, r2) := by rw [if_pos rfl] at H; exact H
      clear H
      have H := H1
      clear H1
      simp only [Option.some.injEq, Prod.mk.injEq] at H
      obtain ⟨rfl, rfl⟩ := H
      go_enter Try.func73, Try.ntmps73
      go_wp2
      go_ret2
      exact ⟨by first | rfl | (simp; done) | (simp [*]; done), by repeat (first | exact Drawn0.refl _ | apply Drawn0.step)⟩
    · replace c4 := Bool.eq_false_iff.mpr c4
      subst c4
      have H1 : (some (wrap64 (a0), 0)) = some (r1, r2) := by rw [if_neg (show ¬ (false = true) by decide)] at H; exact H
      clear H
      have H := H1
      clear H1
      simp only [Option.some.injEq, Prod.mk.injEq] at H
      obtain ⟨rfl, rfl⟩ := H
      go_enter Try.func73, Try.ntmps73
      go_wp2
      go_ret2
      exact ⟨by first | rfl | (simp; done) | (simp [*]; done), by repeat (first | exact Drawn0.refl _ | apply Drawn0.step)⟩
end Go.Proofs.Ytocndpddghefhaa.X
end
section
namespace Go.Proofs.Ytocndpddghefhaa.X
open Go.RowKit Go.Proofs.YtocndpddghefhaaW.PrintWords Go.Proofs.YtocndpddghefhaaW.PrintLast Go.Proofs.YtocndpddghefhaaW.PrintMore
attribute [local go_sem] max2_int min2_int max_two min_two max_three min_three max_four min_four
set_option linter.unusedVariables false
set_option linter.unusedSimpArgs false
def cents_size.f (a0 : Int) : Option (Int) := if a0 < 0 then (some (IntKind.u64.wrap (wrap64 (-a0)))) else (some (IntKind.u64.wrap (a0)))
set_option maxHeartbeats 8000000 in
set_option maxRecDepth 100000 in
theorem cents_size.calls (a0 : Int) (r : Int) (w : World) (h : cents_size.f a0 = some r) :
    Calls Try.prog 70 #[.int .i64 a0] w fun e w' => e = .returned (.int .u64 r) ∧ Drawn0 w w' := by
  have H : (if a0 < 0 then (some (IntKind.u64.wrap (wrap64 (-a0)))) else (some (IntKind.u64.wrap (a0)))) = some r := h
  clear h
  by_cases c2 : a0 < 0
  · rw [if_pos c2] at H
    have c2b0 : decide (a0 < 0) = true := decide_eq_true c2
    clear c2
    obtain rfl := Option.some.inj H
    go_enter Try.func70, Try.ntmps70
    go_wp2
    go_ret
    exact ⟨by first | rfl | (simp; done) | (simp [*]; done), by repeat (first | exact Drawn0.refl _ | apply Drawn0.step)⟩
  · rw [if_neg c2] at H
    have c2b0 : decide (a0 < 0) = false := decide_eq_false c2
    clear c2
    obtain rfl := Option.some.inj H
    go_enter Try.func70, Try.ntmps70
    go_wp2
    go_ret
    exact ⟨by first | rfl | (simp; done) | (simp [*]; done), by repeat (first | exact Drawn0.refl _ | apply Drawn0.step)⟩
end Go.Proofs.Ytocndpddghefhaa.X
end
section
namespace Go.Proofs.Ytocndpddghefhaa.X
open Go.RowKit Go.Proofs.YtocndpddghefhaaW.PrintWords Go.Proofs.YtocndpddghefhaaW.PrintLast Go.Proofs.YtocndpddghefhaaW.PrintMore
attribute [local go_sem] max2_int min2_int max_two min_two max_three min_three max_four min_four
set_option linter.unusedVariables false
set_option linter.unusedSimpArgs false
def awayAll (m : Int) (bl : Bool) : Bool := m == 2 || (m == 3 && bl || m == 4 && !bl)
def awayB (m : Int) (bl : Bool) (q r y : Int) : Bool := if m = 5 then decide (IntKind.u64.wrap (y - r) < r) || (r == IntKind.u64.wrap (y - r) && Int.tmod q 2 == 1) else awayAll m bl
def belowB (a b c : Int) : Bool := (decide (a < 0) != decide (b < 0)) != decide (c < 0)
def cents_MulDiv.f (k : Nat) (a b c m : Int) : Option (Int × Int) :=
  (cents_Fits.f a).bind fun ta => (cents_Fits.f b).bind fun tb => (cents_Fits.f c).bind fun tc =>
    if ta = true ∧ tb = true ∧ tc = true ∧ 1 ≤ m ∧ m ≤ 5 then (if c = 0 then some (0, 4) else
      (cents_size.f a).bind fun sa => (cents_size.f b).bind fun sb => (bits_Mul64.f sa sb).bind fun hl => (cents_size.f c).bind fun y => if y ≤ hl.1 then some (0, 3) else
        (bits_Div64.f k hl.1 hl.2 y).bind fun qr => if 1152921504606846976 < qr.1 then some (0, 3) else
          cents_signed.f (if 0 < qr.2 ∧ awayB m (belowB a b c) qr.1 qr.2 y = true then IntKind.u64.wrap (qr.1 + 1) else qr.1) (belowB a b c)) else some (0, 2)
theorem cents_MulDiv.mono : ∀ a b c m k, LeO (cents_MulDiv.f k a b c m) (cents_MulDiv.f (k + 1) a b c m) := by
  intro a b c m k
  unfold cents_MulDiv.f
  refine LeO.bind (LeO.refl _) (fun _ => LeO.bind (LeO.refl _) (fun _ => LeO.bind (LeO.refl _) (fun _ => LeO.ite (LeO.ite (LeO.refl _) ?_) (LeO.refl _))))
  refine LeO.bind (LeO.refl _) (fun _ => LeO.bind (LeO.refl _) (fun _ => LeO.bind (LeO.refl _) (fun _ => LeO.bind (LeO.refl _) (fun _ => LeO.ite (LeO.refl _) ?_))))
  exact LeO.bind (bits_Div64.mono _ _ _ _) (fun _ => LeO.refl _)
set_option maxHeartbeats 1600000 in
theorem cents_away.calls (m : Int) (bl : Bool) (w : World) : Calls Try.prog 72 #[.int .i64 m, .bool bl] w fun e w' =>
    e = .returned (.func (.func 99) #[] #[.pointer (some ⟨w.heap.size, 0, none⟩), .pointer (some ⟨w.heap.size + 1, 0, none⟩)]) ∧ w'.heap[w.heap.size]? = some (.cells #[.int .i64 m] 3 (0, 0)) ∧ w'.heap[w.heap.size + 1]? = some (.cells #[.bool (awayAll m bl)] 4 (0, 0)) ∧ Below w.heap.size w w' := by
  have fin : ∀ (m : Int) (v : Bool), v = awayAll m bl → ((w.alloc (.cells #[.int .i64 m] 3)).alloc (.cells #[.bool v] 4)).heap[w.heap.size]? = some (.cells #[.int .i64 m] 3 (0, 0)) ∧ ((w.alloc (.cells #[.int .i64 m] 3)).alloc (.cells #[.bool v] 4)).heap[w.heap.size + 1]? = some (.cells #[.bool (awayAll m bl)] 4 (0, 0)) ∧ Below w.heap.size w ((w.alloc (.cells #[.int .i64 m] 3)).alloc (.cells #[.bool v] 4)) := by
    rintro m v rfl
    have h1 : (w.alloc (.cells #[.int .i64 m] 3)).heap.size = w.heap.size + 1 := by simp
    have hb := blk_new (w.alloc (.cells #[.int .i64 m] 3)) (.cells #[.bool (awayAll m bl)] 4)
    rw [h1] at hb
    exact ⟨blk_alloc (blk_new w _) _, hb, ((Below.refl _ _).alloc (Nat.le_refl _) _).alloc (by simp) _⟩
  by_cases c2 : m = 2
  · subst c2
    go_enter Try.func72, Try.ntmps72
    go_wp2
    go_ret
    exact ⟨rfl, fin 2 _ rfl⟩
  · have d2 : decide (m = 2) = false := decide_eq_false c2
    by_cases c3 : m = 3
    · subst c3
      cases bl with
      | true =>
        go_enter Try.func72, Try.ntmps72
        go_wp2
        go_ret
        exact ⟨rfl, fin 3 _ rfl⟩
      | false =>
        go_enter Try.func72, Try.ntmps72
        go_wp2
        go_ret
        exact ⟨rfl, fin 3 _ rfl⟩
    · have d3 : decide (m = 3) = false := decide_eq_false c3
      by_cases c4 : m = 4
      · subst c4
        cases bl with
        | true =>
          go_enter Try.func72, Try.ntmps72
          go_wp2
          go_ret
          exact ⟨rfl, fin 4 _ rfl⟩
        | false =>
          go_enter Try.func72, Try.ntmps72
          go_wp2
          go_ret
          exact ⟨rfl, fin 4 _ rfl⟩
      · have d4 : decide (m = 4) = false := decide_eq_false c4
        go_enter Try.func72, Try.ntmps72
        go_wp2
        go_ret
        exact ⟨rfl, fin m _ (by unfold awayAll; rw [beq_eq_false_iff_ne.2 c2, beq_eq_false_iff_ne.2 c3, beq_eq_false_iff_ne.2 c4]; rfl)⟩
set_option maxHeartbeats 1600000 in
set_option maxRecDepth 100000 in
theorem cents_away1.calls (q r y m : Int) (al : Bool) (g1 g2 : Nat) (w : World) (h1 : w.heap[g1]? = some (.cells #[.int .i64 m] 3 (0, 0))) (h2 : w.heap[g2]? = some (.cells #[.bool al] 4 (0, 0))) :
    Calls Try.prog 99 #[.int .u64 q, .int .u64 r, .int .u64 y, .pointer (some ⟨g1, 0, none⟩), .pointer (some ⟨g2, 0, none⟩)] w fun e w' =>
      e = .returned (.bool (if m = 5 then decide (IntKind.u64.wrap (y - r) < r) || (r == IntKind.u64.wrap (y - r) && Int.tmod q 2 == 1) else al)) ∧ Drawn0 w w' := by
  have hc1 := blk_one h1
  have hc2 := blk_one h2
  by_cases c5 : m = 5
  · subst c5
    rw [if_pos rfl]
    obtain ⟨z, hz⟩ : ∃ z, IntKind.u64.wrap (y - r) = z := ⟨_, rfl⟩
    rw [hz]
    by_cases e1 : z < r
    · have f1 : decide (z < r) = true := decide_eq_true e1
      clear e1
      rw [f1, Bool.true_or]
      go_enter Try.func99, Try.ntmps99
      go_wp2
      go_ret
      exact ⟨rfl, ⟨0, rfl⟩⟩
    · have f1 : decide (z < r) = false := decide_eq_false e1
      clear e1
      rw [f1, Bool.false_or]
      by_cases e2 : r = z
      · have f2 : (r == z) = true := beq_iff_eq.mpr e2
        clear e2
        rw [f2, Bool.true_and]
        go_enter Try.func99, Try.ntmps99
        go_wp2
        go_ret
        exact ⟨rfl, ⟨0, rfl⟩⟩
      · have f2 : (r == z) = false := beq_eq_false_iff_ne.mpr e2
        clear e2
        rw [f2, Bool.false_and]
        go_enter Try.func99, Try.ntmps99
        go_wp2
        go_ret
        exact ⟨rfl, ⟨0, rfl⟩⟩
  · have d5 : (m != 5) = true := by simpa using c5
    rw [if_neg c5]
    go_enter Try.func99, Try.ntmps99
    go_wp2
    go_ret
    exact ⟨rfl, ⟨0, rfl⟩⟩
set_option maxHeartbeats 4000000 in
set_option maxRecDepth 100000 in
theorem cents_MulDiv.calls (k : Nat) (a b c m : Int) (r1 r2 : Int) (w : World) (h0 : cents_MulDiv.f k a b c m = some (r1, r2)) :
    Calls Try.prog 38 #[.int .i64 a, .int .i64 b, .int .i64 c, .int .i64 m] w fun e w' => e = .returned (.tuple #[.int .i64 r1, .int .i64 r2]) ∧ Below w.heap.size w w' := by
  unfold cents_MulDiv.f at h0
  obtain ⟨ta, ha, h1⟩ := Option.bind_eq_some_iff.1 h0
  clear h0
  have HA := Aside0.mk ha
  clear ha
  obtain ⟨tb, hb, h2⟩ := Option.bind_eq_some_iff.1 h1
  clear h1
  have HB := Aside0.mk hb
  clear hb
  obtain ⟨tc, hc, h⟩ := Option.bind_eq_some_iff.1 h2
  clear h2
  have HC := Aside0.mk hc
  clear hc
  cases ta with
  | false =>
    rw [if_neg (by simp)] at h
    obtain ⟨rfl, rfl⟩ : 0 = r1 ∧ 2 = r2 := by simpa using h
    clear h
    go_enter Try.func38, Try.ntmps38
    go_wp2_with (first | (go_at_call 68; (with_reducible refine (cents_Fits.calls a _ _ HA.out).mono ?_); rintro e w' ⟨rfl, ⟨nd, rfl⟩⟩) | (go_at_call 68; (with_reducible refine (cents_Fits.calls b _ _ HB.out).mono ?_); rintro e w' ⟨rfl, ⟨nd, rfl⟩⟩) | (go_at_call 68; (with_reducible refine (cents_Fits.calls c _ _ HC.out).mono ?_); rintro e w' ⟨rfl, ⟨nd, rfl⟩⟩))
    go_ret2
    exact ⟨by first | rfl | (simp; done) | (simp [*]; done), by repeat (first | (with_reducible first | exact Below.refl _ _ | apply below_alloc | apply pw_below_drewN | apply below_drew1) | exact Below.refl _ _)⟩
  | true =>
    cases tb with
    | false =>
      rw [if_neg (by simp)] at h
      obtain ⟨rfl, rfl⟩ : 0 = r1 ∧ 2 = r2 := by simpa using h
      clear h
      go_enter Try.func38, Try.ntmps38
      go_wp2_with (first | (go_at_call 68; (with_reducible refine (cents_Fits.calls a _ _ HA.out).mono ?_); rintro e w' ⟨rfl, ⟨nd, rfl⟩⟩) | (go_at_call 68; (with_reducible refine (cents_Fits.calls b _ _ HB.out).mono ?_); rintro e w' ⟨rfl, ⟨nd, rfl⟩⟩) | (go_at_call 68; (with_reducible refine (cents_Fits.calls c _ _ HC.out).mono ?_); rintro e w' ⟨rfl, ⟨nd, rfl⟩⟩))
      go_ret2
      exact ⟨by first | rfl | (simp; done) | (simp [*]; done), by repeat (first | (with_reducible first | exact Below.refl _ _ | apply below_alloc | apply pw_below_drewN | apply below_drew1) | exact Below.refl _ _)⟩
    | true =>
      cases tc with
      | false =>
        rw [if_neg (by simp)] at h
        obtain ⟨rfl, rfl⟩ : 0 = r1 ∧ 2 = r2 := by simpa using h
        clear h
        go_enter Try.func38, Try.ntmps38
        go_wp2_with (first | (go_at_call 68; (with_reducible refine (cents_Fits.calls a _ _ HA.out).mono ?_); rintro e w' ⟨rfl, ⟨nd, rfl⟩⟩) | (go_at_call 68; (with_reducible refine (cents_Fits.calls b _ _ HB.out).mono ?_); rintro e w' ⟨rfl, ⟨nd, rfl⟩⟩) | (go_at_call 68; (with_reducible refine (cents_Fits.calls c _ _ HC.out).mono ?_); rintro e w' ⟨rfl, ⟨nd, rfl⟩⟩))
        go_ret2
        exact ⟨by first | rfl | (simp; done) | (simp [*]; done), by repeat (first | (with_reducible first | exact Below.refl _ _ | apply below_alloc | apply pw_below_drewN | apply below_drew1) | exact Below.refl _ _)⟩
      | true =>
        by_cases d1 : m < 1
        · rw [if_neg (by omega)] at h
          obtain ⟨rfl, rfl⟩ : 0 = r1 ∧ 2 = r2 := by simpa using h
          clear h
          replace d1 := decide_eq_true d1
          go_enter Try.func38, Try.ntmps38
          go_wp2_with (first | (go_at_call 68; (with_reducible refine (cents_Fits.calls a _ _ HA.out).mono ?_); rintro e w' ⟨rfl, ⟨nd, rfl⟩⟩) | (go_at_call 68; (with_reducible refine (cents_Fits.calls b _ _ HB.out).mono ?_); rintro e w' ⟨rfl, ⟨nd, rfl⟩⟩) | (go_at_call 68; (with_reducible refine (cents_Fits.calls c _ _ HC.out).mono ?_); rintro e w' ⟨rfl, ⟨nd, rfl⟩⟩))
          go_ret2
          exact ⟨by first | rfl | (simp; done) | (simp [*]; done), by repeat (first | (with_reducible first | exact Below.refl _ _ | apply below_alloc | apply pw_below_drewN | apply below_drew1) | exact Below.refl _ _)⟩
        by_cases d2 : 5 < m
        · rw [if_neg (by omega)] at h
          obtain ⟨rfl, rfl⟩ : 0 = r1 ∧ 2 = r2 := by simpa using h
          clear h
          replace d1 := decide_eq_false d1
          replace d2 := decide_eq_true d2
          go_enter Try.func38, Try.ntmps38
          go_wp2_with (first | (go_at_call 68; (with_reducible refine (cents_Fits.calls a _ _ HA.out).mono ?_); rintro e w' ⟨rfl, ⟨nd, rfl⟩⟩) | (go_at_call 68; (with_reducible refine (cents_Fits.calls b _ _ HB.out).mono ?_); rintro e w' ⟨rfl, ⟨nd, rfl⟩⟩) | (go_at_call 68; (with_reducible refine (cents_Fits.calls c _ _ HC.out).mono ?_); rintro e w' ⟨rfl, ⟨nd, rfl⟩⟩))
          go_ret2
          exact ⟨by first | rfl | (simp; done) | (simp [*]; done), by repeat (first | (with_reducible first | exact Below.refl _ _ | apply below_alloc | apply pw_below_drewN | apply below_drew1) | exact Below.refl _ _)⟩
        rw [if_pos ⟨rfl, rfl, rfl, by omega, by omega⟩] at h
        replace d1 := decide_eq_false d1
        replace d2 := decide_eq_false d2
        by_cases d3 : c = 0
        · rw [if_pos d3] at h
          obtain ⟨rfl, rfl⟩ : 0 = r1 ∧ 4 = r2 := by simpa using h
          clear h
          have d4 : (c == 0) = true := beq_iff_eq.mpr d3
          clear d3
          go_enter Try.func38, Try.ntmps38
          go_wp2_with (first | (go_at_call 68; (with_reducible refine (cents_Fits.calls a _ _ HA.out).mono ?_); rintro e w' ⟨rfl, ⟨nd, rfl⟩⟩) | (go_at_call 68; (with_reducible refine (cents_Fits.calls b _ _ HB.out).mono ?_); rintro e w' ⟨rfl, ⟨nd, rfl⟩⟩) | (go_at_call 68; (with_reducible refine (cents_Fits.calls c _ _ HC.out).mono ?_); rintro e w' ⟨rfl, ⟨nd, rfl⟩⟩))
          go_ret2
          exact ⟨by first | rfl | (simp; done) | (simp [*]; done), by repeat (first | (with_reducible first | exact Below.refl _ _ | apply below_alloc | apply pw_below_drewN | apply below_drew1) | exact Below.refl _ _)⟩
        rw [if_neg d3] at h
        have d4 : (c == 0) = false := beq_eq_false_iff_ne.mpr d3
        clear d3
        obtain ⟨sa, hsa, h1⟩ := Option.bind_eq_some_iff.1 h
        clear h
        obtain ⟨sb, hsb, h2⟩ := Option.bind_eq_some_iff.1 h1
        clear h1
        obtain ⟨⟨hi, lo⟩, hhl, h3⟩ := Option.bind_eq_some_iff.1 h2
        clear h2
        obtain ⟨y, hy, h⟩ := Option.bind_eq_some_iff.1 h3
        clear h3
        dsimp only at h
        have SA := Aside0.mk hsa
        have SB := Aside0.mk hsb
        have SC := Aside0.mk hy
        have HL := Aside0.mk hhl
        clear hsa hsb hy hhl
        have eB : belowB a b c = ((decide (a < 0) != decide (b < 0)) != decide (c < 0)) := rfl
        obtain ⟨na, hna⟩ : ∃ x, decide (a < 0) = x := ⟨_, rfl⟩
        obtain ⟨nb, hnb⟩ : ∃ x, decide (b < 0) = x := ⟨_, rfl⟩
        obtain ⟨nc, hnc⟩ : ∃ x, decide (c < 0) = x := ⟨_, rfl⟩
        rw [hna, hnb, hnc] at eB
        obtain ⟨bl, hbl⟩ : ∃ x, ((na != nb) != nc) = x := ⟨_, rfl⟩
        rw [hbl] at eB
        rw [eB] at h
        clear eB
        have hbm : (!((!(na == nb)) == nc)) = bl := by rw [← hbl]; cases na <;> cases nb <;> cases nc <;> rfl
        clear hbl
        by_cases d5 : y ≤ hi
        · rw [if_pos d5] at h
          obtain ⟨rfl, rfl⟩ : 0 = r1 ∧ 3 = r2 := by simpa using h
          clear h
          replace d5 := decide_eq_true d5
          go_enter Try.func38, Try.ntmps38
          go_wp2_with (first | (go_at_call 68; (with_reducible refine (cents_Fits.calls a _ _ HA.out).mono ?_); rintro e w' ⟨rfl, ⟨nd, rfl⟩⟩) | (go_at_call 68; (with_reducible refine (cents_Fits.calls b _ _ HB.out).mono ?_); rintro e w' ⟨rfl, ⟨nd, rfl⟩⟩) | (go_at_call 68; (with_reducible refine (cents_Fits.calls c _ _ HC.out).mono ?_); rintro e w' ⟨rfl, ⟨nd, rfl⟩⟩) | (go_at_call 70; (with_reducible refine (cents_size.calls a _ _ SA.out).mono ?_); rintro e w' ⟨rfl, ⟨nd, rfl⟩⟩) | (go_at_call 70; (with_reducible refine (cents_size.calls b _ _ SB.out).mono ?_); rintro e w' ⟨rfl, ⟨nd, rfl⟩⟩) | (go_at_call 70; (with_reducible refine (cents_size.calls c _ _ SC.out).mono ?_); rintro e w' ⟨rfl, ⟨nd, rfl⟩⟩) | (go_at_call 69; (with_reducible refine (bits_Mul64.calls _ _ _ _ _ HL.out).mono ?_); rintro e w' ⟨rfl, ⟨nd, rfl⟩⟩))
          go_ret2
          exact ⟨by first | rfl | (simp; done) | (simp [*]; done), by repeat (first | (with_reducible first | exact Below.refl _ _ | apply below_alloc | apply pw_below_drewN | apply below_drew1) | exact Below.refl _ _)⟩
        rw [if_neg d5] at h
        replace d5 := decide_eq_false d5
        obtain ⟨⟨q, r⟩, hd, h1⟩ := Option.bind_eq_some_iff.1 h
        clear h
        have DV := Aside0.mk hd
        clear hd
        dsimp only at h1
        by_cases d6 : 1152921504606846976 < q
        · rw [if_pos d6] at h1
          have h := h1
          clear h1
          obtain ⟨rfl, rfl⟩ : 0 = r1 ∧ 3 = r2 := by simpa using h
          clear h
          replace d6 := decide_eq_true d6
          go_enter Try.func38, Try.ntmps38
          go_wp2_with (first | (go_at_call 68; (with_reducible refine (cents_Fits.calls a _ _ HA.out).mono ?_); rintro e w' ⟨rfl, ⟨nd, rfl⟩⟩) | (go_at_call 68; (with_reducible refine (cents_Fits.calls b _ _ HB.out).mono ?_); rintro e w' ⟨rfl, ⟨nd, rfl⟩⟩) | (go_at_call 68; (with_reducible refine (cents_Fits.calls c _ _ HC.out).mono ?_); rintro e w' ⟨rfl, ⟨nd, rfl⟩⟩) | (go_at_call 70; (with_reducible refine (cents_size.calls a _ _ SA.out).mono ?_); rintro e w' ⟨rfl, ⟨nd, rfl⟩⟩) | (go_at_call 70; (with_reducible refine (cents_size.calls b _ _ SB.out).mono ?_); rintro e w' ⟨rfl, ⟨nd, rfl⟩⟩) | (go_at_call 70; (with_reducible refine (cents_size.calls c _ _ SC.out).mono ?_); rintro e w' ⟨rfl, ⟨nd, rfl⟩⟩) | (go_at_call 69; (with_reducible refine (bits_Mul64.calls _ _ _ _ _ HL.out).mono ?_); rintro e w' ⟨rfl, ⟨nd, rfl⟩⟩) | (go_at_call 71; (with_reducible refine (bits_Div64.calls k _ _ _ _ _ _ DV.out).mono ?_); rintro e w' ⟨rfl, ⟨nd, rfl⟩⟩))
          go_ret2
          exact ⟨by first | rfl | (simp; done) | (simp [*]; done), by repeat (first | (with_reducible first | exact Below.refl _ _ | apply below_alloc | apply pw_below_drewN | apply below_drew1) | exact Below.refl _ _)⟩
        rw [if_neg d6] at h1
        replace d6 := decide_eq_false d6
        have AWE : (if m = 5 then decide (IntKind.u64.wrap (y - r) < r) || (r == IntKind.u64.wrap (y - r) && Int.tmod q 2 == 1) else awayAll m bl) = awayB m bl q r y := rfl
        by_cases d7 : 0 < r
        · obtain ⟨ab, hab⟩ : ∃ x, awayB m bl q r y = x := ⟨_, rfl⟩
          have AWB := AWE.trans hab
          rw [hab] at h1
          clear hab AWE
          replace AWB := Aside0.mk AWB
          cases ab with
          | true =>
            rw [if_pos ⟨d7, rfl⟩] at h1
            have SG := Aside0.mk h1
            have d8 := decide_eq_true d7
            clear h1 d7
            go_enter Try.func38, Try.ntmps38
            go_wp2_with (first | (go_at_call 68; (with_reducible refine (cents_Fits.calls a _ _ HA.out).mono ?_); rintro e w' ⟨rfl, ⟨nd, rfl⟩⟩) | (go_at_call 68; (with_reducible refine (cents_Fits.calls b _ _ HB.out).mono ?_); rintro e w' ⟨rfl, ⟨nd, rfl⟩⟩) | (go_at_call 68; (with_reducible refine (cents_Fits.calls c _ _ HC.out).mono ?_); rintro e w' ⟨rfl, ⟨nd, rfl⟩⟩) | (go_at_call 70; (with_reducible refine (cents_size.calls a _ _ SA.out).mono ?_); rintro e w' ⟨rfl, ⟨nd, rfl⟩⟩) | (go_at_call 70; (with_reducible refine (cents_size.calls b _ _ SB.out).mono ?_); rintro e w' ⟨rfl, ⟨nd, rfl⟩⟩) | (go_at_call 70; (with_reducible refine (cents_size.calls c _ _ SC.out).mono ?_); rintro e w' ⟨rfl, ⟨nd, rfl⟩⟩) | (go_at_call 69; (with_reducible refine (bits_Mul64.calls _ _ _ _ _ HL.out).mono ?_); rintro e w' ⟨rfl, ⟨nd, rfl⟩⟩) | (go_at_call 71; (with_reducible refine (bits_Div64.calls k _ _ _ _ _ _ DV.out).mono ?_); rintro e w' ⟨rfl, ⟨nd, rfl⟩⟩) | (go_at_call 72; (with_reducible refine (cents_away.calls m bl _).mono ?_); rintro e w' ⟨rfl, hg1, hg2, hbw⟩; have G1 := Aside0.mk hg1; have G2 := Aside0.mk hg2; have BW := Aside0.mk hbw; clear hg1 hg2 hbw) | (go_at_call 99; refine (cents_away1.calls q r y m (awayAll m bl) w.heap.size (w.heap.size + 1) _ G1.out G2.out).mono ?_; rintro e w' ⟨rfl, ⟨nd, rfl⟩⟩; rw [AWB.out]) | (go_at_call 73; (with_reducible refine (cents_signed.calls _ _ _ _ _ SG.out).mono ?_); rintro e w' ⟨rfl, ⟨nd, rfl⟩⟩))
            go_ret2
            exact ⟨by first | rfl | (simp; done) | (simp [*]; done), by repeat (first | (with_reducible first | apply below_alloc | apply pw_below_drewN | apply below_drew1) | exact Below.trans (by repeat (first | exact Below.refl _ _ | apply pw_below_drewN)) BW.out | exact Below.refl _ _)⟩
          | false =>
            rw [if_neg (fun z => absurd z.2 (by decide))] at h1
            have SG := Aside0.mk h1
            have d8 := decide_eq_true d7
            clear h1 d7
            go_enter Try.func38, Try.ntmps38
            go_wp2_with (first | (go_at_call 68; (with_reducible refine (cents_Fits.calls a _ _ HA.out).mono ?_); rintro e w' ⟨rfl, ⟨nd, rfl⟩⟩) | (go_at_call 68; (with_reducible refine (cents_Fits.calls b _ _ HB.out).mono ?_); rintro e w' ⟨rfl, ⟨nd, rfl⟩⟩) | (go_at_call 68; (with_reducible refine (cents_Fits.calls c _ _ HC.out).mono ?_); rintro e w' ⟨rfl, ⟨nd, rfl⟩⟩) | (go_at_call 70; (with_reducible refine (cents_size.calls a _ _ SA.out).mono ?_); rintro e w' ⟨rfl, ⟨nd, rfl⟩⟩) | (go_at_call 70; (with_reducible refine (cents_size.calls b _ _ SB.out).mono ?_); rintro e w' ⟨rfl, ⟨nd, rfl⟩⟩) | (go_at_call 70; (with_reducible refine (cents_size.calls c _ _ SC.out).mono ?_); rintro e w' ⟨rfl, ⟨nd, rfl⟩⟩) | (go_at_call 69; (with_reducible refine (bits_Mul64.calls _ _ _ _ _ HL.out).mono ?_); rintro e w' ⟨rfl, ⟨nd, rfl⟩⟩) | (go_at_call 71; (with_reducible refine (bits_Div64.calls k _ _ _ _ _ _ DV.out).mono ?_); rintro e w' ⟨rfl, ⟨nd, rfl⟩⟩) | (go_at_call 72; (with_reducible refine (cents_away.calls m bl _).mono ?_); rintro e w' ⟨rfl, hg1, hg2, hbw⟩; have G1 := Aside0.mk hg1; have G2 := Aside0.mk hg2; have BW := Aside0.mk hbw; clear hg1 hg2 hbw) | (go_at_call 99; refine (cents_away1.calls q r y m (awayAll m bl) w.heap.size (w.heap.size + 1) _ G1.out G2.out).mono ?_; rintro e w' ⟨rfl, ⟨nd, rfl⟩⟩; rw [AWB.out]) | (go_at_call 73; (with_reducible refine (cents_signed.calls _ _ _ _ _ SG.out).mono ?_); rintro e w' ⟨rfl, ⟨nd, rfl⟩⟩))
            go_ret2
            exact ⟨by first | rfl | (simp; done) | (simp [*]; done), by repeat (first | (with_reducible first | apply below_alloc | apply pw_below_drewN | apply below_drew1) | exact Below.trans (by repeat (first | exact Below.refl _ _ | apply pw_below_drewN)) BW.out | exact Below.refl _ _)⟩
        · rw [if_neg (fun z => d7 z.1)] at h1
          have SG := Aside0.mk h1
          have d8 := decide_eq_false d7
          clear h1 d7 AWE
          go_enter Try.func38, Try.ntmps38
          go_wp2_with (first | (go_at_call 68; (with_reducible refine (cents_Fits.calls a _ _ HA.out).mono ?_); rintro e w' ⟨rfl, ⟨nd, rfl⟩⟩) | (go_at_call 68; (with_reducible refine (cents_Fits.calls b _ _ HB.out).mono ?_); rintro e w' ⟨rfl, ⟨nd, rfl⟩⟩) | (go_at_call 68; (with_reducible refine (cents_Fits.calls c _ _ HC.out).mono ?_); rintro e w' ⟨rfl, ⟨nd, rfl⟩⟩) | (go_at_call 70; (with_reducible refine (cents_size.calls a _ _ SA.out).mono ?_); rintro e w' ⟨rfl, ⟨nd, rfl⟩⟩) | (go_at_call 70; (with_reducible refine (cents_size.calls b _ _ SB.out).mono ?_); rintro e w' ⟨rfl, ⟨nd, rfl⟩⟩) | (go_at_call 70; (with_reducible refine (cents_size.calls c _ _ SC.out).mono ?_); rintro e w' ⟨rfl, ⟨nd, rfl⟩⟩) | (go_at_call 69; (with_reducible refine (bits_Mul64.calls _ _ _ _ _ HL.out).mono ?_); rintro e w' ⟨rfl, ⟨nd, rfl⟩⟩) | (go_at_call 71; (with_reducible refine (bits_Div64.calls k _ _ _ _ _ _ DV.out).mono ?_); rintro e w' ⟨rfl, ⟨nd, rfl⟩⟩) | (go_at_call 73; (with_reducible refine (cents_signed.calls _ _ _ _ _ SG.out).mono ?_); rintro e w' ⟨rfl, ⟨nd, rfl⟩⟩))
          go_ret2
          exact ⟨by first | rfl | (simp; done) | (simp [*]; done), by repeat (first | (with_reducible first | exact Below.refl _ _ | apply below_alloc | apply pw_below_drewN | apply below_drew1) | exact Below.refl _ _)⟩
end Go.Proofs.Ytocndpddghefhaa.X
end
section
namespace Go.Proofs.Ytocndpddghefhaa.X
open Go.RowKit Go.Proofs.YtocndpddghefhaaW.PrintWords Go.Proofs.YtocndpddghefhaaW.PrintLast Go.Proofs.YtocndpddghefhaaW.PrintMore
attribute [local go_sem] max2_int min2_int max_two min_two max_three min_three max_four min_four
set_option linter.unusedVariables false
set_option linter.unusedSimpArgs false
def tickErr (at_ : Int) (t : S49) : Int := if t.f0 < at_ ∨ 86399 < t.f0 then 2 else if t.f1 < 1 ∨ 1048576 < t.f1 then 18 else if t.f2 < -16777216 ∨ 16777216 < t.f2 then 17 else 0
def tickStep (t : S49) (s : Int × Int) : (Int × Int) × Bool := ((t.f0, tickErr s.1 t), tickErr s.1 t == 0)
def tape_Check.f (l : List S49) : Option Int := some (if (1024 : Int) < (l.length : Int) then 8 else (goAll tickStep l (0, 0)).2)
set_option maxHeartbeats 1600000 in
theorem tape_over_Check {σ : Type} (Inv : σ → World → Prop) (go : S49 → σ → σ × Bool) (A : Option Addr) (c : Nat) (l : List S49) (g1 g2 : Nat) (w0 w : World)
    (hr : Kd.C k49 w0 A l.length l) (hb0 : Below w0.heap.size w0 w) (s0 : σ) (hI : Inv s0 w) (Ok : Nat → σ → Prop) (hOk : Ok 0 s0) (hOks : ∀ i t s, i < l.length → Ok i s → (go t s).2 = true → Ok (i + 1) (go t s).1)
    (hmono : ∀ s W W', Inv s W → Below W.heap.size W W' → Inv s W')
    (hstep : ∀ (t : S49) (s : σ) (i : Nat) (W : World), i < l.length → Ok i s → Below w0.heap.size w0 W → Inv s W → Calls Try.prog 88 #[.agg #[.int .i64 t.f0, .int .i64 t.f1, .int .i64 t.f2], .pointer (some ⟨g1, 0, none⟩), .pointer (some ⟨g2, 0, none⟩)] W fun e W' => e = .returned (.bool (go t s).2) ∧ Inv (go t s).1 W' ∧ Below w0.heap.size w0 W' ∧ KT 76 W W') :
    Calls Try.prog 37 #[.agg #[.func (.func 88) #[] #[.pointer (some ⟨g1, 0, none⟩), .pointer (some ⟨g2, 0, none⟩)]], .slice A l.length c] w fun e W' => (∃ b : Bool, e = .returned (.bool b)) ∧ Inv (goAll go l s0) W' ∧ Below w0.heap.size w0 W' := by
  have HR := Aside0.mk hr
  have HM := Aside0.mk hmono
  have HS := Aside0.mk hstep
  have HI := Aside0.mk hI
  have HO := Aside0.mk hOk
  have HOS := Aside0.mk hOks
  have HB := Aside0.mk hb0
  have hlen := (show l.length ≤ 9223372036854775807 from Kd.C_max hr)
  have hbs := hb0.size
  clear hr hmono hstep hI hb0 hOk hOks
  go_enter Try.func37, Try.ntmps37
  go_wp2_with fail
  go_loopg [9] l.length (fun kq v9 wr => ∃ (i : Nat) (s : σ), v9 = .int .i64 (i : Int) ∧ Aside0 (kq + i = l.length) ∧ Aside0 (Inv s wr) ∧ Aside0 (Ok i s) ∧ Aside0 (goAll go (l.drop i) s = goAll go l s0) ∧ Aside0 (Below w0.heap.size w0 wr) ∧ Aside0 (w.heap.size < wr.heap.size) ∧ Aside0 (wr.heap[w.heap.size]? = some (.cells #[.func (.func 88) #[] #[.pointer (some ⟨g1, 0, none⟩), .pointer (some ⟨g2, 0, none⟩)]] 76 (0, 0))))
  case atStart => exact ⟨0, s0, rfl, ⟨by omega⟩, ⟨HM.out _ _ _ HI.out (below_alloc (Below.refl _ _) _)⟩, HO, ⟨rfl⟩, ⟨HB.out.alloc hbs _⟩, ⟨by simp⟩, ⟨blk_new w _⟩⟩
  case round =>
    obtain ⟨i, s, rfl, Hk, HI2, HO2, HG, HB2, HL, HF⟩ := hrel
    have hf := blk_one HF.out
    have hfl := HL.out
    by_cases hlt : i < l.length
    · obtain ⟨ad, ea, hx0, hx1, hx2⟩ := at_T49 HR.out (i : Int) (by omega) (by omega)
      cases ea
      replace hx0 := (HB2.out.cell (World.block_lt_of_cell? w0 _ hx0)).trans hx0
      replace hx1 := (HB2.out.cell (World.block_lt_of_cell? w0 _ hx1)).trans hx1
      replace hx2 := (HB2.out.cell (World.block_lt_of_cell? w0 _ hx2)).trans hx2
      have hti : rd_T49 l (i : Int) = l[i] := by simp [rd_T49, hlt]
      have hdrop : l.drop i = l[i] :: l.drop (i + 1) := (List.getElem_cons_drop hlt).symm
      rw [hti, Int.toNat_natCast] at hx0 hx1 hx2
      obtain ⟨t, ht⟩ : ∃ t, l[i] = t := ⟨_, rfl⟩
      rw [ht] at hx0 hx1 hx2 hdrop
      have HG2 := HG.out
      rw [hdrop, goAll_step] at HG2
      have HD := Aside0.mk HG2
      have HLT := Aside0.mk hlt
      clear hti ht hdrop HG2 HG
      cases hgo : (go t s).2 with
      | true =>
        have HGO := Aside0.mk hgo
        clear hgo
        go_wp2_with (go_at_call 88; refine (HS.out t s i _ HLT.out HO2.out (HB2.out.alloc (Nat.le_trans hbs (Nat.le_of_lt HL.out)) _) (HM.out _ _ _ HI2.out (below_alloc (Below.refl _ _) _))).mono ?_; rw [HGO.out]; rintro e W' ⟨rfl, hI3, hB3, hK3⟩; have HI3 := Aside0.mk hI3; have HB3 := Aside0.mk hB3; have HF3 := Aside0.mk (hK3 _ _ (blk_alloc HF.out _)); have HL3 := blk_lt HF3.out; clear hI3 hB3 hK3)
        go_roundg (gk - 1)
        case measure => have := Hk.out; omega
        case rel =>
          have hd := HD.out
          rw [HGO.out, if_pos rfl] at hd
          exact ⟨i + 1, _, by go_num, ⟨by have := Hk.out; omega⟩, HI3, ⟨HOS.out _ _ _ HLT.out HO2.out HGO.out⟩, ⟨hd⟩, HB3, ⟨HL3⟩, HF3⟩
      | false =>
        have HGO := Aside0.mk hgo
        clear hgo
        go_wp2_with (go_at_call 88; refine (HS.out t s i _ HLT.out HO2.out (HB2.out.alloc (Nat.le_trans hbs (Nat.le_of_lt HL.out)) _) (HM.out _ _ _ HI2.out (below_alloc (Below.refl _ _) _))).mono ?_; rw [HGO.out]; rintro e W' ⟨rfl, hI3, hB3, hK3⟩; have HI3 := Aside0.mk hI3; have HB3 := Aside0.mk hB3; clear hI3 hB3 hK3)
        go_ret
        have hd := HD.out
        rw [HGO.out, if_neg (by simp)] at hd
        rw [← hd]
        exact ⟨⟨_, rfl⟩, HI3.out, HB3.out⟩
    · go_wp2_with fail
      go_ret
      have hd := HG.out
      rw [List.drop_of_length_le (by omega)] at hd
      rw [← hd]
      exact ⟨⟨_, rfl⟩, HI2.out, HB2.out⟩
set_option maxHeartbeats 1600000 in
theorem tape_Check_lit (t : S49) (at_ : Int) (g1 g2 : Nat) (w0 w : World) (hne : g1 ≠ g2) (h1 : w.heap[g1]? = some (.cells #[.int .i64 at_] 3 (0, 0))) (h2 : w.heap[g2]? = some (.cells #[.int .i64 0] 23 (0, 0)))
    (hb : Below w0.heap.size w0 w) (hg1 : w0.heap.size ≤ g1) (hg2 : w0.heap.size ≤ g2) :
    Calls Try.prog 88 #[.agg #[.int .i64 t.f0, .int .i64 t.f1, .int .i64 t.f2], .pointer (some ⟨g1, 0, none⟩), .pointer (some ⟨g2, 0, none⟩)] w fun e w' => e = .returned (.bool (tickErr at_ t == 0)) ∧ (w'.heap[g1]? = some (.cells #[.int .i64 t.f0] 3 (0, 0)) ∧ w'.heap[g2]? = some (.cells #[.int .i64 (tickErr at_ t)] 23 (0, 0))) ∧ Below w0.heap.size w0 w' ∧ KT 76 w w' := by
  have hc1 := blk_one h1
  have hc2 := blk_one h2
  have hf1 := blk_frozen h1 0
  have hf2 := blk_frozen h2 0
  have hl1 := blk_lt h1
  have hl2 := blk_lt h2
  have H1 := Aside0.mk h1
  have H2 := Aside0.mk h2
  have HB := Aside0.mk hb
  clear h1 h2 hb
  go_enter Try.func88, Try.ntmps88
  go_wp2
  all_goals go_ret
  all_goals first
    | (have ht : tickErr at_ t = 2 := (by unfold tickErr; rw [if_pos (by omega)])
       rw [ht]
       exact ⟨rfl, ⟨blk_alloc (blk_put1 (blk_far H1.out hne _) _) _, blk_alloc (blk_far (blk_put1 H2.out _) hne.symm _) _⟩, ((HB.out.setCell hg2 _).setCell hg1 _).alloc (by simp [World.setCell]; exact HB.out.size) _, (((KT.refl _ _).setCell H2.out (by decide) _).setCell (p := ⟨g1, 0, none⟩) (blk_far H1.out hne _) (by decide) _).alloc _⟩)
    | (have ht : tickErr at_ t = 18 := (by unfold tickErr; rw [if_neg (by omega), if_pos (by omega)])
       rw [ht]
       exact ⟨rfl, ⟨blk_alloc (blk_put1 (blk_far H1.out hne _) _) _, blk_alloc (blk_far (blk_put1 H2.out _) hne.symm _) _⟩, ((HB.out.setCell hg2 _).setCell hg1 _).alloc (by simp [World.setCell]; exact HB.out.size) _, (((KT.refl _ _).setCell H2.out (by decide) _).setCell (p := ⟨g1, 0, none⟩) (blk_far H1.out hne _) (by decide) _).alloc _⟩)
    | (have ht : tickErr at_ t = 17 := (by unfold tickErr; rw [if_neg (by omega), if_neg (by omega), if_pos (by omega)])
       rw [ht]
       exact ⟨rfl, ⟨blk_alloc (blk_put1 (blk_far H1.out hne _) _) _, blk_alloc (blk_far (blk_put1 H2.out _) hne.symm _) _⟩, ((HB.out.setCell hg2 _).setCell hg1 _).alloc (by simp [World.setCell]; exact HB.out.size) _, (((KT.refl _ _).setCell H2.out (by decide) _).setCell (p := ⟨g1, 0, none⟩) (blk_far H1.out hne _) (by decide) _).alloc _⟩)
    | (have ht : tickErr at_ t = 0 := (by unfold tickErr; rw [if_neg (by omega), if_neg (by omega), if_neg (by omega)])
       rw [ht]
       exact ⟨rfl, ⟨blk_alloc (blk_put1 H1.out _) _, blk_alloc (blk_far H2.out hne.symm _) _⟩, (HB.out.setCell hg1 _).alloc (by simp [World.setCell]; exact HB.out.size) _, ((KT.refl _ _).setCell H1.out (by decide) _).alloc _⟩)
set_option maxHeartbeats 1600000 in
theorem tape_Check.calls (A0 : Option Addr) (c0 : Nat) (l0 : List S49) (r : Int) (w : World) (hr0 : Kd.C k49 w A0 l0.length l0) (hc0 : l0.length ≤ c0) (h : tape_Check.f l0 = some r) :
    Calls Try.prog 47 #[.slice A0 l0.length c0] w fun e w' => e = .returned (.int .i64 r) ∧ Below w.heap.size w w' := by
  have HR := Aside0.mk hr0
  have HE := Aside0.mk (Option.some.inj h)
  clear hr0 h
  by_cases hlen : (1024 : Int) < (l0.length : Int)
  · go_enter Try.func47, Try.ntmps47
    go_wp2_with fail
    refine bodyPost_ret (v := .int .i64 8) (by simp [results, Try.results47, go_sem]) rfl ⟨?_, ?_⟩
    · rw [← HE.out, if_pos hlen]
    · exact ((Below.refl _ _).alloc (Nat.le_refl _) _)
  · go_enter Try.func47, Try.ntmps47
    go_wp2_with fail
    have hne : w.heap.size + 1 ≠ w.heap.size := by omega
    refine (tape_over_Check (fun (s : Int × Int) W => W.heap[w.heap.size + 1]? = some (.cells #[.int .i64 s.1] 3 (0, 0)) ∧ W.heap[w.heap.size]? = some (.cells #[.int .i64 s.2] 23 (0, 0))) tickStep A0 c0 l0 (w.heap.size + 1) w.heap.size w _ HR.out (((Below.refl _ _).alloc (Nat.le_refl _) _).alloc (by simp) _) (0, 0) ?hi (fun _ s => s.2 = 0) rfl ?ho ?hm ?hs).mono ?_
    case hi => exact ⟨by have := blk_new (w.alloc (.cells #[.int .i64 0] 23)) (.cells #[.int .i64 0] 3); simpa using this, blk_alloc (blk_new w _) _⟩
    case ho => intro i t s _ _ h; simpa [tickStep] using h
    case hm => exact fun s W W' h hb => ⟨blk_below h.1 hb, blk_below h.2 hb⟩
    case hs =>
      rintro t ⟨a, e⟩ i W hi h0 hb ⟨h1, h2⟩
      obtain rfl : e = 0 := h0
      exact (tape_Check_lit t a _ _ w W hne h1 h2 hb (by omega) (Nat.le_refl _))
    rintro e w1 ⟨⟨b, rfl⟩, ⟨hI1, hI2⟩, hB1⟩
    have HI2 := Aside0.mk hI2
    have HB1 := Aside0.mk hB1
    have hcell := blk_one hI2
    have hfr := blk_frozen hI2 0
    have hE := HE.out
    rw [if_neg (by omega)] at hE
    rw [hE] at hcell
    clear hI1 hI2 hB1 hE
    go_wp2
    refine bodyPost_ret (v := .int .i64 r) (by simp [results, Try.results47, go_sem, hcell]) rfl ⟨rfl, ?_⟩
    exact HB1.out.setCell (Nat.le_refl _) _
end Go.Proofs.Ytocndpddghefhaa.X
end
section
namespace Go.Proofs.Ytocndpddghefhaa.X
open Go.RowKit Go.Proofs.YtocndpddghefhaaW.PrintWords Go.Proofs.YtocndpddghefhaaW.PrintLast Go.Proofs.YtocndpddghefhaaW.PrintMore
attribute [local go_sem] max2_int min2_int max_two min_two max_three min_three max_four min_four
set_option linter.unusedVariables false
set_option linter.unusedSimpArgs false
def volStep (t : S49) (s : Int) : Int × Bool := (wrap64 (s + t.f1), true)
set_option maxHeartbeats 1600000 in
theorem tape_over_Volume {σ : Type} (Inv : σ → World → Prop) (go : S49 → σ → σ × Bool) (A : Option Addr) (c : Nat) (l : List S49) (g1 : Nat) (w0 w : World)
    (hr : Kd.C k49 w0 A l.length l) (hb0 : Below w0.heap.size w0 w) (s0 : σ) (hI : Inv s0 w) (Ok : Nat → σ → Prop) (hOk : Ok 0 s0) (hOks : ∀ i t s, i < l.length → Ok i s → (go t s).2 = true → Ok (i + 1) (go t s).1)
    (hmono : ∀ s W W', Inv s W → Below W.heap.size W W' → Inv s W')
    (hstep : ∀ (t : S49) (s : σ) (i : Nat) (W : World), i < l.length → Ok i s → Below w0.heap.size w0 W → Inv s W → Calls Try.prog 58 #[.agg #[.int .i64 t.f0, .int .i64 t.f1, .int .i64 t.f2], .pointer (some ⟨g1, 0, none⟩)] W fun e W' => e = .returned (.bool (go t s).2) ∧ Inv (go t s).1 W' ∧ Below w0.heap.size w0 W' ∧ KT 76 W W') :
    Calls Try.prog 37 #[.agg #[.func (.func 58) #[] #[.pointer (some ⟨g1, 0, none⟩)]], .slice A l.length c] w fun e W' => (∃ b : Bool, e = .returned (.bool b)) ∧ Inv (goAll go l s0) W' ∧ Below w0.heap.size w0 W' := by
  have HR := Aside0.mk hr
  have HM := Aside0.mk hmono
  have HS := Aside0.mk hstep
  have HI := Aside0.mk hI
  have HO := Aside0.mk hOk
  have HOS := Aside0.mk hOks
  have HB := Aside0.mk hb0
  have hlen := (show l.length ≤ 9223372036854775807 from Kd.C_max hr)
  have hbs := hb0.size
  clear hr hmono hstep hI hb0 hOk hOks
  go_enter Try.func37, Try.ntmps37
  go_wp2_with fail
  go_loopg [9] l.length (fun kq v9 wr => ∃ (i : Nat) (s : σ), v9 = .int .i64 (i : Int) ∧ Aside0 (kq + i = l.length) ∧ Aside0 (Inv s wr) ∧ Aside0 (Ok i s) ∧ Aside0 (goAll go (l.drop i) s = goAll go l s0) ∧ Aside0 (Below w0.heap.size w0 wr) ∧ Aside0 (w.heap.size < wr.heap.size) ∧ Aside0 (wr.heap[w.heap.size]? = some (.cells #[.func (.func 58) #[] #[.pointer (some ⟨g1, 0, none⟩)]] 76 (0, 0))))
  case atStart => exact ⟨0, s0, rfl, ⟨by omega⟩, ⟨HM.out _ _ _ HI.out (below_alloc (Below.refl _ _) _)⟩, HO, ⟨rfl⟩, ⟨HB.out.alloc hbs _⟩, ⟨by simp⟩, ⟨blk_new w _⟩⟩
  case round =>
    obtain ⟨i, s, rfl, Hk, HI2, HO2, HG, HB2, HL, HF⟩ := hrel
    have hf := blk_one HF.out
    have hfl := HL.out
    by_cases hlt : i < l.length
    · obtain ⟨ad, ea, hx0, hx1, hx2⟩ := at_T49 HR.out (i : Int) (by omega) (by omega)
      cases ea
      replace hx0 := (HB2.out.cell (World.block_lt_of_cell? w0 _ hx0)).trans hx0
      replace hx1 := (HB2.out.cell (World.block_lt_of_cell? w0 _ hx1)).trans hx1
      replace hx2 := (HB2.out.cell (World.block_lt_of_cell? w0 _ hx2)).trans hx2
      have hti : rd_T49 l (i : Int) = l[i] := by simp [rd_T49, hlt]
      have hdrop : l.drop i = l[i] :: l.drop (i + 1) := (List.getElem_cons_drop hlt).symm
      rw [hti, Int.toNat_natCast] at hx0 hx1 hx2
      obtain ⟨t, ht⟩ : ∃ t, l[i] = t := ⟨_, rfl⟩
      rw [ht] at hx0 hx1 hx2 hdrop
      have HG2 := HG.out
      rw [hdrop, goAll_step] at HG2
      have HD := Aside0.mk HG2
      have HLT := Aside0.mk hlt
      clear hti ht hdrop HG2 HG
      cases hgo : (go t s).2 with
      | true =>
        have HGO := Aside0.mk hgo
        clear hgo
        go_wp2_with (go_at_call 58; refine (HS.out t s i _ HLT.out HO2.out (HB2.out.alloc (Nat.le_trans hbs (Nat.le_of_lt HL.out)) _) (HM.out _ _ _ HI2.out (below_alloc (Below.refl _ _) _))).mono ?_; rw [HGO.out]; rintro e W' ⟨rfl, hI3, hB3, hK3⟩; have HI3 := Aside0.mk hI3; have HB3 := Aside0.mk hB3; have HF3 := Aside0.mk (hK3 _ _ (blk_alloc HF.out _)); have HL3 := blk_lt HF3.out; clear hI3 hB3 hK3)
        go_roundg (gk - 1)
        case measure => have := Hk.out; omega
        case rel =>
          have hd := HD.out
          rw [HGO.out, if_pos rfl] at hd
          exact ⟨i + 1, _, by go_num, ⟨by have := Hk.out; omega⟩, HI3, ⟨HOS.out _ _ _ HLT.out HO2.out HGO.out⟩, ⟨hd⟩, HB3, ⟨HL3⟩, HF3⟩
      | false =>
        have HGO := Aside0.mk hgo
        clear hgo
        go_wp2_with (go_at_call 58; refine (HS.out t s i _ HLT.out HO2.out (HB2.out.alloc (Nat.le_trans hbs (Nat.le_of_lt HL.out)) _) (HM.out _ _ _ HI2.out (below_alloc (Below.refl _ _) _))).mono ?_; rw [HGO.out]; rintro e W' ⟨rfl, hI3, hB3, hK3⟩; have HI3 := Aside0.mk hI3; have HB3 := Aside0.mk hB3; clear hI3 hB3 hK3)
        go_ret
        have hd := HD.out
        rw [HGO.out, if_neg (by simp)] at hd
        rw [← hd]
        exact ⟨⟨_, rfl⟩, HI3.out, HB3.out⟩
    · go_wp2_with fail
      go_ret
      have hd := HG.out
      rw [List.drop_of_length_le (by omega)] at hd
      rw [← hd]
      exact ⟨⟨_, rfl⟩, HI2.out, HB2.out⟩
set_option maxHeartbeats 1600000 in
theorem tape_Volume_lit (t : S49) (n : Int) (g1 : Nat) (w0 w : World) (h1 : w.heap[g1]? = some (.cells #[.int .i64 n] 3 (0, 0))) (hb : Below w0.heap.size w0 w) (hg1 : w0.heap.size ≤ g1) :
    Calls Try.prog 58 #[.agg #[.int .i64 t.f0, .int .i64 t.f1, .int .i64 t.f2], .pointer (some ⟨g1, 0, none⟩)] w fun e w' => e = .returned (.bool (volStep t n).2) ∧ w'.heap[g1]? = some (.cells #[.int .i64 (volStep t n).1] 3 (0, 0)) ∧ Below w0.heap.size w0 w' ∧ KT 76 w w' := by
  have hc1 := blk_one h1
  have hf1 := blk_frozen h1 0
  have hl1 := blk_lt h1
  have H1 := Aside0.mk h1
  have HB := Aside0.mk hb
  clear h1 hb
  go_enter Try.func58, Try.ntmps58
  go_wp2
  go_ret
  exact ⟨rfl, blk_alloc (blk_put1 H1.out _) _, (HB.out.setCell hg1 _).alloc (by simp [World.setCell]; exact HB.out.size) _, ((KT.refl _ _).setCell H1.out (by decide) _).alloc _⟩
def tape_Volume.f (l : List S49) : Option (Int × Int) := (tape_Check.f l).bind fun e => if e = 0 then some (goAll volStep l 0, 0) else some (0, e)
set_option maxHeartbeats 1600000 in
theorem tape_Volume.calls (A0 : Option Addr) (c0 : Nat) (l0 : List S49) (r1 r2 : Int) (w : World) (hr0 : Kd.C k49 w A0 l0.length l0) (hc0 : l0.length ≤ c0) (h : tape_Volume.f l0 = some (r1, r2)) :
    Calls Try.prog 27 #[.slice A0 l0.length c0] w fun e w' => e = .returned (.tuple #[.int .i64 r1, .int .i64 r2]) ∧ Below w.heap.size w w' := by
  have HR := Aside0.mk hr0
  obtain ⟨e, he, h2⟩ := Option.bind_eq_some_iff.1 h
  have HE := Aside0.mk he
  have hbA : ∀ w1, Below (w.heap.size + 1) (w.alloc (.cells #[.int .i64 0] 3)) w1 → Below w.heap.size w w1 := fun w1 h1 => ((Below.refl _ _).alloc (Nat.le_refl _) _).trans (h1.mono (by omega))
  clear h hr0 he
  by_cases h0 : e = 0
  · rw [if_pos h0] at h2
    subst h0
    obtain ⟨rfl, rfl⟩ := Prod.mk.inj (Option.some.inj h2)
    clear h2
    go_enter Try.func27, Try.ntmps27
    go_wp2_with (go_at_call 47; refine (tape_Check.calls _ _ l0 0 _ (Kd.C_alloc HR.out _) hc0 HE.out).mono ?_; rintro e w1 ⟨rfl, hb1⟩; have HB1 := Aside0.mk hb1; clear hb1)
    have HB2 := Aside0.mk (hbA _ (by simpa using HB1.out))
    have HC := Aside0.mk (blk_below (blk_new w (.cells #[.int .i64 0] 3)) HB1.out)
    refine (tape_over_Volume (fun (s : Int) W => W.heap[w.heap.size]? = some (.cells #[.int .i64 s] 3 (0, 0))) volStep A0 c0 l0 w.heap.size w _ HR.out HB2.out 0 HC.out (fun _ _ => True) trivial (fun _ _ _ _ _ _ => trivial) (fun s W W' h hb => blk_below h hb) (fun t s _ W _ _ hb h1 => tape_Volume_lit t s _ w W h1 hb (Nat.le_refl _))).mono ?_
    rintro e w2 ⟨⟨b, rfl⟩, hI, hB⟩
    have HB3 := Aside0.mk hB
    have hcell := blk_one hI
    have hfr := blk_frozen hI 0
    clear hI hB
    go_wp2
    refine bodyPost_ret (v := .tuple #[.int .i64 (goAll volStep l0 0), .int .i64 0]) (by simp [results, Try.results27, go_sem, hcell]) rfl ⟨rfl, ?_⟩
    exact HB3.out.setCell (Nat.le_refl _) _
  · rw [if_neg h0] at h2
    obtain ⟨rfl, rfl⟩ := Prod.mk.inj (Option.some.inj h2)
    clear h2
    have hb0 : (e != 0) = true := bne_iff_ne.2 h0
    clear h0
    go_enter Try.func27, Try.ntmps27
    go_wp2_with (go_at_call 47; refine (tape_Check.calls _ _ l0 e _ (Kd.C_alloc HR.out _) hc0 HE.out).mono ?_; rintro e w1 ⟨rfl, hb1⟩; have HB1 := Aside0.mk hb1; have hC := blk_below (blk_new w (.cells #[.int .i64 0] 3)) hb1; have hcell := blk_one hC; have hfr := blk_frozen hC 0; clear hb1 hC)
    refine bodyPost_ret (v := .tuple #[.int .i64 0, .int .i64 e]) (by simp [results, Try.results27, go_sem, hcell]) rfl ⟨rfl, ?_⟩
    exact (hbA _ (by simpa using HB1.out)).setCell (Nat.le_refl _) _
end Go.Proofs.Ytocndpddghefhaa.X
end
section
namespace Go.Proofs.Ytocndpddghefhaa.X
open Go.RowKit Go.Proofs.YtocndpddghefhaaW.PrintWords Go.Proofs.YtocndpddghefhaaW.PrintLast Go.Proofs.YtocndpddghefhaaW.PrintMore
attribute [local go_sem] max2_int min2_int max_two min_two max_three min_three max_four min_four
set_option linter.unusedVariables false
set_option linter.unusedSimpArgs false
def vwapStep (t : S49) (s : Int) : Int × Bool := (wrap64 (s + wrap64 (t.f2 * t.f1)), true)
set_option maxHeartbeats 1600000 in
theorem tape_over_Vwap {σ : Type} (Inv : σ → World → Prop) (go : S49 → σ → σ × Bool) (A : Option Addr) (c : Nat) (l : List S49) (g1 : Nat) (w0 w : World)
    (hr : Kd.C k49 w0 A l.length l) (hb0 : Below w0.heap.size w0 w) (s0 : σ) (hI : Inv s0 w) (Ok : Nat → σ → Prop) (hOk : Ok 0 s0) (hOks : ∀ i t s, i < l.length → Ok i s → (go t s).2 = true → Ok (i + 1) (go t s).1)
    (hmono : ∀ s W W', Inv s W → Below W.heap.size W W' → Inv s W')
    (hstep : ∀ (t : S49) (s : σ) (i : Nat) (W : World), i < l.length → Ok i s → Below w0.heap.size w0 W → Inv s W → Calls Try.prog 36 #[.agg #[.int .i64 t.f0, .int .i64 t.f1, .int .i64 t.f2], .pointer (some ⟨g1, 0, none⟩)] W fun e W' => e = .returned (.bool (go t s).2) ∧ Inv (go t s).1 W' ∧ Below w0.heap.size w0 W' ∧ KT 76 W W') :
    Calls Try.prog 37 #[.agg #[.func (.func 36) #[] #[.pointer (some ⟨g1, 0, none⟩)]], .slice A l.length c] w fun e W' => (∃ b : Bool, e = .returned (.bool b)) ∧ Inv (goAll go l s0) W' ∧ Below w0.heap.size w0 W' := by
  have HR := Aside0.mk hr
  have HM := Aside0.mk hmono
  have HS := Aside0.mk hstep
  have HI := Aside0.mk hI
  have HO := Aside0.mk hOk
  have HOS := Aside0.mk hOks
  have HB := Aside0.mk hb0
  have hlen := (show l.length ≤ 9223372036854775807 from Kd.C_max hr)
  have hbs := hb0.size
  clear hr hmono hstep hI hb0 hOk hOks
  go_enter Try.func37, Try.ntmps37
  go_wp2_with fail
  go_loopg [9] l.length (fun kq v9 wr => ∃ (i : Nat) (s : σ), v9 = .int .i64 (i : Int) ∧ Aside0 (kq + i = l.length) ∧ Aside0 (Inv s wr) ∧ Aside0 (Ok i s) ∧ Aside0 (goAll go (l.drop i) s = goAll go l s0) ∧ Aside0 (Below w0.heap.size w0 wr) ∧ Aside0 (w.heap.size < wr.heap.size) ∧ Aside0 (wr.heap[w.heap.size]? = some (.cells #[.func (.func 36) #[] #[.pointer (some ⟨g1, 0, none⟩)]] 76 (0, 0))))
  case atStart => exact ⟨0, s0, rfl, ⟨by omega⟩, ⟨HM.out _ _ _ HI.out (below_alloc (Below.refl _ _) _)⟩, HO, ⟨rfl⟩, ⟨HB.out.alloc hbs _⟩, ⟨by simp⟩, ⟨blk_new w _⟩⟩
  case round =>
    obtain ⟨i, s, rfl, Hk, HI2, HO2, HG, HB2, HL, HF⟩ := hrel
    have hf := blk_one HF.out
    have hfl := HL.out
    by_cases hlt : i < l.length
    · obtain ⟨ad, ea, hx0, hx1, hx2⟩ := at_T49 HR.out (i : Int) (by omega) (by omega)
      cases ea
      replace hx0 := (HB2.out.cell (World.block_lt_of_cell? w0 _ hx0)).trans hx0
      replace hx1 := (HB2.out.cell (World.block_lt_of_cell? w0 _ hx1)).trans hx1
      replace hx2 := (HB2.out.cell (World.block_lt_of_cell? w0 _ hx2)).trans hx2
      have hti : rd_T49 l (i : Int) = l[i] := by simp [rd_T49, hlt]
      have hdrop : l.drop i = l[i] :: l.drop (i + 1) := (List.getElem_cons_drop hlt).symm
      rw [hti, Int.toNat_natCast] at hx0 hx1 hx2
      obtain ⟨t, ht⟩ : ∃ t, l[i] = t := ⟨_, rfl⟩
      rw [ht] at hx0 hx1 hx2 hdrop
      have HG2 := HG.out
      rw [hdrop, goAll_step] at HG2
      have HD := Aside0.mk HG2
      have HLT := Aside0.mk hlt
      clear hti ht hdrop HG2 HG
      cases hgo : (go t s).2 with
      | true =>
        have HGO := Aside0.mk hgo
        clear hgo
        go_wp2_with (go_at_call 36; refine (HS.out t s i _ HLT.out HO2.out (HB2.out.alloc (Nat.le_trans hbs (Nat.le_of_lt HL.out)) _) (HM.out _ _ _ HI2.out (below_alloc (Below.refl _ _) _))).mono ?_; rw [HGO.out]; rintro e W' ⟨rfl, hI3, hB3, hK3⟩; have HI3 := Aside0.mk hI3; have HB3 := Aside0.mk hB3; have HF3 := Aside0.mk (hK3 _ _ (blk_alloc HF.out _)); have HL3 := blk_lt HF3.out; clear hI3 hB3 hK3)
        go_roundg (gk - 1)
        case measure => have := Hk.out; omega
        case rel =>
          have hd := HD.out
          rw [HGO.out, if_pos rfl] at hd
          exact ⟨i + 1, _, by go_num, ⟨by have := Hk.out; omega⟩, HI3, ⟨HOS.out _ _ _ HLT.out HO2.out HGO.out⟩, ⟨hd⟩, HB3, ⟨HL3⟩, HF3⟩
      | false =>
        have HGO := Aside0.mk hgo
        clear hgo
        go_wp2_with (go_at_call 36; refine (HS.out t s i _ HLT.out HO2.out (HB2.out.alloc (Nat.le_trans hbs (Nat.le_of_lt HL.out)) _) (HM.out _ _ _ HI2.out (below_alloc (Below.refl _ _) _))).mono ?_; rw [HGO.out]; rintro e W' ⟨rfl, hI3, hB3, hK3⟩; have HI3 := Aside0.mk hI3; have HB3 := Aside0.mk hB3; clear hI3 hB3 hK3)
        go_ret
        have hd := HD.out
        rw [HGO.out, if_neg (by simp)] at hd
        rw [← hd]
        exact ⟨⟨_, rfl⟩, HI3.out, HB3.out⟩
    · go_wp2_with fail
      go_ret
      have hd := HG.out
      rw [List.drop_of_length_le (by omega)] at hd
      rw [← hd]
      exact ⟨⟨_, rfl⟩, HI2.out, HB2.out⟩
set_option maxHeartbeats 1600000 in
theorem tape_Vwap_lit (t : S49) (n : Int) (g1 : Nat) (w0 w : World) (h1 : w.heap[g1]? = some (.cells #[.int .i64 n] 3 (0, 0))) (hb : Below w0.heap.size w0 w) (hg1 : w0.heap.size ≤ g1) :
    Calls Try.prog 36 #[.agg #[.int .i64 t.f0, .int .i64 t.f1, .int .i64 t.f2], .pointer (some ⟨g1, 0, none⟩)] w fun e w' => e = .returned (.bool (vwapStep t n).2) ∧ w'.heap[g1]? = some (.cells #[.int .i64 (vwapStep t n).1] 3 (0, 0)) ∧ Below w0.heap.size w0 w' ∧ KT 76 w w' := by
  have hc1 := blk_one h1
  have hf1 := blk_frozen h1 0
  have hl1 := blk_lt h1
  have H1 := Aside0.mk h1
  have HB := Aside0.mk hb
  clear h1 hb
  go_enter Try.func36, Try.ntmps36
  go_wp2
  go_ret
  exact ⟨rfl, blk_alloc (blk_put1 H1.out _) _, (HB.out.setCell hg1 _).alloc (by simp [World.setCell]; exact HB.out.size) _, ((KT.refl _ _).setCell H1.out (by decide) _).alloc _⟩
def tape_Vwap.f (k : Nat) (l : List S49) (step mode : Int) : Option (Int × Int) := (tape_Volume.f l).bind fun v => if v.2 ≠ 0 then some (0, v.2) else if step < 1 then some (0, 16) else if 16777216 < step then some (0, 16) else if mode < 1 then some (0, 2) else if 5 < mode then some (0, 2) else if v.1 = 0 then some (0, 11) else
  (cents_MulDiv.f k (goAll vwapStep l 0) 1 (wrap64 (v.1 * step)) mode).bind fun n => if n.2 ≠ 0 then some (0, n.2) else some (wrap64 (n.1 * step), 0)
theorem tape_Vwap.mono : ∀ l step mode k, LeO (tape_Vwap.f k l step mode) (tape_Vwap.f (k + 1) l step mode) := by
  intro l step mode k
  unfold tape_Vwap.f
  refine LeO.bind (LeO.refl _) (fun v => ?_)
  repeat' (first | with_reducible exact LeO.refl _ | refine LeO.ite ?_ ?_)
  all_goals exact LeO.bind (cents_MulDiv.mono _ _ _ _ _) (fun _ => LeO.refl _)
set_option maxHeartbeats 1600000 in
set_option maxRecDepth 100000 in
theorem tape_Vwap.calls (k : Nat) (A0 : Option Addr) (c0 : Nat) (l0 : List S49) (a1 a2 : Int) (r1 r2 : Int) (w : World) (hr0 : Kd.C k49 w A0 l0.length l0) (hc0 : l0.length ≤ c0) (hh : tape_Vwap.f k l0 a1 a2 = some (r1, r2)) :
    Calls Try.prog 12 #[.slice A0 l0.length c0, .int .i64 a1, .int .i64 a2] w fun e w' => e = .returned (.tuple #[.int .i64 r1, .int .i64 r2]) ∧ Below w.heap.size w w' := by
  have HR := Aside0.mk hr0
  unfold tape_Vwap.f at hh
  obtain ⟨⟨n, e⟩, hv, h⟩ := Option.bind_eq_some_iff.1 hh
  have HV := Aside0.mk hv
  dsimp only at h
  clear hh hr0 hv
  by_cases h0 : e ≠ 0
  · rw [if_pos h0] at h
    obtain ⟨rfl, rfl⟩ : 0 = r1 ∧ e = r2 := by simpa using h
    have hb0 : (e != 0) = true := bne_iff_ne.2 h0
    clear h0 h
    go_enter Try.func12, Try.ntmps12
    go_wp2_with (go_at_call 27; (with_reducible refine (tape_Volume.calls _ _ l0 _ _ _ HR.out hc0 HV.out).mono ?_); rintro e1 w1 ⟨rfl, hb1⟩; have HB1 := Aside0.mk hb1; clear hb1)
    go_ret2
    exact ⟨by first | rfl | (simp; done) | (simp [*]; done), by exact HB1.out⟩
  rw [if_neg h0] at h
  obtain rfl : e = 0 := Decidable.not_not.1 h0
  clear h0
  by_cases d1 : a1 < 1
  · skip
    rw [if_pos d1] at h
    obtain ⟨rfl, rfl⟩ : 0 = r1 ∧ 16 = r2 := by simpa using h
    clear h
    replace d1 := decide_eq_true d1
    go_enter Try.func12, Try.ntmps12
    go_wp2_with (go_at_call 27; (with_reducible refine (tape_Volume.calls _ _ l0 _ _ _ HR.out hc0 HV.out).mono ?_); rintro e1 w1 ⟨rfl, hb1⟩; have HB1 := Aside0.mk hb1; clear hb1)
    go_ret2
    exact ⟨by first | rfl | (simp; done) | (simp [*]; done), by exact HB1.out⟩
  rw [if_neg d1] at h
  replace d1 := decide_eq_false d1
  by_cases d2 : 16777216 < a1
  · skip
    rw [if_pos d2] at h
    obtain ⟨rfl, rfl⟩ : 0 = r1 ∧ 16 = r2 := by simpa using h
    clear h
    replace d2 := decide_eq_true d2
    go_enter Try.func12, Try.ntmps12
    go_wp2_with (go_at_call 27; (with_reducible refine (tape_Volume.calls _ _ l0 _ _ _ HR.out hc0 HV.out).mono ?_); rintro e1 w1 ⟨rfl, hb1⟩; have HB1 := Aside0.mk hb1; clear hb1)
    go_ret2
    exact ⟨by first | rfl | (simp; done) | (simp [*]; done), by exact HB1.out⟩
  rw [if_neg d2] at h
  replace d2 := decide_eq_false d2
  by_cases d3 : a2 < 1
  · skip
    rw [if_pos d3] at h
    obtain ⟨rfl, rfl⟩ : 0 = r1 ∧ 2 = r2 := by simpa using h
    clear h
    replace d3 := decide_eq_true d3
    go_enter Try.func12, Try.ntmps12
    go_wp2_with (go_at_call 27; (with_reducible refine (tape_Volume.calls _ _ l0 _ _ _ HR.out hc0 HV.out).mono ?_); rintro e1 w1 ⟨rfl, hb1⟩; have HB1 := Aside0.mk hb1; clear hb1)
    go_ret2
    exact ⟨by first | rfl | (simp; done) | (simp [*]; done), by exact HB1.out⟩
  rw [if_neg d3] at h
  replace d3 := decide_eq_false d3
  by_cases d4 : 5 < a2
  · skip
    rw [if_pos d4] at h
    obtain ⟨rfl, rfl⟩ : 0 = r1 ∧ 2 = r2 := by simpa using h
    clear h
    replace d4 := decide_eq_true d4
    go_enter Try.func12, Try.ntmps12
    go_wp2_with (go_at_call 27; (with_reducible refine (tape_Volume.calls _ _ l0 _ _ _ HR.out hc0 HV.out).mono ?_); rintro e1 w1 ⟨rfl, hb1⟩; have HB1 := Aside0.mk hb1; clear hb1)
    go_ret2
    exact ⟨by first | rfl | (simp; done) | (simp [*]; done), by exact HB1.out⟩
  rw [if_neg d4] at h
  replace d4 := decide_eq_false d4
  by_cases d5 : n = 0
  · skip
    rw [if_pos d5] at h
    obtain ⟨rfl, rfl⟩ : 0 = r1 ∧ 11 = r2 := by simpa using h
    clear h
    replace d5 : (n == 0) = true := beq_iff_eq.2 d5
    go_enter Try.func12, Try.ntmps12
    go_wp2_with (go_at_call 27; (with_reducible refine (tape_Volume.calls _ _ l0 _ _ _ HR.out hc0 HV.out).mono ?_); rintro e1 w1 ⟨rfl, hb1⟩; have HB1 := Aside0.mk hb1; clear hb1)
    go_ret2
    exact ⟨by first | rfl | (simp; done) | (simp [*]; done), by exact HB1.out⟩
  rw [if_neg d5] at h
  replace d5 : (n == 0) = false := beq_eq_false_iff_ne.2 d5
  obtain ⟨⟨p, g⟩, hm, h1⟩ := Option.bind_eq_some_iff.1 h
  have HM := Aside0.mk hm
  dsimp only at h1
  clear h hm
  have fin : ∀ v : Value, True := fun _ => trivial
  go_enter Try.func12, Try.ntmps12
  go_wp2_with (go_at_call 27; (with_reducible refine (tape_Volume.calls _ _ l0 _ _ _ HR.out hc0 HV.out).mono ?_); rintro e1 w1 ⟨rfl, hb1⟩; have HB1 := Aside0.mk hb1; clear hb1)
  have hs1 := HB1.out.size
  refine (tape_over_Vwap (fun (s : Int) W => W.heap[w1.heap.size]? = some (.cells #[.int .i64 s] 3 (0, 0))) vwapStep A0 c0 l0 w1.heap.size w _ HR.out (HB1.out.alloc hs1 _) 0 (blk_new w1 _) (fun _ _ => True) trivial (fun _ _ _ _ _ _ => trivial) (fun s W W' h hb => blk_below h hb) (fun t s _ W _ _ hb h1 => tape_Vwap_lit t s _ w W h1 hb hs1)).mono ?_
  rintro e w2 ⟨⟨b, rfl⟩, hI, hB⟩
  have HB3 := Aside0.mk hB
  have hcell := blk_one hI
  clear hI hB
  by_cases g0 : g ≠ 0
  · rw [if_pos g0] at h1
    obtain ⟨rfl, rfl⟩ : 0 = r1 ∧ g = r2 := by simpa using h1
    have gb0 : (g != 0) = true := bne_iff_ne.2 g0
    clear g0 h1
    go_wp2_with (go_at_call 38; (with_reducible refine (cents_MulDiv.calls k _ _ _ _ _ _ _ HM.out).mono ?_); rintro e1 w3 ⟨rfl, hb3⟩; have HB4 := Aside0.mk hb3; clear hb3)
    go_ret2
    exact ⟨by first | rfl | (simp; done) | (simp [*]; done), HB3.out.trans (HB4.out.mono HB3.out.size)⟩
  · rw [if_neg g0] at h1
    obtain rfl : g = 0 := Decidable.not_not.1 g0
    obtain ⟨rfl, rfl⟩ : wrap64 (p * a1) = r1 ∧ 0 = r2 := by simpa using h1
    clear g0 h1
    go_wp2_with (go_at_call 38; (with_reducible refine (cents_MulDiv.calls k _ _ _ _ _ _ _ HM.out).mono ?_); rintro e1 w3 ⟨rfl, hb3⟩; have HB4 := Aside0.mk hb3; clear hb3)
    go_ret2
    exact ⟨by first | rfl | (simp; done) | (simp [*]; done), HB3.out.trans (HB4.out.mono HB3.out.size)⟩
end Go.Proofs.Ytocndpddghefhaa.X
end
section
namespace Go.Proofs.Ytocndpddghefhaa.X
open Go.RowKit Go.Proofs.YtocndpddghefhaaW.PrintWords Go.Proofs.YtocndpddghefhaaW.PrintLast Go.Proofs.YtocndpddghefhaaW.PrintMore
attribute [local go_sem] max2_int min2_int max_two min_two max_three min_three max_four min_four
set_option linter.unusedVariables false
set_option linter.unusedSimpArgs false
def winStep (from_ to_ : Int) (t : S49) (s : List S49) : List S49 × Bool := (if from_ ≤ t.f0 ∧ t.f0 ≤ to_ then s ++ [t] else s, true)
def tape_Window.f (l : List S49) (a b : Int) : Option (List S49) := if l.length < 5864062014805 then some (goAll (winStep a b) l []) else none
set_option maxHeartbeats 1600000 in
theorem tape_over_Window {σ : Type} (Inv : σ → World → Prop) (go : S49 → σ → σ × Bool) (A : Option Addr) (c : Nat) (l : List S49) (g1 g2 g3 : Nat) (w0 w : World)
    (hr : Kd.C k49 w0 A l.length l) (hb0 : Below w0.heap.size w0 w) (s0 : σ) (hI : Inv s0 w) (Ok : Nat → σ → Prop) (hOk : Ok 0 s0) (hOks : ∀ i t s, i < l.length → Ok i s → (go t s).2 = true → Ok (i + 1) (go t s).1)
    (hmono : ∀ s W W', Inv s W → Below W.heap.size W W' → Inv s W')
    (hstep : ∀ (t : S49) (s : σ) (i : Nat) (W : World), i < l.length → Ok i s → Below w0.heap.size w0 W → Inv s W → Calls Try.prog 59 #[.agg #[.int .i64 t.f0, .int .i64 t.f1, .int .i64 t.f2], .pointer (some ⟨g1, 0, none⟩), .pointer (some ⟨g2, 0, none⟩), .pointer (some ⟨g3, 0, none⟩)] W fun e W' => e = .returned (.bool (go t s).2) ∧ Inv (go t s).1 W' ∧ Below w0.heap.size w0 W' ∧ KT 76 W W') :
    Calls Try.prog 37 #[.agg #[.func (.func 59) #[] #[.pointer (some ⟨g1, 0, none⟩), .pointer (some ⟨g2, 0, none⟩), .pointer (some ⟨g3, 0, none⟩)]], .slice A l.length c] w fun e W' => (∃ b : Bool, e = .returned (.bool b)) ∧ Inv (goAll go l s0) W' ∧ Below w0.heap.size w0 W' := by
  have HR := Aside0.mk hr
  have HM := Aside0.mk hmono
  have HS := Aside0.mk hstep
  have HI := Aside0.mk hI
  have HO := Aside0.mk hOk
  have HOS := Aside0.mk hOks
  have HB := Aside0.mk hb0
  have hlen := (show l.length ≤ 9223372036854775807 from Kd.C_max hr)
  have hbs := hb0.size
  clear hr hmono hstep hI hb0 hOk hOks
  go_enter Try.func37, Try.ntmps37
  go_wp2_with fail
  go_loopg [9] l.length (fun kq v9 wr => ∃ (i : Nat) (s : σ), v9 = .int .i64 (i : Int) ∧ Aside0 (kq + i = l.length) ∧ Aside0 (Inv s wr) ∧ Aside0 (Ok i s) ∧ Aside0 (goAll go (l.drop i) s = goAll go l s0) ∧ Aside0 (Below w0.heap.size w0 wr) ∧ Aside0 (w.heap.size < wr.heap.size) ∧ Aside0 (wr.heap[w.heap.size]? = some (.cells #[.func (.func 59) #[] #[.pointer (some ⟨g1, 0, none⟩), .pointer (some ⟨g2, 0, none⟩), .pointer (some ⟨g3, 0, none⟩)]] 76 (0, 0))))
  case atStart => exact ⟨0, s0, rfl, ⟨by omega⟩, ⟨HM.out _ _ _ HI.out (below_alloc (Below.refl _ _) _)⟩, HO, ⟨rfl⟩, ⟨HB.out.alloc hbs _⟩, ⟨by simp⟩, ⟨blk_new w _⟩⟩
  case round =>
    obtain ⟨i, s, rfl, Hk, HI2, HO2, HG, HB2, HL, HF⟩ := hrel
    have hf := blk_one HF.out
    have hfl := HL.out
    by_cases hlt : i < l.length
    · obtain ⟨ad, ea, hx0, hx1, hx2⟩ := at_T49 HR.out (i : Int) (by omega) (by omega)
      cases ea
      replace hx0 := (HB2.out.cell (World.block_lt_of_cell? w0 _ hx0)).trans hx0
      replace hx1 := (HB2.out.cell (World.block_lt_of_cell? w0 _ hx1)).trans hx1
      replace hx2 := (HB2.out.cell (World.block_lt_of_cell? w0 _ hx2)).trans hx2
      have hti : rd_T49 l (i : Int) = l[i] := by simp [rd_T49, hlt]
      have hdrop : l.drop i = l[i] :: l.drop (i + 1) := (List.getElem_cons_drop hlt).symm
      rw [hti, Int.toNat_natCast] at hx0 hx1 hx2
      obtain ⟨t, ht⟩ : ∃ t, l[i] = t := ⟨_, rfl⟩
      rw [ht] at hx0 hx1 hx2 hdrop
      have HG2 := HG.out
      rw [hdrop, goAll_step] at HG2
      have HD := Aside0.mk HG2
      have HLT := Aside0.mk hlt
      clear hti ht hdrop HG2 HG
      cases hgo : (go t s).2 with
      | true =>
        have HGO := Aside0.mk hgo
        clear hgo
        go_wp2_with (go_at_call 59; refine (HS.out t s i _ HLT.out HO2.out (HB2.out.alloc (Nat.le_trans hbs (Nat.le_of_lt HL.out)) _) (HM.out _ _ _ HI2.out (below_alloc (Below.refl _ _) _))).mono ?_; rw [HGO.out]; rintro e W' ⟨rfl, hI3, hB3, hK3⟩; have HI3 := Aside0.mk hI3; have HB3 := Aside0.mk hB3; have HF3 := Aside0.mk (hK3 _ _ (blk_alloc HF.out _)); have HL3 := blk_lt HF3.out; clear hI3 hB3 hK3)
        go_roundg (gk - 1)
        case measure => have := Hk.out; omega
        case rel =>
          have hd := HD.out
          rw [HGO.out, if_pos rfl] at hd
          exact ⟨i + 1, _, by go_num, ⟨by have := Hk.out; omega⟩, HI3, ⟨HOS.out _ _ _ HLT.out HO2.out HGO.out⟩, ⟨hd⟩, HB3, ⟨HL3⟩, HF3⟩
      | false =>
        have HGO := Aside0.mk hgo
        clear hgo
        go_wp2_with (go_at_call 59; refine (HS.out t s i _ HLT.out HO2.out (HB2.out.alloc (Nat.le_trans hbs (Nat.le_of_lt HL.out)) _) (HM.out _ _ _ HI2.out (below_alloc (Below.refl _ _) _))).mono ?_; rw [HGO.out]; rintro e W' ⟨rfl, hI3, hB3, hK3⟩; have HI3 := Aside0.mk hI3; have HB3 := Aside0.mk hB3; clear hI3 hB3 hK3)
        go_ret
        have hd := HD.out
        rw [HGO.out, if_neg (by simp)] at hd
        rw [← hd]
        exact ⟨⟨_, rfl⟩, HI3.out, HB3.out⟩
    · go_wp2_with fail
      go_ret
      have hd := HG.out
      rw [List.drop_of_length_le (by omega)] at hd
      rw [← hd]
      exact ⟨⟨_, rfl⟩, HI2.out, HB2.out⟩
set_option maxRecDepth 100000 in
set_option maxHeartbeats 1600000 in
theorem tape_Window_lit (t : S49) (a b : Int) (out : List S49) (v : Value) (g1 g2 g3 : Nat) (w0 w : World) (h1 : w.heap[g1]? = some (.cells #[.int .i64 a] 3 (0, 0))) (h2 : w.heap[g2]? = some (.cells #[.int .i64 b] 3 (0, 0))) (h3 : w.heap[g3]? = some (.cells #[v] 22 (0, 0)))
    (hR : Kd.R k49 49 w w0.heap.size (fun k => k ≠ g3) v out) (hlim : out.length < 5864062014805) (hn1 : g1 ≠ g3) (hn2 : g2 ≠ g3) (hb : Below w0.heap.size w0 w) (hg3 : w0.heap.size ≤ g3) :
    Calls Try.prog 59 #[.agg #[.int .i64 t.f0, .int .i64 t.f1, .int .i64 t.f2], .pointer (some ⟨g1, 0, none⟩), .pointer (some ⟨g2, 0, none⟩), .pointer (some ⟨g3, 0, none⟩)] w fun e w' => e = .returned (.bool true) ∧ ((w'.heap[g1]? = some (.cells #[.int .i64 a] 3 (0, 0)) ∧ w'.heap[g2]? = some (.cells #[.int .i64 b] 3 (0, 0))) ∧ ∃ v', w'.heap[g3]? = some (.cells #[v'] 22 (0, 0)) ∧ Kd.R k49 49 w' w0.heap.size (fun k => k ≠ g3) v' (winStep a b t out).1) ∧ Below w0.heap.size w0 w' ∧ KT 76 w w' := by
  obtain ⟨Aq, cq, eq_⟩ := Kd.R_slice hR
  subst eq_
  have hc1 := blk_one h1
  have hc2 := blk_one h2
  have hc3 := blk_one h3
  have hf3 := blk_frozen h3 0
  have hl1 := blk_lt h1
  have hl2 := blk_lt h2
  have hl3 := blk_lt h3
  have H1 := Aside0.mk h1
  have H2 := Aside0.mk h2
  have H3 := Aside0.mk h3
  have HB := Aside0.mk hb
  have HR := Aside0.mk hR
  have HL := Aside0.mk hlim
  have hbs := hb.size
  clear h1 h2 h3 hb hR hlim
  by_cases c1 : a ≤ t.f0 ∧ t.f0 ≤ b
  · have HS := Aside0.mk (show (winStep a b t out).1 = out ++ [t] from if_pos c1)
    obtain ⟨c2, c3⟩ := c1
    go_enter Try.func59, Try.ntmps59
    go_wp2_with ((with_reducible refine gate_builtin (b := .append) (xs := #[.tmp 16, .tmp 18]) rfl ?_); at_builtin; refine Kd.R_append k49 (w0 := w0) w0.heap.size rfl (.tmp 16) (.tmp 18) 22 49 (.agg #[(.int .i64 0), (.int .i64 0), (.int .i64 0)]) 24 rfl Try.underlying22 info49 rfl (by decide) (by omega) (.slice Aq out.length cq) out t [.int .i64 t.f0, .int .i64 t.f1, .int .i64 t.f2] (fun k => k ≠ g3) (fun _ => False) rfl (by show Value.slice (some ⟨w.heap.size + 1, 0, none⟩) 1 1 = _; simp) ?aP (fun _ hk => hk.elim) ?aF ?aO ?aB ?aS ?aL ?_; (case aP => exact k49_mkM _ _ _ t); (case aB => exact (HB.out.alloc hbs _)); (case aF => exact (fun k hk => by simp at hk; omega)); (case aO => exact Kd.R_alloc HR.out _); (case aS => exact (by simp; omega)); (case aL => exact (by have := HL.out; omega)); intro v1 w5 ho hb hg hat; have HO := Aside0.mk ho; have HB5 := Aside0.mk hb; have K5 := Aside0.mk (((KT.refl 76 w).alloc _).grown hg (fun k hk => Kd.R_typed HR.out k hk |>.imp fun cs hcs => blk_alloc hcs _) (by decide)); have X1 := Aside0.mk (blk_grown (blk_alloc H1.out _) hg (Kd.R_ne (Kd.R_alloc HR.out (.cells #[.int .i64 t.f0, .int .i64 t.f1, .int .i64 t.f2] 49)) (blk_alloc H1.out (.cells #[.int .i64 t.f0, .int .i64 t.f1, .int .i64 t.f2] 49)) (by decide))); have X2 := Aside0.mk (blk_grown (blk_alloc H2.out _) hg (Kd.R_ne (Kd.R_alloc HR.out (.cells #[.int .i64 t.f0, .int .i64 t.f1, .int .i64 t.f2] 49)) (blk_alloc H2.out (.cells #[.int .i64 t.f0, .int .i64 t.f1, .int .i64 t.f2] 49)) (by decide))); have X3 := Aside0.mk (blk_grown (blk_alloc H3.out _) hg (Kd.R_ne (Kd.R_alloc HR.out (.cells #[.int .i64 t.f0, .int .i64 t.f1, .int .i64 t.f2] 49)) (blk_alloc H3.out (.cells #[.int .i64 t.f0, .int .i64 t.f1, .int .i64 t.f2] 49)) (by decide))); have y3 := blk_one X3.out; have y4 := blk_frozen X3.out 0; obtain ⟨Ar, cr, er⟩ := Kd.R_slice ho; clear ho hb hg hat; subst er)
    go_ret
    rw [HS.out]
    exact ⟨rfl, ⟨⟨blk_far X1.out hn1 _, blk_far X2.out hn2 _⟩, _, blk_put1 X3.out _, by simpa using Kd.R_far HO.out (p := ⟨g3, 0, none⟩) (fun k hk => hk) (.slice Ar (out ++ [t]).length cr)⟩, HB5.out.setCell hg3 _, K5.out.setCell X3.out (by decide) _⟩
  · have HS := Aside0.mk (show (winStep a b t out).1 = out from if_neg c1)
    by_cases c2 : a ≤ t.f0
    · have c3 : ¬ t.f0 ≤ b := fun h => c1 ⟨c2, h⟩
      clear c1
      go_enter Try.func59, Try.ntmps59
      go_wp2
      go_ret
      rw [HS.out]
      exact ⟨rfl, ⟨⟨blk_alloc H1.out _, blk_alloc H2.out _⟩, _, blk_alloc H3.out _, Kd.R_alloc HR.out _⟩, HB.out.alloc hbs _, (KT.refl _ _).alloc _⟩
    · clear c1
      go_enter Try.func59, Try.ntmps59
      go_wp2
      go_ret
      rw [HS.out]
      exact ⟨rfl, ⟨⟨blk_alloc H1.out _, blk_alloc H2.out _⟩, _, blk_alloc H3.out _, Kd.R_alloc HR.out _⟩, HB.out.alloc hbs _, (KT.refl _ _).alloc _⟩
set_option maxHeartbeats 1600000 in
theorem tape_Window.calls (A0 : Option Addr) (c0 : Nat) (l0 : List S49) (a1 a2 : Int) (r : List S49) (w : World) (hr0 : Kd.C k49 w A0 l0.length l0) (hc0 : l0.length ≤ c0) (h : tape_Window.f l0 a1 a2 = some r) :
    Calls Try.prog 28 #[.slice A0 l0.length c0, .int .i64 a1, .int .i64 a2] w fun e w' => ∃ v0_ : Value, e = .returned (v0_) ∧ Kd.R k49 49 w' w.heap.size (fun _ => True) v0_ r ∧ Below w.heap.size w w' := by
  have HR := Aside0.mk hr0
  unfold tape_Window.f at h
  by_cases hlen : l0.length < 5864062014805
  · rw [if_pos hlen] at h
    obtain rfl := Option.some.inj h
    have HL := Aside0.mk hlen
    clear h hr0 hlen
    go_enter Try.func28, Try.ntmps28
    go_wp2_with fail
    refine (tape_over_Window (fun (s : List S49) W => (W.heap[w.heap.size]? = some (.cells #[.int .i64 a1] 3 (0, 0)) ∧ W.heap[w.heap.size + 1]? = some (.cells #[.int .i64 a2] 3 (0, 0))) ∧ ∃ v, W.heap[w.heap.size + 2]? = some (.cells #[v] 22 (0, 0)) ∧ Kd.R k49 49 W w.heap.size (fun k => k ≠ w.heap.size + 2) v s) (winStep a1 a2) A0 c0 l0 w.heap.size (w.heap.size + 1) (w.heap.size + 2) w _ HR.out ((((Below.refl _ _).alloc (Nat.le_refl _) _).alloc (by simp) _).alloc (by simp; omega) _) [] ?hi (fun i s => s.length ≤ i) (Nat.le_refl _) ?ho ?hm ?hs).mono ?_
    case hi =>
      refine ⟨⟨blk_alloc (blk_alloc (blk_new w _) _) _, ?_⟩, .slice none 0 0, ?_, Kd.R_nil _ _ _ _ _⟩
      · have := blk_new (w.alloc (.cells #[.int .i64 a1] 3)) (.cells #[.int .i64 a2] 3)
        exact blk_alloc (by simpa using this) _
      · have := blk_new ((w.alloc (.cells #[.int .i64 a1] 3)).alloc (.cells #[.int .i64 a2] 3)) (.cells #[.slice none 0 0] 22)
        simpa using this
    case ho =>
      intro i t s _ hi _
      unfold winStep
      simp only
      split
      · simp; omega
      · omega
    case hm =>
      rintro s W W' ⟨⟨h1, h2⟩, v, h3, h4⟩ hb
      exact ⟨⟨blk_below h1 hb, blk_below h2 hb⟩, v, blk_below h3 hb, Kd.R_below h4 hb⟩
    case hs =>
      rintro t s i W hi hs hb ⟨⟨h1, h2⟩, v, h3, h4⟩
      exact tape_Window_lit t a1 a2 s v _ _ _ w W h1 h2 h3 h4 (by have := HL.out; omega) (by omega) (by omega) hb (by omega)
    rintro e w1 ⟨⟨b, rfl⟩, ⟨_, v, h3, h4⟩, hB1⟩
    obtain ⟨Aq, cq, eq_⟩ := Kd.R_slice h4
    subst eq_
    have hcell := blk_one h3
    have hfr := blk_frozen h3 0
    have H4 := Aside0.mk h4
    have HB1 := Aside0.mk hB1
    clear h3 h4 hB1
    go_wp2
    refine bodyPost_ret (v := .slice Aq (goAll (winStep a1 a2) l0 []).length cq) (by simp [results, Try.results28, go_sem, hcell]) rfl ⟨_, rfl, ?_, ?_⟩
    · exact Kd.R_mono (Kd.R_far H4.out (fun k hk => hk) _) (fun _ _ => trivial)
    · exact HB1.out.setCell (show w.heap.size ≤ w.heap.size + 1 + 1 by omega) _
  · rw [if_neg hlen] at h
    exact absurd h (by simp)
end Go.Proofs.Ytocndpddghefhaa.X
end
section
namespace Go.Proofs.Ytocndpddghefhaa.X
open Go.RowKit Go.Proofs.YtocndpddghefhaaW.PrintWords Go.Proofs.YtocndpddghefhaaW.PrintLast Go.Proofs.YtocndpddghefhaaW.PrintMore
attribute [local go_sem] max2_int min2_int max_two min_two max_three min_three max_four min_four
set_option linter.unusedVariables false
set_option linter.unusedSimpArgs false
def contangolaw17_goes.f (k : Nat)  : Option (Bool) := (some (([(⟨9, 2, 10⟩ : S49), (⟨10, 1, 13⟩ : S49)] : List (S49)) : List (S49))).bind fun y101 => ((tape_Vwap.f k y101 1 5).bind fun bt104 => ((tape_Vwap.f k y101 5 1).bind fun bt106 => ((tape_Vwap.f k y101 4 5).bind fun bt108 => ((tape_Range.f y101).bind fun bt110 => (if bt104.1 = 11 then (if bt104.2 = 0 then (if bt106.1 = 10 then (if bt106.2 = 0 then (if bt108.1 = 12 then (if bt108.2 = 0 then (if bt110.1 = 10 then (if bt110.2.1 = 13 then (if bt110.2.2 = true then ((tape_Window.f y101 10 20).bind fun t113 => (if 1 ≤ (y101.length : Int) then ((contangoref17_Same.f k t113 (y101.drop 1)).bind fun t120 => (some t120)) else (none))) else (none)) else (none)) else (none)) else (none)) else (none)) else (none)) else (none)) else (none)) else (none))))))
theorem contangolaw17_goes.mono : ∀ k, LeO (contangolaw17_goes.f k ) (contangolaw17_goes.f (k + 1) ) := by
  intro  k
  unfold contangolaw17_goes.f
  repeat' first
      | (with_reducible exact contangoref17_Same.mono _ _ _)
      | (with_reducible exact tape_Vwap.mono _ _ _ _)
      | (with_reducible exact LeO.refl _)
      | (with_reducible exact LeO.none _)
      | (with_reducible refine LeO.ite ?_ ?_)
      | (with_reducible refine LeO.bind ?_ (fun _ => ?_))
      | exact contangoref17_Same.mono _ _ _
      | exact tape_Vwap.mono _ _ _ _
      | exact LeO.none _
      | refine LeO.ite ?_ ?_
      | refine LeO.bind ?_ (fun _ => ?_)
def contangolaw17_goes.T6 : Bool × List (List Nat × List Nat) := (true, [([], []), ([0], [0]), ([1], [1]), ([2], [2]), ([3, 2], [2, 3]), ([2, 4], [2, 4]), ([5, 2], [5]), ([6], [6]), ([7, 6], [6, 7]), ([6, 8], [6, 8]), ([9, 6], [9]), ([10], [10]), ([11, 10], [10, 11]), ([10, 12], [10, 12]), ([13, 10], [13]), ([14], [14]), ([15, 14], [14, 15]), ([14, 16], [14, 16]), ([17, 14], [17]), ([18], [18]), ([19, 18], [18, 19]), ([18, 20], [18, 20]), ([21, 18], [21]), ([22], [22]), ([23, 22], [22, 23]), ([22, 24], [22, 24]), ([25, 22], [25]), ([26], [26]), ([27, 26], [26, 27]), ([26, 28], [26, 28]), ([29, 26], [29]), ([30], [30]), ([30, 31], [30, 31]), ([32, 30], [32]), ([33], [33]), ([34, 33, 33], [33, 34]), ([33], [33]), ([36, 33], [33, 36]), ([35, 37, 35, 33], [33, 35, 37]), ([33, 38], [33, 38]), ([39, 38, 0, 1, 2, 3, 4, 5, 6, 7, 8, 9, 10, 11, 12, 13, 14, 15, 16, 17, 18, 19, 20, 21, 22, 23, 24, 25, 26, 27, 28, 29, 30, 31, 32, 33, 34, 35, 36, 37, 38, 39], [39])])
def contangolaw17_goes.B6 : List Nat := [0, 1, 3, 7, 15, 31, 63, 127, 255, 511, 1023, 2047, 4095, 8191, 16383, 32767, 65535, 131071, 262143, 524287, 1048575, 2097151, 4194303, 8388607, 16777215, 33554431, 67108863, 134217727, 268435455, 536870911, 1073741823, 2147483647, 4294967295, 8589934591, 17179869183, 34359738367, 17179869183, 85899345919, 274877906943, 549755813887, 1099511627775]
theorem contangolaw17_goes.tab6 : rtab .any (opsOf Try.f14 6) = contangolaw17_goes.T6 := by kernel_rfl
theorem contangolaw17_goes.bits6 : waitsOk contangolaw17_goes.T6.2 contangolaw17_goes.B6 = true := by kernel_rfl
set_option maxHeartbeats 8000000 in
set_option maxRecDepth 100000 in
theorem contangolaw17_goes.calls (k : Nat)  (r : Bool) (w : World) (h : contangolaw17_goes.f k  = some r) :
    Calls Try.prog 14 #[] w fun e w' => e = .returned (.bool r) ∧ Below w.heap.size w w' := by
  have hu49 := Try.underlying49
  have HB := Aside0.mk (Below.refl w.heap.size w)
  have H : ((some (([(⟨9, 2, 10⟩ : S49), (⟨10, 1, 13⟩ : S49)] : List (S49)) : List (S49))).bind fun y101 => ((tape_Vwap.f k y101 1 5).bind fun bt104 => ((tape_Vwap.f k y101 5 1).bind fun bt106 => ((tape_Vwap.f k y101 4 5).bind fun bt108 => ((tape_Range.f y101).bind fun bt110 => (if bt104.1 = 11 then (if bt104.2 = 0 then (if bt106.1 = 10 then (if bt106.2 = 0 then (if bt108.1 = 12 then (if bt108.2 = 0 then (if bt110.1 = 10 then (if bt110.2.1 = 13 then (if bt110.2.2 = true then ((tape_Window.f y101 10 20).bind fun t113 => (if 1 ≤ (y101.length : Int) then ((contangoref17_Same.f k t113 (y101.drop 1)).bind fun t120 => (some t120)) else (none))) else (none)) else (none)) else (none)) else (none)) else (none)) else (none)) else (none)) else (none)) else (none))))))) = some r := h
  clear h
  obtain ⟨y101, hy101⟩ : ∃ y_ : List (S49), y_ = (([(⟨9, 2, 10⟩ : S49), (⟨10, 1, 13⟩ : S49)] : List (S49))) := ⟨_, rfl⟩
  replace H : ((tape_Vwap.f k y101 1 5).bind fun bt104 => ((tape_Vwap.f k y101 5 1).bind fun bt106 => ((tape_Vwap.f k y101 4 5).bind fun bt108 => ((tape_Range.f y101).bind fun bt110 => (if bt104.1 = 11 then (if bt104.2 = 0 then (if bt106.1 = 10 then (if bt106.2 = 0 then (if bt108.1 = 12 then (if bt108.2 = 0 then (if bt110.1 = 10 then (if bt110.2.1 = 13 then (if bt110.2.2 = true then ((tape_Window.f y101 10 20).bind fun t113 => (if 1 ≤ (y101.length : Int) then ((contangoref17_Same.f k t113 (y101.drop 1)).bind fun t120 => (some t120)) else (none))) else (none)) else (none)) else (none)) else (none)) else (none)) else (none)) else (none)) else (none)) else (none)))))) = some r := by first | (rw [hy101]; with_reducible exact H) | (have H2_ := (Option.bind_some _ _).symm.trans H; rw [hy101]; with_reducible exact H2_) | (have H2_ := (Option.bind_some _ _).symm.trans H; with_reducible exact H2_) | with_reducible exact H | (rw [hy101]; exact H) | exact H
  have Ny101 := Aside0.mk hy101
  clear hy101
  replace H := Option.bind_eq_some_iff.mp H
  obtain ⟨⟨t104, t105⟩, A10, H⟩ := H
  replace H : ((tape_Vwap.f k y101 5 1).bind fun bt106 => ((tape_Vwap.f k y101 4 5).bind fun bt108 => ((tape_Range.f y101).bind fun bt110 => (if t104 = 11 then (if t105 = 0 then (if bt106.1 = 10 then (if bt106.2 = 0 then (if bt108.1 = 12 then (if bt108.2 = 0 then (if bt110.1 = 10 then (if bt110.2.1 = 13 then (if bt110.2.2 = true then ((tape_Window.f y101 10 20).bind fun t113 => (if 1 ≤ (y101.length : Int) then ((contangoref17_Same.f k t113 (y101.drop 1)).bind fun t120 => (some t120)) else (none))) else (none)) else (none)) else (none)) else (none)) else (none)) else (none)) else (none)) else (none)) else (none))))) = some r := H
  have A1 := Aside0.mk A10
  clear A10
  replace H := Option.bind_eq_some_iff.mp H
  obtain ⟨⟨t106, t107⟩, A20, H⟩ := H
  replace H : ((tape_Vwap.f k y101 4 5).bind fun bt108 => ((tape_Range.f y101).bind fun bt110 => (if t104 = 11 then (if t105 = 0 then (if t106 = 10 then (if t107 = 0 then (if bt108.1 = 12 then (if bt108.2 = 0 then (if bt110.1 = 10 then (if bt110.2.1 = 13 then (if bt110.2.2 = true then ((tape_Window.f y101 10 20).bind fun t113 => (if 1 ≤ (y101.length : Int) then ((contangoref17_Same.f k t113 (y101.drop 1)).bind fun t120 => (some t120)) else (none))) else (none)) else (none)) else (none)) else (none)) else (none)) else (none)) else (none)) else (none)) else (none)))) = some r := H
  have A2 := Aside0.mk A20
  clear A20
  replace H := Option.bind_eq_some_iff.mp H
  obtain ⟨⟨t108, t109⟩, A30, H⟩ := H
  replace H : ((tape_Range.f y101).bind fun bt110 => (if t104 = 11 then (if t105 = 0 then (if t106 = 10 then (if t107 = 0 then (if t108 = 12 then (if t109 = 0 then (if bt110.1 = 10 then (if bt110.2.1 = 13 then (if bt110.2.2 = true then ((tape_Window.f y101 10 20).bind fun t113 => (if 1 ≤ (y101.length : Int) then ((contangoref17_Same.f k t113 (y101.drop 1)).bind fun t120 => (some t120)) else (none))) else (none)) else (none)) else (none)) else (none)) else (none)) else (none)) else (none)) else (none)) else (none))) = some r := H
  have A3 := Aside0.mk A30
  clear A30
  replace H := Option.bind_eq_some_iff.mp H
  obtain ⟨⟨t110, t111, t112⟩, A40, H⟩ := H
  replace H : (if t104 = 11 then (if t105 = 0 then (if t106 = 10 then (if t107 = 0 then (if t108 = 12 then (if t109 = 0 then (if t110 = 10 then (if t111 = 13 then (if t112 = true then ((tape_Window.f y101 10 20).bind fun t113 => (if 1 ≤ (y101.length : Int) then ((contangoref17_Same.f k t113 (y101.drop 1)).bind fun t120 => (some t120)) else (none))) else (none)) else (none)) else (none)) else (none)) else (none)) else (none)) else (none)) else (none)) else (none)) = some r := H
  have A4 := Aside0.mk A40
  clear A40
  by_cases c5 : t104 = 11
  · rw [if_pos c5] at H
    have c5b0 : (t104 == 11) = true := beq_iff_eq.mpr c5
    have c5b1 : (t104 != 11) = false := bne_eq_false_iff_eq.mpr c5
    clear c5
    by_cases c6 : t105 = 0
    · rw [if_pos c6] at H
      have c6b0 : (t105 == 0) = true := beq_iff_eq.mpr c6
      have c6b1 : (t105 != 0) = false := bne_eq_false_iff_eq.mpr c6
      clear c6
      by_cases c7 : t106 = 10
      · rw [if_pos c7] at H
        have c7b0 : (t106 == 10) = true := beq_iff_eq.mpr c7
        have c7b1 : (t106 != 10) = false := bne_eq_false_iff_eq.mpr c7
        clear c7
        by_cases c8 : t107 = 0
        · rw [if_pos c8] at H
          have c8b0 : (t107 == 0) = true := beq_iff_eq.mpr c8
          have c8b1 : (t107 != 0) = false := bne_eq_false_iff_eq.mpr c8
          clear c8
          by_cases c9 : t108 = 12
          · rw [if_pos c9] at H
            have c9b0 : (t108 == 12) = true := beq_iff_eq.mpr c9
            have c9b1 : (t108 != 12) = false := bne_eq_false_iff_eq.mpr c9
            clear c9
            by_cases c10 : t109 = 0
            · rw [if_pos c10] at H
              have c10b0 : (t109 == 0) = true := beq_iff_eq.mpr c10
              have c10b1 : (t109 != 0) = false := bne_eq_false_iff_eq.mpr c10
              clear c10
              by_cases c11 : t110 = 10
              · rw [if_pos c11] at H
                have c11b0 : (t110 == 10) = true := beq_iff_eq.mpr c11
                have c11b1 : (t110 != 10) = false := bne_eq_false_iff_eq.mpr c11
                clear c11
                by_cases c12 : t111 = 13
                · rw [if_pos c12] at H
                  have c12b0 : (t111 == 13) = true := beq_iff_eq.mpr c12
                  have c12b1 : (t111 != 13) = false := bne_eq_false_iff_eq.mpr c12
                  clear c12
                  by_cases c13 : t112 = true
                  · subst c13
                    have H1 : ((tape_Window.f y101 10 20).bind fun t113 => (if 1 ≤ (y101.length : Int) then ((contangoref17_Same.f k t113 (y101.drop 1)).bind fun t120 => (some t120)) else (none))) = some r := by rw [if_pos rfl] at H; exact H
                    clear H
                    have H := H1
                    clear H1
                    replace H := Option.bind_eq_some_iff.mp H
                    obtain ⟨t113, A140, H⟩ := H
                    replace H : (if 1 ≤ (y101.length : Int) then ((contangoref17_Same.f k t113 (y101.drop 1)).bind fun t120 => (some t120)) else (none)) = some r := H
                    have A14 := Aside0.mk A140
                    clear A140
                    by_cases c15 : 1 ≤ (y101.length : Int)
                    · rw [if_pos c15] at H
                      have c15b0 := eq_true c15
                      have c15b1 : decide (1 ≤ (y101.length : Int)) = true := decide_eq_true c15
                      clear c15
                      obtain ⟨y116, hy116⟩ : ∃ y_ : List (S49), y_ = (y101.drop 1) := ⟨_, rfl⟩
                      replace H : ((contangoref17_Same.f k t113 y116).bind fun t120 => (some t120)) = some r := by first | (rw [hy116]; with_reducible exact H) | (have H2_ := (Option.bind_some _ _).symm.trans H; rw [hy116]; with_reducible exact H2_) | (have H2_ := (Option.bind_some _ _).symm.trans H; with_reducible exact H2_) | with_reducible exact H | (rw [hy116]; exact H) | exact H
                      have Ny116 := Aside0.mk hy116
                      clear hy116
                      replace H := Option.bind_eq_some_iff.mp H
                      obtain ⟨t120, A160, H⟩ := H
                      replace H : (some t120) = some r := H
                      have A16 := Aside0.mk A160
                      clear A160
                      obtain rfl := Option.some.inj H
                      go_enter Try.func14, Try.ntmps14
                      try go_wp2_with (first | ((with_reducible refine gate_dst (N := 13) rfl ?_); refine Kd.R_lit k49 _ 49 ?hg (N := 13) ?hd (xs := ([(⟨9, 2, 10⟩ : S49), (⟨10, 1, 13⟩ : S49)] : List (S49))) (inner := [.int .i64 9, .int .i64 2, .int .i64 10, .int .i64 10, .int .i64 1, .int .i64 13]) (ok := fun _ => True) (okp := fun _ => True) ?hr ?hp (fun _ hk => hk) trivial (Below.refl _ _) (Nat.le_refl _) (by simp) ?_; (case hd => rfl); (case hg => rfl); (case hr => first | (go_simp; done) | (go_simp; rfl)); (case hp => exact (Reps.c3 (show Kd.M k49 _ _ _ (⟨9, 2, 10⟩ : S49) [.int .i64 9, .int .i64 2, .int .i64 10] from (k49_mkM _ _ _ (⟨9, 2, 10⟩ : S49) )) (Reps.c3 (show Kd.M k49 _ _ _ (⟨10, 1, 13⟩ : S49) [.int .i64 10, .int .i64 1, .int .i64 13] from (k49_mkM _ _ _ (⟨10, 1, 13⟩ : S49) )) (Reps.none _ _)))); intro v102 w17 ho18 hb hg_ hnew_; clear hg_ hnew_; (first | rw [← Ny101.out] at ho18 | (simp only [Int.reduceToNat] at ho18; rw [← Ny101.out] at ho18)); have n0_ := Aside0.mk (Kd.R_lower ho18 (below_size (by repeat (first | (with_reducible first | exact HB.out | apply below_alloc | apply pw_below_drewN | apply below_drew1) | exact HB.out)))); have n1_ := Aside0.mk (below_step (by repeat (first | (with_reducible first | exact HB.out | apply below_alloc | apply pw_below_drewN | apply below_drew1) | exact HB.out)) hb); clear HB; have HO103 := n0_; have HB := n1_; clear n0_ n1_; clear hb ho18; obtain ⟨Ao19, co19, eo19⟩ := Kd.R_slice HO103.out; subst eo19) | ((with_reducible refine gate_callee (f := 12) rfl ?_); refine goesL_ (some 16) rfl rfl Try.func12 (by kernel_rfl) rfl #[.slice Ao19 y101.length co19, .int .i64 1, .int .i64 5] rfl (by (try simp only [List.map_toArray, List.map_cons, List.map_nil]); first | done | rfl | (simp only [List.length_drop, List.length_take]; rfl)) ?_; (with_reducible refine (tape_Vwap.calls k _ _ y101 1 5 t104 t105 _ ?side1 ?side2 A1.out).mono ?_); (case side1 => repeat (first | exact (Kd.R_reads' HO103.out).2.2 | (with_reducible refine Kd.C_alloc ?_ _) | (with_reducible refine Kd.C_drewN ?_ _) | (with_reducible refine Kd.C_drew ?_))); (case side2 => exact (Kd.R_reads' HO103.out).2.1); rintro e w20 ⟨rfl, hb⟩; refine ⟨_, rfl, ?_⟩; have n0_ := Aside0.mk (Kd.R_below (by (with_reducible repeat (first | apply Kd.R_alloc | apply Kd.R_drewN | apply Kd.R_drew)); exact HO103.out) hb); have n1_ := Aside0.mk (below_step (by repeat (first | (with_reducible first | exact HB.out | apply below_alloc | apply pw_below_drewN | apply below_drew1) | exact HB.out)) hb); clear HO103; clear HB; have HO103 := n0_; have HB := n1_; clear n0_ n1_; (try clear hb); (try clear hb2); (try clear hk); (try clear hi)) | ((with_reducible refine gate_callee (f := 12) rfl ?_); refine goesL_ (some 21) rfl rfl Try.func12 (by kernel_rfl) rfl #[.slice Ao19 y101.length co19, .int .i64 5, .int .i64 1] rfl (by (try simp only [List.map_toArray, List.map_cons, List.map_nil]); first | done | rfl | (simp only [List.length_drop, List.length_take]; rfl)) ?_; (with_reducible refine (tape_Vwap.calls k _ _ y101 5 1 t106 t107 _ ?side1 ?side2 A2.out).mono ?_); (case side1 => repeat (first | exact (Kd.R_reads' HO103.out).2.2 | (with_reducible refine Kd.C_alloc ?_ _) | (with_reducible refine Kd.C_drewN ?_ _) | (with_reducible refine Kd.C_drew ?_))); (case side2 => exact (Kd.R_reads' HO103.out).2.1); rintro e w21 ⟨rfl, hb⟩; refine ⟨_, rfl, ?_⟩; have n0_ := Aside0.mk (Kd.R_below (by (with_reducible repeat (first | apply Kd.R_alloc | apply Kd.R_drewN | apply Kd.R_drew)); exact HO103.out) hb); have n1_ := Aside0.mk (below_step (by repeat (first | (with_reducible first | exact HB.out | apply below_alloc | apply pw_below_drewN | apply below_drew1) | exact HB.out)) hb); clear HO103; clear HB; have HO103 := n0_; have HB := n1_; clear n0_ n1_; (try clear hb); (try clear hb2); (try clear hk); (try clear hi)) | ((with_reducible refine gate_callee (f := 12) rfl ?_); refine goesL_ (some 26) rfl rfl Try.func12 (by kernel_rfl) rfl #[.slice Ao19 y101.length co19, .int .i64 4, .int .i64 5] rfl (by (try simp only [List.map_toArray, List.map_cons, List.map_nil]); first | done | rfl | (simp only [List.length_drop, List.length_take]; rfl)) ?_; (with_reducible refine (tape_Vwap.calls k _ _ y101 4 5 t108 t109 _ ?side1 ?side2 A3.out).mono ?_); (case side1 => repeat (first | exact (Kd.R_reads' HO103.out).2.2 | (with_reducible refine Kd.C_alloc ?_ _) | (with_reducible refine Kd.C_drewN ?_ _) | (with_reducible refine Kd.C_drew ?_))); (case side2 => exact (Kd.R_reads' HO103.out).2.1); rintro e w22 ⟨rfl, hb⟩; refine ⟨_, rfl, ?_⟩; have n0_ := Aside0.mk (Kd.R_below (by (with_reducible repeat (first | apply Kd.R_alloc | apply Kd.R_drewN | apply Kd.R_drew)); exact HO103.out) hb); have n1_ := Aside0.mk (below_step (by repeat (first | (with_reducible first | exact HB.out | apply below_alloc | apply pw_below_drewN | apply below_drew1) | exact HB.out)) hb); clear HO103; clear HB; have HO103 := n0_; have HB := n1_; clear n0_ n1_; (try clear hb); (try clear hb2); (try clear hk); (try clear hi)) | ((with_reducible refine gate_callee (f := 15) rfl ?_); refine goesL_ (some 31) rfl rfl Try.func15 (by kernel_rfl) rfl #[.slice Ao19 y101.length co19] rfl (by (try simp only [List.map_toArray, List.map_cons, List.map_nil]); first | done | rfl | (simp only [List.length_drop, List.length_take]; rfl)) ?_; (with_reducible refine (tape_Range.calls _ _ y101 t110 t111 true _ ?side1 ?side2 A4.out).mono ?_); (case side1 => repeat (first | exact (Kd.R_reads' HO103.out).2.2 | (with_reducible refine Kd.C_alloc ?_ _) | (with_reducible refine Kd.C_drewN ?_ _) | (with_reducible refine Kd.C_drew ?_))); (case side2 => exact (Kd.R_reads' HO103.out).2.1); rintro e w23 ⟨rfl, hb⟩; refine ⟨_, rfl, ?_⟩; have n0_ := Aside0.mk (Kd.R_below (by (with_reducible repeat (first | apply Kd.R_alloc | apply Kd.R_drewN | apply Kd.R_drew)); exact HO103.out) hb); have n1_ := Aside0.mk (below_step (by repeat (first | (with_reducible first | exact HB.out | apply below_alloc | apply pw_below_drewN | apply below_drew1) | exact HB.out)) hb); clear HO103; clear HB; have HO103 := n0_; have HB := n1_; clear n0_ n1_; (try clear hb); (try clear hb2); (try clear hk); (try clear hi)))
                      have n0_ := Aside0.mk (Kd.R_drew HO103.out)
                      have n1_ := Aside0.mk (below_drew1 HB.out)
                      clear HO103
                      clear HB
                      have HO103 := n0_
                      have HB := n1_
                      clear n0_ n1_
                      have q25 : (1 : Int) ≤ ((y101.length : Int) : Int) := of_decide_eq_true (by first | (with_reducible assumption) | assumption)
                      obtain ⟨i025, hi025, _, hsz25, _⟩ := info_parts info49
                      have hroom25 : y101.length ≤ co19 := (Kd.R_reads' HO103.out).2.1
                      have hC25 : Kd.C k49 _ Ao19 y101.length y101 := (Kd.R_reads' HO103.out).2.2
                      have hcut25 := cut_from (P := Try.prog) 22 49 .i64 Try.underlying22 hi025 3 hsz25 Ao19 y101.length co19 1 (by omega) q25
                      have hr25 := Kd.C_drop (m := (1 : Int).toNat) (c := co19) hC25 (by omega) hroom25
                      obtain ⟨A25, hA25⟩ : ∃ A1, A1 = (if co19 = (1 : Int).toNat then Ao19 else (Ao19 : Option Addr).map (·.add ((1 : Int).toNat * 3))) := ⟨_, rfl⟩
                      obtain ⟨c25, hc25⟩ : ∃ c1, c1 = co19 - (1 : Int).toNat := ⟨_, rfl⟩
                      have hy25 : y116.length = y101.length - (1 : Int).toNat := (by rw [Ny116.out, List.length_drop] <;> omega)
                      rw [show (y101).drop (1 : Int).toNat = y116 from Ny116.out.symm] at hr25
                      replace hr25 : Kd.C k49 _ A25 y116.length y116 := (by rw [hA25]; exact hr25)
                      rw [← hy25, ← hA25, ← hc25] at hcut25
                      have HR119 := Aside0.mk hr25
                      have HC119 := Aside0.mk (show y116.length ≤ c25 from by rw [hy25, hc25]; exact Nat.sub_le_sub_right hroom25 _)
                      clear hr25 hC25 hroom25 hi025 hsz25 hc25
                      have KY25 := Aside0.mk hy25
                      have KA25 := Aside0.mk hA25
                      clear hy25 hA25
                      have KL25 := Aside0.mk (show 1 ≤ y101.length from by omega)
                      replace q25 := eq_true q25
                      refine start_ (n := 41) (S := fun w' => True) (ds := []) #[false, false, false, false, false, false, false, false, false, false, false, false, false, false, false, false, false, false, false, false, false, false, false, false, false, false, false, false, false, false, false, false, false, false, false, false, false, false, false, false, false] (by kernel_rfl) rfl rfl trivial (fun hHeld => ?_); refine with_tabW contangolaw17_goes.tab6 contangolaw17_goes.bits6 (fun HT_ HW_ => ?_)
                      generalize w23.drew = w24 at HO103 HB HR119 hHeld ⊢
                      refine pure_ (i := 0) (N := some 35) (v := ?_) (a' := ?_) #[true, false, false, false, false, false, false, false, false, false, false, false, false, false, false, false, false, false, false, false, false, false, false, false, false, false, false, false, false, false, false, false, false, false, false, false, false, false, false, false, false] rfl rfl (any_of HT_.out (by kernel_rfl)) (fun _ _ _ h => h) (Or.inl ⟨by rfl, ?_⟩) ?_ ?_
                      rotate_left
                      · intro w'
                        go_simp
                        with_reducible rfl
                      rotate_left
                      · simp only [Act.put, List.setIfInBounds_toArray, List.set_cons_zero, List.set_cons_succ, i64_w, i32_w]
                        rfl
                      refine pure_ (i := 1) (N := some 36) (v := ?_) (a' := ?_) #[true, true, false, false, false, false, false, false, false, false, false, false, false, false, false, false, false, false, false, false, false, false, false, false, false, false, false, false, false, false, false, false, false, false, false, false, false, false, false, false, false] rfl rfl (any_of HT_.out (by kernel_rfl)) (fun _ _ _ h => h) (Or.inl ⟨by rfl, ?_⟩) ?_ ?_
                      rotate_left
                      · intro w'
                        go_simp
                        with_reducible rfl
                      rotate_left
                      · simp only [Act.put, List.setIfInBounds_toArray, List.set_cons_zero, List.set_cons_succ, i64_w, i32_w]
                        rfl
                      refine pure_ (i := 2) (N := some 37) (v := ?_) (a' := ?_) #[true, true, true, false, false, false, false, false, false, false, false, false, false, false, false, false, false, false, false, false, false, false, false, false, false, false, false, false, false, false, false, false, false, false, false, false, false, false, false, false, false] rfl rfl (any_of HT_.out (by kernel_rfl)) (fun _ _ _ h => h) (Or.inl ⟨by rfl, ?_⟩) ?_ ?_
                      rotate_left
                      · intro w'
                        go_simp
                        with_reducible rfl
                      rotate_left
                      · simp only [Act.put, List.setIfInBounds_toArray, List.set_cons_zero, List.set_cons_succ, i64_w, i32_w]
                        rfl
                      refine pure_ (i := 3) (N := some 38) (v := ?_) (a' := ?_) #[true, true, true, true, false, false, false, false, false, false, false, false, false, false, false, false, false, false, false, false, false, false, false, false, false, false, false, false, false, false, false, false, false, false, false, false, false, false, false, false, false] rfl rfl (any_of HT_.out (by kernel_rfl)) (fun _ _ _ h => h) (Or.inl ⟨by rfl, ?_⟩) ?_ ?_
                      rotate_left
                      · intro w'
                        go_simp
                        with_reducible rfl
                      rotate_left
                      · simp only [Act.put, List.setIfInBounds_toArray, List.set_cons_zero, List.set_cons_succ, i64_w, i32_w]
                        rfl
                      refine pure_ (i := 4) (N := some 39) (v := ?_) (a' := ?_) #[true, true, true, true, true, false, false, false, false, false, false, false, false, false, false, false, false, false, false, false, false, false, false, false, false, false, false, false, false, false, false, false, false, false, false, false, false, false, false, false, false] rfl rfl (any_of HT_.out (by kernel_rfl)) (fun _ _ _ h => h) (Or.inl ⟨by rfl, ?_⟩) ?_ ?_
                      rotate_left
                      · intro w'
                        go_simp
                        with_reducible rfl
                      rotate_left
                      · simp only [Act.put, List.setIfInBounds_toArray, List.set_cons_zero, List.set_cons_succ, i64_w, i32_w]
                        rfl
                      refine pure_ (i := 5) (N := some 40) (v := ?_) (a' := ?_) #[true, true, true, true, true, true, false, false, false, false, false, false, false, false, false, false, false, false, false, false, false, false, false, false, false, false, false, false, false, false, false, false, false, false, false, false, false, false, false, false, false] rfl rfl (any_of HT_.out (by kernel_rfl)) (fun _ _ _ h => h) (Or.inl ⟨by rfl, ?_⟩) ?_ ?_
                      rotate_left
                      · intro w'
                        go_simp
                        with_reducible rfl
                      rotate_left
                      · simp only [Act.put, List.setIfInBounds_toArray, List.set_cons_zero, List.set_cons_succ, i64_w, i32_w]
                        rfl
                      refine pure_ (i := 6) (N := some 41) (v := ?_) (a' := ?_) #[true, true, true, true, true, true, true, false, false, false, false, false, false, false, false, false, false, false, false, false, false, false, false, false, false, false, false, false, false, false, false, false, false, false, false, false, false, false, false, false, false] rfl rfl (any_of HT_.out (by kernel_rfl)) (fun _ _ _ h => h) (Or.inl ⟨by rfl, ?_⟩) ?_ ?_
                      rotate_left
                      · intro w'
                        go_simp
                        with_reducible rfl
                      rotate_left
                      · simp only [Act.put, List.setIfInBounds_toArray, List.set_cons_zero, List.set_cons_succ, i64_w, i32_w]
                        rfl
                      refine pure_ (i := 7) (N := some 42) (v := ?_) (a' := ?_) #[true, true, true, true, true, true, true, true, false, false, false, false, false, false, false, false, false, false, false, false, false, false, false, false, false, false, false, false, false, false, false, false, false, false, false, false, false, false, false, false, false] rfl rfl (any_of HT_.out (by kernel_rfl)) (fun _ _ _ h => h) (Or.inl ⟨by rfl, ?_⟩) ?_ ?_
                      rotate_left
                      · intro w'
                        go_simp
                        with_reducible rfl
                      rotate_left
                      · simp only [Act.put, List.setIfInBounds_toArray, List.set_cons_zero, List.set_cons_succ, i64_w, i32_w]
                        rfl
                      refine pure_ (i := 8) (N := some 43) (v := ?_) (a' := ?_) #[true, true, true, true, true, true, true, true, true, false, false, false, false, false, false, false, false, false, false, false, false, false, false, false, false, false, false, false, false, false, false, false, false, false, false, false, false, false, false, false, false] rfl rfl (any_of HT_.out (by kernel_rfl)) (fun _ _ _ h => h) (Or.inl ⟨by rfl, ?_⟩) ?_ ?_
                      rotate_left
                      · intro w'
                        go_simp
                        with_reducible rfl
                      rotate_left
                      · simp only [Act.put, List.setIfInBounds_toArray, List.set_cons_zero, List.set_cons_succ, i64_w, i32_w]
                        rfl
                      refine pure_ (i := 9) (N := some 44) (v := ?_) (a' := ?_) #[true, true, true, true, true, true, true, true, true, true, false, false, false, false, false, false, false, false, false, false, false, false, false, false, false, false, false, false, false, false, false, false, false, false, false, false, false, false, false, false, false] rfl rfl (any_of HT_.out (by kernel_rfl)) (fun _ _ _ h => h) (Or.inl ⟨by rfl, ?_⟩) ?_ ?_
                      rotate_left
                      · intro w'
                        go_simp
                        with_reducible rfl
                      rotate_left
                      · simp only [Act.put, List.setIfInBounds_toArray, List.set_cons_zero, List.set_cons_succ, i64_w, i32_w]
                        rfl
                      refine pure_ (i := 10) (N := some 45) (v := ?_) (a' := ?_) #[true, true, true, true, true, true, true, true, true, true, true, false, false, false, false, false, false, false, false, false, false, false, false, false, false, false, false, false, false, false, false, false, false, false, false, false, false, false, false, false, false] rfl rfl (any_of HT_.out (by kernel_rfl)) (fun _ _ _ h => h) (Or.inl ⟨by rfl, ?_⟩) ?_ ?_
                      rotate_left
                      · intro w'
                        go_simp
                        with_reducible rfl
                      rotate_left
                      · simp only [Act.put, List.setIfInBounds_toArray, List.set_cons_zero, List.set_cons_succ, i64_w, i32_w]
                        rfl
                      refine pure_ (i := 11) (N := some 46) (v := ?_) (a' := ?_) #[true, true, true, true, true, true, true, true, true, true, true, true, false, false, false, false, false, false, false, false, false, false, false, false, false, false, false, false, false, false, false, false, false, false, false, false, false, false, false, false, false] rfl rfl (any_of HT_.out (by kernel_rfl)) (fun _ _ _ h => h) (Or.inl ⟨by rfl, ?_⟩) ?_ ?_
                      rotate_left
                      · intro w'
                        go_simp
                        with_reducible rfl
                      rotate_left
                      · simp only [Act.put, List.setIfInBounds_toArray, List.set_cons_zero, List.set_cons_succ, i64_w, i32_w]
                        rfl
                      refine pure_ (i := 12) (N := some 47) (v := ?_) (a' := ?_) #[true, true, true, true, true, true, true, true, true, true, true, true, true, false, false, false, false, false, false, false, false, false, false, false, false, false, false, false, false, false, false, false, false, false, false, false, false, false, false, false, false] rfl rfl (any_of HT_.out (by kernel_rfl)) (fun _ _ _ h => h) (Or.inl ⟨by rfl, ?_⟩) ?_ ?_
                      rotate_left
                      · intro w'
                        go_simp
                        with_reducible rfl
                      rotate_left
                      · simp only [Act.put, List.setIfInBounds_toArray, List.set_cons_zero, List.set_cons_succ, i64_w, i32_w]
                        rfl
                      refine pure_ (i := 13) (N := some 48) (v := ?_) (a' := ?_) #[true, true, true, true, true, true, true, true, true, true, true, true, true, true, false, false, false, false, false, false, false, false, false, false, false, false, false, false, false, false, false, false, false, false, false, false, false, false, false, false, false] rfl rfl (any_of HT_.out (by kernel_rfl)) (fun _ _ _ h => h) (Or.inl ⟨by rfl, ?_⟩) ?_ ?_
                      rotate_left
                      · intro w'
                        go_simp
                        with_reducible rfl
                      rotate_left
                      · simp only [Act.put, List.setIfInBounds_toArray, List.set_cons_zero, List.set_cons_succ, i64_w, i32_w]
                        rfl
                      refine pure_ (i := 14) (N := some 49) (v := ?_) (a' := ?_) #[true, true, true, true, true, true, true, true, true, true, true, true, true, true, true, false, false, false, false, false, false, false, false, false, false, false, false, false, false, false, false, false, false, false, false, false, false, false, false, false, false] rfl rfl (any_of HT_.out (by kernel_rfl)) (fun _ _ _ h => h) (Or.inl ⟨by rfl, ?_⟩) ?_ ?_
                      rotate_left
                      · intro w'
                        go_simp
                        with_reducible rfl
                      rotate_left
                      · simp only [Act.put, List.setIfInBounds_toArray, List.set_cons_zero, List.set_cons_succ, i64_w, i32_w]
                        rfl
                      refine pure_ (i := 15) (N := some 50) (v := ?_) (a' := ?_) #[true, true, true, true, true, true, true, true, true, true, true, true, true, true, true, true, false, false, false, false, false, false, false, false, false, false, false, false, false, false, false, false, false, false, false, false, false, false, false, false, false] rfl rfl (any_of HT_.out (by kernel_rfl)) (fun _ _ _ h => h) (Or.inl ⟨by rfl, ?_⟩) ?_ ?_
                      rotate_left
                      · intro w'
                        go_simp
                        with_reducible rfl
                      rotate_left
                      · simp only [Act.put, List.setIfInBounds_toArray, List.set_cons_zero, List.set_cons_succ, i64_w, i32_w]
                        rfl
                      refine pure_ (i := 16) (N := some 51) (v := ?_) (a' := ?_) #[true, true, true, true, true, true, true, true, true, true, true, true, true, true, true, true, true, false, false, false, false, false, false, false, false, false, false, false, false, false, false, false, false, false, false, false, false, false, false, false, false] rfl rfl (any_of HT_.out (by kernel_rfl)) (fun _ _ _ h => h) (Or.inl ⟨by rfl, ?_⟩) ?_ ?_
                      rotate_left
                      · intro w'
                        go_simp
                        with_reducible rfl
                      rotate_left
                      · simp only [Act.put, List.setIfInBounds_toArray, List.set_cons_zero, List.set_cons_succ, i64_w, i32_w]
                        rfl
                      refine pure_ (i := 17) (N := some 52) (v := ?_) (a' := ?_) #[true, true, true, true, true, true, true, true, true, true, true, true, true, true, true, true, true, true, false, false, false, false, false, false, false, false, false, false, false, false, false, false, false, false, false, false, false, false, false, false, false] rfl rfl (any_of HT_.out (by kernel_rfl)) (fun _ _ _ h => h) (Or.inl ⟨by rfl, ?_⟩) ?_ ?_
                      rotate_left
                      · intro w'
                        go_simp
                        with_reducible rfl
                      rotate_left
                      · simp only [Act.put, List.setIfInBounds_toArray, List.set_cons_zero, List.set_cons_succ, i64_w, i32_w]
                        rfl
                      refine pure_ (i := 18) (N := some 53) (v := ?_) (a' := ?_) #[true, true, true, true, true, true, true, true, true, true, true, true, true, true, true, true, true, true, true, false, false, false, false, false, false, false, false, false, false, false, false, false, false, false, false, false, false, false, false, false, false] rfl rfl (any_of HT_.out (by kernel_rfl)) (fun _ _ _ h => h) (Or.inl ⟨by rfl, ?_⟩) ?_ ?_
                      rotate_left
                      · intro w'
                        go_simp
                        with_reducible rfl
                      rotate_left
                      · simp only [Act.put, List.setIfInBounds_toArray, List.set_cons_zero, List.set_cons_succ, i64_w, i32_w]
                        rfl
                      refine pure_ (i := 19) (N := some 54) (v := ?_) (a' := ?_) #[true, true, true, true, true, true, true, true, true, true, true, true, true, true, true, true, true, true, true, true, false, false, false, false, false, false, false, false, false, false, false, false, false, false, false, false, false, false, false, false, false] rfl rfl (any_of HT_.out (by kernel_rfl)) (fun _ _ _ h => h) (Or.inl ⟨by rfl, ?_⟩) ?_ ?_
                      rotate_left
                      · intro w'
                        go_simp
                        with_reducible rfl
                      rotate_left
                      · simp only [Act.put, List.setIfInBounds_toArray, List.set_cons_zero, List.set_cons_succ, i64_w, i32_w]
                        rfl
                      refine pure_ (i := 20) (N := some 55) (v := ?_) (a' := ?_) #[true, true, true, true, true, true, true, true, true, true, true, true, true, true, true, true, true, true, true, true, true, false, false, false, false, false, false, false, false, false, false, false, false, false, false, false, false, false, false, false, false] rfl rfl (any_of HT_.out (by kernel_rfl)) (fun _ _ _ h => h) (Or.inl ⟨by rfl, ?_⟩) ?_ ?_
                      rotate_left
                      · intro w'
                        go_simp
                        with_reducible rfl
                      rotate_left
                      · simp only [Act.put, List.setIfInBounds_toArray, List.set_cons_zero, List.set_cons_succ, i64_w, i32_w]
                        rfl
                      refine pure_ (i := 21) (N := some 56) (v := ?_) (a' := ?_) #[true, true, true, true, true, true, true, true, true, true, true, true, true, true, true, true, true, true, true, true, true, true, false, false, false, false, false, false, false, false, false, false, false, false, false, false, false, false, false, false, false] rfl rfl (any_of HT_.out (by kernel_rfl)) (fun _ _ _ h => h) (Or.inl ⟨by rfl, ?_⟩) ?_ ?_
                      rotate_left
                      · intro w'
                        go_simp
                        with_reducible rfl
                      rotate_left
                      · simp only [Act.put, List.setIfInBounds_toArray, List.set_cons_zero, List.set_cons_succ, i64_w, i32_w]
                        rfl
                      refine pure_ (i := 22) (N := some 57) (v := ?_) (a' := ?_) #[true, true, true, true, true, true, true, true, true, true, true, true, true, true, true, true, true, true, true, true, true, true, true, false, false, false, false, false, false, false, false, false, false, false, false, false, false, false, false, false, false] rfl rfl (any_of HT_.out (by kernel_rfl)) (fun _ _ _ h => h) (Or.inl ⟨by rfl, ?_⟩) ?_ ?_
                      rotate_left
                      · intro w'
                        go_simp
                        with_reducible rfl
                      rotate_left
                      · simp only [Act.put, List.setIfInBounds_toArray, List.set_cons_zero, List.set_cons_succ, i64_w, i32_w]
                        rfl
                      refine pure_ (i := 23) (N := some 58) (v := ?_) (a' := ?_) #[true, true, true, true, true, true, true, true, true, true, true, true, true, true, true, true, true, true, true, true, true, true, true, true, false, false, false, false, false, false, false, false, false, false, false, false, false, false, false, false, false] rfl rfl (any_of HT_.out (by kernel_rfl)) (fun _ _ _ h => h) (Or.inl ⟨by rfl, ?_⟩) ?_ ?_
                      rotate_left
                      · intro w'
                        go_simp
                        with_reducible rfl
                      rotate_left
                      · simp only [Act.put, List.setIfInBounds_toArray, List.set_cons_zero, List.set_cons_succ, i64_w, i32_w]
                        rfl
                      refine pure_ (i := 24) (N := some 59) (v := ?_) (a' := ?_) #[true, true, true, true, true, true, true, true, true, true, true, true, true, true, true, true, true, true, true, true, true, true, true, true, true, false, false, false, false, false, false, false, false, false, false, false, false, false, false, false, false] rfl rfl (any_of HT_.out (by kernel_rfl)) (fun _ _ _ h => h) (Or.inl ⟨by rfl, ?_⟩) ?_ ?_
                      rotate_left
                      · intro w'
                        go_simp
                        with_reducible rfl
                      rotate_left
                      · simp only [Act.put, List.setIfInBounds_toArray, List.set_cons_zero, List.set_cons_succ, i64_w, i32_w]
                        rfl
                      refine pure_ (i := 25) (N := some 60) (v := ?_) (a' := ?_) #[true, true, true, true, true, true, true, true, true, true, true, true, true, true, true, true, true, true, true, true, true, true, true, true, true, true, false, false, false, false, false, false, false, false, false, false, false, false, false, false, false] rfl rfl (any_of HT_.out (by kernel_rfl)) (fun _ _ _ h => h) (Or.inl ⟨by rfl, ?_⟩) ?_ ?_
                      rotate_left
                      · intro w'
                        go_simp
                        with_reducible rfl
                      rotate_left
                      · simp only [Act.put, List.setIfInBounds_toArray, List.set_cons_zero, List.set_cons_succ, i64_w, i32_w]
                        rfl
                      refine pure_ (i := 26) (N := some 61) (v := ?_) (a' := ?_) #[true, true, true, true, true, true, true, true, true, true, true, true, true, true, true, true, true, true, true, true, true, true, true, true, true, true, true, false, false, false, false, false, false, false, false, false, false, false, false, false, false] rfl rfl (any_of HT_.out (by kernel_rfl)) (fun _ _ _ h => h) (Or.inl ⟨by rfl, ?_⟩) ?_ ?_
                      rotate_left
                      · intro w'
                        go_simp
                        with_reducible rfl
                      rotate_left
                      · simp only [Act.put, List.setIfInBounds_toArray, List.set_cons_zero, List.set_cons_succ, i64_w, i32_w]
                        rfl
                      refine pure_ (i := 27) (N := some 62) (v := ?_) (a' := ?_) #[true, true, true, true, true, true, true, true, true, true, true, true, true, true, true, true, true, true, true, true, true, true, true, true, true, true, true, true, false, false, false, false, false, false, false, false, false, false, false, false, false] rfl rfl (any_of HT_.out (by kernel_rfl)) (fun _ _ _ h => h) (Or.inl ⟨by rfl, ?_⟩) ?_ ?_
                      rotate_left
                      · intro w'
                        go_simp
                        with_reducible rfl
                      rotate_left
                      · simp only [Act.put, List.setIfInBounds_toArray, List.set_cons_zero, List.set_cons_succ, i64_w, i32_w]
                        rfl
                      refine pure_ (i := 28) (N := some 63) (v := ?_) (a' := ?_) #[true, true, true, true, true, true, true, true, true, true, true, true, true, true, true, true, true, true, true, true, true, true, true, true, true, true, true, true, true, false, false, false, false, false, false, false, false, false, false, false, false] rfl rfl (any_of HT_.out (by kernel_rfl)) (fun _ _ _ h => h) (Or.inl ⟨by rfl, ?_⟩) ?_ ?_
                      rotate_left
                      · intro w'
                        go_simp
                        with_reducible rfl
                      rotate_left
                      · simp only [Act.put, List.setIfInBounds_toArray, List.set_cons_zero, List.set_cons_succ, i64_w, i32_w]
                        rfl
                      refine pure_ (i := 29) (N := some 64) (v := ?_) (a' := ?_) #[true, true, true, true, true, true, true, true, true, true, true, true, true, true, true, true, true, true, true, true, true, true, true, true, true, true, true, true, true, true, false, false, false, false, false, false, false, false, false, false, false] rfl rfl (any_of HT_.out (by kernel_rfl)) (fun _ _ _ h => h) (Or.inl ⟨by rfl, ?_⟩) ?_ ?_
                      rotate_left
                      · intro w'
                        go_simp
                        with_reducible rfl
                      rotate_left
                      · simp only [Act.put, List.setIfInBounds_toArray, List.set_cons_zero, List.set_cons_succ, i64_w, i32_w]
                        rfl
                      refine pure_ (i := 30) (N := some 65) (v := ?_) (a' := ?_) #[true, true, true, true, true, true, true, true, true, true, true, true, true, true, true, true, true, true, true, true, true, true, true, true, true, true, true, true, true, true, true, false, false, false, false, false, false, false, false, false, false] rfl rfl (any_of HT_.out (by kernel_rfl)) (fun _ _ _ h => h) (Or.inl ⟨by rfl, ?_⟩) ?_ ?_
                      rotate_left
                      · intro w'
                        go_simp
                        with_reducible rfl
                      rotate_left
                      · simp only [Act.put, List.setIfInBounds_toArray, List.set_cons_zero, List.set_cons_succ, i64_w, i32_w]
                        rfl
                      refine pure_ (i := 31) (N := some 66) (v := ?_) (a' := ?_) #[true, true, true, true, true, true, true, true, true, true, true, true, true, true, true, true, true, true, true, true, true, true, true, true, true, true, true, true, true, true, true, true, false, false, false, false, false, false, false, false, false] rfl rfl (any_of HT_.out (by kernel_rfl)) (fun _ _ _ h => h) (Or.inl ⟨by rfl, ?_⟩) ?_ ?_
                      rotate_left
                      · intro w'
                        go_simp
                        with_reducible rfl
                      rotate_left
                      · simp only [Act.put, List.setIfInBounds_toArray, List.set_cons_zero, List.set_cons_succ, i64_w, i32_w]
                        rfl
                      refine pure_ (i := 32) (N := some 67) (v := ?_) (a' := ?_) #[true, true, true, true, true, true, true, true, true, true, true, true, true, true, true, true, true, true, true, true, true, true, true, true, true, true, true, true, true, true, true, true, true, false, false, false, false, false, false, false, false] rfl rfl (any_of HT_.out (by kernel_rfl)) (fun _ _ _ h => h) (Or.inl ⟨by rfl, ?_⟩) ?_ ?_
                      rotate_left
                      · intro w'
                        go_simp
                        with_reducible rfl
                      rotate_left
                      · simp only [Act.put, List.setIfInBounds_toArray, List.set_cons_zero, List.set_cons_succ, i64_w, i32_w]
                        rfl
                      refine pure_ (i := 33) (N := some 68) (v := ?_) (a' := ?_) #[true, true, true, true, true, true, true, true, true, true, true, true, true, true, true, true, true, true, true, true, true, true, true, true, true, true, true, true, true, true, true, true, true, true, false, false, false, false, false, false, false] rfl rfl (any_of HT_.out (by kernel_rfl)) (fun _ _ _ h => h) (Or.inl ⟨by rfl, ?_⟩) ?_ ?_
                      rotate_left
                      · intro w'
                        go_simp
                        with_reducible rfl
                      rotate_left
                      · simp only [Act.put, List.setIfInBounds_toArray, List.set_cons_zero, List.set_cons_succ, i64_w, i32_w]
                        rfl
                      refine pure_ (i := 34) (N := some 69) (v := ?_) (a' := ?_) #[true, true, true, true, true, true, true, true, true, true, true, true, true, true, true, true, true, true, true, true, true, true, true, true, true, true, true, true, true, true, true, true, true, true, true, false, false, false, false, false, false] rfl rfl (any_of HT_.out (by kernel_rfl)) (fun _ _ _ h => h) (Or.inl ⟨by rfl, ?_⟩) ?_ ?_
                      rotate_left
                      · intro w'
                        go_simp
                        with_reducible rfl
                      rotate_left
                      · simp only [Act.put, List.setIfInBounds_toArray, List.set_cons_zero, List.set_cons_succ, i64_w, i32_w]
                        rfl
                      refine pure_ (i := 36) (N := some 71) (v := ?_) (a' := ?_) #[true, true, true, true, true, true, true, true, true, true, true, true, true, true, true, true, true, true, true, true, true, true, true, true, true, true, true, true, true, true, true, true, true, true, true, false, true, false, false, false, false] rfl rfl (any_of HT_.out (by kernel_rfl)) (fun _ _ _ h => h) (Or.inl ⟨by rfl, ?_⟩) ?_ ?_
                      rotate_left
                      · intro w'
                        go_simp
                        with_reducible rfl
                      rotate_left
                      · simp only [Act.put, List.setIfInBounds_toArray, List.set_cons_zero, List.set_cons_succ, i64_w, i32_w]
                        rfl
                      refine pure_ (i := 37) (N := some 72) (v := ?_) (a' := ?_) #[true, true, true, true, true, true, true, true, true, true, true, true, true, true, true, true, true, true, true, true, true, true, true, true, true, true, true, true, true, true, true, true, true, true, true, false, true, true, false, false, false] rfl rfl (any_of HT_.out (by kernel_rfl)) (fun _ _ _ h => h) (Or.inl ⟨by rfl, ?_⟩) ?_ ?_
                      rotate_left
                      · intro w'
                        go_simp
                        with_reducible rfl
                      rotate_left
                      · simp only [Act.put, List.setIfInBounds_toArray, List.set_cons_zero, List.set_cons_succ, i64_w, i32_w]
                        rfl
                      refine one_ (i := 35) (N := some 70) #[true, true, true, true, true, true, true, true, true, true, true, true, true, true, true, true, true, true, true, true, true, true, true, true, true, true, true, true, true, true, true, true, true, true, true, true, true, true, false, false, false] rfl rfl (one_of HT_.out (by kernel_rfl)) (by decide) (fun K hK => ?_)
                      refine goes_ Try.func28 (by kernel_rfl) rfl #[.slice Ao19 y101.length co19, .int .i64 10, .int .i64 20] (by rfl) rfl rfl (by (try simp only [List.map_toArray, List.map_cons, List.map_nil]); first | done | rfl | (simp only [List.length_drop, List.length_take]; rfl)) ?_
                      with_reducible refine (tape_Window.calls _ _ y101 10 20 t113 _ ?side1 ?side2 A14.out).mono ?_
                      (case side1 => repeat (first | exact (Kd.R_reads' HO103.out).2.2 | (with_reducible refine Kd.C_alloc ?_ _) | (with_reducible refine Kd.C_drewN ?_ _) | (with_reducible refine Kd.C_drew ?_)))
                      (case side2 => exact (Kd.R_reads' HO103.out).2.1)
                      rintro e w26 ⟨v114, rfl, ho0, hb⟩
                      refine ⟨_, rfl, ?_⟩
                      have n0_ := Aside0.mk (Kd.R_elder' (by (with_reducible repeat (first | apply Kd.R_alloc | apply Kd.R_drewN | apply Kd.R_drew)); exact HO103.out) (Kd.R_base ho0) hb)
                      have n1_ := Aside0.mk (Kd.R_lower (Kd.R_new' ho0 (Kd.R_lt (by (with_reducible repeat (first | apply Kd.R_alloc | apply Kd.R_drewN | apply Kd.R_drew)); exact HO103.out))) (below_size (by repeat (first | (with_reducible first | exact HB.out | apply below_alloc | apply pw_below_drewN | apply below_drew1) | exact HB.out))))
                      have n2_ := Aside0.mk (Kd.C_below (by repeat (first | (with_reducible exact HR119.out) | (with_reducible refine Kd.C_alloc ?_ _) | (with_reducible refine Kd.C_drewN ?_ _) | (with_reducible refine Kd.C_drew ?_) | exact HR119.out)) hb)
                      have n3_ := Aside0.mk (below_step (by repeat (first | (with_reducible first | exact HB.out | apply below_alloc | apply pw_below_drewN | apply below_drew1) | exact HB.out)) hb)
                      clear HO103
                      clear HR119
                      clear HB
                      have HO103 := n0_
                      have HO115 := n1_
                      have HR119 := n2_
                      have HB := n3_
                      clear n0_ n1_ n2_ n3_
                      (try clear hb)
                      (try clear hb2)
                      (try clear hk)
                      (try clear hi)
                      (try clear ho0)
                      obtain ⟨Ao27, co27, eo27⟩ := Kd.R_slice HO115.out
                      (first | subst eo27 | (injection eo27 with f1_ f2_ f3_; have f4_ := f1_.symm; have f5_ := f3_.symm; clear f1_ f2_ f3_; subst f4_; subst f5_))
                      refine hK.out _ _ trivial (fun hHeld => ?_)
                      clear hK K
                      refine norm_ (a' := ?_) ?_ ?_
                      rotate_left
                      · show Act.put _ (some 70) _ = _
                        simp only [Act.put, List.setIfInBounds_toArray, List.set_cons_zero, List.set_cons_succ, i64_w, i32_w]
                        rfl
                      refine one_ (i := 38) (N := some 73) #[true, true, true, true, true, true, true, true, true, true, true, true, true, true, true, true, true, true, true, true, true, true, true, true, true, true, true, true, true, true, true, true, true, true, true, true, true, true, true, false, false] rfl rfl (one_of HT_.out (by kernel_rfl)) (by decide) (fun K hK => ?_)
                      refine goes_ Try.func26 (by kernel_rfl) rfl #[.slice Ao27 t113.length co27, .slice A25 y116.length c25] (by rfl) rfl rfl (by (try simp only [List.map_toArray, List.map_cons, List.map_nil]); first | done | rfl | (simp only [List.length_drop, List.length_take]; rfl)) ?_
                      with_reducible refine (contangoref17_Same.calls k _ _ t113 _ _ y116 t120 _ ?side1 ?side2 ?side3 ?side4 A16.out).mono ?_
                      (case side1 => repeat (first | exact (Kd.R_reads' HO115.out).2.2 | (with_reducible refine Kd.C_alloc ?_ _) | (with_reducible refine Kd.C_drewN ?_ _) | (with_reducible refine Kd.C_drew ?_)))
                      (case side2 => exact (Kd.R_reads' HO115.out).2.1)
                      (case side3 => repeat (first | exact (by repeat (first | (with_reducible exact HR119.out) | (with_reducible refine Kd.C_alloc ?_ _) | (with_reducible refine Kd.C_drewN ?_ _) | (with_reducible refine Kd.C_drew ?_) | exact HR119.out)) | (with_reducible refine Kd.C_alloc ?_ _) | (with_reducible refine Kd.C_drewN ?_ _) | (with_reducible refine Kd.C_drew ?_)))
                      (case side4 => exact HC119.out)
                      rintro e w' ⟨rfl, ⟨nd, rfl⟩⟩
                      refine ⟨_, rfl, ?_⟩
                      refine hK.out _ _ trivial (fun hHeld => ?_)
                      clear hK K
                      refine norm_ (a' := ?_) ?_ ?_
                      rotate_left
                      · show Act.put _ (some 73) _ = _
                        simp only [Act.put, List.setIfInBounds_toArray, List.set_cons_zero, List.set_cons_succ, i64_w, i32_w]
                        rfl
                      refine pure_ (i := 39) (N := some 74) (v := ?_) (a' := ?_) #[true, true, true, true, true, true, true, true, true, true, true, true, true, true, true, true, true, true, true, true, true, true, true, true, true, true, true, true, true, true, true, true, true, true, true, true, true, true, true, true, false] rfl rfl (any_of HT_.out (by kernel_rfl)) (fun _ _ _ h => h) (Or.inl ⟨by rfl, ?_⟩) ?_ ?_
                      rotate_left
                      · intro w'
                        go_simp
                        with_reducible rfl
                      rotate_left
                      · simp only [Act.put, List.setIfInBounds_toArray, List.set_cons_zero, List.set_cons_succ, i64_w, i32_w]
                        rfl
                      refine pure_ (i := 40) (N := some 0) (v := ?_) (a' := ?_) #[true, true, true, true, true, true, true, true, true, true, true, true, true, true, true, true, true, true, true, true, true, true, true, true, true, true, true, true, true, true, true, true, true, true, true, true, true, true, true, true, true] rfl rfl (any_of HT_.out (by kernel_rfl)) (fun _ _ _ h => h) (Or.inl ⟨by rfl, ?_⟩) ?_ ?_
                      rotate_left
                      · intro w'
                        go_simp
                        with_reducible rfl
                      rotate_left
                      · simp only [Act.put, List.setIfInBounds_toArray, List.set_cons_zero, List.set_cons_succ, i64_w, i32_w]
                        rfl
                      refine done_ (done_of HT_.out (by kernel_rfl)) ?_
                      try go_wp2
                      go_ret
                      exact ⟨by first | rfl | (simp [errW_none, errW_some] <;> rfl) | (simp [*, errW_none, errW_some] <;> rfl), by repeat (first | (with_reducible first | exact HB.out | apply below_alloc | apply pw_below_drewN | apply below_drew1) | exact HB.out)⟩
                    · rw [if_neg c15] at H
                      exact absurd H (by simp)
                  · replace c13 := Bool.eq_false_iff.mpr c13
                    subst c13
                    have H1 : (none) = some r := by rw [if_neg (show ¬ (false = true) by decide)] at H; exact H
                    clear H
                    have H := H1
                    clear H1
                    exact absurd H (by simp)
                · rw [if_neg c12] at H
                  have c12b0 : (t111 == 13) = false := beq_eq_false_iff_ne.mpr c12
                  have c12b1 : (t111 != 13) = true := bne_iff_ne.mpr c12
                  exact absurd H (by simp)
              · rw [if_neg c11] at H
                have c11b0 : (t110 == 10) = false := beq_eq_false_iff_ne.mpr c11
                have c11b1 : (t110 != 10) = true := bne_iff_ne.mpr c11
                exact absurd H (by simp)
            · rw [if_neg c10] at H
              have c10b0 : (t109 == 0) = false := beq_eq_false_iff_ne.mpr c10
              have c10b1 : (t109 != 0) = true := bne_iff_ne.mpr c10
              exact absurd H (by simp)
          · rw [if_neg c9] at H
            have c9b0 : (t108 == 12) = false := beq_eq_false_iff_ne.mpr c9
            have c9b1 : (t108 != 12) = true := bne_iff_ne.mpr c9
            exact absurd H (by simp)
        · rw [if_neg c8] at H
          have c8b0 : (t107 == 0) = false := beq_eq_false_iff_ne.mpr c8
          have c8b1 : (t107 != 0) = true := bne_iff_ne.mpr c8
          exact absurd H (by simp)
      · rw [if_neg c7] at H
        have c7b0 : (t106 == 10) = false := beq_eq_false_iff_ne.mpr c7
        have c7b1 : (t106 != 10) = true := bne_iff_ne.mpr c7
        exact absurd H (by simp)
    · rw [if_neg c6] at H
      have c6b0 : (t105 == 0) = false := beq_eq_false_iff_ne.mpr c6
      have c6b1 : (t105 != 0) = true := bne_iff_ne.mpr c6
      exact absurd H (by simp)
  · rw [if_neg c5] at H
    have c5b0 : (t104 == 11) = false := beq_eq_false_iff_ne.mpr c5
    have c5b1 : (t104 != 11) = true := bne_iff_ne.mpr c5
    exact absurd H (by simp)
end Go.Proofs.Ytocndpddghefhaa.X
end
