/- For JuniorOnce: contracts, and facts on lists and numbers, that it uses (part 1). -/
import Derived.ArgAppend
import Derived.Below
import Derived.BigQuiet
import Derived.Deep.AppendLies
import Derived.Deep.CutBlock
import Derived.Deep.DeepCutAuto
import Derived.Deep.Draws
import Derived.Deep.LoopGhost
import Derived.Deep.OwnRows
import Derived.Deep.QuietTactic
import Derived.Deep.RegionHeld3
import Derived.KernelRfl
import Derived.Laws.BitsLemmas
import Derived.Laws.BytesArg
import Derived.Laws.IdiomCopy
import Derived.Laws.MakeOwn
import Derived.Laws.OwnMore
import Derived.Laws.Rows
import Derived.Laws.Slices
import Derived.Lib.AppendStr
import Derived.Lib.ConvBytes
import Derived.Maps.AppendAt
import Derived.Maps.OwnOps
import Derived.Maps.OwnSet
import Derived.OrdersHeld
import Derived.OwnWalk
import Derived.RowKit
import Derived.RowKit3
import Derived.StringKeys
import Derived.Tactics
import Derived.Test.YtokijibpdnepiaaJuniorOncec0
import Derived.Test.YtokijibpdnepiaaProg
import Derived.WalkKit
import Derived.WideLaws
section
namespace Go.Proofs.Ytokijibpdnepiaa.Fix
theorem bl_gtr : ∀ a b : List UInt8, (!(Op.bytesLess a b || a == b)) = Op.bytesLess b a
  | [], [] => rfl
  | [], y :: b => by simp [Op.bytesLess]
  | x :: a, [] => by simp [Op.bytesLess]
  | x :: a, y :: b => by
    have ih := bl_gtr a b
    simp only [Op.bytesLess]
    by_cases h : x = y
    · subst h
      have : ¬ x < x := by simp
      simp only [this, decide_false, Bool.false_or, beq_self_eq_true, Bool.true_and, ← ih]
      congr 1
      simp
    · have h1 : (x == y) = false := by simpa using h
      have h2 : (y == x) = false := by simpa using fun e => h e.symm
      have h3 : (x :: a == y :: b) = false := by simp [h]
      rw [h1, h2, h3]
      simp only [Bool.false_and, Bool.or_false]
      have : decide (y < x) = !decide (x < y) := by
        rw [Bool.eq_iff_iff]
        simp only [decide_eq_true_eq, Bool.not_eq_true', decide_eq_false_iff_not, UInt8.lt_iff_toNat_lt]
        have : x.toNat ≠ y.toNat := fun e => h (UInt8.toNat_inj.1 e)
        omega
      rw [this]
@[go_sem high] theorem x_string_gtr (t : TypeId) (a b : ByteArray) : binOp .gtr t (.string a) (.string b) = pure (.bool (Op.bytesLess b.toList a.toList)) := by
  rw [← bl_gtr]; simp [binOp, Op.stringOp]
@[go_sem high] theorem x_string_leq (t : TypeId) (a b : ByteArray) : binOp .leq t (.string a) (.string b) = pure (.bool (!(Op.bytesLess b.toList a.toList))) := by
  rw [← bl_gtr, Bool.not_not]; simp [binOp, Op.stringOp]
@[go_sem high] theorem x_string_geq (t : TypeId) (a b : ByteArray) : binOp .geq t (.string a) (.string b) = pure (.bool (!(Op.bytesLess a.toList b.toList))) := by
  simp [binOp, Op.stringOp]
end Go.Proofs.Ytokijibpdnepiaa.Fix
end
section
namespace Go.Proofs.Ytokijibpdnepiaa.X
open Go.RowKit Go.Proofs.YtokijibpdnepiaaW.PrintWords Go.Proofs.YtokijibpdnepiaaW.PrintLast Go.Proofs.YtokijibpdnepiaaW.PrintMore
attribute [local go_sem] max2_int min2_int max_two min_two max_three min_three max_four min_four
set_option linter.unusedVariables false
set_option linter.unusedSimpArgs false
def errW : Option Int → Value
  | none => .nilIface
  | some c => .iface 0 (.int .i64 c)
theorem errW_none : errW none = .nilIface := rfl
theorem errW_some (c : Int) : errW (some c) = .iface 0 (.int .i64 c) := rfl
theorem info3 : (Try.prog.info? 3).map (fun i => (i.zero, i.size, i.bytes)) = some (some (.int .i64 0), 1, 8) := by kernel_rfl
theorem info4 : (Try.prog.info? 4).map (fun i => (i.zero, i.size, i.bytes)) = some (some (.bool false), 1, 1) := by kernel_rfl
structure S33 where
  f0 : ByteArray
  f1 : Int
  f2 : Int
  f3 : Int
def z33 : S33 := ⟨(⟨#[]⟩ : ByteArray), (0 : Int), (0 : Int), (0 : Int)⟩
def k33 : Kd S33 := Kd.iso (Kd.pair Kd.string (Kd.pair (Kd.int .i64) (Kd.pair (Kd.int .i64) (Kd.int .i64)))) (fun x : S33 => (x.f0, x.f1, x.f2, x.f3))
theorem k33_open {w : World} {x : S33} {cs : List Value} (h : k33.K w x cs) : cs = [.string x.f0, .int .i64 x.f1, .int .i64 x.f2, .int .i64 x.f3] := by
  obtain ⟨_, _, rfl, rfl, ⟨_, _, rfl, rfl, ⟨_, _, rfl, rfl, rfl⟩⟩⟩ := h
  exact rfl
theorem k33_mkM (w : World) (base : Nat) (ok : Nat → Prop) (x : S33)  : k33.M w base ok x [.string x.f0, .int .i64 x.f1, .int .i64 x.f2, .int .i64 x.f3] := ⟨[.string x.f0], [.int .i64 x.f1, .int .i64 x.f2, .int .i64 x.f3], rfl, rfl, ⟨[.int .i64 x.f1], [.int .i64 x.f2, .int .i64 x.f3], rfl, rfl, ⟨[.int .i64 x.f2], [.int .i64 x.f3], rfl, rfl, rfl⟩⟩⟩
def rd_T33 (xs : List S33) (i : Int) : S33 := xs.getD i.toNat z33
theorem at_T33 {w : World} {A : Option Addr} {n : Nat} {xs : List S33} (h : Kd.C k33 w A n xs) (i : Int) (h0 : 0 ≤ i) (h1 : i < n) : ∃ ad , A = some ad ∧ w.cell? (ad.add (i.toNat * 4)) = some (.string (rd_T33 xs i).f0) ∧ w.cell? ⟨(ad.add (i.toNat * 4)).block, (ad.add (i.toNat * 4)).off + 1, none⟩ = some (.int .i64 (rd_T33 xs i).f1) ∧ w.cell? ⟨(ad.add (i.toNat * 4)).block, (ad.add (i.toNat * 4)).off + 2, none⟩ = some (.int .i64 (rd_T33 xs i).f2) ∧ w.cell? ⟨(ad.add (i.toNat * 4)).block, (ad.add (i.toNat * 4)).off + 3, none⟩ = some (.int .i64 (rd_T33 xs i).f3) := by
  obtain ⟨ad, c, e, _, hK, hc0⟩ := Kd.C_get h z33 i h0 h1
  have hc : ∀ j u, c[j]? = some u → w.cell? (ad.add (i.toNat * 4 + j)) = some u := hc0
  obtain rfl := k33_open hK
  exact ⟨ad, e, hc 0 _ rfl, by rw [← add_field _ _ 1 (by omega)]; exact hc 1 _ rfl, by rw [← add_field _ _ 2 (by omega)]; exact hc 2 _ rfl, by rw [← add_field _ _ 3 (by omega)]; exact hc 3 _ rfl⟩
structure S52 where
  f0 : ByteArray
  f1 : Int
  f2 : Int
def z52 : S52 := ⟨(⟨#[]⟩ : ByteArray), (0 : Int), (0 : Int)⟩
def k52 : Kd S52 := Kd.iso (Kd.pair Kd.string (Kd.pair (Kd.int .i64) (Kd.int .i64))) (fun x : S52 => (x.f0, x.f1, x.f2))
theorem k52_open {w : World} {x : S52} {cs : List Value} (h : k52.K w x cs) : cs = [.string x.f0, .int .i64 x.f1, .int .i64 x.f2] := by
  obtain ⟨_, _, rfl, rfl, ⟨_, _, rfl, rfl, rfl⟩⟩ := h
  exact rfl
theorem k52_mkM (w : World) (base : Nat) (ok : Nat → Prop) (x : S52)  : k52.M w base ok x [.string x.f0, .int .i64 x.f1, .int .i64 x.f2] := ⟨[.string x.f0], [.int .i64 x.f1, .int .i64 x.f2], rfl, rfl, ⟨[.int .i64 x.f1], [.int .i64 x.f2], rfl, rfl, rfl⟩⟩
def rd_T52 (xs : List S52) (i : Int) : S52 := xs.getD i.toNat z52
theorem at_T52 {w : World} {A : Option Addr} {n : Nat} {xs : List S52} (h : Kd.C k52 w A n xs) (i : Int) (h0 : 0 ≤ i) (h1 : i < n) : ∃ ad , A = some ad ∧ w.cell? (ad.add (i.toNat * 3)) = some (.string (rd_T52 xs i).f0) ∧ w.cell? ⟨(ad.add (i.toNat * 3)).block, (ad.add (i.toNat * 3)).off + 1, none⟩ = some (.int .i64 (rd_T52 xs i).f1) ∧ w.cell? ⟨(ad.add (i.toNat * 3)).block, (ad.add (i.toNat * 3)).off + 2, none⟩ = some (.int .i64 (rd_T52 xs i).f2) := by
  obtain ⟨ad, c, e, _, hK, hc0⟩ := Kd.C_get h z52 i h0 h1
  have hc : ∀ j u, c[j]? = some u → w.cell? (ad.add (i.toNat * 3 + j)) = some u := hc0
  obtain rfl := k52_open hK
  exact ⟨ad, e, hc 0 _ rfl, by rw [← add_field _ _ 1 (by omega)]; exact hc 1 _ rfl, by rw [← add_field _ _ 2 (by omega)]; exact hc 2 _ rfl⟩
structure S56 where
  f0 : (List ByteArray)
  f1 : (List Int)
  f2 : (List S33)
  f3 : (List S52)
  f4 : Int
structure S129 where
  f0 : ByteArray
  f1 : Int
  f2 : Int
  f3 : Int
structure S131 where
  f0 : S129
  f1 : Int
  f2 : Int
structure S99 where
  f0 : Int
  f1 : Int
  f2 : ByteArray
  f3 : Int
end Go.Proofs.Ytokijibpdnepiaa.X
end
section
namespace Go.Proofs.Ytokijibpdnepiaa.X
open Go.RowKit Go.Proofs.YtokijibpdnepiaaW.PrintWords Go.Proofs.YtokijibpdnepiaaW.PrintLast Go.Proofs.YtokijibpdnepiaaW.PrintMore
attribute [local go_sem] max2_int min2_int max_two min_two max_three min_three max_four min_four
set_option linter.unusedVariables false
set_option linter.unusedSimpArgs false
def contangoref46_Ints.l0 : Nat → List Int → List Int → Int → Option (Bool)
  | 0, _, _, _ => none
  | k + 1, x0, x1, x5 => if x5 < (x0.length : Int) then (if 0 ≤ x5 then (if x5 < (x1.length : Int) then (if (rd x0 x5) = (rd x1 x5) then (contangoref46_Ints.l0 k x0 x1 (wrap64 (x5 + 1))) else (some false)) else (none)) else (none)) else (some true)
def contangoref46_Ints.f (k : Nat) (l0 : List Int) (l1 : List Int) : Option (Bool) := if (l0.length : Int) = (l1.length : Int) then (contangoref46_Ints.l0 k l0 l1 0) else (some false)
theorem contangoref46_Ints.mono_l : ∀ k, (∀ y0 y1 y2, LeO (contangoref46_Ints.l0 k y0 y1 y2) (contangoref46_Ints.l0 (k + 1) y0 y1 y2))
  | 0 => fun _ _ _ r h => by simp [contangoref46_Ints.l0] at h
  | k + 1 => by
    have ih0 := contangoref46_Ints.mono_l k
    · intro y0 y1 y2
      unfold contangoref46_Ints.l0
      repeat' first
      | (with_reducible exact ih0 _ _ _)
      | (with_reducible exact LeO.refl _)
      | (with_reducible exact LeO.none _)
      | (with_reducible refine LeO.ite ?_ ?_)
      | (with_reducible refine LeO.bind ?_ (fun _ => ?_))
      | exact ih0 _ _ _
      | exact LeO.none _
      | refine LeO.ite ?_ ?_
      | refine LeO.bind ?_ (fun _ => ?_)
theorem contangoref46_Ints.mono : ∀ a0 a1 k, LeO (contangoref46_Ints.f k a0 a1) (contangoref46_Ints.f (k + 1) a0 a1) := by
  intro a0 a1 k
  have ih0 := contangoref46_Ints.mono_l k
  unfold contangoref46_Ints.f
  repeat' first
      | (with_reducible exact ih0 _ _ _)
      | (with_reducible exact LeO.refl _)
      | (with_reducible exact LeO.none _)
      | (with_reducible refine LeO.ite ?_ ?_)
      | (with_reducible refine LeO.bind ?_ (fun _ => ?_))
      | exact ih0 _ _ _
      | exact LeO.none _
      | refine LeO.ite ?_ ?_
      | refine LeO.bind ?_ (fun _ => ?_)
set_option maxHeartbeats 8000000 in
set_option maxRecDepth 100000 in
theorem contangoref46_Ints.calls (k : Nat) (A0 : Option Addr) (c0 : Nat) (l0 : List Int) (A1 : Option Addr) (c1 : Nat) (l1 : List Int) (r : Bool) (w : World) (hr0 : Kd.C (Kd.int .i64) w A0 l0.length l0) (hc0 : l0.length ≤ c0) (hr1 : Kd.C (Kd.int .i64) w A1 l1.length l1) (hc1 : l1.length ≤ c1) (h : contangoref46_Ints.f k l0 l1 = some r) :
    Calls Try.prog 34 #[.slice A0 l0.length c0, .slice A1 l1.length c1] w fun e w' => e = .returned (.bool r) ∧ Drawn0 w w' := by
  have HR0 := Aside0.mk hr0
  have HC0 := Aside0.mk hc0
  clear hr0 hc0
  have HR1 := Aside0.mk hr1
  have HC1 := Aside0.mk hc1
  clear hr1 hc1
  have H : (if (l0.length : Int) = (l1.length : Int) then (contangoref46_Ints.l0 k l0 l1 0) else (some false)) = some r := h
  clear h
  by_cases c3 : (l0.length : Int) = (l1.length : Int)
  · rw [if_pos c3] at H
    have c3b0 : ((l0.length : Int) == (l1.length : Int)) = true := beq_iff_eq.mpr c3
    have c3b1 : ((l0.length : Int) != (l1.length : Int)) = false := bne_eq_false_iff_eq.mpr c3
    have c3b2 : (l0.length == l1.length) = true := by first | simpa using c3 | (simp at c3 ⊢; omega)
    clear c3
    have H' := Aside0.mk H
    clear H
    go_enter Try.func34, Try.ntmps34
    go_wp2
    repeat (go_quiet (fail); try go_wp2)
    go_loopg [5] k (fun kq v5 w' => ∃ (x5_1 : Int), v5 = .int .i64 x5_1 ∧ Aside0 (contangoref46_Ints.l0 kq l0 l1 x5_1 = some r) ∧ Aside0 (kq ≤ k) ∧ Drawn0 w w')
    case atStart => exact ⟨(0), (by first | rfl | (simp; done) | (simp [*]; done)), H', ⟨Nat.le_refl _⟩, by repeat (first | exact Drawn0.refl _ | apply Drawn0.step)⟩
    case round =>
      clear H'
      try clear c1
      try clear p2
      try clear c3
      try clear c3b0
      try clear c3b1
      try clear c3b2
      obtain ⟨x5_1, rfl, HA, HK1, ⟨m1, rfl⟩⟩ := hrel
      cases gk with
      | zero => exact absurd HA.out (by simp [contangoref46_Ints.l0])
      | succ k1 =>
        have H := HA.out
        clear HA
        simp only [contangoref46_Ints.l0] at H
        by_cases c4 : x5_1 < (l0.length : Int)
        · rw [if_pos c4] at H
          have c4b0 : decide (x5_1 < (l0.length : Int)) = true := decide_eq_true c4
          clear c4
          by_cases c5 : 0 ≤ x5_1
          · rw [if_pos c5] at H
            have c5b0 : decide (0 ≤ x5_1) = true := decide_eq_true c5
            clear c5
            by_cases c6 : x5_1 < (l1.length : Int)
            · rw [if_pos c6] at H
              have c6b0 : decide (x5_1 < (l1.length : Int)) = true := decide_eq_true c6
              clear c6
              by_cases c7 : (rd l0 x5_1) = (rd l1 x5_1)
              · rw [if_pos c7] at H
                have c7b0 : ((rd l0 x5_1) == (rd l1 x5_1)) = true := beq_iff_eq.mpr c7
                have c7b1 : ((rd l0 x5_1) != (rd l1 x5_1)) = false := bne_eq_false_iff_eq.mpr c7
                clear c7
                have H' := Aside0.mk H
                clear H
                have p101 : 0 ≤ (x5_1 : Int) := of_decide_eq_true (by first | (with_reducible assumption) | assumption)
                have q101 : x5_1 < (l0.length : Int) := of_decide_eq_true (by first | (with_reducible assumption) | assumption)
                obtain ⟨ad101, e101, hx101_0⟩ := Kd.at_int HR0.out x5_1 p101 q101
                cases e101
                replace p101 := eq_true p101
                replace q101 := eq_true q101
                have p102 : 0 ≤ (x5_1 : Int) := of_decide_eq_true (by first | (with_reducible assumption) | assumption)
                have q102 : x5_1 < (l1.length : Int) := of_decide_eq_true (by first | (with_reducible assumption) | assumption)
                obtain ⟨ad102, e102, hx102_0⟩ := Kd.at_int HR1.out x5_1 p102 q102
                cases e102
                replace p102 := eq_true p102
                replace q102 := eq_true q102
                go_wp2
                repeat (go_quiet (fail); try go_wp2)
                go_roundg k1
                case measure => have := HK1.out; omega
                case rel => exact ⟨(wrap64 (x5_1 + 1)), (by first | rfl | (simp; done) | (simp [*]; done)), H', ⟨by have := HK1.out; omega⟩, by repeat (first | exact Drawn0.refl _ | apply Drawn0.step)⟩
              · rw [if_neg c7] at H
                have c7b0 : ((rd l0 x5_1) == (rd l1 x5_1)) = false := beq_eq_false_iff_ne.mpr c7
                have c7b1 : ((rd l0 x5_1) != (rd l1 x5_1)) = true := bne_iff_ne.mpr c7
                obtain rfl := Option.some.inj H
                have p101 : 0 ≤ (x5_1 : Int) := of_decide_eq_true (by first | (with_reducible assumption) | assumption)
                have q101 : x5_1 < (l0.length : Int) := of_decide_eq_true (by first | (with_reducible assumption) | assumption)
                obtain ⟨ad101, e101, hx101_0⟩ := Kd.at_int HR0.out x5_1 p101 q101
                cases e101
                replace p101 := eq_true p101
                replace q101 := eq_true q101
                have p102 : 0 ≤ (x5_1 : Int) := of_decide_eq_true (by first | (with_reducible assumption) | assumption)
                have q102 : x5_1 < (l1.length : Int) := of_decide_eq_true (by first | (with_reducible assumption) | assumption)
                obtain ⟨ad102, e102, hx102_0⟩ := Kd.at_int HR1.out x5_1 p102 q102
                cases e102
                replace p102 := eq_true p102
                replace q102 := eq_true q102
                go_wp2
                repeat (go_quiet (fail); try go_wp2)
                go_ret
                exact ⟨by first | rfl | (simp; done) | (simp [*]; done), by repeat (first | exact Drawn0.refl _ | apply Drawn0.step)⟩
            · rw [if_neg c6] at H
              exact absurd H (by simp)
          · rw [if_neg c5] at H
            exact absurd H (by simp)
        · rw [if_neg c4] at H
          have c4b0 : decide (x5_1 < (l0.length : Int)) = false := decide_eq_false c4
          clear c4
          obtain rfl := Option.some.inj H
          go_wp2
          repeat (go_quiet (fail); try go_wp2)
          go_ret
          exact ⟨by first | rfl | (simp; done) | (simp [*]; done), by repeat (first | exact Drawn0.refl _ | apply Drawn0.step)⟩
  · rw [if_neg c3] at H
    have c3b0 : ((l0.length : Int) == (l1.length : Int)) = false := beq_eq_false_iff_ne.mpr c3
    have c3b1 : ((l0.length : Int) != (l1.length : Int)) = true := bne_iff_ne.mpr c3
    have c3b2 : (l0.length == l1.length) = false := by first | simpa using c3 | (simp at c3 ⊢; omega)
    obtain rfl := Option.some.inj H
    go_enter Try.func34, Try.ntmps34
    go_wp2
    repeat (go_quiet (fail); try go_wp2)
    go_ret
    exact ⟨by first | rfl | (simp; done) | (simp [*]; done), by repeat (first | exact Drawn0.refl _ | apply Drawn0.step)⟩
end Go.Proofs.Ytokijibpdnepiaa.X
end
section
namespace Go.Proofs.Ytokijibpdnepiaa.X
open Go.RowKit Go.Proofs.YtokijibpdnepiaaW.PrintWords
def KT (T : TypeId) (W W' : World) : Prop := ∀ (g : Nat) (cs : Array Value), W.heap[g]? = some (.cells cs T (0, 0)) → W'.heap[g]? = some (.cells cs T (0, 0))
theorem KT.refl (T : TypeId) (W : World) : KT T W W := fun _ _ h => h
theorem KT.trans {T : TypeId} {a b c : World} (h : KT T a b) (k : KT T b c) : KT T a c := fun g cs hg => k g cs (h g cs hg)
theorem KT.alloc {T : TypeId} {a b : World} (h : KT T a b) (o : Obj) : KT T a (b.alloc o) := fun g cs hg => blk_alloc (h g cs hg) o
theorem KT.drew {T : TypeId} {a b : World} (h : KT T a b) : KT T a b.drew := h
theorem KT.drewN {T : TypeId} {a b : World} (h : KT T a b) (n : Nat) : KT T a (b.drewN n) := h
theorem KT.setCell {T T' : TypeId} {a b : World} (h : KT T a b) {p : Addr} {cs' : Array Value} (hb : b.heap[p.block]? = some (.cells cs' T' (0, 0))) (hne : T' ≠ T) (u : Value) : KT T a (b.setCell p u) := fun g cs hg => by
  have h1 := h g cs hg
  refine blk_far h1 (fun e => ?_) u
  rw [e, hb] at h1
  injection h1 with h2
  injection h2 with _ h3 _
  exact hne h3
theorem KT.below {T : TypeId} {a b c : World} (h : KT T a b) (hb : Below b.heap.size b c) : KT T a c := fun g cs hg => blk_below (h g cs hg) hb
theorem KT.grown {T T' : TypeId} {a b c : World} (h : KT T a b) {row : Option Nat} (hg : b.grownBy c row) (hr : ∀ k, row = some k → ∃ cs', b.heap[k]? = some (.cells cs' T' (0, 0))) (hne : T' ≠ T) : KT T a c := fun g cs hh => by
  have h1 := h g cs hh
  refine blk_grown h1 hg (fun e => ?_)
  obtain ⟨cs', h2⟩ := hr g e.symm
  rw [h2] at h1
  injection h1 with h3
  injection h3 with _ h4 _
  exact hne h4
theorem blk_one {w : World} {g : Nat} {t : TypeId} {v : Value} (h : w.heap[g]? = some (.cells #[v] t (0, 0))) : w.cell? ⟨g, 0, none⟩ = some v := blk_cell h 0
end Go.Proofs.Ytokijibpdnepiaa.X
end
section
namespace Go.Proofs.Ytokijibpdnepiaa.X
open Go.RowKit Go.Proofs.YtokijibpdnepiaaW.PrintWords Go.Proofs.YtokijibpdnepiaaW.PrintLast Go.Proofs.YtokijibpdnepiaaW.PrintMore
attribute [local go_sem] max2_int min2_int max_two min_two max_three min_three max_four min_four
set_option linter.unusedVariables false
set_option linter.unusedSimpArgs false
set_option maxHeartbeats 800000 in
set_option maxRecDepth 100000 in
theorem seeB_lt (a x : Int) (w : World) : Calls Try.prog 70 #[.int .i64 a, .int .i64 x] w fun e w' => e = .returned (.bool (decide (a < x))) ∧ w' = w := by
  go_enter Try.func70, Try.ntmps70
  go_wp2_with fail
  go_ret
  exact ⟨rfl, rfl⟩
set_option maxHeartbeats 800000 in
set_option maxRecDepth 100000 in
theorem seeB_none (b : Nat) (x a : Int) (w : World) (h : w.heap[b]? = some (.cells #[.int .i64 x, .bool false] 114 (0, 0))) :
    Calls Try.prog 65 #[.pointer (some ⟨b, 0, none⟩), .int .i64 a, .func (.func 70) #[] #[]] w fun e w' => (∃ r, e = .returned r) ∧ w' = (w.setCell ⟨b, 0, none⟩ (.int .i64 a)).setCell ⟨b, 1, none⟩ (.bool true) := by
  have hx0 : w.cell? ⟨b, 0, none⟩ = some (.int .i64 x) := blk_cell h 0
  have hx1 : w.cell? ⟨b, 1, none⟩ = some (.bool false) := blk_cell h 1
  have hf := fun q => blk_frozen h q
  have hs : (w.setCell ⟨b, 0, none⟩ (.int .i64 a)).frozen? ⟨b, 1, none⟩ = false := blk_frozen (blk_set h 0 _) 1
  skip
  clear h
  go_enter Try.func65, Try.ntmps65
  go_wp2_with fail
  refine ⟨rfl, .tuple #[], ?_, ⟨_, rfl⟩, rfl⟩
  simp [results, Try.results65, go_sem]
set_option maxHeartbeats 800000 in
set_option maxRecDepth 100000 in
theorem seeB_more (b : Nat) (x a : Int) (w : World) (h : w.heap[b]? = some (.cells #[.int .i64 x, .bool true] 114 (0, 0))) (hlt : a < x) :
    Calls Try.prog 65 #[.pointer (some ⟨b, 0, none⟩), .int .i64 a, .func (.func 70) #[] #[]] w fun e w' => (∃ r, e = .returned r) ∧ w' = (w.setCell ⟨b, 0, none⟩ (.int .i64 a)).setCell ⟨b, 1, none⟩ (.bool true) := by
  have hx0 : w.cell? ⟨b, 0, none⟩ = some (.int .i64 x) := blk_cell h 0
  have hx1 : w.cell? ⟨b, 1, none⟩ = some (.bool true) := blk_cell h 1
  have hf := fun q => blk_frozen h q
  have hs : (w.setCell ⟨b, 0, none⟩ (.int .i64 a)).frozen? ⟨b, 1, none⟩ = false := blk_frozen (blk_set h 0 _) 1
  have hd := decide_eq_true hlt
  clear h
  go_enter Try.func65, Try.ntmps65
  go_wp2_with (go_at_call 70; refine (seeB_lt _ _ _).mono ?_; rintro e w1 ⟨rfl, rfl⟩)
  refine ⟨rfl, .tuple #[], ?_, ⟨_, rfl⟩, rfl⟩
  simp [results, Try.results65, go_sem]
set_option maxHeartbeats 800000 in
set_option maxRecDepth 100000 in
theorem seeB_less (b : Nat) (x a : Int) (w : World) (h : w.heap[b]? = some (.cells #[.int .i64 x, .bool true] 114 (0, 0))) (hlt : ¬ a < x) :
    Calls Try.prog 65 #[.pointer (some ⟨b, 0, none⟩), .int .i64 a, .func (.func 70) #[] #[]] w fun e w' => (∃ r, e = .returned r) ∧ w' = w := by
  have hx0 : w.cell? ⟨b, 0, none⟩ = some (.int .i64 x) := blk_cell h 0
  have hx1 : w.cell? ⟨b, 1, none⟩ = some (.bool true) := blk_cell h 1
  have hf := fun q => blk_frozen h q
  have hs : (w.setCell ⟨b, 0, none⟩ (.int .i64 a)).frozen? ⟨b, 1, none⟩ = false := blk_frozen (blk_set h 0 _) 1
  have hd := decide_eq_false hlt
  clear h
  go_enter Try.func65, Try.ntmps65
  go_wp2_with (go_at_call 70; refine (seeB_lt _ _ _).mono ?_; rintro e w1 ⟨rfl, rfl⟩)
  refine ⟨rfl, .tuple #[], ?_, ⟨_, rfl⟩, rfl⟩
  simp [results, Try.results65, go_sem]
set_option maxHeartbeats 800000 in
set_option maxRecDepth 100000 in
theorem seeC_lt (a x : Int) (w : World) : Calls Try.prog 66 #[.int .i64 a, .int .i64 x] w fun e w' => e = .returned (.bool (decide (x < a))) ∧ w' = w := by
  go_enter Try.func66, Try.ntmps66
  go_wp2_with fail
  go_ret
  exact ⟨rfl, rfl⟩
set_option maxHeartbeats 800000 in
set_option maxRecDepth 100000 in
theorem seeC_none (b : Nat) (x a : Int) (w : World) (h : w.heap[b]? = some (.cells #[.int .i64 x, .bool false] 114 (0, 0))) :
    Calls Try.prog 65 #[.pointer (some ⟨b, 0, none⟩), .int .i64 a, .func (.func 66) #[] #[]] w fun e w' => (∃ r, e = .returned r) ∧ w' = (w.setCell ⟨b, 0, none⟩ (.int .i64 a)).setCell ⟨b, 1, none⟩ (.bool true) := by
  have hx0 : w.cell? ⟨b, 0, none⟩ = some (.int .i64 x) := blk_cell h 0
  have hx1 : w.cell? ⟨b, 1, none⟩ = some (.bool false) := blk_cell h 1
  have hf := fun q => blk_frozen h q
  have hs : (w.setCell ⟨b, 0, none⟩ (.int .i64 a)).frozen? ⟨b, 1, none⟩ = false := blk_frozen (blk_set h 0 _) 1
  skip
  clear h
  go_enter Try.func65, Try.ntmps65
  go_wp2_with fail
  refine ⟨rfl, .tuple #[], ?_, ⟨_, rfl⟩, rfl⟩
  simp [results, Try.results65, go_sem]
set_option maxHeartbeats 800000 in
set_option maxRecDepth 100000 in
theorem seeC_more (b : Nat) (x a : Int) (w : World) (h : w.heap[b]? = some (.cells #[.int .i64 x, .bool true] 114 (0, 0))) (hlt : x < a) :
    Calls Try.prog 65 #[.pointer (some ⟨b, 0, none⟩), .int .i64 a, .func (.func 66) #[] #[]] w fun e w' => (∃ r, e = .returned r) ∧ w' = (w.setCell ⟨b, 0, none⟩ (.int .i64 a)).setCell ⟨b, 1, none⟩ (.bool true) := by
  have hx0 : w.cell? ⟨b, 0, none⟩ = some (.int .i64 x) := blk_cell h 0
  have hx1 : w.cell? ⟨b, 1, none⟩ = some (.bool true) := blk_cell h 1
  have hf := fun q => blk_frozen h q
  have hs : (w.setCell ⟨b, 0, none⟩ (.int .i64 a)).frozen? ⟨b, 1, none⟩ = false := blk_frozen (blk_set h 0 _) 1
  have hd := decide_eq_true hlt
  clear h
  go_enter Try.func65, Try.ntmps65
  go_wp2_with (go_at_call 66; refine (seeC_lt _ _ _).mono ?_; rintro e w1 ⟨rfl, rfl⟩)
  refine ⟨rfl, .tuple #[], ?_, ⟨_, rfl⟩, rfl⟩
  simp [results, Try.results65, go_sem]
set_option maxHeartbeats 800000 in
set_option maxRecDepth 100000 in
theorem seeC_less (b : Nat) (x a : Int) (w : World) (h : w.heap[b]? = some (.cells #[.int .i64 x, .bool true] 114 (0, 0))) (hlt : ¬ x < a) :
    Calls Try.prog 65 #[.pointer (some ⟨b, 0, none⟩), .int .i64 a, .func (.func 66) #[] #[]] w fun e w' => (∃ r, e = .returned r) ∧ w' = w := by
  have hx0 : w.cell? ⟨b, 0, none⟩ = some (.int .i64 x) := blk_cell h 0
  have hx1 : w.cell? ⟨b, 1, none⟩ = some (.bool true) := blk_cell h 1
  have hf := fun q => blk_frozen h q
  have hs : (w.setCell ⟨b, 0, none⟩ (.int .i64 a)).frozen? ⟨b, 1, none⟩ = false := blk_frozen (blk_set h 0 _) 1
  have hd := decide_eq_false hlt
  clear h
  go_enter Try.func65, Try.ntmps65
  go_wp2_with (go_at_call 66; refine (seeC_lt _ _ _).mono ?_; rintro e w1 ⟨rfl, rfl⟩)
  refine ⟨rfl, .tuple #[], ?_, ⟨_, rfl⟩, rfl⟩
  simp [results, Try.results65, go_sem]
theorem below_set2 {B : Nat} {w w' : World} {b : Nat} (h : Below B w w') (hb : B ≤ b) (i j : Nat) (u v : Value) : Below B w ((w'.setCell ⟨b, i, none⟩ u).setCell ⟨b, j, none⟩ v) := (h.setCell hb _).setCell hb _
def bestStep (name : ByteArray) (s : Int × Bool) (b : S33) : Int × Bool := if b.f0.toList = name.toList then (if s.2 = true then (if b.f2 < s.1 then (b.f2, true) else s) else (b.f2, true)) else s
def bestOf (l : List S33) (name : ByteArray) : Int × Bool := l.foldl (bestStep name) (0, false)
def junior_Best.f (l : List S33) (name : ByteArray) : Option (Int × Bool) := some (bestOf l name)
set_option maxHeartbeats 1600000 in
set_option maxRecDepth 100000 in
theorem junior_Best.calls (A0 : Option Addr) (c0 : Nat) (l0 : List S33) (a1 : ByteArray) (r1 : Int) (r2 : Bool) (w : World) (hr0 : Kd.C k33 w A0 l0.length l0) (hc0 : l0.length ≤ c0) (h : junior_Best.f l0 a1 = some (r1, r2)) :
    Calls Try.prog 32 #[.slice A0 l0.length c0, .string a1] w fun e w' => e = .returned (.tuple #[.int .i64 r1, .bool r2]) ∧ Below w.heap.size w w' := by
  have HR := Aside0.mk hr0
  have hlen := (show l0.length ≤ 9223372036854775807 from Kd.C_max hr0)
  have HH := Aside0.mk (show l0.foldl (bestStep a1) (0, false) = (r1, r2) from Option.some.inj h)
  clear hr0 h
  go_enter Try.func32, Try.ntmps32
  go_wp2_with fail
  go_loopg [11] l0.length (fun kq v11 wr => ∃ (i : Nat) (x : Int) (s : Bool), v11 = .int .i64 (i : Int) ∧ Aside0 (kq + i = l0.length) ∧ Aside0 ((l0.drop i).foldl (bestStep a1) (x, s) = (r1, r2)) ∧ Aside0 (wr.heap[w.heap.size]? = some (.cells #[.int .i64 x, .bool s] 114 (0, 0))) ∧ Aside0 (Below w.heap.size w wr))
  case atStart => exact ⟨0, 0, false, rfl, ⟨by omega⟩, HH, ⟨blk_new _ _⟩, ⟨below_alloc (Below.refl _ _) _⟩⟩
  case round =>
    obtain ⟨i, x, s, rfl, HK, HF, HL, HB⟩ := hrel
    by_cases hi : i < l0.length
    · obtain ⟨ad, ea, hx0, hx1, hx2, hx3⟩ := at_T33 HR.out (i : Int) (by omega) (by omega)
      cases ea
      have hti : rd_T33 l0 (i : Int) = l0[i] := by simp [rd_T33, hi]
      rw [hti, Int.toNat_natCast] at hx0 hx1 hx2 hx3
      replace hx0 := (HB.out.cell (World.block_lt_of_cell? w _ hx0)).trans hx0
      replace hx1 := (HB.out.cell (World.block_lt_of_cell? w _ hx1)).trans hx1
      replace hx2 := (HB.out.cell (World.block_lt_of_cell? w _ hx2)).trans hx2
      replace hx3 := (HB.out.cell (World.block_lt_of_cell? w _ hx3)).trans hx3
      have hf := HF.out
      rw [(List.getElem_cons_drop hi).symm, List.foldl_cons] at hf
      generalize l0[i] = t at hx0 hx1 hx2 hx3 hf
      have hib : (i : Int) < (l0.length : Int) := by omega
      clear hti
      unfold bestStep at hf
      by_cases c1 : t.f0.toList = a1.toList
      · rw [if_pos c1] at hf
        replace c1 := beq_iff_eq.2 c1
        cases s with
        | false =>
          rw [if_neg (by simp)] at hf
          have HG := Aside0.mk hf
          clear hf
          go_wp2_with (go_at_call 65; refine (seeB_none _ _ _ _ (blk_alloc HL.out _)).mono ?_; rintro e w1 ⟨⟨r, rfl⟩, rfl⟩)
          go_roundg (gk - 1)
          case measure => have := HK.out; omega
          case rel => exact ⟨i + 1, t.f2, true, by go_num, ⟨by have := HK.out; omega⟩, HG, ⟨blk_set (blk_set (blk_alloc HL.out _) 0 _) 1 _⟩, ⟨below_set2 (below_alloc HB.out _) (Nat.le_refl _) _ _ _ _⟩⟩
        | true =>
          rw [if_pos rfl] at hf
          by_cases c2 : t.f2 < x
          · rw [if_pos c2] at hf
            have HG := Aside0.mk hf
            have HC2 := Aside0.mk c2
            clear hf c2
            go_wp2_with (go_at_call 65; refine (seeB_more _ _ _ _ (blk_alloc HL.out _) HC2.out).mono ?_; rintro e w1 ⟨⟨r, rfl⟩, rfl⟩)
            go_roundg (gk - 1)
            case measure => have := HK.out; omega
            case rel => exact ⟨i + 1, t.f2, true, by go_num, ⟨by have := HK.out; omega⟩, HG, ⟨blk_set (blk_set (blk_alloc HL.out _) 0 _) 1 _⟩, ⟨below_set2 (below_alloc HB.out _) (Nat.le_refl _) _ _ _ _⟩⟩
          · rw [if_neg c2] at hf
            have HG := Aside0.mk hf
            have HC2 := Aside0.mk c2
            clear hf c2
            go_wp2_with (go_at_call 65; refine (seeB_less _ _ _ _ (blk_alloc HL.out _) HC2.out).mono ?_; rintro e w1 ⟨⟨r, rfl⟩, rfl⟩)
            go_roundg (gk - 1)
            case measure => have := HK.out; omega
            case rel => exact ⟨i + 1, x, true, by go_num, ⟨by have := HK.out; omega⟩, HG, ⟨blk_alloc HL.out _⟩, ⟨below_alloc HB.out _⟩⟩
      · rw [if_neg c1] at hf
        have HG := Aside0.mk hf
        replace c1 := beq_eq_false_iff_ne.2 c1
        clear hf
        go_wp2_with fail
        go_roundg (gk - 1)
        case measure => have := HK.out; omega
        case rel => exact ⟨i + 1, x, s, by go_num, ⟨by have := HK.out; omega⟩, HG, ⟨blk_alloc HL.out _⟩, ⟨below_alloc HB.out _⟩⟩
    · have hf := HF.out
      rw [List.drop_of_length_le (by omega), List.foldl_nil] at hf
      obtain ⟨rfl, rfl⟩ : x = r1 ∧ s = r2 := by simpa using hf
      have hx0 : wr.cell? ⟨w.heap.size, 0, none⟩ = some (.int .i64 x) := blk_cell HL.out 0
      have hx1 : wr.cell? ⟨w.heap.size, 1, none⟩ = some (.bool s) := blk_cell HL.out 1
      clear hf
      go_wp2_with fail
      go_region
      go_wp2_with fail
      exact bodyPost_ret (v := .tuple #[.int .i64 x, .bool s]) (by simp [results, Try.results32, go_sem]) rfl ⟨rfl, below_drew1 HB.out⟩
end Go.Proofs.Ytokijibpdnepiaa.X
end
section
namespace Go.Proofs.Ytokijibpdnepiaa.X
open Go.RowKit Go.Proofs.YtokijibpdnepiaaW.PrintWords Go.Proofs.YtokijibpdnepiaaW.PrintLast Go.Proofs.YtokijibpdnepiaaW.PrintMore
attribute [local go_sem] max2_int min2_int max_two min_two max_three min_three max_four min_four
set_option linter.unusedVariables false
set_option linter.unusedSimpArgs false
def auction_priced.f (a0 : Int) : Option (Bool) := if a0 ≥ (-68719476736) then (some (decide (a0 ≤ 68719476736))) else (some false)
set_option maxHeartbeats 8000000 in
set_option maxRecDepth 100000 in
theorem auction_priced.calls (a0 : Int) (r : Bool) (w : World) (h : auction_priced.f a0 = some r) :
    Calls Try.prog 60 #[.int .i64 a0] w fun e w' => e = .returned (.bool r) ∧ Drawn0 w w' := by
  have H : (if a0 ≥ (-68719476736) then (some (decide (a0 ≤ 68719476736))) else (some false)) = some r := h
  clear h
  by_cases c2 : a0 ≥ (-68719476736)
  · rw [if_pos c2] at H
    have c2b0 : decide ((-68719476736) ≤ a0) = true := decide_eq_true c2
    clear c2
    obtain rfl := Option.some.inj H
    go_enter Try.func60, Try.ntmps60
    go_wp2
    go_ret
    exact ⟨by first | rfl | (simp; done) | (simp [*]; done), by repeat (first | exact Drawn0.refl _ | apply Drawn0.step)⟩
  · rw [if_neg c2] at H
    have c2b0 : decide ((-68719476736) ≤ a0) = false := decide_eq_false c2
    clear c2
    obtain rfl := Option.some.inj H
    go_enter Try.func60, Try.ntmps60
    go_wp2
    go_ret
    exact ⟨by first | rfl | (simp; done) | (simp [*]; done), by repeat (first | exact Drawn0.refl _ | apply Drawn0.step)⟩
end Go.Proofs.Ytokijibpdnepiaa.X
end
section
namespace Go.Proofs.Ytokijibpdnepiaa.X
open Go.RowKit Go.Proofs.YtokijibpdnepiaaW.PrintWords Go.Proofs.YtokijibpdnepiaaW.PrintLast Go.Proofs.YtokijibpdnepiaaW.PrintMore
attribute [local go_sem] max2_int min2_int max_two min_two max_three min_three max_four min_four
set_option linter.unusedVariables false
set_option linter.unusedSimpArgs false
def words_digit.f (a0 : Int) : Option (Bool) := if 48 ≤ a0 then (some (decide (a0 ≤ 57))) else (some false)
set_option maxHeartbeats 8000000 in
set_option maxRecDepth 100000 in
theorem words_digit.calls (a0 : Int) (r : Bool) (w : World) (h : words_digit.f a0 = some r) :
    Calls Try.prog 99 #[.int .u8 a0] w fun e w' => e = .returned (.bool r) ∧ Drawn0 w w' := by
  have H : (if 48 ≤ a0 then (some (decide (a0 ≤ 57))) else (some false)) = some r := h
  clear h
  by_cases c2 : 48 ≤ a0
  · rw [if_pos c2] at H
    have c2b0 : decide (48 ≤ a0) = true := decide_eq_true c2
    clear c2
    obtain rfl := Option.some.inj H
    go_enter Try.func99, Try.ntmps99
    go_wp2
    go_ret
    exact ⟨by first | rfl | (simp; done) | (simp [*]; done), by repeat (first | exact Drawn0.refl _ | apply Drawn0.step)⟩
  · rw [if_neg c2] at H
    have c2b0 : decide (48 ≤ a0) = false := decide_eq_false c2
    clear c2
    obtain rfl := Option.some.inj H
    go_enter Try.func99, Try.ntmps99
    go_wp2
    go_ret
    exact ⟨by first | rfl | (simp; done) | (simp [*]; done), by repeat (first | exact Drawn0.refl _ | apply Drawn0.step)⟩
end Go.Proofs.Ytokijibpdnepiaa.X
end
section
namespace Go.Proofs.Ytokijibpdnepiaa.X
open Go.RowKit Go.Proofs.YtokijibpdnepiaaW.PrintWords Go.Proofs.YtokijibpdnepiaaW.PrintLast Go.Proofs.YtokijibpdnepiaaW.PrintMore
attribute [local go_sem] max2_int min2_int max_two min_two max_three min_three max_four min_four
set_option linter.unusedVariables false
set_option linter.unusedSimpArgs false
def words_letter.f (a0 : Int) : Option (Bool) := if 97 ≤ a0 then (some (decide (a0 ≤ 122))) else (some false)
set_option maxHeartbeats 8000000 in
set_option maxRecDepth 100000 in
theorem words_letter.calls (a0 : Int) (r : Bool) (w : World) (h : words_letter.f a0 = some r) :
    Calls Try.prog 98 #[.int .u8 a0] w fun e w' => e = .returned (.bool r) ∧ Drawn0 w w' := by
  have H : (if 97 ≤ a0 then (some (decide (a0 ≤ 122))) else (some false)) = some r := h
  clear h
  by_cases c2 : 97 ≤ a0
  · rw [if_pos c2] at H
    have c2b0 : decide (97 ≤ a0) = true := decide_eq_true c2
    clear c2
    obtain rfl := Option.some.inj H
    go_enter Try.func98, Try.ntmps98
    go_wp2
    go_ret
    exact ⟨by first | rfl | (simp; done) | (simp [*]; done), by repeat (first | exact Drawn0.refl _ | apply Drawn0.step)⟩
  · rw [if_neg c2] at H
    have c2b0 : decide (97 ≤ a0) = false := decide_eq_false c2
    clear c2
    obtain rfl := Option.some.inj H
    go_enter Try.func98, Try.ntmps98
    go_wp2
    go_ret
    exact ⟨by first | rfl | (simp; done) | (simp [*]; done), by repeat (first | exact Drawn0.refl _ | apply Drawn0.step)⟩
end Go.Proofs.Ytokijibpdnepiaa.X
end
section
namespace Go.Proofs.Ytokijibpdnepiaa.X
open Go.RowKit Go.Proofs.YtokijibpdnepiaaW.PrintWords Go.Proofs.YtokijibpdnepiaaW.PrintLast Go.Proofs.YtokijibpdnepiaaW.PrintMore
attribute [local go_sem] max2_int min2_int max_two min_two max_three min_three max_four min_four
set_option linter.unusedVariables false
set_option linter.unusedSimpArgs false
mutual
def words_Name.j0 : Nat → ByteArray → Bool → Option (Bool)
  | 0, _, _ => none
  | k + 1, x0, x16 => if x16 = true then (some false) else (words_Name.l0 k x0 (x0.size : Int) 0)
def words_Name.l0 : Nat → ByteArray → Int → Int → Option (Bool)
  | 0, _, _, _ => none
  | k + 1, x0, x18, x19 => if x19 < x18 then (if 0 ≤ x19 then (if x19 < (x0.size : Int) then ((words_letter.f (bt x0 x19)).bind fun t102 => (if t102 = true then (words_Name.l0 k x0 x18 (wrap64 (x19 + 1))) else ((words_digit.f (bt x0 x19)).bind fun t103 => (if t103 = true then (words_Name.l0 k x0 x18 (wrap64 (x19 + 1))) else (some false))))) else (none)) else (none)) else (some true)
end
def words_Name.f (k : Nat) (a0 : ByteArray) : Option (Bool) := if a0.toList = ([] : List UInt8) then (words_Name.j0 k a0 true) else (if (a0.size : Int) > 12 then (words_Name.j0 k a0 true) else (if 0 < (a0.size : Int) then ((words_letter.f (bt a0 0)).bind fun t101 => (words_Name.j0 k a0 (!t101))) else (none)))
theorem words_Name.mono_l : ∀ k, (∀ y0 y1, LeO (words_Name.j0 k y0 y1) (words_Name.j0 (k + 1) y0 y1)) ∧ (∀ y0 y1 y2, LeO (words_Name.l0 k y0 y1 y2) (words_Name.l0 (k + 1) y0 y1 y2))
  | 0 => ⟨fun _ _ r h => by simp [words_Name.j0] at h, fun _ _ _ r h => by simp [words_Name.l0] at h⟩
  | k + 1 => by
    obtain ⟨ih0, ih1⟩ := words_Name.mono_l k
    refine ⟨?_, ?_⟩
    · intro y0 y1
      unfold words_Name.j0
      repeat' first
      | (with_reducible exact ih0 _ _)
      | (with_reducible exact ih1 _ _ _)
      | (with_reducible exact LeO.refl _)
      | (with_reducible exact LeO.none _)
      | (with_reducible refine LeO.ite ?_ ?_)
      | (with_reducible refine LeO.bind ?_ (fun _ => ?_))
      | exact ih0 _ _
      | exact ih1 _ _ _
      | exact LeO.none _
      | refine LeO.ite ?_ ?_
      | refine LeO.bind ?_ (fun _ => ?_)
    · intro y0 y1 y2
      unfold words_Name.l0
      repeat' first
      | (with_reducible exact ih0 _ _)
      | (with_reducible exact ih1 _ _ _)
      | (with_reducible exact LeO.refl _)
      | (with_reducible exact LeO.none _)
      | (with_reducible refine LeO.ite ?_ ?_)
      | (with_reducible refine LeO.bind ?_ (fun _ => ?_))
      | exact ih0 _ _
      | exact ih1 _ _ _
      | exact LeO.none _
      | refine LeO.ite ?_ ?_
      | refine LeO.bind ?_ (fun _ => ?_)
theorem words_Name.mono : ∀ a0 k, LeO (words_Name.f k a0) (words_Name.f (k + 1) a0) := by
  intro a0 k
  obtain ⟨ih0, ih1⟩ := words_Name.mono_l k
  unfold words_Name.f
  repeat' first
      | (with_reducible exact ih0 _ _)
      | (with_reducible exact ih1 _ _ _)
      | (with_reducible exact LeO.refl _)
      | (with_reducible exact LeO.none _)
      | (with_reducible refine LeO.ite ?_ ?_)
      | (with_reducible refine LeO.bind ?_ (fun _ => ?_))
      | exact ih0 _ _
      | exact ih1 _ _ _
      | exact LeO.none _
      | refine LeO.ite ?_ ?_
      | refine LeO.bind ?_ (fun _ => ?_)
set_option maxHeartbeats 8000000 in
set_option maxRecDepth 100000 in
theorem words_Name.calls (k : Nat) (a0 : ByteArray) (r : Bool) (w : World) (h : words_Name.f k a0 = some r) :
    Calls Try.prog 59 #[.string a0] w fun e w' => e = .returned (.bool r) ∧ Drawn0 w w' := by
  have H : (if a0.toList = ([] : List UInt8) then (words_Name.j0 k a0 true) else (if (a0.size : Int) > 12 then (words_Name.j0 k a0 true) else (if 0 < (a0.size : Int) then ((words_letter.f (bt a0 0)).bind fun t101 => (words_Name.j0 k a0 (!t101))) else (none)))) = some r := h
  clear h
  have HC2 := Aside0.mk H
  clear H
  go_enter Try.func59, Try.ntmps59
  go_upto_region 1 with (fail)
  go_cut [16] (fun v16 wc => ∃ (kq : Nat) (x16_1 : Bool), v16 = .bool x16_1 ∧ Aside0 (words_Name.j0 kq a0 x16_1 = some r) ∧ Aside0 (kq ≤ k) ∧ Drawn0 w wc)
  case first =>
    have H := HC2.out
    clear HC2
    by_cases c3 : a0.toList = ([] : List UInt8)
    · rw [if_pos c3] at H
      have c3b0 : (a0.toList == ([] : List UInt8)) = true := beq_iff_eq.mpr c3
      have c3b1 : (a0.toList != ([] : List UInt8)) = false := bne_eq_false_iff_eq.mpr c3
      clear c3
      (first | rw [c3b0] | (simp only [i64_w, i32_w]; rw [c3b0]) | skip)
      have H' := Aside0.mk H
      clear H
      go_wp2
      go_meet
      case rel => exact ⟨_, (true), (by first | rfl | (simp; done) | (simp [*]; done)), H', ⟨by first | omega | exact Nat.le_refl _⟩, by repeat (first | exact Drawn0.refl _ | apply Drawn0.step)⟩
    · rw [if_neg c3] at H
      have c3b0 : (a0.toList == ([] : List UInt8)) = false := beq_eq_false_iff_ne.mpr c3
      have c3b1 : (a0.toList != ([] : List UInt8)) = true := bne_iff_ne.mpr c3
      (first | rw [c3b0] | (simp only [i64_w, i32_w]; rw [c3b0]) | skip)
      by_cases c4 : (a0.size : Int) > 12
      · rw [if_pos c4] at H
        have c4b0 : decide (12 < (a0.size : Int)) = true := decide_eq_true c4
        have c4b1 : decide (12 < a0.size) = true := decide_eq_true (by omega)
        clear c4
        have H' := Aside0.mk H
        clear H
        go_wp2
        go_meet
        case rel => exact ⟨_, (true), (by first | rfl | (simp; done) | (simp [*]; done)), H', ⟨by first | omega | exact Nat.le_refl _⟩, by repeat (first | exact Drawn0.refl _ | apply Drawn0.step)⟩
      · rw [if_neg c4] at H
        have c4b0 : decide (12 < (a0.size : Int)) = false := decide_eq_false c4
        have c4b1 : decide (12 < a0.size) = false := decide_eq_false (by omega)
        clear c4
        by_cases c5 : 0 < (a0.size : Int)
        · rw [if_pos c5] at H
          have c5b0 : decide (0 < (a0.size : Int)) = true := decide_eq_true c5
          have c5b1 : decide (0 < a0.size) = true := decide_eq_true (by omega)
          clear c5
          replace H := Option.bind_eq_some_iff.mp H
          obtain ⟨t101, A70, H⟩ := H
          replace H : (words_Name.j0 k a0 (!t101)) = some r := H
          have A7 := Aside0.mk A70
          clear A70
          have H' := Aside0.mk H
          clear H
          have p6 : 0 ≤ (0 : Int) := (by omega)
          have q6 : 0 < a0.size := (by have : (0 : Int) < (a0.size : Int) := of_decide_eq_true (by first | (with_reducible assumption) | assumption); omega)
          have hx6 : ∀ h : 0 < a0.size, ((a0[0]'h).toNat : Int) = bt a0 0 := bt_at a0 0
          clear p6
          have qi6 : (0 < (a0.size : Int)) = True := eq_true (of_decide_eq_true (by first | (with_reducible assumption) | assumption))
          replace q6 := eq_true q6
          go_wp2_with (first | (go_at_call 98; (with_reducible refine (words_letter.calls (bt a0 0) t101 _ A7.out).mono ?_); rintro e w' ⟨rfl, ⟨nd, rfl⟩⟩))
          go_meet
          case rel => exact ⟨_, (!t101), (by first | rfl | (simp; done) | (simp [*]; done)), H', ⟨by first | omega | exact Nat.le_refl _⟩, by repeat (first | exact Drawn0.refl _ | apply Drawn0.step)⟩
        · rw [if_neg c5] at H
          exact absurd H (by simp)
  case rest =>
    clear HC2
    try clear p2
    try clear c3
    try clear c3b0
    try clear c3b1
    try clear c4
    try clear c4b0
    try clear c4b1
    try clear c5
    try clear c5b0
    try clear c5b1
    try clear p6
    try clear q6
    try clear hx6
    try clear qi6
    try clear p6
    try clear q6
    obtain ⟨kq, x16_1, rfl, HA, HJ1, ⟨mc1, rfl⟩⟩ := hcut
    cases kq with
    | zero => exact absurd HA.out (by simp [words_Name.j0])
    | succ kj1 =>
      have H := HA.out
      clear HA
      simp only [words_Name.j0] at H
      by_cases c8 : x16_1 = true
      · subst c8
        have H1 : (some false) = some r := by rw [if_pos rfl] at H; exact H
        clear H
        have H := H1
        clear H1
        obtain rfl := Option.some.inj H
        go_wp2
        go_ret
        exact ⟨by first | rfl | (simp; done) | (simp [*]; done), by repeat (first | exact Drawn0.refl _ | apply Drawn0.step)⟩
      · replace c8 := Bool.eq_false_iff.mpr c8
        subst c8
        have H1 : (words_Name.l0 kj1 a0 (a0.size : Int) 0) = some r := by rw [if_neg (show ¬ (false = true) by decide)] at H; exact H
        clear H
        have H := H1
        clear H1
        have H' := Aside0.mk H
        clear H
        go_wp2
        go_loopg [19] kj1 (fun kq v19 w' => ∃ (x19_2 : Int), v19 = .int .i64 x19_2 ∧ Aside0 (words_Name.l0 kq a0 (a0.size : Int) x19_2 = some r) ∧ Aside0 (kq ≤ kj1) ∧ Drawn0 w w')
        case atStart => exact ⟨(0), (by first | rfl | (simp; done) | (simp [*]; done)), H', ⟨Nat.le_refl _⟩, by repeat (first | exact Drawn0.refl _ | apply Drawn0.step)⟩
        case round =>
          clear H'
          try clear c1
          try clear p2
          try clear c3
          try clear c3b0
          try clear c3b1
          try clear c4
          try clear c4b0
          try clear c4b1
          try clear c5
          try clear c5b0
          try clear c5b1
          try clear p6
          try clear q6
          try clear hx6
          try clear qi6
          try clear c8
          try clear p2
          try clear p6
          try clear q6
          obtain ⟨x19_2, rfl, HA, HK2, ⟨m2, rfl⟩⟩ := hrel
          cases gk with
          | zero => exact absurd HA.out (by simp [words_Name.l0])
          | succ k2 =>
            have H := HA.out
            clear HA
            simp only [words_Name.l0] at H
            by_cases c9 : x19_2 < (a0.size : Int)
            · rw [if_pos c9] at H
              have c9b0 : decide (x19_2 < (a0.size : Int)) = true := decide_eq_true c9
              clear c9
              by_cases c10 : 0 ≤ x19_2
              · rw [if_pos c10] at H
                have c10b0 : decide (0 ≤ x19_2) = true := decide_eq_true c10
                clear c10
                by_cases c11 : x19_2 < (a0.size : Int)
                · rw [if_pos c11] at H
                  have c11b0 : decide (x19_2 < (a0.size : Int)) = true := decide_eq_true c11
                  clear c11
                  replace H := Option.bind_eq_some_iff.mp H
                  obtain ⟨t102, A130, H⟩ := H
                  replace H : (if t102 = true then (words_Name.l0 k2 a0 (a0.size : Int) (wrap64 (x19_2 + 1))) else ((words_digit.f (bt a0 x19_2)).bind fun t103 => (if t103 = true then (words_Name.l0 k2 a0 (a0.size : Int) (wrap64 (x19_2 + 1))) else (some false)))) = some r := H
                  have A13 := Aside0.mk A130
                  clear A130
                  by_cases c14 : t102 = true
                  · subst c14
                    have H1 : (words_Name.l0 k2 a0 (a0.size : Int) (wrap64 (x19_2 + 1))) = some r := by rw [if_pos rfl] at H; exact H
                    clear H
                    have H := H1
                    clear H1
                    have H' := Aside0.mk H
                    clear H
                    have p12 : 0 ≤ (x19_2 : Int) := of_decide_eq_true (by first | (with_reducible assumption) | assumption)
                    have q12 : x19_2 < (a0.size : Int) := of_decide_eq_true (by first | (with_reducible assumption) | assumption)
                    have hx12 := bt_at a0 x19_2
                    replace p12 := eq_true p12
                    replace q12 := eq_true q12
                    go_wp2_with (first | ((with_reducible refine gate_callee (f := 98) rfl ?_); refine goesL_ (some 25) rfl rfl Try.func98 (by kernel_rfl) rfl #[.int .u8 (bt a0 x19_2)] rfl (by (try simp only [List.map_toArray, List.map_cons, List.map_nil]); first | done | rfl | (simp only [List.length_drop, List.length_take]; rfl)) ?_; (with_reducible refine (words_letter.calls (bt a0 x19_2) true _ A13.out).mono ?_); rintro e w' ⟨rfl, ⟨nd, rfl⟩⟩; refine ⟨_, rfl, ?_⟩))
                    go_roundg k2
                    case measure => have := HJ1.out; have := HK2.out; omega
                    case rel => exact ⟨(wrap64 (x19_2 + 1)), (by first | rfl | (simp; done) | (simp [*]; done)), H', ⟨by have := HJ1.out; have := HK2.out; omega⟩, by repeat (first | exact Drawn0.refl _ | apply Drawn0.step)⟩
                  · replace c14 := Bool.eq_false_iff.mpr c14
                    subst c14
                    have H1 : ((words_digit.f (bt a0 x19_2)).bind fun t103 => (if t103 = true then (words_Name.l0 k2 a0 (a0.size : Int) (wrap64 (x19_2 + 1))) else (some false))) = some r := by rw [if_neg (show ¬ (false = true) by decide)] at H; exact H
                    clear H
                    have H := H1
                    clear H1
                    replace H := Option.bind_eq_some_iff.mp H
                    obtain ⟨t103, A160, H⟩ := H
                    replace H : (if t103 = true then (words_Name.l0 k2 a0 (a0.size : Int) (wrap64 (x19_2 + 1))) else (some false)) = some r := H
                    have A16 := Aside0.mk A160
                    clear A160
                    by_cases c17 : t103 = true
                    · subst c17
                      have H1 : (words_Name.l0 k2 a0 (a0.size : Int) (wrap64 (x19_2 + 1))) = some r := by rw [if_pos rfl] at H; exact H
                      clear H
                      have H := H1
                      clear H1
                      have H' := Aside0.mk H
                      clear H
                      have p12 : 0 ≤ (x19_2 : Int) := of_decide_eq_true (by first | (with_reducible assumption) | assumption)
                      have q12 : x19_2 < (a0.size : Int) := of_decide_eq_true (by first | (with_reducible assumption) | assumption)
                      have hx12 := bt_at a0 x19_2
                      replace p12 := eq_true p12
                      replace q12 := eq_true q12
                      go_wp2_with (first | ((with_reducible refine gate_callee (f := 98) rfl ?_); refine goesL_ (some 25) rfl rfl Try.func98 (by kernel_rfl) rfl #[.int .u8 (bt a0 x19_2)] rfl (by (try simp only [List.map_toArray, List.map_cons, List.map_nil]); first | done | rfl | (simp only [List.length_drop, List.length_take]; rfl)) ?_; (with_reducible refine (words_letter.calls (bt a0 x19_2) false _ A13.out).mono ?_); rintro e w' ⟨rfl, ⟨nd, rfl⟩⟩; refine ⟨_, rfl, ?_⟩; have p15 : 0 ≤ (x19_2 : Int) := of_decide_eq_true (by first | (with_reducible assumption) | assumption); have q15 : x19_2 < (a0.size : Int) := of_decide_eq_true (by first | (with_reducible assumption) | assumption); have hx15 := bt_at a0 x19_2; replace p15 := eq_true p15; replace q15 := eq_true q15) | (go_at_call 99; (with_reducible refine (words_digit.calls (bt a0 x19_2) true _ A16.out).mono ?_); rintro e w' ⟨rfl, ⟨nd, rfl⟩⟩))
                      go_roundg k2
                      case measure => have := HJ1.out; have := HK2.out; omega
                      case rel => exact ⟨(wrap64 (x19_2 + 1)), (by first | rfl | (simp; done) | (simp [*]; done)), H', ⟨by have := HJ1.out; have := HK2.out; omega⟩, by repeat (first | exact Drawn0.refl _ | apply Drawn0.step)⟩
                    · replace c17 := Bool.eq_false_iff.mpr c17
                      subst c17
                      have H1 : (some false) = some r := by rw [if_neg (show ¬ (false = true) by decide)] at H; exact H
                      clear H
                      have H := H1
                      clear H1
                      obtain rfl := Option.some.inj H
                      have p12 : 0 ≤ (x19_2 : Int) := of_decide_eq_true (by first | (with_reducible assumption) | assumption)
                      have q12 : x19_2 < (a0.size : Int) := of_decide_eq_true (by first | (with_reducible assumption) | assumption)
                      have hx12 := bt_at a0 x19_2
                      replace p12 := eq_true p12
                      replace q12 := eq_true q12
                      go_wp2_with (first | ((with_reducible refine gate_callee (f := 98) rfl ?_); refine goesL_ (some 25) rfl rfl Try.func98 (by kernel_rfl) rfl #[.int .u8 (bt a0 x19_2)] rfl (by (try simp only [List.map_toArray, List.map_cons, List.map_nil]); first | done | rfl | (simp only [List.length_drop, List.length_take]; rfl)) ?_; (with_reducible refine (words_letter.calls (bt a0 x19_2) false _ A13.out).mono ?_); rintro e w' ⟨rfl, ⟨nd, rfl⟩⟩; refine ⟨_, rfl, ?_⟩; have p15 : 0 ≤ (x19_2 : Int) := of_decide_eq_true (by first | (with_reducible assumption) | assumption); have q15 : x19_2 < (a0.size : Int) := of_decide_eq_true (by first | (with_reducible assumption) | assumption); have hx15 := bt_at a0 x19_2; replace p15 := eq_true p15; replace q15 := eq_true q15) | (go_at_call 99; (with_reducible refine (words_digit.calls (bt a0 x19_2) false _ A16.out).mono ?_); rintro e w' ⟨rfl, ⟨nd, rfl⟩⟩))
                      go_ret
                      exact ⟨by first | rfl | (simp; done) | (simp [*]; done), by repeat (first | exact Drawn0.refl _ | apply Drawn0.step)⟩
                · rw [if_neg c11] at H
                  exact absurd H (by simp)
              · rw [if_neg c10] at H
                exact absurd H (by simp)
            · rw [if_neg c9] at H
              have c9b0 : decide (x19_2 < (a0.size : Int)) = false := decide_eq_false c9
              clear c9
              obtain rfl := Option.some.inj H
              go_wp2
              go_ret
              exact ⟨by first | rfl | (simp; done) | (simp [*]; done), by repeat (first | exact Drawn0.refl _ | apply Drawn0.step)⟩
end Go.Proofs.Ytokijibpdnepiaa.X
end
section
namespace Go.Proofs.Ytokijibpdnepiaa.X
open Go.RowKit Go.Proofs.YtokijibpdnepiaaW.PrintWords Go.Proofs.YtokijibpdnepiaaW.PrintLast Go.Proofs.YtokijibpdnepiaaW.PrintMore
attribute [local go_sem] max2_int min2_int max_two min_two max_three min_three max_four min_four
set_option linter.unusedVariables false
set_option linter.unusedSimpArgs false
mutual
def auction_Check.l0 : Nat → List (S33) → Int → Int → Option (Int)
  | 0, _, _, _ => none
  | k + 1, x8, x9, x10 => if x10 < x9 then (if 0 ≤ x10 then (if x10 < (x8.length : Int) then ((words_Name.f k ((rd_T33 x8 x10).f0)).bind fun t103 => (if t103 = true then (if ((rd_T33 x8 x10).f1) < 1 then (auction_Check.j1 k x8 x9 x10 true ((rd_T33 x8 x10).f0) ((rd_T33 x8 x10).f1) ((rd_T33 x8 x10).f2) ((rd_T33 x8 x10).f3)) else (auction_Check.j1 k x8 x9 x10 (decide (((rd_T33 x8 x10).f1) > 1048576)) ((rd_T33 x8 x10).f0) ((rd_T33 x8 x10).f1) ((rd_T33 x8 x10).f2) ((rd_T33 x8 x10).f3))) else (some 10))) else (none)) else (none)) else (some 0)
def auction_Check.j1 : Nat → List (S33) → Int → Int → Bool → ByteArray → Int → Int → Int → Option (Int)
  | 0, _, _, _, _, _, _, _, _ => none
  | k + 1, x8, x9, x10, x19, x103000, x103001, x103002, x103003 => if x19 = true then (some 18) else ((auction_priced.f x103002).bind fun t104 => (if t104 = true then (if x103003 < 0 then (some 28) else (if x103003 > 86399 then (some 28) else (auction_Check.l0 k x8 x9 (wrap64 (x10 + 1))))) else (some 28)))
end
def auction_Check.f (k : Nat) (l0 : List (S33)) : Option (Int) := if (l0.length : Int) > 1024 then (some 8) else (auction_Check.l0 k l0 (l0.length : Int) 0)
theorem auction_Check.mono_l : ∀ k, (∀ y0 y1 y2, LeO (auction_Check.l0 k y0 y1 y2) (auction_Check.l0 (k + 1) y0 y1 y2)) ∧ (∀ y0 y1 y2 y3 y4 y5 y6 y7, LeO (auction_Check.j1 k y0 y1 y2 y3 y4 y5 y6 y7) (auction_Check.j1 (k + 1) y0 y1 y2 y3 y4 y5 y6 y7))
  | 0 => ⟨fun _ _ _ r h => by simp [auction_Check.l0] at h, fun _ _ _ _ _ _ _ _ r h => by simp [auction_Check.j1] at h⟩
  | k + 1 => by
    obtain ⟨ih0, ih1⟩ := auction_Check.mono_l k
    refine ⟨?_, ?_⟩
    · intro y0 y1 y2
      unfold auction_Check.l0
      repeat' first
      | (with_reducible exact ih0 _ _ _)
      | (with_reducible exact ih1 _ _ _ _ _ _ _ _)
      | (with_reducible exact words_Name.mono _ _)
      | (with_reducible exact LeO.refl _)
      | (with_reducible exact LeO.none _)
      | (with_reducible refine LeO.ite ?_ ?_)
      | (with_reducible refine LeO.bind ?_ (fun _ => ?_))
      | exact ih0 _ _ _
      | exact ih1 _ _ _ _ _ _ _ _
      | exact words_Name.mono _ _
      | exact LeO.none _
      | refine LeO.ite ?_ ?_
      | refine LeO.bind ?_ (fun _ => ?_)
    · intro y0 y1 y2 y3 y4 y5 y6 y7
      unfold auction_Check.j1
      repeat' first
      | (with_reducible exact ih0 _ _ _)
      | (with_reducible exact ih1 _ _ _ _ _ _ _ _)
      | (with_reducible exact words_Name.mono _ _)
      | (with_reducible exact LeO.refl _)
      | (with_reducible exact LeO.none _)
      | (with_reducible refine LeO.ite ?_ ?_)
      | (with_reducible refine LeO.bind ?_ (fun _ => ?_))
      | exact ih0 _ _ _
      | exact ih1 _ _ _ _ _ _ _ _
      | exact words_Name.mono _ _
      | exact LeO.none _
      | refine LeO.ite ?_ ?_
      | refine LeO.bind ?_ (fun _ => ?_)
theorem auction_Check.mono : ∀ a0 k, LeO (auction_Check.f k a0) (auction_Check.f (k + 1) a0) := by
  intro a0 k
  obtain ⟨ih0, ih1⟩ := auction_Check.mono_l k
  unfold auction_Check.f
  repeat' first
      | (with_reducible exact ih0 _ _ _)
      | (with_reducible exact ih1 _ _ _ _ _ _ _ _)
      | (with_reducible exact words_Name.mono _ _)
      | (with_reducible exact LeO.refl _)
      | (with_reducible exact LeO.none _)
      | (with_reducible refine LeO.ite ?_ ?_)
      | (with_reducible refine LeO.bind ?_ (fun _ => ?_))
      | exact ih0 _ _ _
      | exact ih1 _ _ _ _ _ _ _ _
      | exact words_Name.mono _ _
      | exact LeO.none _
      | refine LeO.ite ?_ ?_
      | refine LeO.bind ?_ (fun _ => ?_)
set_option maxHeartbeats 8000000 in
set_option maxRecDepth 100000 in
theorem auction_Check.calls (k : Nat) (A0 : Option Addr) (c0 : Nat) (l0 : List (S33)) (r : Int) (w : World) (hr0 : Kd.C k33 w A0 l0.length l0) (hc0 : l0.length ≤ c0) (h : auction_Check.f k l0 = some r) :
    Calls Try.prog 18 #[.slice A0 l0.length c0] w fun e w' => e = .returned (.int .i64 r) ∧ Below w.heap.size w w' := by
  have hu33 := Try.underlying33
  have HR0 := Aside0.mk hr0
  have HC0 := Aside0.mk hc0
  clear hr0 hc0
  have HB := Aside0.mk (Below.refl w.heap.size w)
  have H : (if (l0.length : Int) > 1024 then (some 8) else (auction_Check.l0 k l0 (l0.length : Int) 0)) = some r := h
  clear h
  by_cases c2 : (l0.length : Int) > 1024
  · rw [if_pos c2] at H
    have c2b0 : decide (1024 < (l0.length : Int)) = true := decide_eq_true c2
    have c2b1 : decide (1024 < l0.length) = true := decide_eq_true (by omega)
    clear c2
    obtain rfl := Option.some.inj H
    go_enter Try.func18, Try.ntmps18
    go_wp2
    go_ret
    exact ⟨by first | rfl | (simp [errW_none, errW_some] <;> rfl) | (simp [*, errW_none, errW_some] <;> rfl), by repeat (first | (with_reducible first | exact HB.out | apply below_alloc | apply pw_below_drewN | apply below_drew1) | exact HB.out)⟩
  · rw [if_neg c2] at H
    have c2b0 : decide (1024 < (l0.length : Int)) = false := decide_eq_false c2
    have c2b1 : decide (1024 < l0.length) = false := decide_eq_false (by omega)
    clear c2
    have H' := Aside0.mk H
    clear H
    go_enter Try.func18, Try.ntmps18
    go_wp2
    go_loopg [10] k (fun kq v10 w' => ∃ (x10_1 : Int), v10 = .int .i64 x10_1 ∧ Aside0 (auction_Check.l0 kq l0 (l0.length : Int) x10_1 = some r) ∧ Aside0 (kq ≤ k) ∧ Aside0 (Below w.heap.size w w'))
    case atStart => exact ⟨(0), (by first | rfl | (simp; done) | (simp [*]; done)), H', ⟨Nat.le_refl _⟩, ⟨by repeat (first | (with_reducible first | exact HB.out | apply below_alloc | apply pw_below_drewN | apply below_drew1) | exact HB.out)⟩⟩
    case round =>
      clear H'
      try clear c1
      try clear c2
      try clear c2b0
      try clear c2b1
      try clear p2
      obtain ⟨x10_1, rfl, HA, HK1, HB⟩ := hrel
      cases gk with
      | zero => exact absurd HA.out (by simp [auction_Check.l0])
      | succ k1 =>
        have H := HA.out
        clear HA
        simp only [auction_Check.l0] at H
        by_cases c3 : x10_1 < (l0.length : Int)
        · rw [if_pos c3] at H
          have c3b0 : decide (x10_1 < (l0.length : Int)) = true := decide_eq_true c3
          clear c3
          by_cases c4 : 0 ≤ x10_1
          · rw [if_pos c4] at H
            have c4b0 : decide (0 ≤ x10_1) = true := decide_eq_true c4
            clear c4
            by_cases c5 : x10_1 < (l0.length : Int)
            · rw [if_pos c5] at H
              have c5b0 : decide (x10_1 < (l0.length : Int)) = true := decide_eq_true c5
              clear c5
              replace H := Option.bind_eq_some_iff.mp H
              obtain ⟨t103, A60, H⟩ := H
              replace H : (if t103 = true then (if ((rd_T33 l0 x10_1).f1) < 1 then (auction_Check.j1 k1 l0 (l0.length : Int) x10_1 true ((rd_T33 l0 x10_1).f0) ((rd_T33 l0 x10_1).f1) ((rd_T33 l0 x10_1).f2) ((rd_T33 l0 x10_1).f3)) else (auction_Check.j1 k1 l0 (l0.length : Int) x10_1 (decide (((rd_T33 l0 x10_1).f1) > 1048576)) ((rd_T33 l0 x10_1).f0) ((rd_T33 l0 x10_1).f1) ((rd_T33 l0 x10_1).f2) ((rd_T33 l0 x10_1).f3))) else (some 10)) = some r := H
              have A6 := Aside0.mk A60
              clear A60
              by_cases c7 : t103 = true
              · subst c7
                have H1 : (if ((rd_T33 l0 x10_1).f1) < 1 then (auction_Check.j1 k1 l0 (l0.length : Int) x10_1 true ((rd_T33 l0 x10_1).f0) ((rd_T33 l0 x10_1).f1) ((rd_T33 l0 x10_1).f2) ((rd_T33 l0 x10_1).f3)) else (auction_Check.j1 k1 l0 (l0.length : Int) x10_1 (decide (((rd_T33 l0 x10_1).f1) > 1048576)) ((rd_T33 l0 x10_1).f0) ((rd_T33 l0 x10_1).f1) ((rd_T33 l0 x10_1).f2) ((rd_T33 l0 x10_1).f3))) = some r := by rw [if_pos rfl] at H; exact H
                clear H
                have H := H1
                clear H1
                have HC8 := Aside0.mk H
                clear H
                have p101 : 0 ≤ (x10_1 : Int) := of_decide_eq_true (by first | (with_reducible assumption) | assumption)
                have q101 : x10_1 < (l0.length : Int) := of_decide_eq_true (by first | (with_reducible assumption) | assumption)
                obtain ⟨ad101, e101, hx101_0, hx101_1, hx101_2, hx101_3⟩ := at_T33 HR0.out x10_1 p101 q101
                cases e101
                replace hx101_0 := (HB.out.cell (World.block_lt_of_cell? w _ hx101_0)).trans hx101_0
                replace hx101_1 := (HB.out.cell (World.block_lt_of_cell? w _ hx101_1)).trans hx101_1
                replace hx101_2 := (HB.out.cell (World.block_lt_of_cell? w _ hx101_2)).trans hx101_2
                replace hx101_3 := (HB.out.cell (World.block_lt_of_cell? w _ hx101_3)).trans hx101_3
                replace p101 := eq_true p101
                replace q101 := eq_true q101
                go_upto_region 8 with (first | ((with_reducible refine gate_dst (N := 4) rfl ?_); refine box_event ?hg (N := 4) ?hd (cs := #[.string (⟨#[]⟩ : ByteArray), .int .i64 0, .int .i64 0, .int .i64 0]) (t := 33) ?hr ?_; (case hd => rfl); (case hg => rfl); (case hr => first | (go_simp; done) | (go_simp; rfl)); intro gb102 hg w9 hbox hb; have n0_ := Aside0.mk (below_step (by repeat (first | (with_reducible first | exact HB.out | apply below_alloc | apply pw_below_drewN | apply below_drew1) | exact HB.out)) hb); have n1_ := Aside0.mk (hbox); have n2_ := Aside0.mk ((by rw [hg]; exact (below_size (by repeat (first | (with_reducible first | exact HB.out | apply below_alloc | apply pw_below_drewN | apply below_drew1) | exact HB.out))) : w.heap.size ≤ gb102)); have n3_ := Aside0.mk ((by rw [hg]; exact (below_size (by repeat (first | (with_reducible first | exact HB.out | apply below_alloc | apply pw_below_drewN | apply below_drew1) | exact HB.out))) : w.heap.size ≤ gb102)); clear HB; have HB := n0_; have BK102 := n1_; have GW102 := n2_; have GE102 := n3_; clear n0_ n1_ n2_ n3_; clear hb hbox hg; have hcz10_0 : w9.cell? ⟨gb102, 0, none⟩ = some (.string (⟨#[]⟩ : ByteArray)) := (blk_cell BK102.out 0).trans rfl; have hcz10_1 : w9.cell? ⟨gb102, 1, none⟩ = some (.int .i64 0) := (blk_cell BK102.out 1).trans rfl; have hcz10_2 : w9.cell? ⟨gb102, 2, none⟩ = some (.int .i64 0) := (blk_cell BK102.out 2).trans rfl; have hcz10_3 : w9.cell? ⟨gb102, 3, none⟩ = some (.int .i64 0) := (blk_cell BK102.out 3).trans rfl; have hfz10_0 := blk_frozen BK102.out 0; have hfz10_1 := blk_frozen BK102.out 1; have hfz10_2 := blk_frozen BK102.out 2; have hfz10_3 := blk_frozen BK102.out 3) | ((with_reducible refine gate_callee (f := 59) rfl ?_); refine goesL_ (some 17) rfl rfl Try.func59 (by kernel_rfl) rfl #[.string ((rd_T33 l0 x10_1).f0)] rfl (by (try simp only [List.map_toArray, List.map_cons, List.map_nil]); first | done | rfl | (simp only [List.length_drop, List.length_take]; rfl)) ?_; (with_reducible refine (words_Name.calls k1 ((rd_T33 l0 x10_1).f0) true _ A6.out).mono ?_); rintro e w' ⟨rfl, ⟨nd, rfl⟩⟩; refine ⟨_, rfl, ?_⟩))
                (try simp only [Act.put, List.setIfInBounds_toArray, List.set_cons_zero, List.set_cons_succ])
                go_cut [19] (fun v19 wc => ∃ (kq : Nat) (x19_7 : Bool), v19 = .bool x19_7 ∧ Aside0 (auction_Check.j1 kq l0 (l0.length : Int) x10_1 x19_7 ((rd_T33 l0 x10_1).f0) ((rd_T33 l0 x10_1).f1) ((rd_T33 l0 x10_1).f2) ((rd_T33 l0 x10_1).f3) = some r) ∧ Aside0 (kq ≤ k1) ∧ Aside0 (wc.heap[gb102]? = some (.cells #[.string ((rd_T33 l0 x10_1).f0), .int .i64 ((rd_T33 l0 x10_1).f1), .int .i64 ((rd_T33 l0 x10_1).f2), .int .i64 ((rd_T33 l0 x10_1).f3)] 33 (0, 0))) ∧ Aside0 (Below w.heap.size w wc))
                case first =>
                  have H := HC8.out
                  clear HC8
                  by_cases c11 : ((rd_T33 l0 x10_1).f1) < 1
                  · rw [if_pos c11] at H
                    have c11b0 : decide (((rd_T33 l0 x10_1).f1) < 1) = true := decide_eq_true c11
                    clear c11
                    (first | rw [c11b0] | (simp only [i64_w, i32_w]; rw [c11b0]) | skip)
                    have H' := Aside0.mk H
                    clear H
                    have hcz12_0 : w9.cell? ⟨gb102, 0, none⟩ = some (.string (⟨#[]⟩ : ByteArray)) := (blk_cell BK102.out 0).trans rfl
                    have hcz12_1 : w9.cell? ⟨gb102, 1, none⟩ = some (.int .i64 0) := (blk_cell BK102.out 1).trans rfl
                    have hcz12_2 : w9.cell? ⟨gb102, 2, none⟩ = some (.int .i64 0) := (blk_cell BK102.out 2).trans rfl
                    have hcz12_3 : w9.cell? ⟨gb102, 3, none⟩ = some (.int .i64 0) := (blk_cell BK102.out 3).trans rfl
                    have hfz12_0 := blk_frozen BK102.out 0
                    have hfz12_1 := blk_frozen BK102.out 1
                    have hfz12_2 := blk_frozen BK102.out 2
                    have hfz12_3 := blk_frozen BK102.out 3
                    go_wp2
                    go_meet
                    case rel => exact ⟨_, (true), (by first | rfl | (simp; done) | (simp [*]; done)), H', ⟨by have := HK1.out; first | omega | exact Nat.le_refl _⟩, ⟨by (with_reducible repeat (first | refine blk_drewN ?_ _ | refine blk_drew ?_ | refine blk_alloc ?_ _)); refine blk_put (cs := #[.string ((rd_T33 l0 x10_1).f0), .int .i64 ((rd_T33 l0 x10_1).f1), .int .i64 ((rd_T33 l0 x10_1).f2), .int .i64 0]) ?_ 3 _ rfl; (with_reducible repeat (first | refine blk_drewN ?_ _ | refine blk_drew ?_ | refine blk_alloc ?_ _)); refine blk_put (cs := #[.string ((rd_T33 l0 x10_1).f0), .int .i64 ((rd_T33 l0 x10_1).f1), .int .i64 0, .int .i64 0]) ?_ 2 _ rfl; (with_reducible repeat (first | refine blk_drewN ?_ _ | refine blk_drew ?_ | refine blk_alloc ?_ _)); refine blk_put (cs := #[.string ((rd_T33 l0 x10_1).f0), .int .i64 0, .int .i64 0, .int .i64 0]) ?_ 1 _ rfl; (with_reducible repeat (first | refine blk_drewN ?_ _ | refine blk_drew ?_ | refine blk_alloc ?_ _)); refine blk_put (cs := #[.string (⟨#[]⟩ : ByteArray), .int .i64 0, .int .i64 0, .int .i64 0]) ?_ 0 _ rfl; (with_reducible repeat (first | refine blk_drewN ?_ _ | refine blk_drew ?_ | refine blk_alloc ?_ _)); exact BK102.out⟩, ⟨by repeat (first | (with_reducible first | exact HB.out | apply below_alloc | apply pw_below_drewN | apply below_drew1 | refine below_set ?_ GE102.out) | exact HB.out)⟩⟩
                  · rw [if_neg c11] at H
                    have c11b0 : decide (((rd_T33 l0 x10_1).f1) < 1) = false := decide_eq_false c11
                    clear c11
                    (first | rw [c11b0] | (simp only [i64_w, i32_w]; rw [c11b0]) | skip)
                    have H' := Aside0.mk H
                    clear H
                    have hcz13_0 : w9.cell? ⟨gb102, 0, none⟩ = some (.string (⟨#[]⟩ : ByteArray)) := (blk_cell BK102.out 0).trans rfl
                    have hcz13_1 : w9.cell? ⟨gb102, 1, none⟩ = some (.int .i64 0) := (blk_cell BK102.out 1).trans rfl
                    have hcz13_2 : w9.cell? ⟨gb102, 2, none⟩ = some (.int .i64 0) := (blk_cell BK102.out 2).trans rfl
                    have hcz13_3 : w9.cell? ⟨gb102, 3, none⟩ = some (.int .i64 0) := (blk_cell BK102.out 3).trans rfl
                    have hfz13_0 := blk_frozen BK102.out 0
                    have hfz13_1 := blk_frozen BK102.out 1
                    have hfz13_2 := blk_frozen BK102.out 2
                    have hfz13_3 := blk_frozen BK102.out 3
                    go_wp2
                    go_meet
                    case rel => exact ⟨_, (decide (((rd_T33 l0 x10_1).f1) > 1048576)), (by first | rfl | (simp; done) | (simp [*]; done)), H', ⟨by have := HK1.out; first | omega | exact Nat.le_refl _⟩, ⟨by (with_reducible repeat (first | refine blk_drewN ?_ _ | refine blk_drew ?_ | refine blk_alloc ?_ _)); refine blk_put (cs := #[.string ((rd_T33 l0 x10_1).f0), .int .i64 ((rd_T33 l0 x10_1).f1), .int .i64 ((rd_T33 l0 x10_1).f2), .int .i64 0]) ?_ 3 _ rfl; (with_reducible repeat (first | refine blk_drewN ?_ _ | refine blk_drew ?_ | refine blk_alloc ?_ _)); refine blk_put (cs := #[.string ((rd_T33 l0 x10_1).f0), .int .i64 ((rd_T33 l0 x10_1).f1), .int .i64 0, .int .i64 0]) ?_ 2 _ rfl; (with_reducible repeat (first | refine blk_drewN ?_ _ | refine blk_drew ?_ | refine blk_alloc ?_ _)); refine blk_put (cs := #[.string ((rd_T33 l0 x10_1).f0), .int .i64 0, .int .i64 0, .int .i64 0]) ?_ 1 _ rfl; (with_reducible repeat (first | refine blk_drewN ?_ _ | refine blk_drew ?_ | refine blk_alloc ?_ _)); refine blk_put (cs := #[.string (⟨#[]⟩ : ByteArray), .int .i64 0, .int .i64 0, .int .i64 0]) ?_ 0 _ rfl; (with_reducible repeat (first | refine blk_drewN ?_ _ | refine blk_drew ?_ | refine blk_alloc ?_ _)); exact BK102.out⟩, ⟨by repeat (first | (with_reducible first | exact HB.out | apply below_alloc | apply pw_below_drewN | apply below_drew1 | refine below_set ?_ GE102.out) | exact HB.out)⟩⟩
                case rest =>
                  clear HC8
                  try clear c1
                  try clear p1
                  try clear q1
                  try clear hx1
                  try clear c2
                  try clear c2b0
                  try clear c2b1
                  try clear p2
                  try clear c3
                  try clear c3b0
                  try clear c4
                  try clear c4b0
                  try clear c5
                  try clear c5b0
                  try clear c7
                  try clear p10
                  try clear q10
                  try clear hx10
                  try clear c11
                  try clear c11b0
                  try clear hcz10_0
                  try clear hcz10_1
                  try clear hcz10_2
                  try clear hcz10_3
                  try clear hcz12_0
                  try clear hcz12_1
                  try clear hcz12_2
                  try clear hcz12_3
                  try clear hcz13_0
                  try clear hcz13_1
                  try clear hcz13_2
                  try clear hcz13_3
                  try clear hfz10_0
                  try clear hfz10_1
                  try clear hfz10_2
                  try clear hfz10_3
                  try clear hfz12_0
                  try clear hfz12_1
                  try clear hfz12_2
                  try clear hfz12_3
                  try clear hfz13_0
                  try clear hfz13_1
                  try clear hfz13_2
                  try clear hfz13_3
                  try clear hx101_0
                  try clear hx101_1
                  try clear hx101_2
                  try clear hx101_3
                  try clear p101
                  try clear p2
                  try clear q101
                  obtain ⟨kq, x19_7, rfl, HA, HJ7, BK102, HB⟩ := hcut
                  cases kq with
                  | zero => exact absurd HA.out (by simp [auction_Check.j1])
                  | succ kj7 =>
                    have H := HA.out
                    clear HA
                    simp only [auction_Check.j1] at H
                    by_cases c14 : x19_7 = true
                    · subst c14
                      have H1 : (some 18) = some r := by rw [if_pos rfl] at H; exact H
                      clear H
                      have H := H1
                      clear H1
                      obtain rfl := Option.some.inj H
                      go_wp2
                      go_ret
                      exact ⟨by first | rfl | (simp [errW_none, errW_some] <;> rfl) | (simp [*, errW_none, errW_some] <;> rfl), by repeat (first | (with_reducible first | exact HB.out | apply below_alloc | apply pw_below_drewN | apply below_drew1 | refine below_set ?_ GE102.out) | exact HB.out)⟩
                    · replace c14 := Bool.eq_false_iff.mpr c14
                      subst c14
                      have H1 : ((auction_priced.f ((rd_T33 l0 x10_1).f2)).bind fun t104 => (if t104 = true then (if ((rd_T33 l0 x10_1).f3) < 0 then (some 28) else (if ((rd_T33 l0 x10_1).f3) > 86399 then (some 28) else (auction_Check.l0 kj7 l0 (l0.length : Int) (wrap64 (x10_1 + 1))))) else (some 28))) = some r := by rw [if_neg (show ¬ (false = true) by decide)] at H; exact H
                      clear H
                      have H := H1
                      clear H1
                      replace H := Option.bind_eq_some_iff.mp H
                      obtain ⟨t104, A150, H⟩ := H
                      replace H : (if t104 = true then (if ((rd_T33 l0 x10_1).f3) < 0 then (some 28) else (if ((rd_T33 l0 x10_1).f3) > 86399 then (some 28) else (auction_Check.l0 kj7 l0 (l0.length : Int) (wrap64 (x10_1 + 1))))) else (some 28)) = some r := H
                      have A15 := Aside0.mk A150
                      clear A150
                      by_cases c16 : t104 = true
                      · subst c16
                        have H1 : (if ((rd_T33 l0 x10_1).f3) < 0 then (some 28) else (if ((rd_T33 l0 x10_1).f3) > 86399 then (some 28) else (auction_Check.l0 kj7 l0 (l0.length : Int) (wrap64 (x10_1 + 1))))) = some r := by rw [if_pos rfl] at H; exact H
                        clear H
                        have H := H1
                        clear H1
                        by_cases c17 : ((rd_T33 l0 x10_1).f3) < 0
                        · rw [if_pos c17] at H
                          have c17b0 : decide (((rd_T33 l0 x10_1).f3) < 0) = true := decide_eq_true c17
                          clear c17
                          obtain rfl := Option.some.inj H
                          have hcz18_0 : wc.cell? ⟨gb102, 0, none⟩ = some (.string ((rd_T33 l0 x10_1).f0)) := (blk_cell BK102.out 0).trans rfl
                          have hcz18_1 : wc.cell? ⟨gb102, 1, none⟩ = some (.int .i64 ((rd_T33 l0 x10_1).f1)) := (blk_cell BK102.out 1).trans rfl
                          have hcz18_2 : wc.cell? ⟨gb102, 2, none⟩ = some (.int .i64 ((rd_T33 l0 x10_1).f2)) := (blk_cell BK102.out 2).trans rfl
                          have hcz18_3 : wc.cell? ⟨gb102, 3, none⟩ = some (.int .i64 ((rd_T33 l0 x10_1).f3)) := (blk_cell BK102.out 3).trans rfl
                          have hfz18_0 := blk_frozen BK102.out 0
                          have hfz18_1 := blk_frozen BK102.out 1
                          have hfz18_2 := blk_frozen BK102.out 2
                          have hfz18_3 := blk_frozen BK102.out 3
                          go_wp2_with (first | ((with_reducible refine gate_callee (f := 60) rfl ?_); refine goesL_ (some 31) rfl rfl Try.func60 (by kernel_rfl) rfl #[.int .i64 ((rd_T33 l0 x10_1).f2)] rfl (by (try simp only [List.map_toArray, List.map_cons, List.map_nil]); first | done | rfl | (simp only [List.length_drop, List.length_take]; rfl)) ?_; (with_reducible refine (auction_priced.calls ((rd_T33 l0 x10_1).f2) true _ A15.out).mono ?_); rintro e w' ⟨rfl, ⟨nd, rfl⟩⟩; refine ⟨_, rfl, ?_⟩))
                          go_ret
                          exact ⟨by first | rfl | (simp [errW_none, errW_some] <;> rfl) | (simp [*, errW_none, errW_some] <;> rfl), by repeat (first | (with_reducible first | exact HB.out | apply below_alloc | apply pw_below_drewN | apply below_drew1 | refine below_set ?_ GE102.out) | exact HB.out)⟩
                        · rw [if_neg c17] at H
                          have c17b0 : decide (((rd_T33 l0 x10_1).f3) < 0) = false := decide_eq_false c17
                          clear c17
                          by_cases c19 : ((rd_T33 l0 x10_1).f3) > 86399
                          · rw [if_pos c19] at H
                            have c19b0 : decide (86399 < ((rd_T33 l0 x10_1).f3)) = true := decide_eq_true c19
                            clear c19
                            obtain rfl := Option.some.inj H
                            have hcz20_0 : wc.cell? ⟨gb102, 0, none⟩ = some (.string ((rd_T33 l0 x10_1).f0)) := (blk_cell BK102.out 0).trans rfl
                            have hcz20_1 : wc.cell? ⟨gb102, 1, none⟩ = some (.int .i64 ((rd_T33 l0 x10_1).f1)) := (blk_cell BK102.out 1).trans rfl
                            have hcz20_2 : wc.cell? ⟨gb102, 2, none⟩ = some (.int .i64 ((rd_T33 l0 x10_1).f2)) := (blk_cell BK102.out 2).trans rfl
                            have hcz20_3 : wc.cell? ⟨gb102, 3, none⟩ = some (.int .i64 ((rd_T33 l0 x10_1).f3)) := (blk_cell BK102.out 3).trans rfl
                            have hfz20_0 := blk_frozen BK102.out 0
                            have hfz20_1 := blk_frozen BK102.out 1
                            have hfz20_2 := blk_frozen BK102.out 2
                            have hfz20_3 := blk_frozen BK102.out 3
                            go_wp2_with (first | ((with_reducible refine gate_callee (f := 60) rfl ?_); refine goesL_ (some 31) rfl rfl Try.func60 (by kernel_rfl) rfl #[.int .i64 ((rd_T33 l0 x10_1).f2)] rfl (by (try simp only [List.map_toArray, List.map_cons, List.map_nil]); first | done | rfl | (simp only [List.length_drop, List.length_take]; rfl)) ?_; (with_reducible refine (auction_priced.calls ((rd_T33 l0 x10_1).f2) true _ A15.out).mono ?_); rintro e w' ⟨rfl, ⟨nd, rfl⟩⟩; refine ⟨_, rfl, ?_⟩))
                            go_ret
                            exact ⟨by first | rfl | (simp [errW_none, errW_some] <;> rfl) | (simp [*, errW_none, errW_some] <;> rfl), by repeat (first | (with_reducible first | exact HB.out | apply below_alloc | apply pw_below_drewN | apply below_drew1 | refine below_set ?_ GE102.out) | exact HB.out)⟩
                          · rw [if_neg c19] at H
                            have c19b0 : decide (86399 < ((rd_T33 l0 x10_1).f3)) = false := decide_eq_false c19
                            clear c19
                            have H' := Aside0.mk H
                            clear H
                            have hcz21_0 : wc.cell? ⟨gb102, 0, none⟩ = some (.string ((rd_T33 l0 x10_1).f0)) := (blk_cell BK102.out 0).trans rfl
                            have hcz21_1 : wc.cell? ⟨gb102, 1, none⟩ = some (.int .i64 ((rd_T33 l0 x10_1).f1)) := (blk_cell BK102.out 1).trans rfl
                            have hcz21_2 : wc.cell? ⟨gb102, 2, none⟩ = some (.int .i64 ((rd_T33 l0 x10_1).f2)) := (blk_cell BK102.out 2).trans rfl
                            have hcz21_3 : wc.cell? ⟨gb102, 3, none⟩ = some (.int .i64 ((rd_T33 l0 x10_1).f3)) := (blk_cell BK102.out 3).trans rfl
                            have hfz21_0 := blk_frozen BK102.out 0
                            have hfz21_1 := blk_frozen BK102.out 1
                            have hfz21_2 := blk_frozen BK102.out 2
                            have hfz21_3 := blk_frozen BK102.out 3
                            go_wp2_with (first | ((with_reducible refine gate_callee (f := 60) rfl ?_); refine goesL_ (some 31) rfl rfl Try.func60 (by kernel_rfl) rfl #[.int .i64 ((rd_T33 l0 x10_1).f2)] rfl (by (try simp only [List.map_toArray, List.map_cons, List.map_nil]); first | done | rfl | (simp only [List.length_drop, List.length_take]; rfl)) ?_; (with_reducible refine (auction_priced.calls ((rd_T33 l0 x10_1).f2) true _ A15.out).mono ?_); rintro e w' ⟨rfl, ⟨nd, rfl⟩⟩; refine ⟨_, rfl, ?_⟩))
                            go_roundg kj7
                            case measure => have := HK1.out; have := HJ7.out; omega
                            case rel => exact ⟨(wrap64 (x10_1 + 1)), (by first | rfl | (simp; done) | (simp [*]; done)), H', ⟨by have := HK1.out; have := HJ7.out; omega⟩, ⟨by repeat (first | (with_reducible first | exact HB.out | apply below_alloc | apply pw_below_drewN | apply below_drew1 | refine below_set ?_ GE102.out) | exact HB.out)⟩⟩
                      · replace c16 := Bool.eq_false_iff.mpr c16
                        subst c16
                        have H1 : (some 28) = some r := by rw [if_neg (show ¬ (false = true) by decide)] at H; exact H
                        clear H
                        have H := H1
                        clear H1
                        obtain rfl := Option.some.inj H
                        have hcz22_0 : wc.cell? ⟨gb102, 0, none⟩ = some (.string ((rd_T33 l0 x10_1).f0)) := (blk_cell BK102.out 0).trans rfl
                        have hcz22_1 : wc.cell? ⟨gb102, 1, none⟩ = some (.int .i64 ((rd_T33 l0 x10_1).f1)) := (blk_cell BK102.out 1).trans rfl
                        have hcz22_2 : wc.cell? ⟨gb102, 2, none⟩ = some (.int .i64 ((rd_T33 l0 x10_1).f2)) := (blk_cell BK102.out 2).trans rfl
                        have hcz22_3 : wc.cell? ⟨gb102, 3, none⟩ = some (.int .i64 ((rd_T33 l0 x10_1).f3)) := (blk_cell BK102.out 3).trans rfl
                        have hfz22_0 := blk_frozen BK102.out 0
                        have hfz22_1 := blk_frozen BK102.out 1
                        have hfz22_2 := blk_frozen BK102.out 2
                        have hfz22_3 := blk_frozen BK102.out 3
                        go_wp2_with (first | ((with_reducible refine gate_callee (f := 60) rfl ?_); refine goesL_ (some 31) rfl rfl Try.func60 (by kernel_rfl) rfl #[.int .i64 ((rd_T33 l0 x10_1).f2)] rfl (by (try simp only [List.map_toArray, List.map_cons, List.map_nil]); first | done | rfl | (simp only [List.length_drop, List.length_take]; rfl)) ?_; (with_reducible refine (auction_priced.calls ((rd_T33 l0 x10_1).f2) false _ A15.out).mono ?_); rintro e w' ⟨rfl, ⟨nd, rfl⟩⟩; refine ⟨_, rfl, ?_⟩))
                        go_ret
                        exact ⟨by first | rfl | (simp [errW_none, errW_some] <;> rfl) | (simp [*, errW_none, errW_some] <;> rfl), by repeat (first | (with_reducible first | exact HB.out | apply below_alloc | apply pw_below_drewN | apply below_drew1 | refine below_set ?_ GE102.out) | exact HB.out)⟩
              · replace c7 := Bool.eq_false_iff.mpr c7
                subst c7
                have H1 : (some 10) = some r := by rw [if_neg (show ¬ (false = true) by decide)] at H; exact H
                clear H
                have H := H1
                clear H1
                obtain rfl := Option.some.inj H
                have p101 : 0 ≤ (x10_1 : Int) := of_decide_eq_true (by first | (with_reducible assumption) | assumption)
                have q101 : x10_1 < (l0.length : Int) := of_decide_eq_true (by first | (with_reducible assumption) | assumption)
                obtain ⟨ad101, e101, hx101_0, hx101_1, hx101_2, hx101_3⟩ := at_T33 HR0.out x10_1 p101 q101
                cases e101
                replace hx101_0 := (HB.out.cell (World.block_lt_of_cell? w _ hx101_0)).trans hx101_0
                replace hx101_1 := (HB.out.cell (World.block_lt_of_cell? w _ hx101_1)).trans hx101_1
                replace hx101_2 := (HB.out.cell (World.block_lt_of_cell? w _ hx101_2)).trans hx101_2
                replace hx101_3 := (HB.out.cell (World.block_lt_of_cell? w _ hx101_3)).trans hx101_3
                replace p101 := eq_true p101
                replace q101 := eq_true q101
                go_wp2_with (first | ((with_reducible refine gate_dst (N := 4) rfl ?_); refine box_event ?hg (N := 4) ?hd (cs := #[.string (⟨#[]⟩ : ByteArray), .int .i64 0, .int .i64 0, .int .i64 0]) (t := 33) ?hr ?_; (case hd => rfl); (case hg => rfl); (case hr => first | (go_simp; done) | (go_simp; rfl)); intro gb102 hg w23 hbox hb; have n0_ := Aside0.mk (below_step (by repeat (first | (with_reducible first | exact HB.out | apply below_alloc | apply pw_below_drewN | apply below_drew1) | exact HB.out)) hb); have n1_ := Aside0.mk (hbox); have n2_ := Aside0.mk ((by rw [hg]; exact (below_size (by repeat (first | (with_reducible first | exact HB.out | apply below_alloc | apply pw_below_drewN | apply below_drew1) | exact HB.out))) : w.heap.size ≤ gb102)); have n3_ := Aside0.mk ((by rw [hg]; exact (below_size (by repeat (first | (with_reducible first | exact HB.out | apply below_alloc | apply pw_below_drewN | apply below_drew1) | exact HB.out))) : w.heap.size ≤ gb102)); clear HB; have HB := n0_; have BK102 := n1_; have GW102 := n2_; have GE102 := n3_; clear n0_ n1_ n2_ n3_; clear hb hbox hg; have hcz24_0 : w23.cell? ⟨gb102, 0, none⟩ = some (.string (⟨#[]⟩ : ByteArray)) := (blk_cell BK102.out 0).trans rfl; have hcz24_1 : w23.cell? ⟨gb102, 1, none⟩ = some (.int .i64 0) := (blk_cell BK102.out 1).trans rfl; have hcz24_2 : w23.cell? ⟨gb102, 2, none⟩ = some (.int .i64 0) := (blk_cell BK102.out 2).trans rfl; have hcz24_3 : w23.cell? ⟨gb102, 3, none⟩ = some (.int .i64 0) := (blk_cell BK102.out 3).trans rfl; have hfz24_0 := blk_frozen BK102.out 0; have hfz24_1 := blk_frozen BK102.out 1; have hfz24_2 := blk_frozen BK102.out 2; have hfz24_3 := blk_frozen BK102.out 3) | ((with_reducible refine gate_callee (f := 59) rfl ?_); refine goesL_ (some 17) rfl rfl Try.func59 (by kernel_rfl) rfl #[.string ((rd_T33 l0 x10_1).f0)] rfl (by (try simp only [List.map_toArray, List.map_cons, List.map_nil]); first | done | rfl | (simp only [List.length_drop, List.length_take]; rfl)) ?_; (with_reducible refine (words_Name.calls k1 ((rd_T33 l0 x10_1).f0) false _ A6.out).mono ?_); rintro e w' ⟨rfl, ⟨nd, rfl⟩⟩; refine ⟨_, rfl, ?_⟩))
                go_ret
                exact ⟨by first | rfl | (simp [errW_none, errW_some] <;> rfl) | (simp [*, errW_none, errW_some] <;> rfl), by repeat (first | (with_reducible first | exact HB.out | apply below_alloc | apply pw_below_drewN | apply below_drew1 | refine below_set ?_ GE102.out) | exact HB.out)⟩
            · rw [if_neg c5] at H
              exact absurd H (by simp)
          · rw [if_neg c4] at H
            exact absurd H (by simp)
        · rw [if_neg c3] at H
          have c3b0 : decide (x10_1 < (l0.length : Int)) = false := decide_eq_false c3
          clear c3
          obtain rfl := Option.some.inj H
          go_wp2
          go_ret
          exact ⟨by first | rfl | (simp [errW_none, errW_some] <;> rfl) | (simp [*, errW_none, errW_some] <;> rfl), by repeat (first | (with_reducible first | exact HB.out | apply below_alloc | apply pw_below_drewN | apply below_drew1) | exact HB.out)⟩
end Go.Proofs.Ytokijibpdnepiaa.X
end
section
namespace Go.Proofs.Ytokijibpdnepiaa.X
open Go.RowKit Go.Proofs.YtokijibpdnepiaaW.PrintWords Go.Proofs.YtokijibpdnepiaaW.PrintLast Go.Proofs.YtokijibpdnepiaaW.PrintMore
attribute [local go_sem] max2_int min2_int max_two min_two max_three min_three max_four min_four
set_option linter.unusedVariables false
set_option linter.unusedSimpArgs false
open Go.Maps Go.WideMaps
def bidOf (l : List S33) (s : ByteArray) : Int := l.foldl (fun n b => if b.f0.toList = s.toList then wrap64 (n + b.f1) else n) 0
def missGo (k : Nat) (l : List S33) : List Int → List ByteArray → List Int → Option (List Int × Int)
  | acc, [], _ => some (acc, 0)
  | _, _ :: _, [] => none
  | acc, s :: ns, m :: ms => (words_Name.f k s).bind fun b => if b = false then some ([], 10) else if m < 0 then some ([], 18) else if 1048576 < m then some ([], 18) else
      if s.size ≤ maxLen ∧ acc.length < 17592186044416 then missGo k l (acc ++ [mx (wrap64 (m - bidOf l s)) 0]) ns ms else none
def auction_Missing.f (k : Nat) (names : List ByteArray) (least : List Int) (l : List S33) : Option (List Int × Int) :=
  (auction_Check.f k l).bind fun e => if e ≠ 0 then some ([], e) else if names.length ≠ least.length then some ([], 8) else if l.length ≤ 1024 ∧ (∀ b ∈ l, b.f0.size ≤ maxLen) then missGo k l [] names least else none
theorem missGo_mono (k : Nat) (l : List S33) : ∀ ns acc ms, LeO (missGo k l acc ns ms) (missGo (k + 1) l acc ns ms)
  | [], acc, ms => by simp only [missGo]; exact LeO.refl _
  | s :: ns, acc, [] => by simp only [missGo]; exact LeO.refl _
  | s :: ns, acc, m :: ms => by
    simp only [missGo]
    refine LeO.bind (words_Name.mono _ _) (fun b => ?_)
    refine LeO.ite (LeO.refl _) (LeO.ite (LeO.refl _) (LeO.ite (LeO.refl _) (LeO.ite ?_ (LeO.refl _))))
    exact missGo_mono k l ns _ ms
theorem auction_Missing.mono : ∀ a b c k, LeO (auction_Missing.f k a b c) (auction_Missing.f (k + 1) a b c) := by
  intro a b c k
  unfold auction_Missing.f
  refine LeO.bind (auction_Check.mono _ _) (fun e => LeO.ite (LeO.refl _) (LeO.ite (LeO.refl _) (LeO.ite ?_ (LeO.refl _))))
  exact missGo_mono k c a [] b
theorem strKeyed : Keyed Try.prog 9 := string_keyed Try.underlying9
set_option maxRecDepth 100000 in
theorem intZero (w : World) : (zeroValue 3).run Try.prog w = .ok (.int .i64 0) w := by kernel_rfl
theorem wf_wrap (n : Int) : (Lit.int .i64 (wrap64 n)).wf = true := by
  have : -9223372036854775808 ≤ wrap64 n ∧ wrap64 n ≤ 9223372036854775807 := by unfold wrap64; omega
  simp [Lit.wf, IntKind.min, IntKind.max, IntKind.signed, IntKind.bits]; omega
def BidD (l : List S33) (D : DataW Unit) : Prop := IsMap D ∧ ∀ s : ByteArray, D.atKey (.string s.data.toList) (.lit (.int .i64 0)) = .lit (.int .i64 (bidOf l s))
theorem bidOf_snoc (l : List S33) (b : S33) (s : ByteArray) : bidOf (l ++ [b]) s = if b.f0.toList = s.toList then wrap64 (bidOf l s + b.f1) else bidOf l s := by
  unfold bidOf; rw [List.foldl_append]; rfl
theorem bidD_step {l : List S33} {D : DataW Unit} (b : S33) (h : BidD l D) (hs : b.f0.size ≤ maxLen) {c : Int} (hc : D.atKey (.string b.f0.data.toList) (.lit (.int .i64 0)) = .lit (.int .i64 c)) :
    BidD (l ++ [b]) (D.put (.string b.f0.data.toList) (.lit (.int .i64 (wrap64 (c + b.f1))))) := by
  obtain ⟨⟨m, rfl⟩, h2⟩ := h
  refine ⟨by rw [DataW.put_eq]; exact ⟨_, rfl⟩, fun s => ?_⟩
  rw [bidOf_snoc]
  have et : ∀ a : ByteArray, a.toList = a.data.toList := fun a => ByteArray.toList_eq a
  by_cases e : b.f0.toList = s.toList
  · rw [if_pos e]
    rw [et, et] at e
    rw [← e, atKey_put_same ⟨m, rfl⟩ (strKeyed.key (keyOf_string_mk Try.underlying9 hs))]
    have hc2 := h2 b.f0
    rw [hc2] at hc
    injection hc with hc
    injection hc with _ hc
    have : bidOf l s = bidOf l b.f0 := by unfold bidOf; rw [et s, et b.f0, e]
    rw [this, hc]
  · rw [if_neg e]
    rw [et, et] at e
    rw [atKey_put_other (by intro h; injection h with h; exact e h.symm), h2]
set_option maxHeartbeats 4000000 in
set_option maxRecDepth 100000 in
theorem auction_Missing.calls (k : Nat) (A0 : Option Addr) (c0 : Nat) (l0 : List ByteArray) (A1 : Option Addr) (c1 : Nat) (l1 : List Int) (A2 : Option Addr) (c2 : Nat) (l2 : List S33) (r1 : List Int) (r2 : Int) (w : World) (hr0 : Kd.C Kd.string w A0 l0.length l0) (hc0 : l0.length ≤ c0) (hr1 : Kd.C (Kd.int .i64) w A1 l1.length l1) (hc1 : l1.length ≤ c1) (hr2 : Kd.C k33 w A2 l2.length l2) (hc2 : l2.length ≤ c2) (h0 : auction_Missing.f k l0 l1 l2 = some (r1, r2)) :
    Calls Try.prog 38 #[.slice A0 l0.length c0, .slice A1 l1.length c1, .slice A2 l2.length c2] w fun e w' => ∃ v0_ : Value, e = .returned (.tuple #[v0_, .int .i64 r2]) ∧ Kd.R (Kd.int .i64) 3 w' w.heap.size (fun _ => True) v0_ r1 ∧ Below w.heap.size w w' := by
  unfold auction_Missing.f at h0
  obtain ⟨e, he, h⟩ := Option.bind_eq_some_iff.1 h0
  clear h0
  have HR0 := Aside0.mk hr0
  have HR1 := Aside0.mk hr1
  have HR2 := Aside0.mk hr2
  have HE := Aside0.mk he
  have hmm := @run_makeMap Try.prog
  have hlen0 := (show l0.length ≤ 9223372036854775807 from Kd.C_max hr0)
  have hlen2 := (show l2.length ≤ 9223372036854775807 from Kd.C_max hr2)
  clear hr0 hr1 hr2 he
  by_cases e0 : e ≠ 0
  · rw [if_pos e0] at h
    obtain ⟨rfl, rfl⟩ : [] = r1 ∧ e = r2 := by simpa using h
    have hne : (e != 0) = true := by simpa using e0
    clear h e0
    go_enter Try.func38, Try.ntmps38
    go_wp2_with (go_at_call 18; refine (auction_Check.calls k A2 c2 l2 e _ HR2.out hc2 HE.out).mono ?_; rintro e w1 ⟨rfl, hb1⟩)
    refine bodyPost_ret (v := .tuple #[.slice none 0 0, .int .i64 e]) (by simp [results, Try.results38, go_sem]) rfl ⟨_, rfl, Kd.R_nil _ _ _ _ _, hb1⟩
  rw [if_neg e0] at h
  obtain rfl : e = 0 := Decidable.not_not.1 e0
  clear e0
  by_cases hl : l0.length ≠ l1.length
  · rw [if_pos hl] at h
    obtain ⟨rfl, rfl⟩ : [] = r1 ∧ 8 = r2 := by simpa using h
    have hne : ((l0.length : Int) != (l1.length : Int)) = true := bne_iff_ne.2 (by omega)
    clear h
    go_enter Try.func38, Try.ntmps38
    go_wp2_with (go_at_call 18; refine (auction_Check.calls k A2 c2 l2 0 _ HR2.out hc2 HE.out).mono ?_; rintro e w1 ⟨rfl, hb1⟩)
    refine bodyPost_ret (v := .tuple #[.slice none 0 0, .int .i64 8]) (by simp [results, Try.results38, go_sem]) rfl ⟨_, rfl, Kd.R_nil _ _ _ _ _, hb1⟩
  rw [if_neg hl] at h
  replace hl : l0.length = l1.length := Decidable.not_not.1 hl
  by_cases hg : l2.length ≤ 1024 ∧ (∀ b ∈ l2, b.f0.size ≤ maxLen)
  case neg => rw [if_neg hg] at h; cases h
  rw [if_pos hg] at h
  obtain ⟨hg1, hg2⟩ := hg
  have HG := Aside0.mk h
  have HS := Aside0.mk hg2
  have hne : ((l0.length : Int) != (l1.length : Int)) = false := by simp [hl]
  have HLN := Aside0.mk hl
  clear h hg2 hl
  go_enter Try.func38, Try.ntmps38
  go_wp2_with (go_at_call 18; refine (auction_Check.calls k A2 c2 l2 0 _ HR2.out hc2 HE.out).mono ?_; rintro e w1 ⟨rfl, hb1⟩; have HB1 := Aside0.mk hb1; clear hb1)
  have hs1 := HB1.out.size
  go_loopg [26] l2.length (fun kq v26 wr => ∃ (i : Nat) (D : DataW Unit), v26 = .int .i64 (i : Int) ∧ Aside0 (kq + i = l2.length) ∧ Aside0 (wr.ownsMap Try.prog 9 (plainElem Try.prog 3) w1.heap.size i D) ∧ Aside0 (BidD (l2.take i) D) ∧ Aside0 (Below w.heap.size w wr) ∧ Aside0 (w1.heap.size < wr.heap.size))
  case atStart => exact ⟨0, .map [], rfl, ⟨by omega⟩, ⟨World.ownsMap_made _ _ _ _⟩, ⟨⟨_, rfl⟩, fun s => rfl⟩, ⟨HB1.out.alloc hs1 _⟩, ⟨by simp⟩⟩
  case round =>
    obtain ⟨i, D, rfl, Hk, HM, HD, HB2, HL⟩ := hrel
    have hfl := HL.out
    by_cases hlt : i < l2.length
    · obtain ⟨ad, ea, hx0, hx1, hx2, hx3⟩ := at_T33 HR2.out (i : Int) (by omega) (by omega)
      cases ea
      have hti : rd_T33 l2 (i : Int) = l2[i] := by simp [rd_T33, hlt]
      rw [hti, Int.toNat_natCast] at hx0 hx1 hx2 hx3
      replace hx0 := (HB2.out.cell (World.block_lt_of_cell? w _ hx0)).trans hx0
      replace hx1 := (HB2.out.cell (World.block_lt_of_cell? w _ hx1)).trans hx1
      replace hx2 := (HB2.out.cell (World.block_lt_of_cell? w _ hx2)).trans hx2
      replace hx3 := (HB2.out.cell (World.block_lt_of_cell? w _ hx3)).trans hx3
      have htk : l2.take (i + 1) = l2.take i ++ [l2[i]] := List.take_succ_eq_append_getElem hlt
      have hsz : l2[i].f0.size ≤ maxLen := HS.out _ (List.getElem_mem hlt)
      generalize l2[i] = t at hx0 hx1 hx2 hx3 htk hsz
      have HKY := Aside0.mk (keyOf_string_mk Try.underlying9 hsz)
      have HT := Aside0.mk htk
      have HSZ := Aside0.mk hsz
      have HLT := Aside0.mk hlt
      clear hti htk hsz
      go_wp2_with (first
        | (at_lookup; refine wpList_lookup_own_int _ rfl _ _ 123 rfl 9 3 .i64 strKeyed Try.underlying123 Try.underlying3 (intZero _) w1.heap.size i D rfl (HM.out.alloc _) _ _ rfl HKY.out ?_; intro c hat hwc; have HAT := Aside0.mk hat; clear hat hwc)
        | (at_mapUpdate; refine wpList_mapUpdate_own _ rfl _ _ _ 123 rfl 9 3 strKeyed Try.underlying123 (plainElem (H := Unit) Try.prog 3) w1.heap.size i D rfl (HM.out.alloc _) (by unfold maxLen; omega) _ _ _ rfl rfl HKY.out _ [] (plainElem_int Try.underlying3 (wf_wrap _)) ?_; intro w2 hown2 hgrow2; have HM2 := Aside0.mk hown2; have HG5 := Aside0.mk hgrow2; clear hown2 hgrow2))
      have s2 := HG5.out.size
      simp at s2
      go_roundg (gk - 1)
      case measure => have := Hk.out; omega
      case rel =>
        refine ⟨i + 1, _, by go_num, ⟨by have := Hk.out; omega⟩, HM2, ⟨by rw [HT.out]; exact bidD_step t HD.out HSZ.out HAT.out⟩, ⟨?_⟩, ⟨by omega⟩⟩
        exact Below.grown (HB2.out.alloc HB2.out.size _) HG5.out (by simp; omega) (fun j hj => by cases hj; exact hs1)
    · have hi2 : i = l2.length := by have := Hk.out; omega
      subst hi2
      rw [List.take_length] at HD
      obtain ⟨n1, hn1⟩ : ∃ n, l2.length = n := ⟨_, rfl⟩
      rw [hn1] at HM
      clear HR2 HE hn1
      go_wp2_with fail
      go_loopg [6, 40] l0.length (fun kq v6 v40 wr2 => ∃ (j : Nat) (acc : List Int), v40 = .int .i64 (j : Int) ∧ Aside0 (kq + j = l0.length) ∧ Aside0 (missGo k l2 acc (l0.drop j) (l1.drop j) = some (r1, r2)) ∧ Aside0 (Kd.R (Kd.int .i64) 3 wr2 w.heap.size (fun q => q ≠ w1.heap.size) v6 acc) ∧ Aside0 (wr2.ownsMap Try.prog 9 (plainElem Try.prog 3) w1.heap.size n1 D) ∧ Aside0 (Below w.heap.size w wr2) ∧ Aside0 (w1.heap.size < wr2.heap.size))
      case atStart => exact ⟨0, [], rfl, ⟨by omega⟩, HG, ⟨Kd.R_nil _ _ _ _ _⟩, HM, HB2, HL⟩
      case round =>
        obtain ⟨j, acc, rfl, Hk2, HG2, HO, HM2, HB3, HL2⟩ := hrel
        obtain ⟨A6, c6, rfl⟩ := Kd.R_slice HO.out
        by_cases hj : j < l0.length
        · have hj1 : j < l1.length := by have := HLN.out; omega
          have hg := HG2.out
          rw [(List.getElem_cons_drop hj).symm, (List.getElem_cons_drop hj1).symm, missGo] at hg
          obtain ⟨ad5, e5, hx5⟩ := Kd.at_string HR0.out (j : Int) (by omega) (by omega)
          obtain ⟨ad6, e6, hx6⟩ := Kd.at_int HR1.out (j : Int) (by omega) (by omega)
          cases e5
          cases e6
          have r5 : rdOf ByteArray.empty l0 (j : Int) = l0[j] := by simp [rdOf, hj]
          have r6 : Go.Proofs.YtokijibpdnepiaaW.PrintWords.rd l1 (j : Int) = l1[j] := by simp [Go.Proofs.YtokijibpdnepiaaW.PrintWords.rd, hj1]
          rw [r5, Int.toNat_natCast] at hx5
          rw [r6, Int.toNat_natCast] at hx6
          replace hx5 := (HB3.out.cell (World.block_lt_of_cell? w _ hx5)).trans hx5
          replace hx6 := (HB3.out.cell (World.block_lt_of_cell? w _ hx6)).trans hx6
          generalize l0[j] = s at hx5 hg
          generalize l1[j] = m at hx6 hg
          obtain ⟨b, hb, hg⟩ := Option.bind_eq_some_iff.1 hg
          have HNM := Aside0.mk hb
          have hjj : (j : Int) < (l0.length : Int) := by omega
          have hjk : (j : Int) < (l1.length : Int) := by omega
          clear r5 r6 hb HG2
          cases b with
          | false =>
            rw [if_pos rfl] at hg
            obtain ⟨rfl, rfl⟩ : [] = r1 ∧ 10 = r2 := by simpa using hg
            clear hg
            go_wp2_with (go_at_call 59; (with_reducible refine (words_Name.calls k s false _ HNM.out).mono ?_); rintro e w' ⟨rfl, ⟨nd, rfl⟩⟩)
            refine bodyPost_ret (v := .tuple #[.slice none 0 0, .int .i64 10]) (by simp [results, Try.results38, go_sem]) rfl ⟨_, rfl, Kd.R_nil _ _ _ _ _, pw_below_drewN HB3.out _⟩
          | true =>
            rw [if_neg (by decide)] at hg
            by_cases d1 : m < 0
            · rw [if_pos d1] at hg
              obtain ⟨rfl, rfl⟩ : [] = r1 ∧ 18 = r2 := by simpa using hg
              replace d1 := decide_eq_true d1
              clear hg
              go_wp2_with (go_at_call 59; (with_reducible refine (words_Name.calls k s true _ HNM.out).mono ?_); rintro e w' ⟨rfl, ⟨nd, rfl⟩⟩)
              refine bodyPost_ret (v := .tuple #[.slice none 0 0, .int .i64 18]) (by simp [results, Try.results38, go_sem]) rfl ⟨_, rfl, Kd.R_nil _ _ _ _ _, pw_below_drewN HB3.out _⟩
            rw [if_neg d1] at hg
            by_cases d2 : 1048576 < m
            · rw [if_pos d2] at hg
              obtain ⟨rfl, rfl⟩ : [] = r1 ∧ 18 = r2 := by simpa using hg
              replace d1 := decide_eq_false d1
              replace d2 := decide_eq_true d2
              clear hg
              go_wp2_with (go_at_call 59; (with_reducible refine (words_Name.calls k s true _ HNM.out).mono ?_); rintro e w' ⟨rfl, ⟨nd, rfl⟩⟩)
              refine bodyPost_ret (v := .tuple #[.slice none 0 0, .int .i64 18]) (by simp [results, Try.results38, go_sem]) rfl ⟨_, rfl, Kd.R_nil _ _ _ _ _, pw_below_drewN HB3.out _⟩
            rw [if_neg d2] at hg
            by_cases d3 : s.size ≤ maxLen ∧ acc.length < 17592186044416
            case neg => rw [if_neg d3] at hg; cases hg
            rw [if_pos d3] at hg
            obtain ⟨d4, d5⟩ := d3
            have HD5 := Aside0.mk d5
            replace d1 := decide_eq_false d1
            replace d2 := decide_eq_false d2
            have hrun : ∀ W : World, W.heap = wr.heap → (Instr.lookup 123 (.map (some w1.heap.size)) (.string s) false).run Try.prog W = .ok (.int .i64 (bidOf l2 s)) W := by
              intro W hW
              have hown : W.ownsMap Try.prog 9 (plainElem Try.prog 3) w1.heap.size n1 D := by
                obtain ⟨es, clock, h1, h2⟩ := HM2.out
                exact ⟨es, clock, by rw [hW]; exact h1, h2⟩
              obtain ⟨c, hrun, hat, _⟩ := hown.lookup_int strKeyed Try.underlying123 Try.underlying3 (intZero _) (keyOf_string_mk Try.underlying9 d4)
              have := HD.out.2 s
              rw [this] at hat
              injection hat with hat
              injection hat with _ hat
              rw [hat]
              exact hrun
            obtain ⟨z, hz⟩ : ∃ z, wrap64 (m - bidOf l2 s) = z := ⟨_, rfl⟩
            rw [hz] at hg
            obtain ⟨y, hy⟩ : ∃ y, (if z < 0 then (0 : Int) else z) = y := ⟨_, rfl⟩
            have hy2 : mx z 0 = y := hy
            rw [hy2] at hg
            clear hy2
            have HG3 := Aside0.mk hg
            clear hg d4 d5
            go_wp2_with (go_at_call 59; (with_reducible refine (words_Name.calls k s true _ HNM.out).mono ?_); rintro e w' ⟨rfl, ⟨nd, rfl⟩⟩)
            refine start_ (n := 13) (S := fun w' => w'.cell? (ad6.add j) = some (.int .i64 m) ∧ (Instr.lookup 123 (.map (some w1.heap.size)) (.string s) false).run Try.prog w' = .ok (.int .i64 (bidOf l2 s)) w') (ds := [10, 11]) #[false, false, false, false, false, false, false, false, false, false, false, false, false] (by kernel_rfl) rfl rfl ⟨hx6, hrun _ rfl⟩ (fun hHeld => ?_)
            obtain ⟨E, hE⟩ : ∃ E, (wr.drewN nd).drew = E := ⟨_, rfl⟩
            have HBE : Below w.heap.size w E := by rw [← hE]; exact below_drew1 (pw_below_drewN HB3.out _)
            have HOE : Kd.R (Kd.int .i64) 3 E w.heap.size (fun q => q ≠ w1.heap.size) (.slice A6 acc.length c6) acc := by rw [← hE]; exact Kd.R_drew (Kd.R_drewN HO.out _)
            have HME : E.ownsMap Try.prog 9 (plainElem Try.prog 3) w1.heap.size n1 D := by rw [← hE]; exact HM2.out
            have HLE : w1.heap.size < E.heap.size := by rw [← hE]; exact HL2.out
            have HBE := Aside0.mk HBE
            have HOE := Aside0.mk HOE
            have HME := Aside0.mk HME
            have HLE := Aside0.mk HLE
            rw [hE] at hHeld ⊢
            clear hE hx5 hx6 hrun
            refine pure_ (i := 0) (N := some 60) (v := ?_) (a' := ?_) #[true, false, false, false, false, false, false, false, false, false, false, false, false] rfl rfl (by kernel_rfl) (fun _ _ _ h => h) (Or.inl ⟨by rfl, ?_⟩) ?_ ?_
            rotate_left
            · intro w'
              go_simp
              with_reducible rfl
            rotate_left
            · simp only [Act.put, List.setIfInBounds_toArray, List.set_cons_zero, List.set_cons_succ, i64_w, i32_w]
              rfl
            refine pure_ (i := 1) (N := some 61) (v := ?_) (a' := ?_) #[true, true, false, false, false, false, false, false, false, false, false, false, false] rfl rfl (by kernel_rfl) (fun _ _ _ h => h) (Or.inl ⟨by rfl, ?_⟩) ?_ ?_
            rotate_left
            · intro w'
              go_simp
              with_reducible rfl
            rotate_left
            · simp only [Act.put, List.setIfInBounds_toArray, List.set_cons_zero, List.set_cons_succ, i64_w, i32_w]
              rfl
            refine pure_ (i := 2) (N := some 62) (v := ?_) (a' := ?_) #[true, true, true, false, false, false, false, false, false, false, false, false, false] rfl rfl (by kernel_rfl) (fun _ _ _ h => h) (Or.inl ⟨by rfl, ?_⟩) ?_ ?_
            rotate_left
            · intro w'
              go_simp
              with_reducible rfl
            rotate_left
            · simp only [Act.put, List.setIfInBounds_toArray, List.set_cons_zero, List.set_cons_succ, i64_w, i32_w]
              rfl
            refine pure_ (i := 3) (N := some 63) (v := ?_) (a' := ?_) #[true, true, true, true, false, false, false, false, false, false, false, false, false] rfl rfl (by kernel_rfl) (fun _ _ _ h => h) (Or.inl ⟨by rfl, ?_⟩) ?_ ?_
            rotate_left
            · intro w'
              go_simp
              with_reducible rfl
            rotate_left
            · simp only [Act.put, List.setIfInBounds_toArray, List.set_cons_zero, List.set_cons_succ, i64_w, i32_w]
              rfl
            refine take_ (i := 4) (N := some 64) (v := ?_) (a' := ?_) #[true, true, true, true, true, false, false, false, false, false, false, false, false] rfl rfl (by kernel_rfl) (fun _ _ _ h => h) (Or.inl ⟨by rfl, ?_⟩) hHeld ?_ ?_
            rotate_left
            · rintro w' ⟨s0, s1⟩
              go_simp
              with_reducible rfl
            rotate_left
            · simp only [Act.put, List.setIfInBounds_toArray, List.set_cons_zero, List.set_cons_succ, i64_w, i32_w]
              rfl
            refine pure_ (i := 5) (N := some 65) (v := ?_) (a' := ?_) #[true, true, true, true, true, true, false, false, false, false, false, false, false] rfl rfl (by kernel_rfl) (fun _ _ _ h => h) (Or.inl ⟨by rfl, ?_⟩) ?_ ?_
            rotate_left
            · intro w'
              go_simp
              with_reducible rfl
            rotate_left
            · simp only [Act.put, List.setIfInBounds_toArray, List.set_cons_zero, List.set_cons_succ, i64_w, i32_w]
              rfl
            refine pure_ (i := 6) (N := some 66) (v := ?_) (a' := ?_) #[true, true, true, true, true, true, true, false, false, false, false, false, false] rfl rfl (by kernel_rfl) (fun _ _ _ h => h) (Or.inl ⟨by rfl, ?_⟩) ?_ ?_
            rotate_left
            · intro w'
              go_simp
              with_reducible rfl
            rotate_left
            · simp only [Act.put, List.setIfInBounds_toArray, List.set_cons_zero, List.set_cons_succ, i64_w, i32_w]
              rfl
            refine take_ (i := 7) (N := some 67) (v := ?_) (a' := ?_) #[true, true, true, true, true, true, true, true, false, false, false, false, false] rfl rfl (by kernel_rfl) (fun _ _ _ h => h) (Or.inl ⟨by rfl, ?_⟩) hHeld ?_ ?_
            rotate_left
            · rintro w' ⟨s0, s1⟩
              go_simp
              with_reducible rfl
            rotate_left
            · simp only [Act.put, List.setIfInBounds_toArray, List.set_cons_zero, List.set_cons_succ, i64_w, i32_w]
              rfl
            refine pure_ (i := 8) (N := some 68) (v := ?_) (a' := ?_) #[true, true, true, true, true, true, true, true, true, false, false, false, false] rfl rfl (by kernel_rfl) (fun _ _ _ h => h) (Or.inl ⟨by rfl, ?_⟩) ?_ ?_
            rotate_left
            · intro w'
              go_simp
              with_reducible rfl
            rotate_left
            · simp only [Act.put, List.setIfInBounds_toArray, List.set_cons_zero, List.set_cons_succ, i64_w, i32_w, hz]
              rfl
            refine pure_ (i := 9) (N := some 69) (v := ?_) (a' := ?_) #[true, true, true, true, true, true, true, true, true, true, false, false, false] rfl rfl (by kernel_rfl) (fun _ _ _ h => h) (Or.inl ⟨by rfl, ?_⟩) ?_ ?_
            rotate_left
            · intro w'
              go_simp
              with_reducible rfl
            rotate_left
            · simp only [Act.put, List.setIfInBounds_toArray, List.set_cons_zero, List.set_cons_succ, i64_w, i32_w, hy]
              rfl
            refine last_ (i := 10) (N := some 70) #[true, true, true, true, true, true, true, true, true, true, true, false, false] rfl rfl (by kernel_rfl) (by decide) (fun K hK => ?_)
            refine value_ (w1 := ?_) (v := ?_) (by rfl) rfl ?_ ?_
            rotate_left 2
            · go_simp
              constructor
              · rfl
              · rfl
            refine hK.out _ _ ?_
            clear hK K
            refine norm_ (a' := ?_) ?_ ?_
            rotate_left
            · show Act.put _ (some 70) _ = _
              simp only [Act.put, List.setIfInBounds_toArray, List.set_cons_zero, List.set_cons_succ, i64_w, i32_w]
              rfl
            refine last_ (i := 11) (N := some 71) #[true, true, true, true, true, true, true, true, true, true, true, true, false] rfl rfl (by kernel_rfl) (by decide) (fun K hK => ?_)
            refine Kd.R_append_step (Kd.int .i64) (w0 := w) w.heap.size (by rfl) (.tmp 60) (.tmp 70) 54 3 (.int .i64 0) 8 rfl Try.underlying54 info3 rfl (by decide) (by omega) (.slice A6 acc.length c6) acc y [.int .i64 y] (fun q => q ≠ w1.heap.size) (fun _ => False) rfl rfl ?aP (fun _ hk => hk.elim) ?aF ?aO ?aB ?aS ?aL ?_
            (case aP => exact rfl)
            (case aB => exact HBE.out)
            (case aF => exact (fun q hq => by have := HLE.out; omega))
            (case aO => exact HOE.out)
            (case aS => exact HBE.out.size)
            (case aL => have := HD5.out; omega)
            intro v9 w9 ho hb hg hat
            have HO9 := Aside0.mk ho
            have HB9 := Aside0.mk hb
            have HM9 := Aside0.mk (HME.out.kept hg (fun e => HOE.out.1 _ e.symm rfl))
            have HL9 := Aside0.mk (Nat.lt_of_lt_of_le HLE.out hg.size)
            clear ho hb hg hat
            refine hK.out _ _ ?_
            clear hK K
            refine norm_ (a' := ?_) ?_ ?_
            rotate_left
            · show Act.put _ (some 71) _ = _
              simp only [Act.put, List.setIfInBounds_toArray, List.set_cons_zero, List.set_cons_succ, i64_w, i32_w]
              rfl
            refine pure_ (i := 12) (N := some 6) (v := ?_) (a' := ?_) #[true, true, true, true, true, true, true, true, true, true, true, true, true] rfl rfl (by kernel_rfl) (fun _ _ _ h => h) (Or.inl ⟨by rfl, ?_⟩) ?_ ?_
            rotate_left
            · intro w'
              go_simp
              with_reducible rfl
            rotate_left
            · simp only [Act.put, List.setIfInBounds_toArray, List.set_cons_zero, List.set_cons_succ, i64_w, i32_w]
              rfl
            refine done_ (by kernel_rfl) ?_
            go_wp2
            go_roundg (gk - 1)
            case measure => have := Hk2.out; omega
            case rel => exact ⟨j + 1, _, by go_num, ⟨by have := Hk2.out; omega⟩, HG3, HO9, HM9, HB9, HL9⟩
        · have hj2 : j = l0.length := by have := Hk2.out; omega
          have hg := HG2.out
          rw [List.drop_of_length_le (by omega), missGo] at hg
          obtain ⟨rfl, rfl⟩ : acc = r1 ∧ 0 = r2 := by simpa using hg
          clear hg HG2
          subst hj2
          go_wp2_with fail
          refine bodyPost_ret (v := .tuple #[.slice A6 acc.length c6, .int .i64 0]) (by simp [results, Try.results38, go_sem]) rfl ⟨_, rfl, Kd.R_mono HO.out (fun _ _ => trivial), HB3.out⟩
end Go.Proofs.Ytokijibpdnepiaa.X
end
section
namespace Go.Proofs.Ytokijibpdnepiaa.X
open Go.RowKit Go.Proofs.YtokijibpdnepiaaW.PrintWords Go.Proofs.YtokijibpdnepiaaW.PrintLast Go.Proofs.YtokijibpdnepiaaW.PrintMore
attribute [local go_sem] max2_int min2_int max_two min_two max_three min_three max_four min_four
set_option linter.unusedVariables false
set_option linter.unusedSimpArgs false
open Go.Maps Go.WideMaps
set_option maxRecDepth 100000 in
theorem unitZero (w : World) : (zeroValue 118).run Try.prog w = .ok (.agg #[]) w := by kernel_rfl
def SeenS : List ByteArray → DataW Unit → Prop
  | [], D => D = .map []
  | s :: t, D => s.size ≤ maxLen ∧ ∃ D', SeenS t D' ∧ D = D'.put (.string s.data.toList) (.agg [])
def strHas (seen : List ByteArray) (s : ByteArray) : Bool := seen.any fun x => x.toList == s.toList
theorem seenS_isMap : ∀ (seen : List ByteArray) (D : DataW Unit), SeenS seen D → IsMap D
  | [], D, h => by rw [show D = .map [] from h]; exact ⟨_, rfl⟩
  | s :: t, D, h => by
    obtain ⟨_, D', h1, rfl⟩ := h
    obtain ⟨m, hm⟩ := seenS_isMap t D' h1
    rw [hm, DataW.put_eq]
    exact ⟨_, rfl⟩
theorem has_seenS : ∀ (seen : List ByteArray) (D : DataW Unit) (s : ByteArray), SeenS seen D → s.size ≤ maxLen → Maps.has D (.string s.data.toList) = strHas seen s
  | [], D, s, h, _ => by rw [show D = .map [] from h]; simp [strHas, Maps.has]
  | x :: t, D, s, h, hs => by
    obtain ⟨hx, D', h1, rfl⟩ := h
    have ih := has_seenS t D' s h1 hs
    have et : ∀ a : ByteArray, a.toList = a.data.toList := fun a => ByteArray.toList_eq a
    by_cases e : x.toList = s.toList
    · have e2 : x.data.toList = s.data.toList := by rw [← et, ← et, e]
      rw [← e2, has_put_same (seenS_isMap t D' h1) (strKeyed.key (keyOf_string_mk Try.underlying9 hx))]
      simp [strHas, e]
    · have e2 : (Lit.string s.data.toList) ≠ .string x.data.toList := by
        intro h
        injection h with h
        exact e (by rw [et, et, h])
      rw [has_put_other e2, ih]
      simp [strHas, e]
def awStep (s : Int × Bool) (a : S52) : Int × Bool := if 0 < a.f1 then (if s.2 = true then (if s.1 < a.f2 then (a.f2, true) else s) else (a.f2, true)) else s
def awSeen (l : List ByteArray) (a : S52) : List ByteArray := if 0 < a.f1 then a.f0 :: l else l
def ascOk (p : ByteArray) : List ByteArray → Bool
  | [] => true
  | s :: t => if Op.bytesLess p.toList s.toList = true then ascOk s t else false
def ascAll : List ByteArray → Bool
  | [] => true
  | p :: t => ascOk p t
def wellF (l : List S33) (seen : List ByteArray) (worst : Int × Bool) (slack : Int) (name : ByteArray) : Bool :=
  if strHas seen name = true then true else if (bestOf l name).2 = true then (if worst.2 = true then decide (wrap64 ((bestOf l name).1 - slack) ≤ worst.1) else false) else false
def clsGo (l : List S33) (seen : List ByteArray) (worst : Int × Bool) (slack : Int) : List Int → List ByteArray → List Int → Option (List Int)
  | acc, [], _ => some acc
  | _, _ :: _, [] => none
  | acc, s :: ns, m :: ms => if s.size ≤ maxLen ∧ acc.length < 17592186044416 then clsGo l seen worst slack (acc ++ [if 0 < m then 1 else if wellF l seen worst slack s = true then 3 else 2]) ns ms else none
def clsTail (names : List ByteArray) (mi : List Int) (l : List S33) (awards : List S52) (slack : Int) : Option (List Int × Int) :=
  if ascAll names = false then some ([], 12) else if slack < 0 then some ([], 2) else if 68719476736 < slack then some ([], 2) else if 1024 < awards.length then some ([], 8) else
    if ∀ a ∈ awards, a.f0.size ≤ maxLen then (clsGo l (awards.foldl awSeen []) (awards.foldl awStep (0, false)) slack [] names mi).bind fun o => some (o, 0) else none
def junior_Classes.f (k : Nat) (names : List ByteArray) (must : List Int) (l : List S33) (awards : List S52) (slack : Int) : Option (List Int × Int) :=
  (auction_Check.f k l).bind fun e => if e ≠ 0 then some ([], e) else (auction_Missing.f k names must l).bind fun m => if m.2 ≠ 0 then some ([], m.2) else clsTail names m.1 l awards slack
theorem junior_Classes.mono : ∀ a b c d e k, LeO (junior_Classes.f k a b c d e) (junior_Classes.f (k + 1) a b c d e) := by
  intro a b c d e k
  unfold junior_Classes.f
  exact LeO.bind (auction_Check.mono _ _) (fun e => LeO.ite (LeO.refl _) (LeO.bind (auction_Missing.mono _ _ _ _) (fun m => LeO.ite (LeO.refl _) (LeO.refl _))))
set_option maxHeartbeats 1600000 in
set_option maxRecDepth 100000 in
theorem well_calls (b15 b7 b14 b9 gM n : Nat) (A2 : Option Addr) (c2 : Nat) (l2 : List S33) (x : Int) (s : Bool) (slack : Int) (seen : List ByteArray) (D : DataW Unit) (name : ByteArray) (w : World) (h15 : w.heap[b15]? = some (.cells #[.map (some gM)] 115 (0, 0))) (h7 : w.heap[b7]? = some (.cells #[.slice A2 l2.length c2] 22 (0, 0))) (h14 : w.heap[b14]? = some (.cells #[.int .i64 x, .bool s] 114 (0, 0))) (h9 : w.heap[b9]? = some (.cells #[.int .i64 slack] 3 (0, 0))) (hM : w.ownsMap Try.prog 9 unitElem gM n D) (hS : SeenS seen D) (hC : Kd.C k33 w A2 l2.length l2) (hc2 : l2.length ≤ c2) (hsz : name.size ≤ maxLen) :
    Calls Try.prog 67 #[.string name, .pointer (some ⟨b15, 0, none⟩), .pointer (some ⟨b7, 0, none⟩), .pointer (some ⟨b14, 0, none⟩), .pointer (some ⟨b9, 0, none⟩)] w fun e w' => e = .returned (.bool (wellF l2 seen (x, s) slack name)) ∧ Below w.heap.size w w' := by
  have hx15 := blk_one h15
  have hx7 := blk_one h7
  have H7 := Aside0.mk h7
  have H9 := Aside0.mk h9
  have H14 := Aside0.mk h14
  have HM := Aside0.mk hM
  have HC := Aside0.mk hC
  have HKY := Aside0.mk (keyOf_string_mk Try.underlying9 hsz)
  have HHS := Aside0.mk (has_seenS seen D name hS hsz)
  have hx7b : ∀ o, (w.alloc o).cell? ⟨b7, 0, none⟩ = some (.slice A2 l2.length c2) := fun o => blk_one (blk_alloc h7 o)
  clear h15 h7 h14 h9 hM hS hC hsz
  obtain ⟨r, hr⟩ : ∃ r, wellF l2 seen (x, s) slack name = r := ⟨_, rfl⟩
  rw [hr]
  unfold wellF at hr
  cases hh : strHas seen name with
  | true =>
    rw [hh, if_pos rfl] at hr
    subst hr
    have HH := Aside0.mk hh
    clear hh
    go_enter Try.func67, Try.ntmps67
    go_wp2_with (at_lookup; refine wpList_lookup_own_unit _ rfl _ _ 115 rfl 9 118 strKeyed Try.underlying115 (unitZero _) gM n _ rfl HM.out _ _ rfl HKY.out ?_; rw [HHS.out, HH.out])
    exact bodyPost_ret (v := .bool true) (by simp [results, Try.results67, go_sem]) rfl ⟨rfl, below_alloc (Below.refl _ _) _⟩
  | false =>
    rw [hh, if_neg (by decide)] at hr
    have HH := Aside0.mk hh
    obtain ⟨b1, b2, hb⟩ : ∃ b1 b2, bestOf l2 name = (b1, b2) := ⟨_, _, rfl⟩
    rw [hb] at hr
    have HBT := Aside0.mk (show junior_Best.f l2 name = some (b1, b2) by unfold junior_Best.f; rw [hb])
    clear hh hb
    have hy14 : ∀ W, Below (w.heap.size + 1) (w.alloc (.cells #[] 118 (0, 0))) W → W.cell? ⟨b14, 1, none⟩ = some (.bool s) ∧ W.cell? ⟨b14, 0, none⟩ = some (.int .i64 x) ∧ W.cell? ⟨b9, 0, none⟩ = some (.int .i64 slack) := by
      intro W hW
      have q14 := blk_below (blk_alloc H14.out (.cells #[] 118 (0, 0))) (by simpa using hW)
      have q9 := blk_below (blk_alloc H9.out (.cells #[] 118 (0, 0))) (by simpa using hW)
      exact ⟨blk_cell q14 1, blk_cell q14 0, blk_one q9⟩
    have HY := Aside0.mk hy14
    clear hy14
    cases b2 with
    | false =>
      rw [if_neg (by simp)] at hr
      subst hr
      go_enter Try.func67, Try.ntmps67
      go_wp2_with (first
        | (at_lookup; refine wpList_lookup_own_unit _ rfl _ _ 115 rfl 9 118 strKeyed Try.underlying115 (unitZero _) gM n _ rfl HM.out _ _ rfl HKY.out ?_; rw [HHS.out, HH.out])
        | (go_at_call 32; refine (junior_Best.calls A2 c2 l2 name _ _ _ (Kd.C_alloc HC.out _) hc2 HBT.out).mono ?_; rintro e w1 ⟨rfl, hb1⟩; obtain ⟨y1, y2, y3⟩ := HY.out w1 (by simpa using hb1); have HB1 := Aside0.mk hb1; clear hb1))
      exact bodyPost_ret (v := .bool false) (by simp [results, Try.results67, go_sem]) rfl ⟨rfl, (below_alloc (Below.refl _ _) _).trans (HB1.out.mono (by simp))⟩
    | true =>
      rw [if_pos rfl] at hr
      cases s with
      | false =>
        rw [if_neg (by simp)] at hr
        subst hr
        go_enter Try.func67, Try.ntmps67
        go_wp2_with (first
          | (at_lookup; refine wpList_lookup_own_unit _ rfl _ _ 115 rfl 9 118 strKeyed Try.underlying115 (unitZero _) gM n _ rfl HM.out _ _ rfl HKY.out ?_; rw [HHS.out, HH.out])
          | (go_at_call 32; refine (junior_Best.calls A2 c2 l2 name _ _ _ (Kd.C_alloc HC.out _) hc2 HBT.out).mono ?_; rintro e w1 ⟨rfl, hb1⟩; obtain ⟨y1, y2, y3⟩ := HY.out w1 (by simpa using hb1); have HB1 := Aside0.mk hb1; clear hb1))
        exact bodyPost_ret (v := .bool false) (by simp [results, Try.results67, go_sem]) rfl ⟨rfl, (below_alloc (Below.refl _ _) _).trans (HB1.out.mono (by simp))⟩
      | true =>
        rw [if_pos rfl] at hr
        subst hr
        go_enter Try.func67, Try.ntmps67
        go_wp2_with (first
          | (at_lookup; refine wpList_lookup_own_unit _ rfl _ _ 115 rfl 9 118 strKeyed Try.underlying115 (unitZero _) gM n _ rfl HM.out _ _ rfl HKY.out ?_; rw [HHS.out, HH.out])
          | (go_at_call 32; refine (junior_Best.calls A2 c2 l2 name _ _ _ (Kd.C_alloc HC.out _) hc2 HBT.out).mono ?_; rintro e w1 ⟨rfl, hb1⟩; obtain ⟨y1, y2, y3⟩ := HY.out w1 (by simpa using hb1); have HB1 := Aside0.mk hb1; clear hb1))
        exact bodyPost_ret (v := .bool (decide (wrap64 (b1 - slack) ≤ x))) (by simp [results, Try.results67, go_sem]) rfl ⟨rfl, (below_alloc (Below.refl _ _) _).trans (HB1.out.mono (by simp))⟩
theorem blk_far2 {w : World} {g b : Nat} {t : TypeId} {cs : Array Value} (h : w.heap[g]? = some (.cells cs t (0, 0))) (hne : g ≠ b) (i j : Nat) (u v : Value) : ((w.setCell ⟨b, i, none⟩ u).setCell ⟨b, j, none⟩ v).heap[g]? = some (.cells cs t (0, 0)) := blk_far (blk_far h (p := ⟨b, i, none⟩) hne u) (p := ⟨b, j, none⟩) hne v
theorem own_set2 {w : World} {g b n : Nat} {D : DataW Unit} (h : w.ownsMap Try.prog 9 unitElem g n D) (hne : g ≠ b) (i j : Nat) (u v : Value) : ((w.setCell ⟨b, i, none⟩ u).setCell ⟨b, j, none⟩ v).ownsMap Try.prog 9 unitElem g n D := (h.setCell (a := ⟨b, i, none⟩) hne u).setCell (a := ⟨b, j, none⟩) hne v
theorem w64n' {j N : Nat} (h : j < N) (hN : N ≤ 9223372036854775807) : Go.RowKit.wrap64 (j : Int) = (j : Int) := by unfold Go.RowKit.wrap64; omega
theorem own_below {b n : Nat} {D : DataW Unit} {w w' : World} (h : w.ownsMap Try.prog 9 unitElem b n D) (hb : Below w.heap.size w w') : w'.ownsMap Try.prog 9 unitElem b n D := by
  obtain ⟨es, clock, h1, h2⟩ := h
  exact ⟨es, clock, blk_below h1 hb, h2⟩
set_option maxHeartbeats 4000000 in
set_option maxRecDepth 100000 in
theorem junior_Classes.calls (k : Nat) (A0 : Option Addr) (c0 : Nat) (l0 : List ByteArray) (A1 : Option Addr) (c1 : Nat) (l1 : List Int) (A2 : Option Addr) (c2 : Nat) (l2 : List S33) (A3 : Option Addr) (c3 : Nat) (l3 : List S52) (a4 : Int) (r1 : List Int) (r2 : Int) (w : World) (hr0 : Kd.C Kd.string w A0 l0.length l0) (hc0 : l0.length ≤ c0) (hr1 : Kd.C (Kd.int .i64) w A1 l1.length l1) (hc1 : l1.length ≤ c1) (hr2 : Kd.C k33 w A2 l2.length l2) (hc2 : l2.length ≤ c2) (hr3 : Kd.C k52 w A3 l3.length l3) (hc3 : l3.length ≤ c3) (h0 : junior_Classes.f k l0 l1 l2 l3 a4 = some (r1, r2)) :
    Calls Try.prog 30 #[.slice A0 l0.length c0, .slice A1 l1.length c1, .slice A2 l2.length c2, .slice A3 l3.length c3, .int .i64 a4] w fun e w' => ∃ v0_ : Value, e = .returned (.tuple #[v0_, .int .i64 r2]) ∧ Kd.R (Kd.int .i64) 3 w' w.heap.size (fun _ => True) v0_ r1 ∧ Below w.heap.size w w' := by
  unfold junior_Classes.f at h0
  obtain ⟨e, he, h⟩ := Option.bind_eq_some_iff.1 h0
  clear h0
  have HR0 := Aside0.mk hr0
  have HR1 := Aside0.mk hr1
  have HR2 := Aside0.mk hr2
  have HR3 := Aside0.mk hr3
  have HE := Aside0.mk he
  have hmm := @run_makeMap Try.prog
  have hlen0 := (show l0.length ≤ 9223372036854775807 from Kd.C_max hr0)
  have hlen3 := (show l3.length ≤ 9223372036854775807 from Kd.C_max hr3)
  have hU2 := fun o1 o2 => Aside0.mk (Kd.C_alloc (Kd.C_alloc hr2 o1) o2)
  have HWB : ∀ w1, Below (w.heap.size + 1 + 1) ((w.alloc (.cells #[.slice A2 l2.length c2] 22 (0, 0))).alloc (.cells #[.int .i64 a4] 3 (0, 0))) w1 → Below w.heap.size w w1 ∧ w1.heap[w.heap.size]? = some (.cells #[.slice A2 l2.length c2] 22 (0, 0)) ∧ w1.heap[w.heap.size + 1]? = some (.cells #[.int .i64 a4] 3 (0, 0)) := by
    intro w1 hb
    refine ⟨(below_alloc (below_alloc (Below.refl _ _) _) _).trans (hb.mono (by omega)), ?_, ?_⟩
    · exact blk_below (blk_alloc (blk_new w _) _) (by simpa using hb)
    · have this := blk_new (w.alloc (.cells #[.slice A2 l2.length c2] 22 (0, 0))) (.cells #[.int .i64 a4] 3 (0, 0))
      rw [show (w.alloc (.cells #[.slice A2 l2.length c2] 22 (0, 0))).heap.size = w.heap.size + 1 by simp] at this
      exact blk_below this (by simpa using hb)
  replace HWB := Aside0.mk HWB
  clear hr0 hr1 hr2 hr3 he
  by_cases e0 : e ≠ 0
  · rw [if_pos e0] at h
    obtain ⟨rfl, rfl⟩ : [] = r1 ∧ e = r2 := by simpa using h
    have hne : (e != 0) = true := by simpa using e0
    clear h e0
    go_enter Try.func30, Try.ntmps30
    go_wp2_with (go_at_call 18; refine (auction_Check.calls k A2 c2 l2 e _ (hU2 _ _).out hc2 HE.out).mono ?_; rintro e w1 ⟨rfl, hb1⟩)
    refine bodyPost_ret (v := .tuple #[.slice none 0 0, .int .i64 e]) (by simp [results, Try.results30, go_sem]) rfl ⟨_, rfl, Kd.R_nil _ _ _ _ _, (HWB.out w1 (by simpa using hb1)).1⟩
  rw [if_neg e0] at h
  obtain rfl : e = 0 := Decidable.not_not.1 e0
  obtain ⟨⟨mi, me⟩, hmi, h⟩ := Option.bind_eq_some_iff.1 h
  have HMI := Aside0.mk hmi
  clear e0 hmi
  dsimp only at h
  have hC1 := fun (w1 : World) (hb1 : Below (w.heap.size + 1 + 1) ((w.alloc (.cells #[.slice A2 l2.length c2] 22 (0, 0))).alloc (.cells #[.int .i64 a4] 3 (0, 0))) w1) => (show Kd.C Kd.string w1 A0 l0.length l0 ∧ Kd.C (Kd.int .i64) w1 A1 l1.length l1 ∧ Kd.C k33 w1 A2 l2.length l2 ∧ Kd.C k52 w1 A3 l3.length l3 from
    have hb := (HWB.out w1 hb1).1
    ⟨Kd.C_below HR0.out hb, Kd.C_below HR1.out hb, Kd.C_below HR2.out hb, Kd.C_below HR3.out hb⟩)
  have HC1 := Aside0.mk hC1
  clear hC1
  by_cases e1 : me ≠ 0
  · rw [if_pos e1] at h
    obtain ⟨rfl, rfl⟩ : [] = r1 ∧ me = r2 := by simpa using h
    have hne : (me != 0) = true := by simpa using e1
    clear h e1
    go_enter Try.func30, Try.ntmps30
    go_wp2_with (first
      | (go_at_call 18; refine (auction_Check.calls k A2 c2 l2 0 _ (hU2 _ _).out hc2 HE.out).mono ?_; rintro e w1 ⟨rfl, hb1⟩; have HB1 := Aside0.mk (show Below (w.heap.size + 1 + 1) _ w1 by simpa using hb1); have hx7 := blk_one (HWB.out w1 HB1.out).2.1; clear hb1)
      | (go_at_call 38; refine (auction_Missing.calls k A0 c0 l0 A1 c1 l1 A2 c2 l2 _ _ _ (HC1.out _ HB1.out).1 hc0 (HC1.out _ HB1.out).2.1 hc1 (HC1.out _ HB1.out).2.2.1 hc2 HMI.out).mono ?_; rintro e w2 ⟨v0, rfl, hv0, hb2⟩; have HB2 := Aside0.mk hb2; have HV0 := Aside0.mk hv0; clear hb2 hv0))
    refine bodyPost_ret (v := .tuple #[.slice none 0 0, .int .i64 me]) (by simp [results, Try.results30, go_sem]) rfl ⟨_, rfl, Kd.R_nil _ _ _ _ _, (HWB.out w1 HB1.out).1.trans (HB2.out.mono (HWB.out w1 HB1.out).1.size)⟩
  rw [if_neg e1] at h
  obtain rfl : me = 0 := Decidable.not_not.1 e1
  have HT := Aside0.mk h
  clear h e1
  go_enter Try.func30, Try.ntmps30
  go_wp2_with (first
    | (go_at_call 18; refine (auction_Check.calls k A2 c2 l2 0 _ (hU2 _ _).out hc2 HE.out).mono ?_; rintro e w1 ⟨rfl, hb1⟩; have HB1 := Aside0.mk (show Below (w.heap.size + 1 + 1) _ w1 by simpa using hb1); have hx7 := blk_one (HWB.out w1 HB1.out).2.1; clear hb1)
    | (go_at_call 38; refine (auction_Missing.calls k A0 c0 l0 A1 c1 l1 A2 c2 l2 _ _ _ (HC1.out _ HB1.out).1 hc0 (HC1.out _ HB1.out).2.1 hc1 (HC1.out _ HB1.out).2.2.1 hc2 HMI.out).mono ?_; rintro e w2 ⟨v0, rfl, hv0, hb2⟩; obtain ⟨A5, c5, rfl⟩ := Kd.R_slice hv0; have HB2 := Aside0.mk hb2; have HV0 := Aside0.mk hv0; clear hb2 hv0 hx7))
  have HBW := Aside0.mk (show Below w.heap.size w w2 from (HWB.out w1 HB1.out).1.trans (HB2.out.mono (HWB.out w1 HB1.out).1.size))
  have HCW := Aside0.mk (fun (wr : World) (hb : Below w2.heap.size w2 wr) => (show Kd.C Kd.string wr A0 l0.length l0 ∧ Kd.C (Kd.int .i64) wr A5 mi.length mi ∧ Kd.C k33 wr A2 l2.length l2 ∧ Kd.C k52 wr A3 l3.length l3 ∧ wr.heap[w.heap.size]? = some (.cells #[.slice A2 l2.length c2] 22 (0, 0)) ∧ wr.heap[w.heap.size + 1]? = some (.cells #[.int .i64 a4] 3 (0, 0)) from
    ⟨Kd.C_below (Kd.C_below HR0.out HBW.out) hb, Kd.C_below (Kd.R_reads' HV0.out).2.2 hb, Kd.C_below (Kd.C_below HR2.out HBW.out) hb, Kd.C_below (Kd.C_below HR3.out HBW.out) hb, blk_below (blk_below (HWB.out w1 HB1.out).2.1 HB2.out) hb, blk_below (blk_below (HWB.out w1 HB1.out).2.2 HB2.out) hb⟩))
  obtain ⟨AS, hAS⟩ : ∃ AS, ascAll l0 = AS := ⟨_, rfl⟩
  have HAS := Aside0.mk hAS
  clear hU2 hAS
  go_loopg [10, 13] l0.length (fun kq v10 v13 wr => ∃ (i j : Nat), v10 = .slice none 0 0 ∧ v13 = .int .i64 (i : Int) ∧ Aside0 (i = j + 1 ∧ l0.length ≤ j + kq) ∧ Aside0 (ascAll (l0.drop j) = AS) ∧ Aside0 (Below w2.heap.size w2 wr))
  case atStart => exact ⟨1, 0, rfl, rfl, ⟨rfl, by omega⟩, HAS, ⟨Below.refl _ _⟩⟩
  case round => as_aux_lemma =>
    obtain ⟨i, j, rfl, rfl, HIJ, HASC, HB⟩ := hrel
    obtain ⟨i1, i2⟩ := HIJ.out
    by_cases hi : i < l0.length
    · have hj : j < l0.length := by omega
      have hasc := HASC.out
      have hjd : l0.drop (j + 1) = l0[i] :: l0.drop (j + 1 + 1) := by rw [← List.getElem_cons_drop (show j + 1 < l0.length by omega)]; simp [i1]
      rw [(List.getElem_cons_drop hj).symm, hjd] at hasc
      simp only [ascAll, ascOk] at hasc
      obtain ⟨ad5, e5, hx5⟩ := Kd.at_string (HCW.out _ HB.out).1 (i : Int) (by omega) (by omega)
      obtain ⟨ad6, e6, hx6⟩ := Kd.at_string (HCW.out _ HB.out).1 (j : Int) (by omega) (by omega)
      obtain rfl : ad5 = ad6 := by rw [e5] at e6; exact Option.some.inj e6
      have r5 : rdOf ByteArray.empty l0 (i : Int) = l0[i] := by simp [rdOf, hi]
      have r6 : rdOf ByteArray.empty l0 (j : Int) = l0[j] := by simp [rdOf, hj]
      rw [r5, Int.toNat_natCast] at hx5
      rw [r6, Int.toNat_natCast] at hx6
      have hasc2 : ascAll (l0.drop (j + 1)) = ascOk l0[i] (l0.drop (j + 1 + 1)) := by rw [hjd]; rfl
      have hb0 := eq_true (show 0 ≤ (i : Int) by omega)
      have hb1 := eq_true (show (i : Int) < (l0.length : Int) by omega)
      have hb2 := eq_true (show 0 ≤ (j : Int) by omega)
      have hb3 := eq_true (show (j : Int) < (l0.length : Int) by omega)
      have hjm : ((i : Int) - 1) = (j : Int) := by omega
      have hw3 : Go.RowKit.wrap64 (j : Int) = (j : Int) := w64n' hj (by omega)
      have hw : Go.RowKit.wrap64 ((i : Int) - 1) = (j : Int) := by rw [hjm]; exact hw3
      cases e5
      clear i1 i2
      generalize l0[i] = s5 at hx5 hasc hasc2
      generalize l0[j] = s6 at hx6 hasc
      cases hlt : Op.bytesLess s6.toList s5.toList with
      | false =>
        rw [hlt, if_neg (by decide)] at hasc
        have ht := HT.out
        unfold clsTail at ht
        rw [HAS.out, if_pos hasc.symm] at ht
        obtain ⟨rfl, rfl⟩ : [] = r1 ∧ 12 = r2 := by simpa using ht
        clear ht hasc hasc2 hjd r5 r6
        go_wp2_with fail
        refine start_ (n := 10) (S := fun w' => w'.cell? (ad5.add i) = some (.string s5) ∧ w'.cell? (ad5.add j) = some (.string s6)) (ds := []) #[false, false, false, false, false, false, false, false, false, false] (by kernel_rfl) rfl rfl ⟨hx5, hx6⟩ (fun hHeld => ?_)
        refine pure_ (i := 0) (N := some 42) (v := ?_) (a' := ?_) #[true, false, false, false, false, false, false, false, false, false] rfl rfl (by kernel_rfl) (fun _ _ _ h => h) (Or.inl ⟨by rfl, ?_⟩) ?_ ?_
        rotate_left
        · intro w'
          go_simp
          with_reducible rfl
        rotate_left
        · simp only [Act.put, List.setIfInBounds_toArray, List.set_cons_zero, List.set_cons_succ, i64_w, i32_w]
          rfl
        refine pure_ (i := 1) (N := some 43) (v := ?_) (a' := ?_) #[true, true, false, false, false, false, false, false, false, false] rfl rfl (by kernel_rfl) (fun _ _ _ h => h) (Or.inl ⟨by rfl, ?_⟩) ?_ ?_
        rotate_left
        · intro w'
          go_simp
          with_reducible rfl
        rotate_left
        · simp only [Act.put, List.setIfInBounds_toArray, List.set_cons_zero, List.set_cons_succ, i64_w, i32_w]
          rfl
        refine pure_ (i := 2) (N := some 44) (v := ?_) (a' := ?_) #[true, true, true, false, false, false, false, false, false, false] rfl rfl (by kernel_rfl) (fun _ _ _ h => h) (Or.inl ⟨by rfl, ?_⟩) ?_ ?_
        rotate_left
        · intro w'
          go_simp
          with_reducible rfl
        rotate_left
        · simp only [Act.put, List.setIfInBounds_toArray, List.set_cons_zero, List.set_cons_succ, i64_w, i32_w]
          rfl
        refine take_ (i := 3) (N := some 45) (v := ?_) (a' := ?_) #[true, true, true, true, false, false, false, false, false, false] rfl rfl (by kernel_rfl) (fun _ _ _ h => h) (Or.inl ⟨by rfl, ?_⟩) hHeld ?_ ?_
        rotate_left
        · rintro w' ⟨s0, s1⟩
          go_simp
          with_reducible rfl
        rotate_left
        · simp only [Act.put, List.setIfInBounds_toArray, List.set_cons_zero, List.set_cons_succ, i64_w, i32_w]
          rfl
        refine pure_ (i := 4) (N := some 46) (v := ?_) (a' := ?_) #[true, true, true, true, true, false, false, false, false, false] rfl rfl (by kernel_rfl) (fun _ _ _ h => h) (Or.inl ⟨by rfl, ?_⟩) ?_ ?_
        rotate_left
        · intro w'
          go_simp
          with_reducible rfl
        rotate_left
        · simp only [Act.put, List.setIfInBounds_toArray, List.set_cons_zero, List.set_cons_succ, i64_w, i32_w]
          rfl
        refine pure_ (i := 5) (N := some 47) (v := ?_) (a' := ?_) #[true, true, true, true, true, true, false, false, false, false] rfl rfl (by kernel_rfl) (fun _ _ _ h => h) (Or.inl ⟨by rfl, ?_⟩) ?_ ?_
        rotate_left
        · intro w'
          go_simp
          with_reducible rfl
        rotate_left
        · simp only [Act.put, List.setIfInBounds_toArray, List.set_cons_zero, List.set_cons_succ, i64_w, i32_w]
          rfl
        refine pure_ (i := 6) (N := some 48) (v := ?_) (a' := ?_) #[true, true, true, true, true, true, true, false, false, false] rfl rfl (by kernel_rfl) (fun _ _ _ h => h) (Or.inl ⟨by rfl, ?_⟩) ?_ ?_
        rotate_left
        · intro w'
          go_simp
          with_reducible rfl
        rotate_left
        · simp only [Act.put, List.setIfInBounds_toArray, List.set_cons_zero, List.set_cons_succ, i64_w, i32_w]
          rfl
        refine pure_ (i := 7) (N := some 49) (v := ?_) (a' := ?_) #[true, true, true, true, true, true, true, true, false, false] rfl rfl (by kernel_rfl) (fun _ _ _ h => h) (Or.inl ⟨by rfl, ?_⟩) ?_ ?_
        rotate_left
        · intro w'
          go_simp
          with_reducible rfl
        rotate_left
        · simp only [Act.put, List.setIfInBounds_toArray, List.set_cons_zero, List.set_cons_succ, i64_w, i32_w]
          rfl
        refine take_ (i := 8) (N := some 50) (v := ?_) (a' := ?_) #[true, true, true, true, true, true, true, true, true, false] rfl rfl (by kernel_rfl) (fun _ _ _ h => h) (Or.inl ⟨by rfl, ?_⟩) hHeld ?_ ?_
        rotate_left
        · rintro w' ⟨s0, s1⟩
          go_simp
          with_reducible rfl
        rotate_left
        · simp only [Act.put, List.setIfInBounds_toArray, List.set_cons_zero, List.set_cons_succ, i64_w, i32_w]
          rfl
        refine pure_ (i := 9) (N := some 51) (v := ?_) (a' := ?_) #[true, true, true, true, true, true, true, true, true, true] rfl rfl (by kernel_rfl) (fun _ _ _ h => h) (Or.inl ⟨by rfl, ?_⟩) ?_ ?_
        rotate_left
        · intro w'
          go_simp
          with_reducible rfl
        rotate_left
        · simp only [Act.put, List.setIfInBounds_toArray, List.set_cons_zero, List.set_cons_succ, i64_w, i32_w]
          rfl
        refine done_ (by kernel_rfl) ?_
        clear hHeld hx5 hx6 hw hw3
        go_wp2
        refine bodyPost_ret (v := .tuple #[.slice none 0 0, .int .i64 12]) (by simp [results, Try.results30, go_sem]) rfl ⟨_, rfl, Kd.R_nil _ _ _ _ _, HBW.out.trans ((below_drew1 HB.out).mono HBW.out.size)⟩
      | true =>
        rw [hlt, if_pos rfl] at hasc
        have HAS2 := Aside0.mk (hasc2.trans hasc)
        clear hasc hasc2 hjd r5 r6
        go_wp2_with fail
        refine start_ (n := 10) (S := fun w' => w'.cell? (ad5.add i) = some (.string s5) ∧ w'.cell? (ad5.add j) = some (.string s6)) (ds := []) #[false, false, false, false, false, false, false, false, false, false] (by kernel_rfl) rfl rfl ⟨hx5, hx6⟩ (fun hHeld => ?_)
        refine pure_ (i := 0) (N := some 42) (v := ?_) (a' := ?_) #[true, false, false, false, false, false, false, false, false, false] rfl rfl (by kernel_rfl) (fun _ _ _ h => h) (Or.inl ⟨by rfl, ?_⟩) ?_ ?_
        rotate_left
        · intro w'
          go_simp
          with_reducible rfl
        rotate_left
        · simp only [Act.put, List.setIfInBounds_toArray, List.set_cons_zero, List.set_cons_succ, i64_w, i32_w]
          rfl
        refine pure_ (i := 1) (N := some 43) (v := ?_) (a' := ?_) #[true, true, false, false, false, false, false, false, false, false] rfl rfl (by kernel_rfl) (fun _ _ _ h => h) (Or.inl ⟨by rfl, ?_⟩) ?_ ?_
        rotate_left
        · intro w'
          go_simp
          with_reducible rfl
        rotate_left
        · simp only [Act.put, List.setIfInBounds_toArray, List.set_cons_zero, List.set_cons_succ, i64_w, i32_w]
          rfl
        refine pure_ (i := 2) (N := some 44) (v := ?_) (a' := ?_) #[true, true, true, false, false, false, false, false, false, false] rfl rfl (by kernel_rfl) (fun _ _ _ h => h) (Or.inl ⟨by rfl, ?_⟩) ?_ ?_
        rotate_left
        · intro w'
          go_simp
          with_reducible rfl
        rotate_left
        · simp only [Act.put, List.setIfInBounds_toArray, List.set_cons_zero, List.set_cons_succ, i64_w, i32_w]
          rfl
        refine take_ (i := 3) (N := some 45) (v := ?_) (a' := ?_) #[true, true, true, true, false, false, false, false, false, false] rfl rfl (by kernel_rfl) (fun _ _ _ h => h) (Or.inl ⟨by rfl, ?_⟩) hHeld ?_ ?_
        rotate_left
        · rintro w' ⟨s0, s1⟩
          go_simp
          with_reducible rfl
        rotate_left
        · simp only [Act.put, List.setIfInBounds_toArray, List.set_cons_zero, List.set_cons_succ, i64_w, i32_w]
          rfl
        refine pure_ (i := 4) (N := some 46) (v := ?_) (a' := ?_) #[true, true, true, true, true, false, false, false, false, false] rfl rfl (by kernel_rfl) (fun _ _ _ h => h) (Or.inl ⟨by rfl, ?_⟩) ?_ ?_
        rotate_left
        · intro w'
          go_simp
          with_reducible rfl
        rotate_left
        · simp only [Act.put, List.setIfInBounds_toArray, List.set_cons_zero, List.set_cons_succ, i64_w, i32_w]
          rfl
        refine pure_ (i := 5) (N := some 47) (v := ?_) (a' := ?_) #[true, true, true, true, true, true, false, false, false, false] rfl rfl (by kernel_rfl) (fun _ _ _ h => h) (Or.inl ⟨by rfl, ?_⟩) ?_ ?_
        rotate_left
        · intro w'
          go_simp
          with_reducible rfl
        rotate_left
        · simp only [Act.put, List.setIfInBounds_toArray, List.set_cons_zero, List.set_cons_succ, i64_w, i32_w]
          rfl
        refine pure_ (i := 6) (N := some 48) (v := ?_) (a' := ?_) #[true, true, true, true, true, true, true, false, false, false] rfl rfl (by kernel_rfl) (fun _ _ _ h => h) (Or.inl ⟨by rfl, ?_⟩) ?_ ?_
        rotate_left
        · intro w'
          go_simp
          with_reducible rfl
        rotate_left
        · simp only [Act.put, List.setIfInBounds_toArray, List.set_cons_zero, List.set_cons_succ, i64_w, i32_w]
          rfl
        refine pure_ (i := 7) (N := some 49) (v := ?_) (a' := ?_) #[true, true, true, true, true, true, true, true, false, false] rfl rfl (by kernel_rfl) (fun _ _ _ h => h) (Or.inl ⟨by rfl, ?_⟩) ?_ ?_
        rotate_left
        · intro w'
          go_simp
          with_reducible rfl
        rotate_left
        · simp only [Act.put, List.setIfInBounds_toArray, List.set_cons_zero, List.set_cons_succ, i64_w, i32_w]
          rfl
        refine take_ (i := 8) (N := some 50) (v := ?_) (a' := ?_) #[true, true, true, true, true, true, true, true, true, false] rfl rfl (by kernel_rfl) (fun _ _ _ h => h) (Or.inl ⟨by rfl, ?_⟩) hHeld ?_ ?_
        rotate_left
        · rintro w' ⟨s0, s1⟩
          go_simp
          with_reducible rfl
        rotate_left
        · simp only [Act.put, List.setIfInBounds_toArray, List.set_cons_zero, List.set_cons_succ, i64_w, i32_w]
          rfl
        refine pure_ (i := 9) (N := some 51) (v := ?_) (a' := ?_) #[true, true, true, true, true, true, true, true, true, true] rfl rfl (by kernel_rfl) (fun _ _ _ h => h) (Or.inl ⟨by rfl, ?_⟩) ?_ ?_
        rotate_left
        · intro w'
          go_simp
          with_reducible rfl
        rotate_left
        · simp only [Act.put, List.setIfInBounds_toArray, List.set_cons_zero, List.set_cons_succ, i64_w, i32_w]
          rfl
        refine done_ (by kernel_rfl) ?_
        clear hHeld hx5 hx6 hw hw3
        go_wp2
        go_roundg (gk - 1)
        case measure => have := HIJ.out; omega
        case rel => exact ⟨i + 1, i, rfl, by go_num, ⟨rfl, by have := HIJ.out; omega⟩, by rw [HIJ.out.1]; exact HAS2, ⟨by repeat (first | (with_reducible first | exact HB.out | apply below_alloc | apply pw_below_drewN | apply below_drew1) | exact HB.out)⟩⟩
    · have hasc := HASC.out
      have hone : ascAll (l0.drop j) = true := by
        by_cases hj : j < l0.length
        · rw [(List.getElem_cons_drop hj).symm, List.drop_of_length_le (by omega)]; rfl
        · rw [List.drop_of_length_le (by omega)]; rfl
      rw [hone] at hasc
      have ht := HT.out
      unfold clsTail at ht
      rw [HAS.out, ← hasc, if_neg (by decide)] at ht
      have hx9 := blk_one (HCW.out _ HB.out).2.2.2.2.2
      clear hasc hone HASC i1 i2
      by_cases s1 : a4 < 0
      · rw [if_pos s1] at ht
        obtain ⟨rfl, rfl⟩ : [] = r1 ∧ 2 = r2 := by simpa using ht
        replace s1 := decide_eq_true s1
        clear ht
        go_wp2_with fail
        refine bodyPost_ret (v := .tuple #[.slice none 0 0, .int .i64 2]) (by simp [results, Try.results30, go_sem]) rfl ⟨_, rfl, Kd.R_nil _ _ _ _ _, HBW.out.trans (HB.out.mono HBW.out.size)⟩
      rw [if_neg s1] at ht
      replace s1 := decide_eq_false s1
      by_cases s2 : 68719476736 < a4
      · rw [if_pos s2] at ht
        obtain ⟨rfl, rfl⟩ : [] = r1 ∧ 2 = r2 := by simpa using ht
        replace s2 := decide_eq_true s2
        clear ht
        go_wp2_with fail
        refine bodyPost_ret (v := .tuple #[.slice none 0 0, .int .i64 2]) (by simp [results, Try.results30, go_sem]) rfl ⟨_, rfl, Kd.R_nil _ _ _ _ _, HBW.out.trans (HB.out.mono HBW.out.size)⟩
      rw [if_neg s2] at ht
      replace s2 := decide_eq_false s2
      by_cases s3 : 1024 < l3.length
      · rw [if_pos s3] at ht
        obtain ⟨rfl, rfl⟩ : [] = r1 ∧ 8 = r2 := by simpa using ht
        have s4 := decide_eq_true (show (1024 : Int) < (l3.length : Int) by omega)
        clear ht
        go_wp2_with fail
        refine bodyPost_ret (v := .tuple #[.slice none 0 0, .int .i64 8]) (by simp [results, Try.results30, go_sem]) rfl ⟨_, rfl, Kd.R_nil _ _ _ _ _, HBW.out.trans (HB.out.mono HBW.out.size)⟩
      rw [if_neg s3] at ht
      have s4 := decide_eq_false (show ¬ (1024 : Int) < (l3.length : Int) by omega)
      by_cases s5 : ∀ a ∈ l3, a.f0.size ≤ maxLen
      case neg => rw [if_neg s5] at ht; cases ht
      rw [if_pos s5] at ht
      obtain ⟨o, ho, ho2⟩ := Option.bind_eq_some_iff.1 ht
      obtain ⟨rfl, rfl⟩ : o = r1 ∧ 0 = r2 := by simpa using ho2
      have HSZS := Aside0.mk s5
      obtain ⟨SEEN, hseen⟩ : ∃ SEEN, l3.foldl awSeen [] = SEEN := ⟨_, rfl⟩
      obtain ⟨WX, WS, hworst⟩ : ∃ WX WS, l3.foldl awStep (0, false) = (WX, WS) := ⟨_, _, rfl⟩
      rw [hseen, hworst] at ho
      have HSEEN := Aside0.mk hseen
      have HWORST := Aside0.mk hworst
      have HGO := Aside0.mk ho
      have HL3 := Aside0.mk (show l3.length ≤ 1024 by omega)
      clear ht ho ho2 hseen hworst s5 s3
      clear HE HMI HR0 HR1 HR2 HR3 HC1 h
      go_wp2_with fail
      obtain ⟨wa, hwa⟩ : ∃ wa, wa = wr := ⟨_, rfl⟩
      subst hwa
      have HCA := Aside0.mk (HCW.out _ HB.out)
      have HBA := Aside0.mk HB.out
      clear HB HCW
      go_loopg [66] l3.length (fun kq v66 wb => ∃ (i : Nat) (x : Int) (s : Bool) (seen : List ByteArray) (D : DataW Unit) (j : Nat), v66 = .int .i64 (i : Int) ∧ Aside0 (kq + i = l3.length) ∧ Aside0 ((l3.drop i).foldl awStep (x, s) = (WX, WS)) ∧ Aside0 ((l3.drop i).foldl awSeen seen = SEEN) ∧ Aside0 (wb.heap[wa.heap.size]? = some (.cells #[.int .i64 x, .bool s] 114 (0, 0))) ∧ Aside0 (wb.ownsMap Try.prog 9 unitElem (wa.heap.size + 1) j D) ∧ Aside0 (j ≤ i ∧ i ≤ l3.length) ∧ Aside0 (SeenS seen D) ∧ Aside0 (wb.heap[wa.heap.size + 2]? = some (.cells #[.map (some (wa.heap.size + 1))] 115 (0, 0))) ∧ Aside0 (Below wa.heap.size wa wb))
      case atStart =>
        refine ⟨0, 0, false, [], .map [], 0, rfl, ⟨by omega⟩, HWORST, HSEEN, ⟨blk_alloc (blk_alloc (blk_new _ _) _) _⟩, ⟨?_⟩, ⟨by omega, by omega⟩, ⟨rfl⟩, ⟨?_⟩, ⟨below_alloc (below_alloc (below_alloc (Below.refl _ _) _) _) _⟩⟩
        · have q := (World.ownsMap_made (wa.alloc (.cells #[.int .i64 0, .bool false] 114 (0, 0))) Try.prog 9 (unitElem (H := Unit))).alloc (.cells #[.map (some (wa.heap.size + 1))] 115 (0, 0))
          rw [show (wa.alloc (.cells #[.int .i64 0, .bool false] 114 (0, 0))).heap.size = wa.heap.size + 1 by simp] at q
          exact q
        · have q := blk_new ((wa.alloc (.cells #[.int .i64 0, .bool false] 114 (0, 0))).alloc (.map #[] 0)) (.cells #[.map (some (wa.heap.size + 1))] 115 (0, 0))
          rw [show ((wa.alloc (.cells #[.int .i64 0, .bool false] 114 (0, 0))).alloc (.map #[] 0)).heap.size = wa.heap.size + 2 by simp] at q
          exact q
      case round => as_aux_lemma =>
        obtain ⟨i, x, s, seen, D, j, rfl, HK, HFW, HFS, HL, HM, HJ, HS, HMB, HB⟩ := hrel
        obtain ⟨wb, hwb⟩ : ∃ wb, wb = wr := ⟨_, rfl⟩
        subst hwb
        by_cases hi : i < l3.length
        · obtain ⟨ad, ea, hx0, hx1, hx2⟩ := at_T52 HCA.out.2.2.2.1 (i : Int) (by omega) (by omega)
          cases ea
          have hti : rd_T52 l3 (i : Int) = l3[i] := by simp [rd_T52, hi]
          rw [hti, Int.toNat_natCast] at hx0 hx1 hx2
          replace hx0 := (HB.out.cell (World.block_lt_of_cell? wa _ hx0)).trans hx0
          replace hx1 := (HB.out.cell (World.block_lt_of_cell? wa _ hx1)).trans hx1
          replace hx2 := (HB.out.cell (World.block_lt_of_cell? wa _ hx2)).trans hx2
          have hfw := HFW.out
          have hfs := HFS.out
          rw [(List.getElem_cons_drop hi).symm, List.foldl_cons] at hfw hfs
          have hsz := HSZS.out _ (List.getElem_mem hi)
          generalize l3[i] = t at hx0 hx1 hx2 hfw hfs hsz
          have hib : (i : Int) < (l3.length : Int) := by omega
          have HKY := Aside0.mk (keyOf_string_mk Try.underlying9 hsz)
          have HSZ := Aside0.mk hsz
          rw [awStep] at hfw
          rw [awSeen] at hfs
          clear hti hsz hi
          by_cases c1 : 0 < t.f1
          · rw [if_pos c1] at hfw hfs
            replace c1 := decide_eq_true c1
            cases s with
            | false =>
              rw [if_neg (by simp)] at hfw
              have HG1 := Aside0.mk hfw
              have HG2 := Aside0.mk hfs
              clear hfw hfs
              have hxa := fun o => blk_one (blk_alloc HMB.out o)
              have hne1 : wa.heap.size + 1 ≠ wa.heap.size := by omega
              have hne2 : wa.heap.size + 2 ≠ wa.heap.size := by omega
              have hbl := blk_lt HL.out
              have hne3 : wb.heap.size ≠ wa.heap.size := by omega
              clear hbl
              have hxm := fun o => blk_one (blk_far2 (blk_alloc HMB.out o) hne2 0 1 (.int .i64 t.f2) (.bool true))
              have hxn : (((wb.alloc (.cells #[.string t.f0, .int .i64 t.f1, .int .i64 t.f2] 52 (0, 0))).setCell ⟨wa.heap.size, 0, none⟩ (.int .i64 t.f2)).setCell ⟨wa.heap.size, 1, none⟩ (.bool true)).cell? ⟨wb.heap.size, 0, none⟩ = some (.string t.f0) := blk_cell (blk_far2 (blk_new wb (.cells #[.string t.f0, .int .i64 t.f1, .int .i64 t.f2] 52 (0, 0))) hne3 0 1 (.int .i64 t.f2) (.bool true)) 0
              go_wp2_with (first
                | (go_at_call 65; refine (seeC_none _ _ _ _ (blk_alloc HL.out _)).mono ?_; rintro e w3 ⟨⟨r, rfl⟩, rfl⟩)
                | (at_mapUpdate; refine wpList_mapUpdate_own _ rfl _ _ _ 115 rfl 9 118 strKeyed Try.underlying115 (unitElem (H := Unit)) (wa.heap.size + 1) j _ rfl (own_set2 (HM.out.alloc _) hne1 0 1 _ _) (by have := HJ.out; unfold maxLen; omega) _ _ _ rfl rfl HKY.out _ [] unitElem_mk ?_; intro w5 hown5 hgrow5; have HM2 := Aside0.mk hown5; have HG5 := Aside0.mk hgrow5; clear hown5 hgrow5))
              go_roundg (gk - 1)
              case measure => have := HK.out; omega
              case rel => exact ⟨i + 1, t.f2, true, _, _, j + 1, by go_num, ⟨by have := HK.out; omega⟩, HG1, HG2, ⟨blk_grown (blk_set (blk_set (blk_alloc HL.out _) 0 _) 1 _) HG5.out (by simp)⟩, HM2, ⟨by have := HJ.out; omega⟩, ⟨⟨HSZ.out, _, HS.out, rfl⟩⟩, ⟨blk_grown (blk_far2 (blk_alloc HMB.out _) hne2 0 1 _ _) HG5.out (by simp)⟩, ⟨Below.grown (below_set2 (below_alloc HB.out _) (Nat.le_refl _) _ _ _ _) HG5.out (by have := HB.out.size; simp; omega) (fun j hj => by cases hj; omega)⟩⟩
            | true =>
              rw [if_pos rfl] at hfw
              by_cases c2 : x < t.f2
              · rw [if_pos c2] at hfw
                have HG1 := Aside0.mk hfw
                have HG2 := Aside0.mk hfs
                have HC2 := Aside0.mk c2
                clear hfw hfs c2
                have hxa := fun o => blk_one (blk_alloc HMB.out o)
                have hne1 : wa.heap.size + 1 ≠ wa.heap.size := by omega
                have hne2 : wa.heap.size + 2 ≠ wa.heap.size := by omega
                have hbl := blk_lt HL.out
                have hne3 : wb.heap.size ≠ wa.heap.size := by omega
                clear hbl
                have hxm := fun o => blk_one (blk_far2 (blk_alloc HMB.out o) hne2 0 1 (.int .i64 t.f2) (.bool true))
                have hxn : (((wb.alloc (.cells #[.string t.f0, .int .i64 t.f1, .int .i64 t.f2] 52 (0, 0))).setCell ⟨wa.heap.size, 0, none⟩ (.int .i64 t.f2)).setCell ⟨wa.heap.size, 1, none⟩ (.bool true)).cell? ⟨wb.heap.size, 0, none⟩ = some (.string t.f0) := blk_cell (blk_far2 (blk_new wb (.cells #[.string t.f0, .int .i64 t.f1, .int .i64 t.f2] 52 (0, 0))) hne3 0 1 (.int .i64 t.f2) (.bool true)) 0
                go_wp2_with (first
                  | (go_at_call 65; refine (seeC_more _ _ _ _ (blk_alloc HL.out _) HC2.out).mono ?_; rintro e w3 ⟨⟨r, rfl⟩, rfl⟩)
                  | (at_mapUpdate; refine wpList_mapUpdate_own _ rfl _ _ _ 115 rfl 9 118 strKeyed Try.underlying115 (unitElem (H := Unit)) (wa.heap.size + 1) j _ rfl (own_set2 (HM.out.alloc _) hne1 0 1 _ _) (by have := HJ.out; unfold maxLen; omega) _ _ _ rfl rfl HKY.out _ [] unitElem_mk ?_; intro w5 hown5 hgrow5; have HM2 := Aside0.mk hown5; have HG5 := Aside0.mk hgrow5; clear hown5 hgrow5))
                go_roundg (gk - 1)
                case measure => have := HK.out; omega
                case rel => exact ⟨i + 1, t.f2, true, _, _, j + 1, by go_num, ⟨by have := HK.out; omega⟩, HG1, HG2, ⟨blk_grown (blk_set (blk_set (blk_alloc HL.out _) 0 _) 1 _) HG5.out (by simp)⟩, HM2, ⟨by have := HJ.out; omega⟩, ⟨⟨HSZ.out, _, HS.out, rfl⟩⟩, ⟨blk_grown (blk_far2 (blk_alloc HMB.out _) hne2 0 1 _ _) HG5.out (by simp)⟩, ⟨Below.grown (below_set2 (below_alloc HB.out _) (Nat.le_refl _) _ _ _ _) HG5.out (by have := HB.out.size; simp; omega) (fun j hj => by cases hj; omega)⟩⟩
              · rw [if_neg c2] at hfw
                have HG1 := Aside0.mk hfw
                have HG2 := Aside0.mk hfs
                have HC2 := Aside0.mk c2
                clear hfw hfs c2
                have hxa := fun o => blk_one (blk_alloc HMB.out o)
                have hne1 : wa.heap.size + 1 ≠ wa.heap.size := by omega
                have hne2 : wa.heap.size + 2 ≠ wa.heap.size := by omega
                have hbl := blk_lt HL.out
                have hne3 : wb.heap.size ≠ wa.heap.size := by omega
                clear hbl
                go_wp2_with (first
                  | (go_at_call 65; refine (seeC_less _ _ _ _ (blk_alloc HL.out _) HC2.out).mono ?_; rintro e w3 ⟨⟨r, rfl⟩, rfl⟩)
                  | (at_mapUpdate; refine wpList_mapUpdate_own _ rfl _ _ _ 115 rfl 9 118 strKeyed Try.underlying115 (unitElem (H := Unit)) (wa.heap.size + 1) j _ rfl (HM.out.alloc _) (by have := HJ.out; unfold maxLen; omega) _ _ _ rfl rfl HKY.out _ [] unitElem_mk ?_; intro w5 hown5 hgrow5; have HM2 := Aside0.mk hown5; have HG5 := Aside0.mk hgrow5; clear hown5 hgrow5))
                go_roundg (gk - 1)
                case measure => have := HK.out; omega
                case rel => exact ⟨i + 1, x, true, _, _, j + 1, by go_num, ⟨by have := HK.out; omega⟩, HG1, HG2, ⟨blk_grown (blk_alloc HL.out _) HG5.out (by simp)⟩, HM2, ⟨by have := HJ.out; omega⟩, ⟨⟨HSZ.out, _, HS.out, rfl⟩⟩, ⟨blk_grown (blk_alloc HMB.out _) HG5.out (by simp)⟩, ⟨Below.grown (below_alloc HB.out _) HG5.out (by have := HB.out.size; simp; omega) (fun j hj => by cases hj; omega)⟩⟩
          · rw [if_neg c1] at hfw hfs
            have HG1 := Aside0.mk hfw
            have HG2 := Aside0.mk hfs
            replace c1 := decide_eq_false c1
            clear hfw hfs
            go_wp2_with fail
            go_roundg (gk - 1)
            case measure => have := HK.out; omega
            case rel => exact ⟨i + 1, x, s, seen, D, j, by go_num, ⟨by have := HK.out; omega⟩, HG1, HG2, ⟨blk_alloc HL.out _⟩, ⟨HM.out.alloc _⟩, ⟨by have := HJ.out; omega, by omega⟩, HS, ⟨blk_alloc HMB.out _⟩, ⟨below_alloc HB.out _⟩⟩
        · have hfw := HFW.out
          have hfs := HFS.out
          rw [List.drop_of_length_le (by omega), List.foldl_nil] at hfw hfs
          obtain ⟨rfl, rfl⟩ : x = WX ∧ s = WS := by simpa using hfw
          subst hfs
          have HB7 := Aside0.mk (blk_below HCA.out.2.2.2.2.1 HB.out)
          have HB9 := Aside0.mk (blk_below HCA.out.2.2.2.2.2 HB.out)
          have HB2C := Aside0.mk (Kd.C_below HCA.out.2.2.1 HB.out)
          clear hfw
          go_wp2_with fail
          go_loopg [10, 84] l0.length (fun kq v10 v84 wc => ∃ (q : Nat) (acc : List Int), v84 = .int .i64 (q : Int) ∧ Aside0 (kq + q = l0.length) ∧ Aside0 (clsGo l2 seen (x, s) a4 acc (l0.drop q) (mi.drop q) = some o) ∧ Aside0 (Kd.R (Kd.int .i64) 3 wc wb.heap.size (fun _ => True) v10 acc) ∧ Aside0 (Below wb.heap.size wb wc))
          case atStart => exact ⟨0, [], rfl, ⟨by omega⟩, HGO, ⟨Kd.R_nil _ _ _ _ _⟩, ⟨Below.refl _ _⟩⟩
          case round => as_aux_lemma =>
            obtain ⟨q, acc, rfl, HK2, HG, HOX, HBX⟩ := hrel
            by_cases hq : q < l0.length
            · have hg := HG.out
              by_cases hqm : q < mi.length
              case neg => rw [(List.getElem_cons_drop hq).symm, List.drop_of_length_le (show mi.length ≤ q by omega)] at hg; simp [clsGo] at hg
              rw [(List.getElem_cons_drop hq).symm, (List.getElem_cons_drop hqm).symm, clsGo] at hg
              obtain ⟨ad5, e5, hx5⟩ := Kd.at_string (Kd.C_below (Kd.C_below HCA.out.1 HB.out) HBX.out) (q : Int) (by omega) (by omega)
              obtain ⟨ad6, e6, hx6⟩ := Kd.at_int (Kd.C_below (Kd.C_below HCA.out.2.1 HB.out) HBX.out) (q : Int) (by omega) (by omega)
              cases e5
              cases e6
              have r5 : rdOf ByteArray.empty l0 (q : Int) = l0[q] := by simp [rdOf, hq]
              have r6 : Go.Proofs.YtokijibpdnepiaaW.PrintWords.rd mi (q : Int) = mi[q] := by simp [Go.Proofs.YtokijibpdnepiaaW.PrintWords.rd, hqm]
              rw [r5, Int.toNat_natCast] at hx5
              rw [r6, Int.toNat_natCast] at hx6
              generalize l0[q] = nm at hx5 hg
              generalize mi[q] = m at hx6 hg
              by_cases hgd : nm.size ≤ maxLen ∧ acc.length < 17592186044416
              case neg => rw [if_neg hgd] at hg; cases hg
              rw [if_pos hgd] at hg
              have HSZ := Aside0.mk hgd.1
              have HAL := Aside0.mk hgd.2
              have hqi : (q : Int) < (l0.length : Int) := by omega
              have hqj : (q : Int) < (mi.length : Int) := by omega
              clear r5 r6 hgd hq hqm
              by_cases cm : 0 < m
              · rw [if_pos cm] at hg
                have HG3 := Aside0.mk hg
                replace cm := decide_eq_true cm
                clear hg
                go_wp2_with (first | ((with_reducible refine gate_builtin (b := .append) (xs := #[.tmp 98, .tmp 99]) rfl ?_); at_builtin; refine Kd.R_append (Kd.int .i64) (w0 := wb) wb.heap.size rfl (.tmp 98) (.tmp 99) 54 3 (.int .i64 0) 8 rfl Try.underlying54 info3 rfl (by decide) (by omega) u10 acc 1 [.int .i64 1] (fun _ => True) (fun _ => False) rfl rfl ?aP (fun _ hk => hk.elim) ?aF ?aO ?aB ?aS ?aL ?_; (case aP => exact rfl); (case aB => exact (by repeat (first | (with_reducible first | exact HBX.out | apply below_alloc | apply pw_below_drewN | apply below_drew1) | exact HBX.out))); (case aF => exact (fun _ _ => trivial)); (case aO => exact (by (with_reducible repeat (first | apply Kd.R_alloc | apply Kd.R_drewN | apply Kd.R_drew)); exact HOX.out)); (case aS => exact (below_size (by repeat (first | (with_reducible first | exact HBX.out | apply below_alloc | apply pw_below_drewN | apply below_drew1) | exact HBX.out)))); (case aL => have := HAL.out; omega); intro v105 w13 ho hb hg hat; have HBN := Aside0.mk hb; have HON := Aside0.mk ho; clear ho hb hg hat))
                go_roundg (gk - 1)
                case measure => have := HK2.out; omega
                case rel => exact ⟨q + 1, _, by go_num, ⟨by have := HK2.out; omega⟩, HG3, HON, HBN⟩
              · rw [if_neg cm] at hg
                replace cm := decide_eq_false cm
                cases hwf : wellF l2 seen (x, s) a4 nm with
                | true =>
                  rw [hwf, if_pos rfl] at hg
                  have HG3 := Aside0.mk hg
                  have HWF := Aside0.mk hwf
                  clear hg hwf
                  go_wp2_with (first | ((with_reducible refine gate_builtin (b := .append) (xs := #[.tmp 105, .tmp 106]) rfl ?_); at_builtin; refine Kd.R_append (Kd.int .i64) (w0 := wb) wb.heap.size rfl (.tmp 105) (.tmp 106) 54 3 (.int .i64 0) 8 rfl Try.underlying54 info3 rfl (by decide) (by omega) u10 acc 3 [.int .i64 3] (fun _ => True) (fun _ => False) rfl rfl ?aP (fun _ hk => hk.elim) ?aF ?aO ?aB ?aS ?aL ?_; (case aP => exact rfl); (case aB => exact (by repeat (first | (with_reducible first | exact HBX.out | apply below_alloc | apply pw_below_drewN | apply below_drew1) | exact HBX.out))); (case aF => exact (fun _ _ => trivial)); (case aO => exact (by (with_reducible repeat (first | apply Kd.R_alloc | apply Kd.R_drewN | apply Kd.R_drew)); exact HOX.out)); (case aS => exact (below_size (by repeat (first | (with_reducible first | exact HBX.out | apply below_alloc | apply pw_below_drewN | apply below_drew1) | exact HBX.out)))); (case aL => have := HAL.out; omega); intro v105 w13 ho hb hg hat; have HBN := Aside0.mk hb; have HON := Aside0.mk ho; clear ho hb hg hat) | (go_at_call 67; refine (well_calls (wa.heap.size + 2) w.heap.size wa.heap.size (w.heap.size + 1) (wa.heap.size + 1) j A2 c2 l2 x s a4 _ D nm _ (blk_below HMB.out HBX.out) (blk_below HB7.out HBX.out) (blk_below HL.out HBX.out) (blk_below HB9.out HBX.out) (own_below HM.out HBX.out) HS.out (Kd.C_below HB2C.out HBX.out) hc2 HSZ.out).mono ?_; rw [HWF.out]; rintro e w6 ⟨rfl, hb6⟩; have HBX' := Aside0.mk (below_step HBX.out hb6); have HOX' := Aside0.mk (Kd.R_below HOX.out hb6); clear HBX HOX; have HBX := HBX'; have HOX := HOX'; clear HBX' HOX' hb6))
                  go_roundg (gk - 1)
                  case measure => have := HK2.out; omega
                  case rel => exact ⟨q + 1, _, by go_num, ⟨by have := HK2.out; omega⟩, HG3, HON, HBN⟩
                | false =>
                  rw [hwf, if_neg (by decide)] at hg
                  have HG3 := Aside0.mk hg
                  have HWF := Aside0.mk hwf
                  clear hg hwf
                  go_wp2_with (first | ((with_reducible refine gate_builtin (b := .append) (xs := #[.tmp 89, .tmp 90]) rfl ?_); at_builtin; refine Kd.R_append (Kd.int .i64) (w0 := wb) wb.heap.size rfl (.tmp 89) (.tmp 90) 54 3 (.int .i64 0) 8 rfl Try.underlying54 info3 rfl (by decide) (by omega) u10 acc 2 [.int .i64 2] (fun _ => True) (fun _ => False) rfl rfl ?aP (fun _ hk => hk.elim) ?aF ?aO ?aB ?aS ?aL ?_; (case aP => exact rfl); (case aB => exact (by repeat (first | (with_reducible first | exact HBX.out | apply below_alloc | apply pw_below_drewN | apply below_drew1) | exact HBX.out))); (case aF => exact (fun _ _ => trivial)); (case aO => exact (by (with_reducible repeat (first | apply Kd.R_alloc | apply Kd.R_drewN | apply Kd.R_drew)); exact HOX.out)); (case aS => exact (below_size (by repeat (first | (with_reducible first | exact HBX.out | apply below_alloc | apply pw_below_drewN | apply below_drew1) | exact HBX.out)))); (case aL => have := HAL.out; omega); intro v105 w13 ho hb hg hat; have HBN := Aside0.mk hb; have HON := Aside0.mk ho; clear ho hb hg hat) | (go_at_call 67; refine (well_calls (wa.heap.size + 2) w.heap.size wa.heap.size (w.heap.size + 1) (wa.heap.size + 1) j A2 c2 l2 x s a4 _ D nm _ (blk_below HMB.out HBX.out) (blk_below HB7.out HBX.out) (blk_below HL.out HBX.out) (blk_below HB9.out HBX.out) (own_below HM.out HBX.out) HS.out (Kd.C_below HB2C.out HBX.out) hc2 HSZ.out).mono ?_; rw [HWF.out]; rintro e w6 ⟨rfl, hb6⟩; have HBX' := Aside0.mk (below_step HBX.out hb6); have HOX' := Aside0.mk (Kd.R_below HOX.out hb6); clear HBX HOX; have HBX := HBX'; have HOX := HOX'; clear HBX' HOX' hb6))
                  go_roundg (gk - 1)
                  case measure => have := HK2.out; omega
                  case rel => exact ⟨q + 1, _, by go_num, ⟨by have := HK2.out; omega⟩, HG3, HON, HBN⟩
            · have hg := HG.out
              rw [List.drop_of_length_le (show l0.length ≤ q by omega), clsGo] at hg
              obtain rfl := Option.some.inj hg
              obtain ⟨A10, c10, rfl⟩ := Kd.R_slice HOX.out
              clear hg
              go_wp2_with fail
              refine bodyPost_ret (v := .tuple #[.slice A10 acc.length c10, .int .i64 0]) (by simp [results, Try.results30, go_sem]) rfl ⟨_, rfl, Kd.R_lower HOX.out (Nat.le_trans HBW.out.size (Nat.le_trans HBA.out.size HB.out.size)), HBW.out.trans ((HBA.out.trans ((HB.out.trans (HBX.out.mono HB.out.size)).mono HBA.out.size)).mono HBW.out.size)⟩
end Go.Proofs.Ytokijibpdnepiaa.X
end
section
namespace Go.Proofs.Ytokijibpdnepiaa.X.Srt
variable {α : Type}
def g (z : α) (xs : List α) (i : Nat) : α := xs.getD i z
def sw (z : α) (xs : List α) (i j : Nat) : List α := (xs.set i (g z xs j)).set j (g z xs i)
def insIn (z : α) (lt : α → α → Bool) (a : Nat) : Nat → List α → List α
  | 0, xs => xs
  | j + 1, xs => if a < j + 1 then (if lt (g z xs (j + 1)) (g z xs j) = true then insIn z lt a j (sw z xs (j + 1) j) else xs) else xs
def insOut (z : α) (lt : α → α → Bool) (a : Nat) : Nat → Nat → List α → List α
  | 0, _, xs => xs
  | d + 1, i, xs => insOut z lt a d (i + 1) (insIn z lt a i xs)
def insF (z : α) (lt : α → α → Bool) (a b : Nat) (xs : List α) : List α := insOut z lt a (b - (a + 1)) (a + 1) xs
def swapF (z : α) (a b : Nat) : Nat → Nat → List α → List α
  | 0, _, xs => xs
  | d + 1, i, xs => swapF z a b d (i + 1) (sw z xs (a + i) (b + i))
def rotF (z : α) (m : Nat) : Nat → Nat → Nat → List α → List α
  | 0, i, _, xs => swapF z (m - i) m i 0 xs
  | f + 1, i, j, xs => if i = j then swapF z (m - i) m i 0 xs else if j < i then rotF z m f (i - j) j (swapF z (m - i) m j 0 xs) else rotF z m f i (j - i) (swapF z (m - i) (m + j - i) i 0 xs)
def bs (p : Nat → Bool) : Nat → Nat → Nat → Nat
  | 0, lo, _ => lo
  | k + 1, lo, hi => if lo < hi then (if p ((lo + hi) / 2) = true then bs p k ((lo + hi) / 2 + 1) hi else bs p k lo ((lo + hi) / 2)) else lo
def up (z : α) : Nat → Nat → List α → List α
  | 0, _, xs => xs
  | d + 1, k, xs => up z d (k + 1) (sw z xs k (k + 1))
def dn (z : α) (i : Nat) : Nat → List α → List α
  | 0, xs => xs
  | k + 1, xs => if i < k + 1 then dn z i k (sw z xs (k + 1) k) else xs
def symF (z : α) (lt : α → α → Bool) : Nat → Nat → Nat → Nat → List α → List α
  | 0, _, _, _, xs => xs
  | f + 1, a, m, b, xs =>
    if m - a = 1 then (let i := bs (fun h => lt (g z xs h) (g z xs a)) (b - m) m b; up z (i - 1 - a) a xs)
    else if b - m = 1 then (let i := bs (fun h => !lt (g z xs m) (g z xs h)) (m - a) a m; dn z i m xs)
    else
      let mid := (a + b) / 2
      let n := mid + m
      let s0 := if mid < m then n - b else a
      let r0 := if mid < m then mid else m
      let st := bs (fun h => !lt (g z xs (n - 1 - h)) (g z xs h)) (r0 - s0) s0 r0
      let en := n - st
      let x1 := if st < m ∧ m < en then rotF z m (en - st) (m - st) (en - m) xs else xs
      let x2 := if a < st ∧ st < mid then symF z lt f a st mid x1 else x1
      if mid < en ∧ en < b then symF z lt f mid en b x2 else x2
def blkF (z : α) (lt : α → α → Bool) (bz n : Nat) : Nat → Nat → List α → List α
  | 0, a, xs => insF z lt a n xs
  | d + 1, a, xs => if a + bz ≤ n then blkF z lt bz n d (a + bz) (insF z lt a (a + bz) xs) else insF z lt a n xs
def mrgF (z : α) (lt : α → α → Bool) (bz n : Nat) : Nat → Nat → List α → List α
  | 0, _, xs => xs
  | d + 1, a, xs => if a + 2 * bz ≤ n then mrgF z lt bz n d (a + 2 * bz) (symF z lt (2 * bz) a (a + bz) (a + 2 * bz) xs) else if a + bz < n then symF z lt (n - a) a (a + bz) n xs else xs
def rndF (z : α) (lt : α → α → Bool) (n : Nat) : Nat → Nat → List α → List α
  | 0, _, xs => xs
  | d + 1, bz, xs => if bz < n then rndF z lt n d (bz * 2) (mrgF z lt bz n n 0 xs) else xs
def stabF (z : α) (lt : α → α → Bool) (xs : List α) : List α := rndF z lt xs.length xs.length 20 (blkF z lt 20 xs.length xs.length 0 xs)
theorem g_dec (z : α) (A : List α) (x : α) (R : List α) : g z (A ++ x :: R) A.length = x := by simp [g, List.getD]
theorem g_at {z : α} {A : List α} {x : α} {R : List α} {i : Nat} (h : i = A.length) : g z (A ++ x :: R) i = x := by subst h; exact g_dec z A x R
theorem set_dec (A : List α) (x y : α) (R : List α) : (A ++ x :: R).set A.length y = A ++ y :: R := by simp
theorem sw_dec (z : α) (A : List α) (x : α) (B : List α) (y : α) (C : List α) : sw z (A ++ x :: (B ++ y :: C)) A.length (A.length + 1 + B.length) = A ++ y :: (B ++ x :: C) := by
  have e : A ++ x :: (B ++ y :: C) = (A ++ x :: B) ++ y :: C := by simp
  have e2 : A ++ y :: (B ++ y :: C) = (A ++ y :: B) ++ y :: C := by simp
  have h1 : g z (A ++ x :: (B ++ y :: C)) (A.length + 1 + B.length) = y := by rw [e]; exact g_at (by simp; omega)
  unfold sw
  rw [g_dec, h1, set_dec, e2, show A.length + 1 + B.length = (A ++ y :: B).length by simp; omega, set_dec]
  simp
theorem sw_dec' (z : α) (A : List α) (x : α) (B : List α) (y : α) (C : List α) : sw z (A ++ x :: (B ++ y :: C)) (A.length + 1 + B.length) A.length = A ++ y :: (B ++ x :: C) := by
  have e : A ++ x :: (B ++ y :: C) = (A ++ x :: B) ++ y :: C := by simp
  have h1 : g z (A ++ x :: (B ++ y :: C)) (A.length + 1 + B.length) = y := by rw [e]; exact g_at (by simp; omega)
  unfold sw
  rw [g_dec, h1, e, show A.length + 1 + B.length = (A ++ x :: B).length by simp; omega, set_dec, show (A ++ x :: B) ++ x :: C = A ++ x :: (B ++ x :: C) by simp, set_dec]
theorem sw_at {z : α} {A : List α} {x : α} {B : List α} {y : α} {C : List α} {i j : Nat} (hi : i = A.length) (hj : j = A.length + 1 + B.length) : sw z (A ++ x :: (B ++ y :: C)) i j = A ++ y :: (B ++ x :: C) := by subst hi hj; exact sw_dec z A x B y C
theorem sw_at' {z : α} {A : List α} {x : α} {B : List α} {y : α} {C : List α} {i j : Nat} (hi : i = A.length + 1 + B.length) (hj : j = A.length) : sw z (A ++ x :: (B ++ y :: C)) i j = A ++ y :: (B ++ x :: C) := by subst hi hj; exact sw_dec' z A x B y C
theorem swapF_dec (z : α) (P M S : List α) : ∀ (d : Nat) (X1 Y1 X2 Y2 : List α) (a b i : Nat), a = P.length → i = Y1.length → X1.length = Y1.length → X2.length = d → Y2.length = d → b = a + i + d + M.length →
    swapF z a b d i (P ++ (Y1 ++ (X2 ++ (M ++ (X1 ++ (Y2 ++ S)))))) = P ++ (Y1 ++ (Y2 ++ (M ++ (X1 ++ (X2 ++ S)))))
  | 0, X1, Y1, X2, Y2, a, b, i, h1, h2, h3, h4, h5, h6 => by
    rw [List.length_eq_zero_iff.1 h4, List.length_eq_zero_iff.1 h5]; rfl
  | d + 1, X1, Y1, x :: X2, y :: Y2, a, b, i, h1, h2, h3, h4, h5, h6 => by
    simp only [List.length_cons] at h4 h5
    rw [swapF]
    have e := sw_at (z := z) (A := P ++ Y1) (x := x) (B := X2 ++ (M ++ X1)) (y := y) (C := Y2 ++ S) (i := a + i) (j := b + i) (by simp; omega) (by simp; omega)
    simp only [List.append_assoc, List.cons_append] at e ⊢
    rw [e]
    have ih := swapF_dec z P M S d (X1 ++ [x]) (Y1 ++ [y]) X2 Y2 a b (i + 1) h1 (by simp; omega) (by simp; omega) (by omega) (by omega) (by omega)
    simp only [List.append_assoc, List.cons_append, List.nil_append] at ih
    rw [ih]
  | d + 1, X1, Y1, [], Y2, a, b, i, h1, h2, h3, h4, h5, h6 => by simp at h4
  | d + 1, X1, Y1, x :: X2, [], a, b, i, h1, h2, h3, h4, h5, h6 => by simp at h5
theorem swap_dec (z : α) (P X M Y S : List α) (a b d : Nat) (h1 : a = P.length) (h2 : X.length = d) (h3 : Y.length = d) (h4 : b = a + d + M.length) :
    swapF z a b d 0 (P ++ (X ++ (M ++ (Y ++ S)))) = P ++ (Y ++ (M ++ (X ++ S))) := by
  have := swapF_dec z P M S d [] [] X Y a b 0 h1 rfl rfl h2 h3 (by omega)
  simpa using this
theorem rotF_dec (z : α) (S : List α) (m : Nat) : ∀ (f : Nat) (P U V : List α) (i j : Nat), U.length = i → V.length = j → P.length + i = m → 0 < i → 0 < j → i + j ≤ f + 1 → (S' : List α) → rotF z m f i j (P ++ (U ++ (V ++ S'))) = P ++ (V ++ (U ++ S'))
  | 0, P, U, V, i, j, h1, h2, h3, h4, h5, h6, S' => by omega
  | f + 1, P, U, V, i, j, h1, h2, h3, h4, h5, h6, S' => by
    rw [rotF]
    by_cases c : i = j
    · rw [if_pos c]
      have := swap_dec z P U [] V S' (m - i) m i (by omega) h1 (by omega) (by simp; omega)
      simpa using this
    · rw [if_neg c]
      by_cases c2 : j < i
      · rw [if_pos c2]
        have hU : U = U.take j ++ U.drop j := (List.take_append_drop j U).symm
        have := swap_dec z P (U.take j) (U.drop j) V S' (m - i) m j (by omega) (by rw [List.length_take]; omega) h2 (by rw [List.length_drop]; omega)
        rw [show P ++ (U ++ (V ++ S')) = P ++ (U.take j ++ (U.drop j ++ (V ++ S'))) by rw [← List.append_assoc (U.take j), ← hU], this]
        have ih := rotF_dec z S m f (P ++ V) (U.drop j) (U.take j) (i - j) j (by rw [List.length_drop]; omega) (by rw [List.length_take]; omega) (by simp; omega) (by omega) h5 (by omega) S'
        simp only [List.append_assoc] at ih
        rw [ih, ← List.append_assoc (U.take j), ← hU]
      · rw [if_neg c2]
        have hV : V = V.take (j - i) ++ V.drop (j - i) := (List.take_append_drop _ V).symm
        have := swap_dec z P U (V.take (j - i)) (V.drop (j - i)) S' (m - i) (m + j - i) i (by omega) h1 (by rw [List.length_drop]; omega) (by rw [List.length_take]; omega)
        rw [show P ++ (U ++ (V ++ S')) = P ++ (U ++ (V.take (j - i) ++ (V.drop (j - i) ++ S'))) by rw [← List.append_assoc (V.take (j - i)), ← hV], this]
        have ih := rotF_dec z S m f P (V.drop (j - i)) (V.take (j - i)) i (j - i) (by rw [List.length_drop]; omega) (by rw [List.length_take]; omega) h3 h4 (by omega) (by omega) (U ++ S')
        rw [ih, ← List.append_assoc (V.take (j - i)), ← hV]
theorem up_dec (z : α) (x : α) (S : List α) : ∀ (R P : List α) (a d : Nat), a = P.length → d = R.length → up z d a (P ++ x :: (R ++ S)) = P ++ (R ++ x :: S)
  | [], P, a, d, h1, h2 => by subst h2; rfl
  | y :: R, P, a, d, h1, h2 => by
    subst h2
    rw [List.length_cons, up]
    have e := sw_at (z := z) (A := P) (x := x) (B := []) (y := y) (C := R ++ S) (i := a) (j := a + 1) h1 (by simp; omega)
    simp only [List.nil_append, List.cons_append] at e ⊢
    rw [e]
    have ih := up_dec z x S R (P ++ [y]) (a + 1) R.length (by simp; omega) rfl
    simp only [List.append_assoc, List.cons_append, List.nil_append] at ih
    exact ih
theorem dn_dec (z : α) (y : α) (P : List α) (i : Nat) (hi : i = P.length) : ∀ (k : Nat) (L S : List α), i + L.length = k → dn z i k (P ++ (L ++ y :: S)) = P ++ y :: (L ++ S)
  | 0, L, S, h => by
    have : L = [] := List.length_eq_zero_iff.1 (by omega)
    subst this; rfl
  | k + 1, L, S, h => by
    rw [dn]
    by_cases c : i < k + 1
    · rw [if_pos c]
      obtain ⟨L', x, rfl⟩ : ∃ L' x, L = L' ++ [x] := by
        rcases List.eq_nil_or_concat L with e | ⟨L', x, e⟩
        · rw [e] at h; simp at h; omega
        · exact ⟨L', x, by rw [e]; simp⟩
      simp only [List.length_append, List.length_cons, List.length_nil] at h
      have e := sw_at' (z := z) (A := P ++ L') (x := x) (B := []) (y := y) (C := S) (i := k + 1) (j := k) (by simp; omega) (by simp; omega)
      simp only [List.append_assoc, List.nil_append, List.cons_append] at e ⊢
      rw [e, dn_dec z y P i hi k L' (x :: S) (by omega)]
    · rw [if_neg c]
      have : L = [] := List.length_eq_zero_iff.1 (by omega)
      subst this; rfl
section
variable (key : α → Int)
def klt (x y : α) : Bool := decide (key x < key y)
def Kle (x y : α) : Prop := key x ≤ key y
def Sh (X Y : List α) : Prop := X.Perm Y ∧ ∀ n : Int, X.filter (fun x => key x == n) = Y.filter (fun x => key x == n)
variable {key}
theorem Sh.refl (X : List α) : Sh key X X := ⟨List.Perm.refl _, fun _ => rfl⟩
theorem Sh.symm {X Y : List α} (h : Sh key X Y) : Sh key Y X := ⟨h.1.symm, fun n => (h.2 n).symm⟩
theorem Sh.trans {X Y Z : List α} (h : Sh key X Y) (h2 : Sh key Y Z) : Sh key X Z := ⟨h.1.trans h2.1, fun n => (h.2 n).trans (h2.2 n)⟩
theorem Sh.append {X Y X' Y' : List α} (h : Sh key X X') (h2 : Sh key Y Y') : Sh key (X ++ Y) (X' ++ Y') :=
  ⟨h.1.append h2.1, fun n => by rw [List.filter_append, List.filter_append, h.2 n, h2.2 n]⟩
theorem Sh.swap {U V : List α} (h : ∀ x ∈ U, ∀ y ∈ V, key x ≠ key y) : Sh key (U ++ V) (V ++ U) := by
  refine ⟨List.perm_append_comm, fun n => ?_⟩
  rw [List.filter_append, List.filter_append]
  by_cases c : ∃ x ∈ U, key x = n
  · obtain ⟨x, hx, e⟩ := c
    have : V.filter (fun x => key x == n) = [] := List.filter_eq_nil_iff.2 fun y hy => by
      have := h x hx y hy
      simp; omega
    rw [this]; simp
  · have : U.filter (fun x => key x == n) = [] := List.filter_eq_nil_iff.2 fun y hy => by
      intro e
      exact c ⟨y, hy, by simpa using e⟩
    rw [this]; simp
theorem Sh.mem {X Y : List α} (h : Sh key X Y) {x : α} : x ∈ Y ↔ x ∈ X := h.1.symm.mem_iff
theorem Sh.length {X Y : List α} (h : Sh key X Y) : X.length = Y.length := h.1.length_eq
theorem sh_unique : ∀ (X Y : List α), X.Pairwise (Kle key) → Y.Pairwise (Kle key) → Sh key X Y → X = Y
  | [], Y, _, _, h => (List.length_eq_zero_iff.1 (by rw [← h.length]; rfl)).symm
  | x :: X, [], _, _, h => by have := h.length; simp at this
  | x :: X, y :: Y, hX, hY, h => by
    obtain ⟨h1, h2⟩ := List.pairwise_cons.1 hX
    obtain ⟨h3, h4⟩ := List.pairwise_cons.1 hY
    have e1 : key x ≤ key y := by
      have : y ∈ x :: X := h.mem.1 (by simp)
      rcases List.mem_cons.1 this with e | e
      · rw [e]; exact Int.le_refl _
      · exact h1 y e
    have e2 : key y ≤ key x := by
      have : x ∈ y :: Y := h.mem.2 (by simp)
      rcases List.mem_cons.1 this with e | e
      · rw [e]; exact Int.le_refl _
      · exact h3 x e
    have ek : key x = key y := by omega
    have hf := h.2 (key x)
    rw [List.filter_cons_of_pos (by simp), List.filter_cons_of_pos (by simp [ek])] at hf
    obtain ⟨rfl, _⟩ := List.cons.inj hf
    have ht : Sh key X Y := by
      refine ⟨(List.perm_cons x).1 h.1, fun n => ?_⟩
      have := h.2 n
      by_cases c : key x = n
      · rw [List.filter_cons_of_pos (by simp [c]), List.filter_cons_of_pos (by simp [c])] at this
        exact (List.cons.inj this).2
      · rw [List.filter_cons_of_neg (by simp [c]), List.filter_cons_of_neg (by simp [c])] at this
        exact this
    rw [sh_unique X Y h2 h4 ht]
theorem bs_inv (p : Nat → Bool) (lo0 hi0 : Nat) : ∀ (k lo hi : Nat), lo0 ≤ lo → hi ≤ hi0 → lo ≤ hi → hi - lo ≤ k → (lo = lo0 ∨ (lo0 < lo ∧ p (lo - 1) = true)) → (hi = hi0 ∨ (hi < hi0 ∧ p hi = false)) →
    ∃ st, bs p k lo hi = st ∧ lo0 ≤ st ∧ st ≤ hi0 ∧ (st = lo0 ∨ (lo0 < st ∧ p (st - 1) = true)) ∧ (st = hi0 ∨ (st < hi0 ∧ p st = false))
  | 0, lo, hi, h1, h2, h3, h4, h5, h6 => by
    obtain rfl : lo = hi := by omega
    exact ⟨lo, rfl, h1, h2, h5, h6⟩
  | k + 1, lo, hi, h1, h2, h3, h4, h5, h6 => by
    unfold bs
    by_cases c : lo < hi
    · rw [if_pos c]
      by_cases c2 : p ((lo + hi) / 2) = true
      · rw [if_pos c2]
        exact bs_inv p lo0 hi0 k _ _ (by omega) h2 (by omega) (by omega) (Or.inr ⟨by omega, by simpa using c2⟩) h6
      · rw [if_neg c2]
        exact bs_inv p lo0 hi0 k _ _ h1 (by omega) (by omega) (by omega) h5 (Or.inr ⟨by omega, by simpa using c2⟩)
    · rw [if_neg c]
      obtain rfl : lo = hi := by omega
      exact ⟨lo, rfl, h1, h2, h5, h6⟩
theorem bs_spec (p : Nat → Bool) (k lo hi : Nat) (h : lo ≤ hi) (hk : hi - lo ≤ k) : ∃ st, bs p k lo hi = st ∧ lo ≤ st ∧ st ≤ hi ∧ (st = lo ∨ (lo < st ∧ p (st - 1) = true)) ∧ (st = hi ∨ (st < hi ∧ p st = false)) :=
  bs_inv p lo hi k lo hi (Nat.le_refl _) (Nat.le_refl _) h hk (Or.inl rfl) (Or.inl rfl)
theorem take_all {X : List α} (hs : X.Pairwise (Kle key)) (j : Nat) (n : Int) (h : j = 0 ∨ ∃ hj : j - 1 < X.length, key X[j - 1] ≤ n) : ∀ x ∈ X.take j, key x ≤ n := by
  intro x hx
  obtain ⟨i, hi, rfl⟩ := List.getElem_of_mem hx
  rw [List.length_take] at hi
  rw [List.getElem_take]
  rcases h with h | ⟨hj, h⟩
  · omega
  · by_cases c : i = j - 1
    · subst c; exact h
    · have := (List.pairwise_iff_getElem.1 hs) i (j - 1) (by omega) hj (by omega)
      unfold Kle at this
      omega
theorem drop_all {X : List α} (hs : X.Pairwise (Kle key)) (j : Nat) (n : Int) (h : X.length ≤ j ∨ ∃ hj : j < X.length, n ≤ key X[j]) : ∀ x ∈ X.drop j, n ≤ key x := by
  intro x hx
  obtain ⟨i, hi, rfl⟩ := List.getElem_of_mem hx
  rw [List.length_drop] at hi
  rw [List.getElem_drop]
  rcases h with h | ⟨hj, h⟩
  · omega
  · by_cases c : i = 0
    · subst c; exact h
    · have := (List.pairwise_iff_getElem.1 hs) j (j + i) hj (by omega) (by omega)
      unfold Kle at this
      omega
theorem gL (z : α) (P L R : List α) (i j : Nat) (h : i = P.length + j) (hj : j < L.length) : g z (P ++ (L ++ R)) i = L[j] := by
  subst h
  unfold g
  rw [List.getD_eq_getElem?_getD, List.getElem?_append_right (by omega), Nat.add_sub_cancel_left, List.getElem?_append_left hj, List.getElem?_eq_getElem hj]
  rfl
theorem gR (z : α) (P L R S : List α) (i j : Nat) (h : i = P.length + L.length + j) (hj : j < R.length) : g z (P ++ (L ++ (R ++ S))) i = R[j] := by
  have := gL z (P ++ L) R S i j (by simp; omega) hj
  rwa [List.append_assoc] at this
theorem insIn_spec (z : α) (P : List α) (a : Nat) (ha : a = P.length) : ∀ (i : Nat) (L : List α) (x : α) (S : List α), i = a + L.length → L.Pairwise (Kle key) → ∃ T, insIn z (klt key) a i (P ++ (L ++ x :: S)) = P ++ (T ++ S) ∧ T.Pairwise (Kle key) ∧ Sh key (L ++ [x]) T
  | 0, L, x, S, h, hs => by
    have : L = [] := List.length_eq_zero_iff.1 (by omega)
    subst this
    exact ⟨[x], rfl, List.pairwise_singleton _ _, Sh.refl _⟩
  | i + 1, L, x, S, h, hs => by
    rw [insIn]
    by_cases c : a < i + 1
    · rw [if_pos c]
      obtain ⟨L', y, rfl⟩ : ∃ L' y, L = L' ++ [y] := by
        rcases List.eq_nil_or_concat L with e | ⟨L', y, e⟩
        · rw [e] at h; simp at h; omega
        · exact ⟨L', y, by rw [e]; simp⟩
      simp only [List.length_append, List.length_cons, List.length_nil] at h
      have e1 : g z (P ++ (L' ++ [y] ++ x :: S)) (i + 1) = x := by
        have := gL z (P ++ (L' ++ [y])) [x] S (i + 1) 0 (by simp; omega) (by simp)
        simpa using this
      have e2 : g z (P ++ (L' ++ [y] ++ x :: S)) i = y := by
        have := gL z (P ++ L') [y] (x :: S) i 0 (by simp; omega) (by simp)
        simpa using this
      rw [e1, e2]
      obtain ⟨hs1, _, hs3⟩ := List.pairwise_append.1 hs
      unfold klt
      by_cases c2 : key x < key y
      · rw [if_pos (decide_eq_true c2)]
        have e := sw_at' (z := z) (A := P ++ L') (x := y) (B := []) (y := x) (C := S) (i := i + 1) (j := i) (by simp; omega) (by simp; omega)
        simp only [List.append_assoc, List.nil_append, List.cons_append] at e ⊢
        rw [e]
        obtain ⟨T, t1, t2, t3⟩ := insIn_spec z P a ha i L' x (y :: S) (by omega) hs1
        unfold klt at t1
        refine ⟨T ++ [y], by rw [t1]; simp, List.pairwise_append.2 ⟨t2, List.pairwise_singleton _ _, fun u hu v hv => ?_⟩, ?_⟩
        · have hv : v = y := by simpa using hv
          subst hv
          rcases List.mem_append.1 (t3.mem.1 hu) with e | e
          · exact hs3 u e v (by simp)
          · have : u = x := by simpa using e
            subst this
            show key u ≤ key v; omega
        · have s1 : Sh key (L' ++ ([y] ++ [x])) (L' ++ ([x] ++ [y])) := (Sh.refl L').append (Sh.swap fun u hu v hv => by
            have hu : u = y := by simpa using hu
            have hv : v = x := by simpa using hv
            subst hu; subst hv; omega)
          have s2 := s1.trans (by rw [← List.append_assoc]; exact t3.append (Sh.refl [y]))
          exact s2
      · rw [if_neg (by simpa using c2)]
        refine ⟨L' ++ [y] ++ [x], by simp, List.pairwise_append.2 ⟨hs, List.pairwise_singleton _ _, fun u hu v hv => ?_⟩, Sh.refl _⟩
        have hv : v = x := by simpa using hv
        subst hv
        rcases List.mem_append.1 hu with e | e
        · have := hs3 u e y (by simp)
          unfold Kle at this ⊢; omega
        · have : u = y := by simpa using e
          subst this
          show key u ≤ key v; omega
    · rw [if_neg c]
      have : L = [] := List.length_eq_zero_iff.1 (by omega)
      subst this
      exact ⟨[x], rfl, List.pairwise_singleton _ _, Sh.refl _⟩
theorem insOut_spec (z : α) (P : List α) (a : Nat) (ha : a = P.length) (S : List α) : ∀ (R L : List α) (d i : Nat), d = R.length → i = a + L.length → L.Pairwise (Kle key) → ∃ T, insOut z (klt key) a d i (P ++ (L ++ (R ++ S))) = P ++ (T ++ S) ∧ T.Pairwise (Kle key) ∧ Sh key (L ++ R) T
  | [], L, d, i, hd, hi, hs => by
    subst hd
    exact ⟨L, rfl, hs, by rw [List.append_nil]; exact Sh.refl _⟩
  | x :: R, L, d, i, hd, hi, hs => by
    subst hd
    rw [List.length_cons, insOut]
    obtain ⟨T, t1, t2, t3⟩ := insIn_spec (key := key) z P a ha i L x (R ++ S) hi hs
    rw [List.cons_append, t1]
    have hl := t3.length
    simp only [List.length_append, List.length_cons, List.length_nil] at hl
    obtain ⟨T2, u1, u2, u3⟩ := insOut_spec z P a ha S R T R.length (i + 1) rfl (by omega) t2
    refine ⟨T2, u1, u2, ?_⟩
    have : Sh key (L ++ [x] ++ R) T2 := (t3.append (Sh.refl R)).trans u3
    simpa using this
theorem insF_spec (z : α) (P X S : List α) (a b : Nat) (ha : a = P.length) (hb : b = a + X.length) : ∃ T, insF z (klt key) a b (P ++ (X ++ S)) = P ++ (T ++ S) ∧ T.Pairwise (Kle key) ∧ Sh key X T := by
  unfold insF
  cases X with
  | nil =>
    rw [show b - (a + 1) = 0 by simp at hb; omega]
    exact ⟨[], rfl, List.Pairwise.nil, Sh.refl _⟩
  | cons x X =>
    simp only [List.length_cons] at hb
    have := insOut_spec (key := key) z P a ha S X [x] (b - (a + 1)) (a + 1) (by omega) rfl (List.pairwise_singleton _ _)
    simpa using this
theorem sorted_append {X Y : List α} (hX : X.Pairwise (Kle key)) (hY : Y.Pairwise (Kle key)) (h : ∀ x ∈ X, ∀ y ∈ Y, key x ≤ key y) : (X ++ Y).Pairwise (Kle key) := List.pairwise_append.2 ⟨hX, hY, h⟩
theorem symF_one (z : α) (f : Nat) (P R S : List α) (x : α) (a m b : Nat) (ha : a = P.length) (hm : m = a + 1) (hb : b = m + R.length) (hR : R.Pairwise (Kle key)) :
    ∃ T, symF z (klt key) (f + 1) a m b (P ++ ([x] ++ (R ++ S))) = P ++ (T ++ S) ∧ T.Pairwise (Kle key) ∧ Sh key ([x] ++ R) T := by
  rw [symF, if_pos (show m - a = 1 by omega)]
  obtain ⟨st, e, h1, h2, h3, h4⟩ := bs_spec (fun h => klt key (g z (P ++ ([x] ++ (R ++ S))) h) (g z (P ++ ([x] ++ (R ++ S))) a)) (b - m) m b (by omega) (Nat.le_refl _)
  dsimp only
  rw [e]
  have ga : g z (P ++ ([x] ++ (R ++ S))) a = x := gL z P [x] (R ++ S) a 0 (by omega) (by simp)
  rw [ga] at h3 h4
  obtain ⟨j, rfl⟩ : ∃ j, st = m + j := ⟨st - m, by omega⟩
  have hT := take_all hR j (key x - 1) (by
    rcases h3 with h | ⟨h, h3⟩
    · exact Or.inl (by omega)
    · refine Or.inr ⟨by omega, ?_⟩
      rw [gR z P [x] R S (m + j - 1) (j - 1) (by simp; omega) (by omega)] at h3
      have := of_decide_eq_true h3
      omega)
  have hD := drop_all hR j (key x) (by
    rcases h4 with h | ⟨h, h4⟩
    · exact Or.inl (by omega)
    · refine Or.inr ⟨by omega, ?_⟩
      rw [gR z P [x] R S (m + j) j (by simp; omega) (by omega)] at h4
      have := of_decide_eq_false h4
      omega)
  have hR2 : R = R.take j ++ R.drop j := (List.take_append_drop j R).symm
  have hu := up_dec z x (R.drop j ++ S) (R.take j) P a (m + j - 1 - a) ha (by rw [List.length_take]; omega)
  rw [← List.append_assoc (R.take j), ← hR2] at hu
  refine ⟨R.take j ++ ([x] ++ R.drop j), by rw [show [x] ++ (R ++ S) = x :: (R ++ S) from rfl, hu]; simp, ?_, ?_⟩
  · refine sorted_append (hR.sublist (List.take_sublist _ _)) (sorted_append (List.pairwise_singleton _ _) (hR.sublist (List.drop_sublist _ _)) fun u hu v hv => ?_) fun u hu v hv => ?_
    · have hu : u = x := by simpa using hu
      subst hu
      exact hD v hv
    · have h1 := hT u hu
      rcases List.mem_append.1 hv with h | h
      · have : v = x := by simpa using h
        subst this; omega
      · have := hD v h; omega
  · have s1 : Sh key ([x] ++ R.take j ++ R.drop j) (R.take j ++ [x] ++ R.drop j) := (Sh.swap fun u hu v hv => by
      have hu : u = x := by simpa using hu
      subst hu
      have := hT v hv
      omega).append (Sh.refl _)
    rw [List.append_assoc, ← hR2, List.append_assoc] at s1
    exact s1
theorem symF_last (z : α) (f : Nat) (P L S : List α) (y : α) (a m b : Nat) (ha : a = P.length) (hm : m = a + L.length) (hb : b = m + 1) (h2L : ¬ L.length = 1) (hL : L.Pairwise (Kle key)) :
    ∃ T, symF z (klt key) (f + 1) a m b (P ++ (L ++ ([y] ++ S))) = P ++ (T ++ S) ∧ T.Pairwise (Kle key) ∧ Sh key (L ++ [y]) T := by
  rw [symF, if_neg (show ¬ m - a = 1 by omega), if_pos (show b - m = 1 by omega)]
  obtain ⟨st, e, h1, h2, h3, h4⟩ := bs_spec (fun h => !klt key (g z (P ++ (L ++ ([y] ++ S))) m) (g z (P ++ (L ++ ([y] ++ S))) h)) (m - a) a m (by omega) (Nat.le_refl _)
  dsimp only
  rw [e]
  have gm : g z (P ++ (L ++ ([y] ++ S))) m = y := gR z P L [y] S m 0 (by omega) (by simp)
  rw [gm] at h3 h4
  obtain ⟨j, rfl⟩ : ∃ j, st = a + j := ⟨st - a, by omega⟩
  have hT := take_all hL j (key y) (by
    rcases h3 with h | ⟨h, h3⟩
    · exact Or.inl (by omega)
    · refine Or.inr ⟨by omega, ?_⟩
      rw [gL z P L ([y] ++ S) (a + j - 1) (j - 1) (by omega) (by omega)] at h3
      have := of_decide_eq_false (show decide (key y < key L[j - 1]) = false by simpa [klt] using h3)
      omega)
  have hD := drop_all hL j (key y + 1) (by
    rcases h4 with h | ⟨h, h4⟩
    · exact Or.inl (by omega)
    · refine Or.inr ⟨by omega, ?_⟩
      rw [gL z P L ([y] ++ S) (a + j) j (by omega) (by omega)] at h4
      have := of_decide_eq_true (show decide (key y < key L[j]) = true by simpa [klt] using h4)
      omega)
  have hL2 : L = L.take j ++ L.drop j := (List.take_append_drop j L).symm
  have hu := dn_dec z y (P ++ L.take j) (a + j) (by rw [List.length_append, List.length_take]; omega) m (L.drop j) S (by rw [List.length_drop]; omega)
  simp only [List.append_assoc] at hu
  rw [← List.append_assoc (L.take j), ← hL2] at hu
  refine ⟨L.take j ++ ([y] ++ L.drop j), by rw [show [y] ++ S = y :: S from rfl, hu]; simp, ?_, ?_⟩
  · refine sorted_append (hL.sublist (List.take_sublist _ _)) (sorted_append (List.pairwise_singleton _ _) (hL.sublist (List.drop_sublist _ _)) fun u hu v hv => ?_) fun u hu v hv => ?_
    · have hu : u = y := by simpa using hu
      subst hu
      have := hD v hv; omega
    · have h1 := hT u hu
      rcases List.mem_append.1 hv with h | h
      · have : v = y := by simpa using h
        subst this; exact h1
      · have := hD v h; omega
  · have s1 : Sh key (L.take j ++ (L.drop j ++ [y])) (L.take j ++ ([y] ++ L.drop j)) := (Sh.refl _).append (Sh.swap fun q hq v hv => by
      have hv : v = y := by simpa using hv
      have := hD q hq
      rw [hv]
      omega)
    rw [← List.append_assoc (L.take j), ← hL2] at s1
    exact s1
theorem symF_spec (z : α) : ∀ (f : Nat) (P L R S : List α) (a m b : Nat), a = P.length → m = a + L.length → b = m + R.length → 0 < L.length → 0 < R.length → L.length + R.length ≤ f → L.Pairwise (Kle key) → R.Pairwise (Kle key) →
    ∃ T, symF z (klt key) f a m b (P ++ (L ++ (R ++ S))) = P ++ (T ++ S) ∧ T.Pairwise (Kle key) ∧ Sh key (L ++ R) T
  | 0, P, L, R, S, a, m, b, ha, hm, hb, hl, hr, hf, hL, hR => by omega
  | f + 1, P, L, R, S, a, m, b, ha, hm, hb, hl, hr, hf, hL, hR => by
    by_cases c1 : L.length = 1
    · obtain ⟨x, rfl⟩ := List.length_eq_one_iff.1 c1
      exact symF_one z f P R S x a m b ha hm hb hR
    by_cases c2 : R.length = 1
    · obtain ⟨y, rfl⟩ := List.length_eq_one_iff.1 c2
      exact symF_last z f P L S y a m b ha hm hb c1 hL
    rw [symF, if_neg (show ¬ m - a = 1 by omega), if_neg (show ¬ b - m = 1 by omega)]
    dsimp only
    obtain ⟨mid, hmid⟩ : ∃ mid, (a + b) / 2 = mid := ⟨_, rfl⟩
    rw [hmid]
    obtain ⟨s0, hs0⟩ : ∃ s0, (if mid < m then mid + m - b else a) = s0 := ⟨_, rfl⟩
    obtain ⟨r0, hr0⟩ : ∃ r0, (if mid < m then mid else m) = r0 := ⟨_, rfl⟩
    rw [hs0, hr0]
    have bnd : a ≤ s0 ∧ s0 ≤ r0 ∧ r0 ≤ m ∧ r0 ≤ mid ∧ mid + m - b ≤ s0 ∧ (s0 = a ∨ mid + m - s0 = b) ∧ (r0 = m ∨ r0 = mid) := by
      by_cases c : mid < m
      · rw [if_pos c] at hs0 hr0; omega
      · rw [if_neg c] at hs0 hr0; omega
    obtain ⟨b1, b2, b3, b4, b5, b6, b7⟩ := bnd
    obtain ⟨st, e, h1, h2, h3, h4⟩ := bs_spec (fun h => !klt key (g z (P ++ (L ++ (R ++ S))) (mid + m - 1 - h)) (g z (P ++ (L ++ (R ++ S))) h)) (r0 - s0) s0 r0 b2 (Nat.le_refl _)
    rw [e]
    obtain ⟨u, hu⟩ : ∃ u, st = a + u := ⟨st - a, by omega⟩
    obtain ⟨v, hv⟩ : ∃ v, mid + m - st = m + v := ⟨mid - st, by omega⟩
    rw [hv]
    have huL : u ≤ L.length := by omega
    have hvR : v ≤ R.length := by omega
    have hL2 : L = L.take u ++ L.drop u := (List.take_append_drop u L).symm
    have hR2 : R = R.take v ++ R.drop v := (List.take_append_drop v R).symm

    have o1 : ∀ x ∈ L.take u, ∀ y ∈ R.drop v, key x ≤ key y := by
      intro x hx y hy
      rcases h3 with h | ⟨h, h3⟩
      · rcases b6 with b6 | b6
        · have : u = 0 := by omega
          subst this
          simp at hx
        · have : R.length ≤ v := by omega
          rw [List.drop_of_length_le this] at hy
          simp at hy
      · have hv2 : v < R.length := by omega
        have hu2 : u - 1 < L.length := by omega
        rw [gR z P L R S (mid + m - 1 - (st - 1)) v (by omega) hv2, gL z P L (R ++ S) (st - 1) (u - 1) (by omega) hu2] at h3
        have h5 := of_decide_eq_false (show decide (key R[v] < key L[u - 1]) = false by simpa [klt] using h3)
        have h6 := take_all hL u (key L[u - 1]) (Or.inr ⟨hu2, Int.le_refl _⟩) x hx
        have h7 := drop_all hR v (key R[v]) (Or.inr ⟨hv2, Int.le_refl _⟩) y hy
        omega
    have o2 : ∀ x ∈ L.drop u, ∀ y ∈ R.take v, key y < key x := by
      intro x hx y hy
      rcases h4 with h | ⟨h, h4⟩
      · rcases b7 with b7 | b7
        · have : L.length ≤ u := by omega
          rw [List.drop_of_length_le this] at hx
          simp at hx
        · have : v = 0 := by omega
          subst this
          simp at hy
      · have hv2 : v - 1 < R.length := by omega
        have hu2 : u < L.length := by omega
        rw [gR z P L R S (mid + m - 1 - st) (v - 1) (by omega) hv2, gL z P L (R ++ S) st u (by omega) hu2] at h4
        have h5 := of_decide_eq_true (show decide (key R[v - 1] < key L[u]) = true by simpa [klt] using h4)
        have h6 := drop_all hL u (key L[u]) (Or.inr ⟨hu2, Int.le_refl _⟩) x hx
        have h7 := take_all hR v (key R[v - 1]) (Or.inr ⟨hv2, Int.le_refl _⟩) y hy
        omega
    have l1 : (L.take u).length = u := by rw [List.length_take]; omega
    have l2 : (L.drop u).length = L.length - u := List.length_drop ..
    have l3 : (R.take v).length = v := by rw [List.length_take]; omega
    have l4 : (R.drop v).length = R.length - v := List.length_drop ..
    have hL1 := hL.sublist (List.take_sublist u L)
    have hLd := hL.sublist (List.drop_sublist u L)
    have hR1 := hR.sublist (List.take_sublist v R)
    have hRd := hR.sublist (List.drop_sublist v R)
    have hsame : Sh key (L ++ R) ((L.take u ++ R.take v) ++ (L.drop u ++ R.drop v)) := by
      have : Sh key (L.take u ++ ((L.drop u ++ R.take v) ++ R.drop v)) (L.take u ++ ((R.take v ++ L.drop u) ++ R.drop v)) := (Sh.refl _).append ((Sh.swap fun x hx y hy => by have := o2 x hx y hy; omega).append (Sh.refl _))
      have e1 : L.take u ++ ((L.drop u ++ R.take v) ++ R.drop v) = L ++ R := by
        rw [← List.append_assoc, ← List.append_assoc, ← hL2, List.append_assoc, ← hR2]
      rw [e1] at this
      simpa [List.append_assoc] using this
    have hxs : P ++ (L ++ (R ++ S)) = P ++ (L.take u ++ (L.drop u ++ (R.take v ++ (R.drop v ++ S)))) := by
      rw [← List.append_assoc (R.take v), ← hR2, ← List.append_assoc (L.take u), ← hL2]
    generalize L.take u = L1 at *
    generalize L.drop u = L2 at *
    generalize R.take v = R1 at *
    generalize R.drop v = R2 at *
    have hx1 : (if st < m ∧ m < m + v then rotF z m (m + v - st) (m - st) (m + v - m) (P ++ (L ++ (R ++ S))) else P ++ (L ++ (R ++ S))) = P ++ (L1 ++ (R1 ++ (L2 ++ (R2 ++ S)))) := by
      rw [hxs]
      by_cases c : st < m ∧ m < m + v
      · rw [if_pos c]
        have := rotF_dec z S m (m + v - st) (P ++ L1) L2 R1 (m - st) (m + v - m) (by omega) (by omega) (by simp; omega) (by omega) (by omega) (by omega) (R2 ++ S)
        simpa [List.append_assoc] using this
      · rw [if_neg c]
        by_cases c3 : L2 = []
        · subst c3; simp
        · have : R1 = [] := List.length_eq_zero_iff.1 (by have := List.length_pos_iff.2 c3; omega)
          subst this; simp
    rw [hx1]
    have hx2 : ∃ T1, (if a < st ∧ st < mid then symF z (klt key) f a st mid (P ++ (L1 ++ (R1 ++ (L2 ++ (R2 ++ S))))) else P ++ (L1 ++ (R1 ++ (L2 ++ (R2 ++ S))))) = P ++ (T1 ++ (L2 ++ (R2 ++ S))) ∧ T1.Pairwise (Kle key) ∧ Sh key (L1 ++ R1) T1 := by
      by_cases c : a < st ∧ st < mid
      · rw [if_pos c]
        exact symF_spec z f P L1 R1 (L2 ++ (R2 ++ S)) a st mid ha (by omega) (by omega) (by omega) (by omega) (by omega) hL1 hR1
      · rw [if_neg c]
        by_cases c3 : L1 = []
        · subst c3; exact ⟨R1, by simp, hR1, Sh.refl _⟩
        · have : R1 = [] := List.length_eq_zero_iff.1 (by have := List.length_pos_iff.2 c3; omega)
          subst this
          exact ⟨L1, by simp, hL1, by rw [List.append_nil]; exact Sh.refl _⟩
    obtain ⟨T1, e2, t1, t2⟩ := hx2
    rw [e2]
    have lt1 := t2.length
    rw [List.length_append] at lt1
    have hx3 : ∃ T2, (if mid < m + v ∧ m + v < b then symF z (klt key) f mid (m + v) b (P ++ (T1 ++ (L2 ++ (R2 ++ S)))) else P ++ (T1 ++ (L2 ++ (R2 ++ S)))) = P ++ (T1 ++ (T2 ++ S)) ∧ T2.Pairwise (Kle key) ∧ Sh key (L2 ++ R2) T2 := by
      by_cases c : mid < m + v ∧ m + v < b
      · rw [if_pos c]
        have := symF_spec z f (P ++ T1) L2 R2 S mid (m + v) b (by simp; omega) (by omega) (by omega) (by omega) (by omega) (by omega) hLd hRd
        simpa [List.append_assoc] using this
      · rw [if_neg c]
        by_cases c3 : L2 = []
        · subst c3; exact ⟨R2, by simp, hRd, Sh.refl _⟩
        · have : R2 = [] := List.length_eq_zero_iff.1 (by have := List.length_pos_iff.2 c3; omega)
          subst this
          exact ⟨L2, by simp, hLd, by rw [List.append_nil]; exact Sh.refl _⟩
    obtain ⟨T2, e3, t3, t4⟩ := hx3
    rw [e3]
    refine ⟨T1 ++ T2, by simp, sorted_append t1 t3 fun x hx y hy => ?_, hsame.trans (t2.append t4)⟩
    rcases List.mem_append.1 (t2.mem.1 hx) with hx | hx
    · rcases List.mem_append.1 (t4.mem.1 hy) with hy | hy
      · rw [hL2] at hL
        exact (List.pairwise_append.1 hL).2.2 x hx y hy
      · exact o1 x hx y hy
    · rcases List.mem_append.1 (t4.mem.1 hy) with hy | hy
      · exact Int.le_of_lt (o2 y hy x hx)
      · rw [hR2] at hR
        exact (List.pairwise_append.1 hR).2.2 x hx y hy
inductive Chunks (key : α → Int) (bz : Nat) : List α → Prop
  | last (X : List α) (h : X.length ≤ bz) (hs : X.Pairwise (Kle key)) : Chunks key bz X
  | cons (X Y : List α) (h : X.length = bz) (hs : X.Pairwise (Kle key)) (hY : Chunks key bz Y) : Chunks key bz (X ++ Y)
theorem blkF_spec (z : α) (bz n : Nat) (hz : 0 < bz) : ∀ (d : Nat) (P X : List α) (a : Nat), a = P.length → n = a + X.length → X.length ≤ d * bz → ∃ T, blkF z (klt key) bz n d a (P ++ X) = P ++ T ∧ Chunks key bz T ∧ Sh key X T
  | 0, P, X, a, ha, hn, hd => by
    have : X = [] := List.length_eq_zero_iff.1 (by omega)
    subst this
    obtain ⟨T, t1, t2, t3⟩ := insF_spec (key := key) z P [] [] a n ha hn
    simp only [List.append_nil] at t1
    exact ⟨T, by rw [blkF, List.append_nil, t1], Chunks.last T (by rw [← t3.length]; exact Nat.zero_le _) t2, t3⟩
  | d + 1, P, X, a, ha, hn, hd => by
    rw [blkF]
    rw [Nat.succ_mul] at hd
    by_cases c : a + bz ≤ n
    · rw [if_pos c]
      have hX : X = X.take bz ++ X.drop bz := (List.take_append_drop bz X).symm
      have l1 : (X.take bz).length = bz := by rw [List.length_take]; omega
      have l2 : (X.drop bz).length = X.length - bz := List.length_drop ..
      obtain ⟨T, t1, t2, t3⟩ := insF_spec (key := key) z P (X.take bz) (X.drop bz) a (a + bz) ha (by omega)
      rw [← hX] at t1
      rw [t1]
      have hl := t3.length
      obtain ⟨T2, u1, u2, u3⟩ := blkF_spec z bz n hz d (P ++ T) (X.drop bz) (a + bz) (by simp; omega) (by omega) (by omega)
      rw [List.append_assoc] at u1
      refine ⟨T ++ T2, by rw [u1, List.append_assoc], Chunks.cons T T2 (by omega) t2 u2, ?_⟩
      have := t3.append u3
      rwa [← hX] at this
    · rw [if_neg c]
      obtain ⟨T, t1, t2, t3⟩ := insF_spec (key := key) z P X [] a n ha hn
      simp only [List.append_nil] at t1
      exact ⟨T, t1, Chunks.last T (by rw [← t3.length]; omega) t2, t3⟩
theorem chunks_short {bz : Nat} {X : List α} (h : Chunks key bz X) (hl : X.length ≤ bz) : X.Pairwise (Kle key) := by
  cases h with
  | last _ _ hs => exact hs
  | cons X Y h hs hY =>
    have : Y = [] := List.length_eq_zero_iff.1 (by rw [List.length_append] at hl; omega)
    subst this
    rwa [List.append_nil]
theorem chunks_long {bz : Nat} {X : List α} (h : Chunks key bz X) (hl : bz ≤ X.length) : (X.take bz).Pairwise (Kle key) ∧ Chunks key bz (X.drop bz) := by
  cases h with
  | last _ h hs =>
    refine ⟨hs.sublist (List.take_sublist _ _), ?_⟩
    rw [List.drop_of_length_le h]
    exact Chunks.last [] (Nat.zero_le _) List.Pairwise.nil
  | cons X Y h hs hY =>
    subst h
    rw [List.take_left, List.drop_left]
    exact ⟨hs, hY⟩
theorem mrgF_spec (z : α) (bz n : Nat) (hz : 0 < bz) : ∀ (d : Nat) (P X : List α) (a : Nat), a = P.length → n = a + X.length → X.length ≤ d → Chunks key bz X → ∃ T, mrgF z (klt key) bz n d a (P ++ X) = P ++ T ∧ Chunks key (2 * bz) T ∧ Sh key X T
  | 0, P, X, a, ha, hn, hd, hc => by
    have : X = [] := List.length_eq_zero_iff.1 (by omega)
    subst this
    exact ⟨[], rfl, Chunks.last [] (Nat.zero_le _) List.Pairwise.nil, Sh.refl _⟩
  | d + 1, P, X, a, ha, hn, hd, hc => by
    rw [mrgF]
    have hX : X = X.take bz ++ X.drop bz := (List.take_append_drop bz X).symm
    have l2 : (X.drop bz).length = X.length - bz := List.length_drop ..
    by_cases c : a + 2 * bz ≤ n
    · rw [if_pos c]
      obtain ⟨s1, c1⟩ := chunks_long hc (by omega)
      obtain ⟨s2, c2⟩ := chunks_long c1 (by omega)
      have l1 : (X.take bz).length = bz := by rw [List.length_take]; omega
      have hY : X.drop bz = (X.drop bz).take bz ++ (X.drop bz).drop bz := (List.take_append_drop bz _).symm
      have l3 : ((X.drop bz).take bz).length = bz := by rw [List.length_take]; omega
      have l4 : ((X.drop bz).drop bz).length = (X.drop bz).length - bz := List.length_drop ..
      rw [hY] at hX
      generalize X.take bz = X1 at *
      generalize (X.drop bz).take bz = X2 at *
      generalize (X.drop bz).drop bz = X3 at *
      subst hX
      obtain ⟨T, t1, t2, t3⟩ := symF_spec z (2 * bz) P X1 X2 X3 a (a + bz) (a + 2 * bz) ha (by omega) (by omega) (by omega) (by omega) (by omega) s1 s2
      rw [t1]
      have hl := t3.length
      rw [List.length_append] at hl
      simp only [List.length_append] at hn hd
      obtain ⟨T2, u1, u2, u3⟩ := mrgF_spec z bz n hz d (P ++ T) X3 (a + 2 * bz) (by simp; omega) (by omega) (by omega) c2
      rw [List.append_assoc] at u1
      refine ⟨T ++ T2, by rw [u1, List.append_assoc], Chunks.cons T T2 (by omega) t2 u2, ?_⟩
      have := t3.append u3
      rwa [List.append_assoc] at this
    · rw [if_neg c]
      by_cases c2 : a + bz < n
      · rw [if_pos c2]
        obtain ⟨s1, c1⟩ := chunks_long hc (by omega)
        have s2 := chunks_short c1 (by omega)
        have l1 : (X.take bz).length = bz := by rw [List.length_take]; omega
        obtain ⟨T, t1, t2, t3⟩ := symF_spec z (n - a) P (X.take bz) (X.drop bz) [] a (a + bz) n ha (by omega) (by omega) (by omega) (by omega) (by omega) s1 s2
        simp only [List.append_nil] at t1
        rw [← hX] at t1 t3
        exact ⟨T, t1, Chunks.last T (by rw [← t3.length]; omega) t2, t3⟩
      · rw [if_neg c2]
        exact ⟨X, rfl, Chunks.last X (by omega) (chunks_short hc (by omega)), Sh.refl _⟩
theorem rndF_spec (z : α) (n : Nat) : ∀ (d bz : Nat) (X : List α), 0 < bz → n = X.length → n ≤ bz + d → Chunks key bz X → ∃ T, rndF z (klt key) n d bz X = T ∧ T.Pairwise (Kle key) ∧ Sh key X T
  | 0, bz, X, hz, hn, hd, hc => ⟨X, rfl, chunks_short hc (by omega), Sh.refl _⟩
  | d + 1, bz, X, hz, hn, hd, hc => by
    rw [rndF]
    by_cases c : bz < n
    · rw [if_pos c]
      obtain ⟨T, t1, t2, t3⟩ := mrgF_spec z bz n hz n [] X 0 rfl (by omega) (by omega) hc
      simp only [List.nil_append] at t1
      rw [t1]
      obtain ⟨T2, u1, u2, u3⟩ := rndF_spec z n d (bz * 2) T (by omega) (by rw [← t3.length]; exact hn) (by omega) (by rw [Nat.mul_comm]; exact t2)
      exact ⟨T2, u1, u2, t3.trans u3⟩
    · rw [if_neg c]
      exact ⟨X, rfl, chunks_short hc (by omega), Sh.refl _⟩
theorem stabF_spec (z : α) (X : List α) : (stabF z (klt key) X).Pairwise (Kle key) ∧ Sh key X (stabF z (klt key) X) := by
  unfold stabF
  obtain ⟨T, t1, t2, t3⟩ := blkF_spec (key := key) z 20 X.length (by decide) X.length [] X 0 rfl (by simp) (by omega)
  simp only [List.nil_append] at t1
  rw [t1]
  obtain ⟨T2, u1, u2, u3⟩ := rndF_spec z X.length X.length 20 T (by decide) t3.length (by omega) t2
  rw [u1]
  exact ⟨u2, t3.trans u3⟩
theorem stabF_eq (z : α) (X Y : List α) (hY : Y.Pairwise (Kle key)) (h : Sh key X Y) : stabF z (klt key) X = Y :=
  sh_unique _ _ (stabF_spec z X).1 hY ((stabF_spec z X).2.symm.trans h)
end
end Go.Proofs.Ytokijibpdnepiaa.X.Srt
end
