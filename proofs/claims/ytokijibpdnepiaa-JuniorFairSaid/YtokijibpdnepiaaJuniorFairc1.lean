/- For JuniorFair: contracts, and facts on lists and numbers, that it uses (part 1). -/
import Derived.ArgAppend
import Derived.Below
import Derived.BigQuiet
import Derived.BigRegion
import Derived.ChangeAlike
import Derived.Deep.AppendLies
import Derived.Deep.CutBlock
import Derived.Deep.DeepCutAuto
import Derived.Deep.Draws
import Derived.Deep.LoopGhost
import Derived.Deep.OwnRows
import Derived.Deep.QuietTactic
import Derived.Deep.RegionHeld3
import Derived.KernelRfl
import Derived.Laws.BitsLemmas
import Derived.Laws.BytesArg
import Derived.Laws.IdiomCopy
import Derived.Laws.MakeOwn
import Derived.Laws.OwnMore
import Derived.Laws.Rows
import Derived.Laws.Slices
import Derived.Lib.AppendStr
import Derived.Lib.ConvBytes
import Derived.Maps.AppendAt
import Derived.Maps.OwnOps
import Derived.Maps.OwnSet
import Derived.OrdersHeld
import Derived.OwnWalk
import Derived.RegionTactic
import Derived.RowKit
import Derived.RowKit3
import Derived.StringKeys
import Derived.Tactics
import Derived.Test.YtokijibpdnepiaaJuniorFairc0
import Derived.Test.YtokijibpdnepiaaProg
import Derived.WalkKit
import Derived.WideLaws
section
namespace Go.Proofs.Ytokijibpdnepiaa.Fix
theorem bl_gtr : ∀ a b : List UInt8, (!(Op.bytesLess a b || a == b)) = Op.bytesLess b a
  | [], [] => rfl
  | [], y :: b => by simp [Op.bytesLess]
  | x :: a, [] => by simp [Op.bytesLess]
  | x :: a, y :: b => by
    have ih := bl_gtr a b
    simp only [Op.bytesLess]
    by_cases h : x = y
    · subst h
      have : ¬ x < x := by simp
      simp only [this, decide_false, Bool.false_or, beq_self_eq_true, Bool.true_and, ← ih]
      congr 1
      simp
    · have h1 : (x == y) = false := by simpa using h
      have h2 : (y == x) = false := by simpa using fun e => h e.symm
      have h3 : (x :: a == y :: b) = false := by simp [h]
      rw [h1, h2, h3]
      simp only [Bool.false_and, Bool.or_false]
      have : decide (y < x) = !decide (x < y) := by
        rw [Bool.eq_iff_iff]
        simp only [decide_eq_true_eq, Bool.not_eq_true', decide_eq_false_iff_not, UInt8.lt_iff_toNat_lt]
        have : x.toNat ≠ y.toNat := fun e => h (UInt8.toNat_inj.1 e)
        omega
      rw [this]
@[go_sem high] theorem x_string_gtr (t : TypeId) (a b : ByteArray) : binOp .gtr t (.string a) (.string b) = pure (.bool (Op.bytesLess b.toList a.toList)) := by
  rw [← bl_gtr]; simp [binOp, Op.stringOp]
@[go_sem high] theorem x_string_leq (t : TypeId) (a b : ByteArray) : binOp .leq t (.string a) (.string b) = pure (.bool (!(Op.bytesLess b.toList a.toList))) := by
  rw [← bl_gtr, Bool.not_not]; simp [binOp, Op.stringOp]
@[go_sem high] theorem x_string_geq (t : TypeId) (a b : ByteArray) : binOp .geq t (.string a) (.string b) = pure (.bool (!(Op.bytesLess a.toList b.toList))) := by
  simp [binOp, Op.stringOp]
end Go.Proofs.Ytokijibpdnepiaa.Fix
end
section
namespace Go.Proofs.Ytokijibpdnepiaa.X
open Go.RowKit Go.Proofs.YtokijibpdnepiaaW.PrintWords Go.Proofs.YtokijibpdnepiaaW.PrintLast Go.Proofs.YtokijibpdnepiaaW.PrintMore
attribute [local go_sem] max2_int min2_int max_two min_two max_three min_three max_four min_four
set_option linter.unusedVariables false
set_option linter.unusedSimpArgs false
def errW : Option Int → Value
  | none => .nilIface
  | some c => .iface 0 (.int .i64 c)
theorem errW_none : errW none = .nilIface := rfl
theorem errW_some (c : Int) : errW (some c) = .iface 0 (.int .i64 c) := rfl
theorem info3 : (Try.prog.info? 3).map (fun i => (i.zero, i.size, i.bytes)) = some (some (.int .i64 0), 1, 8) := by kernel_rfl
theorem info33 : (Try.prog.info? 33).map (fun i => (i.zero, i.size, i.bytes)) = some (some (.agg #[(.string ⟨#[]⟩), (.int .i64 0), (.int .i64 0), (.int .i64 0)]), 4, 40) := by kernel_rfl
theorem info52 : (Try.prog.info? 52).map (fun i => (i.zero, i.size, i.bytes)) = some (some (.agg #[(.string ⟨#[]⟩), (.int .i64 0), (.int .i64 0)]), 3, 32) := by kernel_rfl
structure S33 where
  f0 : ByteArray
  f1 : Int
  f2 : Int
  f3 : Int
def z33 : S33 := ⟨(⟨#[]⟩ : ByteArray), (0 : Int), (0 : Int), (0 : Int)⟩
def k33 : Kd S33 := Kd.iso (Kd.pair Kd.string (Kd.pair (Kd.int .i64) (Kd.pair (Kd.int .i64) (Kd.int .i64)))) (fun x : S33 => (x.f0, x.f1, x.f2, x.f3))
theorem k33_open {w : World} {x : S33} {cs : List Value} (h : k33.K w x cs) : cs = [.string x.f0, .int .i64 x.f1, .int .i64 x.f2, .int .i64 x.f3] := by
  obtain ⟨_, _, rfl, rfl, ⟨_, _, rfl, rfl, ⟨_, _, rfl, rfl, rfl⟩⟩⟩ := h
  exact rfl
theorem k33_openM {w : World} {base : Nat} {ok : Nat → Prop} {x : S33} {cs : List Value} (h : k33.M w base ok x cs) : cs = [.string x.f0, .int .i64 x.f1, .int .i64 x.f2, .int .i64 x.f3] := by
  obtain ⟨_, _, rfl, rfl, ⟨_, _, rfl, rfl, ⟨_, _, rfl, rfl, rfl⟩⟩⟩ := h
  exact rfl
theorem k33_mkM (w : World) (base : Nat) (ok : Nat → Prop) (x : S33)  : k33.M w base ok x [.string x.f0, .int .i64 x.f1, .int .i64 x.f2, .int .i64 x.f3] := ⟨[.string x.f0], [.int .i64 x.f1, .int .i64 x.f2, .int .i64 x.f3], rfl, rfl, ⟨[.int .i64 x.f1], [.int .i64 x.f2, .int .i64 x.f3], rfl, rfl, ⟨[.int .i64 x.f2], [.int .i64 x.f3], rfl, rfl, rfl⟩⟩⟩
def rd_T33 (xs : List S33) (i : Int) : S33 := xs.getD i.toNat z33
theorem at_T33 {w : World} {A : Option Addr} {n : Nat} {xs : List S33} (h : Kd.C k33 w A n xs) (i : Int) (h0 : 0 ≤ i) (h1 : i < n) : ∃ ad , A = some ad ∧ w.cell? (ad.add (i.toNat * 4)) = some (.string (rd_T33 xs i).f0) ∧ w.cell? ⟨(ad.add (i.toNat * 4)).block, (ad.add (i.toNat * 4)).off + 1, none⟩ = some (.int .i64 (rd_T33 xs i).f1) ∧ w.cell? ⟨(ad.add (i.toNat * 4)).block, (ad.add (i.toNat * 4)).off + 2, none⟩ = some (.int .i64 (rd_T33 xs i).f2) ∧ w.cell? ⟨(ad.add (i.toNat * 4)).block, (ad.add (i.toNat * 4)).off + 3, none⟩ = some (.int .i64 (rd_T33 xs i).f3) := by
  obtain ⟨ad, c, e, _, hK, hc0⟩ := Kd.C_get h z33 i h0 h1
  have hc : ∀ j u, c[j]? = some u → w.cell? (ad.add (i.toNat * 4 + j)) = some u := hc0
  obtain rfl := k33_open hK
  exact ⟨ad, e, hc 0 _ rfl, by rw [← add_field _ _ 1 (by omega)]; exact hc 1 _ rfl, by rw [← add_field _ _ 2 (by omega)]; exact hc 2 _ rfl, by rw [← add_field _ _ 3 (by omega)]; exact hc 3 _ rfl⟩
structure S52 where
  f0 : ByteArray
  f1 : Int
  f2 : Int
def z52 : S52 := ⟨(⟨#[]⟩ : ByteArray), (0 : Int), (0 : Int)⟩
def k52 : Kd S52 := Kd.iso (Kd.pair Kd.string (Kd.pair (Kd.int .i64) (Kd.int .i64))) (fun x : S52 => (x.f0, x.f1, x.f2))
theorem k52_open {w : World} {x : S52} {cs : List Value} (h : k52.K w x cs) : cs = [.string x.f0, .int .i64 x.f1, .int .i64 x.f2] := by
  obtain ⟨_, _, rfl, rfl, ⟨_, _, rfl, rfl, rfl⟩⟩ := h
  exact rfl
theorem k52_mkM (w : World) (base : Nat) (ok : Nat → Prop) (x : S52)  : k52.M w base ok x [.string x.f0, .int .i64 x.f1, .int .i64 x.f2] := ⟨[.string x.f0], [.int .i64 x.f1, .int .i64 x.f2], rfl, rfl, ⟨[.int .i64 x.f1], [.int .i64 x.f2], rfl, rfl, rfl⟩⟩
def rd_T52 (xs : List S52) (i : Int) : S52 := xs.getD i.toNat z52
theorem at_T52 {w : World} {A : Option Addr} {n : Nat} {xs : List S52} (h : Kd.C k52 w A n xs) (i : Int) (h0 : 0 ≤ i) (h1 : i < n) : ∃ ad , A = some ad ∧ w.cell? (ad.add (i.toNat * 3)) = some (.string (rd_T52 xs i).f0) ∧ w.cell? ⟨(ad.add (i.toNat * 3)).block, (ad.add (i.toNat * 3)).off + 1, none⟩ = some (.int .i64 (rd_T52 xs i).f1) ∧ w.cell? ⟨(ad.add (i.toNat * 3)).block, (ad.add (i.toNat * 3)).off + 2, none⟩ = some (.int .i64 (rd_T52 xs i).f2) := by
  obtain ⟨ad, c, e, _, hK, hc0⟩ := Kd.C_get h z52 i h0 h1
  have hc : ∀ j u, c[j]? = some u → w.cell? (ad.add (i.toNat * 3 + j)) = some u := hc0
  obtain rfl := k52_open hK
  exact ⟨ad, e, hc 0 _ rfl, by rw [← add_field _ _ 1 (by omega)]; exact hc 1 _ rfl, by rw [← add_field _ _ 2 (by omega)]; exact hc 2 _ rfl⟩
structure S56 where
  f0 : (List ByteArray)
  f1 : (List Int)
  f2 : (List S33)
  f3 : (List S52)
  f4 : Int
def k56 : Kd S56 := Kd.iso (Kd.pair (Kd.slice 9 Kd.string) (Kd.pair (Kd.slice 3 (Kd.int .i64)) (Kd.pair (Kd.slice 33 k33) (Kd.pair (Kd.slice 52 k52) (Kd.int .i64))))) (fun x : S56 => (x.f0, x.f1, x.f2, x.f3, x.f4))
theorem k56_open {w : World} {x : S56} {cs : List Value} (h : k56.K w x cs) : ∃ A0 c0 A1 c1 A2 c2 A3 c3, cs = [.slice A0 x.f0.length c0, .slice A1 x.f1.length c1, .slice A2 x.f2.length c2, .slice A3 x.f3.length c3, .int .i64 x.f4] ∧ x.f0.length ≤ c0 ∧ Kd.string.C w A0 x.f0.length x.f0 ∧ x.f1.length ≤ c1 ∧ (Kd.int .i64).C w A1 x.f1.length x.f1 ∧ x.f2.length ≤ c2 ∧ k33.C w A2 x.f2.length x.f2 ∧ x.f3.length ≤ c3 ∧ k52.C w A3 x.f3.length x.f3 := by
  obtain ⟨_, _, rfl, ⟨A0, c0, rfl, l0, g0⟩, ⟨_, _, rfl, ⟨A1, c1, rfl, l1, g1⟩, ⟨_, _, rfl, ⟨A2, c2, rfl, l2, g2⟩, ⟨_, _, rfl, ⟨A3, c3, rfl, l3, g3⟩, rfl⟩⟩⟩⟩ := h
  exact ⟨A0, c0, A1, c1, A2, c2, A3, c3, rfl, l0, g0, l1, g1, l2, g2, l3, g3⟩
structure S70 where
  f0 : Int
  f1 : Int
def k70 : Kd S70 := Kd.iso (Kd.pair (Kd.int .i64) (Kd.int .i64)) (fun x : S70 => (x.f0, x.f1))
theorem k70_open {w : World} {x : S70} {cs : List Value} (h : k70.K w x cs) : cs = [.int .i64 x.f0, .int .i64 x.f1] := by
  obtain ⟨_, _, rfl, rfl, rfl⟩ := h
  exact rfl
structure S129 where
  f0 : ByteArray
  f1 : Int
  f2 : Int
  f3 : Int
structure S131 where
  f0 : S129
  f1 : Int
  f2 : Int
structure S99 where
  f0 : Int
  f1 : Int
  f2 : ByteArray
  f3 : Int
end Go.Proofs.Ytokijibpdnepiaa.X
end
section
namespace Go.Proofs.Ytokijibpdnepiaa.X
open Go.RowKit Go.Proofs.YtokijibpdnepiaaW.PrintWords Go.Proofs.YtokijibpdnepiaaW.PrintLast Go.Proofs.YtokijibpdnepiaaW.PrintMore
attribute [local go_sem] max2_int min2_int max_two min_two max_three min_three max_four min_four
set_option linter.unusedVariables false
set_option linter.unusedSimpArgs false
def contangolaw46_few.f (l0_0 : List ByteArray) (l0_1 : List Int) (l0_2 : List (S33)) (l0_3 : List (S52)) (a0_4 : Int) : Option (Bool) := if (l0_0.length : Int) ≤ 200 then (if (l0_1.length : Int) ≤ 200 then (if (l0_2.length : Int) ≤ 300 then (some (decide ((l0_3.length : Int) ≤ 1100))) else (some false)) else (some false)) else (some false)
set_option maxHeartbeats 8000000 in
set_option maxRecDepth 100000 in
theorem contangolaw46_few.calls (A0_0 : Option Addr) (c0_0 : Nat) (l0_0 : List ByteArray) (A0_1 : Option Addr) (c0_1 : Nat) (l0_1 : List Int) (A0_2 : Option Addr) (c0_2 : Nat) (l0_2 : List (S33)) (A0_3 : Option Addr) (c0_3 : Nat) (l0_3 : List (S52)) (a0_4 : Int) (r : Bool) (w : World) (hr0_0 : Kd.C Kd.string w A0_0 l0_0.length l0_0) (hc0_0 : l0_0.length ≤ c0_0) (hr0_1 : Kd.C (Kd.int .i64) w A0_1 l0_1.length l0_1) (hc0_1 : l0_1.length ≤ c0_1) (hr0_2 : Kd.C k33 w A0_2 l0_2.length l0_2) (hc0_2 : l0_2.length ≤ c0_2) (hr0_3 : Kd.C k52 w A0_3 l0_3.length l0_3) (hc0_3 : l0_3.length ≤ c0_3) (h : contangolaw46_few.f l0_0 l0_1 l0_2 l0_3 a0_4 = some r) :
    Calls Try.prog 28 #[.agg #[.slice A0_0 l0_0.length c0_0, .slice A0_1 l0_1.length c0_1, .slice A0_2 l0_2.length c0_2, .slice A0_3 l0_3.length c0_3, .int .i64 a0_4]] w fun e w' => e = .returned (.bool r) ∧ Below w.heap.size w w' := by
  have hu56 := Try.underlying56
  have HR0_0 := Aside0.mk hr0_0
  have HC0_0 := Aside0.mk hc0_0
  clear hr0_0 hc0_0
  have HR0_1 := Aside0.mk hr0_1
  have HC0_1 := Aside0.mk hc0_1
  clear hr0_1 hc0_1
  have HR0_2 := Aside0.mk hr0_2
  have HC0_2 := Aside0.mk hc0_2
  clear hr0_2 hc0_2
  have HR0_3 := Aside0.mk hr0_3
  have HC0_3 := Aside0.mk hc0_3
  clear hr0_3 hc0_3
  have HB := Aside0.mk (Below.refl w.heap.size w)
  have H : (if (l0_0.length : Int) ≤ 200 then (if (l0_1.length : Int) ≤ 200 then (if (l0_2.length : Int) ≤ 300 then (some (decide ((l0_3.length : Int) ≤ 1100))) else (some false)) else (some false)) else (some false)) = some r := h
  clear h
  by_cases c2 : (l0_0.length : Int) ≤ 200
  · rw [if_pos c2] at H
    have c2b0 : decide ((l0_0.length : Int) ≤ 200) = true := decide_eq_true c2
    have c2b1 : decide (l0_0.length ≤ 200) = true := decide_eq_true (by omega)
    clear c2
    by_cases c3 : (l0_1.length : Int) ≤ 200
    · rw [if_pos c3] at H
      have c3b0 : decide ((l0_1.length : Int) ≤ 200) = true := decide_eq_true c3
      have c3b1 : decide (l0_1.length ≤ 200) = true := decide_eq_true (by omega)
      clear c3
      by_cases c4 : (l0_2.length : Int) ≤ 300
      · rw [if_pos c4] at H
        have c4b0 : decide ((l0_2.length : Int) ≤ 300) = true := decide_eq_true c4
        have c4b1 : decide (l0_2.length ≤ 300) = true := decide_eq_true (by omega)
        clear c4
        obtain rfl := Option.some.inj H
        go_enter Try.func28, Try.ntmps28
        go_wp2_with (first | ((with_reducible refine gate_dst (N := 1) rfl ?_); (try (refine gate_guard (by rfl) ?_; dsimp only)); refine box_event ?hg (N := 1) ?hd (cs := #[.slice A0_0 l0_0.length c0_0, .slice A0_1 l0_1.length c0_1, .slice A0_2 l0_2.length c0_2, .slice A0_3 l0_3.length c0_3, .int .i64 a0_4]) (t := 56) ?hr ?_; (case hd => rfl); (case hg => rfl); (case hr => first | (go_simp; done) | (go_simp; rfl)); intro gb101 hg w5 hbox hb; have n0_ := Aside0.mk (below_step (by repeat (first | (with_reducible first | exact HB.out | apply below_alloc | apply pw_below_drewN | apply below_drew1) | exact HB.out)) hb); have n1_ := Aside0.mk (hbox); have n2_ := Aside0.mk ((by rw [hg]; exact (below_size (by repeat (first | (with_reducible first | exact HB.out | apply below_alloc | apply pw_below_drewN | apply below_drew1) | exact HB.out))) : w.heap.size ≤ gb101)); have n3_ := Aside0.mk ((by rw [hg]; exact (below_size (by repeat (first | (with_reducible first | exact HB.out | apply below_alloc | apply pw_below_drewN | apply below_drew1) | exact HB.out))) : w.heap.size ≤ gb101)); clear HB; have HB := n0_; have BK101 := n1_; have GW101 := n2_; have GE101 := n3_; clear n0_ n1_ n2_ n3_; clear hb hbox hg; have hcz6_0 : w5.cell? ⟨gb101, 0, none⟩ = some (.slice A0_0 l0_0.length c0_0) := (blk_cell BK101.out 0).trans rfl; have hcz6_1 : w5.cell? ⟨gb101, 1, none⟩ = some (.slice A0_1 l0_1.length c0_1) := (blk_cell BK101.out 1).trans rfl; have hcz6_2 : w5.cell? ⟨gb101, 2, none⟩ = some (.slice A0_2 l0_2.length c0_2) := (blk_cell BK101.out 2).trans rfl; have hcz6_3 : w5.cell? ⟨gb101, 3, none⟩ = some (.slice A0_3 l0_3.length c0_3) := (blk_cell BK101.out 3).trans rfl; have hcz6_4 : w5.cell? ⟨gb101, 4, none⟩ = some (.int .i64 a0_4) := (blk_cell BK101.out 4).trans rfl; have hfz6_0 := blk_frozen BK101.out 0; have hfz6_1 := blk_frozen BK101.out 1; have hfz6_2 := blk_frozen BK101.out 2; have hfz6_3 := blk_frozen BK101.out 3; have hfz6_4 := blk_frozen BK101.out 4))
        go_ret
        exact ⟨by first | rfl | (simp [errW_none, errW_some] <;> rfl) | (simp [*, errW_none, errW_some] <;> rfl), by repeat (first | (with_reducible first | exact HB.out | apply below_alloc | apply pw_below_drewN | apply below_drew1 | refine below_set ?_ GE101.out) | exact HB.out)⟩
      · rw [if_neg c4] at H
        have c4b0 : decide ((l0_2.length : Int) ≤ 300) = false := decide_eq_false c4
        have c4b1 : decide (l0_2.length ≤ 300) = false := decide_eq_false (by omega)
        clear c4
        obtain rfl := Option.some.inj H
        go_enter Try.func28, Try.ntmps28
        go_wp2_with (first | ((with_reducible refine gate_dst (N := 1) rfl ?_); (try (refine gate_guard (by rfl) ?_; dsimp only)); refine box_event ?hg (N := 1) ?hd (cs := #[.slice A0_0 l0_0.length c0_0, .slice A0_1 l0_1.length c0_1, .slice A0_2 l0_2.length c0_2, .slice A0_3 l0_3.length c0_3, .int .i64 a0_4]) (t := 56) ?hr ?_; (case hd => rfl); (case hg => rfl); (case hr => first | (go_simp; done) | (go_simp; rfl)); intro gb101 hg w7 hbox hb; have n0_ := Aside0.mk (below_step (by repeat (first | (with_reducible first | exact HB.out | apply below_alloc | apply pw_below_drewN | apply below_drew1) | exact HB.out)) hb); have n1_ := Aside0.mk (hbox); have n2_ := Aside0.mk ((by rw [hg]; exact (below_size (by repeat (first | (with_reducible first | exact HB.out | apply below_alloc | apply pw_below_drewN | apply below_drew1) | exact HB.out))) : w.heap.size ≤ gb101)); have n3_ := Aside0.mk ((by rw [hg]; exact (below_size (by repeat (first | (with_reducible first | exact HB.out | apply below_alloc | apply pw_below_drewN | apply below_drew1) | exact HB.out))) : w.heap.size ≤ gb101)); clear HB; have HB := n0_; have BK101 := n1_; have GW101 := n2_; have GE101 := n3_; clear n0_ n1_ n2_ n3_; clear hb hbox hg; have hcz8_0 : w7.cell? ⟨gb101, 0, none⟩ = some (.slice A0_0 l0_0.length c0_0) := (blk_cell BK101.out 0).trans rfl; have hcz8_1 : w7.cell? ⟨gb101, 1, none⟩ = some (.slice A0_1 l0_1.length c0_1) := (blk_cell BK101.out 1).trans rfl; have hcz8_2 : w7.cell? ⟨gb101, 2, none⟩ = some (.slice A0_2 l0_2.length c0_2) := (blk_cell BK101.out 2).trans rfl; have hcz8_3 : w7.cell? ⟨gb101, 3, none⟩ = some (.slice A0_3 l0_3.length c0_3) := (blk_cell BK101.out 3).trans rfl; have hcz8_4 : w7.cell? ⟨gb101, 4, none⟩ = some (.int .i64 a0_4) := (blk_cell BK101.out 4).trans rfl; have hfz8_0 := blk_frozen BK101.out 0; have hfz8_1 := blk_frozen BK101.out 1; have hfz8_2 := blk_frozen BK101.out 2; have hfz8_3 := blk_frozen BK101.out 3; have hfz8_4 := blk_frozen BK101.out 4))
        go_ret
        exact ⟨by first | rfl | (simp [errW_none, errW_some] <;> rfl) | (simp [*, errW_none, errW_some] <;> rfl), by repeat (first | (with_reducible first | exact HB.out | apply below_alloc | apply pw_below_drewN | apply below_drew1 | refine below_set ?_ GE101.out) | exact HB.out)⟩
    · rw [if_neg c3] at H
      have c3b0 : decide ((l0_1.length : Int) ≤ 200) = false := decide_eq_false c3
      have c3b1 : decide (l0_1.length ≤ 200) = false := decide_eq_false (by omega)
      clear c3
      obtain rfl := Option.some.inj H
      go_enter Try.func28, Try.ntmps28
      go_wp2_with (first | ((with_reducible refine gate_dst (N := 1) rfl ?_); (try (refine gate_guard (by rfl) ?_; dsimp only)); refine box_event ?hg (N := 1) ?hd (cs := #[.slice A0_0 l0_0.length c0_0, .slice A0_1 l0_1.length c0_1, .slice A0_2 l0_2.length c0_2, .slice A0_3 l0_3.length c0_3, .int .i64 a0_4]) (t := 56) ?hr ?_; (case hd => rfl); (case hg => rfl); (case hr => first | (go_simp; done) | (go_simp; rfl)); intro gb101 hg w9 hbox hb; have n0_ := Aside0.mk (below_step (by repeat (first | (with_reducible first | exact HB.out | apply below_alloc | apply pw_below_drewN | apply below_drew1) | exact HB.out)) hb); have n1_ := Aside0.mk (hbox); have n2_ := Aside0.mk ((by rw [hg]; exact (below_size (by repeat (first | (with_reducible first | exact HB.out | apply below_alloc | apply pw_below_drewN | apply below_drew1) | exact HB.out))) : w.heap.size ≤ gb101)); have n3_ := Aside0.mk ((by rw [hg]; exact (below_size (by repeat (first | (with_reducible first | exact HB.out | apply below_alloc | apply pw_below_drewN | apply below_drew1) | exact HB.out))) : w.heap.size ≤ gb101)); clear HB; have HB := n0_; have BK101 := n1_; have GW101 := n2_; have GE101 := n3_; clear n0_ n1_ n2_ n3_; clear hb hbox hg; have hcz10_0 : w9.cell? ⟨gb101, 0, none⟩ = some (.slice A0_0 l0_0.length c0_0) := (blk_cell BK101.out 0).trans rfl; have hcz10_1 : w9.cell? ⟨gb101, 1, none⟩ = some (.slice A0_1 l0_1.length c0_1) := (blk_cell BK101.out 1).trans rfl; have hcz10_2 : w9.cell? ⟨gb101, 2, none⟩ = some (.slice A0_2 l0_2.length c0_2) := (blk_cell BK101.out 2).trans rfl; have hcz10_3 : w9.cell? ⟨gb101, 3, none⟩ = some (.slice A0_3 l0_3.length c0_3) := (blk_cell BK101.out 3).trans rfl; have hcz10_4 : w9.cell? ⟨gb101, 4, none⟩ = some (.int .i64 a0_4) := (blk_cell BK101.out 4).trans rfl; have hfz10_0 := blk_frozen BK101.out 0; have hfz10_1 := blk_frozen BK101.out 1; have hfz10_2 := blk_frozen BK101.out 2; have hfz10_3 := blk_frozen BK101.out 3; have hfz10_4 := blk_frozen BK101.out 4))
      go_ret
      exact ⟨by first | rfl | (simp [errW_none, errW_some] <;> rfl) | (simp [*, errW_none, errW_some] <;> rfl), by repeat (first | (with_reducible first | exact HB.out | apply below_alloc | apply pw_below_drewN | apply below_drew1 | refine below_set ?_ GE101.out) | exact HB.out)⟩
  · rw [if_neg c2] at H
    have c2b0 : decide ((l0_0.length : Int) ≤ 200) = false := decide_eq_false c2
    have c2b1 : decide (l0_0.length ≤ 200) = false := decide_eq_false (by omega)
    clear c2
    obtain rfl := Option.some.inj H
    go_enter Try.func28, Try.ntmps28
    go_wp2_with (first | ((with_reducible refine gate_dst (N := 1) rfl ?_); (try (refine gate_guard (by rfl) ?_; dsimp only)); refine box_event ?hg (N := 1) ?hd (cs := #[.slice A0_0 l0_0.length c0_0, .slice A0_1 l0_1.length c0_1, .slice A0_2 l0_2.length c0_2, .slice A0_3 l0_3.length c0_3, .int .i64 a0_4]) (t := 56) ?hr ?_; (case hd => rfl); (case hg => rfl); (case hr => first | (go_simp; done) | (go_simp; rfl)); intro gb101 hg w11 hbox hb; have n0_ := Aside0.mk (below_step (by repeat (first | (with_reducible first | exact HB.out | apply below_alloc | apply pw_below_drewN | apply below_drew1) | exact HB.out)) hb); have n1_ := Aside0.mk (hbox); have n2_ := Aside0.mk ((by rw [hg]; exact (below_size (by repeat (first | (with_reducible first | exact HB.out | apply below_alloc | apply pw_below_drewN | apply below_drew1) | exact HB.out))) : w.heap.size ≤ gb101)); have n3_ := Aside0.mk ((by rw [hg]; exact (below_size (by repeat (first | (with_reducible first | exact HB.out | apply below_alloc | apply pw_below_drewN | apply below_drew1) | exact HB.out))) : w.heap.size ≤ gb101)); clear HB; have HB := n0_; have BK101 := n1_; have GW101 := n2_; have GE101 := n3_; clear n0_ n1_ n2_ n3_; clear hb hbox hg; have hcz12_0 : w11.cell? ⟨gb101, 0, none⟩ = some (.slice A0_0 l0_0.length c0_0) := (blk_cell BK101.out 0).trans rfl; have hcz12_1 : w11.cell? ⟨gb101, 1, none⟩ = some (.slice A0_1 l0_1.length c0_1) := (blk_cell BK101.out 1).trans rfl; have hcz12_2 : w11.cell? ⟨gb101, 2, none⟩ = some (.slice A0_2 l0_2.length c0_2) := (blk_cell BK101.out 2).trans rfl; have hcz12_3 : w11.cell? ⟨gb101, 3, none⟩ = some (.slice A0_3 l0_3.length c0_3) := (blk_cell BK101.out 3).trans rfl; have hcz12_4 : w11.cell? ⟨gb101, 4, none⟩ = some (.int .i64 a0_4) := (blk_cell BK101.out 4).trans rfl; have hfz12_0 := blk_frozen BK101.out 0; have hfz12_1 := blk_frozen BK101.out 1; have hfz12_2 := blk_frozen BK101.out 2; have hfz12_3 := blk_frozen BK101.out 3; have hfz12_4 := blk_frozen BK101.out 4))
    go_ret
    exact ⟨by first | rfl | (simp [errW_none, errW_some] <;> rfl) | (simp [*, errW_none, errW_some] <;> rfl), by repeat (first | (with_reducible first | exact HB.out | apply below_alloc | apply pw_below_drewN | apply below_drew1 | refine below_set ?_ GE101.out) | exact HB.out)⟩
end Go.Proofs.Ytokijibpdnepiaa.X
end
section
namespace Go.Proofs.Ytokijibpdnepiaa.X
open Go.RowKit Go.Proofs.YtokijibpdnepiaaW.PrintWords Go.Proofs.YtokijibpdnepiaaW.PrintLast Go.Proofs.YtokijibpdnepiaaW.PrintMore
attribute [local go_sem] max2_int min2_int max_two min_two max_three min_three max_four min_four
set_option linter.unusedVariables false
set_option linter.unusedSimpArgs false
def contangoref46_Ints.l0 : Nat → List Int → List Int → Int → Option (Bool)
  | 0, _, _, _ => none
  | k + 1, x0, x1, x5 => if x5 < (x0.length : Int) then (if 0 ≤ x5 then (if x5 < (x1.length : Int) then (if (rd x0 x5) = (rd x1 x5) then (contangoref46_Ints.l0 k x0 x1 (wrap64 (x5 + 1))) else (some false)) else (none)) else (none)) else (some true)
def contangoref46_Ints.f (k : Nat) (l0 : List Int) (l1 : List Int) : Option (Bool) := if (l0.length : Int) = (l1.length : Int) then (contangoref46_Ints.l0 k l0 l1 0) else (some false)
theorem contangoref46_Ints.mono_l : ∀ k, (∀ y0 y1 y2, LeO (contangoref46_Ints.l0 k y0 y1 y2) (contangoref46_Ints.l0 (k + 1) y0 y1 y2))
  | 0 => fun _ _ _ r h => by simp [contangoref46_Ints.l0] at h
  | k + 1 => by
    have ih0 := contangoref46_Ints.mono_l k
    · intro y0 y1 y2
      unfold contangoref46_Ints.l0
      repeat' first
      | (with_reducible exact ih0 _ _ _)
      | (with_reducible exact LeO.refl _)
      | (with_reducible exact LeO.none _)
      | (with_reducible refine LeO.ite ?_ ?_)
      | (with_reducible refine LeO.bind ?_ (fun _ => ?_))
      | exact ih0 _ _ _
      | exact LeO.none _
      | refine LeO.ite ?_ ?_
      | refine LeO.bind ?_ (fun _ => ?_)
theorem contangoref46_Ints.mono : ∀ a0 a1 k, LeO (contangoref46_Ints.f k a0 a1) (contangoref46_Ints.f (k + 1) a0 a1) := by
  intro a0 a1 k
  have ih0 := contangoref46_Ints.mono_l k
  unfold contangoref46_Ints.f
  repeat' first
      | (with_reducible exact ih0 _ _ _)
      | (with_reducible exact LeO.refl _)
      | (with_reducible exact LeO.none _)
      | (with_reducible refine LeO.ite ?_ ?_)
      | (with_reducible refine LeO.bind ?_ (fun _ => ?_))
      | exact ih0 _ _ _
      | exact LeO.none _
      | refine LeO.ite ?_ ?_
      | refine LeO.bind ?_ (fun _ => ?_)
set_option maxHeartbeats 8000000 in
set_option maxRecDepth 100000 in
theorem contangoref46_Ints.calls (k : Nat) (A0 : Option Addr) (c0 : Nat) (l0 : List Int) (A1 : Option Addr) (c1 : Nat) (l1 : List Int) (r : Bool) (w : World) (hr0 : Kd.C (Kd.int .i64) w A0 l0.length l0) (hc0 : l0.length ≤ c0) (hr1 : Kd.C (Kd.int .i64) w A1 l1.length l1) (hc1 : l1.length ≤ c1) (h : contangoref46_Ints.f k l0 l1 = some r) :
    Calls Try.prog 34 #[.slice A0 l0.length c0, .slice A1 l1.length c1] w fun e w' => e = .returned (.bool r) ∧ Drawn0 w w' := by
  have HR0 := Aside0.mk hr0
  have HC0 := Aside0.mk hc0
  clear hr0 hc0
  have HR1 := Aside0.mk hr1
  have HC1 := Aside0.mk hc1
  clear hr1 hc1
  have H : (if (l0.length : Int) = (l1.length : Int) then (contangoref46_Ints.l0 k l0 l1 0) else (some false)) = some r := h
  clear h
  by_cases c3 : (l0.length : Int) = (l1.length : Int)
  · rw [if_pos c3] at H
    have c3b0 : ((l0.length : Int) == (l1.length : Int)) = true := beq_iff_eq.mpr c3
    have c3b1 : ((l0.length : Int) != (l1.length : Int)) = false := bne_eq_false_iff_eq.mpr c3
    have c3b2 : (l0.length == l1.length) = true := by first | simpa using c3 | (simp at c3 ⊢; omega)
    clear c3
    have H' := Aside0.mk H
    clear H
    go_enter Try.func34, Try.ntmps34
    go_wp2
    repeat (go_quiet (fail); try go_wp2)
    go_loopg [5] k (fun kq v5 w' => ∃ (x5_1 : Int), v5 = .int .i64 x5_1 ∧ Aside0 (contangoref46_Ints.l0 kq l0 l1 x5_1 = some r) ∧ Aside0 (kq ≤ k) ∧ Drawn0 w w')
    case atStart => exact ⟨(0), (by first | rfl | (simp; done) | (simp [*]; done)), H', ⟨Nat.le_refl _⟩, by repeat (first | exact Drawn0.refl _ | apply Drawn0.step)⟩
    case round =>
      clear H'
      try clear c1
      try clear p2
      try clear c3
      try clear c3b0
      try clear c3b1
      try clear c3b2
      obtain ⟨x5_1, rfl, HA, HK1, ⟨m1, rfl⟩⟩ := hrel
      cases gk with
      | zero => exact absurd HA.out (by simp [contangoref46_Ints.l0])
      | succ k1 =>
        have H := HA.out
        clear HA
        simp only [contangoref46_Ints.l0] at H
        by_cases c4 : x5_1 < (l0.length : Int)
        · rw [if_pos c4] at H
          have c4b0 : decide (x5_1 < (l0.length : Int)) = true := decide_eq_true c4
          clear c4
          by_cases c5 : 0 ≤ x5_1
          · rw [if_pos c5] at H
            have c5b0 : decide (0 ≤ x5_1) = true := decide_eq_true c5
            clear c5
            by_cases c6 : x5_1 < (l1.length : Int)
            · rw [if_pos c6] at H
              have c6b0 : decide (x5_1 < (l1.length : Int)) = true := decide_eq_true c6
              clear c6
              by_cases c7 : (rd l0 x5_1) = (rd l1 x5_1)
              · rw [if_pos c7] at H
                have c7b0 : ((rd l0 x5_1) == (rd l1 x5_1)) = true := beq_iff_eq.mpr c7
                have c7b1 : ((rd l0 x5_1) != (rd l1 x5_1)) = false := bne_eq_false_iff_eq.mpr c7
                clear c7
                have H' := Aside0.mk H
                clear H
                have p101 : 0 ≤ (x5_1 : Int) := of_decide_eq_true (by first | (with_reducible assumption) | assumption)
                have q101 : x5_1 < (l0.length : Int) := of_decide_eq_true (by first | (with_reducible assumption) | assumption)
                obtain ⟨ad101, e101, hx101_0⟩ := Kd.at_int HR0.out x5_1 p101 q101
                cases e101
                replace p101 := eq_true p101
                replace q101 := eq_true q101
                have p102 : 0 ≤ (x5_1 : Int) := of_decide_eq_true (by first | (with_reducible assumption) | assumption)
                have q102 : x5_1 < (l1.length : Int) := of_decide_eq_true (by first | (with_reducible assumption) | assumption)
                obtain ⟨ad102, e102, hx102_0⟩ := Kd.at_int HR1.out x5_1 p102 q102
                cases e102
                replace p102 := eq_true p102
                replace q102 := eq_true q102
                go_wp2
                repeat (go_quiet (fail); try go_wp2)
                go_roundg k1
                case measure => have := HK1.out; omega
                case rel => exact ⟨(wrap64 (x5_1 + 1)), (by first | rfl | (simp; done) | (simp [*]; done)), H', ⟨by have := HK1.out; omega⟩, by repeat (first | exact Drawn0.refl _ | apply Drawn0.step)⟩
              · rw [if_neg c7] at H
                have c7b0 : ((rd l0 x5_1) == (rd l1 x5_1)) = false := beq_eq_false_iff_ne.mpr c7
                have c7b1 : ((rd l0 x5_1) != (rd l1 x5_1)) = true := bne_iff_ne.mpr c7
                obtain rfl := Option.some.inj H
                have p101 : 0 ≤ (x5_1 : Int) := of_decide_eq_true (by first | (with_reducible assumption) | assumption)
                have q101 : x5_1 < (l0.length : Int) := of_decide_eq_true (by first | (with_reducible assumption) | assumption)
                obtain ⟨ad101, e101, hx101_0⟩ := Kd.at_int HR0.out x5_1 p101 q101
                cases e101
                replace p101 := eq_true p101
                replace q101 := eq_true q101
                have p102 : 0 ≤ (x5_1 : Int) := of_decide_eq_true (by first | (with_reducible assumption) | assumption)
                have q102 : x5_1 < (l1.length : Int) := of_decide_eq_true (by first | (with_reducible assumption) | assumption)
                obtain ⟨ad102, e102, hx102_0⟩ := Kd.at_int HR1.out x5_1 p102 q102
                cases e102
                replace p102 := eq_true p102
                replace q102 := eq_true q102
                go_wp2
                repeat (go_quiet (fail); try go_wp2)
                go_ret
                exact ⟨by first | rfl | (simp; done) | (simp [*]; done), by repeat (first | exact Drawn0.refl _ | apply Drawn0.step)⟩
            · rw [if_neg c6] at H
              exact absurd H (by simp)
          · rw [if_neg c5] at H
            exact absurd H (by simp)
        · rw [if_neg c4] at H
          have c4b0 : decide (x5_1 < (l0.length : Int)) = false := decide_eq_false c4
          clear c4
          obtain rfl := Option.some.inj H
          go_wp2
          repeat (go_quiet (fail); try go_wp2)
          go_ret
          exact ⟨by first | rfl | (simp; done) | (simp [*]; done), by repeat (first | exact Drawn0.refl _ | apply Drawn0.step)⟩
  · rw [if_neg c3] at H
    have c3b0 : ((l0.length : Int) == (l1.length : Int)) = false := beq_eq_false_iff_ne.mpr c3
    have c3b1 : ((l0.length : Int) != (l1.length : Int)) = true := bne_iff_ne.mpr c3
    have c3b2 : (l0.length == l1.length) = false := by first | simpa using c3 | (simp at c3 ⊢; omega)
    obtain rfl := Option.some.inj H
    go_enter Try.func34, Try.ntmps34
    go_wp2
    repeat (go_quiet (fail); try go_wp2)
    go_ret
    exact ⟨by first | rfl | (simp; done) | (simp [*]; done), by repeat (first | exact Drawn0.refl _ | apply Drawn0.step)⟩
end Go.Proofs.Ytokijibpdnepiaa.X
end
section
namespace Go.Proofs.Ytokijibpdnepiaa.X
open Go.RowKit Go.Proofs.YtokijibpdnepiaaW.PrintWords
def KT (T : TypeId) (W W' : World) : Prop := ∀ (g : Nat) (cs : Array Value), W.heap[g]? = some (.cells cs T (0, 0)) → W'.heap[g]? = some (.cells cs T (0, 0))
theorem KT.refl (T : TypeId) (W : World) : KT T W W := fun _ _ h => h
theorem KT.trans {T : TypeId} {a b c : World} (h : KT T a b) (k : KT T b c) : KT T a c := fun g cs hg => k g cs (h g cs hg)
theorem KT.alloc {T : TypeId} {a b : World} (h : KT T a b) (o : Obj) : KT T a (b.alloc o) := fun g cs hg => blk_alloc (h g cs hg) o
theorem KT.drew {T : TypeId} {a b : World} (h : KT T a b) : KT T a b.drew := h
theorem KT.drewN {T : TypeId} {a b : World} (h : KT T a b) (n : Nat) : KT T a (b.drewN n) := h
theorem KT.setCell {T T' : TypeId} {a b : World} (h : KT T a b) {p : Addr} {cs' : Array Value} (hb : b.heap[p.block]? = some (.cells cs' T' (0, 0))) (hne : T' ≠ T) (u : Value) : KT T a (b.setCell p u) := fun g cs hg => by
  have h1 := h g cs hg
  refine blk_far h1 (fun e => ?_) u
  rw [e, hb] at h1
  injection h1 with h2
  injection h2 with _ h3 _
  exact hne h3
theorem KT.below {T : TypeId} {a b c : World} (h : KT T a b) (hb : Below b.heap.size b c) : KT T a c := fun g cs hg => blk_below (h g cs hg) hb
theorem KT.grown {T T' : TypeId} {a b c : World} (h : KT T a b) {row : Option Nat} (hg : b.grownBy c row) (hr : ∀ k, row = some k → ∃ cs', b.heap[k]? = some (.cells cs' T' (0, 0))) (hne : T' ≠ T) : KT T a c := fun g cs hh => by
  have h1 := h g cs hh
  refine blk_grown h1 hg (fun e => ?_)
  obtain ⟨cs', h2⟩ := hr g e.symm
  rw [h2] at h1
  injection h1 with h3
  injection h3 with _ h4 _
  exact hne h4
theorem blk_one {w : World} {g : Nat} {t : TypeId} {v : Value} (h : w.heap[g]? = some (.cells #[v] t (0, 0))) : w.cell? ⟨g, 0, none⟩ = some v := blk_cell h 0
end Go.Proofs.Ytokijibpdnepiaa.X
end
section
namespace Go.Proofs.Ytokijibpdnepiaa.X
open Go.RowKit Go.Proofs.YtokijibpdnepiaaW.PrintWords Go.Proofs.YtokijibpdnepiaaW.PrintLast Go.Proofs.YtokijibpdnepiaaW.PrintMore
attribute [local go_sem] max2_int min2_int max_two min_two max_three min_three max_four min_four
set_option linter.unusedVariables false
set_option linter.unusedSimpArgs false
set_option maxHeartbeats 800000 in
set_option maxRecDepth 100000 in
theorem seeB_lt (a x : Int) (w : World) : Calls Try.prog 70 #[.int .i64 a, .int .i64 x] w fun e w' => e = .returned (.bool (decide (a < x))) ∧ w' = w := by
  go_enter Try.func70, Try.ntmps70
  go_wp2_with fail
  go_ret
  exact ⟨rfl, rfl⟩
set_option maxHeartbeats 800000 in
set_option maxRecDepth 100000 in
theorem seeB_none (b : Nat) (x a : Int) (w : World) (h : w.heap[b]? = some (.cells #[.int .i64 x, .bool false] 114 (0, 0))) :
    Calls Try.prog 65 #[.pointer (some ⟨b, 0, none⟩), .int .i64 a, .func (.func 70) #[] #[]] w fun e w' => (∃ r, e = .returned r) ∧ w' = (w.setCell ⟨b, 0, none⟩ (.int .i64 a)).setCell ⟨b, 1, none⟩ (.bool true) := by
  have hx0 : w.cell? ⟨b, 0, none⟩ = some (.int .i64 x) := blk_cell h 0
  have hx1 : w.cell? ⟨b, 1, none⟩ = some (.bool false) := blk_cell h 1
  have hf := fun q => blk_frozen h q
  have hs : (w.setCell ⟨b, 0, none⟩ (.int .i64 a)).frozen? ⟨b, 1, none⟩ = false := blk_frozen (blk_set h 0 _) 1
  skip
  clear h
  go_enter Try.func65, Try.ntmps65
  go_wp2_with fail
  refine ⟨rfl, .tuple #[], ?_, ⟨_, rfl⟩, rfl⟩
  simp [results, Try.results65, go_sem]
set_option maxHeartbeats 800000 in
set_option maxRecDepth 100000 in
theorem seeB_more (b : Nat) (x a : Int) (w : World) (h : w.heap[b]? = some (.cells #[.int .i64 x, .bool true] 114 (0, 0))) (hlt : a < x) :
    Calls Try.prog 65 #[.pointer (some ⟨b, 0, none⟩), .int .i64 a, .func (.func 70) #[] #[]] w fun e w' => (∃ r, e = .returned r) ∧ w' = (w.setCell ⟨b, 0, none⟩ (.int .i64 a)).setCell ⟨b, 1, none⟩ (.bool true) := by
  have hx0 : w.cell? ⟨b, 0, none⟩ = some (.int .i64 x) := blk_cell h 0
  have hx1 : w.cell? ⟨b, 1, none⟩ = some (.bool true) := blk_cell h 1
  have hf := fun q => blk_frozen h q
  have hs : (w.setCell ⟨b, 0, none⟩ (.int .i64 a)).frozen? ⟨b, 1, none⟩ = false := blk_frozen (blk_set h 0 _) 1
  have hd := decide_eq_true hlt
  clear h
  go_enter Try.func65, Try.ntmps65
  go_wp2_with (go_at_call 70; refine (seeB_lt _ _ _).mono ?_; rintro e w1 ⟨rfl, rfl⟩)
  refine ⟨rfl, .tuple #[], ?_, ⟨_, rfl⟩, rfl⟩
  simp [results, Try.results65, go_sem]
set_option maxHeartbeats 800000 in
set_option maxRecDepth 100000 in
theorem seeB_less (b : Nat) (x a : Int) (w : World) (h : w.heap[b]? = some (.cells #[.int .i64 x, .bool true] 114 (0, 0))) (hlt : ¬ a < x) :
    Calls Try.prog 65 #[.pointer (some ⟨b, 0, none⟩), .int .i64 a, .func (.func 70) #[] #[]] w fun e w' => (∃ r, e = .returned r) ∧ w' = w := by
  have hx0 : w.cell? ⟨b, 0, none⟩ = some (.int .i64 x) := blk_cell h 0
  have hx1 : w.cell? ⟨b, 1, none⟩ = some (.bool true) := blk_cell h 1
  have hf := fun q => blk_frozen h q
  have hs : (w.setCell ⟨b, 0, none⟩ (.int .i64 a)).frozen? ⟨b, 1, none⟩ = false := blk_frozen (blk_set h 0 _) 1
  have hd := decide_eq_false hlt
  clear h
  go_enter Try.func65, Try.ntmps65
  go_wp2_with (go_at_call 70; refine (seeB_lt _ _ _).mono ?_; rintro e w1 ⟨rfl, rfl⟩)
  refine ⟨rfl, .tuple #[], ?_, ⟨_, rfl⟩, rfl⟩
  simp [results, Try.results65, go_sem]
set_option maxHeartbeats 800000 in
set_option maxRecDepth 100000 in
theorem seeC_lt (a x : Int) (w : World) : Calls Try.prog 66 #[.int .i64 a, .int .i64 x] w fun e w' => e = .returned (.bool (decide (x < a))) ∧ w' = w := by
  go_enter Try.func66, Try.ntmps66
  go_wp2_with fail
  go_ret
  exact ⟨rfl, rfl⟩
set_option maxHeartbeats 800000 in
set_option maxRecDepth 100000 in
theorem seeC_none (b : Nat) (x a : Int) (w : World) (h : w.heap[b]? = some (.cells #[.int .i64 x, .bool false] 114 (0, 0))) :
    Calls Try.prog 65 #[.pointer (some ⟨b, 0, none⟩), .int .i64 a, .func (.func 66) #[] #[]] w fun e w' => (∃ r, e = .returned r) ∧ w' = (w.setCell ⟨b, 0, none⟩ (.int .i64 a)).setCell ⟨b, 1, none⟩ (.bool true) := by
  have hx0 : w.cell? ⟨b, 0, none⟩ = some (.int .i64 x) := blk_cell h 0
  have hx1 : w.cell? ⟨b, 1, none⟩ = some (.bool false) := blk_cell h 1
  have hf := fun q => blk_frozen h q
  have hs : (w.setCell ⟨b, 0, none⟩ (.int .i64 a)).frozen? ⟨b, 1, none⟩ = false := blk_frozen (blk_set h 0 _) 1
  skip
  clear h
  go_enter Try.func65, Try.ntmps65
  go_wp2_with fail
  refine ⟨rfl, .tuple #[], ?_, ⟨_, rfl⟩, rfl⟩
  simp [results, Try.results65, go_sem]
set_option maxHeartbeats 800000 in
set_option maxRecDepth 100000 in
theorem seeC_more (b : Nat) (x a : Int) (w : World) (h : w.heap[b]? = some (.cells #[.int .i64 x, .bool true] 114 (0, 0))) (hlt : x < a) :
    Calls Try.prog 65 #[.pointer (some ⟨b, 0, none⟩), .int .i64 a, .func (.func 66) #[] #[]] w fun e w' => (∃ r, e = .returned r) ∧ w' = (w.setCell ⟨b, 0, none⟩ (.int .i64 a)).setCell ⟨b, 1, none⟩ (.bool true) := by
  have hx0 : w.cell? ⟨b, 0, none⟩ = some (.int .i64 x) := blk_cell h 0
  have hx1 : w.cell? ⟨b, 1, none⟩ = some (.bool true) := blk_cell h 1
  have hf := fun q => blk_frozen h q
  have hs : (w.setCell ⟨b, 0, none⟩ (.int .i64 a)).frozen? ⟨b, 1, none⟩ = false := blk_frozen (blk_set h 0 _) 1
  have hd := decide_eq_true hlt
  clear h
  go_enter Try.func65, Try.ntmps65
  go_wp2_with (go_at_call 66; refine (seeC_lt _ _ _).mono ?_; rintro e w1 ⟨rfl, rfl⟩)
  refine ⟨rfl, .tuple #[], ?_, ⟨_, rfl⟩, rfl⟩
  simp [results, Try.results65, go_sem]
set_option maxHeartbeats 800000 in
set_option maxRecDepth 100000 in
theorem seeC_less (b : Nat) (x a : Int) (w : World) (h : w.heap[b]? = some (.cells #[.int .i64 x, .bool true] 114 (0, 0))) (hlt : ¬ x < a) :
    Calls Try.prog 65 #[.pointer (some ⟨b, 0, none⟩), .int .i64 a, .func (.func 66) #[] #[]] w fun e w' => (∃ r, e = .returned r) ∧ w' = w := by
  have hx0 : w.cell? ⟨b, 0, none⟩ = some (.int .i64 x) := blk_cell h 0
  have hx1 : w.cell? ⟨b, 1, none⟩ = some (.bool true) := blk_cell h 1
  have hf := fun q => blk_frozen h q
  have hs : (w.setCell ⟨b, 0, none⟩ (.int .i64 a)).frozen? ⟨b, 1, none⟩ = false := blk_frozen (blk_set h 0 _) 1
  have hd := decide_eq_false hlt
  clear h
  go_enter Try.func65, Try.ntmps65
  go_wp2_with (go_at_call 66; refine (seeC_lt _ _ _).mono ?_; rintro e w1 ⟨rfl, rfl⟩)
  refine ⟨rfl, .tuple #[], ?_, ⟨_, rfl⟩, rfl⟩
  simp [results, Try.results65, go_sem]
theorem below_set2 {B : Nat} {w w' : World} {b : Nat} (h : Below B w w') (hb : B ≤ b) (i j : Nat) (u v : Value) : Below B w ((w'.setCell ⟨b, i, none⟩ u).setCell ⟨b, j, none⟩ v) := (h.setCell hb _).setCell hb _
def bestStep (name : ByteArray) (s : Int × Bool) (b : S33) : Int × Bool := if b.f0.toList = name.toList then (if s.2 = true then (if b.f2 < s.1 then (b.f2, true) else s) else (b.f2, true)) else s
def bestOf (l : List S33) (name : ByteArray) : Int × Bool := l.foldl (bestStep name) (0, false)
def junior_Best.f (l : List S33) (name : ByteArray) : Option (Int × Bool) := some (bestOf l name)
set_option maxHeartbeats 1600000 in
set_option maxRecDepth 100000 in
theorem junior_Best.calls (A0 : Option Addr) (c0 : Nat) (l0 : List S33) (a1 : ByteArray) (r1 : Int) (r2 : Bool) (w : World) (hr0 : Kd.C k33 w A0 l0.length l0) (hc0 : l0.length ≤ c0) (h : junior_Best.f l0 a1 = some (r1, r2)) :
    Calls Try.prog 32 #[.slice A0 l0.length c0, .string a1] w fun e w' => e = .returned (.tuple #[.int .i64 r1, .bool r2]) ∧ Below w.heap.size w w' := by
  have HR := Aside0.mk hr0
  have hlen := (show l0.length ≤ 9223372036854775807 from Kd.C_max hr0)
  have HH := Aside0.mk (show l0.foldl (bestStep a1) (0, false) = (r1, r2) from Option.some.inj h)
  clear hr0 h
  go_enter Try.func32, Try.ntmps32
  go_wp2_with fail
  go_loopg [11] l0.length (fun kq v11 wr => ∃ (i : Nat) (x : Int) (s : Bool), v11 = .int .i64 (i : Int) ∧ Aside0 (kq + i = l0.length) ∧ Aside0 ((l0.drop i).foldl (bestStep a1) (x, s) = (r1, r2)) ∧ Aside0 (wr.heap[w.heap.size]? = some (.cells #[.int .i64 x, .bool s] 114 (0, 0))) ∧ Aside0 (Below w.heap.size w wr))
  case atStart => exact ⟨0, 0, false, rfl, ⟨by omega⟩, HH, ⟨blk_new _ _⟩, ⟨below_alloc (Below.refl _ _) _⟩⟩
  case round =>
    obtain ⟨i, x, s, rfl, HK, HF, HL, HB⟩ := hrel
    by_cases hi : i < l0.length
    · obtain ⟨ad, ea, hx0, hx1, hx2, hx3⟩ := at_T33 HR.out (i : Int) (by omega) (by omega)
      cases ea
      have hti : rd_T33 l0 (i : Int) = l0[i] := by simp [rd_T33, hi]
      rw [hti, Int.toNat_natCast] at hx0 hx1 hx2 hx3
      replace hx0 := (HB.out.cell (World.block_lt_of_cell? w _ hx0)).trans hx0
      replace hx1 := (HB.out.cell (World.block_lt_of_cell? w _ hx1)).trans hx1
      replace hx2 := (HB.out.cell (World.block_lt_of_cell? w _ hx2)).trans hx2
      replace hx3 := (HB.out.cell (World.block_lt_of_cell? w _ hx3)).trans hx3
      have hf := HF.out
      rw [(List.getElem_cons_drop hi).symm, List.foldl_cons] at hf
      generalize l0[i] = t at hx0 hx1 hx2 hx3 hf
      have hib : (i : Int) < (l0.length : Int) := by omega
      clear hti
      unfold bestStep at hf
      by_cases c1 : t.f0.toList = a1.toList
      · rw [if_pos c1] at hf
        replace c1 := beq_iff_eq.2 c1
        cases s with
        | false =>
          rw [if_neg (by simp)] at hf
          have HG := Aside0.mk hf
          clear hf
          go_wp2_with (go_at_call 65; refine (seeB_none _ _ _ _ (blk_alloc HL.out _)).mono ?_; rintro e w1 ⟨⟨r, rfl⟩, rfl⟩)
          go_roundg (gk - 1)
          case measure => have := HK.out; omega
          case rel => exact ⟨i + 1, t.f2, true, by go_num, ⟨by have := HK.out; omega⟩, HG, ⟨blk_set (blk_set (blk_alloc HL.out _) 0 _) 1 _⟩, ⟨below_set2 (below_alloc HB.out _) (Nat.le_refl _) _ _ _ _⟩⟩
        | true =>
          rw [if_pos rfl] at hf
          by_cases c2 : t.f2 < x
          · rw [if_pos c2] at hf
            have HG := Aside0.mk hf
            have HC2 := Aside0.mk c2
            clear hf c2
            go_wp2_with (go_at_call 65; refine (seeB_more _ _ _ _ (blk_alloc HL.out _) HC2.out).mono ?_; rintro e w1 ⟨⟨r, rfl⟩, rfl⟩)
            go_roundg (gk - 1)
            case measure => have := HK.out; omega
            case rel => exact ⟨i + 1, t.f2, true, by go_num, ⟨by have := HK.out; omega⟩, HG, ⟨blk_set (blk_set (blk_alloc HL.out _) 0 _) 1 _⟩, ⟨below_set2 (below_alloc HB.out _) (Nat.le_refl _) _ _ _ _⟩⟩
          · rw [if_neg c2] at hf
            have HG := Aside0.mk hf
            have HC2 := Aside0.mk c2
            clear hf c2
            go_wp2_with (go_at_call 65; refine (seeB_less _ _ _ _ (blk_alloc HL.out _) HC2.out).mono ?_; rintro e w1 ⟨⟨r, rfl⟩, rfl⟩)
            go_roundg (gk - 1)
            case measure => have := HK.out; omega
            case rel => exact ⟨i + 1, x, true, by go_num, ⟨by have := HK.out; omega⟩, HG, ⟨blk_alloc HL.out _⟩, ⟨below_alloc HB.out _⟩⟩
      · rw [if_neg c1] at hf
        have HG := Aside0.mk hf
        replace c1 := beq_eq_false_iff_ne.2 c1
        clear hf
        go_wp2_with fail
        go_roundg (gk - 1)
        case measure => have := HK.out; omega
        case rel => exact ⟨i + 1, x, s, by go_num, ⟨by have := HK.out; omega⟩, HG, ⟨blk_alloc HL.out _⟩, ⟨below_alloc HB.out _⟩⟩
    · have hf := HF.out
      rw [List.drop_of_length_le (by omega), List.foldl_nil] at hf
      obtain ⟨rfl, rfl⟩ : x = r1 ∧ s = r2 := by simpa using hf
      have hx0 : wr.cell? ⟨w.heap.size, 0, none⟩ = some (.int .i64 x) := blk_cell HL.out 0
      have hx1 : wr.cell? ⟨w.heap.size, 1, none⟩ = some (.bool s) := blk_cell HL.out 1
      clear hf
      go_wp2_with fail
      go_region
      go_wp2_with fail
      exact bodyPost_ret (v := .tuple #[.int .i64 x, .bool s]) (by simp [results, Try.results32, go_sem]) rfl ⟨rfl, below_drew1 HB.out⟩
end Go.Proofs.Ytokijibpdnepiaa.X
end
section
namespace Go.Proofs.Ytokijibpdnepiaa.X
open Go.RowKit Go.Proofs.YtokijibpdnepiaaW.PrintWords Go.Proofs.YtokijibpdnepiaaW.PrintLast Go.Proofs.YtokijibpdnepiaaW.PrintMore
attribute [local go_sem] max2_int min2_int max_two min_two max_three min_three max_four min_four
set_option linter.unusedVariables false
set_option linter.unusedSimpArgs false
def auction_priced.f (a0 : Int) : Option (Bool) := if a0 ≥ (-68719476736) then (some (decide (a0 ≤ 68719476736))) else (some false)
set_option maxHeartbeats 8000000 in
set_option maxRecDepth 100000 in
theorem auction_priced.calls (a0 : Int) (r : Bool) (w : World) (h : auction_priced.f a0 = some r) :
    Calls Try.prog 60 #[.int .i64 a0] w fun e w' => e = .returned (.bool r) ∧ Drawn0 w w' := by
  have H : (if a0 ≥ (-68719476736) then (some (decide (a0 ≤ 68719476736))) else (some false)) = some r := h
  clear h
  by_cases c2 : a0 ≥ (-68719476736)
  · rw [if_pos c2] at H
    have c2b0 : decide ((-68719476736) ≤ a0) = true := decide_eq_true c2
    clear c2
    obtain rfl := Option.some.inj H
    go_enter Try.func60, Try.ntmps60
    go_wp2
    go_ret
    exact ⟨by first | rfl | (simp; done) | (simp [*]; done), by repeat (first | exact Drawn0.refl _ | apply Drawn0.step)⟩
  · rw [if_neg c2] at H
    have c2b0 : decide ((-68719476736) ≤ a0) = false := decide_eq_false c2
    clear c2
    obtain rfl := Option.some.inj H
    go_enter Try.func60, Try.ntmps60
    go_wp2
    go_ret
    exact ⟨by first | rfl | (simp; done) | (simp [*]; done), by repeat (first | exact Drawn0.refl _ | apply Drawn0.step)⟩
end Go.Proofs.Ytokijibpdnepiaa.X
end
section
namespace Go.Proofs.Ytokijibpdnepiaa.X
open Go.RowKit Go.Proofs.YtokijibpdnepiaaW.PrintWords Go.Proofs.YtokijibpdnepiaaW.PrintLast Go.Proofs.YtokijibpdnepiaaW.PrintMore
attribute [local go_sem] max2_int min2_int max_two min_two max_three min_three max_four min_four
set_option linter.unusedVariables false
set_option linter.unusedSimpArgs false
def words_digit.f (a0 : Int) : Option (Bool) := if 48 ≤ a0 then (some (decide (a0 ≤ 57))) else (some false)
set_option maxHeartbeats 8000000 in
set_option maxRecDepth 100000 in
theorem words_digit.calls (a0 : Int) (r : Bool) (w : World) (h : words_digit.f a0 = some r) :
    Calls Try.prog 99 #[.int .u8 a0] w fun e w' => e = .returned (.bool r) ∧ Drawn0 w w' := by
  have H : (if 48 ≤ a0 then (some (decide (a0 ≤ 57))) else (some false)) = some r := h
  clear h
  by_cases c2 : 48 ≤ a0
  · rw [if_pos c2] at H
    have c2b0 : decide (48 ≤ a0) = true := decide_eq_true c2
    clear c2
    obtain rfl := Option.some.inj H
    go_enter Try.func99, Try.ntmps99
    go_wp2
    go_ret
    exact ⟨by first | rfl | (simp; done) | (simp [*]; done), by repeat (first | exact Drawn0.refl _ | apply Drawn0.step)⟩
  · rw [if_neg c2] at H
    have c2b0 : decide (48 ≤ a0) = false := decide_eq_false c2
    clear c2
    obtain rfl := Option.some.inj H
    go_enter Try.func99, Try.ntmps99
    go_wp2
    go_ret
    exact ⟨by first | rfl | (simp; done) | (simp [*]; done), by repeat (first | exact Drawn0.refl _ | apply Drawn0.step)⟩
end Go.Proofs.Ytokijibpdnepiaa.X
end
section
namespace Go.Proofs.Ytokijibpdnepiaa.X
open Go.RowKit Go.Proofs.YtokijibpdnepiaaW.PrintWords Go.Proofs.YtokijibpdnepiaaW.PrintLast Go.Proofs.YtokijibpdnepiaaW.PrintMore
attribute [local go_sem] max2_int min2_int max_two min_two max_three min_three max_four min_four
set_option linter.unusedVariables false
set_option linter.unusedSimpArgs false
def words_letter.f (a0 : Int) : Option (Bool) := if 97 ≤ a0 then (some (decide (a0 ≤ 122))) else (some false)
set_option maxHeartbeats 8000000 in
set_option maxRecDepth 100000 in
theorem words_letter.calls (a0 : Int) (r : Bool) (w : World) (h : words_letter.f a0 = some r) :
    Calls Try.prog 98 #[.int .u8 a0] w fun e w' => e = .returned (.bool r) ∧ Drawn0 w w' := by
  have H : (if 97 ≤ a0 then (some (decide (a0 ≤ 122))) else (some false)) = some r := h
  clear h
  by_cases c2 : 97 ≤ a0
  · rw [if_pos c2] at H
    have c2b0 : decide (97 ≤ a0) = true := decide_eq_true c2
    clear c2
    obtain rfl := Option.some.inj H
    go_enter Try.func98, Try.ntmps98
    go_wp2
    go_ret
    exact ⟨by first | rfl | (simp; done) | (simp [*]; done), by repeat (first | exact Drawn0.refl _ | apply Drawn0.step)⟩
  · rw [if_neg c2] at H
    have c2b0 : decide (97 ≤ a0) = false := decide_eq_false c2
    clear c2
    obtain rfl := Option.some.inj H
    go_enter Try.func98, Try.ntmps98
    go_wp2
    go_ret
    exact ⟨by first | rfl | (simp; done) | (simp [*]; done), by repeat (first | exact Drawn0.refl _ | apply Drawn0.step)⟩
end Go.Proofs.Ytokijibpdnepiaa.X
end
section
namespace Go.Proofs.Ytokijibpdnepiaa.X
open Go.RowKit Go.Proofs.YtokijibpdnepiaaW.PrintWords Go.Proofs.YtokijibpdnepiaaW.PrintLast Go.Proofs.YtokijibpdnepiaaW.PrintMore
attribute [local go_sem] max2_int min2_int max_two min_two max_three min_three max_four min_four
set_option linter.unusedVariables false
set_option linter.unusedSimpArgs false
mutual
def words_Name.j0 : Nat → ByteArray → Bool → Option (Bool)
  | 0, _, _ => none
  | k + 1, x0, x16 => if x16 = true then (some false) else (words_Name.l0 k x0 (x0.size : Int) 0)
def words_Name.l0 : Nat → ByteArray → Int → Int → Option (Bool)
  | 0, _, _, _ => none
  | k + 1, x0, x18, x19 => if x19 < x18 then (if 0 ≤ x19 then (if x19 < (x0.size : Int) then ((words_letter.f (bt x0 x19)).bind fun t102 => (if t102 = true then (words_Name.l0 k x0 x18 (wrap64 (x19 + 1))) else ((words_digit.f (bt x0 x19)).bind fun t103 => (if t103 = true then (words_Name.l0 k x0 x18 (wrap64 (x19 + 1))) else (some false))))) else (none)) else (none)) else (some true)
end
def words_Name.f (k : Nat) (a0 : ByteArray) : Option (Bool) := if a0.toList = ([] : List UInt8) then (words_Name.j0 k a0 true) else (if (a0.size : Int) > 12 then (words_Name.j0 k a0 true) else (if 0 < (a0.size : Int) then ((words_letter.f (bt a0 0)).bind fun t101 => (words_Name.j0 k a0 (!t101))) else (none)))
theorem words_Name.mono_l : ∀ k, (∀ y0 y1, LeO (words_Name.j0 k y0 y1) (words_Name.j0 (k + 1) y0 y1)) ∧ (∀ y0 y1 y2, LeO (words_Name.l0 k y0 y1 y2) (words_Name.l0 (k + 1) y0 y1 y2))
  | 0 => ⟨fun _ _ r h => by simp [words_Name.j0] at h, fun _ _ _ r h => by simp [words_Name.l0] at h⟩
  | k + 1 => by
    obtain ⟨ih0, ih1⟩ := words_Name.mono_l k
    refine ⟨?_, ?_⟩
    · intro y0 y1
      unfold words_Name.j0
      repeat' first
      | (with_reducible exact ih0 _ _)
      | (with_reducible exact ih1 _ _ _)
      | (with_reducible exact LeO.refl _)
      | (with_reducible exact LeO.none _)
      | (with_reducible refine LeO.ite ?_ ?_)
      | (with_reducible refine LeO.bind ?_ (fun _ => ?_))
      | exact ih0 _ _
      | exact ih1 _ _ _
      | exact LeO.none _
      | refine LeO.ite ?_ ?_
      | refine LeO.bind ?_ (fun _ => ?_)
    · intro y0 y1 y2
      unfold words_Name.l0
      repeat' first
      | (with_reducible exact ih0 _ _)
      | (with_reducible exact ih1 _ _ _)
      | (with_reducible exact LeO.refl _)
      | (with_reducible exact LeO.none _)
      | (with_reducible refine LeO.ite ?_ ?_)
      | (with_reducible refine LeO.bind ?_ (fun _ => ?_))
      | exact ih0 _ _
      | exact ih1 _ _ _
      | exact LeO.none _
      | refine LeO.ite ?_ ?_
      | refine LeO.bind ?_ (fun _ => ?_)
theorem words_Name.mono : ∀ a0 k, LeO (words_Name.f k a0) (words_Name.f (k + 1) a0) := by
  intro a0 k
  obtain ⟨ih0, ih1⟩ := words_Name.mono_l k
  unfold words_Name.f
  repeat' first
      | (with_reducible exact ih0 _ _)
      | (with_reducible exact ih1 _ _ _)
      | (with_reducible exact LeO.refl _)
      | (with_reducible exact LeO.none _)
      | (with_reducible refine LeO.ite ?_ ?_)
      | (with_reducible refine LeO.bind ?_ (fun _ => ?_))
      | exact ih0 _ _
      | exact ih1 _ _ _
      | exact LeO.none _
      | refine LeO.ite ?_ ?_
      | refine LeO.bind ?_ (fun _ => ?_)
set_option maxHeartbeats 8000000 in
set_option maxRecDepth 100000 in
theorem words_Name.calls (k : Nat) (a0 : ByteArray) (r : Bool) (w : World) (h : words_Name.f k a0 = some r) :
    Calls Try.prog 59 #[.string a0] w fun e w' => e = .returned (.bool r) ∧ Drawn0 w w' := by
  have H : (if a0.toList = ([] : List UInt8) then (words_Name.j0 k a0 true) else (if (a0.size : Int) > 12 then (words_Name.j0 k a0 true) else (if 0 < (a0.size : Int) then ((words_letter.f (bt a0 0)).bind fun t101 => (words_Name.j0 k a0 (!t101))) else (none)))) = some r := h
  clear h
  have HC2 := Aside0.mk H
  clear H
  go_enter Try.func59, Try.ntmps59
  go_upto_region 1 with (fail)
  go_cut [16] (fun v16 wc => ∃ (kq : Nat) (x16_1 : Bool), v16 = .bool x16_1 ∧ Aside0 (words_Name.j0 kq a0 x16_1 = some r) ∧ Aside0 (kq ≤ k) ∧ Drawn0 w wc)
  case first =>
    have H := HC2.out
    clear HC2
    by_cases c3 : a0.toList = ([] : List UInt8)
    · rw [if_pos c3] at H
      have c3b0 : (a0.toList == ([] : List UInt8)) = true := beq_iff_eq.mpr c3
      have c3b1 : (a0.toList != ([] : List UInt8)) = false := bne_eq_false_iff_eq.mpr c3
      clear c3
      (first | rw [c3b0] | (simp only [i64_w, i32_w]; rw [c3b0]) | skip)
      have H' := Aside0.mk H
      clear H
      go_wp2
      go_meet
      case rel => exact ⟨_, (true), (by first | rfl | (simp; done) | (simp [*]; done)), H', ⟨by first | omega | exact Nat.le_refl _⟩, by repeat (first | exact Drawn0.refl _ | apply Drawn0.step)⟩
    · rw [if_neg c3] at H
      have c3b0 : (a0.toList == ([] : List UInt8)) = false := beq_eq_false_iff_ne.mpr c3
      have c3b1 : (a0.toList != ([] : List UInt8)) = true := bne_iff_ne.mpr c3
      (first | rw [c3b0] | (simp only [i64_w, i32_w]; rw [c3b0]) | skip)
      by_cases c4 : (a0.size : Int) > 12
      · rw [if_pos c4] at H
        have c4b0 : decide (12 < (a0.size : Int)) = true := decide_eq_true c4
        have c4b1 : decide (12 < a0.size) = true := decide_eq_true (by omega)
        clear c4
        have H' := Aside0.mk H
        clear H
        go_wp2
        go_meet
        case rel => exact ⟨_, (true), (by first | rfl | (simp; done) | (simp [*]; done)), H', ⟨by first | omega | exact Nat.le_refl _⟩, by repeat (first | exact Drawn0.refl _ | apply Drawn0.step)⟩
      · rw [if_neg c4] at H
        have c4b0 : decide (12 < (a0.size : Int)) = false := decide_eq_false c4
        have c4b1 : decide (12 < a0.size) = false := decide_eq_false (by omega)
        clear c4
        by_cases c5 : 0 < (a0.size : Int)
        · rw [if_pos c5] at H
          have c5b0 : decide (0 < (a0.size : Int)) = true := decide_eq_true c5
          have c5b1 : decide (0 < a0.size) = true := decide_eq_true (by omega)
          clear c5
          replace H := Option.bind_eq_some_iff.mp H
          obtain ⟨t101, A70, H⟩ := H
          replace H : (words_Name.j0 k a0 (!t101)) = some r := H
          have A7 := Aside0.mk A70
          clear A70
          have H' := Aside0.mk H
          clear H
          have p6 : 0 ≤ (0 : Int) := (by omega)
          have q6 : 0 < a0.size := (by have : (0 : Int) < (a0.size : Int) := of_decide_eq_true (by first | (with_reducible assumption) | assumption); omega)
          have hx6 : ∀ h : 0 < a0.size, ((a0[0]'h).toNat : Int) = bt a0 0 := bt_at a0 0
          clear p6
          have qi6 : (0 < (a0.size : Int)) = True := eq_true (of_decide_eq_true (by first | (with_reducible assumption) | assumption))
          replace q6 := eq_true q6
          go_wp2_with (first | (go_at_call 98; (with_reducible refine (words_letter.calls (bt a0 0) t101 _ A7.out).mono ?_); rintro e w' ⟨rfl, ⟨nd, rfl⟩⟩))
          go_meet
          case rel => exact ⟨_, (!t101), (by first | rfl | (simp; done) | (simp [*]; done)), H', ⟨by first | omega | exact Nat.le_refl _⟩, by repeat (first | exact Drawn0.refl _ | apply Drawn0.step)⟩
        · rw [if_neg c5] at H
          exact absurd H (by simp)
  case rest =>
    clear HC2
    try clear p2
    try clear c3
    try clear c3b0
    try clear c3b1
    try clear c4
    try clear c4b0
    try clear c4b1
    try clear c5
    try clear c5b0
    try clear c5b1
    try clear p6
    try clear q6
    try clear hx6
    try clear qi6
    try clear p6
    try clear q6
    obtain ⟨kq, x16_1, rfl, HA, HJ1, ⟨mc1, rfl⟩⟩ := hcut
    cases kq with
    | zero => exact absurd HA.out (by simp [words_Name.j0])
    | succ kj1 =>
      have H := HA.out
      clear HA
      simp only [words_Name.j0] at H
      by_cases c8 : x16_1 = true
      · subst c8
        have H1 : (some false) = some r := by rw [if_pos rfl] at H; exact H
        clear H
        have H := H1
        clear H1
        obtain rfl := Option.some.inj H
        go_wp2
        go_ret
        exact ⟨by first | rfl | (simp; done) | (simp [*]; done), by repeat (first | exact Drawn0.refl _ | apply Drawn0.step)⟩
      · replace c8 := Bool.eq_false_iff.mpr c8
        subst c8
        have H1 : (words_Name.l0 kj1 a0 (a0.size : Int) 0) = some r := by rw [if_neg (show ¬ (false = true) by decide)] at H; exact H
        clear H
        have H := H1
        clear H1
        have H' := Aside0.mk H
        clear H
        go_wp2
        go_loopg [19] kj1 (fun kq v19 w' => ∃ (x19_2 : Int), v19 = .int .i64 x19_2 ∧ Aside0 (words_Name.l0 kq a0 (a0.size : Int) x19_2 = some r) ∧ Aside0 (kq ≤ kj1) ∧ Drawn0 w w')
        case atStart => exact ⟨(0), (by first | rfl | (simp; done) | (simp [*]; done)), H', ⟨Nat.le_refl _⟩, by repeat (first | exact Drawn0.refl _ | apply Drawn0.step)⟩
        case round =>
          clear H'
          try clear c1
          try clear p2
          try clear c3
          try clear c3b0
          try clear c3b1
          try clear c4
          try clear c4b0
          try clear c4b1
          try clear c5
          try clear c5b0
          try clear c5b1
          try clear p6
          try clear q6
          try clear hx6
          try clear qi6
          try clear c8
          try clear p2
          try clear p6
          try clear q6
          obtain ⟨x19_2, rfl, HA, HK2, ⟨m2, rfl⟩⟩ := hrel
          cases gk with
          | zero => exact absurd HA.out (by simp [words_Name.l0])
          | succ k2 =>
            have H := HA.out
            clear HA
            simp only [words_Name.l0] at H
            by_cases c9 : x19_2 < (a0.size : Int)
            · rw [if_pos c9] at H
              have c9b0 : decide (x19_2 < (a0.size : Int)) = true := decide_eq_true c9
              clear c9
              by_cases c10 : 0 ≤ x19_2
              · rw [if_pos c10] at H
                have c10b0 : decide (0 ≤ x19_2) = true := decide_eq_true c10
                clear c10
                by_cases c11 : x19_2 < (a0.size : Int)
                · rw [if_pos c11] at H
                  have c11b0 : decide (x19_2 < (a0.size : Int)) = true := decide_eq_true c11
                  clear c11
                  replace H := Option.bind_eq_some_iff.mp H
                  obtain ⟨t102, A130, H⟩ := H
                  replace H : (if t102 = true then (words_Name.l0 k2 a0 (a0.size : Int) (wrap64 (x19_2 + 1))) else ((words_digit.f (bt a0 x19_2)).bind fun t103 => (if t103 = true then (words_Name.l0 k2 a0 (a0.size : Int) (wrap64 (x19_2 + 1))) else (some false)))) = some r := H
                  have A13 := Aside0.mk A130
                  clear A130
                  by_cases c14 : t102 = true
                  · subst c14
                    have H1 : (words_Name.l0 k2 a0 (a0.size : Int) (wrap64 (x19_2 + 1))) = some r := by rw [if_pos rfl] at H; exact H
                    clear H
                    have H := H1
                    clear H1
                    have H' := Aside0.mk H
                    clear H
                    have p12 : 0 ≤ (x19_2 : Int) := of_decide_eq_true (by first | (with_reducible assumption) | assumption)
                    have q12 : x19_2 < (a0.size : Int) := of_decide_eq_true (by first | (with_reducible assumption) | assumption)
                    have hx12 := bt_at a0 x19_2
                    replace p12 := eq_true p12
                    replace q12 := eq_true q12
                    go_wp2_with (first | ((with_reducible refine gate_callee (f := 98) rfl ?_); refine goesL_ (some 25) rfl rfl Try.func98 (by kernel_rfl) rfl #[.int .u8 (bt a0 x19_2)] rfl (by (try simp only [List.map_toArray, List.map_cons, List.map_nil]); first | done | rfl | (simp only [List.length_drop, List.length_take]; rfl)) ?_; (with_reducible refine (words_letter.calls (bt a0 x19_2) true _ A13.out).mono ?_); rintro e w' ⟨rfl, ⟨nd, rfl⟩⟩; refine ⟨_, rfl, ?_⟩))
                    go_roundg k2
                    case measure => have := HJ1.out; have := HK2.out; omega
                    case rel => exact ⟨(wrap64 (x19_2 + 1)), (by first | rfl | (simp; done) | (simp [*]; done)), H', ⟨by have := HJ1.out; have := HK2.out; omega⟩, by repeat (first | exact Drawn0.refl _ | apply Drawn0.step)⟩
                  · replace c14 := Bool.eq_false_iff.mpr c14
                    subst c14
                    have H1 : ((words_digit.f (bt a0 x19_2)).bind fun t103 => (if t103 = true then (words_Name.l0 k2 a0 (a0.size : Int) (wrap64 (x19_2 + 1))) else (some false))) = some r := by rw [if_neg (show ¬ (false = true) by decide)] at H; exact H
                    clear H
                    have H := H1
                    clear H1
                    replace H := Option.bind_eq_some_iff.mp H
                    obtain ⟨t103, A160, H⟩ := H
                    replace H : (if t103 = true then (words_Name.l0 k2 a0 (a0.size : Int) (wrap64 (x19_2 + 1))) else (some false)) = some r := H
                    have A16 := Aside0.mk A160
                    clear A160
                    by_cases c17 : t103 = true
                    · subst c17
                      have H1 : (words_Name.l0 k2 a0 (a0.size : Int) (wrap64 (x19_2 + 1))) = some r := by rw [if_pos rfl] at H; exact H
                      clear H
                      have H := H1
                      clear H1
                      have H' := Aside0.mk H
                      clear H
                      have p12 : 0 ≤ (x19_2 : Int) := of_decide_eq_true (by first | (with_reducible assumption) | assumption)
                      have q12 : x19_2 < (a0.size : Int) := of_decide_eq_true (by first | (with_reducible assumption) | assumption)
                      have hx12 := bt_at a0 x19_2
                      replace p12 := eq_true p12
                      replace q12 := eq_true q12
                      go_wp2_with (first | ((with_reducible refine gate_callee (f := 98) rfl ?_); refine goesL_ (some 25) rfl rfl Try.func98 (by kernel_rfl) rfl #[.int .u8 (bt a0 x19_2)] rfl (by (try simp only [List.map_toArray, List.map_cons, List.map_nil]); first | done | rfl | (simp only [List.length_drop, List.length_take]; rfl)) ?_; (with_reducible refine (words_letter.calls (bt a0 x19_2) false _ A13.out).mono ?_); rintro e w' ⟨rfl, ⟨nd, rfl⟩⟩; refine ⟨_, rfl, ?_⟩; have p15 : 0 ≤ (x19_2 : Int) := of_decide_eq_true (by first | (with_reducible assumption) | assumption); have q15 : x19_2 < (a0.size : Int) := of_decide_eq_true (by first | (with_reducible assumption) | assumption); have hx15 := bt_at a0 x19_2; replace p15 := eq_true p15; replace q15 := eq_true q15) | (go_at_call 99; (with_reducible refine (words_digit.calls (bt a0 x19_2) true _ A16.out).mono ?_); rintro e w' ⟨rfl, ⟨nd, rfl⟩⟩))
                      go_roundg k2
                      case measure => have := HJ1.out; have := HK2.out; omega
                      case rel => exact ⟨(wrap64 (x19_2 + 1)), (by first | rfl | (simp; done) | (simp [*]; done)), H', ⟨by have := HJ1.out; have := HK2.out; omega⟩, by repeat (first | exact Drawn0.refl _ | apply Drawn0.step)⟩
                    · replace c17 := Bool.eq_false_iff.mpr c17
                      subst c17
                      have H1 : (some false) = some r := by rw [if_neg (show ¬ (false = true) by decide)] at H; exact H
                      clear H
                      have H := H1
                      clear H1
                      obtain rfl := Option.some.inj H
                      have p12 : 0 ≤ (x19_2 : Int) := of_decide_eq_true (by first | (with_reducible assumption) | assumption)
                      have q12 : x19_2 < (a0.size : Int) := of_decide_eq_true (by first | (with_reducible assumption) | assumption)
                      have hx12 := bt_at a0 x19_2
                      replace p12 := eq_true p12
                      replace q12 := eq_true q12
                      go_wp2_with (first | ((with_reducible refine gate_callee (f := 98) rfl ?_); refine goesL_ (some 25) rfl rfl Try.func98 (by kernel_rfl) rfl #[.int .u8 (bt a0 x19_2)] rfl (by (try simp only [List.map_toArray, List.map_cons, List.map_nil]); first | done | rfl | (simp only [List.length_drop, List.length_take]; rfl)) ?_; (with_reducible refine (words_letter.calls (bt a0 x19_2) false _ A13.out).mono ?_); rintro e w' ⟨rfl, ⟨nd, rfl⟩⟩; refine ⟨_, rfl, ?_⟩; have p15 : 0 ≤ (x19_2 : Int) := of_decide_eq_true (by first | (with_reducible assumption) | assumption); have q15 : x19_2 < (a0.size : Int) := of_decide_eq_true (by first | (with_reducible assumption) | assumption); have hx15 := bt_at a0 x19_2; replace p15 := eq_true p15; replace q15 := eq_true q15) | (go_at_call 99; (with_reducible refine (words_digit.calls (bt a0 x19_2) false _ A16.out).mono ?_); rintro e w' ⟨rfl, ⟨nd, rfl⟩⟩))
                      go_ret
                      exact ⟨by first | rfl | (simp; done) | (simp [*]; done), by repeat (first | exact Drawn0.refl _ | apply Drawn0.step)⟩
                · rw [if_neg c11] at H
                  exact absurd H (by simp)
              · rw [if_neg c10] at H
                exact absurd H (by simp)
            · rw [if_neg c9] at H
              have c9b0 : decide (x19_2 < (a0.size : Int)) = false := decide_eq_false c9
              clear c9
              obtain rfl := Option.some.inj H
              go_wp2
              go_ret
              exact ⟨by first | rfl | (simp; done) | (simp [*]; done), by repeat (first | exact Drawn0.refl _ | apply Drawn0.step)⟩
end Go.Proofs.Ytokijibpdnepiaa.X
end
section
namespace Go.Proofs.Ytokijibpdnepiaa.X
open Go.RowKit Go.Proofs.YtokijibpdnepiaaW.PrintWords Go.Proofs.YtokijibpdnepiaaW.PrintLast Go.Proofs.YtokijibpdnepiaaW.PrintMore
attribute [local go_sem] max2_int min2_int max_two min_two max_three min_three max_four min_four
set_option linter.unusedVariables false
set_option linter.unusedSimpArgs false
mutual
def auction_Check.l0 : Nat → List (S33) → Int → Int → Option (Int)
  | 0, _, _, _ => none
  | k + 1, x8, x9, x10 => if x10 < x9 then (if 0 ≤ x10 then (if x10 < (x8.length : Int) then ((words_Name.f k ((rd_T33 x8 x10).f0)).bind fun t103 => (if t103 = true then (if ((rd_T33 x8 x10).f1) < 1 then (auction_Check.j1 k x8 x9 x10 true ((rd_T33 x8 x10).f0) ((rd_T33 x8 x10).f1) ((rd_T33 x8 x10).f2) ((rd_T33 x8 x10).f3)) else (auction_Check.j1 k x8 x9 x10 (decide (((rd_T33 x8 x10).f1) > 1048576)) ((rd_T33 x8 x10).f0) ((rd_T33 x8 x10).f1) ((rd_T33 x8 x10).f2) ((rd_T33 x8 x10).f3))) else (some 10))) else (none)) else (none)) else (some 0)
def auction_Check.j1 : Nat → List (S33) → Int → Int → Bool → ByteArray → Int → Int → Int → Option (Int)
  | 0, _, _, _, _, _, _, _, _ => none
  | k + 1, x8, x9, x10, x19, x103000, x103001, x103002, x103003 => if x19 = true then (some 18) else ((auction_priced.f x103002).bind fun t104 => (if t104 = true then (if x103003 < 0 then (some 28) else (if x103003 > 86399 then (some 28) else (auction_Check.l0 k x8 x9 (wrap64 (x10 + 1))))) else (some 28)))
end
def auction_Check.f (k : Nat) (l0 : List (S33)) : Option (Int) := if (l0.length : Int) > 1024 then (some 8) else (auction_Check.l0 k l0 (l0.length : Int) 0)
theorem auction_Check.mono_l : ∀ k, (∀ y0 y1 y2, LeO (auction_Check.l0 k y0 y1 y2) (auction_Check.l0 (k + 1) y0 y1 y2)) ∧ (∀ y0 y1 y2 y3 y4 y5 y6 y7, LeO (auction_Check.j1 k y0 y1 y2 y3 y4 y5 y6 y7) (auction_Check.j1 (k + 1) y0 y1 y2 y3 y4 y5 y6 y7))
  | 0 => ⟨fun _ _ _ r h => by simp [auction_Check.l0] at h, fun _ _ _ _ _ _ _ _ r h => by simp [auction_Check.j1] at h⟩
  | k + 1 => by
    obtain ⟨ih0, ih1⟩ := auction_Check.mono_l k
    refine ⟨?_, ?_⟩
    · intro y0 y1 y2
      unfold auction_Check.l0
      repeat' first
      | (with_reducible exact ih0 _ _ _)
      | (with_reducible exact ih1 _ _ _ _ _ _ _ _)
      | (with_reducible exact words_Name.mono _ _)
      | (with_reducible exact LeO.refl _)
      | (with_reducible exact LeO.none _)
      | (with_reducible refine LeO.ite ?_ ?_)
      | (with_reducible refine LeO.bind ?_ (fun _ => ?_))
      | exact ih0 _ _ _
      | exact ih1 _ _ _ _ _ _ _ _
      | exact words_Name.mono _ _
      | exact LeO.none _
      | refine LeO.ite ?_ ?_
      | refine LeO.bind ?_ (fun _ => ?_)
    · intro y0 y1 y2 y3 y4 y5 y6 y7
      unfold auction_Check.j1
      repeat' first
      | (with_reducible exact ih0 _ _ _)
      | (with_reducible exact ih1 _ _ _ _ _ _ _ _)
      | (with_reducible exact words_Name.mono _ _)
      | (with_reducible exact LeO.refl _)
      | (with_reducible exact LeO.none _)
      | (with_reducible refine LeO.ite ?_ ?_)
      | (with_reducible refine LeO.bind ?_ (fun _ => ?_))
      | exact ih0 _ _ _
      | exact ih1 _ _ _ _ _ _ _ _
      | exact words_Name.mono _ _
      | exact LeO.none _
      | refine LeO.ite ?_ ?_
      | refine LeO.bind ?_ (fun _ => ?_)
theorem auction_Check.mono : ∀ a0 k, LeO (auction_Check.f k a0) (auction_Check.f (k + 1) a0) := by
  intro a0 k
  obtain ⟨ih0, ih1⟩ := auction_Check.mono_l k
  unfold auction_Check.f
  repeat' first
      | (with_reducible exact ih0 _ _ _)
      | (with_reducible exact ih1 _ _ _ _ _ _ _ _)
      | (with_reducible exact words_Name.mono _ _)
      | (with_reducible exact LeO.refl _)
      | (with_reducible exact LeO.none _)
      | (with_reducible refine LeO.ite ?_ ?_)
      | (with_reducible refine LeO.bind ?_ (fun _ => ?_))
      | exact ih0 _ _ _
      | exact ih1 _ _ _ _ _ _ _ _
      | exact words_Name.mono _ _
      | exact LeO.none _
      | refine LeO.ite ?_ ?_
      | refine LeO.bind ?_ (fun _ => ?_)
set_option maxHeartbeats 8000000 in
set_option maxRecDepth 100000 in
theorem auction_Check.calls (k : Nat) (A0 : Option Addr) (c0 : Nat) (l0 : List (S33)) (r : Int) (w : World) (hr0 : Kd.C k33 w A0 l0.length l0) (hc0 : l0.length ≤ c0) (h : auction_Check.f k l0 = some r) :
    Calls Try.prog 18 #[.slice A0 l0.length c0] w fun e w' => e = .returned (.int .i64 r) ∧ Below w.heap.size w w' := by
  have hu33 := Try.underlying33
  have HR0 := Aside0.mk hr0
  have HC0 := Aside0.mk hc0
  clear hr0 hc0
  have HB := Aside0.mk (Below.refl w.heap.size w)
  have H : (if (l0.length : Int) > 1024 then (some 8) else (auction_Check.l0 k l0 (l0.length : Int) 0)) = some r := h
  clear h
  by_cases c2 : (l0.length : Int) > 1024
  · rw [if_pos c2] at H
    have c2b0 : decide (1024 < (l0.length : Int)) = true := decide_eq_true c2
    have c2b1 : decide (1024 < l0.length) = true := decide_eq_true (by omega)
    clear c2
    obtain rfl := Option.some.inj H
    go_enter Try.func18, Try.ntmps18
    go_wp2
    go_ret
    exact ⟨by first | rfl | (simp [errW_none, errW_some] <;> rfl) | (simp [*, errW_none, errW_some] <;> rfl), by repeat (first | (with_reducible first | exact HB.out | apply below_alloc | apply pw_below_drewN | apply below_drew1) | exact HB.out)⟩
  · rw [if_neg c2] at H
    have c2b0 : decide (1024 < (l0.length : Int)) = false := decide_eq_false c2
    have c2b1 : decide (1024 < l0.length) = false := decide_eq_false (by omega)
    clear c2
    have H' := Aside0.mk H
    clear H
    go_enter Try.func18, Try.ntmps18
    go_wp2
    go_loopg [10] k (fun kq v10 w' => ∃ (x10_1 : Int), v10 = .int .i64 x10_1 ∧ Aside0 (auction_Check.l0 kq l0 (l0.length : Int) x10_1 = some r) ∧ Aside0 (kq ≤ k) ∧ Aside0 (Below w.heap.size w w'))
    case atStart => exact ⟨(0), (by first | rfl | (simp; done) | (simp [*]; done)), H', ⟨Nat.le_refl _⟩, ⟨by repeat (first | (with_reducible first | exact HB.out | apply below_alloc | apply pw_below_drewN | apply below_drew1) | exact HB.out)⟩⟩
    case round =>
      clear H'
      try clear c1
      try clear c2
      try clear c2b0
      try clear c2b1
      try clear p2
      obtain ⟨x10_1, rfl, HA, HK1, HB⟩ := hrel
      cases gk with
      | zero => exact absurd HA.out (by simp [auction_Check.l0])
      | succ k1 =>
        have H := HA.out
        clear HA
        simp only [auction_Check.l0] at H
        by_cases c3 : x10_1 < (l0.length : Int)
        · rw [if_pos c3] at H
          have c3b0 : decide (x10_1 < (l0.length : Int)) = true := decide_eq_true c3
          clear c3
          by_cases c4 : 0 ≤ x10_1
          · rw [if_pos c4] at H
            have c4b0 : decide (0 ≤ x10_1) = true := decide_eq_true c4
            clear c4
            by_cases c5 : x10_1 < (l0.length : Int)
            · rw [if_pos c5] at H
              have c5b0 : decide (x10_1 < (l0.length : Int)) = true := decide_eq_true c5
              clear c5
              replace H := Option.bind_eq_some_iff.mp H
              obtain ⟨t103, A60, H⟩ := H
              replace H : (if t103 = true then (if ((rd_T33 l0 x10_1).f1) < 1 then (auction_Check.j1 k1 l0 (l0.length : Int) x10_1 true ((rd_T33 l0 x10_1).f0) ((rd_T33 l0 x10_1).f1) ((rd_T33 l0 x10_1).f2) ((rd_T33 l0 x10_1).f3)) else (auction_Check.j1 k1 l0 (l0.length : Int) x10_1 (decide (((rd_T33 l0 x10_1).f1) > 1048576)) ((rd_T33 l0 x10_1).f0) ((rd_T33 l0 x10_1).f1) ((rd_T33 l0 x10_1).f2) ((rd_T33 l0 x10_1).f3))) else (some 10)) = some r := H
              have A6 := Aside0.mk A60
              clear A60
              by_cases c7 : t103 = true
              · subst c7
                have H1 : (if ((rd_T33 l0 x10_1).f1) < 1 then (auction_Check.j1 k1 l0 (l0.length : Int) x10_1 true ((rd_T33 l0 x10_1).f0) ((rd_T33 l0 x10_1).f1) ((rd_T33 l0 x10_1).f2) ((rd_T33 l0 x10_1).f3)) else (auction_Check.j1 k1 l0 (l0.length : Int) x10_1 (decide (((rd_T33 l0 x10_1).f1) > 1048576)) ((rd_T33 l0 x10_1).f0) ((rd_T33 l0 x10_1).f1) ((rd_T33 l0 x10_1).f2) ((rd_T33 l0 x10_1).f3))) = some r := by rw [if_pos rfl] at H; exact H
                clear H
                have H := H1
                clear H1
                have HC8 := Aside0.mk H
                clear H
                have p101 : 0 ≤ (x10_1 : Int) := of_decide_eq_true (by first | (with_reducible assumption) | assumption)
                have q101 : x10_1 < (l0.length : Int) := of_decide_eq_true (by first | (with_reducible assumption) | assumption)
                obtain ⟨ad101, e101, hx101_0, hx101_1, hx101_2, hx101_3⟩ := at_T33 HR0.out x10_1 p101 q101
                cases e101
                replace hx101_0 := (HB.out.cell (World.block_lt_of_cell? w _ hx101_0)).trans hx101_0
                replace hx101_1 := (HB.out.cell (World.block_lt_of_cell? w _ hx101_1)).trans hx101_1
                replace hx101_2 := (HB.out.cell (World.block_lt_of_cell? w _ hx101_2)).trans hx101_2
                replace hx101_3 := (HB.out.cell (World.block_lt_of_cell? w _ hx101_3)).trans hx101_3
                replace p101 := eq_true p101
                replace q101 := eq_true q101
                go_upto_region 8 with (first | ((with_reducible refine gate_dst (N := 4) rfl ?_); refine box_event ?hg (N := 4) ?hd (cs := #[.string (⟨#[]⟩ : ByteArray), .int .i64 0, .int .i64 0, .int .i64 0]) (t := 33) ?hr ?_; (case hd => rfl); (case hg => rfl); (case hr => first | (go_simp; done) | (go_simp; rfl)); intro gb102 hg w9 hbox hb; have n0_ := Aside0.mk (below_step (by repeat (first | (with_reducible first | exact HB.out | apply below_alloc | apply pw_below_drewN | apply below_drew1) | exact HB.out)) hb); have n1_ := Aside0.mk (hbox); have n2_ := Aside0.mk ((by rw [hg]; exact (below_size (by repeat (first | (with_reducible first | exact HB.out | apply below_alloc | apply pw_below_drewN | apply below_drew1) | exact HB.out))) : w.heap.size ≤ gb102)); have n3_ := Aside0.mk ((by rw [hg]; exact (below_size (by repeat (first | (with_reducible first | exact HB.out | apply below_alloc | apply pw_below_drewN | apply below_drew1) | exact HB.out))) : w.heap.size ≤ gb102)); clear HB; have HB := n0_; have BK102 := n1_; have GW102 := n2_; have GE102 := n3_; clear n0_ n1_ n2_ n3_; clear hb hbox hg; have hcz10_0 : w9.cell? ⟨gb102, 0, none⟩ = some (.string (⟨#[]⟩ : ByteArray)) := (blk_cell BK102.out 0).trans rfl; have hcz10_1 : w9.cell? ⟨gb102, 1, none⟩ = some (.int .i64 0) := (blk_cell BK102.out 1).trans rfl; have hcz10_2 : w9.cell? ⟨gb102, 2, none⟩ = some (.int .i64 0) := (blk_cell BK102.out 2).trans rfl; have hcz10_3 : w9.cell? ⟨gb102, 3, none⟩ = some (.int .i64 0) := (blk_cell BK102.out 3).trans rfl; have hfz10_0 := blk_frozen BK102.out 0; have hfz10_1 := blk_frozen BK102.out 1; have hfz10_2 := blk_frozen BK102.out 2; have hfz10_3 := blk_frozen BK102.out 3) | ((with_reducible refine gate_callee (f := 59) rfl ?_); refine goesL_ (some 17) rfl rfl Try.func59 (by kernel_rfl) rfl #[.string ((rd_T33 l0 x10_1).f0)] rfl (by (try simp only [List.map_toArray, List.map_cons, List.map_nil]); first | done | rfl | (simp only [List.length_drop, List.length_take]; rfl)) ?_; (with_reducible refine (words_Name.calls k1 ((rd_T33 l0 x10_1).f0) true _ A6.out).mono ?_); rintro e w' ⟨rfl, ⟨nd, rfl⟩⟩; refine ⟨_, rfl, ?_⟩))
                (try simp only [Act.put, List.setIfInBounds_toArray, List.set_cons_zero, List.set_cons_succ])
                go_cut [19] (fun v19 wc => ∃ (kq : Nat) (x19_7 : Bool), v19 = .bool x19_7 ∧ Aside0 (auction_Check.j1 kq l0 (l0.length : Int) x10_1 x19_7 ((rd_T33 l0 x10_1).f0) ((rd_T33 l0 x10_1).f1) ((rd_T33 l0 x10_1).f2) ((rd_T33 l0 x10_1).f3) = some r) ∧ Aside0 (kq ≤ k1) ∧ Aside0 (wc.heap[gb102]? = some (.cells #[.string ((rd_T33 l0 x10_1).f0), .int .i64 ((rd_T33 l0 x10_1).f1), .int .i64 ((rd_T33 l0 x10_1).f2), .int .i64 ((rd_T33 l0 x10_1).f3)] 33 (0, 0))) ∧ Aside0 (Below w.heap.size w wc))
                case first =>
                  have H := HC8.out
                  clear HC8
                  by_cases c11 : ((rd_T33 l0 x10_1).f1) < 1
                  · rw [if_pos c11] at H
                    have c11b0 : decide (((rd_T33 l0 x10_1).f1) < 1) = true := decide_eq_true c11
                    clear c11
                    (first | rw [c11b0] | (simp only [i64_w, i32_w]; rw [c11b0]) | skip)
                    have H' := Aside0.mk H
                    clear H
                    have hcz12_0 : w9.cell? ⟨gb102, 0, none⟩ = some (.string (⟨#[]⟩ : ByteArray)) := (blk_cell BK102.out 0).trans rfl
                    have hcz12_1 : w9.cell? ⟨gb102, 1, none⟩ = some (.int .i64 0) := (blk_cell BK102.out 1).trans rfl
                    have hcz12_2 : w9.cell? ⟨gb102, 2, none⟩ = some (.int .i64 0) := (blk_cell BK102.out 2).trans rfl
                    have hcz12_3 : w9.cell? ⟨gb102, 3, none⟩ = some (.int .i64 0) := (blk_cell BK102.out 3).trans rfl
                    have hfz12_0 := blk_frozen BK102.out 0
                    have hfz12_1 := blk_frozen BK102.out 1
                    have hfz12_2 := blk_frozen BK102.out 2
                    have hfz12_3 := blk_frozen BK102.out 3
                    go_wp2
                    go_meet
                    case rel => exact ⟨_, (true), (by first | rfl | (simp; done) | (simp [*]; done)), H', ⟨by have := HK1.out; first | omega | exact Nat.le_refl _⟩, ⟨by (with_reducible repeat (first | refine blk_drewN ?_ _ | refine blk_drew ?_ | refine blk_alloc ?_ _)); refine blk_put (cs := #[.string ((rd_T33 l0 x10_1).f0), .int .i64 ((rd_T33 l0 x10_1).f1), .int .i64 ((rd_T33 l0 x10_1).f2), .int .i64 0]) ?_ 3 _ rfl; (with_reducible repeat (first | refine blk_drewN ?_ _ | refine blk_drew ?_ | refine blk_alloc ?_ _)); refine blk_put (cs := #[.string ((rd_T33 l0 x10_1).f0), .int .i64 ((rd_T33 l0 x10_1).f1), .int .i64 0, .int .i64 0]) ?_ 2 _ rfl; (with_reducible repeat (first | refine blk_drewN ?_ _ | refine blk_drew ?_ | refine blk_alloc ?_ _)); refine blk_put (cs := #[.string ((rd_T33 l0 x10_1).f0), .int .i64 0, .int .i64 0, .int .i64 0]) ?_ 1 _ rfl; (with_reducible repeat (first | refine blk_drewN ?_ _ | refine blk_drew ?_ | refine blk_alloc ?_ _)); refine blk_put (cs := #[.string (⟨#[]⟩ : ByteArray), .int .i64 0, .int .i64 0, .int .i64 0]) ?_ 0 _ rfl; (with_reducible repeat (first | refine blk_drewN ?_ _ | refine blk_drew ?_ | refine blk_alloc ?_ _)); exact BK102.out⟩, ⟨by repeat (first | (with_reducible first | exact HB.out | apply below_alloc | apply pw_below_drewN | apply below_drew1 | refine below_set ?_ GE102.out) | exact HB.out)⟩⟩
                  · rw [if_neg c11] at H
                    have c11b0 : decide (((rd_T33 l0 x10_1).f1) < 1) = false := decide_eq_false c11
                    clear c11
                    (first | rw [c11b0] | (simp only [i64_w, i32_w]; rw [c11b0]) | skip)
                    have H' := Aside0.mk H
                    clear H
                    have hcz13_0 : w9.cell? ⟨gb102, 0, none⟩ = some (.string (⟨#[]⟩ : ByteArray)) := (blk_cell BK102.out 0).trans rfl
                    have hcz13_1 : w9.cell? ⟨gb102, 1, none⟩ = some (.int .i64 0) := (blk_cell BK102.out 1).trans rfl
                    have hcz13_2 : w9.cell? ⟨gb102, 2, none⟩ = some (.int .i64 0) := (blk_cell BK102.out 2).trans rfl
                    have hcz13_3 : w9.cell? ⟨gb102, 3, none⟩ = some (.int .i64 0) := (blk_cell BK102.out 3).trans rfl
                    have hfz13_0 := blk_frozen BK102.out 0
                    have hfz13_1 := blk_frozen BK102.out 1
                    have hfz13_2 := blk_frozen BK102.out 2
                    have hfz13_3 := blk_frozen BK102.out 3
                    go_wp2
                    go_meet
                    case rel => exact ⟨_, (decide (((rd_T33 l0 x10_1).f1) > 1048576)), (by first | rfl | (simp; done) | (simp [*]; done)), H', ⟨by have := HK1.out; first | omega | exact Nat.le_refl _⟩, ⟨by (with_reducible repeat (first | refine blk_drewN ?_ _ | refine blk_drew ?_ | refine blk_alloc ?_ _)); refine blk_put (cs := #[.string ((rd_T33 l0 x10_1).f0), .int .i64 ((rd_T33 l0 x10_1).f1), .int .i64 ((rd_T33 l0 x10_1).f2), .int .i64 0]) ?_ 3 _ rfl; (with_reducible repeat (first | refine blk_drewN ?_ _ | refine blk_drew ?_ | refine blk_alloc ?_ _)); refine blk_put (cs := #[.string ((rd_T33 l0 x10_1).f0), .int .i64 ((rd_T33 l0 x10_1).f1), .int .i64 0, .int .i64 0]) ?_ 2 _ rfl; (with_reducible repeat (first | refine blk_drewN ?_ _ | refine blk_drew ?_ | refine blk_alloc ?_ _)); refine blk_put (cs := #[.string ((rd_T33 l0 x10_1).f0), .int .i64 0, .int .i64 0, .int .i64 0]) ?_ 1 _ rfl; (with_reducible repeat (first | refine blk_drewN ?_ _ | refine blk_drew ?_ | refine blk_alloc ?_ _)); refine blk_put (cs := #[.string (⟨#[]⟩ : ByteArray), .int .i64 0, .int .i64 0, .int .i64 0]) ?_ 0 _ rfl; (with_reducible repeat (first | refine blk_drewN ?_ _ | refine blk_drew ?_ | refine blk_alloc ?_ _)); exact BK102.out⟩, ⟨by repeat (first | (with_reducible first | exact HB.out | apply below_alloc | apply pw_below_drewN | apply below_drew1 | refine below_set ?_ GE102.out) | exact HB.out)⟩⟩
                case rest =>
                  clear HC8
                  try clear c1
                  try clear p1
                  try clear q1
                  try clear hx1
                  try clear c2
                  try clear c2b0
                  try clear c2b1
                  try clear p2
                  try clear c3
                  try clear c3b0
                  try clear c4
                  try clear c4b0
                  try clear c5
                  try clear c5b0
                  try clear c7
                  try clear p10
                  try clear q10
                  try clear hx10
                  try clear c11
                  try clear c11b0
                  try clear hcz10_0
                  try clear hcz10_1
                  try clear hcz10_2
                  try clear hcz10_3
                  try clear hcz12_0
                  try clear hcz12_1
                  try clear hcz12_2
                  try clear hcz12_3
                  try clear hcz13_0
                  try clear hcz13_1
                  try clear hcz13_2
                  try clear hcz13_3
                  try clear hfz10_0
                  try clear hfz10_1
                  try clear hfz10_2
                  try clear hfz10_3
                  try clear hfz12_0
                  try clear hfz12_1
                  try clear hfz12_2
                  try clear hfz12_3
                  try clear hfz13_0
                  try clear hfz13_1
                  try clear hfz13_2
                  try clear hfz13_3
                  try clear hx101_0
                  try clear hx101_1
                  try clear hx101_2
                  try clear hx101_3
                  try clear p101
                  try clear p2
                  try clear q101
                  obtain ⟨kq, x19_7, rfl, HA, HJ7, BK102, HB⟩ := hcut
                  cases kq with
                  | zero => exact absurd HA.out (by simp [auction_Check.j1])
                  | succ kj7 =>
                    have H := HA.out
                    clear HA
                    simp only [auction_Check.j1] at H
                    by_cases c14 : x19_7 = true
                    · subst c14
                      have H1 : (some 18) = some r := by rw [if_pos rfl] at H; exact H
                      clear H
                      have H := H1
                      clear H1
                      obtain rfl := Option.some.inj H
                      go_wp2
                      go_ret
                      exact ⟨by first | rfl | (simp [errW_none, errW_some] <;> rfl) | (simp [*, errW_none, errW_some] <;> rfl), by repeat (first | (with_reducible first | exact HB.out | apply below_alloc | apply pw_below_drewN | apply below_drew1 | refine below_set ?_ GE102.out) | exact HB.out)⟩
                    · replace c14 := Bool.eq_false_iff.mpr c14
                      subst c14
                      have H1 : ((auction_priced.f ((rd_T33 l0 x10_1).f2)).bind fun t104 => (if t104 = true then (if ((rd_T33 l0 x10_1).f3) < 0 then (some 28) else (if ((rd_T33 l0 x10_1).f3) > 86399 then (some 28) else (auction_Check.l0 kj7 l0 (l0.length : Int) (wrap64 (x10_1 + 1))))) else (some 28))) = some r := by rw [if_neg (show ¬ (false = true) by decide)] at H; exact H
                      clear H
                      have H := H1
                      clear H1
                      replace H := Option.bind_eq_some_iff.mp H
                      obtain ⟨t104, A150, H⟩ := H
                      replace H : (if t104 = true then (if ((rd_T33 l0 x10_1).f3) < 0 then (some 28) else (if ((rd_T33 l0 x10_1).f3) > 86399 then (some 28) else (auction_Check.l0 kj7 l0 (l0.length : Int) (wrap64 (x10_1 + 1))))) else (some 28)) = some r := H
                      have A15 := Aside0.mk A150
                      clear A150
                      by_cases c16 : t104 = true
                      · subst c16
                        have H1 : (if ((rd_T33 l0 x10_1).f3) < 0 then (some 28) else (if ((rd_T33 l0 x10_1).f3) > 86399 then (some 28) else (auction_Check.l0 kj7 l0 (l0.length : Int) (wrap64 (x10_1 + 1))))) = some r := by rw [if_pos rfl] at H; exact H
                        clear H
                        have H := H1
                        clear H1
                        by_cases c17 : ((rd_T33 l0 x10_1).f3) < 0
                        · rw [if_pos c17] at H
                          have c17b0 : decide (((rd_T33 l0 x10_1).f3) < 0) = true := decide_eq_true c17
                          clear c17
                          obtain rfl := Option.some.inj H
                          have hcz18_0 : wc.cell? ⟨gb102, 0, none⟩ = some (.string ((rd_T33 l0 x10_1).f0)) := (blk_cell BK102.out 0).trans rfl
                          have hcz18_1 : wc.cell? ⟨gb102, 1, none⟩ = some (.int .i64 ((rd_T33 l0 x10_1).f1)) := (blk_cell BK102.out 1).trans rfl
                          have hcz18_2 : wc.cell? ⟨gb102, 2, none⟩ = some (.int .i64 ((rd_T33 l0 x10_1).f2)) := (blk_cell BK102.out 2).trans rfl
                          have hcz18_3 : wc.cell? ⟨gb102, 3, none⟩ = some (.int .i64 ((rd_T33 l0 x10_1).f3)) := (blk_cell BK102.out 3).trans rfl
                          have hfz18_0 := blk_frozen BK102.out 0
                          have hfz18_1 := blk_frozen BK102.out 1
                          have hfz18_2 := blk_frozen BK102.out 2
                          have hfz18_3 := blk_frozen BK102.out 3
                          go_wp2_with (first | ((with_reducible refine gate_callee (f := 60) rfl ?_); refine goesL_ (some 31) rfl rfl Try.func60 (by kernel_rfl) rfl #[.int .i64 ((rd_T33 l0 x10_1).f2)] rfl (by (try simp only [List.map_toArray, List.map_cons, List.map_nil]); first | done | rfl | (simp only [List.length_drop, List.length_take]; rfl)) ?_; (with_reducible refine (auction_priced.calls ((rd_T33 l0 x10_1).f2) true _ A15.out).mono ?_); rintro e w' ⟨rfl, ⟨nd, rfl⟩⟩; refine ⟨_, rfl, ?_⟩))
                          go_ret
                          exact ⟨by first | rfl | (simp [errW_none, errW_some] <;> rfl) | (simp [*, errW_none, errW_some] <;> rfl), by repeat (first | (with_reducible first | exact HB.out | apply below_alloc | apply pw_below_drewN | apply below_drew1 | refine below_set ?_ GE102.out) | exact HB.out)⟩
                        · rw [if_neg c17] at H
                          have c17b0 : decide (((rd_T33 l0 x10_1).f3) < 0) = false := decide_eq_false c17
                          clear c17
                          by_cases c19 : ((rd_T33 l0 x10_1).f3) > 86399
                          · rw [if_pos c19] at H
                            have c19b0 : decide (86399 < ((rd_T33 l0 x10_1).f3)) = true := decide_eq_true c19
                            clear c19
                            obtain rfl := Option.some.inj H
                            have hcz20_0 : wc.cell? ⟨gb102, 0, none⟩ = some (.string ((rd_T33 l0 x10_1).f0)) := (blk_cell BK102.out 0).trans rfl
                            have hcz20_1 : wc.cell? ⟨gb102, 1, none⟩ = some (.int .i64 ((rd_T33 l0 x10_1).f1)) := (blk_cell BK102.out 1).trans rfl
                            have hcz20_2 : wc.cell? ⟨gb102, 2, none⟩ = some (.int .i64 ((rd_T33 l0 x10_1).f2)) := (blk_cell BK102.out 2).trans rfl
                            have hcz20_3 : wc.cell? ⟨gb102, 3, none⟩ = some (.int .i64 ((rd_T33 l0 x10_1).f3)) := (blk_cell BK102.out 3).trans rfl
                            have hfz20_0 := blk_frozen BK102.out 0
                            have hfz20_1 := blk_frozen BK102.out 1
                            have hfz20_2 := blk_frozen BK102.out 2
                            have hfz20_3 := blk_frozen BK102.out 3
                            go_wp2_with (first | ((with_reducible refine gate_callee (f := 60) rfl ?_); refine goesL_ (some 31) rfl rfl Try.func60 (by kernel_rfl) rfl #[.int .i64 ((rd_T33 l0 x10_1).f2)] rfl (by (try simp only [List.map_toArray, List.map_cons, List.map_nil]); first | done | rfl | (simp only [List.length_drop, List.length_take]; rfl)) ?_; (with_reducible refine (auction_priced.calls ((rd_T33 l0 x10_1).f2) true _ A15.out).mono ?_); rintro e w' ⟨rfl, ⟨nd, rfl⟩⟩; refine ⟨_, rfl, ?_⟩))
                            go_ret
                            exact ⟨by first | rfl | (simp [errW_none, errW_some] <;> rfl) | (simp [*, errW_none, errW_some] <;> rfl), by repeat (first | (with_reducible first | exact HB.out | apply below_alloc | apply pw_below_drewN | apply below_drew1 | refine below_set ?_ GE102.out) | exact HB.out)⟩
                          · rw [if_neg c19] at H
                            have c19b0 : decide (86399 < ((rd_T33 l0 x10_1).f3)) = false := decide_eq_false c19
                            clear c19
                            have H' := Aside0.mk H
                            clear H
                            have hcz21_0 : wc.cell? ⟨gb102, 0, none⟩ = some (.string ((rd_T33 l0 x10_1).f0)) := (blk_cell BK102.out 0).trans rfl
                            have hcz21_1 : wc.cell? ⟨gb102, 1, none⟩ = some (.int .i64 ((rd_T33 l0 x10_1).f1)) := (blk_cell BK102.out 1).trans rfl
                            have hcz21_2 : wc.cell? ⟨gb102, 2, none⟩ = some (.int .i64 ((rd_T33 l0 x10_1).f2)) := (blk_cell BK102.out 2).trans rfl
                            have hcz21_3 : wc.cell? ⟨gb102, 3, none⟩ = some (.int .i64 ((rd_T33 l0 x10_1).f3)) := (blk_cell BK102.out 3).trans rfl
                            have hfz21_0 := blk_frozen BK102.out 0
                            have hfz21_1 := blk_frozen BK102.out 1
                            have hfz21_2 := blk_frozen BK102.out 2
                            have hfz21_3 := blk_frozen BK102.out 3
                            go_wp2_with (first | ((with_reducible refine gate_callee (f := 60) rfl ?_); refine goesL_ (some 31) rfl rfl Try.func60 (by kernel_rfl) rfl #[.int .i64 ((rd_T33 l0 x10_1).f2)] rfl (by (try simp only [List.map_toArray, List.map_cons, List.map_nil]); first | done | rfl | (simp only [List.length_drop, List.length_take]; rfl)) ?_; (with_reducible refine (auction_priced.calls ((rd_T33 l0 x10_1).f2) true _ A15.out).mono ?_); rintro e w' ⟨rfl, ⟨nd, rfl⟩⟩; refine ⟨_, rfl, ?_⟩))
                            go_roundg kj7
                            case measure => have := HK1.out; have := HJ7.out; omega
                            case rel => exact ⟨(wrap64 (x10_1 + 1)), (by first | rfl | (simp; done) | (simp [*]; done)), H', ⟨by have := HK1.out; have := HJ7.out; omega⟩, ⟨by repeat (first | (with_reducible first | exact HB.out | apply below_alloc | apply pw_below_drewN | apply below_drew1 | refine below_set ?_ GE102.out) | exact HB.out)⟩⟩
                      · replace c16 := Bool.eq_false_iff.mpr c16
                        subst c16
                        have H1 : (some 28) = some r := by rw [if_neg (show ¬ (false = true) by decide)] at H; exact H
                        clear H
                        have H := H1
                        clear H1
                        obtain rfl := Option.some.inj H
                        have hcz22_0 : wc.cell? ⟨gb102, 0, none⟩ = some (.string ((rd_T33 l0 x10_1).f0)) := (blk_cell BK102.out 0).trans rfl
                        have hcz22_1 : wc.cell? ⟨gb102, 1, none⟩ = some (.int .i64 ((rd_T33 l0 x10_1).f1)) := (blk_cell BK102.out 1).trans rfl
                        have hcz22_2 : wc.cell? ⟨gb102, 2, none⟩ = some (.int .i64 ((rd_T33 l0 x10_1).f2)) := (blk_cell BK102.out 2).trans rfl
                        have hcz22_3 : wc.cell? ⟨gb102, 3, none⟩ = some (.int .i64 ((rd_T33 l0 x10_1).f3)) := (blk_cell BK102.out 3).trans rfl
                        have hfz22_0 := blk_frozen BK102.out 0
                        have hfz22_1 := blk_frozen BK102.out 1
                        have hfz22_2 := blk_frozen BK102.out 2
                        have hfz22_3 := blk_frozen BK102.out 3
                        go_wp2_with (first | ((with_reducible refine gate_callee (f := 60) rfl ?_); refine goesL_ (some 31) rfl rfl Try.func60 (by kernel_rfl) rfl #[.int .i64 ((rd_T33 l0 x10_1).f2)] rfl (by (try simp only [List.map_toArray, List.map_cons, List.map_nil]); first | done | rfl | (simp only [List.length_drop, List.length_take]; rfl)) ?_; (with_reducible refine (auction_priced.calls ((rd_T33 l0 x10_1).f2) false _ A15.out).mono ?_); rintro e w' ⟨rfl, ⟨nd, rfl⟩⟩; refine ⟨_, rfl, ?_⟩))
                        go_ret
                        exact ⟨by first | rfl | (simp [errW_none, errW_some] <;> rfl) | (simp [*, errW_none, errW_some] <;> rfl), by repeat (first | (with_reducible first | exact HB.out | apply below_alloc | apply pw_below_drewN | apply below_drew1 | refine below_set ?_ GE102.out) | exact HB.out)⟩
              · replace c7 := Bool.eq_false_iff.mpr c7
                subst c7
                have H1 : (some 10) = some r := by rw [if_neg (show ¬ (false = true) by decide)] at H; exact H
                clear H
                have H := H1
                clear H1
                obtain rfl := Option.some.inj H
                have p101 : 0 ≤ (x10_1 : Int) := of_decide_eq_true (by first | (with_reducible assumption) | assumption)
                have q101 : x10_1 < (l0.length : Int) := of_decide_eq_true (by first | (with_reducible assumption) | assumption)
                obtain ⟨ad101, e101, hx101_0, hx101_1, hx101_2, hx101_3⟩ := at_T33 HR0.out x10_1 p101 q101
                cases e101
                replace hx101_0 := (HB.out.cell (World.block_lt_of_cell? w _ hx101_0)).trans hx101_0
                replace hx101_1 := (HB.out.cell (World.block_lt_of_cell? w _ hx101_1)).trans hx101_1
                replace hx101_2 := (HB.out.cell (World.block_lt_of_cell? w _ hx101_2)).trans hx101_2
                replace hx101_3 := (HB.out.cell (World.block_lt_of_cell? w _ hx101_3)).trans hx101_3
                replace p101 := eq_true p101
                replace q101 := eq_true q101
                go_wp2_with (first | ((with_reducible refine gate_dst (N := 4) rfl ?_); refine box_event ?hg (N := 4) ?hd (cs := #[.string (⟨#[]⟩ : ByteArray), .int .i64 0, .int .i64 0, .int .i64 0]) (t := 33) ?hr ?_; (case hd => rfl); (case hg => rfl); (case hr => first | (go_simp; done) | (go_simp; rfl)); intro gb102 hg w23 hbox hb; have n0_ := Aside0.mk (below_step (by repeat (first | (with_reducible first | exact HB.out | apply below_alloc | apply pw_below_drewN | apply below_drew1) | exact HB.out)) hb); have n1_ := Aside0.mk (hbox); have n2_ := Aside0.mk ((by rw [hg]; exact (below_size (by repeat (first | (with_reducible first | exact HB.out | apply below_alloc | apply pw_below_drewN | apply below_drew1) | exact HB.out))) : w.heap.size ≤ gb102)); have n3_ := Aside0.mk ((by rw [hg]; exact (below_size (by repeat (first | (with_reducible first | exact HB.out | apply below_alloc | apply pw_below_drewN | apply below_drew1) | exact HB.out))) : w.heap.size ≤ gb102)); clear HB; have HB := n0_; have BK102 := n1_; have GW102 := n2_; have GE102 := n3_; clear n0_ n1_ n2_ n3_; clear hb hbox hg; have hcz24_0 : w23.cell? ⟨gb102, 0, none⟩ = some (.string (⟨#[]⟩ : ByteArray)) := (blk_cell BK102.out 0).trans rfl; have hcz24_1 : w23.cell? ⟨gb102, 1, none⟩ = some (.int .i64 0) := (blk_cell BK102.out 1).trans rfl; have hcz24_2 : w23.cell? ⟨gb102, 2, none⟩ = some (.int .i64 0) := (blk_cell BK102.out 2).trans rfl; have hcz24_3 : w23.cell? ⟨gb102, 3, none⟩ = some (.int .i64 0) := (blk_cell BK102.out 3).trans rfl; have hfz24_0 := blk_frozen BK102.out 0; have hfz24_1 := blk_frozen BK102.out 1; have hfz24_2 := blk_frozen BK102.out 2; have hfz24_3 := blk_frozen BK102.out 3) | ((with_reducible refine gate_callee (f := 59) rfl ?_); refine goesL_ (some 17) rfl rfl Try.func59 (by kernel_rfl) rfl #[.string ((rd_T33 l0 x10_1).f0)] rfl (by (try simp only [List.map_toArray, List.map_cons, List.map_nil]); first | done | rfl | (simp only [List.length_drop, List.length_take]; rfl)) ?_; (with_reducible refine (words_Name.calls k1 ((rd_T33 l0 x10_1).f0) false _ A6.out).mono ?_); rintro e w' ⟨rfl, ⟨nd, rfl⟩⟩; refine ⟨_, rfl, ?_⟩))
                go_ret
                exact ⟨by first | rfl | (simp [errW_none, errW_some] <;> rfl) | (simp [*, errW_none, errW_some] <;> rfl), by repeat (first | (with_reducible first | exact HB.out | apply below_alloc | apply pw_below_drewN | apply below_drew1 | refine below_set ?_ GE102.out) | exact HB.out)⟩
            · rw [if_neg c5] at H
              exact absurd H (by simp)
          · rw [if_neg c4] at H
            exact absurd H (by simp)
        · rw [if_neg c3] at H
          have c3b0 : decide (x10_1 < (l0.length : Int)) = false := decide_eq_false c3
          clear c3
          obtain rfl := Option.some.inj H
          go_wp2
          go_ret
          exact ⟨by first | rfl | (simp [errW_none, errW_some] <;> rfl) | (simp [*, errW_none, errW_some] <;> rfl), by repeat (first | (with_reducible first | exact HB.out | apply below_alloc | apply pw_below_drewN | apply below_drew1) | exact HB.out)⟩
end Go.Proofs.Ytokijibpdnepiaa.X
end
section
namespace Go.Proofs.Ytokijibpdnepiaa.X
open Go.RowKit Go.Proofs.YtokijibpdnepiaaW.PrintWords Go.Proofs.YtokijibpdnepiaaW.PrintLast Go.Proofs.YtokijibpdnepiaaW.PrintMore
attribute [local go_sem] max2_int min2_int max_two min_two max_three min_three max_four min_four
set_option linter.unusedVariables false
set_option linter.unusedSimpArgs false
open Go.Maps Go.WideMaps
def bidOf (l : List S33) (s : ByteArray) : Int := l.foldl (fun n b => if b.f0.toList = s.toList then wrap64 (n + b.f1) else n) 0
def missGo (k : Nat) (l : List S33) : List Int → List ByteArray → List Int → Option (List Int × Int)
  | acc, [], _ => some (acc, 0)
  | _, _ :: _, [] => none
  | acc, s :: ns, m :: ms => (words_Name.f k s).bind fun b => if b = false then some ([], 10) else if m < 0 then some ([], 18) else if 1048576 < m then some ([], 18) else
      if s.size ≤ maxLen ∧ acc.length < 17592186044416 then missGo k l (acc ++ [mx (wrap64 (m - bidOf l s)) 0]) ns ms else none
def auction_Missing.f (k : Nat) (names : List ByteArray) (least : List Int) (l : List S33) : Option (List Int × Int) :=
  (auction_Check.f k l).bind fun e => if e ≠ 0 then some ([], e) else if names.length ≠ least.length then some ([], 8) else if l.length ≤ 1024 ∧ (∀ b ∈ l, b.f0.size ≤ maxLen) then missGo k l [] names least else none
theorem missGo_mono (k : Nat) (l : List S33) : ∀ ns acc ms, LeO (missGo k l acc ns ms) (missGo (k + 1) l acc ns ms)
  | [], acc, ms => by simp only [missGo]; exact LeO.refl _
  | s :: ns, acc, [] => by simp only [missGo]; exact LeO.refl _
  | s :: ns, acc, m :: ms => by
    simp only [missGo]
    refine LeO.bind (words_Name.mono _ _) (fun b => ?_)
    refine LeO.ite (LeO.refl _) (LeO.ite (LeO.refl _) (LeO.ite (LeO.refl _) (LeO.ite ?_ (LeO.refl _))))
    exact missGo_mono k l ns _ ms
theorem auction_Missing.mono : ∀ a b c k, LeO (auction_Missing.f k a b c) (auction_Missing.f (k + 1) a b c) := by
  intro a b c k
  unfold auction_Missing.f
  refine LeO.bind (auction_Check.mono _ _) (fun e => LeO.ite (LeO.refl _) (LeO.ite (LeO.refl _) (LeO.ite ?_ (LeO.refl _))))
  exact missGo_mono k c a [] b
theorem strKeyed : Keyed Try.prog 9 := string_keyed Try.underlying9
set_option maxRecDepth 100000 in
theorem intZero (w : World) : (zeroValue 3).run Try.prog w = .ok (.int .i64 0) w := by kernel_rfl
theorem wf_wrap (n : Int) : (Lit.int .i64 (wrap64 n)).wf = true := by
  have : -9223372036854775808 ≤ wrap64 n ∧ wrap64 n ≤ 9223372036854775807 := by unfold wrap64; omega
  simp [Lit.wf, IntKind.min, IntKind.max, IntKind.signed, IntKind.bits]; omega
def BidD (l : List S33) (D : DataW Unit) : Prop := IsMap D ∧ ∀ s : ByteArray, D.atKey (.string s.data.toList) (.lit (.int .i64 0)) = .lit (.int .i64 (bidOf l s))
theorem bidOf_snoc (l : List S33) (b : S33) (s : ByteArray) : bidOf (l ++ [b]) s = if b.f0.toList = s.toList then wrap64 (bidOf l s + b.f1) else bidOf l s := by
  unfold bidOf; rw [List.foldl_append]; rfl
theorem bidD_step {l : List S33} {D : DataW Unit} (b : S33) (h : BidD l D) (hs : b.f0.size ≤ maxLen) {c : Int} (hc : D.atKey (.string b.f0.data.toList) (.lit (.int .i64 0)) = .lit (.int .i64 c)) :
    BidD (l ++ [b]) (D.put (.string b.f0.data.toList) (.lit (.int .i64 (wrap64 (c + b.f1))))) := by
  obtain ⟨⟨m, rfl⟩, h2⟩ := h
  refine ⟨by rw [DataW.put_eq]; exact ⟨_, rfl⟩, fun s => ?_⟩
  rw [bidOf_snoc]
  have et : ∀ a : ByteArray, a.toList = a.data.toList := fun a => ByteArray.toList_eq a
  by_cases e : b.f0.toList = s.toList
  · rw [if_pos e]
    rw [et, et] at e
    rw [← e, atKey_put_same ⟨m, rfl⟩ (strKeyed.key (keyOf_string_mk Try.underlying9 hs))]
    have hc2 := h2 b.f0
    rw [hc2] at hc
    injection hc with hc
    injection hc with _ hc
    have : bidOf l s = bidOf l b.f0 := by unfold bidOf; rw [et s, et b.f0, e]
    rw [this, hc]
  · rw [if_neg e]
    rw [et, et] at e
    rw [atKey_put_other (by intro h; injection h with h; exact e h.symm), h2]
set_option maxHeartbeats 4000000 in
set_option maxRecDepth 100000 in
theorem auction_Missing.calls (k : Nat) (A0 : Option Addr) (c0 : Nat) (l0 : List ByteArray) (A1 : Option Addr) (c1 : Nat) (l1 : List Int) (A2 : Option Addr) (c2 : Nat) (l2 : List S33) (r1 : List Int) (r2 : Int) (w : World) (hr0 : Kd.C Kd.string w A0 l0.length l0) (hc0 : l0.length ≤ c0) (hr1 : Kd.C (Kd.int .i64) w A1 l1.length l1) (hc1 : l1.length ≤ c1) (hr2 : Kd.C k33 w A2 l2.length l2) (hc2 : l2.length ≤ c2) (h0 : auction_Missing.f k l0 l1 l2 = some (r1, r2)) :
    Calls Try.prog 38 #[.slice A0 l0.length c0, .slice A1 l1.length c1, .slice A2 l2.length c2] w fun e w' => ∃ v0_ : Value, e = .returned (.tuple #[v0_, .int .i64 r2]) ∧ Kd.R (Kd.int .i64) 3 w' w.heap.size (fun _ => True) v0_ r1 ∧ Below w.heap.size w w' := by
  unfold auction_Missing.f at h0
  obtain ⟨e, he, h⟩ := Option.bind_eq_some_iff.1 h0
  clear h0
  have HR0 := Aside0.mk hr0
  have HR1 := Aside0.mk hr1
  have HR2 := Aside0.mk hr2
  have HE := Aside0.mk he
  have hmm := @run_makeMap Try.prog
  have hlen0 := (show l0.length ≤ 9223372036854775807 from Kd.C_max hr0)
  have hlen2 := (show l2.length ≤ 9223372036854775807 from Kd.C_max hr2)
  clear hr0 hr1 hr2 he
  by_cases e0 : e ≠ 0
  · rw [if_pos e0] at h
    obtain ⟨rfl, rfl⟩ : [] = r1 ∧ e = r2 := by simpa using h
    have hne : (e != 0) = true := by simpa using e0
    clear h e0
    go_enter Try.func38, Try.ntmps38
    go_wp2_with (go_at_call 18; refine (auction_Check.calls k A2 c2 l2 e _ HR2.out hc2 HE.out).mono ?_; rintro e w1 ⟨rfl, hb1⟩)
    refine bodyPost_ret (v := .tuple #[.slice none 0 0, .int .i64 e]) (by simp [results, Try.results38, go_sem]) rfl ⟨_, rfl, Kd.R_nil _ _ _ _ _, hb1⟩
  rw [if_neg e0] at h
  obtain rfl : e = 0 := Decidable.not_not.1 e0
  clear e0
  by_cases hl : l0.length ≠ l1.length
  · rw [if_pos hl] at h
    obtain ⟨rfl, rfl⟩ : [] = r1 ∧ 8 = r2 := by simpa using h
    have hne : ((l0.length : Int) != (l1.length : Int)) = true := bne_iff_ne.2 (by omega)
    clear h
    go_enter Try.func38, Try.ntmps38
    go_wp2_with (go_at_call 18; refine (auction_Check.calls k A2 c2 l2 0 _ HR2.out hc2 HE.out).mono ?_; rintro e w1 ⟨rfl, hb1⟩)
    refine bodyPost_ret (v := .tuple #[.slice none 0 0, .int .i64 8]) (by simp [results, Try.results38, go_sem]) rfl ⟨_, rfl, Kd.R_nil _ _ _ _ _, hb1⟩
  rw [if_neg hl] at h
  replace hl : l0.length = l1.length := Decidable.not_not.1 hl
  by_cases hg : l2.length ≤ 1024 ∧ (∀ b ∈ l2, b.f0.size ≤ maxLen)
  case neg => rw [if_neg hg] at h; cases h
  rw [if_pos hg] at h
  obtain ⟨hg1, hg2⟩ := hg
  have HG := Aside0.mk h
  have HS := Aside0.mk hg2
  have hne : ((l0.length : Int) != (l1.length : Int)) = false := by simp [hl]
  have HLN := Aside0.mk hl
  clear h hg2 hl
  go_enter Try.func38, Try.ntmps38
  go_wp2_with (go_at_call 18; refine (auction_Check.calls k A2 c2 l2 0 _ HR2.out hc2 HE.out).mono ?_; rintro e w1 ⟨rfl, hb1⟩; have HB1 := Aside0.mk hb1; clear hb1)
  have hs1 := HB1.out.size
  go_loopg [26] l2.length (fun kq v26 wr => ∃ (i : Nat) (D : DataW Unit), v26 = .int .i64 (i : Int) ∧ Aside0 (kq + i = l2.length) ∧ Aside0 (wr.ownsMap Try.prog 9 (plainElem Try.prog 3) w1.heap.size i D) ∧ Aside0 (BidD (l2.take i) D) ∧ Aside0 (Below w.heap.size w wr) ∧ Aside0 (w1.heap.size < wr.heap.size))
  case atStart => exact ⟨0, .map [], rfl, ⟨by omega⟩, ⟨World.ownsMap_made _ _ _ _⟩, ⟨⟨_, rfl⟩, fun s => rfl⟩, ⟨HB1.out.alloc hs1 _⟩, ⟨by simp⟩⟩
  case round =>
    obtain ⟨i, D, rfl, Hk, HM, HD, HB2, HL⟩ := hrel
    have hfl := HL.out
    by_cases hlt : i < l2.length
    · obtain ⟨ad, ea, hx0, hx1, hx2, hx3⟩ := at_T33 HR2.out (i : Int) (by omega) (by omega)
      cases ea
      have hti : rd_T33 l2 (i : Int) = l2[i] := by simp [rd_T33, hlt]
      rw [hti, Int.toNat_natCast] at hx0 hx1 hx2 hx3
      replace hx0 := (HB2.out.cell (World.block_lt_of_cell? w _ hx0)).trans hx0
      replace hx1 := (HB2.out.cell (World.block_lt_of_cell? w _ hx1)).trans hx1
      replace hx2 := (HB2.out.cell (World.block_lt_of_cell? w _ hx2)).trans hx2
      replace hx3 := (HB2.out.cell (World.block_lt_of_cell? w _ hx3)).trans hx3
      have htk : l2.take (i + 1) = l2.take i ++ [l2[i]] := List.take_succ_eq_append_getElem hlt
      have hsz : l2[i].f0.size ≤ maxLen := HS.out _ (List.getElem_mem hlt)
      generalize l2[i] = t at hx0 hx1 hx2 hx3 htk hsz
      have HKY := Aside0.mk (keyOf_string_mk Try.underlying9 hsz)
      have HT := Aside0.mk htk
      have HSZ := Aside0.mk hsz
      have HLT := Aside0.mk hlt
      clear hti htk hsz
      go_wp2_with (first
        | (at_lookup; refine wpList_lookup_own_int _ rfl _ _ 123 rfl 9 3 .i64 strKeyed Try.underlying123 Try.underlying3 (intZero _) w1.heap.size i D rfl (HM.out.alloc _) _ _ rfl HKY.out ?_; intro c hat hwc; have HAT := Aside0.mk hat; clear hat hwc)
        | (at_mapUpdate; refine wpList_mapUpdate_own _ rfl _ _ _ 123 rfl 9 3 strKeyed Try.underlying123 (plainElem (H := Unit) Try.prog 3) w1.heap.size i D rfl (HM.out.alloc _) (by unfold maxLen; omega) _ _ _ rfl rfl HKY.out _ [] (plainElem_int Try.underlying3 (wf_wrap _)) ?_; intro w2 hown2 hgrow2; have HM2 := Aside0.mk hown2; have HG5 := Aside0.mk hgrow2; clear hown2 hgrow2))
      have s2 := HG5.out.size
      simp at s2
      go_roundg (gk - 1)
      case measure => have := Hk.out; omega
      case rel =>
        refine ⟨i + 1, _, by go_num, ⟨by have := Hk.out; omega⟩, HM2, ⟨by rw [HT.out]; exact bidD_step t HD.out HSZ.out HAT.out⟩, ⟨?_⟩, ⟨by omega⟩⟩
        exact Below.grown (HB2.out.alloc HB2.out.size _) HG5.out (by simp; omega) (fun j hj => by cases hj; exact hs1)
    · have hi2 : i = l2.length := by have := Hk.out; omega
      subst hi2
      rw [List.take_length] at HD
      obtain ⟨n1, hn1⟩ : ∃ n, l2.length = n := ⟨_, rfl⟩
      rw [hn1] at HM
      clear HR2 HE hn1
      go_wp2_with fail
      go_loopg [6, 40] l0.length (fun kq v6 v40 wr2 => ∃ (j : Nat) (acc : List Int), v40 = .int .i64 (j : Int) ∧ Aside0 (kq + j = l0.length) ∧ Aside0 (missGo k l2 acc (l0.drop j) (l1.drop j) = some (r1, r2)) ∧ Aside0 (Kd.R (Kd.int .i64) 3 wr2 w.heap.size (fun q => q ≠ w1.heap.size) v6 acc) ∧ Aside0 (wr2.ownsMap Try.prog 9 (plainElem Try.prog 3) w1.heap.size n1 D) ∧ Aside0 (Below w.heap.size w wr2) ∧ Aside0 (w1.heap.size < wr2.heap.size))
      case atStart => exact ⟨0, [], rfl, ⟨by omega⟩, HG, ⟨Kd.R_nil _ _ _ _ _⟩, HM, HB2, HL⟩
      case round =>
        obtain ⟨j, acc, rfl, Hk2, HG2, HO, HM2, HB3, HL2⟩ := hrel
        obtain ⟨A6, c6, rfl⟩ := Kd.R_slice HO.out
        by_cases hj : j < l0.length
        · have hj1 : j < l1.length := by have := HLN.out; omega
          have hg := HG2.out
          rw [(List.getElem_cons_drop hj).symm, (List.getElem_cons_drop hj1).symm, missGo] at hg
          obtain ⟨ad5, e5, hx5⟩ := Kd.at_string HR0.out (j : Int) (by omega) (by omega)
          obtain ⟨ad6, e6, hx6⟩ := Kd.at_int HR1.out (j : Int) (by omega) (by omega)
          cases e5
          cases e6
          have r5 : rdOf ByteArray.empty l0 (j : Int) = l0[j] := by simp [rdOf, hj]
          have r6 : Go.Proofs.YtokijibpdnepiaaW.PrintWords.rd l1 (j : Int) = l1[j] := by simp [Go.Proofs.YtokijibpdnepiaaW.PrintWords.rd, hj1]
          rw [r5, Int.toNat_natCast] at hx5
          rw [r6, Int.toNat_natCast] at hx6
          replace hx5 := (HB3.out.cell (World.block_lt_of_cell? w _ hx5)).trans hx5
          replace hx6 := (HB3.out.cell (World.block_lt_of_cell? w _ hx6)).trans hx6
          generalize l0[j] = s at hx5 hg
          generalize l1[j] = m at hx6 hg
          obtain ⟨b, hb, hg⟩ := Option.bind_eq_some_iff.1 hg
          have HNM := Aside0.mk hb
          have hjj : (j : Int) < (l0.length : Int) := by omega
          have hjk : (j : Int) < (l1.length : Int) := by omega
          clear r5 r6 hb HG2
          cases b with
          | false =>
            rw [if_pos rfl] at hg
            obtain ⟨rfl, rfl⟩ : [] = r1 ∧ 10 = r2 := by simpa using hg
            clear hg
            go_wp2_with (go_at_call 59; (with_reducible refine (words_Name.calls k s false _ HNM.out).mono ?_); rintro e w' ⟨rfl, ⟨nd, rfl⟩⟩)
            refine bodyPost_ret (v := .tuple #[.slice none 0 0, .int .i64 10]) (by simp [results, Try.results38, go_sem]) rfl ⟨_, rfl, Kd.R_nil _ _ _ _ _, pw_below_drewN HB3.out _⟩
          | true =>
            rw [if_neg (by decide)] at hg
            by_cases d1 : m < 0
            · rw [if_pos d1] at hg
              obtain ⟨rfl, rfl⟩ : [] = r1 ∧ 18 = r2 := by simpa using hg
              replace d1 := decide_eq_true d1
              clear hg
              go_wp2_with (go_at_call 59; (with_reducible refine (words_Name.calls k s true _ HNM.out).mono ?_); rintro e w' ⟨rfl, ⟨nd, rfl⟩⟩)
              refine bodyPost_ret (v := .tuple #[.slice none 0 0, .int .i64 18]) (by simp [results, Try.results38, go_sem]) rfl ⟨_, rfl, Kd.R_nil _ _ _ _ _, pw_below_drewN HB3.out _⟩
            rw [if_neg d1] at hg
            by_cases d2 : 1048576 < m
            · rw [if_pos d2] at hg
              obtain ⟨rfl, rfl⟩ : [] = r1 ∧ 18 = r2 := by simpa using hg
              replace d1 := decide_eq_false d1
              replace d2 := decide_eq_true d2
              clear hg
              go_wp2_with (go_at_call 59; (with_reducible refine (words_Name.calls k s true _ HNM.out).mono ?_); rintro e w' ⟨rfl, ⟨nd, rfl⟩⟩)
              refine bodyPost_ret (v := .tuple #[.slice none 0 0, .int .i64 18]) (by simp [results, Try.results38, go_sem]) rfl ⟨_, rfl, Kd.R_nil _ _ _ _ _, pw_below_drewN HB3.out _⟩
            rw [if_neg d2] at hg
            by_cases d3 : s.size ≤ maxLen ∧ acc.length < 17592186044416
            case neg => rw [if_neg d3] at hg; cases hg
            rw [if_pos d3] at hg
            obtain ⟨d4, d5⟩ := d3
            have HD5 := Aside0.mk d5
            replace d1 := decide_eq_false d1
            replace d2 := decide_eq_false d2
            have hrun : ∀ W : World, W.heap = wr.heap → (Instr.lookup 123 (.map (some w1.heap.size)) (.string s) false).run Try.prog W = .ok (.int .i64 (bidOf l2 s)) W := by
              intro W hW
              have hown : W.ownsMap Try.prog 9 (plainElem Try.prog 3) w1.heap.size n1 D := by
                obtain ⟨es, clock, h1, h2⟩ := HM2.out
                exact ⟨es, clock, by rw [hW]; exact h1, h2⟩
              obtain ⟨c, hrun, hat, _⟩ := hown.lookup_int strKeyed Try.underlying123 Try.underlying3 (intZero _) (keyOf_string_mk Try.underlying9 d4)
              have := HD.out.2 s
              rw [this] at hat
              injection hat with hat
              injection hat with _ hat
              rw [hat]
              exact hrun
            obtain ⟨z, hz⟩ : ∃ z, wrap64 (m - bidOf l2 s) = z := ⟨_, rfl⟩
            rw [hz] at hg
            obtain ⟨y, hy⟩ : ∃ y, (if z < 0 then (0 : Int) else z) = y := ⟨_, rfl⟩
            have hy2 : mx z 0 = y := hy
            rw [hy2] at hg
            clear hy2
            have HG3 := Aside0.mk hg
            clear hg d4 d5
            go_wp2_with (go_at_call 59; (with_reducible refine (words_Name.calls k s true _ HNM.out).mono ?_); rintro e w' ⟨rfl, ⟨nd, rfl⟩⟩)
            refine start_ (n := 13) (S := fun w' => w'.cell? (ad6.add j) = some (.int .i64 m) ∧ (Instr.lookup 123 (.map (some w1.heap.size)) (.string s) false).run Try.prog w' = .ok (.int .i64 (bidOf l2 s)) w') (ds := [10, 11]) #[false, false, false, false, false, false, false, false, false, false, false, false, false] (by kernel_rfl) rfl rfl ⟨hx6, hrun _ rfl⟩ (fun hHeld => ?_)
            obtain ⟨E, hE⟩ : ∃ E, (wr.drewN nd).drew = E := ⟨_, rfl⟩
            have HBE : Below w.heap.size w E := by rw [← hE]; exact below_drew1 (pw_below_drewN HB3.out _)
            have HOE : Kd.R (Kd.int .i64) 3 E w.heap.size (fun q => q ≠ w1.heap.size) (.slice A6 acc.length c6) acc := by rw [← hE]; exact Kd.R_drew (Kd.R_drewN HO.out _)
            have HME : E.ownsMap Try.prog 9 (plainElem Try.prog 3) w1.heap.size n1 D := by rw [← hE]; exact HM2.out
            have HLE : w1.heap.size < E.heap.size := by rw [← hE]; exact HL2.out
            have HBE := Aside0.mk HBE
            have HOE := Aside0.mk HOE
            have HME := Aside0.mk HME
            have HLE := Aside0.mk HLE
            rw [hE] at hHeld ⊢
            clear hE hx5 hx6 hrun
            refine pure_ (i := 0) (N := some 60) (v := ?_) (a' := ?_) #[true, false, false, false, false, false, false, false, false, false, false, false, false] rfl rfl (by kernel_rfl) (fun _ _ _ h => h) (Or.inl ⟨by rfl, ?_⟩) ?_ ?_
            rotate_left
            · intro w'
              go_simp
              with_reducible rfl
            rotate_left
            · simp only [Act.put, List.setIfInBounds_toArray, List.set_cons_zero, List.set_cons_succ, i64_w, i32_w]
              rfl
            refine pure_ (i := 1) (N := some 61) (v := ?_) (a' := ?_) #[true, true, false, false, false, false, false, false, false, false, false, false, false] rfl rfl (by kernel_rfl) (fun _ _ _ h => h) (Or.inl ⟨by rfl, ?_⟩) ?_ ?_
            rotate_left
            · intro w'
              go_simp
              with_reducible rfl
            rotate_left
            · simp only [Act.put, List.setIfInBounds_toArray, List.set_cons_zero, List.set_cons_succ, i64_w, i32_w]
              rfl
            refine pure_ (i := 2) (N := some 62) (v := ?_) (a' := ?_) #[true, true, true, false, false, false, false, false, false, false, false, false, false] rfl rfl (by kernel_rfl) (fun _ _ _ h => h) (Or.inl ⟨by rfl, ?_⟩) ?_ ?_
            rotate_left
            · intro w'
              go_simp
              with_reducible rfl
            rotate_left
            · simp only [Act.put, List.setIfInBounds_toArray, List.set_cons_zero, List.set_cons_succ, i64_w, i32_w]
              rfl
            refine pure_ (i := 3) (N := some 63) (v := ?_) (a' := ?_) #[true, true, true, true, false, false, false, false, false, false, false, false, false] rfl rfl (by kernel_rfl) (fun _ _ _ h => h) (Or.inl ⟨by rfl, ?_⟩) ?_ ?_
            rotate_left
            · intro w'
              go_simp
              with_reducible rfl
            rotate_left
            · simp only [Act.put, List.setIfInBounds_toArray, List.set_cons_zero, List.set_cons_succ, i64_w, i32_w]
              rfl
            refine take_ (i := 4) (N := some 64) (v := ?_) (a' := ?_) #[true, true, true, true, true, false, false, false, false, false, false, false, false] rfl rfl (by kernel_rfl) (fun _ _ _ h => h) (Or.inl ⟨by rfl, ?_⟩) hHeld ?_ ?_
            rotate_left
            · rintro w' ⟨s0, s1⟩
              go_simp
              with_reducible rfl
            rotate_left
            · simp only [Act.put, List.setIfInBounds_toArray, List.set_cons_zero, List.set_cons_succ, i64_w, i32_w]
              rfl
            refine pure_ (i := 5) (N := some 65) (v := ?_) (a' := ?_) #[true, true, true, true, true, true, false, false, false, false, false, false, false] rfl rfl (by kernel_rfl) (fun _ _ _ h => h) (Or.inl ⟨by rfl, ?_⟩) ?_ ?_
            rotate_left
            · intro w'
              go_simp
              with_reducible rfl
            rotate_left
            · simp only [Act.put, List.setIfInBounds_toArray, List.set_cons_zero, List.set_cons_succ, i64_w, i32_w]
              rfl
            refine pure_ (i := 6) (N := some 66) (v := ?_) (a' := ?_) #[true, true, true, true, true, true, true, false, false, false, false, false, false] rfl rfl (by kernel_rfl) (fun _ _ _ h => h) (Or.inl ⟨by rfl, ?_⟩) ?_ ?_
            rotate_left
            · intro w'
              go_simp
              with_reducible rfl
            rotate_left
            · simp only [Act.put, List.setIfInBounds_toArray, List.set_cons_zero, List.set_cons_succ, i64_w, i32_w]
              rfl
            refine take_ (i := 7) (N := some 67) (v := ?_) (a' := ?_) #[true, true, true, true, true, true, true, true, false, false, false, false, false] rfl rfl (by kernel_rfl) (fun _ _ _ h => h) (Or.inl ⟨by rfl, ?_⟩) hHeld ?_ ?_
            rotate_left
            · rintro w' ⟨s0, s1⟩
              go_simp
              with_reducible rfl
            rotate_left
            · simp only [Act.put, List.setIfInBounds_toArray, List.set_cons_zero, List.set_cons_succ, i64_w, i32_w]
              rfl
            refine pure_ (i := 8) (N := some 68) (v := ?_) (a' := ?_) #[true, true, true, true, true, true, true, true, true, false, false, false, false] rfl rfl (by kernel_rfl) (fun _ _ _ h => h) (Or.inl ⟨by rfl, ?_⟩) ?_ ?_
            rotate_left
            · intro w'
              go_simp
              with_reducible rfl
            rotate_left
            · simp only [Act.put, List.setIfInBounds_toArray, List.set_cons_zero, List.set_cons_succ, i64_w, i32_w, hz]
              rfl
            refine pure_ (i := 9) (N := some 69) (v := ?_) (a' := ?_) #[true, true, true, true, true, true, true, true, true, true, false, false, false] rfl rfl (by kernel_rfl) (fun _ _ _ h => h) (Or.inl ⟨by rfl, ?_⟩) ?_ ?_
            rotate_left
            · intro w'
              go_simp
              with_reducible rfl
            rotate_left
            · simp only [Act.put, List.setIfInBounds_toArray, List.set_cons_zero, List.set_cons_succ, i64_w, i32_w, hy]
              rfl
            refine last_ (i := 10) (N := some 70) #[true, true, true, true, true, true, true, true, true, true, true, false, false] rfl rfl (by kernel_rfl) (by decide) (fun K hK => ?_)
            refine value_ (w1 := ?_) (v := ?_) (by rfl) rfl ?_ ?_
            rotate_left 2
            · go_simp
              constructor
              · rfl
              · rfl
            refine hK.out _ _ ?_
            clear hK K
            refine norm_ (a' := ?_) ?_ ?_
            rotate_left
            · show Act.put _ (some 70) _ = _
              simp only [Act.put, List.setIfInBounds_toArray, List.set_cons_zero, List.set_cons_succ, i64_w, i32_w]
              rfl
            refine last_ (i := 11) (N := some 71) #[true, true, true, true, true, true, true, true, true, true, true, true, false] rfl rfl (by kernel_rfl) (by decide) (fun K hK => ?_)
            refine Kd.R_append_step (Kd.int .i64) (w0 := w) w.heap.size (by rfl) (.tmp 60) (.tmp 70) 54 3 (.int .i64 0) 8 rfl Try.underlying54 info3 rfl (by decide) (by omega) (.slice A6 acc.length c6) acc y [.int .i64 y] (fun q => q ≠ w1.heap.size) (fun _ => False) rfl rfl ?aP (fun _ hk => hk.elim) ?aF ?aO ?aB ?aS ?aL ?_
            (case aP => exact rfl)
            (case aB => exact HBE.out)
            (case aF => exact (fun q hq => by have := HLE.out; omega))
            (case aO => exact HOE.out)
            (case aS => exact HBE.out.size)
            (case aL => have := HD5.out; omega)
            intro v9 w9 ho hb hg hat
            have HO9 := Aside0.mk ho
            have HB9 := Aside0.mk hb
            have HM9 := Aside0.mk (HME.out.kept hg (fun e => HOE.out.1 _ e.symm rfl))
            have HL9 := Aside0.mk (Nat.lt_of_lt_of_le HLE.out hg.size)
            clear ho hb hg hat
            refine hK.out _ _ ?_
            clear hK K
            refine norm_ (a' := ?_) ?_ ?_
            rotate_left
            · show Act.put _ (some 71) _ = _
              simp only [Act.put, List.setIfInBounds_toArray, List.set_cons_zero, List.set_cons_succ, i64_w, i32_w]
              rfl
            refine pure_ (i := 12) (N := some 6) (v := ?_) (a' := ?_) #[true, true, true, true, true, true, true, true, true, true, true, true, true] rfl rfl (by kernel_rfl) (fun _ _ _ h => h) (Or.inl ⟨by rfl, ?_⟩) ?_ ?_
            rotate_left
            · intro w'
              go_simp
              with_reducible rfl
            rotate_left
            · simp only [Act.put, List.setIfInBounds_toArray, List.set_cons_zero, List.set_cons_succ, i64_w, i32_w]
              rfl
            refine done_ (by kernel_rfl) ?_
            go_wp2
            go_roundg (gk - 1)
            case measure => have := Hk2.out; omega
            case rel => exact ⟨j + 1, _, by go_num, ⟨by have := Hk2.out; omega⟩, HG3, HO9, HM9, HB9, HL9⟩
        · have hj2 : j = l0.length := by have := Hk2.out; omega
          have hg := HG2.out
          rw [List.drop_of_length_le (by omega), missGo] at hg
          obtain ⟨rfl, rfl⟩ : acc = r1 ∧ 0 = r2 := by simpa using hg
          clear hg HG2
          subst hj2
          go_wp2_with fail
          refine bodyPost_ret (v := .tuple #[.slice A6 acc.length c6, .int .i64 0]) (by simp [results, Try.results38, go_sem]) rfl ⟨_, rfl, Kd.R_mono HO.out (fun _ _ => trivial), HB3.out⟩
end Go.Proofs.Ytokijibpdnepiaa.X
end
section
namespace Go.Proofs.Ytokijibpdnepiaa.X
open Go.RowKit Go.Proofs.YtokijibpdnepiaaW.PrintWords Go.Proofs.YtokijibpdnepiaaW.PrintLast Go.Proofs.YtokijibpdnepiaaW.PrintMore
attribute [local go_sem] max2_int min2_int max_two min_two max_three min_three max_four min_four
set_option linter.unusedVariables false
set_option linter.unusedSimpArgs false
open Go.Maps Go.WideMaps
set_option maxRecDepth 100000 in
theorem unitZero (w : World) : (zeroValue 118).run Try.prog w = .ok (.agg #[]) w := by kernel_rfl
def SeenS : List ByteArray → DataW Unit → Prop
  | [], D => D = .map []
  | s :: t, D => s.size ≤ maxLen ∧ ∃ D', SeenS t D' ∧ D = D'.put (.string s.data.toList) (.agg [])
def strHas (seen : List ByteArray) (s : ByteArray) : Bool := seen.any fun x => x.toList == s.toList
theorem seenS_isMap : ∀ (seen : List ByteArray) (D : DataW Unit), SeenS seen D → IsMap D
  | [], D, h => by rw [show D = .map [] from h]; exact ⟨_, rfl⟩
  | s :: t, D, h => by
    obtain ⟨_, D', h1, rfl⟩ := h
    obtain ⟨m, hm⟩ := seenS_isMap t D' h1
    rw [hm, DataW.put_eq]
    exact ⟨_, rfl⟩
theorem has_seenS : ∀ (seen : List ByteArray) (D : DataW Unit) (s : ByteArray), SeenS seen D → s.size ≤ maxLen → Maps.has D (.string s.data.toList) = strHas seen s
  | [], D, s, h, _ => by rw [show D = .map [] from h]; simp [strHas, Maps.has]
  | x :: t, D, s, h, hs => by
    obtain ⟨hx, D', h1, rfl⟩ := h
    have ih := has_seenS t D' s h1 hs
    have et : ∀ a : ByteArray, a.toList = a.data.toList := fun a => ByteArray.toList_eq a
    by_cases e : x.toList = s.toList
    · have e2 : x.data.toList = s.data.toList := by rw [← et, ← et, e]
      rw [← e2, has_put_same (seenS_isMap t D' h1) (strKeyed.key (keyOf_string_mk Try.underlying9 hx))]
      simp [strHas, e]
    · have e2 : (Lit.string s.data.toList) ≠ .string x.data.toList := by
        intro h
        injection h with h
        exact e (by rw [et, et, h])
      rw [has_put_other e2, ih]
      simp [strHas, e]
def awStep (s : Int × Bool) (a : S52) : Int × Bool := if 0 < a.f1 then (if s.2 = true then (if s.1 < a.f2 then (a.f2, true) else s) else (a.f2, true)) else s
def awSeen (l : List ByteArray) (a : S52) : List ByteArray := if 0 < a.f1 then a.f0 :: l else l
def ascOk (p : ByteArray) : List ByteArray → Bool
  | [] => true
  | s :: t => if Op.bytesLess p.toList s.toList = true then ascOk s t else false
def ascAll : List ByteArray → Bool
  | [] => true
  | p :: t => ascOk p t
def wellF (l : List S33) (seen : List ByteArray) (worst : Int × Bool) (slack : Int) (name : ByteArray) : Bool :=
  if strHas seen name = true then true else if (bestOf l name).2 = true then (if worst.2 = true then decide (wrap64 ((bestOf l name).1 - slack) ≤ worst.1) else false) else false
def clsGo (l : List S33) (seen : List ByteArray) (worst : Int × Bool) (slack : Int) : List Int → List ByteArray → List Int → Option (List Int)
  | acc, [], _ => some acc
  | _, _ :: _, [] => none
  | acc, s :: ns, m :: ms => if s.size ≤ maxLen ∧ acc.length < 17592186044416 then clsGo l seen worst slack (acc ++ [if 0 < m then 1 else if wellF l seen worst slack s = true then 3 else 2]) ns ms else none
def clsTail (names : List ByteArray) (mi : List Int) (l : List S33) (awards : List S52) (slack : Int) : Option (List Int × Int) :=
  if ascAll names = false then some ([], 12) else if slack < 0 then some ([], 2) else if 68719476736 < slack then some ([], 2) else if 1024 < awards.length then some ([], 8) else
    if ∀ a ∈ awards, a.f0.size ≤ maxLen then (clsGo l (awards.foldl awSeen []) (awards.foldl awStep (0, false)) slack [] names mi).bind fun o => some (o, 0) else none
def junior_Classes.f (k : Nat) (names : List ByteArray) (must : List Int) (l : List S33) (awards : List S52) (slack : Int) : Option (List Int × Int) :=
  (auction_Check.f k l).bind fun e => if e ≠ 0 then some ([], e) else (auction_Missing.f k names must l).bind fun m => if m.2 ≠ 0 then some ([], m.2) else clsTail names m.1 l awards slack
theorem junior_Classes.mono : ∀ a b c d e k, LeO (junior_Classes.f k a b c d e) (junior_Classes.f (k + 1) a b c d e) := by
  intro a b c d e k
  unfold junior_Classes.f
  exact LeO.bind (auction_Check.mono _ _) (fun e => LeO.ite (LeO.refl _) (LeO.bind (auction_Missing.mono _ _ _ _) (fun m => LeO.ite (LeO.refl _) (LeO.refl _))))
set_option maxHeartbeats 1600000 in
set_option maxRecDepth 100000 in
theorem well_calls (b15 b7 b14 b9 gM n : Nat) (A2 : Option Addr) (c2 : Nat) (l2 : List S33) (x : Int) (s : Bool) (slack : Int) (seen : List ByteArray) (D : DataW Unit) (name : ByteArray) (w : World) (h15 : w.heap[b15]? = some (.cells #[.map (some gM)] 115 (0, 0))) (h7 : w.heap[b7]? = some (.cells #[.slice A2 l2.length c2] 22 (0, 0))) (h14 : w.heap[b14]? = some (.cells #[.int .i64 x, .bool s] 114 (0, 0))) (h9 : w.heap[b9]? = some (.cells #[.int .i64 slack] 3 (0, 0))) (hM : w.ownsMap Try.prog 9 unitElem gM n D) (hS : SeenS seen D) (hC : Kd.C k33 w A2 l2.length l2) (hc2 : l2.length ≤ c2) (hsz : name.size ≤ maxLen) :
    Calls Try.prog 67 #[.string name, .pointer (some ⟨b15, 0, none⟩), .pointer (some ⟨b7, 0, none⟩), .pointer (some ⟨b14, 0, none⟩), .pointer (some ⟨b9, 0, none⟩)] w fun e w' => e = .returned (.bool (wellF l2 seen (x, s) slack name)) ∧ Below w.heap.size w w' := by
  have hx15 := blk_one h15
  have hx7 := blk_one h7
  have H7 := Aside0.mk h7
  have H9 := Aside0.mk h9
  have H14 := Aside0.mk h14
  have HM := Aside0.mk hM
  have HC := Aside0.mk hC
  have HKY := Aside0.mk (keyOf_string_mk Try.underlying9 hsz)
  have HHS := Aside0.mk (has_seenS seen D name hS hsz)
  have hx7b : ∀ o, (w.alloc o).cell? ⟨b7, 0, none⟩ = some (.slice A2 l2.length c2) := fun o => blk_one (blk_alloc h7 o)
  clear h15 h7 h14 h9 hM hS hC hsz
  obtain ⟨r, hr⟩ : ∃ r, wellF l2 seen (x, s) slack name = r := ⟨_, rfl⟩
  rw [hr]
  unfold wellF at hr
  cases hh : strHas seen name with
  | true =>
    rw [hh, if_pos rfl] at hr
    subst hr
    have HH := Aside0.mk hh
    clear hh
    go_enter Try.func67, Try.ntmps67
    go_wp2_with (at_lookup; refine wpList_lookup_own_unit _ rfl _ _ 115 rfl 9 118 strKeyed Try.underlying115 (unitZero _) gM n _ rfl HM.out _ _ rfl HKY.out ?_; rw [HHS.out, HH.out])
    exact bodyPost_ret (v := .bool true) (by simp [results, Try.results67, go_sem]) rfl ⟨rfl, below_alloc (Below.refl _ _) _⟩
  | false =>
    rw [hh, if_neg (by decide)] at hr
    have HH := Aside0.mk hh
    obtain ⟨b1, b2, hb⟩ : ∃ b1 b2, bestOf l2 name = (b1, b2) := ⟨_, _, rfl⟩
    rw [hb] at hr
    have HBT := Aside0.mk (show junior_Best.f l2 name = some (b1, b2) by unfold junior_Best.f; rw [hb])
    clear hh hb
    have hy14 : ∀ W, Below (w.heap.size + 1) (w.alloc (.cells #[] 118 (0, 0))) W → W.cell? ⟨b14, 1, none⟩ = some (.bool s) ∧ W.cell? ⟨b14, 0, none⟩ = some (.int .i64 x) ∧ W.cell? ⟨b9, 0, none⟩ = some (.int .i64 slack) := by
      intro W hW
      have q14 := blk_below (blk_alloc H14.out (.cells #[] 118 (0, 0))) (by simpa using hW)
      have q9 := blk_below (blk_alloc H9.out (.cells #[] 118 (0, 0))) (by simpa using hW)
      exact ⟨blk_cell q14 1, blk_cell q14 0, blk_one q9⟩
    have HY := Aside0.mk hy14
    clear hy14
    cases b2 with
    | false =>
      rw [if_neg (by simp)] at hr
      subst hr
      go_enter Try.func67, Try.ntmps67
      go_wp2_with (first
        | (at_lookup; refine wpList_lookup_own_unit _ rfl _ _ 115 rfl 9 118 strKeyed Try.underlying115 (unitZero _) gM n _ rfl HM.out _ _ rfl HKY.out ?_; rw [HHS.out, HH.out])
        | (go_at_call 32; refine (junior_Best.calls A2 c2 l2 name _ _ _ (Kd.C_alloc HC.out _) hc2 HBT.out).mono ?_; rintro e w1 ⟨rfl, hb1⟩; obtain ⟨y1, y2, y3⟩ := HY.out w1 (by simpa using hb1); have HB1 := Aside0.mk hb1; clear hb1))
      exact bodyPost_ret (v := .bool false) (by simp [results, Try.results67, go_sem]) rfl ⟨rfl, (below_alloc (Below.refl _ _) _).trans (HB1.out.mono (by simp))⟩
    | true =>
      rw [if_pos rfl] at hr
      cases s with
      | false =>
        rw [if_neg (by simp)] at hr
        subst hr
        go_enter Try.func67, Try.ntmps67
        go_wp2_with (first
          | (at_lookup; refine wpList_lookup_own_unit _ rfl _ _ 115 rfl 9 118 strKeyed Try.underlying115 (unitZero _) gM n _ rfl HM.out _ _ rfl HKY.out ?_; rw [HHS.out, HH.out])
          | (go_at_call 32; refine (junior_Best.calls A2 c2 l2 name _ _ _ (Kd.C_alloc HC.out _) hc2 HBT.out).mono ?_; rintro e w1 ⟨rfl, hb1⟩; obtain ⟨y1, y2, y3⟩ := HY.out w1 (by simpa using hb1); have HB1 := Aside0.mk hb1; clear hb1))
        exact bodyPost_ret (v := .bool false) (by simp [results, Try.results67, go_sem]) rfl ⟨rfl, (below_alloc (Below.refl _ _) _).trans (HB1.out.mono (by simp))⟩
      | true =>
        rw [if_pos rfl] at hr
        subst hr
        go_enter Try.func67, Try.ntmps67
        go_wp2_with (first
          | (at_lookup; refine wpList_lookup_own_unit _ rfl _ _ 115 rfl 9 118 strKeyed Try.underlying115 (unitZero _) gM n _ rfl HM.out _ _ rfl HKY.out ?_; rw [HHS.out, HH.out])
          | (go_at_call 32; refine (junior_Best.calls A2 c2 l2 name _ _ _ (Kd.C_alloc HC.out _) hc2 HBT.out).mono ?_; rintro e w1 ⟨rfl, hb1⟩; obtain ⟨y1, y2, y3⟩ := HY.out w1 (by simpa using hb1); have HB1 := Aside0.mk hb1; clear hb1))
        exact bodyPost_ret (v := .bool (decide (wrap64 (b1 - slack) ≤ x))) (by simp [results, Try.results67, go_sem]) rfl ⟨rfl, (below_alloc (Below.refl _ _) _).trans (HB1.out.mono (by simp))⟩
theorem blk_far2 {w : World} {g b : Nat} {t : TypeId} {cs : Array Value} (h : w.heap[g]? = some (.cells cs t (0, 0))) (hne : g ≠ b) (i j : Nat) (u v : Value) : ((w.setCell ⟨b, i, none⟩ u).setCell ⟨b, j, none⟩ v).heap[g]? = some (.cells cs t (0, 0)) := blk_far (blk_far h (p := ⟨b, i, none⟩) hne u) (p := ⟨b, j, none⟩) hne v
theorem own_set2 {w : World} {g b n : Nat} {D : DataW Unit} (h : w.ownsMap Try.prog 9 unitElem g n D) (hne : g ≠ b) (i j : Nat) (u v : Value) : ((w.setCell ⟨b, i, none⟩ u).setCell ⟨b, j, none⟩ v).ownsMap Try.prog 9 unitElem g n D := (h.setCell (a := ⟨b, i, none⟩) hne u).setCell (a := ⟨b, j, none⟩) hne v
theorem w64n' {j N : Nat} (h : j < N) (hN : N ≤ 9223372036854775807) : Go.RowKit.wrap64 (j : Int) = (j : Int) := by unfold Go.RowKit.wrap64; omega
theorem own_below {b n : Nat} {D : DataW Unit} {w w' : World} (h : w.ownsMap Try.prog 9 unitElem b n D) (hb : Below w.heap.size w w') : w'.ownsMap Try.prog 9 unitElem b n D := by
  obtain ⟨es, clock, h1, h2⟩ := h
  exact ⟨es, clock, blk_below h1 hb, h2⟩
set_option maxHeartbeats 4000000 in
set_option maxRecDepth 100000 in
theorem junior_Classes.calls (k : Nat) (A0 : Option Addr) (c0 : Nat) (l0 : List ByteArray) (A1 : Option Addr) (c1 : Nat) (l1 : List Int) (A2 : Option Addr) (c2 : Nat) (l2 : List S33) (A3 : Option Addr) (c3 : Nat) (l3 : List S52) (a4 : Int) (r1 : List Int) (r2 : Int) (w : World) (hr0 : Kd.C Kd.string w A0 l0.length l0) (hc0 : l0.length ≤ c0) (hr1 : Kd.C (Kd.int .i64) w A1 l1.length l1) (hc1 : l1.length ≤ c1) (hr2 : Kd.C k33 w A2 l2.length l2) (hc2 : l2.length ≤ c2) (hr3 : Kd.C k52 w A3 l3.length l3) (hc3 : l3.length ≤ c3) (h0 : junior_Classes.f k l0 l1 l2 l3 a4 = some (r1, r2)) :
    Calls Try.prog 30 #[.slice A0 l0.length c0, .slice A1 l1.length c1, .slice A2 l2.length c2, .slice A3 l3.length c3, .int .i64 a4] w fun e w' => ∃ v0_ : Value, e = .returned (.tuple #[v0_, .int .i64 r2]) ∧ Kd.R (Kd.int .i64) 3 w' w.heap.size (fun _ => True) v0_ r1 ∧ Below w.heap.size w w' := by
  unfold junior_Classes.f at h0
  obtain ⟨e, he, h⟩ := Option.bind_eq_some_iff.1 h0
  clear h0
  have HR0 := Aside0.mk hr0
  have HR1 := Aside0.mk hr1
  have HR2 := Aside0.mk hr2
  have HR3 := Aside0.mk hr3
  have HE := Aside0.mk he
  have hmm := @run_makeMap Try.prog
  have hlen0 := (show l0.length ≤ 9223372036854775807 from Kd.C_max hr0)
  have hlen3 := (show l3.length ≤ 9223372036854775807 from Kd.C_max hr3)
  have hU2 := fun o1 o2 => Aside0.mk (Kd.C_alloc (Kd.C_alloc hr2 o1) o2)
  have HWB : ∀ w1, Below (w.heap.size + 1 + 1) ((w.alloc (.cells #[.slice A2 l2.length c2] 22 (0, 0))).alloc (.cells #[.int .i64 a4] 3 (0, 0))) w1 → Below w.heap.size w w1 ∧ w1.heap[w.heap.size]? = some (.cells #[.slice A2 l2.length c2] 22 (0, 0)) ∧ w1.heap[w.heap.size + 1]? = some (.cells #[.int .i64 a4] 3 (0, 0)) := by
    intro w1 hb
    refine ⟨(below_alloc (below_alloc (Below.refl _ _) _) _).trans (hb.mono (by omega)), ?_, ?_⟩
    · exact blk_below (blk_alloc (blk_new w _) _) (by simpa using hb)
    · have this := blk_new (w.alloc (.cells #[.slice A2 l2.length c2] 22 (0, 0))) (.cells #[.int .i64 a4] 3 (0, 0))
      rw [show (w.alloc (.cells #[.slice A2 l2.length c2] 22 (0, 0))).heap.size = w.heap.size + 1 by simp] at this
      exact blk_below this (by simpa using hb)
  replace HWB := Aside0.mk HWB
  clear hr0 hr1 hr2 hr3 he
  by_cases e0 : e ≠ 0
  · rw [if_pos e0] at h
    obtain ⟨rfl, rfl⟩ : [] = r1 ∧ e = r2 := by simpa using h
    have hne : (e != 0) = true := by simpa using e0
    clear h e0
    go_enter Try.func30, Try.ntmps30
    go_wp2_with (go_at_call 18; refine (auction_Check.calls k A2 c2 l2 e _ (hU2 _ _).out hc2 HE.out).mono ?_; rintro e w1 ⟨rfl, hb1⟩)
    refine bodyPost_ret (v := .tuple #[.slice none 0 0, .int .i64 e]) (by simp [results, Try.results30, go_sem]) rfl ⟨_, rfl, Kd.R_nil _ _ _ _ _, (HWB.out w1 (by simpa using hb1)).1⟩
  rw [if_neg e0] at h
  obtain rfl : e = 0 := Decidable.not_not.1 e0
  obtain ⟨⟨mi, me⟩, hmi, h⟩ := Option.bind_eq_some_iff.1 h
  have HMI := Aside0.mk hmi
  clear e0 hmi
  dsimp only at h
  have hC1 := fun (w1 : World) (hb1 : Below (w.heap.size + 1 + 1) ((w.alloc (.cells #[.slice A2 l2.length c2] 22 (0, 0))).alloc (.cells #[.int .i64 a4] 3 (0, 0))) w1) => (show Kd.C Kd.string w1 A0 l0.length l0 ∧ Kd.C (Kd.int .i64) w1 A1 l1.length l1 ∧ Kd.C k33 w1 A2 l2.length l2 ∧ Kd.C k52 w1 A3 l3.length l3 from
    have hb := (HWB.out w1 hb1).1
    ⟨Kd.C_below HR0.out hb, Kd.C_below HR1.out hb, Kd.C_below HR2.out hb, Kd.C_below HR3.out hb⟩)
  have HC1 := Aside0.mk hC1
  clear hC1
  by_cases e1 : me ≠ 0
  · rw [if_pos e1] at h
    obtain ⟨rfl, rfl⟩ : [] = r1 ∧ me = r2 := by simpa using h
    have hne : (me != 0) = true := by simpa using e1
    clear h e1
    go_enter Try.func30, Try.ntmps30
    go_wp2_with (first
      | (go_at_call 18; refine (auction_Check.calls k A2 c2 l2 0 _ (hU2 _ _).out hc2 HE.out).mono ?_; rintro e w1 ⟨rfl, hb1⟩; have HB1 := Aside0.mk (show Below (w.heap.size + 1 + 1) _ w1 by simpa using hb1); have hx7 := blk_one (HWB.out w1 HB1.out).2.1; clear hb1)
      | (go_at_call 38; refine (auction_Missing.calls k A0 c0 l0 A1 c1 l1 A2 c2 l2 _ _ _ (HC1.out _ HB1.out).1 hc0 (HC1.out _ HB1.out).2.1 hc1 (HC1.out _ HB1.out).2.2.1 hc2 HMI.out).mono ?_; rintro e w2 ⟨v0, rfl, hv0, hb2⟩; have HB2 := Aside0.mk hb2; have HV0 := Aside0.mk hv0; clear hb2 hv0))
    refine bodyPost_ret (v := .tuple #[.slice none 0 0, .int .i64 me]) (by simp [results, Try.results30, go_sem]) rfl ⟨_, rfl, Kd.R_nil _ _ _ _ _, (HWB.out w1 HB1.out).1.trans (HB2.out.mono (HWB.out w1 HB1.out).1.size)⟩
  rw [if_neg e1] at h
  obtain rfl : me = 0 := Decidable.not_not.1 e1
  have HT := Aside0.mk h
  clear h e1
  go_enter Try.func30, Try.ntmps30
  go_wp2_with (first
    | (go_at_call 18; refine (auction_Check.calls k A2 c2 l2 0 _ (hU2 _ _).out hc2 HE.out).mono ?_; rintro e w1 ⟨rfl, hb1⟩; have HB1 := Aside0.mk (show Below (w.heap.size + 1 + 1) _ w1 by simpa using hb1); have hx7 := blk_one (HWB.out w1 HB1.out).2.1; clear hb1)
    | (go_at_call 38; refine (auction_Missing.calls k A0 c0 l0 A1 c1 l1 A2 c2 l2 _ _ _ (HC1.out _ HB1.out).1 hc0 (HC1.out _ HB1.out).2.1 hc1 (HC1.out _ HB1.out).2.2.1 hc2 HMI.out).mono ?_; rintro e w2 ⟨v0, rfl, hv0, hb2⟩; obtain ⟨A5, c5, rfl⟩ := Kd.R_slice hv0; have HB2 := Aside0.mk hb2; have HV0 := Aside0.mk hv0; clear hb2 hv0 hx7))
  have HBW := Aside0.mk (show Below w.heap.size w w2 from (HWB.out w1 HB1.out).1.trans (HB2.out.mono (HWB.out w1 HB1.out).1.size))
  have HCW := Aside0.mk (fun (wr : World) (hb : Below w2.heap.size w2 wr) => (show Kd.C Kd.string wr A0 l0.length l0 ∧ Kd.C (Kd.int .i64) wr A5 mi.length mi ∧ Kd.C k33 wr A2 l2.length l2 ∧ Kd.C k52 wr A3 l3.length l3 ∧ wr.heap[w.heap.size]? = some (.cells #[.slice A2 l2.length c2] 22 (0, 0)) ∧ wr.heap[w.heap.size + 1]? = some (.cells #[.int .i64 a4] 3 (0, 0)) from
    ⟨Kd.C_below (Kd.C_below HR0.out HBW.out) hb, Kd.C_below (Kd.R_reads' HV0.out).2.2 hb, Kd.C_below (Kd.C_below HR2.out HBW.out) hb, Kd.C_below (Kd.C_below HR3.out HBW.out) hb, blk_below (blk_below (HWB.out w1 HB1.out).2.1 HB2.out) hb, blk_below (blk_below (HWB.out w1 HB1.out).2.2 HB2.out) hb⟩))
  obtain ⟨AS, hAS⟩ : ∃ AS, ascAll l0 = AS := ⟨_, rfl⟩
  have HAS := Aside0.mk hAS
  clear hU2 hAS
  go_loopg [10, 13] l0.length (fun kq v10 v13 wr => ∃ (i j : Nat), v10 = .slice none 0 0 ∧ v13 = .int .i64 (i : Int) ∧ Aside0 (i = j + 1 ∧ l0.length ≤ j + kq) ∧ Aside0 (ascAll (l0.drop j) = AS) ∧ Aside0 (Below w2.heap.size w2 wr))
  case atStart => exact ⟨1, 0, rfl, rfl, ⟨rfl, by omega⟩, HAS, ⟨Below.refl _ _⟩⟩
  case round => as_aux_lemma =>
    obtain ⟨i, j, rfl, rfl, HIJ, HASC, HB⟩ := hrel
    obtain ⟨i1, i2⟩ := HIJ.out
    by_cases hi : i < l0.length
    · have hj : j < l0.length := by omega
      have hasc := HASC.out
      have hjd : l0.drop (j + 1) = l0[i] :: l0.drop (j + 1 + 1) := by rw [← List.getElem_cons_drop (show j + 1 < l0.length by omega)]; simp [i1]
      rw [(List.getElem_cons_drop hj).symm, hjd] at hasc
      simp only [ascAll, ascOk] at hasc
      obtain ⟨ad5, e5, hx5⟩ := Kd.at_string (HCW.out _ HB.out).1 (i : Int) (by omega) (by omega)
      obtain ⟨ad6, e6, hx6⟩ := Kd.at_string (HCW.out _ HB.out).1 (j : Int) (by omega) (by omega)
      obtain rfl : ad5 = ad6 := by rw [e5] at e6; exact Option.some.inj e6
      have r5 : rdOf ByteArray.empty l0 (i : Int) = l0[i] := by simp [rdOf, hi]
      have r6 : rdOf ByteArray.empty l0 (j : Int) = l0[j] := by simp [rdOf, hj]
      rw [r5, Int.toNat_natCast] at hx5
      rw [r6, Int.toNat_natCast] at hx6
      have hasc2 : ascAll (l0.drop (j + 1)) = ascOk l0[i] (l0.drop (j + 1 + 1)) := by rw [hjd]; rfl
      have hb0 := eq_true (show 0 ≤ (i : Int) by omega)
      have hb1 := eq_true (show (i : Int) < (l0.length : Int) by omega)
      have hb2 := eq_true (show 0 ≤ (j : Int) by omega)
      have hb3 := eq_true (show (j : Int) < (l0.length : Int) by omega)
      have hjm : ((i : Int) - 1) = (j : Int) := by omega
      have hw3 : Go.RowKit.wrap64 (j : Int) = (j : Int) := w64n' hj (by omega)
      have hw : Go.RowKit.wrap64 ((i : Int) - 1) = (j : Int) := by rw [hjm]; exact hw3
      cases e5
      clear i1 i2
      generalize l0[i] = s5 at hx5 hasc hasc2
      generalize l0[j] = s6 at hx6 hasc
      cases hlt : Op.bytesLess s6.toList s5.toList with
      | false =>
        rw [hlt, if_neg (by decide)] at hasc
        have ht := HT.out
        unfold clsTail at ht
        rw [HAS.out, if_pos hasc.symm] at ht
        obtain ⟨rfl, rfl⟩ : [] = r1 ∧ 12 = r2 := by simpa using ht
        clear ht hasc hasc2 hjd r5 r6
        go_wp2_with fail
        refine start_ (n := 10) (S := fun w' => w'.cell? (ad5.add i) = some (.string s5) ∧ w'.cell? (ad5.add j) = some (.string s6)) (ds := []) #[false, false, false, false, false, false, false, false, false, false] (by kernel_rfl) rfl rfl ⟨hx5, hx6⟩ (fun hHeld => ?_)
        refine pure_ (i := 0) (N := some 42) (v := ?_) (a' := ?_) #[true, false, false, false, false, false, false, false, false, false] rfl rfl (by kernel_rfl) (fun _ _ _ h => h) (Or.inl ⟨by rfl, ?_⟩) ?_ ?_
        rotate_left
        · intro w'
          go_simp
          with_reducible rfl
        rotate_left
        · simp only [Act.put, List.setIfInBounds_toArray, List.set_cons_zero, List.set_cons_succ, i64_w, i32_w]
          rfl
        refine pure_ (i := 1) (N := some 43) (v := ?_) (a' := ?_) #[true, true, false, false, false, false, false, false, false, false] rfl rfl (by kernel_rfl) (fun _ _ _ h => h) (Or.inl ⟨by rfl, ?_⟩) ?_ ?_
        rotate_left
        · intro w'
          go_simp
          with_reducible rfl
        rotate_left
        · simp only [Act.put, List.setIfInBounds_toArray, List.set_cons_zero, List.set_cons_succ, i64_w, i32_w]
          rfl
        refine pure_ (i := 2) (N := some 44) (v := ?_) (a' := ?_) #[true, true, true, false, false, false, false, false, false, false] rfl rfl (by kernel_rfl) (fun _ _ _ h => h) (Or.inl ⟨by rfl, ?_⟩) ?_ ?_
        rotate_left
        · intro w'
          go_simp
          with_reducible rfl
        rotate_left
        · simp only [Act.put, List.setIfInBounds_toArray, List.set_cons_zero, List.set_cons_succ, i64_w, i32_w]
          rfl
        refine take_ (i := 3) (N := some 45) (v := ?_) (a' := ?_) #[true, true, true, true, false, false, false, false, false, false] rfl rfl (by kernel_rfl) (fun _ _ _ h => h) (Or.inl ⟨by rfl, ?_⟩) hHeld ?_ ?_
        rotate_left
        · rintro w' ⟨s0, s1⟩
          go_simp
          with_reducible rfl
        rotate_left
        · simp only [Act.put, List.setIfInBounds_toArray, List.set_cons_zero, List.set_cons_succ, i64_w, i32_w]
          rfl
        refine pure_ (i := 4) (N := some 46) (v := ?_) (a' := ?_) #[true, true, true, true, true, false, false, false, false, false] rfl rfl (by kernel_rfl) (fun _ _ _ h => h) (Or.inl ⟨by rfl, ?_⟩) ?_ ?_
        rotate_left
        · intro w'
          go_simp
          with_reducible rfl
        rotate_left
        · simp only [Act.put, List.setIfInBounds_toArray, List.set_cons_zero, List.set_cons_succ, i64_w, i32_w]
          rfl
        refine pure_ (i := 5) (N := some 47) (v := ?_) (a' := ?_) #[true, true, true, true, true, true, false, false, false, false] rfl rfl (by kernel_rfl) (fun _ _ _ h => h) (Or.inl ⟨by rfl, ?_⟩) ?_ ?_
        rotate_left
        · intro w'
          go_simp
          with_reducible rfl
        rotate_left
        · simp only [Act.put, List.setIfInBounds_toArray, List.set_cons_zero, List.set_cons_succ, i64_w, i32_w]
          rfl
        refine pure_ (i := 6) (N := some 48) (v := ?_) (a' := ?_) #[true, true, true, true, true, true, true, false, false, false] rfl rfl (by kernel_rfl) (fun _ _ _ h => h) (Or.inl ⟨by rfl, ?_⟩) ?_ ?_
        rotate_left
        · intro w'
          go_simp
          with_reducible rfl
        rotate_left
        · simp only [Act.put, List.setIfInBounds_toArray, List.set_cons_zero, List.set_cons_succ, i64_w, i32_w]
          rfl
        refine pure_ (i := 7) (N := some 49) (v := ?_) (a' := ?_) #[true, true, true, true, true, true, true, true, false, false] rfl rfl (by kernel_rfl) (fun _ _ _ h => h) (Or.inl ⟨by rfl, ?_⟩) ?_ ?_
        rotate_left
        · intro w'
          go_simp
          with_reducible rfl
        rotate_left
        · simp only [Act.put, List.setIfInBounds_toArray, List.set_cons_zero, List.set_cons_succ, i64_w, i32_w]
          rfl
        refine take_ (i := 8) (N := some 50) (v := ?_) (a' := ?_) #[true, true, true, true, true, true, true, true, true, false] rfl rfl (by kernel_rfl) (fun _ _ _ h => h) (Or.inl ⟨by rfl, ?_⟩) hHeld ?_ ?_
        rotate_left
        · rintro w' ⟨s0, s1⟩
          go_simp
          with_reducible rfl
        rotate_left
        · simp only [Act.put, List.setIfInBounds_toArray, List.set_cons_zero, List.set_cons_succ, i64_w, i32_w]
          rfl
        refine pure_ (i := 9) (N := some 51) (v := ?_) (a' := ?_) #[true, true, true, true, true, true, true, true, true, true] rfl rfl (by kernel_rfl) (fun _ _ _ h => h) (Or.inl ⟨by rfl, ?_⟩) ?_ ?_
        rotate_left
        · intro w'
          go_simp
          with_reducible rfl
        rotate_left
        · simp only [Act.put, List.setIfInBounds_toArray, List.set_cons_zero, List.set_cons_succ, i64_w, i32_w]
          rfl
        refine done_ (by kernel_rfl) ?_
        clear hHeld hx5 hx6 hw hw3
        go_wp2
        refine bodyPost_ret (v := .tuple #[.slice none 0 0, .int .i64 12]) (by simp [results, Try.results30, go_sem]) rfl ⟨_, rfl, Kd.R_nil _ _ _ _ _, HBW.out.trans ((below_drew1 HB.out).mono HBW.out.size)⟩
      | true =>
        rw [hlt, if_pos rfl] at hasc
        have HAS2 := Aside0.mk (hasc2.trans hasc)
        clear hasc hasc2 hjd r5 r6
        go_wp2_with fail
        refine start_ (n := 10) (S := fun w' => w'.cell? (ad5.add i) = some (.string s5) ∧ w'.cell? (ad5.add j) = some (.string s6)) (ds := []) #[false, false, false, false, false, false, false, false, false, false] (by kernel_rfl) rfl rfl ⟨hx5, hx6⟩ (fun hHeld => ?_)
        refine pure_ (i := 0) (N := some 42) (v := ?_) (a' := ?_) #[true, false, false, false, false, false, false, false, false, false] rfl rfl (by kernel_rfl) (fun _ _ _ h => h) (Or.inl ⟨by rfl, ?_⟩) ?_ ?_
        rotate_left
        · intro w'
          go_simp
          with_reducible rfl
        rotate_left
        · simp only [Act.put, List.setIfInBounds_toArray, List.set_cons_zero, List.set_cons_succ, i64_w, i32_w]
          rfl
        refine pure_ (i := 1) (N := some 43) (v := ?_) (a' := ?_) #[true, true, false, false, false, false, false, false, false, false] rfl rfl (by kernel_rfl) (fun _ _ _ h => h) (Or.inl ⟨by rfl, ?_⟩) ?_ ?_
        rotate_left
        · intro w'
          go_simp
          with_reducible rfl
        rotate_left
        · simp only [Act.put, List.setIfInBounds_toArray, List.set_cons_zero, List.set_cons_succ, i64_w, i32_w]
          rfl
        refine pure_ (i := 2) (N := some 44) (v := ?_) (a' := ?_) #[true, true, true, false, false, false, false, false, false, false] rfl rfl (by kernel_rfl) (fun _ _ _ h => h) (Or.inl ⟨by rfl, ?_⟩) ?_ ?_
        rotate_left
        · intro w'
          go_simp
          with_reducible rfl
        rotate_left
        · simp only [Act.put, List.setIfInBounds_toArray, List.set_cons_zero, List.set_cons_succ, i64_w, i32_w]
          rfl
        refine take_ (i := 3) (N := some 45) (v := ?_) (a' := ?_) #[true, true, true, true, false, false, false, false, false, false] rfl rfl (by kernel_rfl) (fun _ _ _ h => h) (Or.inl ⟨by rfl, ?_⟩) hHeld ?_ ?_
        rotate_left
        · rintro w' ⟨s0, s1⟩
          go_simp
          with_reducible rfl
        rotate_left
        · simp only [Act.put, List.setIfInBounds_toArray, List.set_cons_zero, List.set_cons_succ, i64_w, i32_w]
          rfl
        refine pure_ (i := 4) (N := some 46) (v := ?_) (a' := ?_) #[true, true, true, true, true, false, false, false, false, false] rfl rfl (by kernel_rfl) (fun _ _ _ h => h) (Or.inl ⟨by rfl, ?_⟩) ?_ ?_
        rotate_left
        · intro w'
          go_simp
          with_reducible rfl
        rotate_left
        · simp only [Act.put, List.setIfInBounds_toArray, List.set_cons_zero, List.set_cons_succ, i64_w, i32_w]
          rfl
        refine pure_ (i := 5) (N := some 47) (v := ?_) (a' := ?_) #[true, true, true, true, true, true, false, false, false, false] rfl rfl (by kernel_rfl) (fun _ _ _ h => h) (Or.inl ⟨by rfl, ?_⟩) ?_ ?_
        rotate_left
        · intro w'
          go_simp
          with_reducible rfl
        rotate_left
        · simp only [Act.put, List.setIfInBounds_toArray, List.set_cons_zero, List.set_cons_succ, i64_w, i32_w]
          rfl
        refine pure_ (i := 6) (N := some 48) (v := ?_) (a' := ?_) #[true, true, true, true, true, true, true, false, false, false] rfl rfl (by kernel_rfl) (fun _ _ _ h => h) (Or.inl ⟨by rfl, ?_⟩) ?_ ?_
        rotate_left
        · intro w'
          go_simp
          with_reducible rfl
        rotate_left
        · simp only [Act.put, List.setIfInBounds_toArray, List.set_cons_zero, List.set_cons_succ, i64_w, i32_w]
          rfl
        refine pure_ (i := 7) (N := some 49) (v := ?_) (a' := ?_) #[true, true, true, true, true, true, true, true, false, false] rfl rfl (by kernel_rfl) (fun _ _ _ h => h) (Or.inl ⟨by rfl, ?_⟩) ?_ ?_
        rotate_left
        · intro w'
          go_simp
          with_reducible rfl
        rotate_left
        · simp only [Act.put, List.setIfInBounds_toArray, List.set_cons_zero, List.set_cons_succ, i64_w, i32_w]
          rfl
        refine take_ (i := 8) (N := some 50) (v := ?_) (a' := ?_) #[true, true, true, true, true, true, true, true, true, false] rfl rfl (by kernel_rfl) (fun _ _ _ h => h) (Or.inl ⟨by rfl, ?_⟩) hHeld ?_ ?_
        rotate_left
        · rintro w' ⟨s0, s1⟩
          go_simp
          with_reducible rfl
        rotate_left
        · simp only [Act.put, List.setIfInBounds_toArray, List.set_cons_zero, List.set_cons_succ, i64_w, i32_w]
          rfl
        refine pure_ (i := 9) (N := some 51) (v := ?_) (a' := ?_) #[true, true, true, true, true, true, true, true, true, true] rfl rfl (by kernel_rfl) (fun _ _ _ h => h) (Or.inl ⟨by rfl, ?_⟩) ?_ ?_
        rotate_left
        · intro w'
          go_simp
          with_reducible rfl
        rotate_left
        · simp only [Act.put, List.setIfInBounds_toArray, List.set_cons_zero, List.set_cons_succ, i64_w, i32_w]
          rfl
        refine done_ (by kernel_rfl) ?_
        clear hHeld hx5 hx6 hw hw3
        go_wp2
        go_roundg (gk - 1)
        case measure => have := HIJ.out; omega
        case rel => exact ⟨i + 1, i, rfl, by go_num, ⟨rfl, by have := HIJ.out; omega⟩, by rw [HIJ.out.1]; exact HAS2, ⟨by repeat (first | (with_reducible first | exact HB.out | apply below_alloc | apply pw_below_drewN | apply below_drew1) | exact HB.out)⟩⟩
    · have hasc := HASC.out
      have hone : ascAll (l0.drop j) = true := by
        by_cases hj : j < l0.length
        · rw [(List.getElem_cons_drop hj).symm, List.drop_of_length_le (by omega)]; rfl
        · rw [List.drop_of_length_le (by omega)]; rfl
      rw [hone] at hasc
      have ht := HT.out
      unfold clsTail at ht
      rw [HAS.out, ← hasc, if_neg (by decide)] at ht
      have hx9 := blk_one (HCW.out _ HB.out).2.2.2.2.2
      clear hasc hone HASC i1 i2
      by_cases s1 : a4 < 0
      · rw [if_pos s1] at ht
        obtain ⟨rfl, rfl⟩ : [] = r1 ∧ 2 = r2 := by simpa using ht
        replace s1 := decide_eq_true s1
        clear ht
        go_wp2_with fail
        refine bodyPost_ret (v := .tuple #[.slice none 0 0, .int .i64 2]) (by simp [results, Try.results30, go_sem]) rfl ⟨_, rfl, Kd.R_nil _ _ _ _ _, HBW.out.trans (HB.out.mono HBW.out.size)⟩
      rw [if_neg s1] at ht
      replace s1 := decide_eq_false s1
      by_cases s2 : 68719476736 < a4
      · rw [if_pos s2] at ht
        obtain ⟨rfl, rfl⟩ : [] = r1 ∧ 2 = r2 := by simpa using ht
        replace s2 := decide_eq_true s2
        clear ht
        go_wp2_with fail
        refine bodyPost_ret (v := .tuple #[.slice none 0 0, .int .i64 2]) (by simp [results, Try.results30, go_sem]) rfl ⟨_, rfl, Kd.R_nil _ _ _ _ _, HBW.out.trans (HB.out.mono HBW.out.size)⟩
      rw [if_neg s2] at ht
      replace s2 := decide_eq_false s2
      by_cases s3 : 1024 < l3.length
      · rw [if_pos s3] at ht
        obtain ⟨rfl, rfl⟩ : [] = r1 ∧ 8 = r2 := by simpa using ht
        have s4 := decide_eq_true (show (1024 : Int) < (l3.length : Int) by omega)
        clear ht
        go_wp2_with fail
        refine bodyPost_ret (v := .tuple #[.slice none 0 0, .int .i64 8]) (by simp [results, Try.results30, go_sem]) rfl ⟨_, rfl, Kd.R_nil _ _ _ _ _, HBW.out.trans (HB.out.mono HBW.out.size)⟩
      rw [if_neg s3] at ht
      have s4 := decide_eq_false (show ¬ (1024 : Int) < (l3.length : Int) by omega)
      by_cases s5 : ∀ a ∈ l3, a.f0.size ≤ maxLen
      case neg => rw [if_neg s5] at ht; cases ht
      rw [if_pos s5] at ht
      obtain ⟨o, ho, ho2⟩ := Option.bind_eq_some_iff.1 ht
      obtain ⟨rfl, rfl⟩ : o = r1 ∧ 0 = r2 := by simpa using ho2
      have HSZS := Aside0.mk s5
      obtain ⟨SEEN, hseen⟩ : ∃ SEEN, l3.foldl awSeen [] = SEEN := ⟨_, rfl⟩
      obtain ⟨WX, WS, hworst⟩ : ∃ WX WS, l3.foldl awStep (0, false) = (WX, WS) := ⟨_, _, rfl⟩
      rw [hseen, hworst] at ho
      have HSEEN := Aside0.mk hseen
      have HWORST := Aside0.mk hworst
      have HGO := Aside0.mk ho
      have HL3 := Aside0.mk (show l3.length ≤ 1024 by omega)
      clear ht ho ho2 hseen hworst s5 s3
      clear HE HMI HR0 HR1 HR2 HR3 HC1 h
      go_wp2_with fail
      obtain ⟨wa, hwa⟩ : ∃ wa, wa = wr := ⟨_, rfl⟩
      subst hwa
      have HCA := Aside0.mk (HCW.out _ HB.out)
      have HBA := Aside0.mk HB.out
      clear HB HCW
      go_loopg [66] l3.length (fun kq v66 wb => ∃ (i : Nat) (x : Int) (s : Bool) (seen : List ByteArray) (D : DataW Unit) (j : Nat), v66 = .int .i64 (i : Int) ∧ Aside0 (kq + i = l3.length) ∧ Aside0 ((l3.drop i).foldl awStep (x, s) = (WX, WS)) ∧ Aside0 ((l3.drop i).foldl awSeen seen = SEEN) ∧ Aside0 (wb.heap[wa.heap.size]? = some (.cells #[.int .i64 x, .bool s] 114 (0, 0))) ∧ Aside0 (wb.ownsMap Try.prog 9 unitElem (wa.heap.size + 1) j D) ∧ Aside0 (j ≤ i ∧ i ≤ l3.length) ∧ Aside0 (SeenS seen D) ∧ Aside0 (wb.heap[wa.heap.size + 2]? = some (.cells #[.map (some (wa.heap.size + 1))] 115 (0, 0))) ∧ Aside0 (Below wa.heap.size wa wb))
      case atStart =>
        refine ⟨0, 0, false, [], .map [], 0, rfl, ⟨by omega⟩, HWORST, HSEEN, ⟨blk_alloc (blk_alloc (blk_new _ _) _) _⟩, ⟨?_⟩, ⟨by omega, by omega⟩, ⟨rfl⟩, ⟨?_⟩, ⟨below_alloc (below_alloc (below_alloc (Below.refl _ _) _) _) _⟩⟩
        · have q := (World.ownsMap_made (wa.alloc (.cells #[.int .i64 0, .bool false] 114 (0, 0))) Try.prog 9 (unitElem (H := Unit))).alloc (.cells #[.map (some (wa.heap.size + 1))] 115 (0, 0))
          rw [show (wa.alloc (.cells #[.int .i64 0, .bool false] 114 (0, 0))).heap.size = wa.heap.size + 1 by simp] at q
          exact q
        · have q := blk_new ((wa.alloc (.cells #[.int .i64 0, .bool false] 114 (0, 0))).alloc (.map #[] 0)) (.cells #[.map (some (wa.heap.size + 1))] 115 (0, 0))
          rw [show ((wa.alloc (.cells #[.int .i64 0, .bool false] 114 (0, 0))).alloc (.map #[] 0)).heap.size = wa.heap.size + 2 by simp] at q
          exact q
      case round => as_aux_lemma =>
        obtain ⟨i, x, s, seen, D, j, rfl, HK, HFW, HFS, HL, HM, HJ, HS, HMB, HB⟩ := hrel
        obtain ⟨wb, hwb⟩ : ∃ wb, wb = wr := ⟨_, rfl⟩
        subst hwb
        by_cases hi : i < l3.length
        · obtain ⟨ad, ea, hx0, hx1, hx2⟩ := at_T52 HCA.out.2.2.2.1 (i : Int) (by omega) (by omega)
          cases ea
          have hti : rd_T52 l3 (i : Int) = l3[i] := by simp [rd_T52, hi]
          rw [hti, Int.toNat_natCast] at hx0 hx1 hx2
          replace hx0 := (HB.out.cell (World.block_lt_of_cell? wa _ hx0)).trans hx0
          replace hx1 := (HB.out.cell (World.block_lt_of_cell? wa _ hx1)).trans hx1
          replace hx2 := (HB.out.cell (World.block_lt_of_cell? wa _ hx2)).trans hx2
          have hfw := HFW.out
          have hfs := HFS.out
          rw [(List.getElem_cons_drop hi).symm, List.foldl_cons] at hfw hfs
          have hsz := HSZS.out _ (List.getElem_mem hi)
          generalize l3[i] = t at hx0 hx1 hx2 hfw hfs hsz
          have hib : (i : Int) < (l3.length : Int) := by omega
          have HKY := Aside0.mk (keyOf_string_mk Try.underlying9 hsz)
          have HSZ := Aside0.mk hsz
          rw [awStep] at hfw
          rw [awSeen] at hfs
          clear hti hsz hi
          by_cases c1 : 0 < t.f1
          · rw [if_pos c1] at hfw hfs
            replace c1 := decide_eq_true c1
            cases s with
            | false =>
              rw [if_neg (by simp)] at hfw
              have HG1 := Aside0.mk hfw
              have HG2 := Aside0.mk hfs
              clear hfw hfs
              have hxa := fun o => blk_one (blk_alloc HMB.out o)
              have hne1 : wa.heap.size + 1 ≠ wa.heap.size := by omega
              have hne2 : wa.heap.size + 2 ≠ wa.heap.size := by omega
              have hbl := blk_lt HL.out
              have hne3 : wb.heap.size ≠ wa.heap.size := by omega
              clear hbl
              have hxm := fun o => blk_one (blk_far2 (blk_alloc HMB.out o) hne2 0 1 (.int .i64 t.f2) (.bool true))
              have hxn : (((wb.alloc (.cells #[.string t.f0, .int .i64 t.f1, .int .i64 t.f2] 52 (0, 0))).setCell ⟨wa.heap.size, 0, none⟩ (.int .i64 t.f2)).setCell ⟨wa.heap.size, 1, none⟩ (.bool true)).cell? ⟨wb.heap.size, 0, none⟩ = some (.string t.f0) := blk_cell (blk_far2 (blk_new wb (.cells #[.string t.f0, .int .i64 t.f1, .int .i64 t.f2] 52 (0, 0))) hne3 0 1 (.int .i64 t.f2) (.bool true)) 0
              go_wp2_with (first
                | (go_at_call 65; refine (seeC_none _ _ _ _ (blk_alloc HL.out _)).mono ?_; rintro e w3 ⟨⟨r, rfl⟩, rfl⟩)
                | (at_mapUpdate; refine wpList_mapUpdate_own _ rfl _ _ _ 115 rfl 9 118 strKeyed Try.underlying115 (unitElem (H := Unit)) (wa.heap.size + 1) j _ rfl (own_set2 (HM.out.alloc _) hne1 0 1 _ _) (by have := HJ.out; unfold maxLen; omega) _ _ _ rfl rfl HKY.out _ [] unitElem_mk ?_; intro w5 hown5 hgrow5; have HM2 := Aside0.mk hown5; have HG5 := Aside0.mk hgrow5; clear hown5 hgrow5))
              go_roundg (gk - 1)
              case measure => have := HK.out; omega
              case rel => exact ⟨i + 1, t.f2, true, _, _, j + 1, by go_num, ⟨by have := HK.out; omega⟩, HG1, HG2, ⟨blk_grown (blk_set (blk_set (blk_alloc HL.out _) 0 _) 1 _) HG5.out (by simp)⟩, HM2, ⟨by have := HJ.out; omega⟩, ⟨⟨HSZ.out, _, HS.out, rfl⟩⟩, ⟨blk_grown (blk_far2 (blk_alloc HMB.out _) hne2 0 1 _ _) HG5.out (by simp)⟩, ⟨Below.grown (below_set2 (below_alloc HB.out _) (Nat.le_refl _) _ _ _ _) HG5.out (by have := HB.out.size; simp; omega) (fun j hj => by cases hj; omega)⟩⟩
            | true =>
              rw [if_pos rfl] at hfw
              by_cases c2 : x < t.f2
              · rw [if_pos c2] at hfw
                have HG1 := Aside0.mk hfw
                have HG2 := Aside0.mk hfs
                have HC2 := Aside0.mk c2
                clear hfw hfs c2
                have hxa := fun o => blk_one (blk_alloc HMB.out o)
                have hne1 : wa.heap.size + 1 ≠ wa.heap.size := by omega
                have hne2 : wa.heap.size + 2 ≠ wa.heap.size := by omega
                have hbl := blk_lt HL.out
                have hne3 : wb.heap.size ≠ wa.heap.size := by omega
                clear hbl
                have hxm := fun o => blk_one (blk_far2 (blk_alloc HMB.out o) hne2 0 1 (.int .i64 t.f2) (.bool true))
                have hxn : (((wb.alloc (.cells #[.string t.f0, .int .i64 t.f1, .int .i64 t.f2] 52 (0, 0))).setCell ⟨wa.heap.size, 0, none⟩ (.int .i64 t.f2)).setCell ⟨wa.heap.size, 1, none⟩ (.bool true)).cell? ⟨wb.heap.size, 0, none⟩ = some (.string t.f0) := blk_cell (blk_far2 (blk_new wb (.cells #[.string t.f0, .int .i64 t.f1, .int .i64 t.f2] 52 (0, 0))) hne3 0 1 (.int .i64 t.f2) (.bool true)) 0
                go_wp2_with (first
                  | (go_at_call 65; refine (seeC_more _ _ _ _ (blk_alloc HL.out _) HC2.out).mono ?_; rintro e w3 ⟨⟨r, rfl⟩, rfl⟩)
                  | (at_mapUpdate; refine wpList_mapUpdate_own _ rfl _ _ _ 115 rfl 9 118 strKeyed Try.underlying115 (unitElem (H := Unit)) (wa.heap.size + 1) j _ rfl (own_set2 (HM.out.alloc _) hne1 0 1 _ _) (by have := HJ.out; unfold maxLen; omega) _ _ _ rfl rfl HKY.out _ [] unitElem_mk ?_; intro w5 hown5 hgrow5; have HM2 := Aside0.mk hown5; have HG5 := Aside0.mk hgrow5; clear hown5 hgrow5))
                go_roundg (gk - 1)
                case measure => have := HK.out; omega
                case rel => exact ⟨i + 1, t.f2, true, _, _, j + 1, by go_num, ⟨by have := HK.out; omega⟩, HG1, HG2, ⟨blk_grown (blk_set (blk_set (blk_alloc HL.out _) 0 _) 1 _) HG5.out (by simp)⟩, HM2, ⟨by have := HJ.out; omega⟩, ⟨⟨HSZ.out, _, HS.out, rfl⟩⟩, ⟨blk_grown (blk_far2 (blk_alloc HMB.out _) hne2 0 1 _ _) HG5.out (by simp)⟩, ⟨Below.grown (below_set2 (below_alloc HB.out _) (Nat.le_refl _) _ _ _ _) HG5.out (by have := HB.out.size; simp; omega) (fun j hj => by cases hj; omega)⟩⟩
              · rw [if_neg c2] at hfw
                have HG1 := Aside0.mk hfw
                have HG2 := Aside0.mk hfs
                have HC2 := Aside0.mk c2
                clear hfw hfs c2
                have hxa := fun o => blk_one (blk_alloc HMB.out o)
                have hne1 : wa.heap.size + 1 ≠ wa.heap.size := by omega
                have hne2 : wa.heap.size + 2 ≠ wa.heap.size := by omega
                have hbl := blk_lt HL.out
                have hne3 : wb.heap.size ≠ wa.heap.size := by omega
                clear hbl
                go_wp2_with (first
                  | (go_at_call 65; refine (seeC_less _ _ _ _ (blk_alloc HL.out _) HC2.out).mono ?_; rintro e w3 ⟨⟨r, rfl⟩, rfl⟩)
                  | (at_mapUpdate; refine wpList_mapUpdate_own _ rfl _ _ _ 115 rfl 9 118 strKeyed Try.underlying115 (unitElem (H := Unit)) (wa.heap.size + 1) j _ rfl (HM.out.alloc _) (by have := HJ.out; unfold maxLen; omega) _ _ _ rfl rfl HKY.out _ [] unitElem_mk ?_; intro w5 hown5 hgrow5; have HM2 := Aside0.mk hown5; have HG5 := Aside0.mk hgrow5; clear hown5 hgrow5))
                go_roundg (gk - 1)
                case measure => have := HK.out; omega
                case rel => exact ⟨i + 1, x, true, _, _, j + 1, by go_num, ⟨by have := HK.out; omega⟩, HG1, HG2, ⟨blk_grown (blk_alloc HL.out _) HG5.out (by simp)⟩, HM2, ⟨by have := HJ.out; omega⟩, ⟨⟨HSZ.out, _, HS.out, rfl⟩⟩, ⟨blk_grown (blk_alloc HMB.out _) HG5.out (by simp)⟩, ⟨Below.grown (below_alloc HB.out _) HG5.out (by have := HB.out.size; simp; omega) (fun j hj => by cases hj; omega)⟩⟩
          · rw [if_neg c1] at hfw hfs
            have HG1 := Aside0.mk hfw
            have HG2 := Aside0.mk hfs
            replace c1 := decide_eq_false c1
            clear hfw hfs
            go_wp2_with fail
            go_roundg (gk - 1)
            case measure => have := HK.out; omega
            case rel => exact ⟨i + 1, x, s, seen, D, j, by go_num, ⟨by have := HK.out; omega⟩, HG1, HG2, ⟨blk_alloc HL.out _⟩, ⟨HM.out.alloc _⟩, ⟨by have := HJ.out; omega, by omega⟩, HS, ⟨blk_alloc HMB.out _⟩, ⟨below_alloc HB.out _⟩⟩
        · have hfw := HFW.out
          have hfs := HFS.out
          rw [List.drop_of_length_le (by omega), List.foldl_nil] at hfw hfs
          obtain ⟨rfl, rfl⟩ : x = WX ∧ s = WS := by simpa using hfw
          subst hfs
          have HB7 := Aside0.mk (blk_below HCA.out.2.2.2.2.1 HB.out)
          have HB9 := Aside0.mk (blk_below HCA.out.2.2.2.2.2 HB.out)
          have HB2C := Aside0.mk (Kd.C_below HCA.out.2.2.1 HB.out)
          clear hfw
          go_wp2_with fail
          go_loopg [10, 84] l0.length (fun kq v10 v84 wc => ∃ (q : Nat) (acc : List Int), v84 = .int .i64 (q : Int) ∧ Aside0 (kq + q = l0.length) ∧ Aside0 (clsGo l2 seen (x, s) a4 acc (l0.drop q) (mi.drop q) = some o) ∧ Aside0 (Kd.R (Kd.int .i64) 3 wc wb.heap.size (fun _ => True) v10 acc) ∧ Aside0 (Below wb.heap.size wb wc))
          case atStart => exact ⟨0, [], rfl, ⟨by omega⟩, HGO, ⟨Kd.R_nil _ _ _ _ _⟩, ⟨Below.refl _ _⟩⟩
          case round => as_aux_lemma =>
            obtain ⟨q, acc, rfl, HK2, HG, HOX, HBX⟩ := hrel
            by_cases hq : q < l0.length
            · have hg := HG.out
              by_cases hqm : q < mi.length
              case neg => rw [(List.getElem_cons_drop hq).symm, List.drop_of_length_le (show mi.length ≤ q by omega)] at hg; simp [clsGo] at hg
              rw [(List.getElem_cons_drop hq).symm, (List.getElem_cons_drop hqm).symm, clsGo] at hg
              obtain ⟨ad5, e5, hx5⟩ := Kd.at_string (Kd.C_below (Kd.C_below HCA.out.1 HB.out) HBX.out) (q : Int) (by omega) (by omega)
              obtain ⟨ad6, e6, hx6⟩ := Kd.at_int (Kd.C_below (Kd.C_below HCA.out.2.1 HB.out) HBX.out) (q : Int) (by omega) (by omega)
              cases e5
              cases e6
              have r5 : rdOf ByteArray.empty l0 (q : Int) = l0[q] := by simp [rdOf, hq]
              have r6 : Go.Proofs.YtokijibpdnepiaaW.PrintWords.rd mi (q : Int) = mi[q] := by simp [Go.Proofs.YtokijibpdnepiaaW.PrintWords.rd, hqm]
              rw [r5, Int.toNat_natCast] at hx5
              rw [r6, Int.toNat_natCast] at hx6
              generalize l0[q] = nm at hx5 hg
              generalize mi[q] = m at hx6 hg
              by_cases hgd : nm.size ≤ maxLen ∧ acc.length < 17592186044416
              case neg => rw [if_neg hgd] at hg; cases hg
              rw [if_pos hgd] at hg
              have HSZ := Aside0.mk hgd.1
              have HAL := Aside0.mk hgd.2
              have hqi : (q : Int) < (l0.length : Int) := by omega
              have hqj : (q : Int) < (mi.length : Int) := by omega
              clear r5 r6 hgd hq hqm
              by_cases cm : 0 < m
              · rw [if_pos cm] at hg
                have HG3 := Aside0.mk hg
                replace cm := decide_eq_true cm
                clear hg
                go_wp2_with (first | ((with_reducible refine gate_builtin (b := .append) (xs := #[.tmp 98, .tmp 99]) rfl ?_); at_builtin; refine Kd.R_append (Kd.int .i64) (w0 := wb) wb.heap.size rfl (.tmp 98) (.tmp 99) 54 3 (.int .i64 0) 8 rfl Try.underlying54 info3 rfl (by decide) (by omega) u10 acc 1 [.int .i64 1] (fun _ => True) (fun _ => False) rfl rfl ?aP (fun _ hk => hk.elim) ?aF ?aO ?aB ?aS ?aL ?_; (case aP => exact rfl); (case aB => exact (by repeat (first | (with_reducible first | exact HBX.out | apply below_alloc | apply pw_below_drewN | apply below_drew1) | exact HBX.out))); (case aF => exact (fun _ _ => trivial)); (case aO => exact (by (with_reducible repeat (first | apply Kd.R_alloc | apply Kd.R_drewN | apply Kd.R_drew)); exact HOX.out)); (case aS => exact (below_size (by repeat (first | (with_reducible first | exact HBX.out | apply below_alloc | apply pw_below_drewN | apply below_drew1) | exact HBX.out)))); (case aL => have := HAL.out; omega); intro v105 w13 ho hb hg hat; have HBN := Aside0.mk hb; have HON := Aside0.mk ho; clear ho hb hg hat))
                go_roundg (gk - 1)
                case measure => have := HK2.out; omega
                case rel => exact ⟨q + 1, _, by go_num, ⟨by have := HK2.out; omega⟩, HG3, HON, HBN⟩
              · rw [if_neg cm] at hg
                replace cm := decide_eq_false cm
                cases hwf : wellF l2 seen (x, s) a4 nm with
                | true =>
                  rw [hwf, if_pos rfl] at hg
                  have HG3 := Aside0.mk hg
                  have HWF := Aside0.mk hwf
                  clear hg hwf
                  go_wp2_with (first | ((with_reducible refine gate_builtin (b := .append) (xs := #[.tmp 105, .tmp 106]) rfl ?_); at_builtin; refine Kd.R_append (Kd.int .i64) (w0 := wb) wb.heap.size rfl (.tmp 105) (.tmp 106) 54 3 (.int .i64 0) 8 rfl Try.underlying54 info3 rfl (by decide) (by omega) u10 acc 3 [.int .i64 3] (fun _ => True) (fun _ => False) rfl rfl ?aP (fun _ hk => hk.elim) ?aF ?aO ?aB ?aS ?aL ?_; (case aP => exact rfl); (case aB => exact (by repeat (first | (with_reducible first | exact HBX.out | apply below_alloc | apply pw_below_drewN | apply below_drew1) | exact HBX.out))); (case aF => exact (fun _ _ => trivial)); (case aO => exact (by (with_reducible repeat (first | apply Kd.R_alloc | apply Kd.R_drewN | apply Kd.R_drew)); exact HOX.out)); (case aS => exact (below_size (by repeat (first | (with_reducible first | exact HBX.out | apply below_alloc | apply pw_below_drewN | apply below_drew1) | exact HBX.out)))); (case aL => have := HAL.out; omega); intro v105 w13 ho hb hg hat; have HBN := Aside0.mk hb; have HON := Aside0.mk ho; clear ho hb hg hat) | (go_at_call 67; refine (well_calls (wa.heap.size + 2) w.heap.size wa.heap.size (w.heap.size + 1) (wa.heap.size + 1) j A2 c2 l2 x s a4 _ D nm _ (blk_below HMB.out HBX.out) (blk_below HB7.out HBX.out) (blk_below HL.out HBX.out) (blk_below HB9.out HBX.out) (own_below HM.out HBX.out) HS.out (Kd.C_below HB2C.out HBX.out) hc2 HSZ.out).mono ?_; rw [HWF.out]; rintro e w6 ⟨rfl, hb6⟩; have HBX' := Aside0.mk (below_step HBX.out hb6); have HOX' := Aside0.mk (Kd.R_below HOX.out hb6); clear HBX HOX; have HBX := HBX'; have HOX := HOX'; clear HBX' HOX' hb6))
                  go_roundg (gk - 1)
                  case measure => have := HK2.out; omega
                  case rel => exact ⟨q + 1, _, by go_num, ⟨by have := HK2.out; omega⟩, HG3, HON, HBN⟩
                | false =>
                  rw [hwf, if_neg (by decide)] at hg
                  have HG3 := Aside0.mk hg
                  have HWF := Aside0.mk hwf
                  clear hg hwf
                  go_wp2_with (first | ((with_reducible refine gate_builtin (b := .append) (xs := #[.tmp 89, .tmp 90]) rfl ?_); at_builtin; refine Kd.R_append (Kd.int .i64) (w0 := wb) wb.heap.size rfl (.tmp 89) (.tmp 90) 54 3 (.int .i64 0) 8 rfl Try.underlying54 info3 rfl (by decide) (by omega) u10 acc 2 [.int .i64 2] (fun _ => True) (fun _ => False) rfl rfl ?aP (fun _ hk => hk.elim) ?aF ?aO ?aB ?aS ?aL ?_; (case aP => exact rfl); (case aB => exact (by repeat (first | (with_reducible first | exact HBX.out | apply below_alloc | apply pw_below_drewN | apply below_drew1) | exact HBX.out))); (case aF => exact (fun _ _ => trivial)); (case aO => exact (by (with_reducible repeat (first | apply Kd.R_alloc | apply Kd.R_drewN | apply Kd.R_drew)); exact HOX.out)); (case aS => exact (below_size (by repeat (first | (with_reducible first | exact HBX.out | apply below_alloc | apply pw_below_drewN | apply below_drew1) | exact HBX.out)))); (case aL => have := HAL.out; omega); intro v105 w13 ho hb hg hat; have HBN := Aside0.mk hb; have HON := Aside0.mk ho; clear ho hb hg hat) | (go_at_call 67; refine (well_calls (wa.heap.size + 2) w.heap.size wa.heap.size (w.heap.size + 1) (wa.heap.size + 1) j A2 c2 l2 x s a4 _ D nm _ (blk_below HMB.out HBX.out) (blk_below HB7.out HBX.out) (blk_below HL.out HBX.out) (blk_below HB9.out HBX.out) (own_below HM.out HBX.out) HS.out (Kd.C_below HB2C.out HBX.out) hc2 HSZ.out).mono ?_; rw [HWF.out]; rintro e w6 ⟨rfl, hb6⟩; have HBX' := Aside0.mk (below_step HBX.out hb6); have HOX' := Aside0.mk (Kd.R_below HOX.out hb6); clear HBX HOX; have HBX := HBX'; have HOX := HOX'; clear HBX' HOX' hb6))
                  go_roundg (gk - 1)
                  case measure => have := HK2.out; omega
                  case rel => exact ⟨q + 1, _, by go_num, ⟨by have := HK2.out; omega⟩, HG3, HON, HBN⟩
            · have hg := HG.out
              rw [List.drop_of_length_le (show l0.length ≤ q by omega), clsGo] at hg
              obtain rfl := Option.some.inj hg
              obtain ⟨A10, c10, rfl⟩ := Kd.R_slice HOX.out
              clear hg
              go_wp2_with fail
              refine bodyPost_ret (v := .tuple #[.slice A10 acc.length c10, .int .i64 0]) (by simp [results, Try.results30, go_sem]) rfl ⟨_, rfl, Kd.R_lower HOX.out (Nat.le_trans HBW.out.size (Nat.le_trans HBA.out.size HB.out.size)), HBW.out.trans ((HBA.out.trans ((HB.out.trans (HBX.out.mono HB.out.size)).mono HBA.out.size)).mono HBW.out.size)⟩
end Go.Proofs.Ytokijibpdnepiaa.X
end
section
namespace Go.Proofs.Ytokijibpdnepiaa.X.Srt
variable {α : Type}
def g (z : α) (xs : List α) (i : Nat) : α := xs.getD i z
def sw (z : α) (xs : List α) (i j : Nat) : List α := (xs.set i (g z xs j)).set j (g z xs i)
def insIn (z : α) (lt : α → α → Bool) (a : Nat) : Nat → List α → List α
  | 0, xs => xs
  | j + 1, xs => if a < j + 1 then (if lt (g z xs (j + 1)) (g z xs j) = true then insIn z lt a j (sw z xs (j + 1) j) else xs) else xs
def insOut (z : α) (lt : α → α → Bool) (a : Nat) : Nat → Nat → List α → List α
  | 0, _, xs => xs
  | d + 1, i, xs => insOut z lt a d (i + 1) (insIn z lt a i xs)
def insF (z : α) (lt : α → α → Bool) (a b : Nat) (xs : List α) : List α := insOut z lt a (b - (a + 1)) (a + 1) xs
def swapF (z : α) (a b : Nat) : Nat → Nat → List α → List α
  | 0, _, xs => xs
  | d + 1, i, xs => swapF z a b d (i + 1) (sw z xs (a + i) (b + i))
def rotF (z : α) (m : Nat) : Nat → Nat → Nat → List α → List α
  | 0, i, _, xs => swapF z (m - i) m i 0 xs
  | f + 1, i, j, xs => if i = j then swapF z (m - i) m i 0 xs else if j < i then rotF z m f (i - j) j (swapF z (m - i) m j 0 xs) else rotF z m f i (j - i) (swapF z (m - i) (m + j - i) i 0 xs)
def bs (p : Nat → Bool) : Nat → Nat → Nat → Nat
  | 0, lo, _ => lo
  | k + 1, lo, hi => if lo < hi then (if p ((lo + hi) / 2) = true then bs p k ((lo + hi) / 2 + 1) hi else bs p k lo ((lo + hi) / 2)) else lo
def up (z : α) : Nat → Nat → List α → List α
  | 0, _, xs => xs
  | d + 1, k, xs => up z d (k + 1) (sw z xs k (k + 1))
def dn (z : α) (i : Nat) : Nat → List α → List α
  | 0, xs => xs
  | k + 1, xs => if i < k + 1 then dn z i k (sw z xs (k + 1) k) else xs
def symF (z : α) (lt : α → α → Bool) : Nat → Nat → Nat → Nat → List α → List α
  | 0, _, _, _, xs => xs
  | f + 1, a, m, b, xs =>
    if m - a = 1 then (let i := bs (fun h => lt (g z xs h) (g z xs a)) (b - m) m b; up z (i - 1 - a) a xs)
    else if b - m = 1 then (let i := bs (fun h => !lt (g z xs m) (g z xs h)) (m - a) a m; dn z i m xs)
    else
      let mid := (a + b) / 2
      let n := mid + m
      let s0 := if mid < m then n - b else a
      let r0 := if mid < m then mid else m
      let st := bs (fun h => !lt (g z xs (n - 1 - h)) (g z xs h)) (r0 - s0) s0 r0
      let en := n - st
      let x1 := if st < m ∧ m < en then rotF z m (en - st) (m - st) (en - m) xs else xs
      let x2 := if a < st ∧ st < mid then symF z lt f a st mid x1 else x1
      if mid < en ∧ en < b then symF z lt f mid en b x2 else x2
def blkF (z : α) (lt : α → α → Bool) (bz n : Nat) : Nat → Nat → List α → List α
  | 0, a, xs => insF z lt a n xs
  | d + 1, a, xs => if a + bz ≤ n then blkF z lt bz n d (a + bz) (insF z lt a (a + bz) xs) else insF z lt a n xs
def mrgF (z : α) (lt : α → α → Bool) (bz n : Nat) : Nat → Nat → List α → List α
  | 0, _, xs => xs
  | d + 1, a, xs => if a + 2 * bz ≤ n then mrgF z lt bz n d (a + 2 * bz) (symF z lt (2 * bz) a (a + bz) (a + 2 * bz) xs) else if a + bz < n then symF z lt (n - a) a (a + bz) n xs else xs
def rndF (z : α) (lt : α → α → Bool) (n : Nat) : Nat → Nat → List α → List α
  | 0, _, xs => xs
  | d + 1, bz, xs => if bz < n then rndF z lt n d (bz * 2) (mrgF z lt bz n n 0 xs) else xs
def stabF (z : α) (lt : α → α → Bool) (xs : List α) : List α := rndF z lt xs.length xs.length 20 (blkF z lt 20 xs.length xs.length 0 xs)
section
variable (key : α → Int)
def klt (x y : α) : Bool := decide (key x < key y)
def Kle (x y : α) : Prop := key x ≤ key y
def Sh (X Y : List α) : Prop := X.Perm Y ∧ ∀ n : Int, X.filter (fun x => key x == n) = Y.filter (fun x => key x == n)
variable {key}
theorem Sh.refl (X : List α) : Sh key X X := ⟨List.Perm.refl _, fun _ => rfl⟩
theorem Sh.symm {X Y : List α} (h : Sh key X Y) : Sh key Y X := ⟨h.1.symm, fun n => (h.2 n).symm⟩
theorem Sh.trans {X Y Z : List α} (h : Sh key X Y) (h2 : Sh key Y Z) : Sh key X Z := ⟨h.1.trans h2.1, fun n => (h.2 n).trans (h2.2 n)⟩
theorem Sh.append {X Y X' Y' : List α} (h : Sh key X X') (h2 : Sh key Y Y') : Sh key (X ++ Y) (X' ++ Y') :=
  ⟨h.1.append h2.1, fun n => by rw [List.filter_append, List.filter_append, h.2 n, h2.2 n]⟩
theorem Sh.swap {U V : List α} (h : ∀ x ∈ U, ∀ y ∈ V, key x ≠ key y) : Sh key (U ++ V) (V ++ U) := by
  refine ⟨List.perm_append_comm, fun n => ?_⟩
  rw [List.filter_append, List.filter_append]
  by_cases c : ∃ x ∈ U, key x = n
  · obtain ⟨x, hx, e⟩ := c
    have : V.filter (fun x => key x == n) = [] := List.filter_eq_nil_iff.2 fun y hy => by
      have := h x hx y hy
      simp; omega
    rw [this]; simp
  · have : U.filter (fun x => key x == n) = [] := List.filter_eq_nil_iff.2 fun y hy => by
      intro e
      exact c ⟨y, hy, by simpa using e⟩
    rw [this]; simp
theorem Sh.length {X Y : List α} (h : Sh key X Y) : X.length = Y.length := h.1.length_eq
inductive Chunks (key : α → Int) (bz : Nat) : List α → Prop
  | last (X : List α) (h : X.length ≤ bz) (hs : X.Pairwise (Kle key)) : Chunks key bz X
  | cons (X Y : List α) (h : X.length = bz) (hs : X.Pairwise (Kle key)) (hY : Chunks key bz Y) : Chunks key bz (X ++ Y)
end
end Go.Proofs.Ytokijibpdnepiaa.X.Srt
end
section
namespace Go.Proofs.Ytokijibpdnepiaa.X
open Go.RowKit Go.Proofs.YtokijibpdnepiaaW.PrintWords Go.Proofs.YtokijibpdnepiaaW.PrintLast Go.Proofs.YtokijibpdnepiaaW.PrintMore
attribute [local go_sem] max2_int min2_int max_two min_two max_three min_three max_four min_four
set_option linter.unusedVariables false
set_option linter.unusedSimpArgs false
structure SS (g c N : Nat) (w0 : World) (I : World → Prop) (Q : Int → Prop) (w : World) (xs : List Int) : Prop where
  own : Kd.R (Kd.int .i64) 3 w w0.heap.size (fun _ => True) (.slice (some ⟨g, 0, none⟩) N c) xs
  len : xs.length = N
  below : Below w0.heap.size w0 w
  inv : I w
  all : ∀ x ∈ xs, Q x
theorem SS.max {g c N : Nat} {w0 w : World} {I : World → Prop} {Q : Int → Prop} {xs : List Int} (h : SS g c N w0 I Q w xs) : N ≤ 9223372036854775807 := by
  have := Kd.C_max (Kd.R_reads' h.own).2.2
  rwa [h.len] at this
theorem SS.cell {g c N : Nat} {w0 w : World} {I : World → Prop} {Q : Int → Prop} {xs : List Int} (h : SS g c N w0 I Q w xs) (i : Nat) (hi : i < N) : w.cell? ⟨g, i, none⟩ = some (.int .i64 (Srt.g 0 xs i)) := by
  obtain ⟨ad, cs, e, hl, hK, hc⟩ := Kd.C_get (Kd.R_reads' h.own).2.2 (0 : Int) (i : Int) (by omega) (by rw [h.len]; omega)
  obtain rfl : (⟨g, 0, none⟩ : Addr) = ad := Option.some.inj e
  have hadd : ∀ k, (⟨g, 0, none⟩ : Addr).add k = ⟨g, k, none⟩ := fun k => by unfold Addr.add; split <;> simp_all
  simp only [hadd, Int.toNat_natCast] at hc
  rw [Int.toNat_natCast] at hK
  obtain rfl : cs = [.int .i64 (xs.getD i 0)] := hK
  have := hc 0 _ rfl
  rw [show (Kd.int .i64).sz = 1 from rfl, Nat.mul_one, Nat.add_zero] at this
  simpa [Srt.g] using this
theorem SS.frozen {g c N : Nat} {w0 w : World} {I : World → Prop} {Q : Int → Prop} {xs : List Int} (h : SS g c N w0 I Q w xs) (i k : Nat) (hi : i < N) : w.frozen? ⟨g, k, none⟩ = false := by
  obtain ⟨g', cap, e, _, _, cs, hb⟩ := Kd.R_form h.own (by rw [h.len]; omega)
  obtain rfl : g = g' := by injection e with e _ _; injection e with e; injection e
  exact blk_frozen hb k
structure Stays (g : Nat) (I : World → Prop) : Prop where
  below : ∀ {w w' : World}, I w → Below w.heap.size w w' → I w'
  grown : ∀ {w w' : World}, I w → w.grownBy w' (some g) → I w'
theorem SS.step {g c N : Nat} {w0 w w' : World} {I : World → Prop} {Q : Int → Prop} {xs : List Int} (h : SS g c N w0 I Q w xs) (hI : Stays g I) (hb : Below w.heap.size w w') : SS g c N w0 I Q w' xs :=
  ⟨Kd.R_below h.own hb, h.len, below_step h.below hb, hI.below h.inv hb, h.all⟩
theorem SS.set1 {g c N : Nat} {w0 w : World} {I : World → Prop} {Q : Int → Prop} {xs : List Int} (h : SS g c N w0 I Q w xs) (hI : Stays g I) (i : Nat) (hi : i < N) (v : Int) (hv : Q v) : SS g c N w0 I Q ((w).setCell ⟨g, i, none⟩ (.int .i64 v)) (xs.set i v) := by
  obtain ⟨ad, cs, e, hl, hK, hc⟩ := Kd.C_get (Kd.R_reads' h.own).2.2 (0 : Int) (i : Int) (by omega) (by rw [h.len]; omega)
  obtain rfl : (⟨g, 0, none⟩ : Addr) = ad := Option.some.inj e
  have hadd : ∀ k, (⟨g, 0, none⟩ : Addr).add k = ⟨g, k, none⟩ := fun k => by unfold Addr.add; split <;> simp_all
  simp only [hadd] at hc
  obtain ⟨h1, h2⟩ := Kd.R_seg (okp := fun _ => False) (j := 0) (seg := [.int .i64 v]) (x' := v) h.own (i : Int) (by omega) (by omega) hl hc (show 0 + 1 ≤ 1 from Nat.le_refl _) (by
    rw [List.take_zero, List.nil_append, List.drop_of_length_le (by rw [hl]; exact (show 1 ≤ 0 + 1 from Nat.le_refl _)), List.append_nil]
    exact rfl) (fun _ h => h.elim)
  rw [Int.toNat_natCast] at h1 h2
  have hE : w.setCells g (i * Kd.sz (Kd.int .i64) + 0) [.int .i64 v] = (w).setCell ⟨g, i, none⟩ (.int .i64 v) := by rw [show (Kd.int .i64).sz = 1 from rfl, Nat.mul_one]; rfl
  rw [hE] at h1 h2
  have hg : w0.heap.size ≤ g := Kd.R_base h.own g (by simp [Value.ownBlock])
  refine ⟨h1, by rw [List.length_set, h.len], h.below.trans ⟨h2.os, h2.tape, h2.output, h2.size, fun k hk => by rw [← hE]; exact setCells_far _ _ k (by omega)⟩, hI.grown h.inv h2, fun x hx => ?_⟩
  rcases List.mem_or_eq_of_mem_set hx with e | e
  · exact h.all x e
  · rw [e]; exact hv
theorem SS.qg {g c N : Nat} {w0 w : World} {I : World → Prop} {Q : Int → Prop} {xs : List Int} (h : SS g c N w0 I Q w xs) (i : Nat) (hi : i < N) : Q (Srt.g (0 : Int) xs i) := by
  have hi2 : i < xs.length := by rw [h.len]; exact hi
  unfold Srt.g
  rw [List.getD_eq_getElem?_getD, List.getElem?_eq_getElem hi2]
  exact h.all _ (List.getElem_mem hi2)
theorem SS.swap {g c N : Nat} {w0 w : World} {I : World → Prop} {Q : Int → Prop} {xs : List Int} (h : SS g c N w0 I Q w xs) (hI : Stays g I) (i j : Nat) (hi : i < N) (hj : j < N) : SS g c N w0 I Q (((w).setCell ⟨g, i, none⟩ (.int .i64 (Srt.g (0 : Int) xs j))).setCell ⟨g, j, none⟩ (.int .i64 (Srt.g (0 : Int) xs i))) (Srt.sw (0 : Int) xs i j) :=
  (h.set1 hI i hi _ (h.qg j hj)).set1 hI j hj _ (h.qg i hi)
set_option maxHeartbeats 1600000 in
set_option maxRecDepth 100000 in
theorem swapR_calls (g c N : Nat) (w0 : World) (I : World → Prop) (Q : Int → Prop) (a b n : Nat) (xs0 : List Int) (fv : Value) (w : World) (hI : Stays g I) (h : SS g c N w0 I Q w xs0) (hab : a + n ≤ b) (hbn : b + n ≤ N) :
    Calls Try.prog 153 #[.slice (some ⟨g, 0, none⟩) N c, .int .i64 (a : Int), .int .i64 (b : Int), .int .i64 (n : Int), fv] w fun e w' => (∃ r, e = .returned r) ∧ SS g c N w0 I Q w' (Srt.swapF (0 : Int) a b n 0 xs0) := by
  have HS := Aside0.mk h
  have hN := h.max
  clear h
  go_enter Try.func153, Try.ntmps153
  go_wp2_with fail
  go_loopg [10] n (fun kq v10 wr => ∃ (i : Nat) (xs : List Int), v10 = .int .i64 (i : Int) ∧ Aside0 (kq + i = n) ∧ Aside0 (Srt.swapF (0 : Int) a b kq i xs = Srt.swapF (0 : Int) a b n 0 xs0) ∧ Aside0 (SS g c N w0 I Q wr xs))
  case atStart => exact ⟨0, xs0, rfl, ⟨by omega⟩, ⟨rfl⟩, HS⟩
  case round =>
    obtain ⟨i, xs, rfl, HK, HF, HW⟩ := hrel
    by_cases hlt : i < n
    · obtain ⟨k', rfl⟩ : ∃ k', gk = k' + 1 := ⟨gk - 1, by have := HK.out; omega⟩
      have hg : Srt.swapF (0 : Int) a b k' (i + 1) (Srt.sw (0 : Int) xs (a + i) (b + i)) = Srt.swapF (0 : Int) a b n 0 xs0 := HF.out
      have HG := Aside0.mk hg
      have hi1 : a + i < N := by omega
      have hi2 : b + i < N := by omega
      clear hg
      have hx := HW.out.cell (a + i) hi1
      have hy := HW.out.cell (b + i) hi2
      have HD := HW.out.step hI (below_drew1 (Below.refl _ _))
      have H1 := (HW.out.set1 hI (a + i) hi1 _ (HW.out.qg (b + i) hi2)).step hI (below_drew1 (Below.refl _ _))
      have hd1 := HD.cell (a + i) hi1
      have hd2 := HD.cell (b + i) hi2
      have hf1 := fun q_ => HD.frozen (a + i) q_ hi1
      have hz := H1.cell (b + i) hi2
      have hf2 := fun q_ => H1.frozen (a + i) q_ hi1
      have HX := Aside0.mk ((HW.out.swap hI (a + i) (b + i) hi1 hi2).step hI (below_drew1 (Below.refl _ _)))
      clear HD H1
      go_wp2_with fail
      go_region
      obtain ⟨X, hX⟩ : ∃ X, (((wr).setCell ⟨g, a + i, none⟩ (.int .i64 (Srt.g (0 : Int) xs (b + i)))).setCell ⟨g, b + i, none⟩ (.int .i64 (Srt.g (0 : Int) xs (a + i)))).drew = X := ⟨_, rfl⟩
      rw [hX] at HX ⊢
      clear hX hx hy hd1 hd2 hf1 hz hf2
      go_wp2
      go_roundg k'
      case measure => omega
      case rel => exact ⟨i + 1, _, by go_num, ⟨by have := HK.out; omega⟩, HG, HX⟩
    · obtain rfl : gk = 0 := by have := HK.out; omega
      have hg : xs = Srt.swapF (0 : Int) a b n 0 xs0 := HF.out
      have HG := Aside0.mk hg
      clear hg
      go_wp2_with fail
      refine ⟨rfl, .tuple #[], ?_, ⟨_, rfl⟩, ?_⟩
      · simp [results, Try.results153, go_sem]
      · rw [← HG.out]; exact HW.out
set_option maxHeartbeats 1600000 in
set_option maxRecDepth 100000 in
theorem rot_calls (g c N : Nat) (w0 : World) (I : World → Prop) (Q : Int → Prop) (a m b : Nat) (xs0 : List Int) (fv : Value) (w : World) (hI : Stays g I) (h : SS g c N w0 I Q w xs0) (ham : a < m) (hmb : m < b) (hbN : b ≤ N) :
    Calls Try.prog 138 #[.slice (some ⟨g, 0, none⟩) N c, .int .i64 (a : Int), .int .i64 (m : Int), .int .i64 (b : Int), fv] w fun e w' => (∃ r, e = .returned r) ∧ SS g c N w0 I Q w' (Srt.rotF (0 : Int) m (b - a) (m - a) (b - m) xs0) := by
  have HS := Aside0.mk h
  have hN := h.max
  obtain ⟨i0, hi0⟩ : ∃ i0, m - a = i0 := ⟨_, rfl⟩
  obtain ⟨j0, hj0⟩ : ∃ j0, b - m = j0 := ⟨_, rfl⟩
  have hi0' : (m : Int) - (a : Int) = (i0 : Int) := by omega
  have hj0' : (b : Int) - (m : Int) = (j0 : Int) := by omega
  rw [hi0, hj0]
  clear h
  go_enter Try.func138, Try.ntmps138
  go_wp2_with fail
  go_loopg [10, 11] (b - a) (fun kq v10 v11 wr => ∃ (i j : Nat) (xs : List Int), v10 = .int .i64 (i : Int) ∧ v11 = .int .i64 (j : Int) ∧ Aside0 (0 < i ∧ 0 < j ∧ i ≤ m ∧ m + j ≤ N ∧ i + j ≤ kq + 1) ∧ Aside0 (Srt.rotF (0 : Int) m kq i j xs = Srt.rotF (0 : Int) m (b - a) i0 j0 xs0) ∧ Aside0 (SS g c N w0 I Q wr xs))
  case atStart => exact ⟨i0, j0, xs0, rfl, rfl, ⟨by omega, by omega, by omega, by omega, by omega⟩, ⟨rfl⟩, HS⟩
  case round =>
    obtain ⟨i, j, xs, rfl, rfl, HK, HF, HW⟩ := hrel
    obtain ⟨k1, k2, k3, k4, k5⟩ := HK.out
    obtain ⟨k', rfl⟩ : ∃ k', gk = k' + 1 := ⟨gk - 1, by omega⟩
    obtain ⟨p, hp⟩ : ∃ p, m - i = p := ⟨_, rfl⟩
    have hp' : (m : Int) - (i : Int) = (p : Int) := by omega
    have hg := HF.out
    rw [Srt.rotF] at hg
    by_cases hij : i = j
    · subst hij
      rw [if_pos rfl, hp] at hg
      have HG := Aside0.mk hg
      clear hg
      go_wp2_with (go_at_call 153; refine (swapR_calls g c N w0 I Q p m i xs fv _ hI HW.out (by omega) (by omega)).mono ?_; rw [HG.out]; rintro e w1 ⟨⟨r, rfl⟩, hs1⟩; have HS1 := Aside0.mk hs1; clear hs1)
      refine ⟨rfl, .tuple #[], ?_, ⟨_, rfl⟩, HS1.out⟩
      simp [results, Try.results138, go_sem]
    · have hne : ¬ ((i : Int) = (j : Int)) := by omega
      rw [if_neg hij] at hg
      by_cases c2 : j < i
      · obtain ⟨q, hq⟩ : ∃ q, i - j = q := ⟨_, rfl⟩
        have hq' : (i : Int) - (j : Int) = (q : Int) := by omega
        rw [if_pos c2, hp, hq] at hg
        have HG := Aside0.mk hg
        clear hg
        go_wp2_with (go_at_call 153; refine (swapR_calls g c N w0 I Q p m j xs fv _ hI HW.out (by omega) (by omega)).mono ?_; rintro e w1 ⟨⟨r, rfl⟩, hs1⟩; have HS1 := Aside0.mk hs1; clear hs1)
        go_roundg k'
        case measure => omega
        case rel => exact ⟨q, j, _, by go_num, rfl, ⟨by omega, by omega, by omega, by omega, by omega⟩, HG, HS1⟩
      · obtain ⟨q, hq⟩ : ∃ q, j - i = q := ⟨_, rfl⟩
        obtain ⟨u, hu⟩ : ∃ u, m + j - i = u := ⟨_, rfl⟩
        have hq' : (j : Int) - (i : Int) = (q : Int) := by omega
        have hu' : (m : Int) + (j : Int) - (i : Int) = (u : Int) := by omega
        rw [if_neg c2, hp, hq, hu] at hg
        have HG := Aside0.mk hg
        clear hg
        go_wp2_with (go_at_call 153; refine (swapR_calls g c N w0 I Q p u i xs fv _ hI HW.out (by omega) (by omega)).mono ?_; rintro e w1 ⟨⟨r, rfl⟩, hs1⟩; have HS1 := Aside0.mk hs1; clear hs1)
        go_roundg k'
        case measure => omega
        case rel => exact ⟨i, q, _, rfl, by go_num, ⟨by omega, by omega, by omega, by omega, by omega⟩, HG, HS1⟩
theorem goesC_ {P : Program} {ops : Array Oper} {Q : Exit → Act → World → Prop} {oi : Oper} {N : Option Tmp} {a : Act} {w : World} {K : Act → World → Prop} {f : FuncId} {fn : Func} {o : Operand} {ar : Array Operand} {ts : Array TypeId} {caps : Array Value} (hf : P.funcs[f]? = some fn) (hname : (fn.name == "runtime.NumGoroutine") = false) (hb : fn.body.isSome = true) (args : Array Value)
    (hw : Region.wanted oi (yielded ops a.tmps) = true) (hN : oi.dst = N) (hop : oi.op = .call { callee := .value o, args := ar, argTypes := ts }) (ho : a.eval o = .func (.func f) #[] caps) (hargs : ar.map a.eval = args)
    (h : Calls P f (args ++ caps) w fun e w' => ∃ v, e = .returned v ∧ K (a.put N v) w') : if Region.wanted oi (yielded ops a.tmps) = true then Oper.wp P oi a w K Q else K (a.put N undef) w := by
  refine call_ f (args ++ caps) hw hN ?_ h
  have he := enters_ hf hname hb (args ++ caps) w
  unfold execOp
  simp [hop, resolve, Deferred.ofValue, invoke, ho, hargs, he]
theorem w64n {j N : Nat} (h : j < N) (hN : N ≤ 9223372036854775807) : Go.RowKit.wrap64 (j : Int) = (j : Int) := by unfold Go.RowKit.wrap64; omega
theorem w64p {k j : Nat} (h : k = j + 1) (hN : k ≤ 9223372036854775807) : Go.RowKit.wrap64 ((k : Int) - 1) = (j : Int) := by unfold Go.RowKit.wrap64; omega
theorem w64q {k j : Nat} (h : k = j + 1) (hN : k ≤ 9223372036854775807) : IntKind.i64.wrap ((k : Int) - 1) = (j : Int) := by rw [IntKind.wrap_i64]; omega
def Cmp (caps : Array Value) (I : World → Prop) (Q : Int → Prop) (lt : Int → Int → Bool) : Prop := ∀ (x y : Int) (w : World), Q x → Q y → I w → Calls Try.prog 72 (#[.int .i64 x, .int .i64 y] ++ caps) w fun e w' => ∃ v, e = .returned (.int .i64 v) ∧ decide (v < 0) = lt x y ∧ Below w.heap.size w w'
set_option maxHeartbeats 1600000 in
set_option maxRecDepth 100000 in
theorem ins_calls (g c N : Nat) (w0 : World) (I : World → Prop) (Q : Int → Prop) (lt : Int → Int → Bool) (caps : Array Value) (a b : Nat) (xs0 : List Int) (w : World) (hI : Stays g I) (hC : Cmp caps I Q lt) (h : SS g c N w0 I Q w xs0) (hab : a ≤ b) (hbN : b ≤ N) (hN2 : N ≤ 4611686018427387903) :
    Calls Try.prog 121 #[.slice (some ⟨g, 0, none⟩) N c, .int .i64 (a : Int), .int .i64 (b : Int), .func (.func 72) #[] caps] w fun e w' => (∃ r, e = .returned r) ∧ SS g c N w0 I Q w' (Srt.insF (0 : Int) lt a b xs0) := by
  have HS := Aside0.mk h
  have HC := Aside0.mk hC
  have hN := h.max
  clear h hC
  go_enter Try.func121, Try.ntmps121
  go_wp2_with fail
  go_loopg [8] (b - (a + 1)) (fun kq v8 wr => ∃ (i : Nat) (xs : List Int), v8 = .int .i64 (i : Int) ∧ Aside0 (a + 1 ≤ i ∧ kq + i = a + 1 + (b - (a + 1))) ∧ Aside0 (Srt.insOut (0 : Int) lt a kq i xs = Srt.insF (0 : Int) lt a b xs0) ∧ Aside0 (SS g c N w0 I Q wr xs))
  case atStart => exact ⟨a + 1, xs0, by go_num, ⟨by omega, by omega⟩, ⟨rfl⟩, HS⟩
  case round =>
    obtain ⟨i, xs, rfl, HK, HF, HW⟩ := hrel
    obtain ⟨k1, k2⟩ := HK.out
    by_cases hib : i < b
    · obtain ⟨k', rfl⟩ : ∃ k', gk = k' + 1 := ⟨gk - 1, by omega⟩
      have hg : Srt.insOut (0 : Int) lt a k' (i + 1) (Srt.insIn (0 : Int) lt a i xs) = Srt.insF (0 : Int) lt a b xs0 := HF.out
      have HF := Aside0.mk hg
      clear hg
      go_wp2_with fail
      go_loopg [9] i (fun kq v9 wr => ∃ (ys : List Int), v9 = .int .i64 (kq : Int) ∧ Aside0 (kq ≤ i) ∧ Aside0 (Srt.insIn (0 : Int) lt a kq ys = Srt.insIn (0 : Int) lt a i xs) ∧ Aside0 (SS g c N w0 I Q wr ys))
      case atStart => exact ⟨xs, rfl, ⟨Nat.le_refl _⟩, ⟨rfl⟩, HW⟩
      case round =>
        obtain ⟨ys, rfl, HJ, HFi, HWi⟩ := hrel
        have hji := HJ.out
        by_cases haj : a < gk
        · obtain ⟨j, hj⟩ : ∃ j, gk = j + 1 := ⟨gk - 1, by omega⟩
          have hi1 : gk < N := by omega
          have hi2 : j < N := by omega
          have hw3 : Go.RowKit.wrap64 (j : Int) = (j : Int) := w64n hi2 (by omega)
          have hjm : ((gk : Int) - 1) = (j : Int) := by omega
          have hw : Go.RowKit.wrap64 ((gk : Int) - 1) = (j : Int) := w64p hj (by omega)
          have hw2 : IntKind.i64.wrap ((gk : Int) - 1) = (j : Int) := w64q hj (by omega)
          have hgt2 := decide_eq_true (show (a : Int) < (gk : Int) by omega)
          have hq1 := HWi.out.qg gk hi1
          have hq2 := HWi.out.qg j hi2
          have hx := HWi.out.cell gk hi1
          have hy := HWi.out.cell j hi2
          have hb0 : (0 ≤ (gk : Int)) = True := eq_true (by omega)
          have hb1 : ((gk : Int) < (N : Int)) = True := eq_true (by omega)
          have hb2 : (0 ≤ (j : Int)) = True := eq_true (by omega)
          have hb3 : ((j : Int) < (N : Int)) = True := eq_true (by omega)
          have hgi := HFi.out
          have e2 : Srt.insIn (0 : Int) lt a gk ys = if lt (Srt.g (0 : Int) ys gk) (Srt.g (0 : Int) ys j) = true then Srt.insIn (0 : Int) lt a j (Srt.sw (0 : Int) ys gk j) else ys := by rw [hj, Srt.insIn, if_pos (by omega)]
          rw [e2] at hgi
          have HJ1 := Aside0.mk hj
          clear hj
          have HQ1 := Aside0.mk hq1
          have HQ2 := Aside0.mk hq2
          cases hlt : lt (Srt.g (0 : Int) ys gk) (Srt.g (0 : Int) ys j) with
          | true =>
            rw [hlt, if_pos rfl] at hgi
            have HG := Aside0.mk hgi
            have HLT := Aside0.mk hlt
            clear hgi hlt hq1 hq2 e2
            go_wp2_with fail
            refine start_ (n := 17) (S := fun w' => w'.cell? ⟨g, gk, none⟩ = some (.int .i64 (Srt.g 0 ys (gk))) ∧ w'.cell? ⟨g, j, none⟩ = some (.int .i64 (Srt.g 0 ys (j)))) (ds := [14]) #[false, false, false, false, false, false, false, false, false, false, false, false, false, false, false, false, false] (by kernel_rfl) rfl rfl ⟨hx, hy⟩ (fun hHeld => ?_)
            obtain ⟨E, hE⟩ : ∃ E, wr.drew = E := ⟨_, rfl⟩
            have HSE := Aside0.mk (show SS g c N w0 I Q E ys by rw [← hE]; exact HWi.out.step hI (below_drew1 (Below.refl _ _)))
            rw [hE] at hHeld ⊢
            clear hE
            refine pure_ (i := 0) (N := some 18) (v := ?_) (a' := ?_) #[true, false, false, false, false, false, false, false, false, false, false, false, false, false, false, false, false] rfl rfl (by kernel_rfl) (fun _ _ _ h => h) (Or.inl ⟨by rfl, ?_⟩) ?_ ?_
            rotate_left
            · intro w'
              go_simp
              with_reducible rfl
            rotate_left
            · simp only [Act.put, List.setIfInBounds_toArray, List.set_cons_zero, List.set_cons_succ, i64_w, i32_w]
              rfl
            refine pure_ (i := 1) (N := some 19) (v := ?_) (a' := ?_) #[true, true, false, false, false, false, false, false, false, false, false, false, false, false, false, false, false] rfl rfl (by kernel_rfl) (fun _ _ _ h => h) (Or.inl ⟨by rfl, ?_⟩) ?_ ?_
            rotate_left
            · intro w'
              go_simp
              with_reducible rfl
            rotate_left
            · simp only [Act.put, List.setIfInBounds_toArray, List.set_cons_zero, List.set_cons_succ, i64_w, i32_w]
              rfl
            refine pure_ (i := 2) (N := some 20) (v := ?_) (a' := ?_) #[true, true, true, false, false, false, false, false, false, false, false, false, false, false, false, false, false] rfl rfl (by kernel_rfl) (fun _ _ _ h => h) (Or.inl ⟨by rfl, ?_⟩) ?_ ?_
            rotate_left
            · intro w'
              go_simp
              with_reducible rfl
            rotate_left
            · simp only [Act.put, List.setIfInBounds_toArray, List.set_cons_zero, List.set_cons_succ, i64_w, i32_w]
              rfl
            refine pure_ (i := 3) (N := some 21) (v := ?_) (a' := ?_) #[true, true, true, true, false, false, false, false, false, false, false, false, false, false, false, false, false] rfl rfl (by kernel_rfl) (fun _ _ _ h => h) (Or.inl ⟨by rfl, ?_⟩) ?_ ?_
            rotate_left
            · intro w'
              go_simp
              with_reducible rfl
            rotate_left
            · simp only [Act.put, List.setIfInBounds_toArray, List.set_cons_zero, List.set_cons_succ, i64_w, i32_w]
              rfl
            refine pure_ (i := 4) (N := some 22) (v := ?_) (a' := ?_) #[true, true, true, true, true, false, false, false, false, false, false, false, false, false, false, false, false] rfl rfl (by kernel_rfl) (fun _ _ _ h => h) (Or.inl ⟨by rfl, ?_⟩) ?_ ?_
            rotate_left
            · intro w'
              go_simp
              with_reducible rfl
            rotate_left
            · simp only [Act.put, List.setIfInBounds_toArray, List.set_cons_zero, List.set_cons_succ, i64_w, i32_w]
              rfl
            refine pure_ (i := 5) (N := some 23) (v := ?_) (a' := ?_) #[true, true, true, true, true, true, false, false, false, false, false, false, false, false, false, false, false] rfl rfl (by kernel_rfl) (fun _ _ _ h => h) (Or.inl ⟨by rfl, ?_⟩) ?_ ?_
            rotate_left
            · intro w'
              go_simp
              with_reducible rfl
            rotate_left
            · simp only [Act.put, List.setIfInBounds_toArray, List.set_cons_zero, List.set_cons_succ, i64_w, i32_w]
              rfl
            refine pure_ (i := 6) (N := some 24) (v := ?_) (a' := ?_) #[true, true, true, true, true, true, true, false, false, false, false, false, false, false, false, false, false] rfl rfl (by kernel_rfl) (fun _ _ _ h => h) (Or.inl ⟨by rfl, ?_⟩) ?_ ?_
            rotate_left
            · intro w'
              go_simp
              with_reducible rfl
            rotate_left
            · simp only [Act.put, List.setIfInBounds_toArray, List.set_cons_zero, List.set_cons_succ, i64_w, i32_w]
              rfl
            refine pure_ (i := 7) (N := some 25) (v := ?_) (a' := ?_) #[true, true, true, true, true, true, true, true, false, false, false, false, false, false, false, false, false] rfl rfl (by kernel_rfl) (fun _ _ _ h => h) (Or.inl ⟨by rfl, ?_⟩) ?_ ?_
            rotate_left
            · intro w'
              go_simp
              with_reducible rfl
            rotate_left
            · simp only [Act.put, List.setIfInBounds_toArray, List.set_cons_zero, List.set_cons_succ, i64_w, i32_w]
              rfl
            refine take_ (i := 8) (N := some 26) (v := ?_) (a' := ?_) #[true, true, true, true, true, true, true, true, true, false, false, false, false, false, false, false, false] rfl rfl (by kernel_rfl) (fun _ _ _ h => h) (Or.inl ⟨by rfl, ?_⟩) hHeld ?_ ?_
            rotate_left
            · rintro w' ⟨s0, s1⟩
              go_simp
              with_reducible rfl
            rotate_left
            · simp only [Act.put, List.setIfInBounds_toArray, List.set_cons_zero, List.set_cons_succ, i64_w, i32_w]
              rfl
            refine pure_ (i := 9) (N := some 27) (v := ?_) (a' := ?_) #[true, true, true, true, true, true, true, true, true, true, false, false, false, false, false, false, false] rfl rfl (by kernel_rfl) (fun _ _ _ h => h) (Or.inl ⟨by rfl, ?_⟩) ?_ ?_
            rotate_left
            · intro w'
              go_simp
              with_reducible rfl
            rotate_left
            · simp only [Act.put, List.setIfInBounds_toArray, List.set_cons_zero, List.set_cons_succ, i64_w, i32_w]
              rfl
            refine pure_ (i := 10) (N := some 28) (v := ?_) (a' := ?_) #[true, true, true, true, true, true, true, true, true, true, true, false, false, false, false, false, false] rfl rfl (by kernel_rfl) (fun _ _ _ h => h) (Or.inl ⟨by rfl, ?_⟩) ?_ ?_
            rotate_left
            · intro w'
              go_simp
              with_reducible rfl
            rotate_left
            · simp only [Act.put, List.setIfInBounds_toArray, List.set_cons_zero, List.set_cons_succ, i64_w, i32_w]
              rfl
            refine pure_ (i := 11) (N := some 29) (v := ?_) (a' := ?_) #[true, true, true, true, true, true, true, true, true, true, true, true, false, false, false, false, false] rfl rfl (by kernel_rfl) (fun _ _ _ h => h) (Or.inl ⟨by rfl, ?_⟩) ?_ ?_
            rotate_left
            · intro w'
              go_simp
              with_reducible rfl
            rotate_left
            · simp only [Act.put, List.setIfInBounds_toArray, List.set_cons_zero, List.set_cons_succ, i64_w, i32_w]
              rfl
            refine pure_ (i := 12) (N := some 30) (v := ?_) (a' := ?_) #[true, true, true, true, true, true, true, true, true, true, true, true, true, false, false, false, false] rfl rfl (by kernel_rfl) (fun _ _ _ h => h) (Or.inl ⟨by rfl, ?_⟩) ?_ ?_
            rotate_left
            · intro w'
              go_simp
              with_reducible rfl
            rotate_left
            · simp only [Act.put, List.setIfInBounds_toArray, List.set_cons_zero, List.set_cons_succ, i64_w, i32_w]
              rfl
            refine take_ (i := 13) (N := some 31) (v := ?_) (a' := ?_) #[true, true, true, true, true, true, true, true, true, true, true, true, true, true, false, false, false] rfl rfl (by kernel_rfl) (fun _ _ _ h => h) (Or.inl ⟨by rfl, ?_⟩) hHeld ?_ ?_
            rotate_left
            · rintro w' ⟨s0, s1⟩
              go_simp
              with_reducible rfl
            rotate_left
            · simp only [Act.put, List.setIfInBounds_toArray, List.set_cons_zero, List.set_cons_succ, i64_w, i32_w]
              rfl
            refine last_ (i := 14) (N := some 32) #[true, true, true, true, true, true, true, true, true, true, true, true, true, true, true, false, false] rfl rfl (by kernel_rfl) (by decide) (fun K hK => ?_)
            refine goesC_ (caps := caps) Try.func72 (by kernel_rfl) rfl #[.int .i64 (Srt.g (0 : Int) ys gk), .int .i64 (Srt.g (0 : Int) ys j)] (by rfl) rfl rfl rfl (by (try simp only [List.map_toArray, List.map_cons, List.map_nil]); first | done | rfl) ?_
            refine (HC.out _ _ _ HQ1.out HQ2.out HSE.out.inv).mono ?_
            rintro e w3 ⟨v, rfl, hv, hb3⟩
            rw [HLT.out] at hv
            refine ⟨_, rfl, ?_⟩
            have HS3 := Aside0.mk (HSE.out.step hI hb3)
            refine hK.out _ _ ?_
            clear hK K hb3
            refine norm_ (a' := ?_) ?_ ?_
            rotate_left
            · show Act.put _ (some 32) _ = _
              simp only [Act.put, List.setIfInBounds_toArray, List.set_cons_zero, List.set_cons_succ, i64_w, i32_w]
              rfl
            refine pure_ (i := 15) (N := some 33) (v := ?_) (a' := ?_) #[true, true, true, true, true, true, true, true, true, true, true, true, true, true, true, true, false] rfl rfl (by kernel_rfl) (fun _ _ _ h => h) (Or.inl ⟨by rfl, ?_⟩) ?_ ?_
            rotate_left
            · intro w'
              go_simp
              with_reducible rfl
            rotate_left
            · simp only [Act.put, List.setIfInBounds_toArray, List.set_cons_zero, List.set_cons_succ, i64_w, i32_w]
              rfl
            refine pure_ (i := 16) (N := some 34) (v := ?_) (a' := ?_) #[true, true, true, true, true, true, true, true, true, true, true, true, true, true, true, true, true] rfl rfl (by kernel_rfl) (fun _ _ _ h => h) (Or.inl ⟨by rfl, ?_⟩) ?_ ?_
            rotate_left
            · intro w'
              go_simp
              with_reducible rfl
            rotate_left
            · simp only [Act.put, List.setIfInBounds_toArray, List.set_cons_zero, List.set_cons_succ, i64_w, i32_w]
              rfl
            refine done_ (by kernel_rfl) ?_
            clear hHeld hx hy
            have hx := HS3.out.cell (gk) hi1
            have hy := HS3.out.cell (j) hi2
            have HD := HS3.out.step hI (below_drew1 (Below.refl _ _))
            have H1 := (HS3.out.set1 hI (gk) hi1 _ (HS3.out.qg (j) hi2)).step hI (below_drew1 (Below.refl _ _))
            have hd1 := HD.cell (gk) hi1
            have hd2 := HD.cell (j) hi2
            have hf1 := fun q_ => HD.frozen (gk) q_ hi1
            have hz := H1.cell (j) hi2
            have hf2 := fun q_ => H1.frozen (gk) q_ hi1
            have HX := Aside0.mk ((HS3.out.swap hI (gk) (j) hi1 hi2).step hI (below_drew1 (Below.refl _ _)))
            clear HD H1
            go_wp2_with fail
            go_region
            obtain ⟨X, hX⟩ : ∃ X, (((w3).setCell ⟨g, gk, none⟩ (.int .i64 (Srt.g (0 : Int) ys (j)))).setCell ⟨g, j, none⟩ (.int .i64 (Srt.g (0 : Int) ys (gk)))).drew = X := ⟨_, rfl⟩
            rw [hX] at HX ⊢
            clear hX hx hy hd1 hd2 hf1 hz hf2
            go_wp2
            go_roundg j
            case measure => have := HJ1.out; omega
            case rel => exact ⟨_, by go_num, ⟨by have := HJ1.out; omega⟩, HG, HX⟩
          | false =>
            rw [hlt, if_neg (by decide)] at hgi
            have HG := Aside0.mk hgi
            have HLT := Aside0.mk hlt
            clear hgi hlt hq1 hq2 e2
            go_wp2_with fail
            refine start_ (n := 17) (S := fun w' => w'.cell? ⟨g, gk, none⟩ = some (.int .i64 (Srt.g 0 ys (gk))) ∧ w'.cell? ⟨g, j, none⟩ = some (.int .i64 (Srt.g 0 ys (j)))) (ds := [14]) #[false, false, false, false, false, false, false, false, false, false, false, false, false, false, false, false, false] (by kernel_rfl) rfl rfl ⟨hx, hy⟩ (fun hHeld => ?_)
            obtain ⟨E, hE⟩ : ∃ E, wr.drew = E := ⟨_, rfl⟩
            have HSE := Aside0.mk (show SS g c N w0 I Q E ys by rw [← hE]; exact HWi.out.step hI (below_drew1 (Below.refl _ _)))
            rw [hE] at hHeld ⊢
            clear hE
            refine pure_ (i := 0) (N := some 18) (v := ?_) (a' := ?_) #[true, false, false, false, false, false, false, false, false, false, false, false, false, false, false, false, false] rfl rfl (by kernel_rfl) (fun _ _ _ h => h) (Or.inl ⟨by rfl, ?_⟩) ?_ ?_
            rotate_left
            · intro w'
              go_simp
              with_reducible rfl
            rotate_left
            · simp only [Act.put, List.setIfInBounds_toArray, List.set_cons_zero, List.set_cons_succ, i64_w, i32_w]
              rfl
            refine pure_ (i := 1) (N := some 19) (v := ?_) (a' := ?_) #[true, true, false, false, false, false, false, false, false, false, false, false, false, false, false, false, false] rfl rfl (by kernel_rfl) (fun _ _ _ h => h) (Or.inl ⟨by rfl, ?_⟩) ?_ ?_
            rotate_left
            · intro w'
              go_simp
              with_reducible rfl
            rotate_left
            · simp only [Act.put, List.setIfInBounds_toArray, List.set_cons_zero, List.set_cons_succ, i64_w, i32_w]
              rfl
            refine pure_ (i := 2) (N := some 20) (v := ?_) (a' := ?_) #[true, true, true, false, false, false, false, false, false, false, false, false, false, false, false, false, false] rfl rfl (by kernel_rfl) (fun _ _ _ h => h) (Or.inl ⟨by rfl, ?_⟩) ?_ ?_
            rotate_left
            · intro w'
              go_simp
              with_reducible rfl
            rotate_left
            · simp only [Act.put, List.setIfInBounds_toArray, List.set_cons_zero, List.set_cons_succ, i64_w, i32_w]
              rfl
            refine pure_ (i := 3) (N := some 21) (v := ?_) (a' := ?_) #[true, true, true, true, false, false, false, false, false, false, false, false, false, false, false, false, false] rfl rfl (by kernel_rfl) (fun _ _ _ h => h) (Or.inl ⟨by rfl, ?_⟩) ?_ ?_
            rotate_left
            · intro w'
              go_simp
              with_reducible rfl
            rotate_left
            · simp only [Act.put, List.setIfInBounds_toArray, List.set_cons_zero, List.set_cons_succ, i64_w, i32_w]
              rfl
            refine pure_ (i := 4) (N := some 22) (v := ?_) (a' := ?_) #[true, true, true, true, true, false, false, false, false, false, false, false, false, false, false, false, false] rfl rfl (by kernel_rfl) (fun _ _ _ h => h) (Or.inl ⟨by rfl, ?_⟩) ?_ ?_
            rotate_left
            · intro w'
              go_simp
              with_reducible rfl
            rotate_left
            · simp only [Act.put, List.setIfInBounds_toArray, List.set_cons_zero, List.set_cons_succ, i64_w, i32_w]
              rfl
            refine pure_ (i := 5) (N := some 23) (v := ?_) (a' := ?_) #[true, true, true, true, true, true, false, false, false, false, false, false, false, false, false, false, false] rfl rfl (by kernel_rfl) (fun _ _ _ h => h) (Or.inl ⟨by rfl, ?_⟩) ?_ ?_
            rotate_left
            · intro w'
              go_simp
              with_reducible rfl
            rotate_left
            · simp only [Act.put, List.setIfInBounds_toArray, List.set_cons_zero, List.set_cons_succ, i64_w, i32_w]
              rfl
            refine pure_ (i := 6) (N := some 24) (v := ?_) (a' := ?_) #[true, true, true, true, true, true, true, false, false, false, false, false, false, false, false, false, false] rfl rfl (by kernel_rfl) (fun _ _ _ h => h) (Or.inl ⟨by rfl, ?_⟩) ?_ ?_
            rotate_left
            · intro w'
              go_simp
              with_reducible rfl
            rotate_left
            · simp only [Act.put, List.setIfInBounds_toArray, List.set_cons_zero, List.set_cons_succ, i64_w, i32_w]
              rfl
            refine pure_ (i := 7) (N := some 25) (v := ?_) (a' := ?_) #[true, true, true, true, true, true, true, true, false, false, false, false, false, false, false, false, false] rfl rfl (by kernel_rfl) (fun _ _ _ h => h) (Or.inl ⟨by rfl, ?_⟩) ?_ ?_
            rotate_left
            · intro w'
              go_simp
              with_reducible rfl
            rotate_left
            · simp only [Act.put, List.setIfInBounds_toArray, List.set_cons_zero, List.set_cons_succ, i64_w, i32_w]
              rfl
            refine take_ (i := 8) (N := some 26) (v := ?_) (a' := ?_) #[true, true, true, true, true, true, true, true, true, false, false, false, false, false, false, false, false] rfl rfl (by kernel_rfl) (fun _ _ _ h => h) (Or.inl ⟨by rfl, ?_⟩) hHeld ?_ ?_
            rotate_left
            · rintro w' ⟨s0, s1⟩
              go_simp
              with_reducible rfl
            rotate_left
            · simp only [Act.put, List.setIfInBounds_toArray, List.set_cons_zero, List.set_cons_succ, i64_w, i32_w]
              rfl
            refine pure_ (i := 9) (N := some 27) (v := ?_) (a' := ?_) #[true, true, true, true, true, true, true, true, true, true, false, false, false, false, false, false, false] rfl rfl (by kernel_rfl) (fun _ _ _ h => h) (Or.inl ⟨by rfl, ?_⟩) ?_ ?_
            rotate_left
            · intro w'
              go_simp
              with_reducible rfl
            rotate_left
            · simp only [Act.put, List.setIfInBounds_toArray, List.set_cons_zero, List.set_cons_succ, i64_w, i32_w]
              rfl
            refine pure_ (i := 10) (N := some 28) (v := ?_) (a' := ?_) #[true, true, true, true, true, true, true, true, true, true, true, false, false, false, false, false, false] rfl rfl (by kernel_rfl) (fun _ _ _ h => h) (Or.inl ⟨by rfl, ?_⟩) ?_ ?_
            rotate_left
            · intro w'
              go_simp
              with_reducible rfl
            rotate_left
            · simp only [Act.put, List.setIfInBounds_toArray, List.set_cons_zero, List.set_cons_succ, i64_w, i32_w]
              rfl
            refine pure_ (i := 11) (N := some 29) (v := ?_) (a' := ?_) #[true, true, true, true, true, true, true, true, true, true, true, true, false, false, false, false, false] rfl rfl (by kernel_rfl) (fun _ _ _ h => h) (Or.inl ⟨by rfl, ?_⟩) ?_ ?_
            rotate_left
            · intro w'
              go_simp
              with_reducible rfl
            rotate_left
            · simp only [Act.put, List.setIfInBounds_toArray, List.set_cons_zero, List.set_cons_succ, i64_w, i32_w]
              rfl
            refine pure_ (i := 12) (N := some 30) (v := ?_) (a' := ?_) #[true, true, true, true, true, true, true, true, true, true, true, true, true, false, false, false, false] rfl rfl (by kernel_rfl) (fun _ _ _ h => h) (Or.inl ⟨by rfl, ?_⟩) ?_ ?_
            rotate_left
            · intro w'
              go_simp
              with_reducible rfl
            rotate_left
            · simp only [Act.put, List.setIfInBounds_toArray, List.set_cons_zero, List.set_cons_succ, i64_w, i32_w]
              rfl
            refine take_ (i := 13) (N := some 31) (v := ?_) (a' := ?_) #[true, true, true, true, true, true, true, true, true, true, true, true, true, true, false, false, false] rfl rfl (by kernel_rfl) (fun _ _ _ h => h) (Or.inl ⟨by rfl, ?_⟩) hHeld ?_ ?_
            rotate_left
            · rintro w' ⟨s0, s1⟩
              go_simp
              with_reducible rfl
            rotate_left
            · simp only [Act.put, List.setIfInBounds_toArray, List.set_cons_zero, List.set_cons_succ, i64_w, i32_w]
              rfl
            refine last_ (i := 14) (N := some 32) #[true, true, true, true, true, true, true, true, true, true, true, true, true, true, true, false, false] rfl rfl (by kernel_rfl) (by decide) (fun K hK => ?_)
            refine goesC_ (caps := caps) Try.func72 (by kernel_rfl) rfl #[.int .i64 (Srt.g (0 : Int) ys gk), .int .i64 (Srt.g (0 : Int) ys j)] (by rfl) rfl rfl rfl (by (try simp only [List.map_toArray, List.map_cons, List.map_nil]); first | done | rfl) ?_
            refine (HC.out _ _ _ HQ1.out HQ2.out HSE.out.inv).mono ?_
            rintro e w3 ⟨v, rfl, hv, hb3⟩
            rw [HLT.out] at hv
            refine ⟨_, rfl, ?_⟩
            have HS3 := Aside0.mk (HSE.out.step hI hb3)
            refine hK.out _ _ ?_
            clear hK K hb3
            refine norm_ (a' := ?_) ?_ ?_
            rotate_left
            · show Act.put _ (some 32) _ = _
              simp only [Act.put, List.setIfInBounds_toArray, List.set_cons_zero, List.set_cons_succ, i64_w, i32_w]
              rfl
            refine pure_ (i := 15) (N := some 33) (v := ?_) (a' := ?_) #[true, true, true, true, true, true, true, true, true, true, true, true, true, true, true, true, false] rfl rfl (by kernel_rfl) (fun _ _ _ h => h) (Or.inl ⟨by rfl, ?_⟩) ?_ ?_
            rotate_left
            · intro w'
              go_simp
              with_reducible rfl
            rotate_left
            · simp only [Act.put, List.setIfInBounds_toArray, List.set_cons_zero, List.set_cons_succ, i64_w, i32_w]
              rfl
            refine pure_ (i := 16) (N := some 34) (v := ?_) (a' := ?_) #[true, true, true, true, true, true, true, true, true, true, true, true, true, true, true, true, true] rfl rfl (by kernel_rfl) (fun _ _ _ h => h) (Or.inl ⟨by rfl, ?_⟩) ?_ ?_
            rotate_left
            · intro w'
              go_simp
              with_reducible rfl
            rotate_left
            · simp only [Act.put, List.setIfInBounds_toArray, List.set_cons_zero, List.set_cons_succ, i64_w, i32_w]
              rfl
            refine done_ (by kernel_rfl) ?_
            clear hHeld hx hy
            go_wp2
            go_roundg k'
            case measure => omega
            case rel => exact ⟨i + 1, ys, by go_num, ⟨by omega, by omega⟩, ⟨by rw [HG.out]; exact HF.out⟩, HS3⟩
        · have hgi := HFi.out
          have hys : ys = Srt.insIn (0 : Int) lt a i xs := by
            rw [← hgi]
            cases gk with
            | zero => rfl
            | succ j => rw [Srt.insIn, if_neg haj]
          have HG := Aside0.mk hys
          have hgt2 := decide_eq_false (show ¬ (a : Int) < (gk : Int) by omega)
          clear hgi hys
          go_wp2_with fail
          refine start_ (n := 17) (S := fun _ => True) (ds := []) #[false, false, false, false, false, false, false, false, false, false, false, false, false, false, false, false, false] (by kernel_rfl) rfl rfl trivial (fun hHeld => ?_)
          refine pure_ (i := 0) (N := some 18) (v := ?_) (a' := ?_) #[true, false, false, false, false, false, false, false, false, false, false, false, false, false, false, false, false] rfl rfl (by kernel_rfl) (fun _ _ _ h => h) (Or.inl ⟨by rfl, ?_⟩) ?_ ?_
          rotate_left
          · intro w'
            go_simp
            with_reducible rfl
          rotate_left
          · simp only [Act.put, List.setIfInBounds_toArray, List.set_cons_zero, List.set_cons_succ, i64_w, i32_w]
            rfl
          refine pure_ (i := 1) (N := some 19) (v := ?_) (a' := ?_) #[true, true, false, false, false, false, false, false, false, false, false, false, false, false, false, false, false] rfl rfl (by kernel_rfl) (fun _ _ _ h => h) (Or.inl ⟨by rfl, ?_⟩) ?_ ?_
          rotate_left
          · intro w'
            go_simp
            with_reducible rfl
          rotate_left
          · simp only [Act.put, List.setIfInBounds_toArray, List.set_cons_zero, List.set_cons_succ, i64_w, i32_w]
            rfl
          refine pure_ (i := 2) (N := some 20) (v := ?_) (a' := ?_) #[true, true, true, false, false, false, false, false, false, false, false, false, false, false, false, false, false] rfl rfl (by kernel_rfl) (fun _ _ _ h => h) (Or.inl ⟨by rfl, ?_⟩) ?_ ?_
          rotate_left
          · intro w'
            go_simp
            with_reducible rfl
          rotate_left
          · simp only [Act.put, List.setIfInBounds_toArray, List.set_cons_zero, List.set_cons_succ, i64_w, i32_w]
            rfl
          refine pure_ (i := 3) (N := some 21) (v := ?_) (a' := ?_) #[true, true, true, true, false, false, false, false, false, false, false, false, false, false, false, false, false] rfl rfl (by kernel_rfl) (fun _ _ _ h => h) (Or.inl ⟨by rfl, ?_⟩) ?_ ?_
          rotate_left
          · intro w'
            go_simp
            with_reducible rfl
          rotate_left
          · simp only [Act.put, List.setIfInBounds_toArray, List.set_cons_zero, List.set_cons_succ, i64_w, i32_w]
            rfl
          refine pure_ (i := 4) (N := some 22) (v := undef) (a' := ?_) #[true, true, true, true, true, false, false, false, false, false, false, false, false, false, false, false, false] rfl rfl (by kernel_rfl) (fun _ _ _ h => h) (Or.inr ⟨by rfl, rfl⟩) ?_ ?_
          rotate_left
          · simp only [Act.put, List.setIfInBounds_toArray, List.set_cons_zero, List.set_cons_succ, i64_w, i32_w]
            rfl
          refine pure_ (i := 5) (N := some 23) (v := undef) (a' := ?_) #[true, true, true, true, true, true, false, false, false, false, false, false, false, false, false, false, false] rfl rfl (by kernel_rfl) (fun _ _ _ h => h) (Or.inr ⟨by rfl, rfl⟩) ?_ ?_
          rotate_left
          · simp only [Act.put, List.setIfInBounds_toArray, List.set_cons_zero, List.set_cons_succ, i64_w, i32_w]
            rfl
          refine pure_ (i := 6) (N := some 24) (v := undef) (a' := ?_) #[true, true, true, true, true, true, true, false, false, false, false, false, false, false, false, false, false] rfl rfl (by kernel_rfl) (fun _ _ _ h => h) (Or.inr ⟨by rfl, rfl⟩) ?_ ?_
          rotate_left
          · simp only [Act.put, List.setIfInBounds_toArray, List.set_cons_zero, List.set_cons_succ, i64_w, i32_w]
            rfl
          refine pure_ (i := 7) (N := some 25) (v := undef) (a' := ?_) #[true, true, true, true, true, true, true, true, false, false, false, false, false, false, false, false, false] rfl rfl (by kernel_rfl) (fun _ _ _ h => h) (Or.inr ⟨by rfl, rfl⟩) ?_ ?_
          rotate_left
          · simp only [Act.put, List.setIfInBounds_toArray, List.set_cons_zero, List.set_cons_succ, i64_w, i32_w]
            rfl
          refine pure_ (i := 8) (N := some 26) (v := undef) (a' := ?_) #[true, true, true, true, true, true, true, true, true, false, false, false, false, false, false, false, false] rfl rfl (by kernel_rfl) (fun _ _ _ h => h) (Or.inr ⟨by rfl, rfl⟩) ?_ ?_
          rotate_left
          · simp only [Act.put, List.setIfInBounds_toArray, List.set_cons_zero, List.set_cons_succ, i64_w, i32_w]
            rfl
          refine pure_ (i := 9) (N := some 27) (v := undef) (a' := ?_) #[true, true, true, true, true, true, true, true, true, true, false, false, false, false, false, false, false] rfl rfl (by kernel_rfl) (fun _ _ _ h => h) (Or.inr ⟨by rfl, rfl⟩) ?_ ?_
          rotate_left
          · simp only [Act.put, List.setIfInBounds_toArray, List.set_cons_zero, List.set_cons_succ, i64_w, i32_w]
            rfl
          refine pure_ (i := 10) (N := some 28) (v := undef) (a' := ?_) #[true, true, true, true, true, true, true, true, true, true, true, false, false, false, false, false, false] rfl rfl (by kernel_rfl) (fun _ _ _ h => h) (Or.inr ⟨by rfl, rfl⟩) ?_ ?_
          rotate_left
          · simp only [Act.put, List.setIfInBounds_toArray, List.set_cons_zero, List.set_cons_succ, i64_w, i32_w]
            rfl
          refine pure_ (i := 11) (N := some 29) (v := undef) (a' := ?_) #[true, true, true, true, true, true, true, true, true, true, true, true, false, false, false, false, false] rfl rfl (by kernel_rfl) (fun _ _ _ h => h) (Or.inr ⟨by rfl, rfl⟩) ?_ ?_
          rotate_left
          · simp only [Act.put, List.setIfInBounds_toArray, List.set_cons_zero, List.set_cons_succ, i64_w, i32_w]
            rfl
          refine pure_ (i := 12) (N := some 30) (v := undef) (a' := ?_) #[true, true, true, true, true, true, true, true, true, true, true, true, true, false, false, false, false] rfl rfl (by kernel_rfl) (fun _ _ _ h => h) (Or.inr ⟨by rfl, rfl⟩) ?_ ?_
          rotate_left
          · simp only [Act.put, List.setIfInBounds_toArray, List.set_cons_zero, List.set_cons_succ, i64_w, i32_w]
            rfl
          refine pure_ (i := 13) (N := some 31) (v := undef) (a' := ?_) #[true, true, true, true, true, true, true, true, true, true, true, true, true, true, false, false, false] rfl rfl (by kernel_rfl) (fun _ _ _ h => h) (Or.inr ⟨by rfl, rfl⟩) ?_ ?_
          rotate_left
          · simp only [Act.put, List.setIfInBounds_toArray, List.set_cons_zero, List.set_cons_succ, i64_w, i32_w]
            rfl
          refine pure_ (i := 14) (N := some 32) (v := undef) (a' := ?_) #[true, true, true, true, true, true, true, true, true, true, true, true, true, true, true, false, false] rfl rfl (by kernel_rfl) (fun _ _ _ h => h) (Or.inr ⟨by rfl, rfl⟩) ?_ ?_
          rotate_left
          · simp only [Act.put, List.setIfInBounds_toArray, List.set_cons_zero, List.set_cons_succ, i64_w, i32_w]
            rfl
          refine pure_ (i := 15) (N := some 33) (v := undef) (a' := ?_) #[true, true, true, true, true, true, true, true, true, true, true, true, true, true, true, true, false] rfl rfl (by kernel_rfl) (fun _ _ _ h => h) (Or.inr ⟨by rfl, rfl⟩) ?_ ?_
          rotate_left
          · simp only [Act.put, List.setIfInBounds_toArray, List.set_cons_zero, List.set_cons_succ, i64_w, i32_w]
            rfl
          refine pure_ (i := 16) (N := some 34) (v := ?_) (a' := ?_) #[true, true, true, true, true, true, true, true, true, true, true, true, true, true, true, true, true] rfl rfl (by kernel_rfl) (fun _ _ _ h => h) (Or.inl ⟨by rfl, ?_⟩) ?_ ?_
          rotate_left
          · intro w'
            go_simp
            with_reducible rfl
          rotate_left
          · simp only [Act.put, List.setIfInBounds_toArray, List.set_cons_zero, List.set_cons_succ, i64_w, i32_w]
            rfl
          refine done_ (by kernel_rfl) ?_
          clear hHeld
          go_wp2
          go_roundg k'
          case measure => omega
          case rel => exact ⟨i + 1, ys, by go_num, ⟨by omega, by omega⟩, ⟨by rw [HG.out]; exact HF.out⟩, by first | exact HWi | exact ⟨HWi.out.step hI (below_drew1 (Below.refl _ _))⟩⟩
    · obtain rfl : gk = 0 := by omega
      have hg : xs = Srt.insF (0 : Int) lt a b xs0 := HF.out
      have HG := Aside0.mk hg
      clear hg
      go_wp2_with fail
      refine ⟨rfl, .tuple #[], ?_, ⟨_, rfl⟩, ?_⟩
      · simp [results, Try.results121, go_sem]
      · rw [← HG.out]; exact HW.out
theorem bs_step (p : Nat → Bool) (k lo hi mid : Nat) (h : lo < hi) (hm : (lo + hi) / 2 = mid) : Srt.bs p (k + 1) lo hi = if p mid = true then Srt.bs p k (mid + 1) hi else Srt.bs p k lo mid := by
  rw [Srt.bs, if_pos h, hm]
theorem bs_end (p : Nat → Bool) (k lo hi : Nat) (h : ¬ lo < hi) : Srt.bs p k lo hi = lo := by
  cases k with
  | zero => rfl
  | succ k => rw [Srt.bs, if_neg h]
end Go.Proofs.Ytokijibpdnepiaa.X
end
