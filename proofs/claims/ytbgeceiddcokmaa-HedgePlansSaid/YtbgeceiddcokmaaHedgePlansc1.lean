/- For HedgePlans: contracts, and facts on lists and numbers, that it uses (part 1). -/
import Derived.ArgAppend
import Derived.Below
import Derived.BigQuiet
import Derived.ChangeArms
import Derived.Deep.AppendLies
import Derived.Deep.CutBlock
import Derived.Deep.DeepCutAuto
import Derived.Deep.Draws
import Derived.Deep.LoopGhost
import Derived.Deep.OwnRows
import Derived.Deep.QuietTactic
import Derived.Deep.RegionHeld3
import Derived.Deep.RegionLaw
import Derived.Deep.Slices
import Derived.DeepKeys4
import Derived.KernelRfl
import Derived.Laws.BitsLemmas
import Derived.Laws.BytesArg
import Derived.Laws.CopyOwn
import Derived.Laws.CopyRow
import Derived.Laws.IdiomCopy
import Derived.Laws.MakeOwn
import Derived.Laws.OwnMore
import Derived.Laws.Rows
import Derived.Laws.Slices
import Derived.Laws.Strings
import Derived.Lib.AppendStr
import Derived.Lib.AppendZerosOnto
import Derived.Lib.Bytealg
import Derived.Lib.ConvBytes
import Derived.Lib.Overlaps
import Derived.Lib.SliceRun
import Derived.Lib.Walk
import Derived.LoopIn
import Derived.LoopNIn
import Derived.Maps.AppendAt
import Derived.Maps.OwnSet
import Derived.OrdersHeld
import Derived.OrdersIn
import Derived.OwnWalk
import Derived.OwnWalkIn
import Derived.RangeFuncBound
import Derived.RangeFuncBox
import Derived.RangeFuncCalls
import Derived.RangeFuncLeaves
import Derived.RangeFuncNested
import Derived.RowKit
import Derived.RowKit3
import Derived.Shelf.Abstract
import Derived.Shelf.RegionOpen
import Derived.SizedLaws
import Derived.Tactics
import Derived.TacticsInMore
import Derived.Test.YtbgeceiddcokmaaHedgePlansc0
import Derived.Test.YtbgeceiddcokmaaProg
import Derived.WalkKit
import Derived.WideLaws
import Derived.WideShapes
section
namespace Go.Proofs.Ytbgeceiddcokmaa.X
abbrev Y:Bool:=true
abbrev Z:Bool:=false
end Go.Proofs.Ytbgeceiddcokmaa.X
namespace Go.Proofs.Ytbgeceiddcokmaa.Fix
theorem bl_gtr:∀ a b:List UInt8,(!(Op.bytesLess a b || a == b)) = Op.bytesLess b a
  | [],[]=>rfl
  | [],y :: b=>by simp [Op.bytesLess]
  | x :: a,[]=>by simp [Op.bytesLess]
  | x :: a,y :: b=>by
    have ih:=bl_gtr a b
    simp only [Op.bytesLess]
    by_cases h:x = y
    · subst h
      have:¬ x < x:=by simp
      simp only [this,decide_false,Bool.false_or,beq_self_eq_true,Bool.true_and,← ih]
      congr 1
      simp
    · have h1:(x == y) = false:=by simpa using h
      have h2:(y == x) = false:=by simpa using fun e=>h e.symm
      have h3:(x :: a == y :: b) = false:=by simp [h]
      rw [h1,h2,h3]
      simp only [Bool.false_and,Bool.or_false]
      have:decide (y < x) = !decide (x < y):=by
        rw [Bool.eq_iff_iff]
        simp only [decide_eq_true_eq,Bool.not_eq_true',decide_eq_false_iff_not,UInt8.lt_iff_toNat_lt]
        have:x.toNat ≠ y.toNat:=fun e=>h (UInt8.toNat_inj.1 e)
        omega
      rw [this]
@[go_sem high] theorem x_string_gtr (t:TypeId) (a b:ByteArray):binOp .gtr t (.string a) (.string b) = pure (.bool (Op.bytesLess b.toList a.toList)):=by
  rw [← bl_gtr];simp [binOp,Op.stringOp]
@[go_sem high] theorem x_string_leq (t:TypeId) (a b:ByteArray):binOp .leq t (.string a) (.string b) = pure (.bool (!(Op.bytesLess b.toList a.toList))):=by
  rw [← bl_gtr,Bool.not_not];simp [binOp,Op.stringOp]
@[go_sem high] theorem x_string_geq (t:TypeId) (a b:ByteArray):binOp .geq t (.string a) (.string b) = pure (.bool (!(Op.bytesLess a.toList b.toList))):=by
  simp [binOp,Op.stringOp]
end Go.Proofs.Ytbgeceiddcokmaa.Fix
end
section
namespace Go.Proofs.Ytbgeceiddcokmaa.X
open Go.RowKit Go.Proofs.YtbgeceiddcokmaaW.PrintWords Go.Proofs.YtbgeceiddcokmaaW.PrintLast Go.Proofs.YtbgeceiddcokmaaW.PrintMore
attribute [local go_sem] max2_int min2_int max_two min_two max_three min_three max_four min_four
set_option linter.unusedVariables false
set_option linter.unusedSimpArgs false
def errW:Option Int → Value
 | none=>.nilIface
 | some c=>.iface 0 (.int .i64 c)
theorem errW_none:errW none = .nilIface:=rfl
theorem errW_some (c:Int):errW (some c) = .iface 0 (.int .i64 c):=rfl
theorem info3:(Try.prog.info? 3).map (fun i=>(i.zero,i.size,i.bytes)) = some (some (.int .i64 0),1,8):=by kernel_rfl
theorem info41:(Try.prog.info? 41).map (fun i=>(i.zero,i.size,i.bytes)) = some (some (.agg #[(.string ⟨#[]⟩),(.int .i64 0),(.int .i64 0),(.int .i64 0),(.int .i64 0)]),5,48):=by kernel_rfl
theorem info42:(Try.prog.info? 42).map (fun i=>(i.zero,i.size,i.bytes)) = some (some (.agg #[(.string ⟨#[]⟩),(.int .i64 0),(.int .i64 0),(.int .i64 0),(.int .i64 0)]),5,48):=by kernel_rfl
theorem info92:(Try.prog.info? 92).map (fun i=>(i.zero,i.size,i.bytes)) = some (some (.agg #[(.string ⟨#[]⟩),(.int .i64 0),(.int .i64 0),(.int .i64 0),(.int .i64 0),(.int .i64 0)]),6,56):=by kernel_rfl
structure S39 where
 f0:ByteArray
 f1:Int
 f2:Int
 f3:Int
def z39:S39:=⟨(⟨#[]⟩:ByteArray),(0:Int),(0:Int),(0:Int)⟩
def k39:Kd S39:=Kd.iso (Kd.pair Kd.string (Kd.pair (Kd.int .i64) (Kd.pair (Kd.int .i64) (Kd.int .i64)))) (fun x:S39=>(x.f0,x.f1,x.f2,x.f3))
theorem k39_open {w:World} {x:S39} {cs:List Value} (h:k39.K w x cs):cs = [.string x.f0,.int .i64 x.f1,.int .i64 x.f2,.int .i64 x.f3]:=by
 obtain ⟨_,_,rfl,rfl,⟨_,_,rfl,rfl,⟨_,_,rfl,rfl,rfl⟩⟩⟩:=h
 exact rfl
theorem k39_mkM (w:World) (base:Nat) (ok:Nat → Prop) (x:S39)  : k39.M w base ok x [.string x.f0,.int .i64 x.f1,.int .i64 x.f2,.int .i64 x.f3]:=⟨[.string x.f0],[.int .i64 x.f1,.int .i64 x.f2,.int .i64 x.f3],rfl,rfl,⟨[.int .i64 x.f1],[.int .i64 x.f2,.int .i64 x.f3],rfl,rfl,⟨[.int .i64 x.f2],[.int .i64 x.f3],rfl,rfl,rfl⟩⟩⟩
structure S92 where
 f0:S39
 f1:Int
 f2:Int
def z92:S92:=⟨z39,(0:Int),(0:Int)⟩
def k92:Kd S92:=Kd.iso (Kd.pair k39 (Kd.pair (Kd.int .i64) (Kd.int .i64))) (fun x:S92=>(x.f0,x.f1,x.f2))
theorem k92_open {w:World} {x:S92} {cs:List Value} (h:k92.K w x cs):cs = [.string x.f0.f0,.int .i64 x.f0.f1,.int .i64 x.f0.f2,.int .i64 x.f0.f3,.int .i64 x.f1,.int .i64 x.f2]:=by
 obtain ⟨_,_,rfl,s0,⟨_,_,rfl,rfl,rfl⟩⟩:=h
 obtain rfl:=k39_open s0
 exact rfl
theorem k92_mkM (w:World) (base:Nat) (ok:Nat → Prop) (x:S92)  : k92.M w base ok x [.string x.f0.f0,.int .i64 x.f0.f1,.int .i64 x.f0.f2,.int .i64 x.f0.f3,.int .i64 x.f1,.int .i64 x.f2]:=⟨[.string x.f0.f0,.int .i64 x.f0.f1,.int .i64 x.f0.f2,.int .i64 x.f0.f3],[.int .i64 x.f1,.int .i64 x.f2],rfl,(k39_mkM w base ok x.f0 ),⟨[.int .i64 x.f1],[.int .i64 x.f2],rfl,rfl,rfl⟩⟩
def rd_T92 (xs:List S92) (i:Int):S92:=xs.getD i.toNat z92
theorem at_T92 {w:World} {A:Option Addr} {n:Nat} {xs:List S92} (h:Kd.C k92 w A n xs) (i:Int) (h0:0 ≤ i) (h1:i < n):∃ ad ,A = some ad ∧ w.cell? (ad.add (i.toNat * 6)) = some (.string (rd_T92 xs i).f0.f0) ∧ w.cell? ⟨(ad.add (i.toNat * 6)).block,(ad.add (i.toNat * 6)).off + 1,none⟩ = some (.int .i64 (rd_T92 xs i).f0.f1) ∧ w.cell? ⟨(ad.add (i.toNat * 6)).block,(ad.add (i.toNat * 6)).off + 2,none⟩ = some (.int .i64 (rd_T92 xs i).f0.f2) ∧ w.cell? ⟨(ad.add (i.toNat * 6)).block,(ad.add (i.toNat * 6)).off + 3,none⟩ = some (.int .i64 (rd_T92 xs i).f0.f3) ∧ w.cell? ⟨(ad.add (i.toNat * 6)).block,(ad.add (i.toNat * 6)).off + 4,none⟩ = some (.int .i64 (rd_T92 xs i).f1) ∧ w.cell? ⟨(ad.add (i.toNat * 6)).block,(ad.add (i.toNat * 6)).off + 5,none⟩ = some (.int .i64 (rd_T92 xs i).f2):=by
 obtain ⟨ad,c,e,_,hK,hc0⟩:=Kd.C_get h z92 i h0 h1
 have hc:∀ j u,c[j]? = some u → w.cell? (ad.add (i.toNat * 6 + j)) = some u:=hc0
 obtain rfl:=k92_open hK
 exact ⟨ad,e,hc 0 _ rfl,by rw [← add_field _ _ 1 (by omega)];exact hc 1 _ rfl,by rw [← add_field _ _ 2 (by omega)];exact hc 2 _ rfl,by rw [← add_field _ _ 3 (by omega)];exact hc 3 _ rfl,by rw [← add_field _ _ 4 (by omega)];exact hc 4 _ rfl,by rw [← add_field _ _ 5 (by omega)];exact hc 5 _ rfl⟩
structure S41 where
 f0:S39
 f1:Int
def z41:S41:=⟨z39,(0:Int)⟩
def k41:Kd S41:=Kd.iso (Kd.pair k39 (Kd.int .i64)) (fun x:S41=>(x.f0,x.f1))
theorem k41_open {w:World} {x:S41} {cs:List Value} (h:k41.K w x cs):cs = [.string x.f0.f0,.int .i64 x.f0.f1,.int .i64 x.f0.f2,.int .i64 x.f0.f3,.int .i64 x.f1]:=by
 obtain ⟨_,_,rfl,s0,rfl⟩:=h
 obtain rfl:=k39_open s0
 exact rfl
theorem k41_mkM (w:World) (base:Nat) (ok:Nat → Prop) (x:S41)  : k41.M w base ok x [.string x.f0.f0,.int .i64 x.f0.f1,.int .i64 x.f0.f2,.int .i64 x.f0.f3,.int .i64 x.f1]:=⟨[.string x.f0.f0,.int .i64 x.f0.f1,.int .i64 x.f0.f2,.int .i64 x.f0.f3],[.int .i64 x.f1],rfl,(k39_mkM w base ok x.f0 ),rfl⟩
def rd_T41 (xs:List S41) (i:Int):S41:=xs.getD i.toNat z41
theorem at_T41 {w:World} {A:Option Addr} {n:Nat} {xs:List S41} (h:Kd.C k41 w A n xs) (i:Int) (h0:0 ≤ i) (h1:i < n):∃ ad ,A = some ad ∧ w.cell? (ad.add (i.toNat * 5)) = some (.string (rd_T41 xs i).f0.f0) ∧ w.cell? ⟨(ad.add (i.toNat * 5)).block,(ad.add (i.toNat * 5)).off + 1,none⟩ = some (.int .i64 (rd_T41 xs i).f0.f1) ∧ w.cell? ⟨(ad.add (i.toNat * 5)).block,(ad.add (i.toNat * 5)).off + 2,none⟩ = some (.int .i64 (rd_T41 xs i).f0.f2) ∧ w.cell? ⟨(ad.add (i.toNat * 5)).block,(ad.add (i.toNat * 5)).off + 3,none⟩ = some (.int .i64 (rd_T41 xs i).f0.f3) ∧ w.cell? ⟨(ad.add (i.toNat * 5)).block,(ad.add (i.toNat * 5)).off + 4,none⟩ = some (.int .i64 (rd_T41 xs i).f1):=by
 obtain ⟨ad,c,e,_,hK,hc0⟩:=Kd.C_get h z41 i h0 h1
 have hc:∀ j u,c[j]? = some u → w.cell? (ad.add (i.toNat * 5 + j)) = some u:=hc0
 obtain rfl:=k41_open hK
 exact ⟨ad,e,hc 0 _ rfl,by rw [← add_field _ _ 1 (by omega)];exact hc 1 _ rfl,by rw [← add_field _ _ 2 (by omega)];exact hc 2 _ rfl,by rw [← add_field _ _ 3 (by omega)];exact hc 3 _ rfl,by rw [← add_field _ _ 4 (by omega)];exact hc 4 _ rfl⟩
structure S50 where
 f0:Int
 f1:Int
 f2:Int
structure S54 where
 f0:S39
 f1:Int
 f2:Int
def z54:S54:=⟨z39,(0:Int),(0:Int)⟩
def k54:Kd S54:=Kd.iso (Kd.pair k39 (Kd.pair (Kd.int .i64) (Kd.int .i64))) (fun x:S54=>(x.f0,x.f1,x.f2))
theorem k54_open {w:World} {x:S54} {cs:List Value} (h:k54.K w x cs):cs = [.string x.f0.f0,.int .i64 x.f0.f1,.int .i64 x.f0.f2,.int .i64 x.f0.f3,.int .i64 x.f1,.int .i64 x.f2]:=by
 obtain ⟨_,_,rfl,s0,⟨_,_,rfl,rfl,rfl⟩⟩:=h
 obtain rfl:=k39_open s0
 exact rfl
def rd_T54 (xs:List S54) (i:Int):S54:=xs.getD i.toNat z54
theorem at_T54 {w:World} {A:Option Addr} {n:Nat} {xs:List S54} (h:Kd.C k54 w A n xs) (i:Int) (h0:0 ≤ i) (h1:i < n):∃ ad ,A = some ad ∧ w.cell? (ad.add (i.toNat * 6)) = some (.string (rd_T54 xs i).f0.f0) ∧ w.cell? ⟨(ad.add (i.toNat * 6)).block,(ad.add (i.toNat * 6)).off + 1,none⟩ = some (.int .i64 (rd_T54 xs i).f0.f1) ∧ w.cell? ⟨(ad.add (i.toNat * 6)).block,(ad.add (i.toNat * 6)).off + 2,none⟩ = some (.int .i64 (rd_T54 xs i).f0.f2) ∧ w.cell? ⟨(ad.add (i.toNat * 6)).block,(ad.add (i.toNat * 6)).off + 3,none⟩ = some (.int .i64 (rd_T54 xs i).f0.f3) ∧ w.cell? ⟨(ad.add (i.toNat * 6)).block,(ad.add (i.toNat * 6)).off + 4,none⟩ = some (.int .i64 (rd_T54 xs i).f1) ∧ w.cell? ⟨(ad.add (i.toNat * 6)).block,(ad.add (i.toNat * 6)).off + 5,none⟩ = some (.int .i64 (rd_T54 xs i).f2):=by
 obtain ⟨ad,c,e,_,hK,hc0⟩:=Kd.C_get h z54 i h0 h1
 have hc:∀ j u,c[j]? = some u → w.cell? (ad.add (i.toNat * 6 + j)) = some u:=hc0
 obtain rfl:=k54_open hK
 exact ⟨ad,e,hc 0 _ rfl,by rw [← add_field _ _ 1 (by omega)];exact hc 1 _ rfl,by rw [← add_field _ _ 2 (by omega)];exact hc 2 _ rfl,by rw [← add_field _ _ 3 (by omega)];exact hc 3 _ rfl,by rw [← add_field _ _ 4 (by omega)];exact hc 4 _ rfl,by rw [← add_field _ _ 5 (by omega)];exact hc 5 _ rfl⟩
structure S42 where
 f0:S39
 f1:Int
def z42:S42:=⟨z39,(0:Int)⟩
def k42:Kd S42:=Kd.iso (Kd.pair k39 (Kd.int .i64)) (fun x:S42=>(x.f0,x.f1))
theorem k42_open {w:World} {x:S42} {cs:List Value} (h:k42.K w x cs):cs = [.string x.f0.f0,.int .i64 x.f0.f1,.int .i64 x.f0.f2,.int .i64 x.f0.f3,.int .i64 x.f1]:=by
 obtain ⟨_,_,rfl,s0,rfl⟩:=h
 obtain rfl:=k39_open s0
 exact rfl
theorem k42_mkM (w:World) (base:Nat) (ok:Nat → Prop) (x:S42)  : k42.M w base ok x [.string x.f0.f0,.int .i64 x.f0.f1,.int .i64 x.f0.f2,.int .i64 x.f0.f3,.int .i64 x.f1]:=⟨[.string x.f0.f0,.int .i64 x.f0.f1,.int .i64 x.f0.f2,.int .i64 x.f0.f3],[.int .i64 x.f1],rfl,(k39_mkM w base ok x.f0 ),rfl⟩
def rd_T42 (xs:List S42) (i:Int):S42:=xs.getD i.toNat z42
theorem at_T42 {w:World} {A:Option Addr} {n:Nat} {xs:List S42} (h:Kd.C k42 w A n xs) (i:Int) (h0:0 ≤ i) (h1:i < n):∃ ad ,A = some ad ∧ w.cell? (ad.add (i.toNat * 5)) = some (.string (rd_T42 xs i).f0.f0) ∧ w.cell? ⟨(ad.add (i.toNat * 5)).block,(ad.add (i.toNat * 5)).off + 1,none⟩ = some (.int .i64 (rd_T42 xs i).f0.f1) ∧ w.cell? ⟨(ad.add (i.toNat * 5)).block,(ad.add (i.toNat * 5)).off + 2,none⟩ = some (.int .i64 (rd_T42 xs i).f0.f2) ∧ w.cell? ⟨(ad.add (i.toNat * 5)).block,(ad.add (i.toNat * 5)).off + 3,none⟩ = some (.int .i64 (rd_T42 xs i).f0.f3) ∧ w.cell? ⟨(ad.add (i.toNat * 5)).block,(ad.add (i.toNat * 5)).off + 4,none⟩ = some (.int .i64 (rd_T42 xs i).f1):=by
 obtain ⟨ad,c,e,_,hK,hc0⟩:=Kd.C_get h z42 i h0 h1
 have hc:∀ j u,c[j]? = some u → w.cell? (ad.add (i.toNat * 5 + j)) = some u:=hc0
 obtain rfl:=k42_open hK
 exact ⟨ad,e,hc 0 _ rfl,by rw [← add_field _ _ 1 (by omega)];exact hc 1 _ rfl,by rw [← add_field _ _ 2 (by omega)];exact hc 2 _ rfl,by rw [← add_field _ _ 3 (by omega)];exact hc 3 _ rfl,by rw [← add_field _ _ 4 (by omega)];exact hc 4 _ rfl⟩
structure S91 where
 f0:S39
 f1:(List Int)
 f2:Int
structure S73 where
 f0:S39
 f1:Int
 f2:Int
end Go.Proofs.Ytbgeceiddcokmaa.X
end
section
namespace Go.Proofs.Ytbgeceiddcokmaa.X
open Go.RowKit Go.Proofs.YtbgeceiddcokmaaW.PrintWords Go.Proofs.YtbgeceiddcokmaaW.PrintLast Go.Proofs.YtbgeceiddcokmaaW.PrintMore
attribute [local go_sem] max2_int min2_int max_two min_two max_three min_three max_four min_four
set_option linter.unusedVariables false
set_option linter.unusedSimpArgs false
def contangoref43_Ints.l0:Nat → List Int → List Int → Int → Option (Bool)
 | 0,_,_,_=>none
 | k + 1,x0,x1,x5=>if x5 < (x0.length:Int) then (if 0 ≤ x5 then (if x5 < (x1.length:Int) then (if (rd x0 x5) = (rd x1 x5) then (contangoref43_Ints.l0 k x0 x1 (wrap64 (x5 + 1))) else (some false)) else (none)) else (none)) else (some true)
def contangoref43_Ints.f (k:Nat) (l0:List Int) (l1:List Int):Option (Bool):=if (l0.length:Int) = (l1.length:Int) then (contangoref43_Ints.l0 k l0 l1 0) else (some false)
theorem contangoref43_Ints.mono_l:∀ k,(∀ y0 y1 y2,LeO (contangoref43_Ints.l0 k y0 y1 y2) (contangoref43_Ints.l0 (k + 1) y0 y1 y2))
 | 0=>fun _ _ _ r h=>by simp [contangoref43_Ints.l0] at h
 | k + 1=>by
  have ih0:=contangoref43_Ints.mono_l k
  ·intro y0 y1 y2
   unfold contangoref43_Ints.l0
   repeat' first
   | (with_reducible exact ih0 _ _ _)
   | (with_reducible exact LeO.refl _)
   | (with_reducible exact LeO.none _)
   | (with_reducible refine LeO.ite ?_ ?_)
   | (with_reducible refine LeO.bind ?_ (fun _=>?_))
   | exact ih0 _ _ _
   | exact LeO.none _
   | refine LeO.ite ?_ ?_
   | refine LeO.bind ?_ (fun _=>?_)
theorem contangoref43_Ints.mono:∀ a0 a1 k,LeO (contangoref43_Ints.f k a0 a1) (contangoref43_Ints.f (k + 1) a0 a1):=by
 intro a0 a1 k
 have ih0:=contangoref43_Ints.mono_l k
 unfold contangoref43_Ints.f
 repeat' first
   | (with_reducible exact ih0 _ _ _)
   | (with_reducible exact LeO.refl _)
   | (with_reducible exact LeO.none _)
   | (with_reducible refine LeO.ite ?_ ?_)
   | (with_reducible refine LeO.bind ?_ (fun _=>?_))
   | exact ih0 _ _ _
   | exact LeO.none _
   | refine LeO.ite ?_ ?_
   | refine LeO.bind ?_ (fun _=>?_)
set_option maxHeartbeats 8000000 in
set_option maxRecDepth 100000 in
theorem contangoref43_Ints.calls (k:Nat) (A0:Option Addr) (c0:Nat) (l0:List Int) (A1:Option Addr) (c1:Nat) (l1:List Int) (r:Bool) (w:World) (hr0:Kd.C (Kd.int .i64) w A0 l0.length l0) (hc0:l0.length ≤ c0) (hr1:Kd.C (Kd.int .i64) w A1 l1.length l1) (hc1:l1.length ≤ c1) (h:contangoref43_Ints.f k l0 l1 = some r) :
  Calls Try.prog 18 #[.slice A0 l0.length c0,.slice A1 l1.length c1] w fun e w'=>e = .returned (.bool r) ∧ Drawn0 w w':=by
 have HR0:=Aside0.mk hr0
 have HC0:=Aside0.mk hc0
 clear hr0 hc0
 have HR1:=Aside0.mk hr1
 have HC1:=Aside0.mk hc1
 clear hr1 hc1
 have H:(if (l0.length:Int) = (l1.length:Int) then (contangoref43_Ints.l0 k l0 l1 0) else (some false)) = some r:=h
 clear h
 by_cases c3:(l0.length:Int) = (l1.length:Int)
 ·rw [if_pos c3] at H
  have c3b0:((l0.length:Int) == (l1.length:Int)) = true:=beq_iff_eq.mpr c3
  have c3b1:((l0.length:Int) != (l1.length:Int)) = false:=bne_eq_false_iff_eq.mpr c3
  have c3b2:(l0.length == l1.length) = true:=by first|simpa using c3|(simp at c3 ⊢;omega)
  clear c3
  have H':=Aside0.mk H
  clear H
  go_enter Try.func18,Try.ntmps18
  go_wp2
  repeat (go_quiet (fail);try go_wp2)
  go_loopg [5] k (fun kq v5 w'=>∃ (x5_1:Int),v5 = .int .i64 x5_1 ∧ Aside0 (contangoref43_Ints.l0 kq l0 l1 x5_1 = some r) ∧ Aside0 (kq ≤ k) ∧ Drawn0 w w')
  case atStart=>exact ⟨(0),(by first|rfl|(simp;done)|(simp [*];done)),H',⟨Nat.le_refl _⟩,by repeat (first|exact Drawn0.refl _|apply Drawn0.step)⟩
  case round =>
   clear H'
   try clear c1
   try clear p2
   try clear c3
   try clear c3b0
   try clear c3b1
   try clear c3b2
   obtain ⟨x5_1,rfl,HA,HK1,⟨m1,rfl⟩⟩:=hrel
   cases gk with
   | zero=>exact absurd HA.out (by simp [contangoref43_Ints.l0])
   | succ k1 =>
    have H:=HA.out
    clear HA
    simp only [contangoref43_Ints.l0] at H
    by_cases c4:x5_1 < (l0.length:Int)
    ·rw [if_pos c4] at H
     have c4b0:decide (x5_1 < (l0.length:Int)) = true:=decide_eq_true c4
     clear c4
     by_cases c5:0 ≤ x5_1
     ·rw [if_pos c5] at H
      have c5b0:decide (0 ≤ x5_1) = true:=decide_eq_true c5
      clear c5
      by_cases c6:x5_1 < (l1.length:Int)
      ·rw [if_pos c6] at H
       have c6b0:decide (x5_1 < (l1.length:Int)) = true:=decide_eq_true c6
       clear c6
       by_cases c7:(rd l0 x5_1) = (rd l1 x5_1)
       ·rw [if_pos c7] at H
        have c7b0:((rd l0 x5_1) == (rd l1 x5_1)) = true:=beq_iff_eq.mpr c7
        have c7b1:((rd l0 x5_1) != (rd l1 x5_1)) = false:=bne_eq_false_iff_eq.mpr c7
        clear c7
        have H':=Aside0.mk H
        clear H
        have p101:0 ≤ (x5_1:Int):=of_decide_eq_true (by first|(with_reducible assumption)|assumption)
        have q101:x5_1 < (l0.length:Int):=of_decide_eq_true (by first|(with_reducible assumption)|assumption)
        obtain ⟨ad101,e101,hx101_0⟩:=Kd.at_int HR0.out x5_1 p101 q101
        cases e101
        replace p101:=eq_true p101
        replace q101:=eq_true q101
        have p102:0 ≤ (x5_1:Int):=of_decide_eq_true (by first|(with_reducible assumption)|assumption)
        have q102:x5_1 < (l1.length:Int):=of_decide_eq_true (by first|(with_reducible assumption)|assumption)
        obtain ⟨ad102,e102,hx102_0⟩:=Kd.at_int HR1.out x5_1 p102 q102
        cases e102
        replace p102:=eq_true p102
        replace q102:=eq_true q102
        go_wp2
        repeat (go_quiet (fail);try go_wp2)
        go_roundg k1
        case measure=>have:=HK1.out;omega
        case rel=>exact ⟨(wrap64 (x5_1 + 1)),(by first|rfl|(simp;done)|(simp [*];done)),H',⟨by have:=HK1.out;omega⟩,by repeat (first|exact Drawn0.refl _|apply Drawn0.step)⟩
       ·rw [if_neg c7] at H
        have c7b0:((rd l0 x5_1) == (rd l1 x5_1)) = false:=beq_eq_false_iff_ne.mpr c7
        have c7b1:((rd l0 x5_1) != (rd l1 x5_1)) = true:=bne_iff_ne.mpr c7
        obtain rfl:=Option.some.inj H
        have p101:0 ≤ (x5_1:Int):=of_decide_eq_true (by first|(with_reducible assumption)|assumption)
        have q101:x5_1 < (l0.length:Int):=of_decide_eq_true (by first|(with_reducible assumption)|assumption)
        obtain ⟨ad101,e101,hx101_0⟩:=Kd.at_int HR0.out x5_1 p101 q101
        cases e101
        replace p101:=eq_true p101
        replace q101:=eq_true q101
        have p102:0 ≤ (x5_1:Int):=of_decide_eq_true (by first|(with_reducible assumption)|assumption)
        have q102:x5_1 < (l1.length:Int):=of_decide_eq_true (by first|(with_reducible assumption)|assumption)
        obtain ⟨ad102,e102,hx102_0⟩:=Kd.at_int HR1.out x5_1 p102 q102
        cases e102
        replace p102:=eq_true p102
        replace q102:=eq_true q102
        go_wp2
        repeat (go_quiet (fail);try go_wp2)
        go_ret
        exact ⟨by first|rfl|(simp;done)|(simp [*];done),by repeat (first|exact Drawn0.refl _|apply Drawn0.step)⟩
      ·rw [if_neg c6] at H
       exact absurd H (by simp)
     ·rw [if_neg c5] at H
      exact absurd H (by simp)
    ·rw [if_neg c4] at H
     have c4b0:decide (x5_1 < (l0.length:Int)) = false:=decide_eq_false c4
     clear c4
     obtain rfl:=Option.some.inj H
     go_wp2
     repeat (go_quiet (fail);try go_wp2)
     go_ret
     exact ⟨by first|rfl|(simp;done)|(simp [*];done),by repeat (first|exact Drawn0.refl _|apply Drawn0.step)⟩
 ·rw [if_neg c3] at H
  have c3b0:((l0.length:Int) == (l1.length:Int)) = false:=beq_eq_false_iff_ne.mpr c3
  have c3b1:((l0.length:Int) != (l1.length:Int)) = true:=bne_iff_ne.mpr c3
  have c3b2:(l0.length == l1.length) = false:=by first|simpa using c3|(simp at c3 ⊢;omega)
  obtain rfl:=Option.some.inj H
  go_enter Try.func18,Try.ntmps18
  go_wp2
  repeat (go_quiet (fail);try go_wp2)
  go_ret
  exact ⟨by first|rfl|(simp;done)|(simp [*];done),by repeat (first|exact Drawn0.refl _|apply Drawn0.step)⟩
end Go.Proofs.Ytbgeceiddcokmaa.X
end
section
namespace Go.Proofs.Ytbgeceiddcokmaa.X
open Go.RowKit Go.Proofs.YtbgeceiddcokmaaW.PrintWords Go.Proofs.YtbgeceiddcokmaaW.PrintLast Go.Proofs.YtbgeceiddcokmaaW.PrintMore
attribute [local go_sem] max2_int min2_int max_two min_two max_three min_three max_four min_four
set_option linter.unusedVariables false
set_option linter.unusedSimpArgs false
def hedge_within.f (a0:Int) (a1:Int):Option (Bool):=if a0 ≥ (wrap64 (-a1)) then (some (decide (a0 ≤ a1))) else (some false)
set_option maxHeartbeats 8000000 in
set_option maxRecDepth 100000 in
theorem hedge_within.calls (a0:Int) (a1:Int) (r:Bool) (w:World) (h:hedge_within.f a0 a1 = some r) :
  Calls Try.prog 49 #[.int .i64 a0,.int .i64 a1] w fun e w'=>e = .returned (.bool r) ∧ Drawn0 w w':=by
 have H:(if a0 ≥ (wrap64 (-a1)) then (some (decide (a0 ≤ a1))) else (some false)) = some r:=h
 clear h
 by_cases c3:a0 ≥ (wrap64 (-a1))
 ·rw [if_pos c3] at H
  have c3b0:decide ((wrap64 (-a1)) ≤ a0) = true:=decide_eq_true c3
  clear c3
  obtain rfl:=Option.some.inj H
  go_enter Try.func49,Try.ntmps49
  go_wp2
  go_ret
  exact ⟨by first|rfl|(simp;done)|(simp [*];done),by repeat (first|exact Drawn0.refl _|apply Drawn0.step)⟩
 ·rw [if_neg c3] at H
  have c3b0:decide ((wrap64 (-a1)) ≤ a0) = false:=decide_eq_false c3
  clear c3
  obtain rfl:=Option.some.inj H
  go_enter Try.func49,Try.ntmps49
  go_wp2
  go_ret
  exact ⟨by first|rfl|(simp;done)|(simp [*];done),by repeat (first|exact Drawn0.refl _|apply Drawn0.step)⟩
end Go.Proofs.Ytbgeceiddcokmaa.X
end
section
namespace Go.Proofs.Ytbgeceiddcokmaa.X
open Go.RowKit Go.Proofs.YtbgeceiddcokmaaW.PrintWords Go.Proofs.YtbgeceiddcokmaaW.PrintLast Go.Proofs.YtbgeceiddcokmaaW.PrintMore
attribute [local go_sem] max2_int min2_int max_two min_two max_three min_three max_four min_four
set_option linter.unusedVariables false
set_option linter.unusedSimpArgs false
def hedge_ask.j0:Nat → Int → Bool → Option (Int)
 | 0,_,_=>none
 | k + 1,x1,x5=>if x5 = true then (some 2) else (if x1 < 0 then (some 18) else (if x1 > 1048576 then (some 18) else (some 0)))
def hedge_ask.f (k:Nat) (a0:Int) (a1:Int):Option (Int):=if a0 = 0 then (hedge_ask.j0 k a1 true) else ((hedge_within.f a0 1000).bind fun t101=>(hedge_ask.j0 k a1 (!t101)))
theorem hedge_ask.mono_l:∀ k,(∀ y0 y1,LeO (hedge_ask.j0 k y0 y1) (hedge_ask.j0 (k + 1) y0 y1))
 | 0=>fun _ _ r h=>by simp [hedge_ask.j0] at h
 | k + 1=>by
  have ih0:=hedge_ask.mono_l k
  ·intro y0 y1
   unfold hedge_ask.j0
   repeat' first
   | (with_reducible exact ih0 _ _)
   | (with_reducible exact LeO.refl _)
   | (with_reducible exact LeO.none _)
   | (with_reducible refine LeO.ite ?_ ?_)
   | (with_reducible refine LeO.bind ?_ (fun _=>?_))
   | exact ih0 _ _
   | exact LeO.none _
   | refine LeO.ite ?_ ?_
   | refine LeO.bind ?_ (fun _=>?_)
theorem hedge_ask.mono:∀ a0 a1 k,LeO (hedge_ask.f k a0 a1) (hedge_ask.f (k + 1) a0 a1):=by
 intro a0 a1 k
 have ih0:=hedge_ask.mono_l k
 unfold hedge_ask.f
 repeat' first
   | (with_reducible exact ih0 _ _)
   | (with_reducible exact LeO.refl _)
   | (with_reducible exact LeO.none _)
   | (with_reducible refine LeO.ite ?_ ?_)
   | (with_reducible refine LeO.bind ?_ (fun _=>?_))
   | exact ih0 _ _
   | exact LeO.none _
   | refine LeO.ite ?_ ?_
   | refine LeO.bind ?_ (fun _=>?_)
set_option maxHeartbeats 8000000 in
set_option maxRecDepth 100000 in
theorem hedge_ask.calls (k:Nat) (a0:Int) (a1:Int) (r:Int) (w:World) (h:hedge_ask.f k a0 a1 = some r) :
  Calls Try.prog 53 #[.int .i64 a0,.int .i64 a1] w fun e w'=>e = .returned (.int .i64 r) ∧ Drawn0 w w':=by
 have H:(if a0 = 0 then (hedge_ask.j0 k a1 true) else ((hedge_within.f a0 1000).bind fun t101=>(hedge_ask.j0 k a1 (!t101)))) = some r:=h
 clear h
 have HC3:=Aside0.mk H
 clear H
 go_enter Try.func53,Try.ntmps53
 go_upto_region 1 with (fail)
 go_cut [5] (fun v5 wc=>∃ (kq:Nat) (x5_2:Bool),v5 = .bool x5_2 ∧ Aside0 (hedge_ask.j0 kq a1 x5_2 = some r) ∧ Aside0 (kq ≤ k) ∧ Drawn0 w wc)
 case first =>
  have H:=HC3.out
  clear HC3
  by_cases c4:a0 = 0
  ·rw [if_pos c4] at H
   have c4b0:(a0 == 0) = true:=beq_iff_eq.mpr c4
   have c4b1:(a0 != 0) = false:=bne_eq_false_iff_eq.mpr c4
   clear c4
   (first|rw [c4b0]|(simp only [i64_w,i32_w];rw [c4b0])|skip)
   have H':=Aside0.mk H
   clear H
   go_wp2
   go_meet
   case rel=>exact ⟨_,(true),(by first|rfl|(simp;done)|(simp [*];done)),H',⟨by first|omega|exact Nat.le_refl _⟩,by repeat (first|exact Drawn0.refl _|apply Drawn0.step)⟩
  ·rw [if_neg c4] at H
   have c4b0:(a0 == 0) = false:=beq_eq_false_iff_ne.mpr c4
   have c4b1:(a0 != 0) = true:=bne_iff_ne.mpr c4
   (first|rw [c4b0]|(simp only [i64_w,i32_w];rw [c4b0])|skip)
   replace H:=Option.bind_eq_some_iff.mp H
   obtain ⟨t101,A50,H⟩:=H
   replace H:(hedge_ask.j0 k a1 (!t101)) = some r:=H
   have A5:=Aside0.mk A50
   clear A50
   have H':=Aside0.mk H
   clear H
   go_wp2_with (first|(go_at_call 49;(with_reducible refine (hedge_within.calls a0 1000 t101 _ A5.out).mono ?_);rintro e w' ⟨rfl,⟨nd,rfl⟩⟩))
   go_meet
   case rel=>exact ⟨_,(!t101),(by first|rfl|(simp;done)|(simp [*];done)),H',⟨by first|omega|exact Nat.le_refl _⟩,by repeat (first|exact Drawn0.refl _|apply Drawn0.step)⟩
 case rest =>
  clear HC3
  try clear p2
  try clear c4
  try clear c4b0
  try clear c4b1
  try clear c5
  obtain ⟨kq,x5_2,rfl,HA,HJ2,⟨mc2,rfl⟩⟩:=hcut
  cases kq with
  | zero=>exact absurd HA.out (by simp [hedge_ask.j0])
  | succ kj2 =>
   have H:=HA.out
   clear HA
   simp only [hedge_ask.j0] at H
   by_cases c6:x5_2 = true
   ·subst c6
    have H1:(some 2) = some r:=by rw [if_pos rfl] at H;exact H
    clear H
    have H:=H1
    clear H1
    obtain rfl:=Option.some.inj H
    go_wp2
    go_ret
    exact ⟨by first|rfl|(simp;done)|(simp [*];done),by repeat (first|exact Drawn0.refl _|apply Drawn0.step)⟩
   ·replace c6:=Bool.eq_false_iff.mpr c6
    subst c6
    have H1:(if a1 < 0 then (some 18) else (if a1 > 1048576 then (some 18) else (some 0))) = some r:=by rw [if_neg (show ¬ (false = true) by decide)] at H;exact H
    clear H
    have H:=H1
    clear H1
    by_cases c7:a1 < 0
    ·rw [if_pos c7] at H
     have c7b0:decide (a1 < 0) = true:=decide_eq_true c7
     clear c7
     obtain rfl:=Option.some.inj H
     go_wp2
     go_ret
     exact ⟨by first|rfl|(simp;done)|(simp [*];done),by repeat (first|exact Drawn0.refl _|apply Drawn0.step)⟩
    ·rw [if_neg c7] at H
     have c7b0:decide (a1 < 0) = false:=decide_eq_false c7
     clear c7
     by_cases c8:a1 > 1048576
     ·rw [if_pos c8] at H
      have c8b0:decide (1048576 < a1) = true:=decide_eq_true c8
      clear c8
      obtain rfl:=Option.some.inj H
      go_wp2
      go_ret
      exact ⟨by first|rfl|(simp;done)|(simp [*];done),by repeat (first|exact Drawn0.refl _|apply Drawn0.step)⟩
     ·rw [if_neg c8] at H
      have c8b0:decide (1048576 < a1) = false:=decide_eq_false c8
      clear c8
      obtain rfl:=Option.some.inj H
      go_wp2
      go_ret
      exact ⟨by first|rfl|(simp;done)|(simp [*];done),by repeat (first|exact Drawn0.refl _|apply Drawn0.step)⟩
end Go.Proofs.Ytbgeceiddcokmaa.X
end
section
namespace Go.Proofs.Ytbgeceiddcokmaa.X
open Go.RowKit Go.Proofs.YtbgeceiddcokmaaW.PrintWords Go.Proofs.YtbgeceiddcokmaaW.PrintLast Go.Proofs.YtbgeceiddcokmaaW.PrintMore
attribute [local go_sem] max2_int min2_int max_two min_two max_three min_three max_four min_four
set_option linter.unusedVariables false
set_option linter.unusedSimpArgs false
def hedge_size.f (a0:Int):Option (Int):=some (mx a0 (wrap64 (-a0)))
set_option maxHeartbeats 8000000 in
set_option maxRecDepth 100000 in
theorem hedge_size.calls (a0:Int) (r:Int) (w:World) (h:hedge_size.f a0 = some r) :
  Calls Try.prog 55 #[.int .i64 a0] w fun e w'=>e = .returned (.int .i64 r) ∧ Below w.heap.size w w':=by
 have HB:=Aside0.mk (Below.refl w.heap.size w)
 have H:(some (mx a0 (wrap64 (-a0)))) = some r:=h
 clear h
 obtain ⟨ji2,hji2⟩:∃ j_:Int,(mx a0 (wrap64 (-a0))) = j_:=⟨_,rfl⟩
 replace H:(some ji2) = some r:=by first|(rw [hji2] at H;exact H)|(simp only [hji2] at H ⊢;exact H)
 have hji2_:(if a0 < (wrap64 (-a0)) then (wrap64 (-a0)) else a0) = ji2:=hji2
 obtain rfl:=Option.some.inj H
 go_enter Try.func55,Try.ntmps55
 go_wp2
 go_ret
 exact ⟨by first|rfl|(simp [errW_none,errW_some] <;> rfl)|(simp only [← hji2];first|rfl|(simp [errW_none,errW_some] <;> rfl))|(simp [*,errW_none,errW_some] <;> rfl),by repeat (first|(with_reducible first|exact HB.out|apply below_alloc|apply pw_below_drewN|apply below_drew1)|exact HB.out)⟩
end Go.Proofs.Ytbgeceiddcokmaa.X
end
section
namespace Go.Proofs.Ytbgeceiddcokmaa.X
open Go.RowKit Go.Proofs.YtbgeceiddcokmaaW.PrintWords Go.Proofs.YtbgeceiddcokmaaW.PrintLast Go.Proofs.YtbgeceiddcokmaaW.PrintMore
attribute [local go_sem] max2_int min2_int max_two min_two max_three min_three max_four min_four
set_option linter.unusedVariables false
set_option linter.unusedSimpArgs false
def hedge_Best.j0:Nat → Int → Int → Int → Bool → Option (Int × Int)
 | 0,_,_,_,_=>none
 | k + 1,x0,x1,x6,x44=>if x44 = true then (if ((decide (x0 > 0)) == (decide (x1 > 0))) = true then (some (wrap64 (-(wrap64 (x6 + 1))),0)) else (some (wrap64 (x6 + 1),0))) else (if ((decide (x0 > 0)) == (decide (x1 > 0))) = true then (some (wrap64 (-x6),0)) else (some (x6,0)))
def hedge_Best.f (k:Nat) (a0:Int) (a1:Int) (a2:Int):Option (Int × Int):=(hedge_within.f a0 1099511627776).bind fun t101=>(if t101 = true then ((hedge_ask.f k a1 a2).bind fun t102=>(if t102 = 0 then ((hedge_size.f a0).bind fun t103=>((hedge_size.f a1).bind fun t104=>(if t104 = 0 then (none) else (if (mn (wrap64 (Int.tdiv t103 t104)) a2) < a2 then (hedge_Best.j0 k a0 a1 (mn (wrap64 (Int.tdiv t103 t104)) a2) (decide ((wrap64 ((wrap64 ((wrap64 ((mn (wrap64 (Int.tdiv t103 t104)) a2) + 1)) * t104)) - t103)) < (wrap64 (t103 - (wrap64 ((mn (wrap64 (Int.tdiv t103 t104)) a2) * t104))))))) else (hedge_Best.j0 k a0 a1 (mn (wrap64 (Int.tdiv t103 t104)) a2) false))))) else (some (0,t102)))) else (some (0,2)))
theorem hedge_Best.mono_l:∀ k,(∀ y0 y1 y2 y3,LeO (hedge_Best.j0 k y0 y1 y2 y3) (hedge_Best.j0 (k + 1) y0 y1 y2 y3))
 | 0=>fun _ _ _ _ r h=>by simp [hedge_Best.j0] at h
 | k + 1=>by
  have ih0:=hedge_Best.mono_l k
  ·intro y0 y1 y2 y3
   unfold hedge_Best.j0
   repeat' first
   | (with_reducible exact ih0 _ _ _ _)
   | (with_reducible exact hedge_ask.mono _ _ _)
   | (with_reducible exact LeO.refl _)
   | (with_reducible exact LeO.none _)
   | (with_reducible refine LeO.ite ?_ ?_)
   | (with_reducible refine LeO.bind ?_ (fun _=>?_))
   | exact ih0 _ _ _ _
   | exact hedge_ask.mono _ _ _
   | exact LeO.none _
   | refine LeO.ite ?_ ?_
   | refine LeO.bind ?_ (fun _=>?_)
theorem hedge_Best.mono:∀ a0 a1 a2 k,LeO (hedge_Best.f k a0 a1 a2) (hedge_Best.f (k + 1) a0 a1 a2):=by
 intro a0 a1 a2 k
 have ih0:=hedge_Best.mono_l k
 unfold hedge_Best.f
 repeat' first
   | (with_reducible exact ih0 _ _ _ _)
   | (with_reducible exact hedge_ask.mono _ _ _)
   | (with_reducible exact LeO.refl _)
   | (with_reducible exact LeO.none _)
   | (with_reducible refine LeO.ite ?_ ?_)
   | (with_reducible refine LeO.bind ?_ (fun _=>?_))
   | exact ih0 _ _ _ _
   | exact hedge_ask.mono _ _ _
   | exact LeO.none _
   | refine LeO.ite ?_ ?_
   | refine LeO.bind ?_ (fun _=>?_)
set_option maxHeartbeats 8000000 in
set_option maxRecDepth 100000 in
theorem hedge_Best.calls (k:Nat) (a0:Int) (a1:Int) (a2:Int) (r1:Int) (r2:Int) (w:World) (h:hedge_Best.f k a0 a1 a2 = some (r1,r2)) :
  Calls Try.prog 21 #[.int .i64 a0,.int .i64 a1,.int .i64 a2] w fun e w'=>e = .returned (.tuple #[.int .i64 r1,.int .i64 r2]) ∧ Below w.heap.size w w':=by
 have HB:=Aside0.mk (Below.refl w.heap.size w)
 have H:((hedge_within.f a0 1099511627776).bind fun t101=>(if t101 = true then ((hedge_ask.f k a1 a2).bind fun t102=>(if t102 = 0 then ((hedge_size.f a0).bind fun t103=>((hedge_size.f a1).bind fun t104=>(if t104 = 0 then (none) else (if (mn (wrap64 (Int.tdiv t103 t104)) a2) < a2 then (hedge_Best.j0 k a0 a1 (mn (wrap64 (Int.tdiv t103 t104)) a2) (decide ((wrap64 ((wrap64 ((wrap64 ((mn (wrap64 (Int.tdiv t103 t104)) a2) + 1)) * t104)) - t103)) < (wrap64 (t103 - (wrap64 ((mn (wrap64 (Int.tdiv t103 t104)) a2) * t104))))))) else (hedge_Best.j0 k a0 a1 (mn (wrap64 (Int.tdiv t103 t104)) a2) false))))) else (some (0,t102)))) else (some (0,2)))) = some (r1,r2):=h
 clear h
 replace H:=Option.bind_eq_some_iff.mp H
 obtain ⟨t101,A40,H⟩:=H
 replace H:(if t101 = true then ((hedge_ask.f k a1 a2).bind fun t102=>(if t102 = 0 then ((hedge_size.f a0).bind fun t103=>((hedge_size.f a1).bind fun t104=>(if t104 = 0 then (none) else (if (mn (wrap64 (Int.tdiv t103 t104)) a2) < a2 then (hedge_Best.j0 k a0 a1 (mn (wrap64 (Int.tdiv t103 t104)) a2) (decide ((wrap64 ((wrap64 ((wrap64 ((mn (wrap64 (Int.tdiv t103 t104)) a2) + 1)) * t104)) - t103)) < (wrap64 (t103 - (wrap64 ((mn (wrap64 (Int.tdiv t103 t104)) a2) * t104))))))) else (hedge_Best.j0 k a0 a1 (mn (wrap64 (Int.tdiv t103 t104)) a2) false))))) else (some (0,t102)))) else (some (0,2))) = some (r1,r2):=H
 have A4:=Aside0.mk A40
 clear A40
 by_cases c5:t101 = true
 ·subst c5
  have H1:((hedge_ask.f k a1 a2).bind fun t102=>(if t102 = 0 then ((hedge_size.f a0).bind fun t103=>((hedge_size.f a1).bind fun t104=>(if t104 = 0 then (none) else (if (mn (wrap64 (Int.tdiv t103 t104)) a2) < a2 then (hedge_Best.j0 k a0 a1 (mn (wrap64 (Int.tdiv t103 t104)) a2) (decide ((wrap64 ((wrap64 ((wrap64 ((mn (wrap64 (Int.tdiv t103 t104)) a2) + 1)) * t104)) - t103)) < (wrap64 (t103 - (wrap64 ((mn (wrap64 (Int.tdiv t103 t104)) a2) * t104))))))) else (hedge_Best.j0 k a0 a1 (mn (wrap64 (Int.tdiv t103 t104)) a2) false))))) else (some (0,t102)))) = some (r1,r2):=by rw [if_pos rfl] at H;exact H
  clear H
  have H:=H1
  clear H1
  replace H:=Option.bind_eq_some_iff.mp H
  obtain ⟨t102,A60,H⟩:=H
  replace H:(if t102 = 0 then ((hedge_size.f a0).bind fun t103=>((hedge_size.f a1).bind fun t104=>(if t104 = 0 then (none) else (if (mn (wrap64 (Int.tdiv t103 t104)) a2) < a2 then (hedge_Best.j0 k a0 a1 (mn (wrap64 (Int.tdiv t103 t104)) a2) (decide ((wrap64 ((wrap64 ((wrap64 ((mn (wrap64 (Int.tdiv t103 t104)) a2) + 1)) * t104)) - t103)) < (wrap64 (t103 - (wrap64 ((mn (wrap64 (Int.tdiv t103 t104)) a2) * t104))))))) else (hedge_Best.j0 k a0 a1 (mn (wrap64 (Int.tdiv t103 t104)) a2) false))))) else (some (0,t102))) = some (r1,r2):=H
  have A6:=Aside0.mk A60
  clear A60
  by_cases c7:t102 = 0
  ·rw [if_pos c7] at H
   have c7b0:(t102 == 0) = true:=beq_iff_eq.mpr c7
   have c7b1:(t102 != 0) = false:=bne_eq_false_iff_eq.mpr c7
   clear c7
   replace H:=Option.bind_eq_some_iff.mp H
   obtain ⟨t103,A80,H⟩:=H
   replace H:((hedge_size.f a1).bind fun t104=>(if t104 = 0 then (none) else (if (mn (wrap64 (Int.tdiv t103 t104)) a2) < a2 then (hedge_Best.j0 k a0 a1 (mn (wrap64 (Int.tdiv t103 t104)) a2) (decide ((wrap64 ((wrap64 ((wrap64 ((mn (wrap64 (Int.tdiv t103 t104)) a2) + 1)) * t104)) - t103)) < (wrap64 (t103 - (wrap64 ((mn (wrap64 (Int.tdiv t103 t104)) a2) * t104))))))) else (hedge_Best.j0 k a0 a1 (mn (wrap64 (Int.tdiv t103 t104)) a2) false)))) = some (r1,r2):=H
   have A8:=Aside0.mk A80
   clear A80
   replace H:=Option.bind_eq_some_iff.mp H
   obtain ⟨t104,A90,H⟩:=H
   replace H:(if t104 = 0 then (none) else (if (mn (wrap64 (Int.tdiv t103 t104)) a2) < a2 then (hedge_Best.j0 k a0 a1 (mn (wrap64 (Int.tdiv t103 t104)) a2) (decide ((wrap64 ((wrap64 ((wrap64 ((mn (wrap64 (Int.tdiv t103 t104)) a2) + 1)) * t104)) - t103)) < (wrap64 (t103 - (wrap64 ((mn (wrap64 (Int.tdiv t103 t104)) a2) * t104))))))) else (hedge_Best.j0 k a0 a1 (mn (wrap64 (Int.tdiv t103 t104)) a2) false))) = some (r1,r2):=H
   have A9:=Aside0.mk A90
   clear A90
   by_cases c10:t104 = 0
   ·rw [if_pos c10] at H
    exact absurd H (by simp)
   ·rw [if_neg c10] at H
    have c10b0:(t104 == 0) = false:=beq_eq_false_iff_ne.mpr c10
    have c10b1:(t104 != 0) = true:=bne_iff_ne.mpr c10
    obtain ⟨ji11,hji11⟩:∃ j_:Int,(mn (wrap64 (Int.tdiv t103 t104)) a2) = j_:=⟨_,rfl⟩
    replace H:(if (ji11) < a2 then (hedge_Best.j0 k a0 a1 ji11 (decide ((wrap64 ((wrap64 ((wrap64 ((ji11) + 1)) * t104)) - t103)) < (wrap64 (t103 - (wrap64 ((ji11) * t104))))))) else (hedge_Best.j0 k a0 a1 ji11 false)) = some (r1,r2):=by first|(rw [hji11] at H;exact H)|(simp only [hji11] at H ⊢;exact H)
    (try rw [hji11] at A4)
    (try rw [hji11] at A6)
    (try rw [hji11] at A8)
    (try rw [hji11] at A9)
    have hji11_:(if a2 < (wrap64 (Int.tdiv t103 t104)) then a2 else (wrap64 (Int.tdiv t103 t104))) = ji11:=hji11
    have HC12:=Aside0.mk H
    clear H
    go_enter Try.func21,Try.ntmps21
    go_upto_region 8 with (first|((with_reducible refine gate_callee (f:=49) rfl ?_);refine goesL_ (some 11) rfl rfl Try.func49 (by kernel_rfl) rfl #[.int .i64 a0,.int .i64 1099511627776] rfl (by (try simp only [List.map_toArray,List.map_cons,List.map_nil]);first|done|rfl|(simp only [List.length_drop,List.length_take];rfl)) ?_;(with_reducible refine (hedge_within.calls a0 1099511627776 true _ A4.out).mono ?_);rintro e w' ⟨rfl,⟨nd,rfl⟩⟩;refine ⟨_,rfl,?_⟩)|((with_reducible refine gate_callee (f:=53) rfl ?_);refine goesL_ (some 15) rfl rfl Try.func53 (by kernel_rfl) rfl #[.int .i64 a1,.int .i64 a2] rfl (by (try simp only [List.map_toArray,List.map_cons,List.map_nil]);first|done|rfl|(simp only [List.length_drop,List.length_take];rfl)) ?_;(with_reducible refine (hedge_ask.calls k a1 a2 t102 _ A6.out).mono ?_);rintro e w' ⟨rfl,⟨nd,rfl⟩⟩;refine ⟨_,rfl,?_⟩)|((with_reducible refine gate_callee (f:=55) rfl ?_);refine goesL_ (some 20) rfl rfl Try.func55 (by kernel_rfl) rfl #[.int .i64 a0] rfl (by (try simp only [List.map_toArray,List.map_cons,List.map_nil]);first|done|rfl|(simp only [List.length_drop,List.length_take];rfl)) ?_;(with_reducible refine (hedge_size.calls a0 t103 _ A8.out).mono ?_);rintro e w13 ⟨rfl,hb⟩;refine ⟨_,rfl,?_⟩;have n0_:=Aside0.mk (below_step (by repeat (first|(with_reducible first|exact HB.out|apply below_alloc|apply pw_below_drewN|apply below_drew1)|exact HB.out)) hb);clear HB;have HB:=n0_;clear n0_;(try clear hb);(try clear hb2);(try clear hk);(try clear hi))|((with_reducible refine gate_callee (f:=55) rfl ?_);refine goesL_ (some 22) rfl rfl Try.func55 (by kernel_rfl) rfl #[.int .i64 a1] rfl (by (try simp only [List.map_toArray,List.map_cons,List.map_nil]);first|done|rfl|(simp only [List.length_drop,List.length_take];rfl)) ?_;(with_reducible refine (hedge_size.calls a1 t104 _ A9.out).mono ?_);rintro e w14 ⟨rfl,hb⟩;refine ⟨_,rfl,?_⟩;have n0_:=Aside0.mk (below_step (by repeat (first|(with_reducible first|exact HB.out|apply below_alloc|apply pw_below_drewN|apply below_drew1)|exact HB.out)) hb);clear HB;have HB:=n0_;clear n0_;(try clear hb);(try clear hb2);(try clear hk);(try clear hi)))
    (try simp only [Act.put,List.setIfInBounds_toArray,List.set_cons_zero,List.set_cons_succ])
    go_cut [44] (fun v44 wc=>∃ (kq:Nat) (x44_11:Bool),v44 = .bool x44_11 ∧ Aside0 (hedge_Best.j0 kq a0 a1 ji11 x44_11 = some (r1,r2)) ∧ Aside0 (kq ≤ k) ∧ Aside0 (Below w.heap.size w wc))
    case first =>
     have H:=HC12.out
     clear HC12
     by_cases c15:(ji11) < a2
     ·rw [if_pos c15] at H
      have c15b0:decide ((ji11) < a2) = true:=decide_eq_true c15
      clear c15
      (first|rw [c15b0]|(simp only [i64_w,i32_w];rw [c15b0])|skip)
      have H':=Aside0.mk H
      clear H
      go_wp2
      go_meet
      case rel=>exact ⟨_,(decide ((wrap64 ((wrap64 ((wrap64 ((ji11) + 1)) * t104)) - t103)) < (wrap64 (t103 - (wrap64 ((ji11) * t104)))))),(by first|rfl|(simp;done)|(simp only [← hji11] <;> (first|rfl|simp))|(simp [*];done)),H',⟨by first|omega|exact Nat.le_refl _⟩,⟨by repeat (first|(with_reducible first|exact HB.out|apply below_alloc|apply pw_below_drewN|apply below_drew1)|exact HB.out)⟩⟩
     ·rw [if_neg c15] at H
      have c15b0:decide ((ji11) < a2) = false:=decide_eq_false c15
      clear c15
      (first|rw [c15b0]|(simp only [i64_w,i32_w];rw [c15b0])|skip)
      have H':=Aside0.mk H
      clear H
      go_wp2
      go_meet
      case rel=>exact ⟨_,(false),(by first|rfl|(simp;done)|(simp [*];done)),H',⟨by first|omega|exact Nat.le_refl _⟩,⟨by repeat (first|(with_reducible first|exact HB.out|apply below_alloc|apply pw_below_drewN|apply below_drew1)|exact HB.out)⟩⟩
    case rest =>
     clear HC12
     try clear c1
     try clear c2
     try clear p2
     try clear c4
     try clear c5
     try clear p6
     try clear c7
     try clear c7b0
     try clear c7b1
     try clear c10
     try clear c10b0
     try clear c10b1
     try clear c15
     try clear c15b0
     obtain ⟨kq,x44_11,rfl,HA,HJ11,HB⟩:=hcut
     cases kq with
     | zero=>exact absurd HA.out (by simp [hedge_Best.j0])
     | succ kj11 =>
      have H:=HA.out
      clear HA
      simp only [hedge_Best.j0] at H
      by_cases c16:x44_11 = true
      ·subst c16
       have H1:(if ((decide (a0 > 0)) == (decide (a1 > 0))) = true then (some (wrap64 (-(wrap64 (ji11 + 1))),0)) else (some (wrap64 (ji11 + 1),0))) = some (r1,r2):=by rw [if_pos rfl] at H;exact H
       clear H
       have H:=H1
       clear H1
       by_cases c17:((decide (a0 > 0)) == (decide (a1 > 0))) = true
       ·rw [if_pos c17] at H
        have c17b0:((decide (a0 > 0)) == (decide (a1 > 0))) = true:=c17
        (try (have c17b1:decide ((decide (a0 > 0)) = (decide (a1 > 0))) = true:=by simpa using c17))
        (try (have c17b2:((decide (a0 > 0)) == (decide (a1 > 0))) = true:=by simpa using c17))
        clear c17
        simp only [Option.some.injEq,Prod.mk.injEq] at H
        obtain ⟨rfl,rfl⟩:=H
        go_wp2
        go_ret2
        exact ⟨by first|rfl|(simp [errW_none,errW_some] <;> rfl)|(simp only [← hji11];first|rfl|(simp [errW_none,errW_some] <;> rfl))|(simp [*,errW_none,errW_some] <;> rfl),by repeat (first|(with_reducible first|exact HB.out|apply below_alloc|apply pw_below_drewN|apply below_drew1)|exact HB.out)⟩
       ·rw [if_neg c17] at H
        have c17b0:((decide (a0 > 0)) == (decide (a1 > 0))) = false:=by simpa using c17
        (try (have c17b1:decide ((decide (a0 > 0)) = (decide (a1 > 0))) = false:=by simpa using c17))
        (try (have c17b2:((decide (a0 > 0)) == (decide (a1 > 0))) = false:=by simpa using c17))
        (try (have c17b3:¬ ((decide (a0 > 0)) = (decide (a1 > 0))):=by simpa using c17))
        clear c17
        simp only [Option.some.injEq,Prod.mk.injEq] at H
        obtain ⟨rfl,rfl⟩:=H
        go_wp2
        go_ret2
        exact ⟨by first|rfl|(simp [errW_none,errW_some] <;> rfl)|(simp only [← hji11];first|rfl|(simp [errW_none,errW_some] <;> rfl))|(simp [*,errW_none,errW_some] <;> rfl),by repeat (first|(with_reducible first|exact HB.out|apply below_alloc|apply pw_below_drewN|apply below_drew1)|exact HB.out)⟩
      ·replace c16:=Bool.eq_false_iff.mpr c16
       subst c16
       have H1:(if ((decide (a0 > 0)) == (decide (a1 > 0))) = true then (some (wrap64 (-ji11),0)) else (some (ji11,0))) = some (r1,r2):=by rw [if_neg (show ¬ (false = true) by decide)] at H;exact H
       clear H
       have H:=H1
       clear H1
       by_cases c18:((decide (a0 > 0)) == (decide (a1 > 0))) = true
       ·rw [if_pos c18] at H
        have c18b0:((decide (a0 > 0)) == (decide (a1 > 0))) = true:=c18
        (try (have c18b1:decide ((decide (a0 > 0)) = (decide (a1 > 0))) = true:=by simpa using c18))
        (try (have c18b2:((decide (a0 > 0)) == (decide (a1 > 0))) = true:=by simpa using c18))
        clear c18
        simp only [Option.some.injEq,Prod.mk.injEq] at H
        obtain ⟨rfl,rfl⟩:=H
        go_wp2
        go_ret2
        exact ⟨by first|rfl|(simp [errW_none,errW_some] <;> rfl)|(simp only [← hji11];first|rfl|(simp [errW_none,errW_some] <;> rfl))|(simp [*,errW_none,errW_some] <;> rfl),by repeat (first|(with_reducible first|exact HB.out|apply below_alloc|apply pw_below_drewN|apply below_drew1)|exact HB.out)⟩
       ·rw [if_neg c18] at H
        have c18b0:((decide (a0 > 0)) == (decide (a1 > 0))) = false:=by simpa using c18
        (try (have c18b1:decide ((decide (a0 > 0)) = (decide (a1 > 0))) = false:=by simpa using c18))
        (try (have c18b2:((decide (a0 > 0)) == (decide (a1 > 0))) = false:=by simpa using c18))
        (try (have c18b3:¬ ((decide (a0 > 0)) = (decide (a1 > 0))):=by simpa using c18))
        clear c18
        simp only [Option.some.injEq,Prod.mk.injEq] at H
        obtain ⟨rfl,rfl⟩:=H
        go_wp2
        go_ret2
        exact ⟨by first|rfl|(simp [errW_none,errW_some] <;> rfl)|(simp only [← hji11];first|rfl|(simp [errW_none,errW_some] <;> rfl))|(simp [*,errW_none,errW_some] <;> rfl),by repeat (first|(with_reducible first|exact HB.out|apply below_alloc|apply pw_below_drewN|apply below_drew1)|exact HB.out)⟩
  ·rw [if_neg c7] at H
   have c7b0:(t102 == 0) = false:=beq_eq_false_iff_ne.mpr c7
   have c7b1:(t102 != 0) = true:=bne_iff_ne.mpr c7
   simp only [Option.some.injEq,Prod.mk.injEq] at H
   obtain ⟨rfl,rfl⟩:=H
   go_enter Try.func21,Try.ntmps21
   go_wp2_with (first|((with_reducible refine gate_callee (f:=49) rfl ?_);refine goesL_ (some 11) rfl rfl Try.func49 (by kernel_rfl) rfl #[.int .i64 a0,.int .i64 1099511627776] rfl (by (try simp only [List.map_toArray,List.map_cons,List.map_nil]);first|done|rfl|(simp only [List.length_drop,List.length_take];rfl)) ?_;(with_reducible refine (hedge_within.calls a0 1099511627776 true _ A4.out).mono ?_);rintro e w' ⟨rfl,⟨nd,rfl⟩⟩;refine ⟨_,rfl,?_⟩)|((with_reducible refine gate_callee (f:=53) rfl ?_);refine goesL_ (some 15) rfl rfl Try.func53 (by kernel_rfl) rfl #[.int .i64 a1,.int .i64 a2] rfl (by (try simp only [List.map_toArray,List.map_cons,List.map_nil]);first|done|rfl|(simp only [List.length_drop,List.length_take];rfl)) ?_;(with_reducible refine (hedge_ask.calls k a1 a2 t102 _ A6.out).mono ?_);rintro e w' ⟨rfl,⟨nd,rfl⟩⟩;refine ⟨_,rfl,?_⟩))
   go_ret2
   exact ⟨by first|rfl|(simp [errW_none,errW_some] <;> rfl)|(simp [*,errW_none,errW_some] <;> rfl),by repeat (first|(with_reducible first|exact HB.out|apply below_alloc|apply pw_below_drewN|apply below_drew1)|exact HB.out)⟩
 ·replace c5:=Bool.eq_false_iff.mpr c5
  subst c5
  have H1:(some (0,2)) = some (r1,r2):=by rw [if_neg (show ¬ (false = true) by decide)] at H;exact H
  clear H
  have H:=H1
  clear H1
  simp only [Option.some.injEq,Prod.mk.injEq] at H
  obtain ⟨rfl,rfl⟩:=H
  go_enter Try.func21,Try.ntmps21
  go_wp2_with (first|((with_reducible refine gate_callee (f:=49) rfl ?_);refine goesL_ (some 11) rfl rfl Try.func49 (by kernel_rfl) rfl #[.int .i64 a0,.int .i64 1099511627776] rfl (by (try simp only [List.map_toArray,List.map_cons,List.map_nil]);first|done|rfl|(simp only [List.length_drop,List.length_take];rfl)) ?_;(with_reducible refine (hedge_within.calls a0 1099511627776 false _ A4.out).mono ?_);rintro e w' ⟨rfl,⟨nd,rfl⟩⟩;refine ⟨_,rfl,?_⟩))
  go_ret2
  exact ⟨by first|rfl|(simp [errW_none,errW_some] <;> rfl)|(simp [*,errW_none,errW_some] <;> rfl),by repeat (first|(with_reducible first|exact HB.out|apply below_alloc|apply pw_below_drewN|apply below_drew1)|exact HB.out)⟩
end Go.Proofs.Ytbgeceiddcokmaa.X
end
section
namespace Go.Proofs.Ytbgeceiddcokmaa.X
open Go.RowKit Go.Proofs.YtbgeceiddcokmaaW.PrintWords
def KT (T:TypeId) (W W':World):Prop:=∀ (g:Nat) (cs:Array Value),W.heap[g]? = some (.cells cs T (0,0)) → W'.heap[g]? = some (.cells cs T (0,0))
theorem KT.refl (T:TypeId) (W:World):KT T W W:=fun _ _ h=>h
theorem KT.trans {T:TypeId} {a b c:World} (h:KT T a b) (k:KT T b c):KT T a c:=fun g cs hg=>k g cs (h g cs hg)
theorem KT.alloc {T:TypeId} {a b:World} (h:KT T a b) (o:Obj):KT T a (b.alloc o):=fun g cs hg=>blk_alloc (h g cs hg) o
theorem KT.drew {T:TypeId} {a b:World} (h:KT T a b):KT T a b.drew:=h
theorem KT.drewN {T:TypeId} {a b:World} (h:KT T a b) (n:Nat):KT T a (b.drewN n):=h
theorem KT.setCell {T T':TypeId} {a b:World} (h:KT T a b) {p:Addr} {cs':Array Value} (hb:b.heap[p.block]? = some (.cells cs' T' (0,0))) (hne:T' ≠ T) (u:Value):KT T a (b.setCell p u):=fun g cs hg=>by
  have h1:=h g cs hg
  refine blk_far h1 (fun e=>?_) u
  rw [e,hb] at h1
  injection h1 with h2
  injection h2 with _ h3 _
  exact hne h3
theorem KT.below {T:TypeId} {a b c:World} (h:KT T a b) (hb:Below b.heap.size b c):KT T a c:=fun g cs hg=>blk_below (h g cs hg) hb
theorem KT.grown {T T':TypeId} {a b c:World} (h:KT T a b) {row:Option Nat} (hg:b.grownBy c row) (hr:∀ k,row = some k → ∃ cs',b.heap[k]? = some (.cells cs' T' (0,0))) (hne:T' ≠ T):KT T a c:=fun g cs hh=>by
  have h1:=h g cs hh
  refine blk_grown h1 hg (fun e=>?_)
  obtain ⟨cs',h2⟩:=hr g e.symm
  rw [h2] at h1
  injection h1 with h3
  injection h3 with _ h4 _
  exact hne h4
end Go.Proofs.Ytbgeceiddcokmaa.X
end
section
namespace Go.Proofs.Ytbgeceiddcokmaa.X
open Go.RowKit Go.Proofs.YtbgeceiddcokmaaW.PrintWords Go.Proofs.YtbgeceiddcokmaaW.PrintLast Go.Proofs.YtbgeceiddcokmaaW.PrintMore
attribute [local go_sem] max2_int min2_int max_two min_two max_three min_three max_four min_four
set_option linter.unusedVariables false
set_option linter.unusedSimpArgs false
open Go.Maps Go.WideMaps
set_option maxRecDepth 100000 in
theorem serLaid:laidOutB Try.prog = true:=by kernel_rfl
set_option maxRecDepth 100000 in
theorem serRow:(39:TypeId) < Try.prog.types.size:=of_decide_eq_true (by kernel_rfl)
set_option maxRecDepth 100000 in
theorem serWide:(match Try.prog.underlying 39 with|some (.array _ _)|some (.struct _)=>true|_=>false) = true:=by kernel_rfl
set_option maxRecDepth 100000 in
theorem serKeyed:Keyed Try.prog 39:=Keyed.of_law (deep_law_laid serLaid (m:=3) (by omega) serRow (by kernel_rfl) serWide)
set_option maxRecDepth 100000 in
theorem unitZero (w:World):(zeroValue 109).run Try.prog w = .ok (.agg #[]) w:=by kernel_rfl
def serVal (s:S39):Value:=.agg #[.string s.f0,.int .i64 s.f1,.int .i64 s.f2,.int .i64 s.f3]
def serOk (s:S39):Bool:=decide (s.f0.size ≤ maxLen) && ((Lit.int .i64 s.f1).wf && ((Lit.int .i64 s.f2).wf && (Lit.int .i64 s.f3).wf))
theorem kl_string (d:Nat) (s:ByteArray) (h:s.size ≤ maxLen):Try.prog.keyLits (d + 1) 9 [.string s] = some [.string s.data.toList]:=by
 simp only [Program.keyLits,Try.underlying9,if_pos h]
theorem kl_int (d:Nat) (n:Int) (h:(Lit.int .i64 n).wf = true):Try.prog.keyLits (d + 1) 3 [.int .i64 n] = some [.int .i64 n]:=by
 simp only [Program.keyLits,Try.underlying3,h,and_self,if_true]
set_option maxRecDepth 100000 in
theorem kl_ser (d:Nat) (s:S39) (h0:s.f0.size ≤ maxLen) (h1:(Lit.int .i64 s.f1).wf = true) (h2:(Lit.int .i64 s.f2).wf = true) (h3:(Lit.int .i64 s.f3).wf = true) :
  ∃ ls,Try.prog.keyLits (d + 2) 39 [.string s.f0,.int .i64 s.f1,.int .i64 s.f2,.int .i64 s.f3] = some ls:=by
 have hc:Try.prog.cellsOf 39 = 4:=by kernel_rfl
 have hcs:Try.prog.cellsOf 9 = 1:=by kernel_rfl
 have hci:Try.prog.cellsOf 3 = 1:=by kernel_rfl
 have e:d + 2 = (d + 1) + 1:=rfl
 rw [e]
 unfold Program.keyLits
 rw [Try.underlying39]
 simp [hc,hcs,hci,kl_string _ _ h0,kl_int _ _ h1,kl_int _ _ h2,kl_int _ _ h3]
set_option maxRecDepth 100000 in
theorem serKey_some (s:S39) (h:serOk s = true):∃ kl,keyOf Try.prog 39 (serVal s) = some kl:=by
 simp only [serOk,Bool.and_eq_true,decide_eq_true_eq] at h
 obtain ⟨h0,h1,h2,h3⟩:=h
 obtain ⟨ls,hl⟩:=kl_ser (Try.prog.types.size - 1) s h0 h1 h2 h3
 have hk:Try.prog.keyType 39 = true:=by kernel_rfl
 have hf:(serVal s).formed Try.prog 39 = true:=by
  have hc:Try.prog.cellsOf 39 = 4:=by kernel_rfl
  simp [serVal,Value.formed,Try.underlying39,hc]
 have hn:Try.prog.types.size - 1 + 2 = Try.prog.types.size + 1:=by
  have:0 < Try.prog.types.size:=of_decide_eq_true (by kernel_rfl)
  omega
 rw [hn] at hl
 refine ⟨.string (keyBytes ls),?_⟩
 unfold keyOf
 rw [Try.underlying39]
 simp only [hk,hf,Bool.and_self,if_true]
 show Option.map _ (Try.prog.keyLits _ _ [.string s.f0,.int .i64 s.f1,.int .i64 s.f2,.int .i64 s.f3]) = _
 rw [hl]
 rfl
def SeenD:List (S39) → DataW Unit → Prop
 | [],D=>D = .map []
 | s :: t,D=>∃ kl D',keyOf Try.prog 39 (serVal s) = some kl ∧ SeenD t D' ∧ D = D'.put kl (.agg [])
def serHas (seen:List (S39)) (s:S39):Bool:=seen.any fun x=>x.f0.toList == s.f0.toList && (x.f1 == s.f1 && (x.f2 == s.f2 && x.f3 == s.f3))
def hedgeGo:List (S39) → List S92 → Option Int
 | _,[]=>some 0
 | seen,h :: t=>if serOk h.f0 = true then (hedge_ask.f 5 h.f1 h.f2).bind fun e=>if e = 0 then (if serHas seen h.f0 = true then some 19 else hedgeGo (h.f0 :: seen) t) else some e else none
def hedge_Check.f (l:List S92):Option Int:=if (1024:Int) < (l.length:Int) then some 8 else hedgeGo [] l
theorem ba_same {a b:ByteArray} (h:a.toList = b.toList):a = b:=by
 have e:∀ c:ByteArray,c.toList = c.data.toList:=fun c=>ByteArray.toList_eq c
 rw [e,e] at h
 cases a;cases b
 congr 1
 exact Array.toList_inj.1 h
theorem serVal_inj {s t:S39} (h:serVal s = serVal t):s = t:=by
 cases s;cases t
 simp only [serVal,Value.agg.injEq,Array.mk.injEq,List.cons.injEq,Value.string.injEq,Value.int.injEq,and_true,true_and] at h
 obtain ⟨rfl,rfl,rfl,rfl⟩:=h
 rfl
theorem ser_same (x s:S39):(x.f0.toList == s.f0.toList && (x.f1 == s.f1 && (x.f2 == s.f2 && x.f3 == s.f3))) = true ↔ x = s:=by
 constructor
 ·intro h
  simp only [Bool.and_eq_true,beq_iff_eq] at h
  obtain ⟨h0,h1,h2,h3⟩:=h
  cases x;cases s
  simp only at h0 h1 h2 h3
  have:=ba_same h0
  subst this h1 h2 h3
  rfl
 ·rintro rfl;simp
theorem seen_isMap:∀ (seen:List (S39)) (D:DataW Unit),SeenD seen D → IsMap D
 | [],D,h=>by rw [show D = .map [] from h];exact ⟨_,rfl⟩
 | s :: t,D,h=>by
  obtain ⟨kl,D',_,h1,rfl⟩:=h
  obtain ⟨m,hm⟩:=seen_isMap t D' h1
  rw [hm,DataW.put_eq]
  exact ⟨_,rfl⟩
set_option maxRecDepth 100000 in
theorem has_seen:∀ (seen:List (S39)) (D:DataW Unit) (s:S39) (kl:Lit),SeenD seen D → keyOf Try.prog 39 (serVal s) = some kl → Maps.has D kl = serHas seen s
 | [],D,s,kl,h,_=>by rw [show D = .map [] from h];simp [serHas,Maps.has]
 | x :: t,D,s,kl,h,hk=>by
  obtain ⟨kx,D',hx,h1,rfl⟩:=h
  have ih:=has_seen t D' s kl h1 hk
  by_cases e:kl = kx
  ·subst e
   rw [has_put_same (seen_isMap t D' h1) (serKeyed.key hx)]
   have:x = s:=serVal_inj (serKeyed.inj hx hk)
   subst this
   simp [serHas]
  ·rw [has_put_other e,ih]
   have hne:¬ x = s:=by rintro rfl;rw [hx] at hk;exact e (Option.some.inj hk).symm
   have hf:(x.f0.toList == s.f0.toList && (x.f1 == s.f1 && (x.f2 == s.f2 && x.f3 == s.f3))) = false:=by
    rw [← Bool.not_eq_true,ser_same];exact hne
   unfold serHas
   rw [List.any_cons,hf,Bool.false_or]
set_option maxHeartbeats 1600000 in
set_option maxRecDepth 100000 in
theorem hedge_Check.calls (A0:Option Addr) (c0:Nat) (l0:List S92) (r:Int) (w:World) (hr0:Kd.C k92 w A0 l0.length l0) (hc0:l0.length ≤ c0) (h:hedge_Check.f l0 = some r) :
  Calls Try.prog 19 #[.slice A0 l0.length c0] w fun e w'=>e = .returned (.int .i64 r) ∧ Below w.heap.size w w':=by
 have HR:=Aside0.mk hr0
 have hmm:=@run_makeMap Try.prog
 have hlen:=(show l0.length ≤ 9223372036854775807 from Kd.C_max hr0)
 clear hr0
 unfold hedge_Check.f at h
 by_cases c1:(1024:Int) < (l0.length:Int)
 ·rw [if_pos c1] at h
  obtain rfl:=Option.some.inj h
  go_enter Try.func19,Try.ntmps19
  go_wp2
  go_ret
  exact ⟨rfl,Below.refl _ _⟩
 ·rw [if_neg c1] at h
  have HE:=Aside0.mk h
  clear h
  go_enter Try.func19,Try.ntmps19
  go_wp2_with fail
  go_loopg [14] l0.length (fun kq v14 wr=>∃ (i:Nat) (seen:List (S39)) (D:DataW Unit),v14 = .int .i64 (i:Int) ∧ Aside0 (kq + i = l0.length) ∧ Aside0 (hedgeGo seen (l0.drop i) = some r) ∧ Aside0 (wr.ownsMap Try.prog 39 unitElem w.heap.size i D) ∧ Aside0 (SeenD seen D) ∧ Aside0 (Below w.heap.size w wr) ∧ Aside0 (w.heap.size < wr.heap.size))
  case atStart=>exact ⟨0,[],.map [],rfl,⟨by omega⟩,HE,⟨World.ownsMap_made _ _ _ _⟩,⟨rfl⟩,⟨(Below.refl _ _).alloc (Nat.le_refl _) _⟩,⟨by simp⟩⟩
  case round =>
   obtain ⟨i,seen,D,rfl,Hk,HG,HM,HS,HB2,HL⟩:=hrel
   have hfl:=HL.out
   by_cases hlt:i < l0.length
   ·obtain ⟨ad,ea,hx0,hx1,hx2,hx3,hx4,hx5⟩:=at_T92 HR.out (i:Int) (by omega) (by omega)
    cases ea
    replace hx0:=(HB2.out.cell (World.block_lt_of_cell? w _ hx0)).trans hx0
    replace hx1:=(HB2.out.cell (World.block_lt_of_cell? w _ hx1)).trans hx1
    replace hx2:=(HB2.out.cell (World.block_lt_of_cell? w _ hx2)).trans hx2
    replace hx3:=(HB2.out.cell (World.block_lt_of_cell? w _ hx3)).trans hx3
    replace hx4:=(HB2.out.cell (World.block_lt_of_cell? w _ hx4)).trans hx4
    replace hx5:=(HB2.out.cell (World.block_lt_of_cell? w _ hx5)).trans hx5
    have hti:rd_T92 l0 (i:Int) = l0[i]:=by simp [rd_T92,hlt]
    have hdrop:l0.drop i = l0[i] :: l0.drop (i + 1):=(List.getElem_cons_drop hlt).symm
    rw [hti,Int.toNat_natCast] at hx0 hx1 hx2 hx3 hx4 hx5
    obtain ⟨t,ht⟩:∃ t,l0[i] = t:=⟨_,rfl⟩
    rw [ht] at hx0 hx1 hx2 hx3 hx4 hx5 hdrop
    have HG2:=HG.out
    rw [hdrop,hedgeGo] at HG2
    by_cases hok:serOk t.f0 = true
    case neg=>rw [if_neg hok] at HG2;simp at HG2
    case pos =>
     obtain ⟨kl,hks⟩:=serKey_some t.f0 hok
     rw [if_pos hok] at HG2
     obtain ⟨e,he,HG3⟩:=Option.bind_eq_some_iff.1 HG2
     have HK:=Aside0.mk hks
     have HA:=Aside0.mk he
     have HLT:=Aside0.mk hlt
     have HHS:=Aside0.mk (has_seen seen D t.f0 kl HS.out hks)
     clear hti ht hdrop HG2 HG hks he hok
     by_cases e0:e = 0
     ·subst e0
      rw [if_pos rfl] at HG3
      cases hh:serHas seen t.f0 with
      | true =>
       rw [hh,if_pos rfl] at HG3
       obtain rfl:=Option.some.inj HG3
       have HH:=Aside0.mk hh
       clear hh HG3
       go_wp2_with (first
        | (go_at_call 53;refine (hedge_ask.calls 5 _ _ 0 _ HA.out).mono ?_;rintro e1 w1 ⟨rfl,⟨nd,rfl⟩⟩)
        | (at_lookup;refine wpList_lookup_own_unit _ rfl _ _ 107 rfl 39 109 serKeyed Try.underlying107 (unitZero _) w.heap.size i _ rfl (HM.out.alloc _) _ kl rfl HK.out ?_;rw [HHS.out,HH.out]))
       go_ret
       exact ⟨rfl,by repeat (first|(with_reducible first|exact HB2.out|apply below_alloc|apply pw_below_drewN|apply below_drew1)|exact HB2.out)⟩
      | false =>
       rw [hh,if_neg (by simp)] at HG3
       have HH:=Aside0.mk hh
       have HG4:=Aside0.mk HG3
       clear hh HG3
       go_wp2_with (first
        | (go_at_call 53;refine (hedge_ask.calls 5 _ _ 0 _ HA.out).mono ?_;rintro e1 w1 ⟨rfl,⟨nd,rfl⟩⟩)
        | (at_lookup;refine wpList_lookup_own_unit _ rfl _ _ 107 rfl 39 109 serKeyed Try.underlying107 (unitZero _) w.heap.size i _ rfl (HM.out.alloc _) _ kl rfl HK.out ?_;rw [HHS.out,HH.out])
        | (at_mapUpdate;refine wpList_mapUpdate_own _ rfl _ _ _ 107 rfl 39 109 serKeyed Try.underlying107 (unitElem (H:=Unit)) w.heap.size i _ rfl ((HM.out.alloc _).alloc _) (by unfold maxLen;omega) _ _ kl rfl rfl HK.out _ [] unitElem_mk ?_;intro w2 hown2 hgrow2;have HM2:=Aside0.mk hown2;have HG5:=Aside0.mk hgrow2;clear hown2 hgrow2))
       have s2:=HG5.out.size
       simp at s2
       go_roundg (gk - 1)
       case measure=>have:=Hk.out;omega
       case rel =>
        refine ⟨i + 1,t.f0 :: seen,_,by go_num,⟨by have:=Hk.out;omega⟩,HG4,HM2,⟨⟨kl,D,HK.out,HS.out,rfl⟩⟩,⟨?_⟩,⟨by omega⟩⟩
        ·exact Below.grown (by repeat (first|(with_reducible first|exact HB2.out|apply below_alloc|apply pw_below_drewN|apply below_drew1)|exact HB2.out)) HG5.out (by simp;omega) (fun j hj=>by cases hj;exact Nat.le_refl _)
     ·rw [if_neg e0] at HG3
      obtain rfl:=Option.some.inj HG3
      have hb0:(e != 0) = true:=bne_iff_ne.2 e0
      clear e0 HG3
      go_wp2_with (go_at_call 53;refine (hedge_ask.calls 5 _ _ e _ HA.out).mono ?_;rintro e1 w1 ⟨rfl,⟨nd,rfl⟩⟩)
      go_ret
      exact ⟨rfl,by repeat (first|(with_reducible first|exact HB2.out|apply below_alloc|apply pw_below_drewN|apply below_drew1)|exact HB2.out)⟩
   ·go_wp2_with fail
    go_ret
    have hd:=HG.out
    rw [List.drop_of_length_le (by omega),hedgeGo] at hd
    rw [← Option.some.inj hd]
    exact ⟨rfl,HB2.out⟩
end Go.Proofs.Ytbgeceiddcokmaa.X
end
section
namespace Go.Proofs.Ytbgeceiddcokmaa.X
open Go.RowKit Go.Proofs.YtbgeceiddcokmaaW.PrintWords Go.Proofs.YtbgeceiddcokmaaW.PrintLast Go.Proofs.YtbgeceiddcokmaaW.PrintMore
attribute [local go_sem] max2_int min2_int max_two min_two max_three min_three max_four min_four
set_option linter.unusedVariables false
set_option linter.unusedSimpArgs false
def cmp_isNaN_string.f (a0:ByteArray):Option (Bool):=some (a0.toList != a0.toList)
set_option maxHeartbeats 8000000 in
set_option maxRecDepth 100000 in
theorem cmp_isNaN_string.calls (a0:ByteArray) (r:Bool) (w:World) (h:cmp_isNaN_string.f a0 = some r) :
  Calls Try.prog 101 #[.string a0] w fun e w'=>e = .returned (.bool r) ∧ Drawn0 w w':=by
 have H:(some (a0.toList != a0.toList)) = some r:=h
 clear h
 obtain rfl:=Option.some.inj H
 go_enter Try.func101,Try.ntmps101
 go_wp2
 go_ret
 exact ⟨by first|rfl|(simp;done)|(simp [*];done),by repeat (first|exact Drawn0.refl _|apply Drawn0.step)⟩
end Go.Proofs.Ytbgeceiddcokmaa.X
end
section
namespace Go.Proofs.Ytbgeceiddcokmaa.X
open Go.RowKit Go.Proofs.YtbgeceiddcokmaaW.PrintWords Go.Proofs.YtbgeceiddcokmaaW.PrintLast Go.Proofs.YtbgeceiddcokmaaW.PrintMore
attribute [local go_sem] max2_int min2_int max_two min_two max_three min_three max_four min_four
set_option linter.unusedVariables false
set_option linter.unusedSimpArgs false
def cmp_Less_string.f (a0:ByteArray) (a1:ByteArray):Option (Bool):=(cmp_isNaN_string.f a0).bind fun t101=>(if t101 = true then ((cmp_isNaN_string.f a1).bind fun t102=>(if t102 = true then (some (Op.bytesLess a0.toList a1.toList)) else (some true))) else (some (Op.bytesLess a0.toList a1.toList)))
set_option maxHeartbeats 8000000 in
set_option maxRecDepth 100000 in
theorem cmp_Less_string.calls (a0:ByteArray) (a1:ByteArray) (r:Bool) (w:World) (h:cmp_Less_string.f a0 a1 = some r) :
  Calls Try.prog 99 #[.string a0,.string a1] w fun e w'=>e = .returned (.bool r) ∧ Drawn0 w w':=by
 have H:((cmp_isNaN_string.f a0).bind fun t101=>(if t101 = true then ((cmp_isNaN_string.f a1).bind fun t102=>(if t102 = true then (some (Op.bytesLess a0.toList a1.toList)) else (some true))) else (some (Op.bytesLess a0.toList a1.toList)))) = some r:=h
 clear h
 replace H:=Option.bind_eq_some_iff.mp H
 obtain ⟨t101,A30,H⟩:=H
 replace H:(if t101 = true then ((cmp_isNaN_string.f a1).bind fun t102=>(if t102 = true then (some (Op.bytesLess a0.toList a1.toList)) else (some true))) else (some (Op.bytesLess a0.toList a1.toList))) = some r:=H
 have A3:=Aside0.mk A30
 clear A30
 by_cases c4:t101 = true
 ·subst c4
  have H1:((cmp_isNaN_string.f a1).bind fun t102=>(if t102 = true then (some (Op.bytesLess a0.toList a1.toList)) else (some true))) = some r:=by rw [if_pos rfl] at H;exact H
  clear H
  have H:=H1
  clear H1
  replace H:=Option.bind_eq_some_iff.mp H
  obtain ⟨t102,A50,H⟩:=H
  replace H:(if t102 = true then (some (Op.bytesLess a0.toList a1.toList)) else (some true)) = some r:=H
  have A5:=Aside0.mk A50
  clear A50
  by_cases c6:t102 = true
  ·subst c6
   have H1:(some (Op.bytesLess a0.toList a1.toList)) = some r:=by rw [if_pos rfl] at H;exact H
   clear H
   have H:=H1
   clear H1
   obtain rfl:=Option.some.inj H
   go_enter Try.func99,Try.ntmps99
   go_wp2_with (first|((with_reducible refine gate_callee (f:=101) rfl ?_);refine goesL_ (some 6) rfl rfl Try.func101 (by kernel_rfl) rfl #[.string a0] rfl (by (try simp only [List.map_toArray,List.map_cons,List.map_nil]);first|done|rfl|(simp only [List.length_drop,List.length_take];rfl)) ?_;(with_reducible refine (cmp_isNaN_string.calls a0 true _ A3.out).mono ?_);rintro e w' ⟨rfl,⟨nd,rfl⟩⟩;refine ⟨_,rfl,?_⟩)|(go_at_call 101;(with_reducible refine (cmp_isNaN_string.calls a1 true _ A5.out).mono ?_);rintro e w' ⟨rfl,⟨nd,rfl⟩⟩))
   go_ret
   exact ⟨by first|rfl|(simp;done)|(simp [*];done),by repeat (first|exact Drawn0.refl _|apply Drawn0.step)⟩
  ·replace c6:=Bool.eq_false_iff.mpr c6
   subst c6
   have H1:(some true) = some r:=by rw [if_neg (show ¬ (false = true) by decide)] at H;exact H
   clear H
   have H:=H1
   clear H1
   obtain rfl:=Option.some.inj H
   go_enter Try.func99,Try.ntmps99
   go_wp2_with (first|((with_reducible refine gate_callee (f:=101) rfl ?_);refine goesL_ (some 6) rfl rfl Try.func101 (by kernel_rfl) rfl #[.string a0] rfl (by (try simp only [List.map_toArray,List.map_cons,List.map_nil]);first|done|rfl|(simp only [List.length_drop,List.length_take];rfl)) ?_;(with_reducible refine (cmp_isNaN_string.calls a0 true _ A3.out).mono ?_);rintro e w' ⟨rfl,⟨nd,rfl⟩⟩;refine ⟨_,rfl,?_⟩)|(go_at_call 101;(with_reducible refine (cmp_isNaN_string.calls a1 false _ A5.out).mono ?_);rintro e w' ⟨rfl,⟨nd,rfl⟩⟩))
   go_ret
   exact ⟨by first|rfl|(simp;done)|(simp [*];done),by repeat (first|exact Drawn0.refl _|apply Drawn0.step)⟩
 ·replace c4:=Bool.eq_false_iff.mpr c4
  subst c4
  have H1:(some (Op.bytesLess a0.toList a1.toList)) = some r:=by rw [if_neg (show ¬ (false = true) by decide)] at H;exact H
  clear H
  have H:=H1
  clear H1
  obtain rfl:=Option.some.inj H
  go_enter Try.func99,Try.ntmps99
  go_wp2_with (first|((with_reducible refine gate_callee (f:=101) rfl ?_);refine goesL_ (some 6) rfl rfl Try.func101 (by kernel_rfl) rfl #[.string a0] rfl (by (try simp only [List.map_toArray,List.map_cons,List.map_nil]);first|done|rfl|(simp only [List.length_drop,List.length_take];rfl)) ?_;(with_reducible refine (cmp_isNaN_string.calls a0 false _ A3.out).mono ?_);rintro e w' ⟨rfl,⟨nd,rfl⟩⟩;refine ⟨_,rfl,?_⟩))
  go_ret
  exact ⟨by first|rfl|(simp;done)|(simp [*];done),by repeat (first|exact Drawn0.refl _|apply Drawn0.step)⟩
end Go.Proofs.Ytbgeceiddcokmaa.X
end
section
namespace Go.Proofs.Ytbgeceiddcokmaa.X
open Go.RowKit Go.Proofs.YtbgeceiddcokmaaW.PrintWords Go.Proofs.YtbgeceiddcokmaaW.PrintLast Go.Proofs.YtbgeceiddcokmaaW.PrintMore
attribute [local go_sem] max2_int min2_int max_two min_two max_three min_three max_four min_four
set_option linter.unusedVariables false
set_option linter.unusedSimpArgs false
def slices_isNaN_string.f (a0:ByteArray):Option (Bool):=some (a0.toList != a0.toList)
set_option maxHeartbeats 8000000 in
set_option maxRecDepth 100000 in
theorem slices_isNaN_string.calls (a0:ByteArray) (r:Bool) (w:World) (h:slices_isNaN_string.f a0 = some r) :
  Calls Try.prog 100 #[.string a0] w fun e w'=>e = .returned (.bool r) ∧ Drawn0 w w':=by
 have H:(some (a0.toList != a0.toList)) = some r:=h
 clear h
 obtain rfl:=Option.some.inj H
 go_enter Try.func100,Try.ntmps100
 go_wp2
 go_ret
 exact ⟨by first|rfl|(simp;done)|(simp [*];done),by repeat (first|exact Drawn0.refl _|apply Drawn0.step)⟩
end Go.Proofs.Ytbgeceiddcokmaa.X
end
section
namespace Go.Proofs.Ytbgeceiddcokmaa.X
open Go.RowKit Go.Proofs.YtbgeceiddcokmaaW.PrintWords Go.Proofs.YtbgeceiddcokmaaW.PrintLast Go.Proofs.YtbgeceiddcokmaaW.PrintMore
attribute [local go_sem] max2_int min2_int max_two min_two max_three min_three max_four min_four
set_option linter.unusedVariables false
set_option linter.unusedSimpArgs false
def slices_BinarySearch_string_string.l0:Nat → List ByteArray → ByteArray → Int → Int → Int → Option (Int × Bool)
 | 0,_,_,_,_,_=>none
 | k + 1,x0,x1,x6,x7,x8=>if x7 < x8 then (if 0 ≤ (wrap64 ((IntKind.u64.wrap (wrap64 (x7 + x8))) / 2)) then (if (wrap64 ((IntKind.u64.wrap (wrap64 (x7 + x8))) / 2)) < (x0.length:Int) then ((cmp_Less_string.f (rdOf ByteArray.empty x0 (wrap64 ((IntKind.u64.wrap (wrap64 (x7 + x8))) / 2))) x1).bind fun t102=>(if t102 = true then (slices_BinarySearch_string_string.l0 k x0 x1 x6 (wrap64 ((wrap64 ((IntKind.u64.wrap (wrap64 (x7 + x8))) / 2)) + 1)) x8) else (slices_BinarySearch_string_string.l0 k x0 x1 x6 x7 (wrap64 ((IntKind.u64.wrap (wrap64 (x7 + x8))) / 2))))) else (none)) else (none)) else (if x7 < x6 then (if 0 ≤ x7 then (if x7 < (x0.length:Int) then (if (rdOf ByteArray.empty x0 x7).toList = x1.toList then (some (x7,true)) else ((slices_isNaN_string.f (rdOf ByteArray.empty x0 x7)).bind fun t105=>(if t105 = true then ((slices_isNaN_string.f x1).bind fun t106=>(some (x7,t106))) else (some (x7,false))))) else (none)) else (none)) else (some (x7,false)))
def slices_BinarySearch_string_string.f (k:Nat) (l0:List ByteArray) (a1:ByteArray):Option (Int × Bool):=slices_BinarySearch_string_string.l0 k l0 a1 (l0.length:Int) 0 (l0.length:Int)
set_option maxHeartbeats 8000000 in
set_option maxRecDepth 100000 in
theorem slices_BinarySearch_string_string.calls (k:Nat) (A0:Option Addr) (c0:Nat) (l0:List ByteArray) (a1:ByteArray) (r1:Int) (r2:Bool) (w:World) (hr0:Kd.C Kd.string w A0 l0.length l0) (hc0:l0.length ≤ c0) (h:slices_BinarySearch_string_string.f k l0 a1 = some (r1,r2)) :
  Calls Try.prog 78 #[.slice A0 l0.length c0,.string a1] w fun e w'=>e = .returned (.tuple #[.int .i64 r1,.bool r2]) ∧ Drawn0 w w':=by
 have HR0:=Aside0.mk hr0
 have HC0:=Aside0.mk hc0
 clear hr0 hc0
 have H:(slices_BinarySearch_string_string.l0 k l0 a1 (l0.length:Int) 0 (l0.length:Int)) = some (r1,r2):=h
 clear h
 have H':=Aside0.mk H
 clear H
 go_enter Try.func78,Try.ntmps78
 go_wp2
 go_loopg [7,8] k (fun kq v7 v8 w'=>∃ (x7_1:Int) (x8_1:Int),v7 = .int .i64 x7_1 ∧ v8 = .int .i64 x8_1 ∧ Aside0 (slices_BinarySearch_string_string.l0 kq l0 a1 (l0.length:Int) x7_1 x8_1 = some (r1,r2)) ∧ Aside0 (kq ≤ k) ∧ Drawn0 w w')
 case atStart=>exact ⟨(0),((l0.length:Int)),(by first|rfl|(simp;done)|(simp [*];done)),(by first|rfl|(simp;done)|(simp [*];done)),H',⟨Nat.le_refl _⟩,by repeat (first|exact Drawn0.refl _|apply Drawn0.step)⟩
 case round =>
  clear H'
  try clear p2
  obtain ⟨x7_1,x8_1,rfl,rfl,HA,HK1,⟨m1,rfl⟩⟩:=hrel
  cases gk with
  | zero=>exact absurd HA.out (by simp [slices_BinarySearch_string_string.l0])
  | succ k1 =>
   have H:=HA.out
   clear HA
   simp only [slices_BinarySearch_string_string.l0] at H
   by_cases c3:x7_1 < x8_1
   ·rw [if_pos c3] at H
    have c3b0:decide (x7_1 < x8_1) = true:=decide_eq_true c3
    clear c3
    obtain ⟨ji4,hji4⟩:∃ j_:Int,(wrap64 ((IntKind.u64.wrap (wrap64 (x7_1 + x8_1))) / 2)) = j_:=⟨_,rfl⟩
    replace H:(if 0 ≤ (ji4) then (if (ji4) < (l0.length:Int) then ((cmp_Less_string.f (rdOf ByteArray.empty l0 (ji4)) a1).bind fun t102=>(if t102 = true then (slices_BinarySearch_string_string.l0 k1 l0 a1 (l0.length:Int) (wrap64 ((ji4) + 1)) x8_1) else (slices_BinarySearch_string_string.l0 k1 l0 a1 (l0.length:Int) x7_1 ji4))) else (none)) else (none)) = some (r1,r2):=by first|(rw [hji4] at H;exact H)|(simp only [hji4] at H ⊢;exact H)
    have hji4w:(IntKind.i64.wrap ((IntKind.u64.wrap (wrap64 (x7_1 + x8_1))) / 2)) = ji4:=(i64_w _).trans hji4
    by_cases c5:0 ≤ (ji4)
    ·rw [if_pos c5] at H
     have c5b0:decide (0 ≤ (ji4)) = true:=decide_eq_true c5
     clear c5
     by_cases c6:(ji4) < (l0.length:Int)
     ·rw [if_pos c6] at H
      have c6b0:decide ((ji4) < (l0.length:Int)) = true:=decide_eq_true c6
      clear c6
      replace H:=Option.bind_eq_some_iff.mp H
      obtain ⟨t102,A70,H⟩:=H
      replace H:(if t102 = true then (slices_BinarySearch_string_string.l0 k1 l0 a1 (l0.length:Int) (wrap64 ((ji4) + 1)) x8_1) else (slices_BinarySearch_string_string.l0 k1 l0 a1 (l0.length:Int) x7_1 ji4)) = some (r1,r2):=H
      have A7:=Aside0.mk A70
      clear A70
      by_cases c8:t102 = true
      ·subst c8
       have H1:(slices_BinarySearch_string_string.l0 k1 l0 a1 (l0.length:Int) (wrap64 ((ji4) + 1)) x8_1) = some (r1,r2):=by rw [if_pos rfl] at H;exact H
       clear H
       have H:=H1
       clear H1
       have H':=Aside0.mk H
       clear H
       have p101:0 ≤ ((ji4):Int):=of_decide_eq_true (by first|(with_reducible assumption)|assumption)
       have q101:(ji4) < (l0.length:Int):=of_decide_eq_true (by first|(with_reducible assumption)|assumption)
       obtain ⟨ad101,e101,hx101_0⟩:=Kd.at_string HR0.out (ji4) p101 q101
       cases e101
       replace p101:=eq_true p101
       replace q101:=eq_true q101
       go_wp2_with (first|((with_reducible refine gate_callee (f:=99) rfl ?_);refine goesL_ (some 27) rfl rfl Try.func99 (by kernel_rfl) rfl #[.string (rdOf ByteArray.empty l0 (ji4)),.string a1] rfl (by (try simp only [List.map_toArray,List.map_cons,List.map_nil]);first|done|(simp only [hji4];rfl)|rfl|(simp only [List.length_drop,List.length_take];rfl)) ?_;(with_reducible refine (cmp_Less_string.calls (rdOf ByteArray.empty l0 (ji4)) a1 true _ A7.out).mono ?_);rintro e w' ⟨rfl,⟨nd,rfl⟩⟩;refine ⟨_,rfl,?_⟩))
       go_roundg k1
       case measure=>have:=HK1.out;omega
       case rel=>exact ⟨(wrap64 ((ji4) + 1)),(x8_1),(by first|rfl|(simp;done)|(simp only [← hji4] <;> (first|rfl|simp))|(simp [*];done)),(by first|rfl|(simp;done)|(simp [*];done)),H',⟨by have:=HK1.out;omega⟩,by repeat (first|exact Drawn0.refl _|apply Drawn0.step)⟩
      ·replace c8:=Bool.eq_false_iff.mpr c8
       subst c8
       have H1:(slices_BinarySearch_string_string.l0 k1 l0 a1 (l0.length:Int) x7_1 ji4) = some (r1,r2):=by rw [if_neg (show ¬ (false = true) by decide)] at H;exact H
       clear H
       have H:=H1
       clear H1
       have H':=Aside0.mk H
       clear H
       have p101:0 ≤ ((ji4):Int):=of_decide_eq_true (by first|(with_reducible assumption)|assumption)
       have q101:(ji4) < (l0.length:Int):=of_decide_eq_true (by first|(with_reducible assumption)|assumption)
       obtain ⟨ad101,e101,hx101_0⟩:=Kd.at_string HR0.out (ji4) p101 q101
       cases e101
       replace p101:=eq_true p101
       replace q101:=eq_true q101
       go_wp2_with (first|((with_reducible refine gate_callee (f:=99) rfl ?_);refine goesL_ (some 27) rfl rfl Try.func99 (by kernel_rfl) rfl #[.string (rdOf ByteArray.empty l0 (ji4)),.string a1] rfl (by (try simp only [List.map_toArray,List.map_cons,List.map_nil]);first|done|(simp only [hji4];rfl)|rfl|(simp only [List.length_drop,List.length_take];rfl)) ?_;(with_reducible refine (cmp_Less_string.calls (rdOf ByteArray.empty l0 (ji4)) a1 false _ A7.out).mono ?_);rintro e w' ⟨rfl,⟨nd,rfl⟩⟩;refine ⟨_,rfl,?_⟩))
       go_roundg k1
       case measure=>have:=HK1.out;omega
       case rel=>exact ⟨(x7_1),(ji4),(by first|rfl|(simp;done)|(simp [*];done)),(by first|rfl|(simp;done)|(simp only [← hji4] <;> (first|rfl|simp))|(simp [*];done)),H',⟨by have:=HK1.out;omega⟩,by repeat (first|exact Drawn0.refl _|apply Drawn0.step)⟩
     ·rw [if_neg c6] at H
      exact absurd H (by simp)
    ·rw [if_neg c5] at H
     exact absurd H (by simp)
   ·rw [if_neg c3] at H
    have c3b0:decide (x7_1 < x8_1) = false:=decide_eq_false c3
    clear c3
    by_cases c9:x7_1 < (l0.length:Int)
    ·rw [if_pos c9] at H
     have c9b0:decide (x7_1 < (l0.length:Int)) = true:=decide_eq_true c9
     clear c9
     by_cases c10:0 ≤ x7_1
     ·rw [if_pos c10] at H
      have c10b0:decide (0 ≤ x7_1) = true:=decide_eq_true c10
      clear c10
      by_cases c11:x7_1 < (l0.length:Int)
      ·rw [if_pos c11] at H
       have c11b0:decide (x7_1 < (l0.length:Int)) = true:=decide_eq_true c11
       clear c11
       by_cases c12:(rdOf ByteArray.empty l0 x7_1).toList = a1.toList
       ·rw [if_pos c12] at H
        have c12b0:((rdOf ByteArray.empty l0 x7_1).toList == a1.toList) = true:=beq_iff_eq.mpr c12
        have c12b1:((rdOf ByteArray.empty l0 x7_1).toList != a1.toList) = false:=bne_eq_false_iff_eq.mpr c12
        clear c12
        simp only [Option.some.injEq,Prod.mk.injEq] at H
        obtain ⟨rfl,rfl⟩:=H
        have p103:0 ≤ (x7_1:Int):=of_decide_eq_true (by first|(with_reducible assumption)|assumption)
        have q103:x7_1 < (l0.length:Int):=of_decide_eq_true (by first|(with_reducible assumption)|assumption)
        obtain ⟨ad103,e103,hx103_0⟩:=Kd.at_string HR0.out x7_1 p103 q103
        cases e103
        replace p103:=eq_true p103
        replace q103:=eq_true q103
        go_wp2
        go_ret2
        exact ⟨by first|rfl|(simp;done)|(simp [*];done),by repeat (first|exact Drawn0.refl _|apply Drawn0.step)⟩
       ·rw [if_neg c12] at H
        have c12b0:((rdOf ByteArray.empty l0 x7_1).toList == a1.toList) = false:=beq_eq_false_iff_ne.mpr c12
        have c12b1:((rdOf ByteArray.empty l0 x7_1).toList != a1.toList) = true:=bne_iff_ne.mpr c12
        replace H:=Option.bind_eq_some_iff.mp H
        obtain ⟨t105,A130,H⟩:=H
        replace H:(if t105 = true then ((slices_isNaN_string.f a1).bind fun t106=>(some (x7_1,t106))) else (some (x7_1,false))) = some (r1,r2):=H
        have A13:=Aside0.mk A130
        clear A130
        by_cases c14:t105 = true
        ·subst c14
         have H1:((slices_isNaN_string.f a1).bind fun t106=>(some (x7_1,t106))) = some (r1,r2):=by rw [if_pos rfl] at H;exact H
         clear H
         have H:=H1
         clear H1
         replace H:=Option.bind_eq_some_iff.mp H
         obtain ⟨t106,A150,H⟩:=H
         replace H:(some (x7_1,t106)) = some (r1,r2):=H
         have A15:=Aside0.mk A150
         clear A150
         simp only [Option.some.injEq,Prod.mk.injEq] at H
         obtain ⟨rfl,rfl⟩:=H
         have p103:0 ≤ (x7_1:Int):=of_decide_eq_true (by first|(with_reducible assumption)|assumption)
         have q103:x7_1 < (l0.length:Int):=of_decide_eq_true (by first|(with_reducible assumption)|assumption)
         obtain ⟨ad103,e103,hx103_0⟩:=Kd.at_string HR0.out x7_1 p103 q103
         cases e103
         replace p103:=eq_true p103
         replace q103:=eq_true q103
         have p104:0 ≤ (x7_1:Int):=of_decide_eq_true (by first|(with_reducible assumption)|assumption)
         have q104:x7_1 < (l0.length:Int):=of_decide_eq_true (by first|(with_reducible assumption)|assumption)
         obtain ⟨ad104,e104,hx104_0⟩:=Kd.at_string HR0.out x7_1 p104 q104
         obtain rfl:ad103 = ad104:=(by injection e104)
         replace p104:=eq_true p104
         replace q104:=eq_true q104
         go_wp2_with (first|(go_at_call 100;(with_reducible refine (slices_isNaN_string.calls (rdOf ByteArray.empty l0 x7_1) true _ A13.out).mono ?_);rintro e w' ⟨rfl,⟨nd,rfl⟩⟩)|(go_at_call 100;(with_reducible refine (slices_isNaN_string.calls a1 t106 _ A15.out).mono ?_);rintro e w' ⟨rfl,⟨nd,rfl⟩⟩))
         go_ret2
         exact ⟨by first|rfl|(simp;done)|(simp [*];done),by repeat (first|exact Drawn0.refl _|apply Drawn0.step)⟩
        ·replace c14:=Bool.eq_false_iff.mpr c14
         subst c14
         have H1:(some (x7_1,false)) = some (r1,r2):=by rw [if_neg (show ¬ (false = true) by decide)] at H;exact H
         clear H
         have H:=H1
         clear H1
         simp only [Option.some.injEq,Prod.mk.injEq] at H
         obtain ⟨rfl,rfl⟩:=H
         have p103:0 ≤ (x7_1:Int):=of_decide_eq_true (by first|(with_reducible assumption)|assumption)
         have q103:x7_1 < (l0.length:Int):=of_decide_eq_true (by first|(with_reducible assumption)|assumption)
         obtain ⟨ad103,e103,hx103_0⟩:=Kd.at_string HR0.out x7_1 p103 q103
         cases e103
         replace p103:=eq_true p103
         replace q103:=eq_true q103
         have p104:0 ≤ (x7_1:Int):=of_decide_eq_true (by first|(with_reducible assumption)|assumption)
         have q104:x7_1 < (l0.length:Int):=of_decide_eq_true (by first|(with_reducible assumption)|assumption)
         obtain ⟨ad104,e104,hx104_0⟩:=Kd.at_string HR0.out x7_1 p104 q104
         obtain rfl:ad103 = ad104:=(by injection e104)
         replace p104:=eq_true p104
         replace q104:=eq_true q104
         go_wp2_with (first|(go_at_call 100;(with_reducible refine (slices_isNaN_string.calls (rdOf ByteArray.empty l0 x7_1) false _ A13.out).mono ?_);rintro e w' ⟨rfl,⟨nd,rfl⟩⟩))
         go_ret2
         exact ⟨by first|rfl|(simp;done)|(simp [*];done),by repeat (first|exact Drawn0.refl _|apply Drawn0.step)⟩
      ·rw [if_neg c11] at H
       exact absurd H (by simp)
     ·rw [if_neg c10] at H
      exact absurd H (by simp)
    ·rw [if_neg c9] at H
     have c9b0:decide (x7_1 < (l0.length:Int)) = false:=decide_eq_false c9
     clear c9
     simp only [Option.some.injEq,Prod.mk.injEq] at H
     obtain ⟨rfl,rfl⟩:=H
     go_wp2
     go_ret2
     exact ⟨by first|rfl|(simp;done)|(simp [*];done),by repeat (first|exact Drawn0.refl _|apply Drawn0.step)⟩
end Go.Proofs.Ytbgeceiddcokmaa.X
end
section
namespace Go.Proofs.Ytbgeceiddcokmaa.X
open Go.RowKit Go.Proofs.YtbgeceiddcokmaaW.PrintWords Go.Proofs.YtbgeceiddcokmaaW.PrintLast Go.Proofs.YtbgeceiddcokmaaW.PrintMore
attribute [local go_sem] max2_int min2_int max_two min_two max_three min_three max_four min_four
set_option linter.unusedVariables false
set_option linter.unusedSimpArgs false
def slices_Clone_int_int.f (l:List Int):Option (List Int):=if l.length < 17592186044416 then some l else none
set_option maxHeartbeats 1600000 in
set_option maxRecDepth 100000 in
theorem slices_Clone_int_int.calls (A0:Option Addr) (c0:Nat) (l0:List Int) (r:List Int) (w:World) (hr0:Kd.C (Kd.int .i64) w A0 l0.length l0) (hc0:l0.length ≤ c0) (h:slices_Clone_int_int.f l0 = some r) :
  Calls Try.prog 50 #[.slice A0 l0.length c0] w fun e w'=>∃ v0_:Value,e = .returned (v0_) ∧ Kd.R (Kd.int .i64) 3 w' w.heap.size (fun _=>True) v0_ r ∧ Below w.heap.size w w':=by
 unfold slices_Clone_int_int.f at h
 by_cases hlim:l0.length < 17592186044416
 case neg=>rw [if_neg hlim] at h;exact absurd h (by simp)
 case pos =>
  rw [if_pos hlim] at h
  obtain rfl:=Option.some.inj h
  have HR:=Aside0.mk hr0
  have HL:=Aside0.mk hlim
  clear h hlim hr0
  cases A0 with
  | none =>
   have hnil:=fun W=>Lib.run_eql_slice_nil (P:=Try.prog) W 23 3 none 0 c0 0 0 Try.underlying23
   have h0:l0 = []:=by
    by_cases hp:0 < l0.length
    ·obtain ⟨a,ha,_⟩:=HR.out.2.2 hp
     cases ha
    ·exact List.length_eq_zero_iff.1 (by omega)
   subst h0
   go_enter Try.func50,Try.ntmps50
   go_wp2
   go_ret
   exact ⟨_,rfl,Kd.R_nil _ _ _ _ _,Below.refl _ _⟩
  | some ad =>
   have hnil:=fun W=>Lib.run_eql_slice_nil (P:=Try.prog) W 23 3 (some ad) l0.length c0 0 0 Try.underlying23
   go_enter Try.func50,Try.ntmps50
   go_wp2_with (first
    | ((with_reducible refine gate_dst (N:=5) rfl ?_);(try (refine gate_guard (by rfl) ?_;dsimp only));refine Kd.R_lit (Kd.int .i64) _ 3 ?hg (N:=5) ?hd (xs:=([]:List Int)) (inner:=[]) (ok:=fun _=>True) (okp:=fun _=>True) ?hr ?hp (fun _ hk=>hk) trivial (Below.refl _ _) (Nat.le_refl _) (by simp) ?_;(case hd=>rfl);(case hg=>rfl);(case hr=>first|(go_simp;done)|(go_simp;rfl));(case hp=>exact (Reps.none _ _));intro v1 w1 ho hb hg_ hnew_;clear hg_ hnew_;have HO:=Aside0.mk ho;have HB:=Aside0.mk hb;clear ho hb)
    | ((with_reducible refine gate_builtin (b:=.append) (xs:=#[.tmp 5,.tmp 6]) rfl ?_);at_builtin;refine Kd.R_append_rows (Kd.int .i64) (w0:=w) w.heap.size rfl (.tmp 5) (.tmp 6) 23 3 (.int .i64 0) 8 rfl Try.underlying23 info3 rfl (by decide) (by omega) v1 ([]:List Int) l0 _ _ _ (fun _=>True) (fun _=>False) rfl rfl ?aO ?aR (fun _ _ h=>h) (fun _ h=>h.elim) (fun _ _=>trivial) ?aB ?aS ?aL ?_;(case aO=>exact HO.out);(case aR=>exact (Kd.C_below HR.out HB.out));(case aB=>exact HB.out);(case aS=>exact (below_size HB.out));(case aL=>have:=HL.out;simp;omega);intro v2 w2 ho hb hg hat;have HO2:=Aside0.mk ho;have HB2:=Aside0.mk hb;clear ho hb hg hat))
   go_ret
   exact ⟨_,rfl,by simpa using HO2.out,HB2.out⟩
end Go.Proofs.Ytbgeceiddcokmaa.X
end
section
namespace Go.Proofs.Ytbgeceiddcokmaa.X
open Go.RowKit Go.Proofs.YtbgeceiddcokmaaW.PrintWords
theorem below_drew {B:Nat} {w0 w:World} (h:Below B w0 w):Below B w0 w.drew:=⟨h.os,h.tape,h.output,h.size,h.block⟩
section
variable {α:Type} (d:Kd α) (hE:d.E = [])
include hE
theorem M_any {w w1:World} {base:Nat} {ok ok':Nat → Prop} {x:α} {cs:List Value} (h:d.M w base ok x cs):d.M w1 base ok' x cs:=by
  have h1:d.M w base (fun _=>False) x cs:=d.M_mono (fun k hk=>by
    obtain ⟨_,_,_,q,hq,_⟩:=hk
    rw [hE] at hq
    simp at hq) (d.M_bound h)
  exact d.M_mono (fun k hk=>hk.elim) (d.M_move (fun k hk=>hk.elim) h1)
end
theorem R_row_open {α:Type} (d:Kd α) {e base:Nat} {w:World} {ok:Nat → Prop} {v:Value} {xs:List α} (h:d.R e w base ok v xs) (hn:0 < xs.length) :
    ∃ g cap cur,v = .slice (some ⟨g,0,none⟩) xs.length cap ∧ base ≤ g ∧ ok g ∧ w.heap[g]? = some (.cells cur e (0,0)) ∧ xs.length ≤ cap ∧ cap ≤ maxLen ∧ cur.size = cap * d.sz ∧ Reps (d.M w base (fun _=>True)) d.sz xs (cur.toList.take (xs.length * d.sz)):=by
  obtain ⟨h0,inner,⟨h1,h2⟩,hr⟩:=h
  rcases h2 with ⟨_,he⟩|⟨g,cap,cur,rfl,hb,hg,hnc,hc,hs,ht⟩
  · omega
  · exact ⟨g,cap,cur,rfl,hb,h0 g (by simp [Value.ownBlock]),hg,hnc,hc,hs,by rw [ht];exact hr.imp_ (fun _ _ hp=>d.M_mono (fun _ _=>trivial) hp)⟩
section
variable {P:Program}
theorem add_block (a:Addr) (j:Nat):(a.add j).block = a.block:=by unfold Addr.add;split <;> rfl
end
end Go.Proofs.Ytbgeceiddcokmaa.X
end
section
namespace Go.Proofs.Ytbgeceiddcokmaa.Opn
open Go.ChangeShapes Go.WideShapes Go.Proofs.YtbgeceiddcokmaaW.PrintWords
set_option linter.unusedVariables false
set_option linter.unusedSimpArgs false
structure Opens (P:Program) (t:TypeId) {α:Type} (d:Kd α) (Ok:α → Prop):Prop where
  sz:d.sz = P.cellsOf t
  opens:∀ {H:Type} {enc:TypeId × Value → H} {w:World} {base:Nat} {spare:Nat → Bool} {held:Bool} {fuel:Nat} {cs:List Value} {x:DataW H × List MemPlace},
    DataW.trod enc P w base spare held fuel t cs = some x → (∀ n ∈ x.1.weights P t,n ≤ reachBytes) → ∃ v,d.K w v cs ∧ Ok v
theorem opens_int {P:Program} {t:TypeId} {k:IntKind} (ht:P.underlying t = some (.int k)) (hc:P.cellsOf t = 1):Opens P t (Kd.int k) (fun n=>(Lit.int k n).wf = true):=by
  refine ⟨hc.symm,fun h _=>?_⟩
  obtain ⟨n,rfl,_,hw⟩:=DataW.trod_int ht h
  exact ⟨n,rfl,hw⟩
theorem opens_string {P:Program} {t:TypeId} (ht:P.underlying t = some .string) (hc:P.cellsOf t = 1):Opens P t Kd.string (fun s=>s.size ≤ 140737488351232):=by
  refine ⟨hc.symm,fun h hw=>?_⟩
  obtain ⟨s,rfl,rfl,hs⟩:=DataW.trod_string ht h
  refine ⟨s,rfl,?_⟩
  have:=hw s.data.toList.length (by simp [DataW.weights])
  rw [Array.length_toList] at this
  exact this
theorem weights_all {H:Type} {P:Program} {e:TypeId}:∀ {ds:List (DataW H)} {j:Nat} {d:DataW H},ds[j]? = some d → ∀ n ∈ d.weights P e,n ∈ DataW.weightsAll P e ds
  | d0 :: ds,0,d,hd,n,hn=>by
    simp only [List.getElem?_cons_zero,Option.some.injEq] at hd
    subst hd
    simp only [DataW.weightsAll,List.mem_append]
    exact Or.inl hn
  | d0 :: ds,j + 1,d,hd,n,hn=>by
    simp only [List.getElem?_cons_succ] at hd
    simp only [DataW.weightsAll,List.mem_append]
    exact Or.inr (weights_all hd n hn)
  | [],_,_,hd,_,_=>by simp at hd
theorem list_of {α:Type} {n:Nat} {p:Nat → α → Prop} (h:∀ i,i < n → ∃ x,p i x):∃ l:List α,l.length = n ∧ ∀ i x,l[i]? = some x → p i x:=by
  induction n with
  | zero=>exact ⟨[],rfl,fun i x hx=>by simp at hx⟩
  | succ n ih =>
    obtain ⟨l,hl,hp⟩:=ih (fun i hi=>h i (by omega))
    obtain ⟨x,hx⟩:=h n (by omega)
    refine ⟨l ++ [x],by simp [hl],fun i y hy=>?_⟩
    by_cases hi:i < l.length
    · rw [List.getElem?_append_left hi] at hy
      exact hp i y hy
    · rw [List.getElem?_append_right (by omega)] at hy
      have:i - l.length = 0:=by
        cases hk:i - l.length with
        | zero=>rfl
        | succ m=>rw [hk] at hy;simp at hy
      rw [this] at hy
      simp at hy
      subst hy
      have:i = n:=by omega
      subst this
      exact hx
theorem opens_slice {P:Program} {t e:TypeId} {α:Type} {d:Kd α} {Ok:α → Prop} (h:Opens P e d Ok) (ht:P.underlying t = some (.slice e)) (hc:P.cellsOf t = 1) {B:Nat} (hB:P.bytesOf e = B) :
    Opens P t (Kd.slice e d) (fun l=>l.length ≤ maxLen ∧ l.length * B ≤ 140737488351232 ∧ ∀ x ∈ l,Ok x):=by
  subst hB
  refine ⟨hc.symm,fun {H enc w base spare held fuel cs x} hx hw=>?_⟩
  rcases DataW.trod_slice ht hx with ⟨rfl,rfl⟩|⟨a,len,cap,elems,rest,n,_,rfl,rfl,hb,hl,hm,hlen,hel,hsp,hns⟩
  · exact ⟨[],⟨none,0,rfl,Nat.le_refl _,Kd.C_nil _ _⟩,by simp⟩
  simp only [DataW.weights,ht] at hw
  have hw1:(elems.length + rest.length) * P.bytesOf e ≤ reachBytes:=by
    have:=hw ((elems.length + rest.length) * P.bytesOf e) (by simp)
    exact this
  have hone:∀ i,i < len → ∃ v:α,∃ c,w.cells? base (a.add (i * P.cellsOf e)) (P.cellsOf e) = some c ∧ d.K w v c ∧ Ok v:=by
    intro i hi
    have h1:=hel i hi
    rw [List.getElem?_eq_getElem (by omega)] at h1
    obtain ⟨c,hc1,hc2⟩:=Option.bind_eq_some_iff.1 h1
    obtain ⟨v,hv,hok⟩:=h.opens hc2 (fun n hn=>hw n (by
      simp only [List.mem_cons,List.mem_append]
      right;left
      refine weights_all (j:=i) ?_ n hn
      rw [List.getElem?_map,List.getElem?_eq_getElem (by omega)]
      rfl))
    exact ⟨v,c,hc1,hv,hok⟩
  obtain ⟨l,hl1,hl2⟩:=list_of hone
  subst hl1
  refine ⟨l,⟨some a,cap,rfl,hl,rfl,?_,fun _=>⟨a,rfl,fun j p hj=>?_⟩⟩,?_,?_,?_⟩
  · unfold maxLen at hm;omega
  · obtain ⟨c,hc1,hc2,_⟩:=hl2 j p hj
    obtain ⟨_,hlen2,hcell⟩:=World.cells?_some hc1
    refine ⟨c,by rw [h.sz];exact hlen2,hc2,fun i u hu=>?_⟩
    have hi:i < P.cellsOf e:=by
      have:=(List.getElem?_eq_some_iff.1 hu).1
      omega
    have:=hcell i hi
    rw [hu,← Deep.add_add,h.sz] at *
    exact this
  · exact Nat.le_trans hl hm
  · have h2:l.length * P.bytesOf e ≤ (elems.length + rest.length) * P.bytesOf e:=Nat.mul_le_mul_right _ (by omega)
    exact Nat.le_trans h2 hw1
  · intro x hx
    obtain ⟨j,hj⟩:=List.getElem?_of_mem hx
    obtain ⟨c,_,_,ho⟩:=hl2 j x hj
    exact ho
structure OpensF (P:Program) (fs:List Field) (off:Nat) {α:Type} (d:Kd α) (Ok:α → Prop):Prop where
  opens:∀ {H:Type} {enc:TypeId × Value → H} {w:World} {base:Nat} {spare:Nat → Bool} {held:Bool} {n:Nat} {cs:List Value} {xs:List (DataW H × List MemPlace)},
    xs.length = fs.length → (∀ (i:Nat) (f:Field),fs[i]? = some f → DataW.trod enc P w base spare held n f.type ((cs.drop f.offset).take (P.cellsOf f.type)) = xs[i]?) →
    (∀ m ∈ DataW.weightsEach P (fs.map (·.type)) (xs.map (·.1)),m ≤ reachBytes) → ∃ v,d.K w v ((cs.drop off).take d.sz) ∧ Ok v
theorem opensF_one {P:Program} {f:Field} {off:Nat} {α:Type} {d:Kd α} {Ok:α → Prop} (h:Opens P f.type d Ok) (ho:f.offset = off):OpensF P [f] off d Ok:=by
  refine ⟨fun {H enc w base spare held n cs xs} hl hx hw=>?_⟩
  match xs,hl with
  | [x],_ =>
    have h1:=hx 0 f rfl
    obtain ⟨v,hv,hok⟩:=h.opens h1 (fun n hn=>hw n (by simpa [DataW.weightsEach] using hn))
    refine ⟨v,?_,hok⟩
    rw [h.sz,← ho]
    exact hv
theorem opensF_cons {P:Program} {f:Field} {fs:List Field} {off:Nat} {α β:Type} {d:Kd α} {d':Kd β} {Ok:α → Prop} {Ok':β → Prop} (h:Opens P f.type d Ok) (ho:f.offset = off) (h':OpensF P fs (off + d.sz) d' Ok') :
    OpensF P (f :: fs) off (Kd.pair d d') (fun p=>Ok p.1 ∧ Ok' p.2):=by
  refine ⟨fun {H enc w base spare held n cs xs} hl hx hw=>?_⟩
  match xs,hl with
  | x :: xs,hl =>
    have h1:=hx 0 f rfl
    obtain ⟨v,hv,hok⟩:=h.opens h1 (fun n hn=>hw n (by
      simp only [List.map_cons,DataW.weightsEach,List.mem_append];exact Or.inl hn))
    obtain ⟨v',hv',hok'⟩:=h'.opens (cs:=cs) (xs:=xs) (by simpa using hl) (fun i g hg=>by
      have:=hx (i + 1) g (by simpa using hg)
      simpa using this) (fun m hm=>hw m (by simp only [List.map_cons,DataW.weightsEach,List.mem_append];exact Or.inr hm))
    refine ⟨(v,v'),⟨(cs.drop off).take d.sz,(cs.drop (off + d.sz)).take d'.sz,?_,?_,hv'⟩,hok,hok'⟩
    · show (cs.drop off).take (d.sz + d'.sz) = _
      rw [List.take_add,List.drop_drop]
    · rw [h.sz,← ho];exact hv
theorem opens_struct {P:Program} {t:TypeId} {fs:Array Field} {α β:Type} {d:Kd α} {Ok:α → Prop} (h:OpensF P fs.toList 0 d Ok) (ht:P.underlying t = some (.struct fs)) (hc:d.sz = P.cellsOf t) (f:β → α) (mk:α → β) (hf:∀ a,f (mk a) = a) :
    Opens P t (Kd.iso d f) (fun b=>Ok (f b)):=by
  refine ⟨hc,fun {H enc w base spare held fuel cs x} hx hw=>?_⟩
  obtain ⟨xs,n,_,rfl,hlen,hsz,hall⟩:=DataW.trod_struct ht hx
  simp only [DataW.weights,ht] at hw
  obtain ⟨v,hv,hok⟩:=h.opens (cs:=cs) (xs:=xs) (by simpa using hsz) (fun i f hf=>hall i f (by simpa using hf)) hw
  refine ⟨mk v,?_,by rw [hf];exact hok⟩
  show d.K w (f (mk v)) cs
  rw [hf]
  rw [List.drop_zero,hc,← hlen,List.take_length] at hv
  exact hv
theorem opens_imp {P:Program} {t:TypeId} {α:Type} {d:Kd α} {Ok Ok':α → Prop} (h:Opens P t d Ok) (hi:∀ v,Ok v → Ok' v):Opens P t d Ok' :=
  ⟨h.sz,fun hx hw=>let ⟨v,hv,ho⟩:=h.opens hx hw;⟨v,hv,hi v ho⟩⟩
end Go.Proofs.Ytbgeceiddcokmaa.Opn
end
section
namespace Go.Proofs.Ytbgeceiddcokmaa.X
open Go.RowKit Go.Proofs.YtbgeceiddcokmaaW.PrintWords Go.Proofs.YtbgeceiddcokmaaW.PrintLast Go.Proofs.YtbgeceiddcokmaaW.PrintMore
attribute [local go_sem] max2_int min2_int max_two min_two max_three min_three max_four min_four
set_option linter.unusedVariables false
set_option linter.unusedSimpArgs false
def ok39 (v:S39):Prop:=v.f0.size ≤ 140737488351232 ∧ ((Lit.int .i64 v.f1).wf = true ∧ ((Lit.int .i64 v.f2).wf = true ∧ ((Lit.int .i64 v.f3).wf = true)))
theorem opens39:Opn.Opens Try.prog 39 k39 ok39:=by
 have hu:=Try.underlying39
 refine Opn.opens_imp (Opn.opens_struct (Ok:=fun (p:ByteArray × (Int × (Int × (Int))))=>p.1.size ≤ 140737488351232 ∧ ((Lit.int .i64 p.2.1).wf = true ∧ ((Lit.int .i64 p.2.2.1).wf = true ∧ ((Lit.int .i64 p.2.2.2).wf = true)))) ?hF hu (by kernel_rfl) (fun x:S39=>(x.f0,x.f1,x.f2,x.f3)) (fun a=>⟨a.1,a.2.1,a.2.2.1,a.2.2.2⟩) (fun _=>rfl)) ?hI
 case hF =>
  refine Opn.opensF_cons (Ok:=fun (p:ByteArray)=>p.size ≤ 140737488351232) (Ok':=fun (p:Int × (Int × (Int)))=>(Lit.int .i64 p.1).wf = true ∧ ((Lit.int .i64 p.2.1).wf = true ∧ ((Lit.int .i64 p.2.2).wf = true))) (h:=?_) (ho:=?_) (h':=?_)
  ·exact Opn.opens_string Try.underlying9 (by kernel_rfl)
  ·rfl
  ·skip
   refine Opn.opensF_cons (Ok:=fun (p:Int)=>(Lit.int .i64 p).wf = true) (Ok':=fun (p:Int × (Int))=>(Lit.int .i64 p.1).wf = true ∧ ((Lit.int .i64 p.2).wf = true)) (h:=?_) (ho:=?_) (h':=?_)
   ·exact Opn.opens_int Try.underlying3 (by kernel_rfl)
   ·rfl
   ·skip
    refine Opn.opensF_cons (Ok:=fun (p:Int)=>(Lit.int .i64 p).wf = true) (Ok':=fun (p:Int)=>(Lit.int .i64 p).wf = true) (h:=?_) (ho:=?_) (h':=?_)
    ·exact Opn.opens_int Try.underlying3 (by kernel_rfl)
    ·rfl
    ·skip
     refine Opn.opensF_one (Ok:=fun (p:Int)=>(Lit.int .i64 p).wf = true) (h:=?_) (ho:=?_)
     ·exact Opn.opens_int Try.underlying3 (by kernel_rfl)
     ·rfl
 case hI=>exact fun v h=>h
def ok54 (v:S54):Prop:=ok39 v.f0 ∧ ((Lit.int .i64 v.f1).wf = true ∧ ((Lit.int .i64 v.f2).wf = true))
theorem opens54:Opn.Opens Try.prog 54 k54 ok54:=by
 have hu:=Try.underlying54
 refine Opn.opens_imp (Opn.opens_struct (Ok:=fun (p:S39 × (Int × (Int)))=>ok39 p.1 ∧ ((Lit.int .i64 p.2.1).wf = true ∧ ((Lit.int .i64 p.2.2).wf = true))) ?hF hu (by kernel_rfl) (fun x:S54=>(x.f0,x.f1,x.f2)) (fun a=>⟨a.1,a.2.1,a.2.2⟩) (fun _=>rfl)) ?hI
 case hF =>
  refine Opn.opensF_cons (Ok:=fun (p:S39)=>ok39 p) (Ok':=fun (p:Int × (Int))=>(Lit.int .i64 p.1).wf = true ∧ ((Lit.int .i64 p.2).wf = true)) (h:=?_) (ho:=?_) (h':=?_)
  ·exact opens39
  ·rfl
  ·skip
   refine Opn.opensF_cons (Ok:=fun (p:Int)=>(Lit.int .i64 p).wf = true) (Ok':=fun (p:Int)=>(Lit.int .i64 p).wf = true) (h:=?_) (ho:=?_) (h':=?_)
   ·exact Opn.opens_int Try.underlying3 (by kernel_rfl)
   ·rfl
   ·skip
    refine Opn.opensF_one (Ok:=fun (p:Int)=>(Lit.int .i64 p).wf = true) (h:=?_) (ho:=?_)
    ·exact Opn.opens_int Try.underlying3 (by kernel_rfl)
    ·rfl
 case hI=>exact fun v h=>h
end Go.Proofs.Ytbgeceiddcokmaa.X
end
section
namespace Go.Proofs.Ytbgeceiddcokmaa.P
open Go.RowKit Go.Proofs.YtbgeceiddcokmaaW.PrintWords Go.Proofs.YtbgeceiddcokmaaW.PrintMore Go.Proofs.Ytbgeceiddcokmaa.X
theorem Ev_succ {α:Type} {g:Nat → Option α} {r:α} (h:Ev (fun k=>g (k + 1)) r):Ev g r:=Ev.step (fun _=>rfl) h
theorem Ev_all {α:Type} {g:Nat → Option α} {r:α} (h:∀ k,g k = some r):Ev g r:=⟨0,fun k _=>h k⟩
theorem Ev_bind {α β:Type} {g:Nat → Option α} {f:Nat → α → Option β} {a:α} {r:β} (h:Ev g a) (k:Ev (fun n=>f n a) r):Ev (fun n=>(g n).bind (f n)) r:=Ev.bind h k
theorem Ev_id {α:Type} {g:Nat → Option α} {r:α} (h:Ev g r):Ev (fun n=>(g n).bind fun x=>some x) r:=Ev.bind h (Ev.now _)
theorem w_id {x:Int} (h1:-9223372036854775808 ≤ x) (h2:x ≤ 9223372036854775807):wrap64 x = x:=by unfold wrap64;omega
theorem w_succ {i n:Nat} (h:i < n) (hn:n ≤ 9223372036854775807):wrap64 ((i:Int) + 1) = ((i + 1:Nat):Int):=by rw [w_id (by omega) (by omega)];omega
theorem w_pred {i:Nat} (h:0 < i) (hn:i ≤ 9223372036854775807):wrap64 ((i:Int) - 1) = ((i - 1:Nat):Int):=by rw [w_id (by omega) (by omega)];omega
theorem drop_cons {α:Type} (l:List α) (i:Nat) (h:i < l.length):l.drop i = l[i] :: l.drop (i + 1):=(List.getElem_cons_drop h).symm
end Go.Proofs.Ytbgeceiddcokmaa.P
end
section
namespace Go.Proofs.Ytbgeceiddcokmaa.P
set_option linter.unusedVariables false
set_option linter.unusedSimpArgs false
open Go.RowKit Go.Proofs.YtbgeceiddcokmaaW.PrintWords Go.Proofs.YtbgeceiddcokmaaW.PrintMore Go.Proofs.Ytbgeceiddcokmaa.X
theorem bl_self:∀ a:List UInt8,Op.bytesLess a a = false
 | []=>rfl
 | x :: a=>by simp [Op.bytesLess,bl_self a]
theorem bl_ne {a b:List UInt8} (h:Op.bytesLess a b = true):a ≠ b:=by
 rintro rfl
 rw [bl_self] at h
 cases h
theorem bl_trans:∀ a b c:List UInt8,Op.bytesLess a b = true → Op.bytesLess b c = true → Op.bytesLess a c = true
 | a,b,[],_,h=>by cases b <;> simp [Op.bytesLess] at h
 | a,[],z :: c,h,_=>by cases a <;> simp [Op.bytesLess] at h
 | [],y :: b,z :: c,_,_=>by simp [Op.bytesLess]
 | x :: a,y :: b,z :: c,h,k=>by
  simp only [Op.bytesLess,Bool.or_eq_true,Bool.and_eq_true,decide_eq_true_eq,beq_iff_eq] at h k ⊢
  rcases h with h|⟨h,h'⟩ <;> rcases k with k|⟨k,k'⟩
  ·exact Or.inl (UInt8.lt_trans h k)
  ·subst k;exact Or.inl h
  ·subst h;exact Or.inl k
  ·subst h k;exact Or.inr ⟨rfl,bl_trans a b c h' k'⟩
end Go.Proofs.Ytbgeceiddcokmaa.P
end
section
namespace Go.Proofs.Ytbgeceiddcokmaa.P
set_option linter.unusedVariables false
set_option linter.unusedSimpArgs false
open Go.RowKit Go.Proofs.YtbgeceiddcokmaaW.PrintWords Go.Proofs.YtbgeceiddcokmaaW.PrintMore Go.Proofs.Ytbgeceiddcokmaa.X
def askOk (o m:Int):Prop:=o ≠ 0 ∧ -1000 ≤ o ∧ o ≤ 1000 ∧ 0 ≤ m ∧ m ≤ 1048576
theorem within_f (n m:Int) (h0:0 ≤ m) (h1:m ≤ 4611686018427387904):hedge_within.f n m = some (decide (-m ≤ n) && decide (n ≤ m)):=by
 unfold hedge_within.f
 rw [w_id (by omega) (by omega)]
 by_cases c:n ≥ -m
 ·rw [if_pos c,decide_eq_true (show -m ≤ n from c),Bool.true_and]
 ·rw [if_neg c,decide_eq_false (show ¬ -m ≤ n from c),Bool.false_and]
def askE (o m:Int):Int:=if o = 0 ∨ o < -1000 ∨ 1000 < o then 2 else if m < 0 ∨ 1048576 < m then 18 else 0
theorem ask_f (k:Nat) (o m:Int):hedge_ask.f (k + 1) o m = some (askE o m):=by
 unfold hedge_ask.f askE
 by_cases h0:o = 0
 ·rw [if_pos h0,if_pos (Or.inl h0)]
  simp only [hedge_ask.j0,if_true]
 ·rw [if_neg h0,within_f o 1000 (by omega) (by omega)]
  simp only [Option.bind_some,hedge_ask.j0]
  by_cases h1:o < -1000 ∨ 1000 < o
  ·rw [if_pos (Or.inr h1)]
   have e:(decide (-1000 ≤ o) && decide (o ≤ 1000)) = false:=by
    rw [← Bool.not_eq_true,Bool.and_eq_true,decide_eq_true_eq,decide_eq_true_eq];omega
   simp [e]
  ·rw [if_neg (show ¬ (o = 0 ∨ o < -1000 ∨ 1000 < o) by omega)]
   have e:(decide (-1000 ≤ o) && decide (o ≤ 1000)) = true:=by
    rw [Bool.and_eq_true,decide_eq_true_eq,decide_eq_true_eq];omega
   simp only [e,Bool.not_true,Bool.false_eq_true,if_false]
   by_cases h2:m < 0
   ·rw [if_pos h2,if_pos (Or.inl h2)]
   ·rw [if_neg h2]
    by_cases h3:m > 1048576
    ·rw [if_pos h3,if_pos (Or.inr h3)]
    ·rw [if_neg h3,if_neg (show ¬ (m < 0 ∨ 1048576 < m) by omega)]
theorem askE_ok {o m:Int} (h:askE o m = 0):askOk o m:=by
 unfold askE at h
 by_cases h1:o = 0 ∨ o < -1000 ∨ 1000 < o
 ·rw [if_pos h1] at h;exact absurd h (by decide)
 ·rw [if_neg h1] at h
  by_cases h2:m < 0 ∨ 1048576 < m
  ·rw [if_pos h2] at h;exact absurd h (by decide)
  ·unfold askOk;omega
theorem askE_of {o m:Int} (h:askOk o m):askE o m = 0:=by
 unfold askOk at h
 unfold askE
 rw [if_neg (by omega),if_neg (by omega)]
def absI (n:Int):Int:=if n < 0 then -n else n
theorem size_f (n:Int) (h:-4611686018427387904 ≤ n) (h':n ≤ 4611686018427387904):hedge_size.f n = some (absI n):=by
 unfold hedge_size.f mx absI
 rw [w_id (by omega) (by omega)]
 by_cases c:n < 0
 ·rw [if_pos c,if_pos (by omega)]
 ·rw [if_neg c,if_neg (by omega)]
def lotsQ (d o m:Int):Int:=if absI d / absI o < m ∧ (absI d / absI o + 1) * absI o - absI d < absI d - absI d / absI o * absI o then absI d / absI o + 1 else (if m < absI d / absI o then m else absI d / absI o)
def bestS (d o m:Int):Int:=if decide (d > 0) = decide (o > 0) then -lotsQ d o m else lotsQ d o m
theorem absI_pos {n:Int} (h:n ≠ 0):0 < absI n:=by unfold absI;split <;> omega
theorem absI_nonneg (n:Int):0 ≤ absI n:=by unfold absI;split <;> omega
theorem absI_le {n b:Int} (h:-b ≤ n) (h':n ≤ b):absI n ≤ b:=by unfold absI;split <;> omega
theorem lotsQ_bounds {d o m:Int} (ho:askOk o m):0 ≤ lotsQ d o m ∧ lotsQ d o m ≤ m ∧ 0 ≤ lotsQ d o m * absI o ∧ lotsQ d o m * absI o ≤ 2 * absI d:=by
 unfold askOk at ho
 have hs:=absI_pos ho.1
 have hd:=absI_nonneg d
 have h0:0 ≤ absI d / absI o:=Int.ediv_nonneg hd (by omega)
 have h1:=Int.mul_ediv_self_le (x:=absI d) (k:=absI o) (by omega)
 rw [Int.mul_comm] at h1
 unfold lotsQ
 by_cases c:absI d / absI o < m ∧ (absI d / absI o + 1) * absI o - absI d < absI d - absI d / absI o * absI o
 ·rw [if_pos c]
  have e:(absI d / absI o + 1) * absI o = absI d / absI o * absI o + absI o:=by rw [Int.add_mul,Int.one_mul]
  have hp:0 ≤ absI d / absI o * absI o:=Int.mul_nonneg h0 (by omega)
  rw [e] at c ⊢
  omega
 ·rw [if_neg c]
  by_cases c2:m < absI d / absI o
  ·rw [if_pos c2]
   have h3:m * absI o ≤ absI d / absI o * absI o:=Int.mul_le_mul_of_nonneg_right (by omega) (by omega)
   have h4:0 ≤ m * absI o:=Int.mul_nonneg (by omega) (by omega)
   omega
  ·rw [if_neg c2]
   have hp:0 ≤ absI d / absI o * absI o:=Int.mul_nonneg h0 (by omega)
   omega
theorem best_f (k:Nat) {d o m:Int} (hd:-1099511627776 ≤ d) (hd':d ≤ 1099511627776) (ho:askOk o m):hedge_Best.f (k + 1) d o m = some (bestS d o m,0):=by
 have hb:=lotsQ_bounds (d:=d) ho
 have ho':=ho
 unfold askOk at ho
 have hs:=absI_pos ho.1
 have hs2:absI o ≤ 1000:=absI_le (by omega) (by omega)
 have hd0:=absI_nonneg d
 have hd1:absI d ≤ 1099511627776:=absI_le (by omega) (by omega)
 have h0:0 ≤ absI d / absI o:=Int.ediv_nonneg hd0 (by omega)
 have hq:absI d / absI o ≤ absI d:=Int.ediv_le_self _ hd0
 have h1:=Int.mul_ediv_self_le (x:=absI d) (k:=absI o) (by omega)
 rw [Int.mul_comm] at h1
 have hp:0 ≤ absI d / absI o * absI o:=Int.mul_nonneg h0 (by omega)
 unfold hedge_Best.f
 rw [within_f d _ (by omega) (by omega)]
 have e1:(decide (-1099511627776 ≤ d) && decide (d ≤ 1099511627776)) = true:=by rw [Bool.and_eq_true,decide_eq_true_eq,decide_eq_true_eq];omega
 simp only [Option.bind_some,e1,if_true,ask_f,askE_of ho',size_f d (by omega) (by omega),size_f o (by omega) (by omega),if_neg (show ¬ absI o = 0 by omega)]
 have et:Int.tdiv (absI d) (absI o) = absI d / absI o:=Int.tdiv_eq_ediv_of_nonneg hd0
 rw [et,w_id (by omega) (by omega)]
 unfold bestS
 by_cases c:absI d / absI o < m
 ·have em:mn (absI d / absI o) m = absI d / absI o:=by unfold mn;rw [if_neg (by omega)]
  have e2:(absI d / absI o + 1) * absI o = absI d / absI o * absI o + absI o:=by rw [Int.add_mul,Int.one_mul]
  simp only [em,if_pos c]
  rw [w_id (x:=absI d / absI o + 1) (by omega) (by omega),w_id (x:=(absI d / absI o + 1) * absI o) (by rw [e2];omega) (by rw [e2];omega),w_id (x:=absI d / absI o * absI o) (by omega) (by omega),w_id (by rw [e2];omega) (by rw [e2];omega),w_id (by omega) (by omega)]
  by_cases c2:(absI d / absI o + 1) * absI o - absI d < absI d - absI d / absI o * absI o
  ·have hQ:lotsQ d o m = absI d / absI o + 1:=by unfold lotsQ;rw [if_pos ⟨c,c2⟩]
   rw [hQ]
   simp only [decide_eq_true c2,hedge_Best.j0,if_true,beq_iff_eq]
   rw [w_id (x:=absI d / absI o + 1) (by omega) (by omega),w_id (by omega) (by omega)]
   by_cases c3:decide (d > 0) = decide (o > 0)
   ·rw [if_pos c3,if_pos c3]
   ·rw [if_neg c3,if_neg c3]
  ·have hQ:lotsQ d o m = absI d / absI o:=by unfold lotsQ;rw [if_neg (fun h=>c2 h.2),if_neg (by omega)]
   rw [hQ]
   simp only [decide_eq_false c2,hedge_Best.j0,Bool.false_eq_true,if_false,beq_iff_eq]
   rw [w_id (by omega) (by omega)]
   by_cases c3:decide (d > 0) = decide (o > 0)
   ·rw [if_pos c3,if_pos c3]
   ·rw [if_neg c3,if_neg c3]
 ·have em:mn (absI d / absI o) m = m:=by
   unfold mn
   by_cases c4:m < absI d / absI o
   ·rw [if_pos c4]
   ·rw [if_neg c4];omega
  have em2:(if m < absI d / absI o then m else absI d / absI o) = m:=by
   by_cases c4:m < absI d / absI o
   ·rw [if_pos c4]
   ·rw [if_neg c4];omega
  have hQ:lotsQ d o m = m:=by unfold lotsQ;rw [if_neg (fun h=>c h.1),em2]
  rw [hQ]
  simp only [em,if_neg (show ¬ m < m by omega),hedge_Best.j0,Bool.false_eq_true,if_false,beq_iff_eq]
  rw [w_id (by omega) (by omega)]
  by_cases c3:decide (d > 0) = decide (o > 0)
  ·rw [if_pos c3,if_pos c3]
  ·rw [if_neg c3,if_neg c3]
theorem left_abs {d o m:Int} (ho:askOk o m):d + bestS d o m * o = absI d - lotsQ d o m * absI o ∨ d + bestS d o m * o = -(absI d - lotsQ d o m * absI o):=by
 unfold askOk at ho
 unfold bestS
 by_cases c1:d > 0 <;> by_cases c2:o > 0
 ·rw [if_pos (by rw [decide_eq_true c1,decide_eq_true c2]),Int.neg_mul]
  have e1:absI d = d:=by unfold absI;rw [if_neg (by omega)]
  have e2:absI o = o:=by unfold absI;rw [if_neg (by omega)]
  rw [e1,e2];left;omega
 ·rw [if_neg (by rw [decide_eq_true c1,decide_eq_false c2];decide)]
  have e1:absI d = d:=by unfold absI;rw [if_neg (by omega)]
  have e2:absI o = -o:=by unfold absI;rw [if_pos (by omega)]
  rw [e1,e2,Int.mul_neg];left;omega
 ·rw [if_neg (by rw [decide_eq_false c1,decide_eq_true c2];decide)]
  have e1:absI d = -d:=by unfold absI;split <;> omega
  have e2:absI o = o:=by unfold absI;rw [if_neg (by omega)]
  rw [e1,e2];right;omega
 ·rw [if_pos (by rw [decide_eq_false c1,decide_eq_false c2]),Int.neg_mul]
  have e1:absI d = -d:=by unfold absI;split <;> omega
  have e2:absI o = -o:=by unfold absI;rw [if_pos (by omega)]
  rw [e1,e2,Int.mul_neg];right;omega
theorem left_small {d o m b:Int} (ho:askOk o m) (h:-b ≤ d) (h':d ≤ b):-b ≤ d + bestS d o m * o ∧ d + bestS d o m * o ≤ b:=by
 have hb:=lotsQ_bounds (d:=d) ho
 have hd:=absI_le h h'
 rcases left_abs (d:=d) ho with e|e <;> rw [e] <;> omega
theorem bestS_bounds {d o m:Int} (ho:askOk o m):-m ≤ bestS d o m ∧ bestS d o m ≤ m:=by
 have hb:=lotsQ_bounds (d:=d) ho
 unfold bestS
 split <;> omega
theorem bestS_mul {d o m:Int} (ho:askOk o m):-1048576000 ≤ bestS d o m * o ∧ bestS d o m * o ≤ 1048576000:=by
 have hb:=bestS_bounds (d:=d) ho
 unfold askOk at ho
 have key:∀ a b:Int,0 ≤ a → a ≤ 1048576 → 0 ≤ b → b ≤ 1000 → 0 ≤ a * b ∧ a * b ≤ 1048576000:=fun a b h1 h2 h3 h4 =>
  ⟨Int.mul_nonneg h1 h3,Int.le_trans (Int.mul_le_mul h2 h4 h3 (by omega)) (by decide)⟩
 by_cases c1:0 ≤ bestS d o m <;> by_cases c2:0 ≤ o
 ·have:=key _ _ c1 (by omega) c2 (by omega);omega
 ·have:=key (bestS d o m) (-o) c1 (by omega) (by omega) (by omega);rw [Int.mul_neg] at this;omega
 ·have:=key (-bestS d o m) o (by omega) (by omega) c2 (by omega);rw [Int.neg_mul] at this;omega
 ·have:=key (-bestS d o m) (-o) (by omega) (by omega) (by omega) (by omega);rw [Int.neg_mul,Int.mul_neg,Int.neg_neg] at this;omega
theorem left_wrap {d o m:Int} (ho:askOk o m) (h:-1099511627776 ≤ d) (h':d ≤ 1099511627776):wrap64 (d + wrap64 (bestS d o m * o)) = d + bestS d o m * o:=by
 have h1:=bestS_mul (d:=d) ho
 rw [w_id (x:=bestS d o m * o) (by omega) (by omega),w_id (by omega) (by omega)]
theorem mid_w {lo hi:Nat} (h:lo + hi ≤ 9223372036854775807):wrap64 (IntKind.u64.wrap (wrap64 ((lo:Int) + (hi:Int))) / 2) = (((lo + hi) / 2:Nat):Int):=by
 rw [w_id (x:=(lo:Int) + (hi:Int)) (by omega) (by omega)]
 have e:IntKind.u64.wrap ((lo:Int) + (hi:Int)) = (lo:Int) + (hi:Int):=by rw [IntKind.wrap_u64];omega
 rw [e,w_id (by omega) (by omega)]
 omega
end Go.Proofs.Ytbgeceiddcokmaa.P
end
section
namespace Go.Proofs.Ytbgeceiddcokmaa.P
set_option linter.unusedVariables false
set_option linter.unusedSimpArgs false
open Go.RowKit Go.Proofs.YtbgeceiddcokmaaW.PrintWords Go.Proofs.YtbgeceiddcokmaaW.PrintMore Go.Proofs.Ytbgeceiddcokmaa.X
def AscN (names:List ByteArray):Prop:=names.Pairwise fun a b=>Op.bytesLess a.toList b.toList = true
def findS (names:List ByteArray) (p:ByteArray):Option Nat:=names.findIdx? (fun s=>decide (s.toList = p.toList))
theorem rdS (l:List ByteArray) (i:Nat) (h:i < l.length):rdOf ByteArray.empty l (i:Int) = l[i]:=by simp [rdOf,h]
theorem lessS_f (a b:ByteArray):cmp_Less_string.f a b = some (Op.bytesLess a.toList b.toList):=by
 simp [cmp_Less_string.f,cmp_isNaN_string.f]
theorem asc_lt {names:List ByteArray} (h:AscN names) {i j:Nat} (hi:i < j) (hj:j < names.length):Op.bytesLess (names[i]'(by omega)).toList names[j].toList = true :=
 (List.pairwise_iff_getElem.1 h) i j (by omega) hj hi
theorem findS_at {names:List ByteArray} (hs:AscN names) {p:ByteArray} {q:Nat} (hq:q ≤ names.length) (a:∀ i (h:i < names.length),i < q → Op.bytesLess names[i].toList p.toList = true) (b:∀ i (h:i < names.length),q ≤ i → Op.bytesLess names[i].toList p.toList = false) :
  findS names p = if ∃ h:q < names.length,names[q].toList = p.toList then some q else none:=by
 by_cases c:∃ h:q < names.length,names[q].toList = p.toList
 ·rw [if_pos c]
  obtain ⟨h,e⟩:=c
  refine List.findIdx?_eq_some_iff_getElem.2 ⟨h,by simpa using e,fun j hj=>?_⟩
  have:=bl_ne (a j (by omega) hj)
  simpa using this
 ·rw [if_neg c]
  refine List.findIdx?_eq_none_iff.2 (fun s hs'=>?_)
  obtain ⟨i,hi,rfl⟩:=List.getElem_of_mem hs'
  rw [decide_eq_false_iff_not]
  intro e
  rcases Nat.lt_trichotomy i q with h|h|h
  ·exact bl_ne (a i hi h) e
  ·subst h;exact c ⟨hi,e⟩
  ·have h1:=b q (by omega) (Nat.le_refl _)
   rw [← e,asc_lt hs h hi] at h1
   cases h1
theorem bsS_loop (names:List ByteArray) (p:ByteArray) (hs:AscN names) (hl:names.length ≤ 4611686018427387903):∀ (d lo hi:Nat),lo ≤ hi → hi ≤ names.length → hi - lo ≤ d →
  (∀ i (h:i < names.length),i < lo → Op.bytesLess names[i].toList p.toList = true) → (∀ i (h:i < names.length),hi ≤ i → Op.bytesLess names[i].toList p.toList = false) →
  ∃ (q:Nat),Ev (fun k=>slices_BinarySearch_string_string.l0 k names p names.length lo hi) ((q:Int),(findS names p).isSome) ∧ (∀ i,findS names p = some i → q = i)
 | d,lo,hi,h1,h2,h3,a,b=>by
  by_cases c:lo < hi
  ·cases d with
   | zero=>omega
   | succ d =>
    have hm:(lo + hi) / 2 < names.length:=by omega
    have step:∀ r,Ev (fun k=>if Op.bytesLess names[(lo + hi) / 2].toList p.toList = true then slices_BinarySearch_string_string.l0 k names p names.length (((lo + hi) / 2 + 1:Nat):Int) hi else slices_BinarySearch_string_string.l0 k names p names.length lo (((lo + hi) / 2:Nat):Int)) r → Ev (fun k=>slices_BinarySearch_string_string.l0 k names p names.length lo hi) r:=by
     intro r h
     refine Ev_succ ?_
     simp only [slices_BinarySearch_string_string.l0,if_pos (show (lo:Int) < (hi:Int) by omega),mid_w (show lo + hi ≤ 9223372036854775807 by omega),if_pos (show 0 ≤ (((lo + hi) / 2:Nat):Int) by omega),if_pos (show (((lo + hi) / 2:Nat):Int) < (names.length:Int) by omega),rdS names _ hm,lessS_f,Option.bind_some,w_succ hm (by omega)]
     exact h
    by_cases c2:Op.bytesLess names[(lo + hi) / 2].toList p.toList = true
    ·obtain ⟨q,e,hq⟩:=bsS_loop names p hs hl d ((lo + hi) / 2 + 1) hi (by omega) h2 (by omega) (fun i h hl=>by
      by_cases e:i = (lo + hi) / 2
      ·subst e;exact c2
      ·exact bl_trans _ _ _ (asc_lt hs (show i < (lo + hi) / 2 by omega) hm) c2) b
     refine ⟨q,step _ ?_,hq⟩
     simp only [if_pos c2]
     exact e
    ·obtain ⟨q,e,hq⟩:=bsS_loop names p hs hl d lo ((lo + hi) / 2) (by omega) (by omega) (by omega) a (fun i h hl=>by
      by_cases e:i = (lo + hi) / 2
      ·subst e;simpa using c2
      ·rw [← Bool.not_eq_true]
       intro e2
       exact c2 (bl_trans _ _ _ (asc_lt hs (show (lo + hi) / 2 < i by omega) h) e2))
     refine ⟨q,step _ ?_,hq⟩
     simp only [if_neg c2]
     exact e
  ·have hlo:lo = hi:=by omega
   subst hlo
   have hf:=findS_at hs h2 a b
   refine ⟨lo,?_,fun i hi=>?_⟩
   ·refine Ev_succ ?_
    simp only [slices_BinarySearch_string_string.l0,if_neg (show ¬ (lo:Int) < (lo:Int) by omega)]
    by_cases hlt:lo < names.length
    ·simp only [if_pos (show (lo:Int) < (names.length:Int) by omega),if_pos (show 0 ≤ (lo:Int) by omega),rdS names _ hlt]
     by_cases e:names[lo].toList = p.toList
     ·rw [show findS names p = some lo from hf.trans (if_pos ⟨hlt,e⟩)]
      simp only [if_pos e]
      exact Ev.now _
     ·rw [show findS names p = none from hf.trans (if_neg (fun h=>e h.2))]
      simp only [if_neg e,slices_isNaN_string.f,bne_self_eq_false,Option.bind_some,Bool.false_eq_true,if_false]
      exact Ev.now _
    ·rw [show findS names p = none from hf.trans (if_neg (fun h=>hlt h.1))]
     simp only [if_neg (show ¬ (lo:Int) < (names.length:Int) by omega)]
     exact Ev.now _
   ·rw [hf] at hi
    split at hi
    ·exact Option.some.inj hi
    ·cases hi
theorem bsS_f (names:List ByteArray) (p:ByteArray) (hs:AscN names) (hl:names.length ≤ 4611686018427387903) :
  ∃ (k q:Nat),slices_BinarySearch_string_string.f k names p = some ((q:Int),(findS names p).isSome) ∧ (∀ i,findS names p = some i → q = i):=by
 obtain ⟨q,⟨k,h⟩,hq⟩:=bsS_loop names p hs hl names.length 0 names.length (by omega) (by omega) (by omega) (fun i h hl=>by omega) (fun i h hl=>by omega)
 exact ⟨k,q,h k (Nat.le_refl _),hq⟩
theorem findS_lt {names:List ByteArray} {p:ByteArray} {i:Nat} (h:findS names p = some i):i < names.length:=(List.findIdx?_eq_some_iff_getElem.1 h).1
end Go.Proofs.Ytbgeceiddcokmaa.P
end
section
namespace Go.Proofs.Ytbgeceiddcokmaa.X
open Go.RowKit Go.Proofs.YtbgeceiddcokmaaW.PrintWords Go.Proofs.YtbgeceiddcokmaaW.PrintLast
section
variable {P:Program} {ops:Array Oper} {Q:Exit → Act → World → Prop} {md:Region.Mode}
theorem oper_in {l n:Nat} {o:Oper} (hno:∀ c,o.op ≠ .defer c) {a:Act} {w:World} {K K':Act → World → Prop} (hK:∀ a w,K a w → K' a w) (h:o.wp P a w K Q):o.wpIn (Fence.wide.inRound l) n P a w K' Q:=by
  have hd:∀ m:Nat,(Fence.wide.inRound l).depth.isSome = true → 1 ≤ m:=fun m h=>by simp [Fence.wide] at h
  refine ⟨fun _ _=>trivial,?_⟩
  rw [Oper.semAt_plain (Fence.wide.inRound l) _ _ hno]
  unfold Oper.wp at h
  generalize (execOp a.eval o).run P w = r at *
  cases r with
  | ok x w' =>
    cases x <;> simp only [Oper.upon] at h <;> simp only [Oper.uponIn] <;>
      first
        | exact hK _ _ h
        | exact ⟨hd n,CallsIn.inRound l (callsIn_wide.2 (h.mono (fun e w'' he=>by cases e <;> first|exact hK _ _ he|exact he)))⟩
        | exact ⟨hd n,fun c cs hroom=>let ⟨v,w',r,s⟩:=h c cs;⟨v,w',hK _ _ r,stepsIn_wide.2 s⟩⟩
  | halt x w'=>cases x <;> simp only [Oper.upon] at h <;> simp only [Oper.uponIn] <;> exact h
theorem any_in {l n:Nat} (hno:∀ (i:Nat) (o:Oper) c,ops[i]? = some o → o.op ≠ .defer c) (hlo:¬ LetsOut Q):∀ (fuel:Nat) (listed:Array Bool) (a:Act) (w:World),wpAny P md ops Q fuel listed a w → wpAnyIn (Fence.wide.inRound l) n P md ops Q fuel listed a w
  | 0,_,_,_,h=>h
  | fuel + 1,listed,a,w,h=>⟨h.1,fun i hi=>by
    have hi':=h.2 i hi
    have ih:=any_in (l:=l) (n:=n) hno hlo fuel (listed.setIfInBounds i true)
    unfold wpOp at hi'
    unfold wpOpIn
    split
    · rename_i ho;simp only [ho] at hi';exact ih _ _ hi'
    · rename_i o ho
      simp only [ho] at hi'
      split
      · rename_i hw
        simp only [hw,if_true] at hi'
        rcases hi' with hi'|hi'
        · exact oper_in (fun c=>hno i o c ho) ih hi'
        · exact absurd hi'.2 hlo
      · rename_i hw
        simp only [hw] at hi'
        exact ⟨fun _ _=>trivial,ih _ _ hi'⟩⟩
def noDeferB (ops:Array Oper):Bool:=ops.toList.all fun o=>match o.op with|.defer _=>false|_=>true
theorem noDefer_spec (h:noDeferB ops = true) (i:Nat) (o:Oper) (c:Call) (hi:ops[i]? = some o):o.op ≠ .defer c:=by
  intro e
  have hm:o ∈ ops.toList:=by
    obtain ⟨hlt,rfl⟩:=Array.getElem?_eq_some_iff.1 hi
    simp
  have:=List.all_eq_true.1 h o hm
  simp [e] at this
theorem start_in {l n:Nat} {S:World → Prop} {ds:List Nat} {id m:Nat} {a:Act} {w:World} (li:Array Bool) (hm:P.follows .mixedOrders = true) (hno:noDeferB ops = true) (hlo:¬ LetsOut Q) (hn:ops.size = m) (hl:Array.replicate m false = li) (hS:S w.drew)
    (h:S w.drew → wpAnyLast P .any ops Q S ds m li a w.drew):(Code.region id ops true).wpIn (Fence.wide.inRound l) n P Q a w:=by
  subst hn
  subst hl
  exact wpIn_region_any hm (any_in (fun i o c=>noDefer_spec hno i o c) hlo _ _ _ _ (wpAny_of_last _ _ _ _ (h hS)))
end
end Go.Proofs.Ytbgeceiddcokmaa.X
end
section
namespace Go.Proofs.Ytbgeceiddcokmaa.X
open Go.RowKit Go.Proofs.YtbgeceiddcokmaaW.PrintWords Go.Proofs.YtbgeceiddcokmaaW.PrintLast Go.Proofs.YtbgeceiddcokmaaW.PrintMore
attribute [local go_sem] max2_int min2_int max_two min_two max_three min_three max_four min_four
set_option linter.unusedVariables false
set_option linter.unusedSimpArgs false
open Go.Shelf
attribute [local go_sem] Oper.semAt_some
def sel (names:List ByteArray) (l:List S92):List (Nat × S92):=l.filterMap (fun h=>(P.findS names h.f0.f0).map (fun i=>(i,h)))
def planStep (st:List S41 × List Int) (x:Nat × S92):List S41 × List Int :=
 if P.bestS (st.2.getD x.1 0) x.2.f1 x.2.f2 = 0 then st else (st.1 ++ [⟨x.2.f0,P.bestS (st.2.getD x.1 0) x.2.f1 x.2.f2⟩],st.2.set x.1 (st.2.getD x.1 0 + P.bestS (st.2.getD x.1 0) x.2.f1 x.2.f2 * x.2.f1))
def planBadAt (names:List ByteArray) (deltas:List Int) (i:Nat):Bool:=(decide (0 < i) && !(Op.bytesLess (names.getD (i - 1) ByteArray.empty).toList (names.getD i ByteArray.empty).toList)) || !(decide (-1099511627776 ≤ deltas.getD i 0) && decide (deltas.getD i 0 ≤ 1099511627776))
def planBad (names:List ByteArray) (deltas:List Int):Bool:=(List.range names.length).any (planBadAt names deltas)
def hedge_Plan.f (names:List ByteArray) (deltas:List Int) (l:List S92):Option (List S41 × List Int × Int) :=
 if names.length < 17592186044416 ∧ deltas.length < 17592186044416 then
  (hedge_Check.f l).bind fun e=>if e = 0 then (if deltas.length = names.length then (if planBad names deltas = true then some ([],[],2) else some (((sel names l).foldl planStep ([],deltas)).1,((sel names l).foldl planStep ([],deltas)).2,0)) else some ([],[],2)) else some ([],[],e)
 else none
abbrev PH (names:List ByteArray):={ x:Nat × S92 // x.1 < names.length ∧ P.askOk x.2.f1 x.2.f2 }
abbrev hVal (h:S92):Value:=.agg #[.string h.f0.f0,.int .i64 h.f0.f1,.int .i64 h.f0.f2,.int .i64 h.f0.f3,.int .i64 h.f1,.int .i64 h.f2]
def KpP (n₀ bn:Nat) (A B:World):Prop:=Below n₀ A B ∧ B.heap[bn]? = A.heap[bn]?
theorem sel_len (names:List ByteArray) (l:List S92):(sel names l).length ≤ l.length:=List.length_filterMap_le _ _
theorem sel_snoc (names:List ByteArray) (l:List S92) (h:S92):sel names (l ++ [h]) = sel names l ++ (match P.findS names h.f0.f0 with|some i=>[(i,h)]|none=>[]):=by
 unfold sel
 rw [List.filterMap_append]
 cases e:P.findS names h.f0.f0 <;> simp [e]
theorem grown_box (W:World) (o:Obj) (nd:Nat):W.grownBy ((W.alloc o).drewN nd) none:=⟨rfl,rfl,rfl,by simp [World.drewN],fun k hk _=>Below.heap_alloc W o k hk⟩
theorem below_box {B:Nat} {a b:World} (h:Below B a b) (hs:B ≤ b.heap.size) (o:Obj) (nd:Nat):Below B a ((b.alloc o).drewN nd) :=
 ⟨(h.alloc hs o).os,(h.alloc hs o).tape,(h.alloc hs o).output,(h.alloc hs o).size,(h.alloc hs o).block⟩
set_option maxRecDepth 100000 in
set_option maxHeartbeats 2000000 in
theorem known1_in (n:Nat) (hn:1 ≤ n) (lp bl bn n₀:Nat) (A0:Option Addr) (c0:Nat) (names:List ByteArray) (A2:Option Addr) (c2:Nat) (l:List S92) (W0:World) (hr0:Kd.C Kd.string W0 A0 names.length names) (hc0:names.length ≤ c0) (hr2:Kd.C k92 W0 A2 l.length l)
  (hasc:P.AscN names) (hlen:names.length ≤ 4611686018427387903) (hask:∀ h ∈ l,P.askOk h.f1 h.f2) (hn₀:n₀ = W0.heap.size) (J Jx:List (PH names) → World → Prop) (B:Nat) (hJ:AbidesFrom B J)
  (hY:∀ pre x W,J pre W → pre.length < l.length → YieldAt Fence.wide (n - 1) Try.prog lp #[.int .i64 (x.1.1:Int),hVal x.1.2] W fun e W'=>(e = .returned (.bool true) ∧ J (pre ++ [x]) W' ∧ KpP n₀ bn W W') ∨ (e = .returned (.bool false) ∧ Jx (pre ++ [x]) W'))
  (W:World) (hBl:W.cell? ⟨bl,0,none⟩ = some (.slice A2 l.length c2)) (hBn:W.cell? ⟨bn,0,none⟩ = some (.slice A0 names.length c0)) (hB:Below n₀ W0 W) (h0:J [] W) :
  CallsIn Fence.wide n Try.prog 77 #[.func (.yield lp) #[] #[],.pointer (some ⟨bl,0,none⟩),.pointer (some ⟨bn,0,none⟩)] W fun e W'=>(∃ v,e = .returned v) ∧ ((∃ ys:List (PH names),ys.map (·.1) = sel names l ∧ J ys W') ∨ (∃ pre,Jx pre W')):=by
 have HR0:=Aside0.mk hr0
 have HR2:=Aside0.mk hr2
 have HAS:=Aside0.mk hasc
 have HAK:=Aside0.mk hask
 have hl63:=(show l.length ≤ 9223372036854775807 from Kd.C_max hr2)
 clear hr0 hr2 hasc hask
 refine callsIn_of_wp Try.func77 rfl trivial ?_ rfl
 simp only [Try.ntmps77,List.size_toArray,List.length_cons,List.length_nil,Nat.reduceAdd,Nat.reduceSub,Array.replicate_succ,Array.replicate_zero,List.push_toArray,List.append_toArray,List.nil_append,List.cons_append]
 gi_wp2
 gi_loopw [10] (fun i wr=>∃ (k:Nat) (pre:List (PH names)),k ≤ l.length ∧ i = .int .i64 k ∧ Aside0 (pre.map (·.1) = sel names (l.take k)) ∧ Aside0 (J pre wr) ∧ Aside0 (Below n₀ W0 wr) ∧ wr.cell? ⟨bn,0,none⟩ = some (.slice A0 names.length c0))
  (fun i _=>l.length - (intOf i).toNat)
 case atStart=>exact ⟨0,[],Nat.zero_le _,rfl,⟨rfl⟩,⟨h0⟩,⟨hB⟩,hBn⟩
 case round =>
  obtain ⟨k,pre,hk,rfl,HP,HJ,HB2,hbn⟩:=hrel
  by_cases hlt:k < l.length
  ·obtain ⟨ad,ea,hx0,hx1,hx2,hx3,hx4,hx5⟩:=at_T92 HR2.out (k:Int) (by omega) (by omega)
   cases ea
   rw [hn₀] at HB2
   replace hx0:=(HB2.out.cell (World.block_lt_of_cell? W0 _ hx0)).trans hx0
   replace hx1:=(HB2.out.cell (World.block_lt_of_cell? W0 _ hx1)).trans hx1
   replace hx2:=(HB2.out.cell (World.block_lt_of_cell? W0 _ hx2)).trans hx2
   replace hx3:=(HB2.out.cell (World.block_lt_of_cell? W0 _ hx3)).trans hx3
   replace hx4:=(HB2.out.cell (World.block_lt_of_cell? W0 _ hx4)).trans hx4
   replace hx5:=(HB2.out.cell (World.block_lt_of_cell? W0 _ hx5)).trans hx5
   have hti:rd_T92 l (k:Int) = l[k]:=by simp [rd_T92,hlt]
   rw [hti,Int.toNat_natCast] at hx0 hx1 hx2 hx3 hx4 hx5
   have hak:=HAK.out _ (List.getElem_mem hlt)
   have htake:l.take (k + 1) = l.take k ++ [l[k]]:=by rw [List.take_succ_eq_append_getElem hlt]
   obtain ⟨t,ht⟩:∃ t,l[k] = t:=⟨_,rfl⟩
   rw [ht] at hx0 hx1 hx2 hx3 hx4 hx5 hak htake
   have hbn1:∀ o,(wr.alloc o).cell? ⟨bn,0,none⟩ = some (.slice A0 names.length c0):=fun o=>cell_kept hbn (World.grownBy_alloc wr o none) (fun r e=>by cases e)
   obtain ⟨kb,q,hbs,hq⟩:=P.bsS_f names t.f0.f0 HAS.out hlen
   have HBS:=Aside0.mk hbs
   have HTK:=Aside0.mk htake
   have HAK2:=Aside0.mk hak
   have hplen:pre.length < l.length:=by
    have:=congrArg List.length HP.out
    rw [List.length_map] at this
    have h2:=sel_len names (l.take k)
    rw [List.length_take] at h2
    omega
   clear hti ht hbs htake hak
   cases hf:P.findS names t.f0.f0 with
   | none =>
    rw [hf] at HBS
    have HF:=Aside0.mk hf
    clear hf hq
    gi_wp2_with (refine ⟨trivial,?_⟩;gi_at_call 78;refine (callsIn_wide.2 (slices_BinarySearch_string_string.calls kb A0 c0 names _ _ _ _ (Kd.C_below HR0.out (HB2.out.alloc HB2.out.size _)) hc0 HBS.out)).mono ?_;rintro e w' ⟨rfl,⟨nd,rfl⟩⟩)
    refine ⟨fun _ h=>(by cases h),?_⟩
    gi_wp2
    go_roundw
    case rel=>exact ⟨k + 1,pre,by omega,by simp,⟨by rw [HTK.out,sel_snoc,HF.out,List.append_nil];exact HP.out⟩,⟨hJ _ _ _ none HJ.out (grown_box wr _ nd) (fun r e=>by cases e)⟩,⟨by rw [hn₀];exact below_box HB2.out HB2.out.size _ nd⟩,hbn1 _⟩
    case measure=>simp [intOf];omega
   | some i =>
    obtain rfl:=hq i hf
    rw [hf] at HBS
    have HF:=Aside0.mk hf
    have hqn:=P.findS_lt hf
    clear hf hq
    gi_wp2_with (refine ⟨trivial,?_⟩;gi_at_call 78;refine (callsIn_wide.2 (slices_BinarySearch_string_string.calls kb A0 c0 names _ _ _ _ (Kd.C_below HR0.out (HB2.out.alloc HB2.out.size _)) hc0 HBS.out)).mono ?_;rintro e w' ⟨rfl,⟨nd,rfl⟩⟩;obtain ⟨fn,tmps,assign,body,hy,hR⟩:=hY pre ⟨(q,t),hqn,HAK2.out⟩ _ (hJ _ _ _ none HJ.out (grown_box wr (.cells #[.string t.f0.f0,.int .i64 t.f0.f1,.int .i64 t.f0.f2,.int .i64 t.f0.f3,.int .i64 t.f1,.int .i64 t.f2] 92) nd) (fun r e=>by cases e)) hplen;dsimp only [hVal] at hy)
    refine hR.mono ?_
    rintro e W3 (⟨rfl,hJ3,hk3⟩|⟨rfl,hJx3⟩)
    ·have hbn3:W3.cell? ⟨bn,0,none⟩ = some (.slice A0 names.length c0):=by
      have e:=hk3.2
      have h2:((wr.alloc (.cells #[.string t.f0.f0,.int .i64 t.f0.f1,.int .i64 t.f0.f2,.int .i64 t.f0.f3,.int .i64 t.f1,.int .i64 t.f2] 92)).drewN nd).cell? ⟨bn,0,none⟩ = some (.slice A0 names.length c0):=hbn1 _
      unfold World.cell? at h2 ⊢
      rw [e]
      exact h2
     gi_wp2
     go_roundw
     case rel=>exact ⟨k + 1,pre ++ [⟨(q,t),hqn,HAK2.out⟩],by omega,by simp,⟨by rw [HTK.out,sel_snoc,HF.out,List.map_append,HP.out];rfl⟩,⟨hJ3⟩,⟨by rw [hn₀] at hk3 ⊢;exact (below_box HB2.out HB2.out.size _ nd).trans hk3.1⟩,hbn3⟩
     case measure=>simp [intOf];omega
    ·gi_wp2
     refine bodyPost_ret (results_none rfl _ _ _) rfl ?_
     exact ⟨⟨_,rfl⟩,.inr ⟨_,hJx3⟩⟩
  ·obtain rfl:k = l.length:=by omega
   gi_wp2
   go_end0
   exact ⟨⟨_,rfl⟩,.inl ⟨pre,by rw [HP.out,List.take_length],HJ.out⟩⟩
set_option maxRecDepth 100000 in
theorem known_calls (A0:Option Addr) (n0 c0:Nat) (A2:Option Addr) (n2 c2:Nat) (w:World) :
  Calls Try.prog 51 #[.slice A0 n0 c0,.slice A2 n2 c2] w fun e w'=>e = .returned (.func (.func 77) #[] #[.pointer (some ⟨w.heap.size + 1,0,none⟩),.pointer (some ⟨w.heap.size,0,none⟩)]) ∧ w' = (w.alloc (.cells #[.slice A0 n0 c0] 22)).alloc (.cells #[.slice A2 n2 c2] 30):=by
 go_enter Try.func51,Try.ntmps51
 go_wp2
 go_ret
 exact ⟨by simp,rfl⟩
theorem known_stops (n:Nat) (hn:1 ≤ n) (bl bn:Nat) (A0:Option Addr) (c0:Nat) (names:List ByteArray) (A2:Option Addr) (c2:Nat) (l:List S92) (W0 w:World) (hr0:Kd.C Kd.string W0 A0 names.length names) (hc0:names.length ≤ c0) (hr2:Kd.C k92 W0 A2 l.length l)
  (hasc:P.AscN names) (hlen:names.length ≤ 4611686018427387903) (hask:∀ h ∈ l,P.askOk h.f1 h.f2) (hBl:w.cell? ⟨bl,0,none⟩ = some (.slice A2 l.length c2)) (hBn:w.cell? ⟨bn,0,none⟩ = some (.slice A0 names.length c0)) (hB:Below W0.heap.size W0 w) :
  SeqStopsK Fence.wide n Try.prog 77 #[.pointer (some ⟨bl,0,none⟩),.pointer (some ⟨bn,0,none⟩)] (fun x:PH names=>#[.int .i64 (x.1.1:Int),hVal x.1.2]) (KpP W0.heap.size bn) (fun ys=>ys.map (·.1) = sel names l) (fun _=>True) l.length w:=fun lp J Jx W hW hJ _ hY h0=>by
 have hl:=block_lt_of_cell hBl
 have hn':=block_lt_of_cell hBn
 refine (known1_in n hn lp bl bn W0.heap.size A0 c0 names A2 c2 l W0 hr0 hc0 hr2 hasc hlen hask rfl J Jx _ hJ hY W ((hW.cell (p:=⟨bl,0,none⟩) hl).trans hBl) ((hW.cell (p:=⟨bn,0,none⟩) hn').trans hBn) (hB.trans (hW.mono hB.size)) h0).mono ?_
 rintro e W' ⟨he,h|⟨pre,h⟩⟩
 ·exact ⟨he,.inl h⟩
 ·exact ⟨he,.inr ⟨pre,trivial,h⟩⟩
theorem boxed_below {W W':World} {B:Nat} {t:TypeId} {v:Value} (h:Boxed W B t v) (hb:Below W.heap.size W W'):Boxed W' B t v:=(hb.block B h.lt).trans h
theorem boxed_own' {W W':World} {row:Option Nat} {B:Nat} {t:TypeId} {v:Value} (h:Boxed W B t v) (hg:W.grownBy W' row) (hr:∀ r,row = some r → ∃ o:Obj,W.heap[r]? = some o ∧ o.isCells = false):Boxed W' B t v :=
 h.kept hg (by
  intro e
  obtain ⟨o,ho,hc⟩:=hr B e.symm
  rw [show W.heap[B]? = _ from h] at ho
  cases ho
  simp [Obj.isCells] at hc)
theorem R_own' {α:Type} {d:Kd α} {e base:Nat} {ok:Nat → Prop} {v:Value} {xs:List α} {W W':World} {row:Option Nat} (h:d.R e W base ok v xs) (hg:W.grownBy W' row) (hr:∀ r,row = some r → ∃ o:Obj,W.heap[r]? = some o ∧ o.isCells = false):d.R e W' base ok v xs :=
 Kd.R_mono (Kd.R_grown (Kd.R_bound h) hg (fun k hk e'=>by
  obtain ⟨_,_,_,q,_,cells,hc⟩:=hk
  obtain ⟨o,ho,hn⟩:=hr k e'.symm
  rw [hc] at ho
  cases ho
  simp [Obj.isCells] at hn)) (fun _ hk=>hk.1)
theorem R_apart {α:Type} {d:Kd α} {e base:Nat} {ok:Nat → Prop} {v:Value} {xs:List α} {W W':World} {u:Value} {b e' s' n':Nat} {ys:List Value} (h:d.R e W base ok v xs) (hg:W.grownBy W' u.ownBlock) (hu:W.ownsRow b e' s' u n' ys) (hne:∀ q,q ∈ e :: d.E → q ≠ e'):d.R e W' base ok v xs :=
 Kd.R_mono (Kd.R_grown (Kd.R_bound h) hg (fun k hk e1=>by
  obtain ⟨_,_,_,q,hq,cells,hc⟩:=hk
  obtain ⟨cells',hc'⟩:=own_typed hu k e1.symm
  rw [hc] at hc'
  injection hc' with hc'
  injection hc' with _ hc'
  exact hne q hq hc')) (fun _ hk=>hk.1)
theorem own_base {W:World} {b e s n:Nat} {v:Value} {xs:List Value} (h:W.ownsRow b e s v n xs) (k:Nat) (hk:v.ownBlock = some k):b ≤ k:=by
 rcases h.2 with ⟨rfl,_⟩|⟨g,cap,cur,rfl,hb,_⟩
 ·simp [Value.ownBlock] at hk
 ·have:g = k:=by simpa [Value.ownBlock] using hk
  omega
theorem own_cells {W:World} {b e s n:Nat} {v:Value} {xs:List Value} (h:W.ownsRow b e s v n xs) (j:Nat) (o:Obj) (hj:v.ownBlock = some j) (ho:W.heap[j]? = some o):o.isCells = true:=by
 obtain ⟨cells,hc⟩:=own_typed h j hj
 rw [hc] at ho
 cases ho
 rfl
theorem boxed_ne {W:World} {B g:Nat} {t t':TypeId} {v:Value} {cs:Array Value} (h:Boxed W B t v) (hh:W.heap[g]? = some (.cells cs t' (0,0))) (hne:t ≠ t'):B ≠ g:=by
 rintro rfl
 rw [show W.heap[B]? = _ from h] at hh
 injection hh with hh
 injection hh with _ hh
 exact hne hh
theorem R_of_row {α:Type} (d:Kd α) (hE:d.E = []) {e base:Nat} {W w0:World} {ok0:Nat → Prop} {v:Value} {ys:List α} {inner:List Value} (hown:W.ownsRow base e d.sz v ys.length inner) (hr:Reps (d.M w0 base ok0) d.sz ys inner):d.R e W base (fun _=>True) v ys :=
 ⟨fun _ _=>trivial,inner,hown,hr.imp_ (fun _ _ hp=>M_any d hE hp)⟩
theorem cells_new (W:World) (cs:List Value) (t:TypeId) (j:Nat) (u:Value) (h:cs[j]? = some u):(W.alloc (.cells cs.toArray t)).cell? ((⟨W.heap.size,0,none⟩:Addr).add j) = some u:=by
 rw [Addr.add_lit,Nat.zero_add]
 simp only [World.cell?,World.alloc_heap_new,Option.isSome_none,Bool.false_eq_true,if_false,List.getElem?_toArray]
 exact h
theorem planStep_len (st:List S41 × List Int) (x:Nat × S92):(planStep st x).2.length = st.2.length ∧ (planStep st x).1.length ≤ st.1.length + 1:=by
 unfold planStep
 split <;> simp
theorem planStep_small (st:List S41 × List Int) (x:Nat × S92) (ha:P.askOk x.2.f1 x.2.f2) (hi:x.1 < st.2.length) (h:∀ y ∈ st.2,-1099511627776 ≤ y ∧ y ≤ 1099511627776):∀ y ∈ (planStep st x).2,-1099511627776 ≤ y ∧ y ≤ 1099511627776:=by
 unfold planStep
 split
 ·exact h
 ·intro y hy
  rcases List.mem_or_eq_of_mem_set hy with hy|rfl
  ·exact h y hy
  ·have h1:st.2.getD x.1 0 ∈ st.2:=by rw [List.getD,List.getElem?_eq_getElem hi];exact List.getElem_mem hi
   have:=h _ h1
   exact P.left_small ha this.1 this.2
theorem bad_none {names:List ByteArray} {deltas:List Int} (h:planBad names deltas = false):∀ i,i < names.length → planBadAt names deltas i = false:=by
 intro i hi
 have:=List.any_eq_false.1 h i (List.mem_range.2 hi)
 simpa using this
theorem bad_asc {names:List ByteArray} {deltas:List Int} (h:planBad names deltas = false):P.AscN names:=by
 refine List.pairwise_iff_getElem.2 ?_
 have key:∀ (d i:Nat) (hj:i + d + 1 < names.length),Op.bytesLess (names[i]'(by omega)).toList names[i + d + 1].toList = true:=by
  intro d
  induction d with
  | zero =>
   intro i hj
   have:=bad_none h (i + 1) hj
   simp only [planBadAt,Bool.or_eq_false_iff,Bool.and_eq_false_iff,decide_eq_false_iff_not,Bool.not_eq_false'] at this
   rcases this.1 with h0|h0
   ·omega
   ·simpa [List.getD,List.getElem?_eq_getElem (show i < names.length by omega),List.getElem?_eq_getElem hj] using h0
  | succ d ih =>
   intro i hj
   have h1:=ih i (by omega)
   have:=bad_none h (i + d + 1 + 1) (by omega)
   simp only [planBadAt,Bool.or_eq_false_iff,Bool.and_eq_false_iff,decide_eq_false_iff_not,Bool.not_eq_false'] at this
   rcases this.1 with h0|h0
   ·omega
   ·have h2:Op.bytesLess names[i + d + 1].toList names[i + d + 1 + 1].toList = true:=by
     have e1:names.getD (i + d + 1 + 1) ByteArray.empty = names[i + d + 1 + 1]:=by rw [List.getD,List.getElem?_eq_getElem (show i + d + 1 + 1 < names.length by omega)];rfl
     have e2:names.getD (i + d + 1 + 1 - 1) ByteArray.empty = names[i + d + 1]:=by rw [show i + d + 1 + 1 - 1 = i + d + 1 by omega,List.getD,List.getElem?_eq_getElem (show i + d + 1 < names.length by omega)];rfl
     rw [e1,e2] at h0
     exact h0
    exact P.bl_trans _ _ _ h1 h2
 intro i j hi hj hij
 have:=key (j - i - 1) i (by omega)
 simp only [show i + (j - i - 1) + 1 = j by omega] at this
 exact this
theorem bad_small {names:List ByteArray} {deltas:List Int} (h:planBad names deltas = false) (hl:deltas.length = names.length):∀ x ∈ deltas,-1099511627776 ≤ x ∧ x ≤ 1099511627776:=by
 intro x hx
 obtain ⟨i,hi,rfl⟩:=List.getElem_of_mem hx
 have:=bad_none h i (by omega)
 simp only [planBadAt,Bool.or_eq_false_iff,Bool.not_eq_false',Bool.and_eq_true,decide_eq_true_eq] at this
 have h2:=this.2
 simpa [List.getD,List.getElem?_eq_getElem hi] using h2
theorem go_asks:∀ (l:List S92) (seen:List (S39)),hedgeGo seen l = some 0 → ∀ h ∈ l,P.askOk h.f1 h.f2
 | [],seen,_,h,hh=>by simp at hh
 | t :: r,seen,e,h,hh=>by
  unfold hedgeGo at e
  by_cases h1:serOk t.f0 = true
  ·rw [if_pos h1,P.ask_f,Option.bind_some] at e
   by_cases h2:P.askE t.f1 t.f2 = 0
   ·rw [if_pos h2] at e
    by_cases h3:serHas seen t.f0 = true
    ·rw [if_pos h3] at e;exact absurd (Option.some.inj e) (by decide)
    ·rw [if_neg h3] at e
     rcases List.mem_cons.1 hh with rfl|hh
     ·exact P.askE_ok h2
     ·exact go_asks r _ e h hh
   ·rw [if_neg h2] at e;exact absurd (Option.some.inj e) h2
  ·rw [if_neg h1] at e;cases e
theorem check_asks {l:List S92} (h:hedge_Check.f l = some 0):l.length ≤ 1024 ∧ ∀ x ∈ l,P.askOk x.f1 x.f2:=by
 unfold hedge_Check.f at h
 by_cases c:(1024:Int) < (l.length:Int)
 ·rw [if_pos c] at h;exact absurd (Option.some.inj h) (by decide)
 ·rw [if_neg c] at h;exact ⟨by omega,go_asks l [] h⟩
set_option maxRecDepth 100000 in
set_option maxHeartbeats 4000000 in
theorem hedge_Plan.good (A0:Option Addr) (c0:Nat) (l0:List ByteArray) (A1:Option Addr) (c1:Nat) (l1:List Int) (A2:Option Addr) (c2:Nat) (l2:List S92) (w:World) (hr0:Kd.C Kd.string w A0 l0.length l0) (hc0:l0.length ≤ c0) (hr1:Kd.C (Kd.int .i64) w A1 l1.length l1) (hc1:l1.length ≤ c1) (hr2:Kd.C k92 w A2 l2.length l2) (hc2:l2.length ≤ c2)
  (hlim:l0.length < 17592186044416) (hck:hedge_Check.f l2 = some 0) (hlen:l1.length = l0.length) (hbad:planBad l0 l1 = false) :
  Calls Try.prog 15 #[.slice A0 l0.length c0,.slice A1 l1.length c1,.slice A2 l2.length c2] w fun e w'=>∃ v0_ v1_:Value,e = .returned (.tuple #[v0_,v1_,.int .i64 0]) ∧ Kd.R k41 41 w' w.heap.size (fun _=>True) v0_ ((sel l0 l2).foldl planStep ([],l1)).1 ∧ Kd.R (Kd.int .i64) 3 w' w.heap.size (fun _=>True) v1_ ((sel l0 l2).foldl planStep ([],l1)).2 ∧ Below w.heap.size w w':=by
 have hasc:=bad_asc hbad
 have hsmall:=bad_small hbad hlen
 have hnb:=bad_none hbad
 obtain ⟨hl2,hask⟩:=check_asks hck
 have HR0:=Aside0.mk hr0
 have HR1:=Aside0.mk hr1
 have HR2:=Aside0.mk hr2
 have HCK:=Aside0.mk hck
 have HNB:=Aside0.mk hnb
 have HAS:=Aside0.mk hasc
 have HAK:=Aside0.mk hask
 have HSM:=Aside0.mk hsmall
 clear hr0 hr1 hr2 hck hbad hnb hasc hask hsmall
 refine callsIn_wide.1 (callsIn_of_wp_marks (n:=5) Try.func15 rfl trivial ?_)
 simp only [Try.ntmps15,List.size_toArray,List.length_cons,List.length_nil,Nat.reduceAdd,Nat.reduceSub,Array.replicate_succ,Array.replicate_zero,List.push_toArray,List.append_toArray,List.nil_append,List.cons_append]
 refine wpIn_wide.2 ?_
 have HLN:=Aside0.mk hlen
 clear hlen
 obtain ⟨n0,hn0⟩:∃ n0,n0 = w.heap.size:=⟨_,rfl⟩
 have B6:=((Boxed.new w 26 (.slice none 0 0)).alloc (.cells #[.slice none 0 0] 23)).alloc (.cells #[.int .i64 0] 27)
 have B7:=(Boxed.new (w.alloc (.cells #[.slice none 0 0] 26)) 23 (.slice none 0 0)).alloc (.cells #[.int .i64 0] 27)
 have B8:=Boxed.new ((w.alloc (.cells #[.slice none 0 0] 26)).alloc (.cells #[.slice none 0 0] 23)) 27 (.int .i64 0)
 simp only [World.size_alloc] at B7 B8
 have HW3:Below w.heap.size w (((w.alloc (.cells #[.slice none 0 0] 26)).alloc (.cells #[.slice none 0 0] 23)).alloc (.cells #[.int .i64 0] 27)):=(((Below.refl _ w).alloc (Nat.le_refl _) _).alloc (by simp) _).alloc (by simp;omega) _
 have B6:=Aside0.mk B6
 have B7:=Aside0.mk B7
 have B8:=Aside0.mk B8
 have HW3:=Aside0.mk HW3
 have hlb:((l1.length:Int) != (l0.length:Int)) = false:=by rw [HLN.out];simp
 go_wp2_with (go_at_call 19;refine (hedge_Check.calls A2 c2 l2 0 _ (Kd.C_below HR2.out HW3.out) hc2 HCK.out).mono ?_;rintro e w4 ⟨rfl,hb4⟩;replace B6:=boxed_below B6.out hb4;replace B7:=boxed_below B7.out hb4;replace B8:=boxed_below B8.out hb4;have hc6:=B6.cell;have hf6:=B6.frozen;have hc7:=B7.cell;have hf7:=B7.frozen;have hc8:=B8.cell;have hf8:=B8.frozen;replace HW3:=Aside0.mk (HW3.out.trans (hb4.mono HW3.out.size));have B6:=Aside0.mk B6;have B7:=Aside0.mk B7;have B8:=Aside0.mk B8)
 have B6:=B6.out.other (B':=w.heap.size + 1 + 1) (by omega) (.int .i64 0)
 have B7:=B7.out.other (B':=w.heap.size + 1 + 1) (by omega) (.int .i64 0)
 have B8:=B8.out.set (.int .i64 0)
 have HW3:=(HW3.out).setCell (p:=⟨w.heap.size + 1 + 1,0,none⟩) (by simp;omega) (.int .i64 0)
 clear hc6 hf6 hc7 hf7 hc8 hf8 hb4
 generalize w4.setCell ⟨w.heap.size + 1 + 1,0,none⟩ (.int .i64 0) = W5 at B6 B7 B8 HW3 ⊢
 have B6:=Aside0.mk B6
 have B7:=Aside0.mk B7
 have B8:=Aside0.mk B8
 have HW3:=Aside0.mk HW3
 go_loopg [27] l0.length (fun kq v27 wr=>∃ (i:Nat),v27 = .int .i64 (i:Int) ∧ Aside0 (kq + i = l0.length) ∧ Aside0 (∃ nd,wr = W5.drewN nd))
 case atStart=>exact ⟨0,rfl,⟨by omega⟩,⟨0,rfl⟩⟩
 case round =>
  obtain ⟨i,rfl,Hk,⟨nd,rfl⟩⟩:=hrel
  by_cases hlt:i < l0.length
  ·have hlt1:i < l1.length:=by rw [HLN.out];exact hlt
   have hbi:=HNB.out i hlt
   simp only [planBadAt,Bool.or_eq_false_iff,Bool.not_eq_false',Bool.and_eq_false_iff,decide_eq_false_iff_not,Bool.and_eq_true,decide_eq_true_eq] at hbi
   obtain ⟨hb1,hb2,hb3⟩:=hbi
   have e1:l1.getD i 0 = rd l1 (i:Int):=by simp [rd]
   rw [e1] at hb2 hb3
   have hwi:hedge_within.f (rd l1 (i:Int)) 1099511627776 = some true:=by
    rw [P.within_f _ _ (by omega) (by omega),Option.some.injEq,Bool.and_eq_true,decide_eq_true_eq,decide_eq_true_eq]
    exact ⟨hb2,hb3⟩
   have HWI:=Aside0.mk hwi
   obtain ⟨ad0,ea0,hx0⟩:=Kd.at_string HR0.out (i:Int) (by omega) (by omega)
   obtain ⟨ad1,ea1,hx1⟩:=Kd.at_int HR1.out (i:Int) (by omega) (by omega)
   cases ea0
   cases ea1
   replace hx0:=(HW3.out.cell (World.block_lt_of_cell? w _ hx0)).trans hx0
   replace hx1:=(HW3.out.cell (World.block_lt_of_cell? w _ hx1)).trans hx1
   rw [Int.toNat_natCast] at hx0 hx1
   clear hwi hb2 hb3 e1
   by_cases h0:i = 0
   ·have hi0:¬ ((0:Int) < (i:Int)):=by omega
    clear h0 hb1
    go_wp2_with (go_at_call 49;refine (hedge_within.calls _ _ true _ HWI.out).mono ?_;rintro e1 w1 ⟨rfl,⟨nd1,rfl⟩⟩)
    go_roundg (gk - 1)
    case measure=>have:=Hk.out;omega
    case rel=>exact ⟨i + 1,by go_num,⟨by have:=Hk.out;omega⟩,⟨_,rfl⟩⟩
   ·have hp:=P.w_pred (i:=i) (by omega) (by omega)
    obtain ⟨ad2,ea2,hx2⟩:=Kd.at_string HR0.out ((i - 1:Nat):Int) (by omega) (by omega)
    cases ea2
    replace hx2:=(HW3.out.cell (World.block_lt_of_cell? w _ hx2)).trans hx2
    rw [Int.toNat_natCast] at hx2
    have hi1:(0:Int) < (i:Int):=by omega
    have hb1':Op.bytesLess (rdOf ByteArray.empty l0 ((i - 1:Nat):Int)).toList (rdOf ByteArray.empty l0 (i:Int)).toList = true:=by
     rcases hb1 with h|h
     ·omega
     ·have e1:l0.getD i ByteArray.empty = rdOf ByteArray.empty l0 (i:Int):=by simp [rdOf]
      have e2:l0.getD (i - 1) ByteArray.empty = rdOf ByteArray.empty l0 ((i - 1:Nat):Int):=by simp [rdOf]
      rw [← e1,← e2]
      exact h
    have hin:i - 1 < l0.length:=by omega
    clear hb1
    go_wp2_with (go_at_call 49;refine (hedge_within.calls _ _ true _ HWI.out).mono ?_;rintro e1 w1 ⟨rfl,⟨nd1,rfl⟩⟩)
    go_roundg (gk - 1)
    case measure=>have:=Hk.out;omega
    case rel=>exact ⟨i + 1,by go_num,⟨by have:=Hk.out;omega⟩,⟨_,rfl⟩⟩
  ·have hcl:slices_Clone_int_int.f l1 = some l1:=by
    unfold slices_Clone_int_int.f
    rw [if_pos (by rw [HLN.out];exact hlim)]
   have HCL:=Aside0.mk hcl
   have HWD:Below w.heap.size w (W5.drewN nd):=⟨HW3.out.os,HW3.out.tape,HW3.out.output,HW3.out.size,HW3.out.block⟩
   have HWD:=Aside0.mk HWD
   have B6:=Aside0.mk (show Boxed (W5.drewN nd) w.heap.size 26 (.slice none 0 0) from B6.out)
   have B7:=Aside0.mk (show Boxed (W5.drewN nd) (w.heap.size + 1) 23 (.slice none 0 0) from B7.out)
   have B8:=Aside0.mk (show Boxed (W5.drewN nd) (w.heap.size + 1 + 1) 27 (.int .i64 0) from B8.out)
   clear hcl
   go_wp2_with (first
    | (go_at_call 50;refine (slices_Clone_int_int.calls A1 c1 l1 l1 _ (Kd.C_below HR1.out HWD.out) hc1 HCL.out).mono ?_;rintro e w7 ⟨v7,rfl,ho7,hb7⟩;obtain ⟨A7,c7,rfl⟩:=Kd.R_slice ho7;replace B6:=Aside0.mk (boxed_below B6.out hb7);replace B7:=Aside0.mk (boxed_below B7.out hb7);replace B8:=Aside0.mk (boxed_below B8.out hb7);have hc7_:=B7.out.cell;have hf7_:=B7.out.frozen;have HO7:=Aside0.mk (Kd.R_lower ho7 HWD.out.size);replace HWD:=Aside0.mk (HWD.out.trans (hb7.mono HWD.out.size));clear ho7 hb7)
    | (go_at_call 51;refine (known_calls A0 l0.length c0 A2 l2.length c2 _).mono ?_;rintro e w9 ⟨rfl,rfl⟩))
   have hs7:w.heap.size + 1 + 1 < w7.heap.size:=B8.out.lt
   obtain ⟨W8,hW8⟩:∃ W8,W8 = w7.setCell ⟨w.heap.size + 1,0,none⟩ (.slice A7 l1.length c7):=⟨_,rfl⟩
   have hs8:W8.heap.size = w7.heap.size:=by rw [hW8];simp
   have D6:Boxed W8 w.heap.size 26 (.slice none 0 0):=by rw [hW8];exact B6.out.other (by omega) _
   have D7:Boxed W8 (w.heap.size + 1) 23 (.slice A7 l1.length c7):=by rw [hW8];exact B7.out.set _
   have D8:Boxed W8 (w.heap.size + 1 + 1) 27 (.int .i64 0):=by rw [hW8];exact B8.out.other (by omega) _
   have HO8:Kd.R (Kd.int .i64) 3 W8 w.heap.size (fun _=>True) (.slice A7 l1.length c7) l1:=by rw [hW8];exact Kd.R_set HO7.out B7.out (by decide) 0 _
   have HB8:Below w.heap.size w W8:=by rw [hW8];exact HWD.out.setCell (p:=⟨w.heap.size + 1,0,none⟩) (by simp) _
   rw [← hW8]
   clear hW8 B6 B7 B8 HO7 HWD hc7_ hf7_
   rw [← hs8] at hs7 ⊢
   clear hs8
   have DN:=(Boxed.new W8 22 (.slice A0 l0.length c0)).alloc (.cells #[.slice A2 l2.length c2] 30)
   have DL:=Boxed.new (W8.alloc (.cells #[.slice A0 l0.length c0] 22)) 30 (.slice A2 l2.length c2)
   rw [World.size_alloc] at DL
   have hsz9:((W8.alloc (.cells #[.slice A0 l0.length c0] 22)).alloc (.cells #[.slice A2 l2.length c2] 30)).heap.size = W8.heap.size + 1 + 1:=by simp
   have hb89:Below W8.heap.size W8 ((W8.alloc (.cells #[.slice A0 l0.length c0] 22)).alloc (.cells #[.slice A2 l2.length c2] 30)):=((Below.refl _ W8).alloc (Nat.le_refl _) _).alloc (by simp) _
   have HB9:=HB8.trans (hb89.mono (by omega))
   have E6:=boxed_below D6 hb89
   have E7:=boxed_below D7 hb89
   have E8:=boxed_below D8 hb89
   have HO9:=Kd.R_below HO8 hb89
   refine (wpIn_wide (n:=5)).1 ?_
   refine wpIn_rangeFunc_ownH (F:=Fence.wide) (n:=5) rfl (by decide) (gf:=77) (lb:=#[.pointer (some ⟨W8.heap.size + 1,0,none⟩),.pointer (some ⟨W8.heap.size,0,none⟩)]) rfl trivial (enters_of Try.func77 (by kernel_rfl) rfl)
    (known_stops (5 - 1) (by decide) (W8.heap.size + 1) W8.heap.size A0 c0 l0 A2 c2 l2 w _ HR0.out hc0 HR2.out HAS.out (by omega) HAK.out DL.cell DN.cell HB9)
    (fun h k=>⟨h.1.trans k.1,k.2.trans h.2⟩) (fun W l o o' hl ho hc hw=>⟨belowK_b (w:=w) (Nat.le_refl _) W l o o' (by rw [hsz9] at hl;omega) ho hc hw,World.putObj_heap_other (by rw [hsz9] at hl;omega)⟩) (Below.refl _ _) (fun _=>rfl)
    (fun (pre:List (PH l0)) W=>(∃ v6 v7:Value,Boxed W w.heap.size 26 v6 ∧ Boxed W (w.heap.size + 1) 23 v7 ∧ Boxed W (w.heap.size + 1 + 1) 27 (.int .i64 0) ∧ Boxed W W8.heap.size 22 (.slice A0 l0.length c0) ∧ Kd.R k41 41 W w.heap.size (fun _=>True) v6 ((pre.map (·.1)).foldl planStep ([],l1)).1 ∧ Kd.R (Kd.int .i64) 3 W w.heap.size (fun _=>True) v7 ((pre.map (·.1)).foldl planStep ([],l1)).2 ∧ (∀ y ∈ ((pre.map (·.1)).foldl planStep ([],l1)).2,-1099511627776 ≤ y ∧ y ≤ 1099511627776) ∧ ((pre.map (·.1)).foldl planStep ([],l1)).2.length = l0.length ∧ ((pre.map (·.1)).foldl planStep ([],l1)).1.length ≤ pre.length) ∧ Below w.heap.size w W)
    (fun _ _ _=>False)
    (fun s W W' row hs hg hr=>by
     obtain ⟨⟨v6,v7,h6,h7,h8,hn,r6,r7,hx⟩,hb⟩:=hs
     have hr':∀ r,row = some r → ∃ o:Obj,W.heap[r]? = some o ∧ o.isCells = false:=fun r e=>(hr r e).2
     exact ⟨⟨v6,v7,boxed_own' h6 hg hr',boxed_own' h7 hg hr',boxed_own' h8 hg hr',boxed_own' hn hg hr',R_own' r6 hg hr',R_own' r7 hg hr',hx⟩,hb.grown hg hb.size (fun k e=>by have:=(hr k e).1;rw [hsz9] at this;omega)⟩)
    (fun _ _ _ _ _ hs _ _=>hs)
    ⟨⟨_,_,E6,E7,E8,DN,Kd.R_nil _ _ _ _ _,HO9,HSM.out,HLN.out,Nat.le_refl _⟩,HB9⟩
    (fun x a' W=>∃ Bx,W.heap[Bx]? = some (.cells #[.string x.1.2.f0.f0,.int .i64 x.1.2.f0.f1,.int .i64 x.1.2.f0.f2,.int .i64 x.1.2.f0.f3,.int .i64 x.1.2.f1,.int .i64 x.1.2.f2] 92 (0,0)) ∧ a' = { tmps:=#[.slice A0 l0.length c0,.slice A1 l1.length c1,.slice A2 l2.length c2,undef,undef,undef,.pointer (some ⟨w.heap.size,0,none⟩),.pointer (some ⟨w.heap.size + 1,0,none⟩),.pointer (some ⟨w.heap.size + 1 + 1,0,none⟩),u9,u10,.int .i64 (x.1.1:Int),.pointer (some ⟨Bx,0,none⟩),undef,undef,.slice A2 l2.length c2,.int .i64 0,.int .i64 0,.bool false,undef,.slice A1 l1.length c1,.int .i64 (l1.length:Int),.slice A0 l0.length c0,.int .i64 (l0.length:Int),.bool false,.slice A0 l0.length c0,.int .i64 (l0.length:Int),.int .i64 (i:Int),.bool false,u29,u30,u31,u32,u33,u34,u35,u36,u37,u38,u39,u40,u41,u42,u43,u44,u45,u46,u47,u48,u49,u50,u51,.slice A1 l1.length c1,.slice A7 l1.length c7,.slice A0 l0.length c0,.slice A2 l2.length c2,.func (.func 77) #[] #[.pointer (some ⟨W8.heap.size + 1,0,none⟩),.pointer (some ⟨W8.heap.size,0,none⟩)],.int .i64 (x.1.1:Int),hVal x.1.2,undef,undef,undef,undef,undef,undef,undef,undef,undef,undef,undef,undef,undef,undef,undef,undef,undef,undef,undef,undef,undef,undef,undef,undef,undef,undef,undef,undef,undef,undef,undef,undef,undef,undef,undef,undef],defers:=[] })
    (fun x a' _ W W' row hs hg hr=>by
     obtain ⟨Bx,h2,h3⟩:=hs
     refine ⟨Bx,?_,h3⟩
     refine (hg.block Bx (Array.getElem?_eq_some_iff.1 h2).1 ?_).trans h2
     intro e
     obtain ⟨_,o,ho,hc⟩:=hr Bx e.symm
     rw [h2] at ho
     cases ho
     simp [Obj.isCells] at hc) ?assign ?body ?done ?stop
   case assign =>
    rintro lp pre x W K hI hK
    obtain ⟨⟨v6,v7,h6,h7,h8,hn,r6,r7,hx⟩,hb⟩:=hI
    gi_wp2
    exact hK _ _ ((KeepsOthers.alloc _ _).from _) ⟨(Below.refl _ W).alloc hb.size _,Below.heap_alloc W _ _ hn.lt⟩
     ⟨⟨v6,v7,h6.alloc _,h7.alloc _,h8.alloc _,hn.alloc _,Kd.R_below r6 ((Below.refl _ W).alloc (Nat.le_refl _) _),Kd.R_below r7 ((Below.refl _ W).alloc (Nat.le_refl _) _),hx⟩,hb.alloc hb.size _⟩
     ⟨W.heap.size,World.alloc_heap_new W _,rfl⟩
   case body =>
    rintro lp pre ⟨⟨q,t⟩,hq,hak⟩ a' W hl ⟨r,hr⟩ ⟨⟨v6,v7,h6,h7,h8,hn,r6,r7,hin,hlen7,hlen6⟩,hB⟩ ⟨Bx,hBx,rfl⟩ hlt
    dsimp only at hq hak hBx ⊢
    obtain ⟨st,hst⟩:∃ st,st = (pre.map (·.1)).foldl planStep ([],l1):=⟨_,rfl⟩
    have hstep:(((pre ++ [(⟨(q,t),hq,hak⟩:PH l0)]).map (·.1)).foldl planStep ([],l1)) = planStep st (q,t):=by
     rw [List.map_append,List.foldl_append,← hst]
     rfl
    rw [← hst] at r6 r7 hin hlen7 hlen6
    clear hst
    obtain ⟨OR,LF⟩:=st
    dsimp only at r6 r7 hin hlen7 hlen6
    obtain ⟨A6,c6,rfl⟩:=Kd.R_slice r6
    obtain ⟨g7,cap7,cur7,rfl,hg7,_,hh7,hn7,hc7,hs7',hrep7⟩:=R_row_open (Kd.int .i64) r7 (by omega)
    have hq7:q < LF.length:=by omega
    have hcell:=(Kd.R_cell (0:Int) r7 (q:Int) (by omega) (by omega))
    have hx0:W.cell? ⟨Bx,0,none⟩ = some (.string t.f0.f0):=by simp [World.cell?,hBx]
    have hx1:W.cell? ⟨Bx,1,none⟩ = some (.int .i64 t.f0.f1):=by simp [World.cell?,hBx]
    have hx2:W.cell? ⟨Bx,2,none⟩ = some (.int .i64 t.f0.f2):=by simp [World.cell?,hBx]
    have hx3:W.cell? ⟨Bx,3,none⟩ = some (.int .i64 t.f0.f3):=by simp [World.cell?,hBx]
    have hx4:W.cell? ⟨Bx,4,none⟩ = some (.int .i64 t.f1):=by simp [World.cell?,hBx]
    have hx5:W.cell? ⟨Bx,5,none⟩ = some (.int .i64 t.f2):=by simp [World.cell?,hBx]
    rw [Int.toNat_natCast] at hcell
    obtain ⟨hc7',hf7'⟩:=hcell
    have hd:rdOf 0 LF (q:Int) = LF.getD q 0:=by simp [rdOf]
    rw [hd] at hc7'
    have hdin:=hin (LF.getD q 0) (by rw [List.getD,List.getElem?_eq_getElem hq7];exact List.getElem_mem hq7)
    obtain ⟨dv,hdv⟩:∃ dv,dv = LF.getD q 0:=⟨_,rfl⟩
    rw [← hdv] at hc7' hdin
    have HBEST:=Aside0.mk (P.best_f 0 hdin.1 hdin.2 hak)
    have HLW:=Aside0.mk (P.left_wrap hak hdin.1 hdin.2)
    obtain ⟨bN,hbN⟩:∃ bN,bN = P.bestS dv t.f1 t.f2:=⟨_,rfl⟩
    rw [← hbN] at HBEST HLW
    have hps:planStep (OR,LF) (q,t) = if bN = 0 then (OR,LF) else (OR ++ [⟨t.f0,bN⟩],LF.set q (dv + bN * t.f1)):=by
     rw [hbN,hdv]
     rfl
    have hsml:=planStep_small (OR,LF) (q,t) hak hq7 hin
    have hpl:=planStep_len (OR,LF) (q,t)
    rw [hps] at hsml hpl
    have HPS:=Aside0.mk hps
    have HSML:=Aside0.mk hsml
    have HPL:=Aside0.mk hpl
    have HST:=Aside0.mk hstep
    clear hbN hdv hps hsml hpl hstep
    have R6:=Aside0.mk r6
    have R7:=Aside0.mk r7
    have HIN:=Aside0.mk hin
    have HBX:=Aside0.mk hBx
    have G6:=Aside0.mk h6
    have G7:=Aside0.mk h7
    have G8:=Aside0.mk h8
    have GN:=Aside0.mk hn
    have HBB:=Aside0.mk hB
    have hb6:=h6.cell
    have hb7:=h7.cell
    have hb8:=h8.cell
    have hHH:=Aside0.mk hh7
    clear hh7 hs7' hn7 hc7 hrep7 hdin hd r6 r7 hin hBx h6 h7 h8 hn hB
    have hqi:((q:Int)) < (LF.length:Int):=by omega
    have hq0:(0:Int) ≤ (q:Int):=by omega
    have mixed:Try.prog.follows .mixedOrders = true:=by kernel_rfl
    gi_wp2
    refine start_in (m:=14) (ds:=[]) (S:=fun w'=>w'.cell? ⟨w.heap.size + 1,0,none⟩ = some (.slice (some ⟨g7,0,none⟩) LF.length cap7) ∧ w'.cell? ⟨g7,q,none⟩ = some (.int .i64 dv) ∧ w'.cell? ⟨Bx,4,none⟩ = some (.int .i64 t.f1) ∧ w'.cell? ⟨Bx,5,none⟩ = some (.int .i64 t.f2)) #[Z,Z,Z,Z,Z,Z,Z,Z,Z,Z,Z,Z,Z,Z] mixed (by kernel_rfl) (by rintro ⟨_,_,h⟩;exact h) rfl rfl ⟨hb7,hc7',hx4,hx5⟩ (fun hHeld=>?_)
    refine pure_ (i:=1) (N:=some 61) (v:=?_) (a':=?_) #[Z,Y,Z,Z,Z,Z,Z,Z,Z,Z,Z,Z,Z,Z] rfl rfl (by kernel_rfl) (fun _ _ _ h=>h) (Or.inl ⟨by rfl,?_⟩) ?_ ?_
    rotate_left
    ·intro w'
     go_simp
     with_reducible rfl
    rotate_left
    ·simp only [Act.put,List.setIfInBounds_toArray,List.set_cons_zero,List.set_cons_succ,i64_w,i32_w]
     rfl
    refine pure_ (i:=4) (N:=some 64) (v:=?_) (a':=?_) #[Z,Y,Z,Z,Y,Z,Z,Z,Z,Z,Z,Z,Z,Z] rfl rfl (by kernel_rfl) (fun _ _ _ h=>h) (Or.inl ⟨by rfl,?_⟩) ?_ ?_
    rotate_left
    ·intro w'
     go_simp
     with_reducible rfl
    rotate_left
    ·simp only [Act.put,List.setIfInBounds_toArray,List.set_cons_zero,List.set_cons_succ,i64_w,i32_w]
     rfl
    refine pure_ (i:=6) (N:=some 66) (v:=?_) (a':=?_) #[Z,Y,Z,Z,Y,Z,Y,Z,Z,Z,Z,Z,Z,Z] rfl rfl (by kernel_rfl) (fun _ _ _ h=>h) (Or.inl ⟨by rfl,?_⟩) ?_ ?_
    rotate_left
    ·intro w'
     go_simp
     with_reducible rfl
    rotate_left
    ·simp only [Act.put,List.setIfInBounds_toArray,List.set_cons_zero,List.set_cons_succ,i64_w,i32_w]
     rfl
    refine take_ (i:=0) (N:=some 60) (v:=?_) (a':=?_) #[Y,Y,Z,Z,Y,Z,Y,Z,Z,Z,Z,Z,Z,Z] rfl rfl (by kernel_rfl) (fun _ _ _ h=>h) (Or.inl ⟨by rfl,?_⟩) hHeld ?_ ?_
    rotate_left
    ·rintro w' ⟨s0,s1,s2,s3⟩
     go_simp
     with_reducible rfl
    rotate_left
    ·simp only [Act.put,List.setIfInBounds_toArray,List.set_cons_zero,List.set_cons_succ,i64_w,i32_w]
     rfl
    refine pure_ (i:=2) (N:=some 62) (v:=?_) (a':=?_) #[Y,Y,Y,Z,Y,Z,Y,Z,Z,Z,Z,Z,Z,Z] rfl rfl (by kernel_rfl) (fun _ _ _ h=>h) (Or.inl ⟨by rfl,?_⟩) ?_ ?_
    rotate_left
    ·intro w'
     go_simp
     with_reducible rfl
    rotate_left
    ·simp only [Act.put,List.setIfInBounds_toArray,List.set_cons_zero,List.set_cons_succ,i64_w,i32_w]
     rfl
    refine take_ (i:=3) (N:=some 63) (v:=?_) (a':=?_) #[Y,Y,Y,Y,Y,Z,Y,Z,Z,Z,Z,Z,Z,Z] rfl rfl (by kernel_rfl) (fun _ _ _ h=>h) (Or.inl ⟨by rfl,?_⟩) hHeld ?_ ?_
    rotate_left
    ·rintro w' ⟨s0,s1,s2,s3⟩
     go_simp
     with_reducible rfl
    rotate_left
    ·simp only [Act.put,List.setIfInBounds_toArray,List.set_cons_zero,List.set_cons_succ,i64_w,i32_w]
     rfl
    refine take_ (i:=5) (N:=some 65) (v:=?_) (a':=?_) #[Y,Y,Y,Y,Y,Y,Y,Z,Z,Z,Z,Z,Z,Z] rfl rfl (by kernel_rfl) (fun _ _ _ h=>h) (Or.inl ⟨by rfl,?_⟩) hHeld ?_ ?_
    rotate_left
    ·rintro w' ⟨s0,s1,s2,s3⟩
     go_simp
     with_reducible rfl
    rotate_left
    ·simp only [Act.put,List.setIfInBounds_toArray,List.set_cons_zero,List.set_cons_succ,i64_w,i32_w]
     rfl
    refine take_ (i:=7) (N:=some 67) (v:=?_) (a':=?_) #[Y,Y,Y,Y,Y,Y,Y,Y,Z,Z,Z,Z,Z,Z] rfl rfl (by kernel_rfl) (fun _ _ _ h=>h) (Or.inl ⟨by rfl,?_⟩) hHeld ?_ ?_
    rotate_left
    ·rintro w' ⟨s0,s1,s2,s3⟩
     go_simp
     with_reducible rfl
    rotate_left
    ·simp only [Act.put,List.setIfInBounds_toArray,List.set_cons_zero,List.set_cons_succ,i64_w,i32_w]
     rfl
    refine one_ (i:=8) (N:=some 68) #[Y,Y,Y,Y,Y,Y,Y,Y,Y,Z,Z,Z,Z,Z] rfl rfl (by kernel_rfl) (by decide) (fun K hK=>?_)
    refine goes_ Try.func21 (by kernel_rfl) rfl #[.int .i64 dv,.int .i64 t.f1,.int .i64 t.f2] (by rfl) rfl rfl (by (try simp only [List.map_toArray,List.map_cons,List.map_nil]);first|done|rfl) ?_
    refine (hedge_Best.calls 1 _ _ _ bN 0 _ HBEST.out).mono ?_
    rintro e w1 ⟨rfl,hb1⟩
    refine ⟨_,rfl,?_⟩
    have hB1:Below W.heap.size W w1:=⟨hb1.os,hb1.tape,hb1.output,hb1.size,hb1.block⟩
    have kc:∀ {p:Addr} {v:Value},W.cell? p = some v → w1.cell? p = some v:=fun h=>(hB1.cell (block_lt_of_cell h)).trans h
    refine hK.out _ _ ⟨kc hb7,kc hc7',kc hx4,kc hx5⟩ ?_
    clear hK K
    intro hHeld
    refine norm_ (a':=?_) ?_ ?_
    rotate_left
    ·show Act.put _ (some 68) _ = _
     simp only [Act.put,List.setIfInBounds_toArray,List.set_cons_zero,List.set_cons_succ,i64_w,i32_w]
     rfl
    refine pure_ (i:=9) (N:=some 59) (v:=?_) (a':=?_) #[Y,Y,Y,Y,Y,Y,Y,Y,Y,Y,Z,Z,Z,Z] rfl rfl (by kernel_rfl) (fun _ _ _ h=>h) (Or.inl ⟨by rfl,?_⟩) ?_ ?_
    rotate_left
    ·intro w'
     go_simp
     with_reducible rfl
    rotate_left
    ·simp only [Act.put,List.setIfInBounds_toArray,List.set_cons_zero,List.set_cons_succ,i64_w,i32_w]
     rfl
    refine pure_ (i:=10) (N:=some 69) (v:=?_) (a':=?_) #[Y,Y,Y,Y,Y,Y,Y,Y,Y,Y,Y,Z,Z,Z] rfl rfl (by kernel_rfl) (fun _ _ _ h=>h) (Or.inl ⟨by rfl,?_⟩) ?_ ?_
    rotate_left
    ·intro w'
     go_simp
     with_reducible rfl
    rotate_left
    ·simp only [Act.put,List.setIfInBounds_toArray,List.set_cons_zero,List.set_cons_succ,i64_w,i32_w]
     rfl
    refine pure_ (i:=11) (N:=some 70) (v:=?_) (a':=?_) #[Y,Y,Y,Y,Y,Y,Y,Y,Y,Y,Y,Y,Z,Z] rfl rfl (by kernel_rfl) (fun _ _ _ h=>h) (Or.inl ⟨by rfl,?_⟩) ?_ ?_
    rotate_left
    ·intro w'
     go_simp
     with_reducible rfl
    rotate_left
    ·simp only [Act.put,List.setIfInBounds_toArray,List.set_cons_zero,List.set_cons_succ,i64_w,i32_w]
     rfl
    refine pure_ (i:=12) (N:=some 13) (v:=?_) (a':=?_) #[Y,Y,Y,Y,Y,Y,Y,Y,Y,Y,Y,Y,Y,Z] rfl rfl (by kernel_rfl) (fun _ _ _ h=>h) (Or.inl ⟨by rfl,?_⟩) ?_ ?_
    rotate_left
    ·intro w'
     go_simp
     with_reducible rfl
    rotate_left
    ·simp only [Act.put,List.setIfInBounds_toArray,List.set_cons_zero,List.set_cons_succ,i64_w,i32_w]
     rfl
    refine pure_ (i:=13) (N:=some 14) (v:=?_) (a':=?_) #[Y,Y,Y,Y,Y,Y,Y,Y,Y,Y,Y,Y,Y,Y] rfl rfl (by kernel_rfl) (fun _ _ _ h=>h) (Or.inl ⟨by rfl,?_⟩) ?_ ?_
    rotate_left
    ·intro w'
     go_simp
     with_reducible rfl
    rotate_left
    ·simp only [Act.put,List.setIfInBounds_toArray,List.set_cons_zero,List.set_cons_succ,i64_w,i32_w]
     rfl
    refine done_ (by kernel_rfl) ?_
    clear hHeld hb1
    have HB1:=Aside0.mk hB1
    replace G6:=boxed_below G6.out hB1
    replace G7:=boxed_below G7.out hB1
    replace G8:=boxed_below G8.out hB1
    have GN1:=boxed_below GN.out hB1
    have hHH1:=(hB1.block g7 (Array.getElem?_eq_some_iff.1 hHH.out).1).trans hHH.out
    replace R6:=Kd.R_below R6.out hB1
    replace R7:=Kd.R_below R7.out hB1
    have hHBX:=(hB1.block Bx (Array.getElem?_eq_some_iff.1 HBX.out).1).trans HBX.out
    have hWn:w.heap.size ≤ W.heap.size:=HBB.out.size
    have hf7w:w1.frozen? ⟨g7,q,none⟩ = false:=by simp [World.frozen?,hHH1]
    have hc7w:=kc hc7'
    have hx4w:=kc hx4
    have hb7w:=kc hb7
    have KF:KeepsFrom (((W8.alloc (.cells #[.slice A0 l0.length c0] 22)).alloc (.cells #[.slice A2 l2.length c2] 30)).heap.size) W w1:=⟨hB1.size,fun k o _ hk _=>(hB1.block k (Array.getElem?_eq_some_iff.1 hk).1).trans hk⟩
    clear kc hb6 hb7 hb8 hx0 hx1 hx2 hx3 hx4 hx5 hc7' hf7'
    by_cases hb0:bN = 0
    ·have hps:=HPS.out
     rw [if_pos hb0] at hps
     have HPS2:=Aside0.mk hps
     have HG6:=Aside0.mk G6
     have HG7:=Aside0.mk G7
     have HG8:=Aside0.mk G8
     have HGN:=Aside0.mk GN1
     have HR6:=Aside0.mk R6
     have HR7:=Aside0.mk R7
     have HKF:=Aside0.mk KF
     clear hps hB1 G6 G7 G8 GN1 R6 R7 KF hHH1 hHBX
     gi_wp2
     refine ⟨HKF.out,⟨HB1.out.mono hWn,HB1.out.block _ GN.out.lt⟩,⟨_,_,HG6.out,HG7.out,HG8.out,HGN.out,?_,?_,?_,?_,?_⟩,HBB.out.trans (HB1.out.mono hWn)⟩
     ·rw [HST.out,HPS2.out];exact HR6.out
     ·rw [HST.out,HPS2.out];exact HR7.out
     ·rw [HST.out,HPS2.out];exact HIN.out
     ·rw [HST.out,HPS2.out];exact hlen7
     ·rw [HST.out,HPS2.out,List.length_append];simp only [List.length_singleton];omega
    ·have hps:=HPS.out
     rw [if_neg hb0] at hps
     have HPS2:=Aside0.mk hps
     have hsml:=HSML.out
     have hpl:=HPL.out
     rw [if_neg hb0] at hsml hpl
     have HSM2:=Aside0.mk hsml
     have HPL2:=Aside0.mk hpl
     have hbn:(bN != 0) = true:=bne_iff_ne.2 hb0
     have hw64:=HLW.out
     have hne6:=boxed_ne G6 hHH1 (by decide)
     have hne7:=boxed_ne G7 hHH1 (by decide)
     have hne8:=boxed_ne G8 hHH1 (by decide)
     have hneN:=boxed_ne GN1 hHH1 (by decide)
     have hneB:Bx ≠ g7:=by
      rintro rfl
      rw [hHBX] at hHH1
      injection hHH1 with hh
      injection hh with _ hh
      exact absurd hh (by decide)
     obtain ⟨P7,hgr7⟩:=Kd.R_putg R7 (q:Int) (dv + bN * t.f1)
     rw [Int.toNat_natCast] at P7 hgr7
     obtain ⟨in7,ho7⟩:=Kd.R_own R7
     have P6:=R_apart (u:=.slice (some ⟨g7,0,none⟩) LF.length cap7) R6 hgr7 ho7 (by decide)
     have K6:=G6.kept hgr7 (fun e=>hne6 (by injection e))
     have K7:=G7.kept hgr7 (fun e=>hne7 (by injection e))
     have K8:=G8.kept hgr7 (fun e=>hne8 (by injection e))
     have KN:=GN1.kept hgr7 (fun e=>hneN (by injection e))
     have KX:=(hgr7.block Bx (Array.getElem?_eq_some_iff.1 hHBX).1 (fun e=>hneB (by injection e))).trans hHBX
     have KB:Below w.heap.size w (w1.setCell ⟨g7,q,none⟩ (.int .i64 (dv + bN * t.f1))):=(HBB.out.trans (HB1.out.mono hWn)).setCell (p:=⟨g7,q,none⟩) hg7 _
     have KP:Below w.heap.size W (w1.setCell ⟨g7,q,none⟩ (.int .i64 (dv + bN * t.f1))):=(HB1.out.mono hWn).setCell (p:=⟨g7,q,none⟩) hg7 _
     have KF2:=KF.trans ((KeepsOthers.setCell w1 ⟨g7,q,none⟩ (.int .i64 (dv + bN * t.f1))).from _)
     have A6_:=Aside0.mk P6
     have A7_:=Aside0.mk P7
     have B6_:=Aside0.mk K6
     have B7_:=Aside0.mk K7
     have B8_:=Aside0.mk K8
     have BN_:=Aside0.mk KN
     have BX_:=Aside0.mk KX
     have BB_:=Aside0.mk KB
     have BP_:=Aside0.mk KP
     have BF_:=Aside0.mk KF2
     clear hB1 G6 G7 G8 GN1 R6 R7 KF hHH1 hHBX P6 P7 K6 K7 K8 KN KX KB KP KF2 hgr7 ho7 hps hsml hpl hne6 hne7 hne8 hneN hneB
     gi_wp2
     refine start_in (m:=11) (ds:=[10]) (S:=fun w'=>w'.cell? ⟨w.heap.size + 1,0,none⟩ = some (.slice (some ⟨g7,0,none⟩) LF.length cap7) ∧ w'.cell? ⟨g7,q,none⟩ = some (.int .i64 dv) ∧ w'.cell? ⟨Bx,4,none⟩ = some (.int .i64 t.f1)) #[Z,Z,Z,Z,Z,Z,Z,Z,Z,Z,Z] mixed (by kernel_rfl) (by rintro ⟨_,_,h⟩;exact h) rfl rfl ⟨hb7w,hc7w,hx4w⟩ (fun hHeld=>?_)
     refine pure_ (i:=1) (N:=some 77) (v:=?_) (a':=?_) #[Z,Y,Z,Z,Z,Z,Z,Z,Z,Z,Z] rfl rfl (by kernel_rfl) (fun _ _ _ h=>h) (Or.inl ⟨by rfl,?_⟩) ?_ ?_
     rotate_left
     ·intro w'
      go_simp
      with_reducible rfl
     rotate_left
     ·simp only [Act.put,List.setIfInBounds_toArray,List.set_cons_zero,List.set_cons_succ,i64_w,i32_w]
      rfl
     refine pure_ (i:=4) (N:=some 80) (v:=?_) (a':=?_) #[Z,Y,Z,Z,Y,Z,Z,Z,Z,Z,Z] rfl rfl (by kernel_rfl) (fun _ _ _ h=>h) (Or.inl ⟨by rfl,?_⟩) ?_ ?_
     rotate_left
     ·intro w'
      go_simp
      with_reducible rfl
     rotate_left
     ·simp only [Act.put,List.setIfInBounds_toArray,List.set_cons_zero,List.set_cons_succ,i64_w,i32_w]
      rfl
     refine pure_ (i:=5) (N:=some 81) (v:=?_) (a':=?_) #[Z,Y,Z,Z,Y,Y,Z,Z,Z,Z,Z] rfl rfl (by kernel_rfl) (fun _ _ _ h=>h) (Or.inl ⟨by rfl,?_⟩) ?_ ?_
     rotate_left
     ·intro w'
      go_simp
      with_reducible rfl
     rotate_left
     ·simp only [Act.put,List.setIfInBounds_toArray,List.set_cons_zero,List.set_cons_succ,i64_w,i32_w]
      rfl
     refine take_ (i:=0) (N:=some 76) (v:=?_) (a':=?_) #[Y,Y,Z,Z,Y,Y,Z,Z,Z,Z,Z] rfl rfl (by kernel_rfl) (fun _ _ _ h=>h) (Or.inl ⟨by rfl,?_⟩) hHeld ?_ ?_
     rotate_left
     ·rintro w' ⟨s0,s1,s2⟩
      go_simp
      with_reducible rfl
     rotate_left
     ·simp only [Act.put,List.setIfInBounds_toArray,List.set_cons_zero,List.set_cons_succ,i64_w,i32_w]
      rfl
     refine pure_ (i:=2) (N:=some 78) (v:=?_) (a':=?_) #[Y,Y,Y,Z,Y,Y,Z,Z,Z,Z,Z] rfl rfl (by kernel_rfl) (fun _ _ _ h=>h) (Or.inl ⟨by rfl,?_⟩) ?_ ?_
     rotate_left
     ·intro w'
      go_simp
      with_reducible rfl
     rotate_left
     ·simp only [Act.put,List.setIfInBounds_toArray,List.set_cons_zero,List.set_cons_succ,i64_w,i32_w]
      rfl
     refine take_ (i:=3) (N:=some 79) (v:=?_) (a':=?_) #[Y,Y,Y,Y,Y,Y,Z,Z,Z,Z,Z] rfl rfl (by kernel_rfl) (fun _ _ _ h=>h) (Or.inl ⟨by rfl,?_⟩) hHeld ?_ ?_
     rotate_left
     ·rintro w' ⟨s0,s1,s2⟩
      go_simp
      with_reducible rfl
     rotate_left
     ·simp only [Act.put,List.setIfInBounds_toArray,List.set_cons_zero,List.set_cons_succ,i64_w,i32_w]
      rfl
     refine take_ (i:=6) (N:=some 82) (v:=?_) (a':=?_) #[Y,Y,Y,Y,Y,Y,Y,Z,Z,Z,Z] rfl rfl (by kernel_rfl) (fun _ _ _ h=>h) (Or.inl ⟨by rfl,?_⟩) hHeld ?_ ?_
     rotate_left
     ·rintro w' ⟨s0,s1,s2⟩
      go_simp
      with_reducible rfl
     rotate_left
     ·simp only [Act.put,List.setIfInBounds_toArray,List.set_cons_zero,List.set_cons_succ,i64_w,i32_w]
      rfl
     refine pure_ (i:=7) (N:=some 83) (v:=?_) (a':=?_) #[Y,Y,Y,Y,Y,Y,Y,Y,Z,Z,Z] rfl rfl (by kernel_rfl) (fun _ _ _ h=>h) (Or.inl ⟨by rfl,?_⟩) ?_ ?_
     rotate_left
     ·intro w'
      go_simp
      with_reducible rfl
     rotate_left
     ·simp only [Act.put,List.setIfInBounds_toArray,List.set_cons_zero,List.set_cons_succ,i64_w,i32_w]
      rfl
     refine pure_ (i:=8) (N:=some 84) (v:=?_) (a':=?_) #[Y,Y,Y,Y,Y,Y,Y,Y,Y,Z,Z] rfl rfl (by kernel_rfl) (fun _ _ _ h=>h) (Or.inl ⟨by rfl,?_⟩) ?_ ?_
     rotate_left
     ·intro w'
      go_simp
      with_reducible rfl
     rotate_left
     ·simp only [Act.put,List.setIfInBounds_toArray,List.set_cons_zero,List.set_cons_succ,i64_w,i32_w]
      rfl
     refine pure_ (i:=9) (N:=some 85) (v:=?_) (a':=?_) #[Y,Y,Y,Y,Y,Y,Y,Y,Y,Y,Z] rfl rfl (by kernel_rfl) (fun _ _ _ h=>h) (Or.inl ⟨by rfl,?_⟩) ?_ ?_
     rotate_left
     ·intro w'
      go_simp
      with_reducible rfl
     rotate_left
     ·simp only [Act.put,List.setIfInBounds_toArray,List.set_cons_zero,List.set_cons_succ,i64_w,i32_w]
      rfl
     refine last_ (i:=10) (N:=none) #[Y,Y,Y,Y,Y,Y,Y,Y,Y,Y,Y] rfl rfl (by kernel_rfl) (by decide) (fun K hK=>?_)
     refine skip_ (w1:=?_) (by rfl) rfl ?_ ?_
     rotate_left
     ·go_simp
      rfl
     refine hK.out _ _ ?_
     clear hK K
     refine done_ (by kernel_rfl) ?_
     clear hHeld hc7w hb7w hx4w hf7w
     have C6:=Aside0.mk (Kd.R_drew A6_.out)
     have C7:=Aside0.mk (Kd.R_drew A7_.out)
     have L6:=Aside0.mk (show Boxed (w1.setCell ⟨g7,q,none⟩ (.int .i64 (dv + bN * t.f1))).drew w.heap.size 26 (.slice A6 OR.length c6) from B6_.out)
     have L7:=Aside0.mk (show Boxed (w1.setCell ⟨g7,q,none⟩ (.int .i64 (dv + bN * t.f1))).drew (w.heap.size + 1) 23 (.slice (some ⟨g7,0,none⟩) LF.length cap7) from B7_.out)
     have L8:=Aside0.mk (show Boxed (w1.setCell ⟨g7,q,none⟩ (.int .i64 (dv + bN * t.f1))).drew (w.heap.size + 1 + 1) 27 (.int .i64 0) from B8_.out)
     have LN:=Aside0.mk (show Boxed (w1.setCell ⟨g7,q,none⟩ (.int .i64 (dv + bN * t.f1))).drew W8.heap.size 22 (.slice A0 l0.length c0) from BN_.out)
     have LX:=Aside0.mk (show (w1.setCell ⟨g7,q,none⟩ (.int .i64 (dv + bN * t.f1))).drew.heap[Bx]? = some (.cells #[.string t.f0.f0,.int .i64 t.f0.f1,.int .i64 t.f0.f2,.int .i64 t.f0.f3,.int .i64 t.f1,.int .i64 t.f2] 92 (0,0)) from BX_.out)
     have LB:=Aside0.mk (show Below w.heap.size w (w1.setCell ⟨g7,q,none⟩ (.int .i64 (dv + bN * t.f1))).drew from below_drew BB_.out)
     have LP:=Aside0.mk (show Below w.heap.size W (w1.setCell ⟨g7,q,none⟩ (.int .i64 (dv + bN * t.f1))).drew from below_drew BP_.out)
     have LF2:=Aside0.mk (BF_.out.trans ((KeepsOthers.drew (w1.setCell ⟨g7,q,none⟩ (.int .i64 (dv + bN * t.f1)))).from _))
     clear A6_ A7_ B6_ B7_ B8_ BN_ BX_ BB_ BP_ BF_
     generalize (w1.setCell ⟨g7,q,none⟩ (.int .i64 (dv + bN * t.f1))).drew = w2 at C6 C7 L6 L7 L8 LN LX LB LP LF2 ⊢
     have hx0:w2.cell? ⟨Bx,0,none⟩ = some (.string t.f0.f0):=by simp [World.cell?,LX.out]
     have hx1:w2.cell? ⟨Bx,1,none⟩ = some (.int .i64 t.f0.f1):=by simp [World.cell?,LX.out]
     have hx2:w2.cell? ⟨Bx,2,none⟩ = some (.int .i64 t.f0.f2):=by simp [World.cell?,LX.out]
     have hx3:w2.cell? ⟨Bx,3,none⟩ = some (.int .i64 t.f0.f3):=by simp [World.cell?,LX.out]
     have hb6:=L6.out.cell
     obtain ⟨_,in6,ho6,hr6⟩:=C6.out
     have HO6:=Aside0.mk ho6
     have HR6:=Aside0.mk hr6
     clear ho6 hr6
     obtain ⟨i0,hi,hz0,hz1,hz2⟩:=info_parts info41
     have HAA:=Aside0.mk (HO6.out.alloc (.cells #[.string t.f0.f0,.int .i64 t.f0.f1,.int .i64 t.f0.f2,.int .i64 t.f0.f3,.int .i64 bN] 41))
     have HL6:=Aside0.mk (L6.out.alloc (.cells #[.string t.f0.f0,.int .i64 t.f0.f1,.int .i64 t.f0.f2,.int .i64 t.f0.f3,.int .i64 bN] 41))
     gi_wp2_with (gi_at_builtin;refine wpListIn_append_own _ rfl _ _ 26 rfl w.heap.size 41 i0 _ 5 48 Try.underlying26 hi hz0 hz1 hz2 rfl (by decide) _ _ _ rfl (HO6.out.alloc _) ⟨w2.heap.size,0,none⟩ 1 1 [.string t.f0.f0,.int .i64 t.f0.f1,.int .i64 t.f0.f2,.int .i64 t.f0.f3,.int .i64 bN] rfl rfl (fun j u h=>cells_new w2 _ _ j u h) (by simp [Value.oneCell']) (by unfold maxLen;omega) (by omega) (by have:=LB.out.size;simp;omega) ?_;intro v' w3 hown' hgrow _;obtain ⟨g',cap',rfl⟩:=ownsRow_succ hown';have HGR:=Aside0.mk (show (w2.alloc (.cells #[.string t.f0.f0,.int .i64 t.f0.f1,.int .i64 t.f0.f2,.int .i64 t.f0.f3,.int .i64 bN] 41)).grownBy w3 (Value.slice A6 OR.length c6).ownBlock from hgrow);have N6:=HL6.out.kept HGR.out (HL6.out.not_row (by decide) HAA.out);have N6c:=N6.cell;have N6f:=N6.frozen;have HOW:=Aside0.mk hown';have HN6:=Aside0.mk N6;clear hown' hgrow N6)
     have hgr:=HGR.out
     have hrA:=HAA.out
     have N7:=(L7.out.alloc _).kept hgr ((L7.out.alloc _).not_row (by decide) hrA)
     have N8:=(L8.out.alloc _).kept hgr ((L8.out.alloc _).not_row (by decide) hrA)
     have NN:=(LN.out.alloc _).kept hgr ((LN.out.alloc _).not_row (by decide) hrA)
     have NR7:=R_apart (Kd.R_below C7.out ((Below.refl _ w2).alloc (Nat.le_refl _) _)) hgr hrA (by decide)
     have NB2:Below w.heap.size w2 w3:=((Below.refl w.heap.size w2).alloc (LB.out.size) _).grown hgr (by have:=LB.out.size;simp;omega) (own_base hrA)
     have hsz2:w.heap.size ≤ w2.heap.size:=LB.out.size
     have hneN:W8.heap.size ≠ w.heap.size:=by have:=hs7;omega
     have KFF:=LF2.out.trans ((((KeepsOthers.alloc w2 (.cells #[.string t.f0.f0,.int .i64 t.f0.f1,.int .i64 t.f0.f2,.int .i64 t.f0.f3,.int .i64 bN] 41)).trans (KeepsOthers.of_grownBy hgr (own_cells hrA))).trans (KeepsOthers.setCell w3 ⟨w.heap.size,0,none⟩ (.slice (some ⟨g',0,none⟩) (OR.length + 1) cap'))).from _)
     rw [hsz9] at KFF
     refine ⟨KFF,⟨(LP.out.trans NB2).setCell (p:=⟨w.heap.size,0,none⟩) (Nat.le_refl _) _,?_⟩,⟨_,HN6.out.set _,_,N7.other (by omega) _,N8.other (by omega) _,NN.other hneN _,?_,?_,?_,?_,?_⟩,(LB.out.trans NB2).setCell (p:=⟨w.heap.size,0,none⟩) (Nat.le_refl _) _⟩
     ·exact (NN.other hneN _).trans (GN.out).symm
     ·rw [HST.out,HPS2.out]
      refine R_of_row k41 rfl (w0:=w2) (ok0:=fun k=>True ∧ some k ≠ (Value.slice A6 OR.length c6).ownBlock) (inner:=in6 ++ [.string t.f0.f0,.int .i64 t.f0.f1,.int .i64 t.f0.f2,.int .i64 t.f0.f3,.int .i64 bN]) ?_ (HR6.out.snoc (k41_mkM _ _ _ ⟨t.f0,bN⟩) rfl)
      rw [List.length_append]
      exact HOW.out.kept (grownBy_setCell' w3 w.heap.size _) (.inr (HN6.out.not_row (by decide) HOW.out).symm)
     ·rw [HST.out,HPS2.out]
      exact Kd.R_set NR7 HN6.out (by decide) 0 _
     ·rw [HST.out,HPS2.out];exact HSM2.out
     ·rw [HST.out,HPS2.out];simpa using hlen7
     ·rw [HST.out,HPS2.out];simp only [List.length_append,List.length_singleton];omega
   case done =>
    rintro D ys W hD hS ⟨⟨v6,v7,h6,h7,h8,hn,r6,r7,hx⟩,hB⟩ hK
    rw [hS] at r6 r7
    obtain ⟨A6,c6,rfl⟩:=Kd.R_slice r6
    obtain ⟨A7',c7',rfl⟩:=Kd.R_slice r7
    obtain ⟨OR,hOR⟩:∃ OR,OR = ((sel l0 l2).foldl planStep ([],l1)).1:=⟨_,rfl⟩
    obtain ⟨LF,hLF⟩:∃ LF,LF = ((sel l0 l2).foldl planStep ([],l1)).2:=⟨_,rfl⟩
    rw [← hOR] at r6 h6
    rw [← hLF] at r7 h7
    have hb6:=h6.cell
    have hb7:=h7.cell
    have hb8:=h8.cell
    have hf6:=h6.frozen
    have hf7:=h7.frozen
    have hf8:=h8.frozen
    have HD:=Aside0.mk hD
    have G6:=Aside0.mk h6
    have G7:=Aside0.mk h7
    have G8:=Aside0.mk h8
    have R6:=Aside0.mk r6
    have R7:=Aside0.mk r7
    have HBB:=Aside0.mk hB
    have HKK:=Aside0.mk hK
    have HOR:=Aside0.mk hOR
    have HLF:=Aside0.mk hLF
    clear hx hS hOR hLF hD h6 h7 h8 hn r6 r7 hB hK
    have mixed:Try.prog.follows .mixedOrders = true:=by kernel_rfl
    dsimp only
    go_wp2
    go_region
    go_wp2
    have K6:=((G6.out.set (.slice A6 OR.length c6)).other (B':=w.heap.size + 1) (by omega) (.slice A7' LF.length c7')).other (B':=w.heap.size + 1 + 1) (by omega) (.int .i64 0)
    have K7:=((G7.out.other (B':=w.heap.size) (by omega) (.slice A6 OR.length c6)).set (.slice A7' LF.length c7')).other (B':=w.heap.size + 1 + 1) (by omega) (.int .i64 0)
    have K8:=((G8.out.other (B':=w.heap.size) (by omega) (.slice A6 OR.length c6)).other (B':=w.heap.size + 1) (by omega) (.slice A7' LF.length c7')).set (.int .i64 0)
    have S7:=G7.out.other (B':=w.heap.size) (by omega) (.slice A6 OR.length c6)
    have S8:=(G8.out.other (B':=w.heap.size) (by omega) (.slice A6 OR.length c6)).other (B':=w.heap.size + 1) (by omega) (.slice A7' LF.length c7')
    have Q6:=Kd.R_set (Kd.R_set (Kd.R_set R6.out G6.out (by decide) 0 (.slice A6 OR.length c6)) S7 (by decide) 0 (.slice A7' LF.length c7')) S8 (by decide) 0 (.int .i64 0)
    have Q7:=Kd.R_set (Kd.R_set (Kd.R_set R7.out G6.out (by decide) 0 (.slice A6 OR.length c6)) S7 (by decide) 0 (.slice A7' LF.length c7')) S8 (by decide) 0 (.int .i64 0)
    have QB:=((HBB.out.setCell (p:=⟨w.heap.size,0,none⟩) (Nat.le_refl _) (.slice A6 OR.length c6)).setCell (p:=⟨w.heap.size + 1,0,none⟩) (by simp) (.slice A7' LF.length c7')).setCell (p:=⟨w.heap.size + 1 + 1,0,none⟩) (by simp;omega) (.int .i64 0)
    have QD:=(((KeepsOthers.setCell W ⟨w.heap.size,0,none⟩ (.slice A6 OR.length c6)).trans (KeepsOthers.setCell _ ⟨w.heap.size + 1,0,none⟩ (.slice A7' LF.length c7'))).trans (KeepsOthers.setCell _ ⟨w.heap.size + 1 + 1,0,none⟩ (.int .i64 0))).same D _ HKK.out rfl
    have hDle:w.heap.size ≤ D:=by
     have h1:=HD.out
     rw [hsz9] at h1
     have h2:=hs7
     omega
    generalize ((W.setCell ⟨w.heap.size,0,none⟩ (.slice A6 OR.length c6)).setCell ⟨w.heap.size + 1,0,none⟩ (.slice A7' LF.length c7')).setCell ⟨w.heap.size + 1 + 1,0,none⟩ (.int .i64 0) = Z at K6 K7 K8 Q6 Q7 QB QD ⊢
    have hK':Z.drew.heap[D]? = some (.deferred (some [])):=QD
    have hg:=grownBy_putObj' Z.drew D (.deferred none)
    have hr:∀ r,some D = some r → ∃ o:Obj,Z.drew.heap[r]? = some o ∧ o.isCells = false:=fun r e=>by cases e;exact ⟨_,hK',rfl⟩
    have e6:=(boxed_own' (show Boxed Z.drew w.heap.size 26 (.slice A6 OR.length c6) from K6) hg hr).cell
    have e7:=(boxed_own' (show Boxed Z.drew (w.heap.size + 1) 23 (.slice A7' LF.length c7') from K7) hg hr).cell
    have e8:=(boxed_own' (show Boxed Z.drew (w.heap.size + 1 + 1) 27 (.int .i64 0) from K8) hg hr).cell
    refine ⟨by simp,.inl ⟨_,_,rfl,run_takeDeferred hK',?_⟩⟩
    refine ⟨.tuple #[.slice A6 OR.length c6,.slice A7' LF.length c7',.int .i64 0],?_,_,_,rfl,?_,?_,(below_drew QB).trans (belowK_b (w:=w) (Nat.le_refl _) Z.drew D _ _ hDle hK' rfl rfl)⟩
    ·simp [results,Try.f15,go_sem,e6,e7,e8]
    ·rw [← HOR.out];exact R_own' (Kd.R_drew Q6) hg hr
    ·rw [← HLF.out];exact R_own' (Kd.R_drew Q7) hg hr
   case stop =>
    rintro D c pre W _ _ h _
    exact h.elim
theorem plan_ends {w Z:World} {e:Int} (h6:Boxed Z w.heap.size 26 (.slice none 0 0)) (h7:Boxed Z (w.heap.size + 1) 23 (.slice none 0 0)) (h8:Boxed Z (w.heap.size + 1 + 1) 27 (.int .i64 e)) (hB:Below w.heap.size w Z) (a:Act)
  (a6:a.tmps.getD 6 undef = .pointer (some ⟨w.heap.size,0,none⟩)) (a7:a.tmps.getD 7 undef = .pointer (some ⟨w.heap.size + 1,0,none⟩)) (a8:a.tmps.getD 8 undef = .pointer (some ⟨w.heap.size + 1 + 1,0,none⟩)) (hd:a.defers = []) :
  bodyPost Try.prog Try.f15 (fun e_ w'=>∃ v0_ v1_:Value,e_ = .returned (.tuple #[v0_,v1_,.int .i64 e]) ∧ Kd.R k41 41 w' w.heap.size (fun _=>True) v0_ [] ∧ Kd.R (Kd.int .i64) 3 w' w.heap.size (fun _=>True) v1_ [] ∧ Below w.heap.size w w') .ret a Z:=by
 have c6:=h6.cell
 have c7:=h7.cell
 have c8:=h8.cell
 have b6:a.tmps[6]?.getD undef = .pointer (some ⟨w.heap.size,0,none⟩):=by simpa using a6
 have b7:a.tmps[7]?.getD undef = .pointer (some ⟨w.heap.size + 1,0,none⟩):=by simpa using a7
 have b8:a.tmps[8]?.getD undef = .pointer (some ⟨w.heap.size + 1 + 1,0,none⟩):=by simpa using a8
 refine bodyPost_ret (v:=.tuple #[.slice none 0 0,.slice none 0 0,.int .i64 e]) ?_ hd ⟨_,_,rfl,Kd.R_nil _ _ _ _ _,Kd.R_nil _ _ _ _ _,hB⟩
 simp [results,Try.f15,go_sem,b6,b7,b8,c6,c7,c8]
theorem boxed_drew {W:World} {B:Nat} {t:TypeId} {v:Value} (h:Boxed W B t v):Boxed W.drew B t v:=h
theorem boxed_drewN {W:World} {B:Nat} {t:TypeId} {v:Value} (h:Boxed W B t v) (k:Nat):Boxed (W.drewN k) B t v:=h
theorem below_drewN' {B:Nat} {w W:World} (h:Below B w W) (k:Nat):Below B w (W.drewN k):=⟨h.os,h.tape,h.output,h.size,h.block⟩
theorem plan_sets {w W:World} {v6 v7 v8:Value} (h6:Boxed W w.heap.size 26 v6) (h7:Boxed W (w.heap.size + 1) 23 v7) (h8:Boxed W (w.heap.size + 1 + 1) 27 v8) (hB:Below w.heap.size w W) (e:Int) :
  Boxed (((W.setCell ⟨w.heap.size,0,none⟩ (.slice none 0 0)).setCell ⟨w.heap.size + 1,0,none⟩ (.slice none 0 0)).setCell ⟨w.heap.size + 1 + 1,0,none⟩ (.int .i64 e)) w.heap.size 26 (.slice none 0 0) ∧
  Boxed (((W.setCell ⟨w.heap.size,0,none⟩ (.slice none 0 0)).setCell ⟨w.heap.size + 1,0,none⟩ (.slice none 0 0)).setCell ⟨w.heap.size + 1 + 1,0,none⟩ (.int .i64 e)) (w.heap.size + 1) 23 (.slice none 0 0) ∧
  Boxed (((W.setCell ⟨w.heap.size,0,none⟩ (.slice none 0 0)).setCell ⟨w.heap.size + 1,0,none⟩ (.slice none 0 0)).setCell ⟨w.heap.size + 1 + 1,0,none⟩ (.int .i64 e)) (w.heap.size + 1 + 1) 27 (.int .i64 e) ∧
  Below w.heap.size w (((W.setCell ⟨w.heap.size,0,none⟩ (.slice none 0 0)).setCell ⟨w.heap.size + 1,0,none⟩ (.slice none 0 0)).setCell ⟨w.heap.size + 1 + 1,0,none⟩ (.int .i64 e)) :=
 ⟨((h6.set _).other (by omega) _).other (by omega) _,((h7.other (by omega) _).set _).other (by omega) _,((h8.other (by omega) _).other (by omega) _).set _,
  ((hB.setCell (p:=⟨w.heap.size,0,none⟩) (Nat.le_refl _) _).setCell (p:=⟨w.heap.size + 1,0,none⟩) (by simp) _).setCell (p:=⟨w.heap.size + 1 + 1,0,none⟩) (by simp;omega) _⟩
set_option maxRecDepth 100000 in
set_option maxHeartbeats 4000000 in
theorem hedge_Plan.err (A0:Option Addr) (c0:Nat) (l0:List ByteArray) (A1:Option Addr) (c1:Nat) (l1:List Int) (A2:Option Addr) (c2:Nat) (l2:List S92) (er:Int) (w:World) (hr2:Kd.C k92 w A2 l2.length l2) (hc2:l2.length ≤ c2) (hck:hedge_Check.f l2 = some er) (her:er ≠ 0) :
  Calls Try.prog 15 #[.slice A0 l0.length c0,.slice A1 l1.length c1,.slice A2 l2.length c2] w fun e w'=>∃ v0_ v1_:Value,e = .returned (.tuple #[v0_,v1_,.int .i64 er]) ∧ Kd.R k41 41 w' w.heap.size (fun _=>True) v0_ [] ∧ Kd.R (Kd.int .i64) 3 w' w.heap.size (fun _=>True) v1_ [] ∧ Below w.heap.size w w':=by
 have HR2:=Aside0.mk hr2
 have HCK:=Aside0.mk hck
 have hne:(er != 0) = true:=bne_iff_ne.2 her
 have mixed:Try.prog.follows .mixedOrders = true:=by kernel_rfl
 clear hr2 hck her
 obtain ⟨n0,hn0⟩:∃ n0,n0 = w.heap.size:=⟨_,rfl⟩
 have B6:=((Boxed.new w 26 (.slice none 0 0)).alloc (.cells #[.slice none 0 0] 23)).alloc (.cells #[.int .i64 0] 27)
 have B7:=(Boxed.new (w.alloc (.cells #[.slice none 0 0] 26)) 23 (.slice none 0 0)).alloc (.cells #[.int .i64 0] 27)
 have B8:=Boxed.new ((w.alloc (.cells #[.slice none 0 0] 26)).alloc (.cells #[.slice none 0 0] 23)) 27 (.int .i64 0)
 simp only [World.size_alloc] at B7 B8
 have HW3:Below w.heap.size w (((w.alloc (.cells #[.slice none 0 0] 26)).alloc (.cells #[.slice none 0 0] 23)).alloc (.cells #[.int .i64 0] 27)):=(((Below.refl _ w).alloc (Nat.le_refl _) _).alloc (by simp) _).alloc (by simp;omega) _
 have B6:=Aside0.mk B6
 have B7:=Aside0.mk B7
 have B8:=Aside0.mk B8
 have HW3:=Aside0.mk HW3
 go_enter Try.func15,Try.ntmps15
 go_wp2_with (go_at_call 19;refine (hedge_Check.calls A2 c2 l2 er _ (Kd.C_below HR2.out HW3.out) hc2 HCK.out).mono ?_;rintro e w4 ⟨rfl,hb4⟩;replace B6:=boxed_below B6.out hb4;replace B7:=boxed_below B7.out hb4;replace B8:=boxed_below B8.out hb4;have hc6:=B6.cell;have hf6:=B6.frozen;have hc7:=B7.cell;have hf7:=B7.frozen;have hc8:=B8.cell;have hf8:=B8.frozen;replace HW3:=Aside0.mk (HW3.out.trans (hb4.mono HW3.out.size));have B6:=Aside0.mk B6;have B7:=Aside0.mk B7;have B8:=Aside0.mk B8)
 go_region
 go_wp2
 obtain ⟨z6,z7,z8,zB⟩:=plan_sets (B6.out.other (B':=w.heap.size + 1 + 1) (by omega) (.int .i64 er)) (B7.out.other (B':=w.heap.size + 1 + 1) (by omega) (.int .i64 er)) (B8.out.set (.int .i64 er)) ((HW3.out).setCell (p:=⟨w.heap.size + 1 + 1,0,none⟩) (by simp;omega) (.int .i64 er)) er
 exact plan_ends (boxed_drew z6) (boxed_drew z7) (boxed_drew z8) (below_drew zB) _ rfl rfl rfl rfl
set_option maxRecDepth 100000 in
set_option maxHeartbeats 4000000 in
theorem hedge_Plan.short (A0:Option Addr) (c0:Nat) (l0:List ByteArray) (A1:Option Addr) (c1:Nat) (l1:List Int) (A2:Option Addr) (c2:Nat) (l2:List S92) (w:World) (hr0:Kd.C Kd.string w A0 l0.length l0) (hr1:Kd.C (Kd.int .i64) w A1 l1.length l1) (hr2:Kd.C k92 w A2 l2.length l2) (hc2:l2.length ≤ c2) (hlim:l0.length < 17592186044416) (hck:hedge_Check.f l2 = some 0) (hlen:l1.length ≠ l0.length) :
  Calls Try.prog 15 #[.slice A0 l0.length c0,.slice A1 l1.length c1,.slice A2 l2.length c2] w fun e w'=>∃ v0_ v1_:Value,e = .returned (.tuple #[v0_,v1_,.int .i64 2]) ∧ Kd.R k41 41 w' w.heap.size (fun _=>True) v0_ [] ∧ Kd.R (Kd.int .i64) 3 w' w.heap.size (fun _=>True) v1_ [] ∧ Below w.heap.size w w':=by
 have HR0:=Aside0.mk hr0
 have HR1:=Aside0.mk hr1
 have HR2:=Aside0.mk hr2
 have HCK:=Aside0.mk hck
 have hlb:((l1.length:Int) != (l0.length:Int)) = true:=bne_iff_ne.2 (by omega)
 clear hr0 hr1 hr2 hck hlen
 obtain ⟨n0,hn0⟩:∃ n0,n0 = w.heap.size:=⟨_,rfl⟩
 have B6:=((Boxed.new w 26 (.slice none 0 0)).alloc (.cells #[.slice none 0 0] 23)).alloc (.cells #[.int .i64 0] 27)
 have B7:=(Boxed.new (w.alloc (.cells #[.slice none 0 0] 26)) 23 (.slice none 0 0)).alloc (.cells #[.int .i64 0] 27)
 have B8:=Boxed.new ((w.alloc (.cells #[.slice none 0 0] 26)).alloc (.cells #[.slice none 0 0] 23)) 27 (.int .i64 0)
 simp only [World.size_alloc] at B7 B8
 have HW3:Below w.heap.size w (((w.alloc (.cells #[.slice none 0 0] 26)).alloc (.cells #[.slice none 0 0] 23)).alloc (.cells #[.int .i64 0] 27)):=(((Below.refl _ w).alloc (Nat.le_refl _) _).alloc (by simp) _).alloc (by simp;omega) _
 have B6:=Aside0.mk B6
 have B7:=Aside0.mk B7
 have B8:=Aside0.mk B8
 have HW3:=Aside0.mk HW3
 go_enter Try.func15,Try.ntmps15
 go_wp2_with (go_at_call 19;refine (hedge_Check.calls A2 c2 l2 0 _ (Kd.C_below HR2.out HW3.out) hc2 HCK.out).mono ?_;rintro e w4 ⟨rfl,hb4⟩;replace B6:=boxed_below B6.out hb4;replace B7:=boxed_below B7.out hb4;replace B8:=boxed_below B8.out hb4;have hc6:=B6.cell;have hf6:=B6.frozen;have hc7:=B7.cell;have hf7:=B7.frozen;have hc8:=B8.cell;have hf8:=B8.frozen;replace HW3:=Aside0.mk (HW3.out.trans (hb4.mono HW3.out.size));have B6:=Aside0.mk B6;have B7:=Aside0.mk B7;have B8:=Aside0.mk B8)
 obtain ⟨z6,z7,z8,zB⟩:=plan_sets (B6.out.other (B':=w.heap.size + 1 + 1) (by omega) (.int .i64 0)) (B7.out.other (B':=w.heap.size + 1 + 1) (by omega) (.int .i64 0)) (B8.out.set (.int .i64 0)) ((HW3.out).setCell (p:=⟨w.heap.size + 1 + 1,0,none⟩) (by simp;omega) (.int .i64 0)) 2
 exact plan_ends z6 z7 z8 zB _ rfl rfl rfl rfl
set_option maxRecDepth 100000 in
set_option maxHeartbeats 4000000 in
theorem hedge_Plan.bad (A0:Option Addr) (c0:Nat) (l0:List ByteArray) (A1:Option Addr) (c1:Nat) (l1:List Int) (A2:Option Addr) (c2:Nat) (l2:List S92) (w:World) (hr0:Kd.C Kd.string w A0 l0.length l0) (hr1:Kd.C (Kd.int .i64) w A1 l1.length l1) (hr2:Kd.C k92 w A2 l2.length l2) (hc2:l2.length ≤ c2) (hlim:l0.length < 17592186044416) (hck:hedge_Check.f l2 = some 0) (hlen:l1.length = l0.length) (hbad:planBad l0 l1 = true) :
  Calls Try.prog 15 #[.slice A0 l0.length c0,.slice A1 l1.length c1,.slice A2 l2.length c2] w fun e w'=>∃ v0_ v1_:Value,e = .returned (.tuple #[v0_,v1_,.int .i64 2]) ∧ Kd.R k41 41 w' w.heap.size (fun _=>True) v0_ [] ∧ Kd.R (Kd.int .i64) 3 w' w.heap.size (fun _=>True) v1_ [] ∧ Below w.heap.size w w':=by
 have HR0:=Aside0.mk hr0
 have HR1:=Aside0.mk hr1
 have HR2:=Aside0.mk hr2
 have HCK:=Aside0.mk hck
 have HBAD:=Aside0.mk hbad
 have HLN:=Aside0.mk hlen
 have hlb:((l1.length:Int) != (l0.length:Int)) = false:=by rw [hlen];simp
 clear hr0 hr1 hr2 hck hlen hbad
 obtain ⟨n0,hn0⟩:∃ n0,n0 = w.heap.size:=⟨_,rfl⟩
 have B6:=((Boxed.new w 26 (.slice none 0 0)).alloc (.cells #[.slice none 0 0] 23)).alloc (.cells #[.int .i64 0] 27)
 have B7:=(Boxed.new (w.alloc (.cells #[.slice none 0 0] 26)) 23 (.slice none 0 0)).alloc (.cells #[.int .i64 0] 27)
 have B8:=Boxed.new ((w.alloc (.cells #[.slice none 0 0] 26)).alloc (.cells #[.slice none 0 0] 23)) 27 (.int .i64 0)
 simp only [World.size_alloc] at B7 B8
 have HW3:Below w.heap.size w (((w.alloc (.cells #[.slice none 0 0] 26)).alloc (.cells #[.slice none 0 0] 23)).alloc (.cells #[.int .i64 0] 27)):=(((Below.refl _ w).alloc (Nat.le_refl _) _).alloc (by simp) _).alloc (by simp;omega) _
 have B6:=Aside0.mk B6
 have B7:=Aside0.mk B7
 have B8:=Aside0.mk B8
 have HW3:=Aside0.mk HW3
 go_enter Try.func15,Try.ntmps15
 go_wp2_with (go_at_call 19;refine (hedge_Check.calls A2 c2 l2 0 _ (Kd.C_below HR2.out HW3.out) hc2 HCK.out).mono ?_;rintro e w4 ⟨rfl,hb4⟩;replace B6:=boxed_below B6.out hb4;replace B7:=boxed_below B7.out hb4;replace B8:=boxed_below B8.out hb4;have hc6:=B6.cell;have hf6:=B6.frozen;have hc7:=B7.cell;have hf7:=B7.frozen;have hc8:=B8.cell;have hf8:=B8.frozen;replace HW3:=Aside0.mk (HW3.out.trans (hb4.mono HW3.out.size));have B6:=Aside0.mk B6;have B7:=Aside0.mk B7;have B8:=Aside0.mk B8)
 have B6:=B6.out.other (B':=w.heap.size + 1 + 1) (by omega) (.int .i64 0)
 have B7:=B7.out.other (B':=w.heap.size + 1 + 1) (by omega) (.int .i64 0)
 have B8:=B8.out.set (.int .i64 0)
 have HW3:=(HW3.out).setCell (p:=⟨w.heap.size + 1 + 1,0,none⟩) (by simp;omega) (.int .i64 0)
 clear hc6 hf6 hc7 hf7 hc8 hf8 hb4
 generalize w4.setCell ⟨w.heap.size + 1 + 1,0,none⟩ (.int .i64 0) = W5 at B6 B7 B8 HW3 ⊢
 have B6:=Aside0.mk B6
 have B7:=Aside0.mk B7
 have B8:=Aside0.mk B8
 have HW3:=Aside0.mk HW3
 go_loopg [27] l0.length (fun kq v27 wr=>∃ (i:Nat),v27 = .int .i64 (i:Int) ∧ Aside0 (kq + i = l0.length) ∧ Aside0 (∃ nd,wr = W5.drewN nd) ∧ Aside0 (∀ j,j < i → planBadAt l0 l1 j = false))
 case atStart=>exact ⟨0,rfl,⟨by omega⟩,⟨0,rfl⟩,⟨fun j hj=>by omega⟩⟩
 case round =>
  obtain ⟨i,rfl,Hk,⟨nd,rfl⟩,HNB⟩:=hrel
  by_cases hlt:i < l0.length
  ·have hlt1:i < l1.length:=by rw [HLN.out];exact hlt
   have hc6:=B6.out.cell
   have hf6:=B6.out.frozen
   have hc7:=B7.out.cell
   have hf7:=B7.out.frozen
   have hc8:=B8.out.cell
   have hf8:=B8.out.frozen
   cases hbb:planBadAt l0 l1 i with
   | false =>
    have hbi:=hbb
    have HNB2:Aside0 (∀ j,j < i + 1 → planBadAt l0 l1 j = false):=⟨fun j hj=>by
     by_cases e:j = i
     ·subst e;exact hbb
     ·exact HNB.out j (by omega)⟩
    clear hbb hc6 hf6 hc7 hf7 hc8 hf8
    simp only [planBadAt,Bool.or_eq_false_iff,Bool.not_eq_false',Bool.and_eq_false_iff,decide_eq_false_iff_not,Bool.and_eq_true,decide_eq_true_eq] at hbi
    obtain ⟨hb1,hb2,hb3⟩:=hbi
    have e1:l1.getD i 0 = rd l1 (i:Int):=by simp [rd]
    rw [e1] at hb2 hb3
    have hwi:hedge_within.f (rd l1 (i:Int)) 1099511627776 = some true:=by
     rw [P.within_f _ _ (by omega) (by omega),Option.some.injEq,Bool.and_eq_true,decide_eq_true_eq,decide_eq_true_eq]
     exact ⟨hb2,hb3⟩
    have HWI:=Aside0.mk hwi
    obtain ⟨ad0,ea0,hx0⟩:=Kd.at_string HR0.out (i:Int) (by omega) (by omega)
    obtain ⟨ad1,ea1,hx1⟩:=Kd.at_int HR1.out (i:Int) (by omega) (by omega)
    cases ea0
    cases ea1
    replace hx0:=(HW3.out.cell (World.block_lt_of_cell? w _ hx0)).trans hx0
    replace hx1:=(HW3.out.cell (World.block_lt_of_cell? w _ hx1)).trans hx1
    rw [Int.toNat_natCast] at hx0 hx1
    clear hwi hb2 hb3 e1
    by_cases h0:i = 0
    ·have hi0:¬ ((0:Int) < (i:Int)):=by omega
     clear h0 hb1
     go_wp2_with (go_at_call 49;refine (hedge_within.calls _ _ true _ HWI.out).mono ?_;rintro e1 w1 ⟨rfl,⟨nd1,rfl⟩⟩)
     go_roundg (gk - 1)
     case measure=>have:=Hk.out;omega
     case rel=>exact ⟨i + 1,by go_num,⟨by have:=Hk.out;omega⟩,⟨_,rfl⟩,HNB2⟩
    ·have hp:=P.w_pred (i:=i) (by omega) (by omega)
     obtain ⟨ad2,ea2,hx2⟩:=Kd.at_string HR0.out ((i - 1:Nat):Int) (by omega) (by omega)
     cases ea2
     replace hx2:=(HW3.out.cell (World.block_lt_of_cell? w _ hx2)).trans hx2
     rw [Int.toNat_natCast] at hx2
     have hi1:(0:Int) < (i:Int):=by omega
     have hb1':Op.bytesLess (rdOf ByteArray.empty l0 ((i - 1:Nat):Int)).toList (rdOf ByteArray.empty l0 (i:Int)).toList = true:=by
      rcases hb1 with h|h
      ·omega
      ·have e1:l0.getD i ByteArray.empty = rdOf ByteArray.empty l0 (i:Int):=by simp [rdOf]
       have e2:l0.getD (i - 1) ByteArray.empty = rdOf ByteArray.empty l0 ((i - 1:Nat):Int):=by simp [rdOf]
       rw [← e1,← e2]
       exact h
     have hin:i - 1 < l0.length:=by omega
     clear hb1
     go_wp2_with (go_at_call 49;refine (hedge_within.calls _ _ true _ HWI.out).mono ?_;rintro e1 w1 ⟨rfl,⟨nd1,rfl⟩⟩)
     go_roundg (gk - 1)
     case measure=>have:=Hk.out;omega
     case rel=>exact ⟨i + 1,by go_num,⟨by have:=Hk.out;omega⟩,⟨_,rfl⟩,HNB2⟩
   | true =>
    have hlt1:i < l1.length:=by rw [HLN.out];exact hlt
    have e1:l1.getD i 0 = rd l1 (i:Int):=by simp [rd]
    simp only [planBadAt,Bool.or_eq_true,Bool.and_eq_true,decide_eq_true_eq,Bool.not_eq_true',Bool.and_eq_false_iff,decide_eq_false_iff_not,e1] at hbb
    obtain ⟨ad0,ea0,hx0⟩:=Kd.at_string HR0.out (i:Int) (by omega) (by omega)
    obtain ⟨ad1,ea1,hx1⟩:=Kd.at_int HR1.out (i:Int) (by omega) (by omega)
    cases ea0
    cases ea1
    replace hx0:=(HW3.out.cell (World.block_lt_of_cell? w _ hx0)).trans hx0
    replace hx1:=(HW3.out.cell (World.block_lt_of_cell? w _ hx1)).trans hx1
    rw [Int.toNat_natCast] at hx0 hx1
    clear e1 HNB
    by_cases hless:0 < i ∧ Op.bytesLess (l0.getD (i - 1) ByteArray.empty).toList (l0.getD i ByteArray.empty).toList = false
    ·obtain ⟨h0,hle⟩:=hless
     have hp:=P.w_pred (i:=i) (by omega) (by omega)
     obtain ⟨ad2,ea2,hx2⟩:=Kd.at_string HR0.out ((i - 1:Nat):Int) (by omega) (by omega)
     cases ea2
     replace hx2:=(HW3.out.cell (World.block_lt_of_cell? w _ hx2)).trans hx2
     rw [Int.toNat_natCast] at hx2
     have hi1:(0:Int) < (i:Int):=by omega
     have hb1':¬ (Op.bytesLess (rdOf ByteArray.empty l0 ((i - 1:Nat):Int)).toList (rdOf ByteArray.empty l0 (i:Int)).toList = true):=by
      have e1:l0.getD i ByteArray.empty = rdOf ByteArray.empty l0 (i:Int):=by simp [rdOf]
      have e2:l0.getD (i - 1) ByteArray.empty = rdOf ByteArray.empty l0 ((i - 1:Nat):Int):=by simp [rdOf]
      rw [← e1,← e2,hle]
      simp
     have hb1f:Op.bytesLess (rdOf ByteArray.empty l0 ((i - 1:Nat):Int)).toList (rdOf ByteArray.empty l0 (i:Int)).toList = false:=by simpa using hb1'
     have hin:i - 1 < l0.length:=by omega
     clear hbb hle hb1'
     go_wp2
     obtain ⟨z6,z7,z8,zB⟩:=plan_sets (boxed_drewN B6.out nd) (boxed_drewN B7.out nd) (boxed_drewN B8.out nd) (below_drewN' HW3.out nd) 2
     exact plan_ends z6 z7 z8 zB _ rfl rfl rfl rfl
    ·have hwi:hedge_within.f (rd l1 (i:Int)) 1099511627776 = some false:=by
      rw [P.within_f _ _ (by omega) (by omega),Option.some.injEq,Bool.and_eq_false_iff,decide_eq_false_iff_not,decide_eq_false_iff_not]
      rcases hbb with h|h
      ·exact absurd h hless
      ·exact h
     have HWI:=Aside0.mk hwi
     clear hwi hbb
     by_cases h0:i = 0
     ·have hi0:¬ ((0:Int) < (i:Int)):=by omega
      clear h0 hless
      go_wp2_with (go_at_call 49;refine (hedge_within.calls _ _ false _ HWI.out).mono ?_;rintro e1 w1 ⟨rfl,⟨nd1,rfl⟩⟩)
      obtain ⟨z6,z7,z8,zB⟩:=plan_sets (boxed_drewN B6.out _) (boxed_drewN B7.out _) (boxed_drewN B8.out _) (below_drewN' HW3.out _) 2
      exact plan_ends z6 z7 z8 zB _ rfl rfl rfl rfl
     ·have hp:=P.w_pred (i:=i) (by omega) (by omega)
      obtain ⟨ad2,ea2,hx2⟩:=Kd.at_string HR0.out ((i - 1:Nat):Int) (by omega) (by omega)
      cases ea2
      replace hx2:=(HW3.out.cell (World.block_lt_of_cell? w _ hx2)).trans hx2
      rw [Int.toNat_natCast] at hx2
      have hi1:(0:Int) < (i:Int):=by omega
      have hb1':Op.bytesLess (rdOf ByteArray.empty l0 ((i - 1:Nat):Int)).toList (rdOf ByteArray.empty l0 (i:Int)).toList = true:=by
       have e1:l0.getD i ByteArray.empty = rdOf ByteArray.empty l0 (i:Int):=by simp [rdOf]
       have e2:l0.getD (i - 1) ByteArray.empty = rdOf ByteArray.empty l0 ((i - 1:Nat):Int):=by simp [rdOf]
       rw [← e1,← e2]
       rw [← Bool.not_eq_false]
       exact fun h=>hless ⟨by omega,h⟩
      have hin:i - 1 < l0.length:=by omega
      clear hless h0
      go_wp2_with (go_at_call 49;refine (hedge_within.calls _ _ false _ HWI.out).mono ?_;rintro e1 w1 ⟨rfl,⟨nd1,rfl⟩⟩)
      obtain ⟨z6,z7,z8,zB⟩:=plan_sets (boxed_drewN B6.out _) (boxed_drewN B7.out _) (boxed_drewN B8.out _) (below_drewN' HW3.out _) 2
      exact plan_ends z6 z7 z8 zB _ rfl rfl rfl rfl
  ·have hb:=HBAD.out
   unfold planBad at hb
   obtain ⟨j,hj,hjb⟩:=List.any_eq_true.1 hb
   rw [HNB.out j (by have:=List.mem_range.1 hj;omega)] at hjb
   cases hjb
theorem hedge_Plan.calls (A0:Option Addr) (c0:Nat) (l0:List ByteArray) (A1:Option Addr) (c1:Nat) (l1:List Int) (A2:Option Addr) (c2:Nat) (l2:List S92) (r1:List S41) (r2:List Int) (r3:Int) (w:World) (hr0:Kd.C Kd.string w A0 l0.length l0) (hc0:l0.length ≤ c0) (hr1:Kd.C (Kd.int .i64) w A1 l1.length l1) (hc1:l1.length ≤ c1) (hr2:Kd.C k92 w A2 l2.length l2) (hc2:l2.length ≤ c2) (h:hedge_Plan.f l0 l1 l2 = some (r1,r2,r3)) :
  Calls Try.prog 15 #[.slice A0 l0.length c0,.slice A1 l1.length c1,.slice A2 l2.length c2] w fun e w'=>∃ v0_ v1_:Value,e = .returned (.tuple #[v0_,v1_,.int .i64 r3]) ∧ Kd.R k41 41 w' w.heap.size (fun _=>True) v0_ r1 ∧ Kd.R (Kd.int .i64) 3 w' w.heap.size (fun _=>True) v1_ r2 ∧ Below w.heap.size w w':=by
 unfold hedge_Plan.f at h
 by_cases hlim:l0.length < 17592186044416 ∧ l1.length < 17592186044416
 case neg=>rw [if_neg hlim] at h;exact absurd h (by simp)
 case pos =>
  rw [if_pos hlim] at h
  obtain ⟨e,he,h⟩:=Option.bind_eq_some_iff.1 h
  by_cases e0:e = 0
  ·subst e0
   rw [if_pos rfl] at h
   by_cases hlen:l1.length = l0.length
   ·rw [if_pos hlen] at h
    by_cases hbad:planBad l0 l1 = true
    ·rw [if_pos hbad] at h
     have h':=Option.some.inj h
     simp only [Prod.mk.injEq] at h'
     obtain ⟨rfl,rfl,rfl⟩:=h'
     exact hedge_Plan.bad A0 c0 l0 A1 c1 l1 A2 c2 l2 w hr0 hr1 hr2 hc2 hlim.1 he hlen hbad
    ·rw [if_neg hbad] at h
     have h':=Option.some.inj h
     simp only [Prod.mk.injEq] at h'
     obtain ⟨rfl,rfl,rfl⟩:=h'
     exact hedge_Plan.good A0 c0 l0 A1 c1 l1 A2 c2 l2 w hr0 hc0 hr1 hc1 hr2 hc2 hlim.1 he hlen (by simpa using hbad)
   ·rw [if_neg hlen] at h
    have h':=Option.some.inj h
    simp only [Prod.mk.injEq] at h'
    obtain ⟨rfl,rfl,rfl⟩:=h'
    exact hedge_Plan.short A0 c0 l0 A1 c1 l1 A2 c2 l2 w hr0 hr1 hr2 hc2 hlim.1 he hlen
  ·rw [if_neg e0] at h
   have h':=Option.some.inj h
   simp only [Prod.mk.injEq] at h'
   obtain ⟨rfl,rfl,rfl⟩:=h'
   exact hedge_Plan.err A0 c0 l0 A1 c1 l1 A2 c2 l2 _ w hr2 hc2 he e0
end Go.Proofs.Ytbgeceiddcokmaa.X
end
section
namespace Go.Proofs.Ytbgeceiddcokmaa.X
open Go.RowKit Go.Proofs.YtbgeceiddcokmaaW.PrintWords Go.Proofs.YtbgeceiddcokmaaW.PrintLast Go.Proofs.YtbgeceiddcokmaaW.PrintMore
attribute [local go_sem] max2_int min2_int max_two min_two max_three min_three max_four min_four
set_option linter.unusedVariables false
set_option linter.unusedSimpArgs false
theorem eqA39 (d:Nat) (w:World) (x0 y0:ByteArray) (x1 y1:Int) (x2 y2:Int) (x3 y3:Int) :
  (Op.equalIn (d + 2) 39 (.agg #[.string x0,.int .i64 x1,.int .i64 x2,.int .i64 x3]) (.agg #[.string y0,.int .i64 y1,.int .i64 y2,.int .i64 y3])).run Try.prog w = .ok (x0.toList == y0.toList && (x1 == y1 && (x2 == y2 && (x3 == y3)))) w:=by
 refine eqA_of Try.underlying39 (by kernel_rfl) ?_
 refine eqf_cons (by rfl) (by go_simp;rfl) (by go_simp;rfl) (by go_simp) ?_
 refine eqf_cons (by rfl) (by go_simp;rfl) (by go_simp;rfl) (by go_simp) ?_
 refine eqf_cons (by rfl) (by go_simp;rfl) (by go_simp;rfl) (by go_simp) ?_
 exact eqf_last (by rfl) (by go_simp;rfl) (by go_simp;rfl) (by go_simp)
end Go.Proofs.Ytbgeceiddcokmaa.X
end
section
namespace Go.Proofs.Ytbgeceiddcokmaa.X
open Go.RowKit Go.Proofs.YtbgeceiddcokmaaW.PrintWords Go.Proofs.YtbgeceiddcokmaaW.PrintLast Go.Proofs.YtbgeceiddcokmaaW.PrintMore
attribute [local go_sem] max2_int min2_int max_two min_two max_three min_three max_four min_four
set_option linter.unusedVariables false
set_option linter.unusedSimpArgs false
theorem eqA41 (d:Nat) (w:World) (x0 y0:ByteArray) (x1 y1:Int) (x2 y2:Int) (x3 y3:Int) (x4 y4:Int) :
  (Op.equalIn (d + 3) 41 (.agg #[.string x0,.int .i64 x1,.int .i64 x2,.int .i64 x3,.int .i64 x4]) (.agg #[.string y0,.int .i64 y1,.int .i64 y2,.int .i64 y3,.int .i64 y4])).run Try.prog w = .ok ((x0.toList == y0.toList && (x1 == y1 && (x2 == y2 && (x3 == y3)))) && (x4 == y4)) w:=by
 refine eqA_of Try.underlying41 (by kernel_rfl) ?_
 refine eqf_cons (by rfl) (by go_simp) (by go_simp) (eqA39 (d + 0) w _ _ _ _ _ _ _ _) ?_
 exact eqf_last (by rfl) (by go_simp;rfl) (by go_simp;rfl) (by go_simp)
end Go.Proofs.Ytbgeceiddcokmaa.X
end
