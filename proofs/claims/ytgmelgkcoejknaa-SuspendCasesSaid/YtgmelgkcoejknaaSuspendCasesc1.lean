/- For SuspendCases: contracts, and facts on lists and numbers, that it uses (part 1). -/
import Derived.ArgAppend
import Derived.Below
import Derived.BigQuiet
import Derived.Deep.AppendLies
import Derived.Deep.CutBlock
import Derived.Deep.DeepCutAuto
import Derived.Deep.Draws
import Derived.Deep.LoopGhost
import Derived.Deep.OwnRows
import Derived.Deep.QuietTactic
import Derived.Deep.RegionHeld3
import Derived.Deep.RegionLaw
import Derived.KernelRfl
import Derived.Laws.BitsLemmas
import Derived.Laws.BytesArg
import Derived.Laws.CopyOwn
import Derived.Laws.CopyRow
import Derived.Laws.IdiomCopy
import Derived.Laws.MakeOwn
import Derived.Laws.OwnMore
import Derived.Laws.Rows
import Derived.Laws.Slices
import Derived.Lib.AppendStr
import Derived.Lib.AppendZerosOnto
import Derived.Lib.Bytealg
import Derived.Lib.ConvBytes
import Derived.Lib.Overlaps
import Derived.Lib.SliceRun
import Derived.Lib.Walk
import Derived.Maps.AppendAt
import Derived.OrdersHeld
import Derived.OwnWalk
import Derived.RowKit
import Derived.RowKit3
import Derived.Tactics
import Derived.Test.YtgmelgkcoejknaaProg
import Derived.Test.YtgmelgkcoejknaaSuspendCasesc0
import Derived.WalkKit
import Derived.WideLaws
section
namespace Go.Proofs.Ytgmelgkcoejknaa.X
abbrev Y:Bool:=true
abbrev Z:Bool:=false
end Go.Proofs.Ytgmelgkcoejknaa.X
namespace Go.Proofs.Ytgmelgkcoejknaa.Fix
theorem bl_gtr:∀ a b:List UInt8,(!(Op.bytesLess a b || a == b)) = Op.bytesLess b a
  | [],[]=>rfl
  | [],y :: b=>by simp [Op.bytesLess]
  | x :: a,[]=>by simp [Op.bytesLess]
  | x :: a,y :: b=>by
    have ih:=bl_gtr a b
    simp only [Op.bytesLess]
    by_cases h:x = y
    · subst h
      have:¬ x < x:=by simp
      simp only [this,decide_false,Bool.false_or,beq_self_eq_true,Bool.true_and,← ih]
      congr 1
      simp
    · have h1:(x == y) = false:=by simpa using h
      have h2:(y == x) = false:=by simpa using fun e=>h e.symm
      have h3:(x :: a == y :: b) = false:=by simp [h]
      rw [h1,h2,h3]
      simp only [Bool.false_and,Bool.or_false]
      have:decide (y < x) = !decide (x < y):=by
        rw [Bool.eq_iff_iff]
        simp only [decide_eq_true_eq,Bool.not_eq_true',decide_eq_false_iff_not,UInt8.lt_iff_toNat_lt]
        have:x.toNat ≠ y.toNat:=fun e=>h (UInt8.toNat_inj.1 e)
        omega
      rw [this]
@[go_sem high] theorem x_string_gtr (t:TypeId) (a b:ByteArray):binOp .gtr t (.string a) (.string b) = pure (.bool (Op.bytesLess b.toList a.toList)):=by
  rw [← bl_gtr];simp [binOp,Op.stringOp]
@[go_sem high] theorem x_string_leq (t:TypeId) (a b:ByteArray):binOp .leq t (.string a) (.string b) = pure (.bool (!(Op.bytesLess b.toList a.toList))):=by
  rw [← bl_gtr,Bool.not_not];simp [binOp,Op.stringOp]
@[go_sem high] theorem x_string_geq (t:TypeId) (a b:ByteArray):binOp .geq t (.string a) (.string b) = pure (.bool (!(Op.bytesLess a.toList b.toList))):=by
  simp [binOp,Op.stringOp]
end Go.Proofs.Ytgmelgkcoejknaa.Fix
end
section
namespace Go.Proofs.Ytgmelgkcoejknaa.X
open Go.RowKit Go.Proofs.YtgmelgkcoejknaaW.PrintWords Go.Proofs.YtgmelgkcoejknaaW.PrintLast Go.Proofs.YtgmelgkcoejknaaW.PrintMore
attribute [local go_sem] max2_int min2_int max_two min_two max_three min_three max_four min_four
set_option linter.unusedVariables false
set_option linter.unusedSimpArgs false
def errW:Option Int → Value
 | none=>.nilIface
 | some c=>.iface 0 (.int .i64 c)
theorem errW_none:errW none = .nilIface:=rfl
theorem errW_some (c:Int):errW (some c) = .iface 0 (.int .i64 c):=rfl
theorem info9:(Try.prog.info? 9).map (fun i=>(i.zero,i.size,i.bytes)) = some (some (.string ⟨#[]⟩),1,16):=by kernel_rfl
theorem info37:(Try.prog.info? 37).map (fun i=>(i.zero,i.size,i.bytes)) = some (some (.agg #[(.string ⟨#[]⟩),(.int .i64 0),(.int .i64 0)]),3,32):=by kernel_rfl
theorem info41:(Try.prog.info? 41).map (fun i=>(i.zero,i.size,i.bytes)) = some (some (.agg #[(.string ⟨#[]⟩),(.int .i64 0),(.int .i64 0)]),3,32):=by kernel_rfl
structure S37 where
 f0:ByteArray
 f1:Int
 f2:Int
def z37:S37:=⟨(⟨#[]⟩:ByteArray),(0:Int),(0:Int)⟩
def k37:Kd S37:=Kd.iso (Kd.pair Kd.string (Kd.pair (Kd.int .i64) (Kd.int .i64))) (fun x:S37=>(x.f0,x.f1,x.f2))
theorem k37_open {w:World} {x:S37} {cs:List Value} (h:k37.K w x cs):cs = [.string x.f0,.int .i64 x.f1,.int .i64 x.f2]:=by
 obtain ⟨_,_,rfl,rfl,⟨_,_,rfl,rfl,rfl⟩⟩:=h
 exact rfl
theorem k37_openM {w:World} {base:Nat} {ok:Nat → Prop} {x:S37} {cs:List Value} (h:k37.M w base ok x cs):cs = [.string x.f0,.int .i64 x.f1,.int .i64 x.f2]:=by
 obtain ⟨_,_,rfl,rfl,⟨_,_,rfl,rfl,rfl⟩⟩:=h
 exact rfl
theorem k37_mkM (w:World) (base:Nat) (ok:Nat → Prop) (x:S37)  : k37.M w base ok x [.string x.f0,.int .i64 x.f1,.int .i64 x.f2]:=⟨[.string x.f0],[.int .i64 x.f1,.int .i64 x.f2],rfl,rfl,⟨[.int .i64 x.f1],[.int .i64 x.f2],rfl,rfl,rfl⟩⟩
def rd_T37 (xs:List S37) (i:Int):S37:=xs.getD i.toNat z37
theorem at_T37 {w:World} {A:Option Addr} {n:Nat} {xs:List S37} (h:Kd.C k37 w A n xs) (i:Int) (h0:0 ≤ i) (h1:i < n):∃ ad ,A = some ad ∧ w.cell? (ad.add (i.toNat * 3)) = some (.string (rd_T37 xs i).f0) ∧ w.cell? ⟨(ad.add (i.toNat * 3)).block,(ad.add (i.toNat * 3)).off + 1,none⟩ = some (.int .i64 (rd_T37 xs i).f1) ∧ w.cell? ⟨(ad.add (i.toNat * 3)).block,(ad.add (i.toNat * 3)).off + 2,none⟩ = some (.int .i64 (rd_T37 xs i).f2):=by
 obtain ⟨ad,c,e,_,hK,hc0⟩:=Kd.C_get h z37 i h0 h1
 have hc:∀ j u,c[j]? = some u → w.cell? (ad.add (i.toNat * 3 + j)) = some u:=hc0
 obtain rfl:=k37_open hK
 exact ⟨ad,e,hc 0 _ rfl,by rw [← add_field _ _ 1 (by omega)];exact hc 1 _ rfl,by rw [← add_field _ _ 2 (by omega)];exact hc 2 _ rfl⟩
structure S41 where
 f0:ByteArray
 f1:Int
 f2:Int
def z41:S41:=⟨(⟨#[]⟩:ByteArray),(0:Int),(0:Int)⟩
def k41:Kd S41:=Kd.iso (Kd.pair Kd.string (Kd.pair (Kd.int .i64) (Kd.int .i64))) (fun x:S41=>(x.f0,x.f1,x.f2))
theorem k41_open {w:World} {x:S41} {cs:List Value} (h:k41.K w x cs):cs = [.string x.f0,.int .i64 x.f1,.int .i64 x.f2]:=by
 obtain ⟨_,_,rfl,rfl,⟨_,_,rfl,rfl,rfl⟩⟩:=h
 exact rfl
theorem k41_mkM (w:World) (base:Nat) (ok:Nat → Prop) (x:S41)  : k41.M w base ok x [.string x.f0,.int .i64 x.f1,.int .i64 x.f2]:=⟨[.string x.f0],[.int .i64 x.f1,.int .i64 x.f2],rfl,rfl,⟨[.int .i64 x.f1],[.int .i64 x.f2],rfl,rfl,rfl⟩⟩
def rd_T41 (xs:List S41) (i:Int):S41:=xs.getD i.toNat z41
theorem at_T41 {w:World} {A:Option Addr} {n:Nat} {xs:List S41} (h:Kd.C k41 w A n xs) (i:Int) (h0:0 ≤ i) (h1:i < n):∃ ad ,A = some ad ∧ w.cell? (ad.add (i.toNat * 3)) = some (.string (rd_T41 xs i).f0) ∧ w.cell? ⟨(ad.add (i.toNat * 3)).block,(ad.add (i.toNat * 3)).off + 1,none⟩ = some (.int .i64 (rd_T41 xs i).f1) ∧ w.cell? ⟨(ad.add (i.toNat * 3)).block,(ad.add (i.toNat * 3)).off + 2,none⟩ = some (.int .i64 (rd_T41 xs i).f2):=by
 obtain ⟨ad,c,e,_,hK,hc0⟩:=Kd.C_get h z41 i h0 h1
 have hc:∀ j u,c[j]? = some u → w.cell? (ad.add (i.toNat * 3 + j)) = some u:=hc0
 obtain rfl:=k41_open hK
 exact ⟨ad,e,hc 0 _ rfl,by rw [← add_field _ _ 1 (by omega)];exact hc 1 _ rfl,by rw [← add_field _ _ 2 (by omega)];exact hc 2 _ rfl⟩
end Go.Proofs.Ytgmelgkcoejknaa.X
end
section
namespace Go.Proofs.Ytgmelgkcoejknaa.X
open Go.RowKit Go.Proofs.YtgmelgkcoejknaaW.PrintWords Go.Proofs.YtgmelgkcoejknaaW.PrintLast Go.Proofs.YtgmelgkcoejknaaW.PrintMore
attribute [local go_sem] max2_int min2_int max_two min_two max_three min_three max_four min_four
set_option linter.unusedVariables false
set_option linter.unusedSimpArgs false
def contangolaw41_Cases.l0:Nat → List (S41) → List (S37) → Int → Option ((List (S37)))
 | 0,_,_,_=>none
 | k + 1,x0,x3,x4=>if x4 < (x0.length:Int) then (if 0 ≤ x4 then (if x3.length < 4398046511104 then (contangolaw41_Cases.l0 k x0 (x3 ++ [(⟨(rd_T41 x0 x4).f0,(rd_T41 x0 x4).f1,(rd_T41 x0 x4).f2⟩:S37)]) (wrap64 (x4 + 1))) else (none)) else (none)) else (some x3)
def contangolaw41_Cases.f (k:Nat) (l0:List (S41)):Option ((List (S37))):=contangolaw41_Cases.l0 k l0 ([]:List (S37)) 0
theorem contangolaw41_Cases.mono_l:∀ k,(∀ y0 y1 y2,LeO (contangolaw41_Cases.l0 k y0 y1 y2) (contangolaw41_Cases.l0 (k + 1) y0 y1 y2))
 | 0=>fun _ _ _ r h=>by simp [contangolaw41_Cases.l0] at h
 | k + 1=>by
  have ih0:=contangolaw41_Cases.mono_l k
  ·intro y0 y1 y2
   unfold contangolaw41_Cases.l0
   repeat' first
   | (with_reducible exact ih0 _ _ _)
   | (with_reducible exact LeO.refl _)
   | (with_reducible exact LeO.none _)
   | (with_reducible refine LeO.ite ?_ ?_)
   | (with_reducible refine LeO.bind ?_ (fun _=>?_))
   | exact ih0 _ _ _
   | exact LeO.none _
   | refine LeO.ite ?_ ?_
   | refine LeO.bind ?_ (fun _=>?_)
theorem contangolaw41_Cases.mono:∀ a0 k,LeO (contangolaw41_Cases.f k a0) (contangolaw41_Cases.f (k + 1) a0):=by
 intro a0 k
 have ih0:=contangolaw41_Cases.mono_l k
 unfold contangolaw41_Cases.f
 repeat' first
   | (with_reducible exact ih0 _ _ _)
   | (with_reducible exact LeO.refl _)
   | (with_reducible exact LeO.none _)
   | (with_reducible refine LeO.ite ?_ ?_)
   | (with_reducible refine LeO.bind ?_ (fun _=>?_))
   | exact ih0 _ _ _
   | exact LeO.none _
   | refine LeO.ite ?_ ?_
   | refine LeO.bind ?_ (fun _=>?_)
def contangolaw41_Cases.T5:Bool × List (List Nat × List Nat):=(true,[([],[]),([],[]),([],[]),([1,2],[1,2]),([3],[3]),([4],[4]),([],[]),([],[]),([6,7],[6,7]),([8],[8]),([9],[9]),([],[]),([],[]),([11,12],[11,12]),([13],[13]),([14],[14]),([5,10,15],[5,10,15]),([16],[16]),([0,17],[0,17]),([18,18,0,1,2,3,4,5,6,7,8,9,10,11,12,13,14,15,16,17,18],[0,18])])
def contangolaw41_Cases.B5:List Nat:=[0,0,0,6,14,30,0,0,192,448,960,0,0,6144,14336,30720,65534,131070,262143,524287]
theorem contangolaw41_Cases.tab5:rtab .any (opsOf Try.f8 5) = contangolaw41_Cases.T5:=by kernel_rfl
theorem contangolaw41_Cases.bits5:waitsOk contangolaw41_Cases.T5.2 contangolaw41_Cases.B5 = true:=by kernel_rfl
set_option maxHeartbeats 8000000 in
set_option maxRecDepth 100000 in
theorem contangolaw41_Cases.calls (k:Nat) (A0:Option Addr) (c0:Nat) (l0:List (S41)) (r:List (S37)) (w:World) (hr0:Kd.C k41 w A0 l0.length l0) (hc0:l0.length ≤ c0) (h:contangolaw41_Cases.f k l0 = some r) :
  Calls Try.prog 8 #[.slice A0 l0.length c0] w fun e w'=>∃ v0_:Value,e = .returned (v0_) ∧ Kd.R k37 37 w' w.heap.size (fun _=>True) v0_ r ∧ Below w.heap.size w w':=by
 have hu37:=Try.underlying37
 have HR0:=Aside0.mk hr0
 have HC0:=Aside0.mk hc0
 clear hr0 hc0
 have HB:=Aside0.mk (Below.refl w.heap.size w)
 have H:(contangolaw41_Cases.l0 k l0 ([]:List (S37)) 0) = some r:=h
 clear h
 have H':=Aside0.mk H
 clear H
 go_enter Try.func8,Try.ntmps8
 go_wp2
 go_loopg [3,4] k (fun kq v3 v4 w'=>∃ (x3_1:List (S37)) (x4_1:Int),v4 = .int .i64 x4_1 ∧ Aside0 (contangolaw41_Cases.l0 kq l0 x3_1 x4_1 = some r) ∧ Aside0 (kq ≤ k) ∧ Aside0 (Kd.R k37 37 w' w.heap.size (fun _=>True) v3 x3_1) ∧ Aside0 (Below w.heap.size w w'))
 case atStart=>exact ⟨(([]:List (S37))),(0),(by first|rfl|(simp;done)|(simp [*];done)),H',⟨Nat.le_refl _⟩,⟨by first|exact Kd.R_nil _ _ _ _ _|exact Kd.N_nil _ _ _ _ _|exact Kd.V_nil _ _ _ _ _|exact Kd.Q_nil _ _ _ _ _|exact Kd.S_nil _ _ _ _ _⟩,⟨by repeat (first|(with_reducible first|exact HB.out|apply below_alloc|apply pw_below_drewN|apply below_drew1)|exact HB.out)⟩⟩
 case round =>
  clear H'
  obtain ⟨x3_1,x4_1,rfl,HA,HK1,HO_3,HB⟩:=hrel
  cases gk with
  | zero=>exact absurd HA.out (by simp [contangolaw41_Cases.l0])
  | succ k1 =>
   have H:=HA.out
   clear HA
   simp only [contangolaw41_Cases.l0] at H
   by_cases c2:x4_1 < (l0.length:Int)
   ·rw [if_pos c2] at H
    have c2b0:decide (x4_1 < (l0.length:Int)) = true:=decide_eq_true c2
    clear c2
    by_cases c3:0 ≤ x4_1
    ·rw [if_pos c3] at H
     have c3b0:decide (0 ≤ x4_1) = true:=decide_eq_true c3
     clear c3
     by_cases c4:x3_1.length < 4398046511104
     ·rw [if_pos c4] at H
      have LMc4:=Aside0.mk c4
      clear c4
      obtain ⟨y104,hy104⟩:∃ y_:List (S37),y_ = (x3_1 ++ [(⟨(rd_T41 l0 x4_1).f0,(rd_T41 l0 x4_1).f1,(rd_T41 l0 x4_1).f2⟩:S37)]):=⟨_,rfl⟩
      replace H:(contangolaw41_Cases.l0 k1 l0 y104 (wrap64 (x4_1 + 1))) = some r:=by first|(rw [hy104];with_reducible exact H)|(have H2_:=(Option.bind_some _ _).symm.trans H;rw [hy104];with_reducible exact H2_)|(have H2_:=(Option.bind_some _ _).symm.trans H;with_reducible exact H2_)|with_reducible exact H|(rw [hy104];exact H)|exact H
      have Ny104:=Aside0.mk hy104
      clear hy104
      have H':=Aside0.mk H
      clear H
      try go_wp2
      have n0_:=Aside0.mk (Kd.R_drew HO_3.out)
      have n1_:=Aside0.mk (below_drew1 HB.out)
      clear HO_3
      clear HB
      have HO_3:=n0_
      have HB:=n1_
      clear n0_ n1_
      have p101:0 ≤ (x4_1:Int):=of_decide_eq_true (by first|(with_reducible assumption)|assumption)
      have q101:x4_1 < (l0.length:Int):=of_decide_eq_true (by first|(with_reducible assumption)|assumption)
      obtain ⟨ad101,e101,hx101_0,hx101_1,hx101_2⟩:=at_T41 HR0.out x4_1 p101 q101
      have hw101_2:=hx101_2
      have hw101_1:=hx101_1
      have hw101_0:=hx101_0
      cases e101
      replace hx101_0:=(HB.out.cell (World.block_lt_of_cell? w _ hx101_0)).trans hx101_0
      replace hx101_1:=(HB.out.cell (World.block_lt_of_cell? w _ hx101_1)).trans hx101_1
      replace hx101_2:=(HB.out.cell (World.block_lt_of_cell? w _ hx101_2)).trans hx101_2
      replace p101:=eq_true p101
      replace q101:=eq_true q101
      have p102:0 ≤ (x4_1:Int):=of_decide_eq_true (by first|(with_reducible assumption)|assumption)
      have q102:x4_1 < (l0.length:Int):=of_decide_eq_true (by first|(with_reducible assumption)|assumption)
      obtain ⟨ad102,e102,hx102_0,hx102_1,hx102_2⟩:=at_T41 HR0.out x4_1 p102 q102
      have hw102_2:=hx102_2
      have hw102_1:=hx102_1
      have hw102_0:=hx102_0
      obtain rfl:ad101 = ad102:=(by injection e102)
      replace hx102_0:=(HB.out.cell (World.block_lt_of_cell? w _ hx102_0)).trans hx102_0
      replace hx102_1:=(HB.out.cell (World.block_lt_of_cell? w _ hx102_1)).trans hx102_1
      replace hx102_2:=(HB.out.cell (World.block_lt_of_cell? w _ hx102_2)).trans hx102_2
      replace p102:=eq_true p102
      replace q102:=eq_true q102
      have p103:0 ≤ (x4_1:Int):=of_decide_eq_true (by first|(with_reducible assumption)|assumption)
      have q103:x4_1 < (l0.length:Int):=of_decide_eq_true (by first|(with_reducible assumption)|assumption)
      obtain ⟨ad103,e103,hx103_0,hx103_1,hx103_2⟩:=at_T41 HR0.out x4_1 p103 q103
      have hw103_2:=hx103_2
      have hw103_1:=hx103_1
      have hw103_0:=hx103_0
      obtain rfl:ad101 = ad103:=(by injection e103)
      replace hx103_0:=(HB.out.cell (World.block_lt_of_cell? w _ hx103_0)).trans hx103_0
      replace hx103_1:=(HB.out.cell (World.block_lt_of_cell? w _ hx103_1)).trans hx103_1
      replace hx103_2:=(HB.out.cell (World.block_lt_of_cell? w _ hx103_2)).trans hx103_2
      replace p103:=eq_true p103
      replace q103:=eq_true q103
      refine start_ (n:=20) (S:=fun w'=>w'.cell? (ad101.add ((x4_1).toNat * 3)) = some (.string ((rd_T41 l0 x4_1).f0)) ∧ w'.cell? ⟨(ad101.add ((x4_1).toNat * 3)).block,(ad101.add ((x4_1).toNat * 3)).off + 1,none⟩ = some (.int .i64 ((rd_T41 l0 x4_1).f1)) ∧ w'.cell? ⟨(ad101.add ((x4_1).toNat * 3)).block,(ad101.add ((x4_1).toNat * 3)).off + 2,none⟩ = some (.int .i64 ((rd_T41 l0 x4_1).f2)) ∧ w'.cell? (ad101.add ((x4_1).toNat * 3)) = some (.string ((rd_T41 l0 x4_1).f0)) ∧ w'.cell? ⟨(ad101.add ((x4_1).toNat * 3)).block,(ad101.add ((x4_1).toNat * 3)).off + 1,none⟩ = some (.int .i64 ((rd_T41 l0 x4_1).f1)) ∧ w'.cell? ⟨(ad101.add ((x4_1).toNat * 3)).block,(ad101.add ((x4_1).toNat * 3)).off + 2,none⟩ = some (.int .i64 ((rd_T41 l0 x4_1).f2)) ∧ w'.cell? (ad101.add ((x4_1).toNat * 3)) = some (.string ((rd_T41 l0 x4_1).f0)) ∧ w'.cell? ⟨(ad101.add ((x4_1).toNat * 3)).block,(ad101.add ((x4_1).toNat * 3)).off + 1,none⟩ = some (.int .i64 ((rd_T41 l0 x4_1).f1)) ∧ w'.cell? ⟨(ad101.add ((x4_1).toNat * 3)).block,(ad101.add ((x4_1).toNat * 3)).off + 2,none⟩ = some (.int .i64 ((rd_T41 l0 x4_1).f2))) (ds:=[]) #[Z,Z,Z,Z,Z,Z,Z,Z,Z,Z,Z,Z,Z,Z,Z,Z,Z,Z,Z,Z] (by kernel_rfl) rfl rfl ⟨((HB.out.cell (World.block_lt_of_cell? w _ hw101_0)).trans hw101_0),((HB.out.cell (World.block_lt_of_cell? w _ hw101_1)).trans hw101_1),((HB.out.cell (World.block_lt_of_cell? w _ hw101_2)).trans hw101_2),((HB.out.cell (World.block_lt_of_cell? w _ hw102_0)).trans hw102_0),((HB.out.cell (World.block_lt_of_cell? w _ hw102_1)).trans hw102_1),((HB.out.cell (World.block_lt_of_cell? w _ hw102_2)).trans hw102_2),((HB.out.cell (World.block_lt_of_cell? w _ hw103_0)).trans hw103_0),((HB.out.cell (World.block_lt_of_cell? w _ hw103_1)).trans hw103_1),((HB.out.cell (World.block_lt_of_cell? w _ hw103_2)).trans hw103_2)⟩ (fun hHeld=>?_);refine with_tabW contangolaw41_Cases.tab5 contangolaw41_Cases.bits5 (fun HT_ HW_=>?_)
      generalize wr.drew = w5 at HO_3 HB hx101_0 hx101_1 hx101_2 hx102_0 hx102_1 hx102_2 hx103_0 hx103_1 hx103_2 hHeld ⊢
      refine pure_ (i:=0) (N:=some 11) (v:=?_) (a':=?_) #[Y,Z,Z,Z,Z,Z,Z,Z,Z,Z,Z,Z,Z,Z,Z,Z,Z,Z,Z,Z] rfl rfl (any_of HT_.out (by kernel_rfl)) (fun _ _ _ h=>h) (Or.inl ⟨by rfl,?_⟩) ?_ ?_
      rotate_left
      ·intro w'
       go_simp
       with_reducible rfl
      rotate_left
      ·simp only [Act.put,List.setIfInBounds_toArray,List.set_cons_zero,List.set_cons_succ,i64_w,i32_w]
       rfl
      refine pure_ (i:=1) (N:=some 12) (v:=?_) (a':=?_) #[Y,Y,Z,Z,Z,Z,Z,Z,Z,Z,Z,Z,Z,Z,Z,Z,Z,Z,Z,Z] rfl rfl (any_of HT_.out (by kernel_rfl)) (fun _ _ _ h=>h) (Or.inl ⟨by rfl,?_⟩) ?_ ?_
      rotate_left
      ·intro w'
       go_simp
       with_reducible rfl
      rotate_left
      ·simp only [Act.put,List.setIfInBounds_toArray,List.set_cons_zero,List.set_cons_succ,i64_w,i32_w]
       rfl
      refine pure_ (i:=2) (N:=some 13) (v:=?_) (a':=?_) #[Y,Y,Y,Z,Z,Z,Z,Z,Z,Z,Z,Z,Z,Z,Z,Z,Z,Z,Z,Z] rfl rfl (any_of HT_.out (by kernel_rfl)) (fun _ _ _ h=>h) (Or.inl ⟨by rfl,?_⟩) ?_ ?_
      rotate_left
      ·intro w'
       go_simp
       with_reducible rfl
      rotate_left
      ·simp only [Act.put,List.setIfInBounds_toArray,List.set_cons_zero,List.set_cons_succ,i64_w,i32_w]
       rfl
      refine pure_ (i:=3) (N:=some 14) (v:=?_) (a':=?_) #[Y,Y,Y,Y,Z,Z,Z,Z,Z,Z,Z,Z,Z,Z,Z,Z,Z,Z,Z,Z] rfl rfl (any_of HT_.out (by kernel_rfl)) (fun _ _ _ h=>h) (Or.inl ⟨by rfl,?_⟩) ?_ ?_
      rotate_left
      ·intro w'
       go_simp
       with_reducible rfl
      rotate_left
      ·simp only [Act.put,List.setIfInBounds_toArray,List.set_cons_zero,List.set_cons_succ,i64_w,i32_w]
       rfl
      refine pure_ (i:=4) (N:=some 15) (v:=?_) (a':=?_) #[Y,Y,Y,Y,Y,Z,Z,Z,Z,Z,Z,Z,Z,Z,Z,Z,Z,Z,Z,Z] rfl rfl (any_of HT_.out (by kernel_rfl)) (fun _ _ _ h=>h) (Or.inl ⟨by rfl,?_⟩) ?_ ?_
      rotate_left
      ·intro w'
       go_simp
       with_reducible rfl
      rotate_left
      ·simp only [Act.put,List.setIfInBounds_toArray,List.set_cons_zero,List.set_cons_succ,i64_w,i32_w]
       rfl
      refine pure_ (i:=6) (N:=some 17) (v:=?_) (a':=?_) #[Y,Y,Y,Y,Y,Z,Y,Z,Z,Z,Z,Z,Z,Z,Z,Z,Z,Z,Z,Z] rfl rfl (any_of HT_.out (by kernel_rfl)) (fun _ _ _ h=>h) (Or.inl ⟨by rfl,?_⟩) ?_ ?_
      rotate_left
      ·intro w'
       go_simp
       with_reducible rfl
      rotate_left
      ·simp only [Act.put,List.setIfInBounds_toArray,List.set_cons_zero,List.set_cons_succ,i64_w,i32_w]
       rfl
      refine pure_ (i:=7) (N:=some 18) (v:=?_) (a':=?_) #[Y,Y,Y,Y,Y,Z,Y,Y,Z,Z,Z,Z,Z,Z,Z,Z,Z,Z,Z,Z] rfl rfl (any_of HT_.out (by kernel_rfl)) (fun _ _ _ h=>h) (Or.inl ⟨by rfl,?_⟩) ?_ ?_
      rotate_left
      ·intro w'
       go_simp
       with_reducible rfl
      rotate_left
      ·simp only [Act.put,List.setIfInBounds_toArray,List.set_cons_zero,List.set_cons_succ,i64_w,i32_w]
       rfl
      refine pure_ (i:=8) (N:=some 19) (v:=?_) (a':=?_) #[Y,Y,Y,Y,Y,Z,Y,Y,Y,Z,Z,Z,Z,Z,Z,Z,Z,Z,Z,Z] rfl rfl (any_of HT_.out (by kernel_rfl)) (fun _ _ _ h=>h) (Or.inl ⟨by rfl,?_⟩) ?_ ?_
      rotate_left
      ·intro w'
       go_simp
       with_reducible rfl
      rotate_left
      ·simp only [Act.put,List.setIfInBounds_toArray,List.set_cons_zero,List.set_cons_succ,i64_w,i32_w]
       rfl
      refine pure_ (i:=9) (N:=some 20) (v:=?_) (a':=?_) #[Y,Y,Y,Y,Y,Z,Y,Y,Y,Y,Z,Z,Z,Z,Z,Z,Z,Z,Z,Z] rfl rfl (any_of HT_.out (by kernel_rfl)) (fun _ _ _ h=>h) (Or.inl ⟨by rfl,?_⟩) ?_ ?_
      rotate_left
      ·intro w'
       go_simp
       with_reducible rfl
      rotate_left
      ·simp only [Act.put,List.setIfInBounds_toArray,List.set_cons_zero,List.set_cons_succ,i64_w,i32_w]
       rfl
      refine pure_ (i:=11) (N:=some 22) (v:=?_) (a':=?_) #[Y,Y,Y,Y,Y,Z,Y,Y,Y,Y,Z,Y,Z,Z,Z,Z,Z,Z,Z,Z] rfl rfl (any_of HT_.out (by kernel_rfl)) (fun _ _ _ h=>h) (Or.inl ⟨by rfl,?_⟩) ?_ ?_
      rotate_left
      ·intro w'
       go_simp
       with_reducible rfl
      rotate_left
      ·simp only [Act.put,List.setIfInBounds_toArray,List.set_cons_zero,List.set_cons_succ,i64_w,i32_w]
       rfl
      refine pure_ (i:=12) (N:=some 23) (v:=?_) (a':=?_) #[Y,Y,Y,Y,Y,Z,Y,Y,Y,Y,Z,Y,Y,Z,Z,Z,Z,Z,Z,Z] rfl rfl (any_of HT_.out (by kernel_rfl)) (fun _ _ _ h=>h) (Or.inl ⟨by rfl,?_⟩) ?_ ?_
      rotate_left
      ·intro w'
       go_simp
       with_reducible rfl
      rotate_left
      ·simp only [Act.put,List.setIfInBounds_toArray,List.set_cons_zero,List.set_cons_succ,i64_w,i32_w]
       rfl
      refine pure_ (i:=13) (N:=some 24) (v:=?_) (a':=?_) #[Y,Y,Y,Y,Y,Z,Y,Y,Y,Y,Z,Y,Y,Y,Z,Z,Z,Z,Z,Z] rfl rfl (any_of HT_.out (by kernel_rfl)) (fun _ _ _ h=>h) (Or.inl ⟨by rfl,?_⟩) ?_ ?_
      rotate_left
      ·intro w'
       go_simp
       with_reducible rfl
      rotate_left
      ·simp only [Act.put,List.setIfInBounds_toArray,List.set_cons_zero,List.set_cons_succ,i64_w,i32_w]
       rfl
      refine pure_ (i:=14) (N:=some 25) (v:=?_) (a':=?_) #[Y,Y,Y,Y,Y,Z,Y,Y,Y,Y,Z,Y,Y,Y,Y,Z,Z,Z,Z,Z] rfl rfl (any_of HT_.out (by kernel_rfl)) (fun _ _ _ h=>h) (Or.inl ⟨by rfl,?_⟩) ?_ ?_
      rotate_left
      ·intro w'
       go_simp
       with_reducible rfl
      rotate_left
      ·simp only [Act.put,List.setIfInBounds_toArray,List.set_cons_zero,List.set_cons_succ,i64_w,i32_w]
       rfl
      refine take_ (i:=5) (N:=some 16) (v:=?_) (a':=?_) #[Y,Y,Y,Y,Y,Y,Y,Y,Y,Y,Z,Y,Y,Y,Y,Z,Z,Z,Z,Z] rfl rfl (take_ofW HT_.out HW_.out (by kernel_rfl)) (fun _ _ _ h=>h) (Or.inl ⟨by rfl,?_⟩) hHeld ?_ ?_
      rotate_left
      ·rintro w' ⟨s0,s1,s2,s3,s4,s5,s6,s7,s8⟩
       go_simp
       with_reducible rfl
      rotate_left
      ·simp only [Act.put,List.setIfInBounds_toArray,List.set_cons_zero,List.set_cons_succ,i64_w,i32_w]
       rfl
      refine take_ (i:=10) (N:=some 21) (v:=?_) (a':=?_) #[Y,Y,Y,Y,Y,Y,Y,Y,Y,Y,Y,Y,Y,Y,Y,Z,Z,Z,Z,Z] rfl rfl (take_ofW HT_.out HW_.out (by kernel_rfl)) (fun _ _ _ h=>h) (Or.inl ⟨by rfl,?_⟩) hHeld ?_ ?_
      rotate_left
      ·rintro w' ⟨s0,s1,s2,s3,s4,s5,s6,s7,s8⟩
       go_simp
       with_reducible rfl
      rotate_left
      ·simp only [Act.put,List.setIfInBounds_toArray,List.set_cons_zero,List.set_cons_succ,i64_w,i32_w]
       rfl
      refine take_ (i:=15) (N:=some 26) (v:=?_) (a':=?_) #[Y,Y,Y,Y,Y,Y,Y,Y,Y,Y,Y,Y,Y,Y,Y,Y,Z,Z,Z,Z] rfl rfl (take_ofW HT_.out HW_.out (by kernel_rfl)) (fun _ _ _ h=>h) (Or.inl ⟨by rfl,?_⟩) hHeld ?_ ?_
      rotate_left
      ·rintro w' ⟨s0,s1,s2,s3,s4,s5,s6,s7,s8⟩
       go_simp
       with_reducible rfl
      rotate_left
      ·simp only [Act.put,List.setIfInBounds_toArray,List.set_cons_zero,List.set_cons_succ,i64_w,i32_w]
       rfl
      refine pure_ (i:=16) (N:=some 27) (v:=?_) (a':=?_) #[Y,Y,Y,Y,Y,Y,Y,Y,Y,Y,Y,Y,Y,Y,Y,Y,Y,Z,Z,Z] rfl rfl (any_of HT_.out (by kernel_rfl)) (fun _ _ _ h=>h) (Or.inl ⟨by rfl,?_⟩) ?_ ?_
      rotate_left
      ·intro w'
       go_simp
       with_reducible rfl
      rotate_left
      ·simp only [Act.put,List.setIfInBounds_toArray,List.set_cons_zero,List.set_cons_succ,i64_w,i32_w]
       rfl
      refine one_ (i:=17) (N:=some 28) #[Y,Y,Y,Y,Y,Y,Y,Y,Y,Y,Y,Y,Y,Y,Y,Y,Y,Y,Z,Z] rfl rfl (one_of HT_.out (by kernel_rfl)) (by decide) (fun K hK=>?_)
      refine value_ (w1:=?_) (v:=?_) (by rfl) rfl ?_ ?_
      rotate_left 2
      ·go_simp
       constructor
       ·rfl
       ·rfl
      refine hK.out _ _ ⟨(World.cell?_alloc_lt _ _ _ (World.block_lt_of_cell? _ _ (((HB.out.cell (World.block_lt_of_cell? w _ hw101_0)).trans hw101_0)))).trans (((HB.out.cell (World.block_lt_of_cell? w _ hw101_0)).trans hw101_0)),(World.cell?_alloc_lt _ _ _ (World.block_lt_of_cell? _ _ (((HB.out.cell (World.block_lt_of_cell? w _ hw101_1)).trans hw101_1)))).trans (((HB.out.cell (World.block_lt_of_cell? w _ hw101_1)).trans hw101_1)),(World.cell?_alloc_lt _ _ _ (World.block_lt_of_cell? _ _ (((HB.out.cell (World.block_lt_of_cell? w _ hw101_2)).trans hw101_2)))).trans (((HB.out.cell (World.block_lt_of_cell? w _ hw101_2)).trans hw101_2)),(World.cell?_alloc_lt _ _ _ (World.block_lt_of_cell? _ _ (((HB.out.cell (World.block_lt_of_cell? w _ hw102_0)).trans hw102_0)))).trans (((HB.out.cell (World.block_lt_of_cell? w _ hw102_0)).trans hw102_0)),(World.cell?_alloc_lt _ _ _ (World.block_lt_of_cell? _ _ (((HB.out.cell (World.block_lt_of_cell? w _ hw102_1)).trans hw102_1)))).trans (((HB.out.cell (World.block_lt_of_cell? w _ hw102_1)).trans hw102_1)),(World.cell?_alloc_lt _ _ _ (World.block_lt_of_cell? _ _ (((HB.out.cell (World.block_lt_of_cell? w _ hw102_2)).trans hw102_2)))).trans (((HB.out.cell (World.block_lt_of_cell? w _ hw102_2)).trans hw102_2)),(World.cell?_alloc_lt _ _ _ (World.block_lt_of_cell? _ _ (((HB.out.cell (World.block_lt_of_cell? w _ hw103_0)).trans hw103_0)))).trans (((HB.out.cell (World.block_lt_of_cell? w _ hw103_0)).trans hw103_0)),(World.cell?_alloc_lt _ _ _ (World.block_lt_of_cell? _ _ (((HB.out.cell (World.block_lt_of_cell? w _ hw103_1)).trans hw103_1)))).trans (((HB.out.cell (World.block_lt_of_cell? w _ hw103_1)).trans hw103_1)),(World.cell?_alloc_lt _ _ _ (World.block_lt_of_cell? _ _ (((HB.out.cell (World.block_lt_of_cell? w _ hw103_2)).trans hw103_2)))).trans (((HB.out.cell (World.block_lt_of_cell? w _ hw103_2)).trans hw103_2))⟩ (fun hHeld=>?_)
      clear hK K
      refine norm_ (a':=?_) ?_ ?_
      rotate_left
      ·show Act.put _ (some 28) _ = _
       simp only [Act.put,List.setIfInBounds_toArray,List.set_cons_zero,List.set_cons_succ,i64_w,i32_w]
       rfl
      refine one_ (i:=18) (N:=some 29) #[Y,Y,Y,Y,Y,Y,Y,Y,Y,Y,Y,Y,Y,Y,Y,Y,Y,Y,Y,Z] rfl rfl (one_of HT_.out (by kernel_rfl)) (by decide) (fun K hK=>?_)
      refine Kd.R_append_step k37 (w0:=w) w.heap.size (by rfl) (.tmp 11) (.tmp 28) 23 37 (.agg #[(.string ⟨#[]⟩),(.int .i64 0),(.int .i64 0)]) 32 rfl Try.underlying23 info37 rfl (by decide) (by omega) u3 x3_1 (⟨(rd_T41 l0 x4_1).f0,(rd_T41 l0 x4_1).f1,(rd_T41 l0 x4_1).f2⟩:S37) [.string ((rd_T41 l0 x4_1).f0),.int .i64 ((rd_T41 l0 x4_1).f1),.int .i64 ((rd_T41 l0 x4_1).f2)] (fun _=>True) (fun _=>False) rfl rfl ?aP (fun _ hk=>hk.elim) ?aF ?aO ?aB ?aS ?aL ?_
      (case aP=>exact k37_mkM _ _ _ (⟨(rd_T41 l0 x4_1).f0,(rd_T41 l0 x4_1).f1,(rd_T41 l0 x4_1).f2⟩:S37))
      (case aB=>exact (by repeat (first|(with_reducible first|exact HB.out|apply below_alloc|apply pw_below_drewN|apply below_drew1)|exact HB.out)))
      (case aF=>exact (fun _ _=>trivial))
      (case aO=>exact (by (with_reducible repeat (first|apply Kd.R_alloc|apply Kd.R_drewN|apply Kd.R_drew));exact HO_3.out))
      (case aS=>exact (below_size (by repeat (first|(with_reducible first|exact HB.out|apply below_alloc|apply pw_below_drewN|apply below_drew1)|exact HB.out))))
      (case aL=>have:=LMc4.out;omega)
      intro v105 w6 ho hb hg hat
      rw [← Ny104.out] at ho
      have n0_:=Aside0.mk (hb)
      have n1_:=Aside0.mk (ho)
      clear HB
      clear HO_3
      have HB:=n0_
      have HO106:=n1_
      clear n0_ n1_
      clear ho hb hg hat
      refine hK.out _ _ ⟨((HB.out.cell (World.block_lt_of_cell? w _ hw101_0)).trans hw101_0),((HB.out.cell (World.block_lt_of_cell? w _ hw101_1)).trans hw101_1),((HB.out.cell (World.block_lt_of_cell? w _ hw101_2)).trans hw101_2),((HB.out.cell (World.block_lt_of_cell? w _ hw102_0)).trans hw102_0),((HB.out.cell (World.block_lt_of_cell? w _ hw102_1)).trans hw102_1),((HB.out.cell (World.block_lt_of_cell? w _ hw102_2)).trans hw102_2),((HB.out.cell (World.block_lt_of_cell? w _ hw103_0)).trans hw103_0),((HB.out.cell (World.block_lt_of_cell? w _ hw103_1)).trans hw103_1),((HB.out.cell (World.block_lt_of_cell? w _ hw103_2)).trans hw103_2)⟩ (fun hHeld=>?_)
      clear hK K
      refine norm_ (a':=?_) ?_ ?_
      rotate_left
      ·show Act.put _ (some 29) _ = _
       simp only [Act.put,List.setIfInBounds_toArray,List.set_cons_zero,List.set_cons_succ,i64_w,i32_w]
       rfl
      refine pure_ (i:=19) (N:=some 3) (v:=?_) (a':=?_) #[Y,Y,Y,Y,Y,Y,Y,Y,Y,Y,Y,Y,Y,Y,Y,Y,Y,Y,Y,Y] rfl rfl (any_of HT_.out (by kernel_rfl)) (fun _ _ _ h=>h) (Or.inl ⟨by rfl,?_⟩) ?_ ?_
      rotate_left
      ·intro w'
       go_simp
       with_reducible rfl
      rotate_left
      ·simp only [Act.put,List.setIfInBounds_toArray,List.set_cons_zero,List.set_cons_succ,i64_w,i32_w]
       rfl
      refine done_ (done_of HT_.out (by kernel_rfl)) ?_
      try go_wp2
      go_roundg k1
      case measure=>have:=HK1.out;omega
      case rel=>exact ⟨(y104),(wrap64 (x4_1 + 1)),(by first|rfl|(simp;done)|(simp [*];done)),H',⟨by have:=HK1.out;omega⟩,⟨by (with_reducible repeat (first|apply Kd.R_alloc|apply Kd.R_drewN|apply Kd.R_drew));exact HO106.out⟩,⟨by repeat (first|(with_reducible first|exact HB.out|apply below_alloc|apply pw_below_drewN|apply below_drew1)|exact HB.out)⟩⟩
     ·rw [if_neg c4] at H
      exact absurd H (by simp)
    ·rw [if_neg c3] at H
     exact absurd H (by simp)
   ·rw [if_neg c2] at H
    have c2b0:decide (x4_1 < (l0.length:Int)) = false:=decide_eq_false c2
    clear c2
    obtain rfl:=Option.some.inj H
    go_wp2
    go_ret
    exact ⟨_,by first|rfl|(simp [errW_none,errW_some] <;> rfl)|(simp [*,errW_none,errW_some] <;> rfl),by (with_reducible repeat (first|apply Kd.R_alloc|apply Kd.R_drewN|apply Kd.R_drew));exact HO_3.out,by repeat (first|(with_reducible first|exact HB.out|apply below_alloc|apply pw_below_drewN|apply below_drew1)|exact HB.out)⟩
end Go.Proofs.Ytgmelgkcoejknaa.X
end
section
namespace Go.Proofs.Ytgmelgkcoejknaa.X
open Go.RowKit Go.Proofs.YtgmelgkcoejknaaW.PrintWords
def KT (T:TypeId) (W W':World):Prop:=∀ (g:Nat) (cs:Array Value),W.heap[g]? = some (.cells cs T (0,0)) → W'.heap[g]? = some (.cells cs T (0,0))
theorem KT.refl (T:TypeId) (W:World):KT T W W:=fun _ _ h=>h
theorem KT.trans {T:TypeId} {a b c:World} (h:KT T a b) (k:KT T b c):KT T a c:=fun g cs hg=>k g cs (h g cs hg)
theorem KT.alloc {T:TypeId} {a b:World} (h:KT T a b) (o:Obj):KT T a (b.alloc o):=fun g cs hg=>blk_alloc (h g cs hg) o
theorem KT.drew {T:TypeId} {a b:World} (h:KT T a b):KT T a b.drew:=h
theorem KT.drewN {T:TypeId} {a b:World} (h:KT T a b) (n:Nat):KT T a (b.drewN n):=h
theorem KT.setCell {T T':TypeId} {a b:World} (h:KT T a b) {p:Addr} {cs':Array Value} (hb:b.heap[p.block]? = some (.cells cs' T' (0,0))) (hne:T' ≠ T) (u:Value):KT T a (b.setCell p u):=fun g cs hg=>by
  have h1:=h g cs hg
  refine blk_far h1 (fun e=>?_) u
  rw [e,hb] at h1
  injection h1 with h2
  injection h2 with _ h3 _
  exact hne h3
theorem KT.below {T:TypeId} {a b c:World} (h:KT T a b) (hb:Below b.heap.size b c):KT T a c:=fun g cs hg=>blk_below (h g cs hg) hb
theorem KT.grown {T T':TypeId} {a b c:World} (h:KT T a b) {row:Option Nat} (hg:b.grownBy c row) (hr:∀ k,row = some k → ∃ cs',b.heap[k]? = some (.cells cs' T' (0,0))) (hne:T' ≠ T):KT T a c:=fun g cs hh=>by
  have h1:=h g cs hh
  refine blk_grown h1 hg (fun e=>?_)
  obtain ⟨cs',h2⟩:=hr g e.symm
  rw [h2] at h1
  injection h1 with h3
  injection h3 with _ h4 _
  exact hne h4
end Go.Proofs.Ytgmelgkcoejknaa.X
end
section
namespace Go.Proofs.Ytgmelgkcoejknaa.X
open Go.RowKit Go.Proofs.YtgmelgkcoejknaaW.PrintWords Go.Proofs.YtgmelgkcoejknaaW.PrintLast Go.Proofs.YtgmelgkcoejknaaW.PrintMore
attribute [local go_sem] max2_int min2_int max_two min_two max_three min_three max_four min_four
set_option linter.unusedVariables false
set_option linter.unusedSimpArgs false
def suspend_Case_25.f (l:List S37):Option (List S37):=if l.length < 137438953472 then some l else none
set_option maxHeartbeats 1600000 in
set_option maxRecDepth 100000 in
theorem suspend_Case_25.calls (A0:Option Addr) (c0:Nat) (l0:List S37) (r:List S37) (w:World) (hr0:Kd.C k37 w A0 l0.length l0) (hc0:l0.length ≤ c0) (h:suspend_Case_25.f l0 = some r) :
  Calls Try.prog 25 #[.slice A0 l0.length c0] w fun e w'=>∃ v0_:Value,e = .returned (v0_) ∧ Kd.R k37 37 w' w.heap.size (fun _=>True) v0_ r ∧ Below w.heap.size w w':=by
 unfold suspend_Case_25.f at h
 by_cases hlim:l0.length < 137438953472
 case neg=>rw [if_neg hlim] at h;exact absurd h (by simp)
 case pos =>
  rw [if_pos hlim] at h
  obtain rfl:=Option.some.inj h
  have HR:=Aside0.mk hr0
  have HL:=Aside0.mk hlim
  clear h hlim hr0
  cases A0 with
  | none =>
   have hnil:=fun W=>Lib.run_eql_slice_nil (P:=Try.prog) W 23 37 none 0 c0 0 0 Try.underlying23
   have h0:l0 = []:=by
    by_cases hp:0 < l0.length
    ·obtain ⟨a,ha,_⟩:=HR.out.2.2 hp
     cases ha
    ·exact List.length_eq_zero_iff.1 (by omega)
   subst h0
   go_enter Try.func25,Try.ntmps25
   go_wp2
   go_ret
   exact ⟨_,rfl,Kd.R_nil _ _ _ _ _,Below.refl _ _⟩
  | some ad =>
   have hnil:=fun W=>Lib.run_eql_slice_nil (P:=Try.prog) W 23 37 (some ad) l0.length c0 0 0 Try.underlying23
   go_enter Try.func25,Try.ntmps25
   go_wp2_with (first
    | ((with_reducible refine gate_dst (N:=5) rfl ?_);(try (refine gate_guard (by rfl) ?_;dsimp only));refine Kd.R_lit k37 _ 37 ?hg (N:=5) ?hd (xs:=([]:List S37)) (inner:=[]) (ok:=fun _=>True) (okp:=fun _=>True) ?hr ?hp (fun _ hk=>hk) trivial (Below.refl _ _) (Nat.le_refl _) (by simp) ?_;(case hd=>rfl);(case hg=>rfl);(case hr=>first|(go_simp;done)|(go_simp;rfl));(case hp=>exact (Reps.none _ _));intro v1 w1 ho hb hg_ hnew_;clear hg_ hnew_;have HO:=Aside0.mk ho;have HB:=Aside0.mk hb;clear ho hb)
    | ((with_reducible refine gate_builtin (b:=.append) (xs:=#[.tmp 5,.tmp 6]) rfl ?_);at_builtin;refine Kd.R_append_rows k37 (w0:=w) w.heap.size rfl (.tmp 5) (.tmp 6) 23 37 _ _ rfl Try.underlying23 info37 rfl (by decide) (by omega) v1 ([]:List S37) l0 _ _ _ (fun _=>True) (fun _=>False) rfl rfl ?aO ?aR (fun _ _ h=>h) (fun _ h=>h.elim) (fun _ _=>trivial) ?aB ?aS ?aL ?_;(case aO=>exact HO.out);(case aR=>exact (Kd.C_below HR.out HB.out));(case aB=>exact HB.out);(case aS=>exact (below_size HB.out));(case aL=>have:=HL.out;simp;omega);intro v2 w2 ho hb hg hat;have HO2:=Aside0.mk ho;have HB2:=Aside0.mk hb;clear ho hb hg hat))
   go_ret
   exact ⟨_,rfl,by simpa using HO2.out,HB2.out⟩
end Go.Proofs.Ytgmelgkcoejknaa.X
end
section
namespace Go.Proofs.Ytgmelgkcoejknaa.X
open Go.RowKit Go.Proofs.YtgmelgkcoejknaaW.PrintWords
theorem run_copy_rows {P:Program} (w:World) (dT sT ty elem:TypeId) (g o dLen dCap:Nat) (a:Addr) (sLen sCap sz:Nat) (cur:Array Value) (t:TypeId) (cs:List Value)
    (hu:P.underlying dT = some (.slice elem)) (hs:(P.info? elem).map (·.size) = some sz)
    (hg:w.heap[g]? = some (.cells cur t (0,0))) (hn:cs.length = Nat.min sLen dLen * sz)
    (hsrc:∀ j v,cs[j]? = some v → w.cell? (a.add j) = some v) (hfit:o + cs.length ≤ cur.size) (h1:∀ v ∈ cs,v.oneCell' = true) :
    (Builtin.copy_ #[dT,sT] ty #[.slice (some ⟨g,o,none⟩) dLen dCap,.slice (some a) sLen sCap]).run P w =
      .ok (goInt (Nat.min sLen dLen)) (w.setRow g (cur.toList.take o ++ cs ++ cur.toList.drop (o + cs.length)).toArray):=by
  have hl:=run_loadCells_list (P:=P) w a cs hsrc
  have hst:=run_storeCells_at P g o t cs 0 cur w hg (by simpa using hfit) h1
  cases hq:P.info? elem with
  | none=>simp [hq] at hs
  | some i =>
    have hi:i.size = sz:=by simpa [hq] using hs
    rw [hn] at hl
    simp [Builtin.copy_,run_underlying hu,Builtin.lenOf,Builtin.firstCells,sizeOf,typeInfo,hq,hi,hl,hst]
theorem R_cap {α:Type} (d:Kd α) {e base:Nat} {w:World} {ok:Nat → Prop} {A:Option Addr} {n c:Nat} {xs:List α} (h:d.R e w base ok (.slice A n c) xs):c ≤ 9223372036854775807:=by
  obtain ⟨_,inner,⟨_,h2⟩,_⟩:=h
  rcases h2 with ⟨he,_⟩|⟨g,cap,cur,he,_,_,_,hc,_⟩
  · injection he with _ _ h3;omega
  · injection he with _ _ h3;unfold maxLen at hc;omega
theorem below_drew {B:Nat} {w0 w:World} (h:Below B w0 w):Below B w0 w.drew:=⟨h.os,h.tape,h.output,h.size,h.block⟩
theorem kept_setRow {w W:World} {S:Nat → Prop} (h:Kept w W S) {g:Nat} (hg:S g ∨ w.heap.size ≤ g) (cs:Array Value):Kept w (W.setRow g cs) S :=
  ⟨by rw [setRow_size];exact h.1,fun i hi hn=>by
    rw [setRow_other W g i cs (by
      rintro rfl
      rcases hg with hg|hg
      · exact hn hg
      · omega)]
    exact h.2 i hi hn⟩
theorem read_apart {α:Type} (d:Kd α) (hs:0 < d.sz) {w:World} {S:Nat → Prop} {ad:Addr} {x:α} (h:∀ W',Kept w W' S → d.C W' (some ad) 1 [x]) {g:Nat} {cur:Array Value} {t:TypeId} (hg:w.heap[g]? = some (.cells cur t (0,0))) (hS:S g):ad.block ≠ g:=by
  rintro rfl
  obtain ⟨_,_,h3⟩:=h (w.setRow ad.block #[]) (kept_setRow (Kept.refl _ _) (.inl hS) _)
  obtain ⟨ad',he,h4⟩:=h3 (by omega)
  obtain ⟨c,hc,_,hcell⟩:=h4 0 x rfl
  injection he with he
  subst he
  have h0:=hcell 0 (c[0]'(by omega)) (List.getElem?_eq_getElem (by omega))
  have e:((ad.add (0 * d.sz + 0)):Addr).block = ad.block:=by unfold Addr.add;split <;> rfl
  unfold World.cell? at h0
  rw [e,setRow_heap w ad.block cur #[] t _ hg] at h0
  simp at h0
theorem run_overlaps_row {P:Program} (w:World) (tS tR e:TypeId) (ht:P.underlying tS = some (.slice e)) (size:Nat) (hz:∀ w,(Go.sizeOf e).run P w = .ok size w)
    (a:Addr) (g o la ca lb cb:Nat) (cur:Array Value) (t:TypeId) (v:Value) (hne:a.block ≠ g) (ha:w.cell? a = some v) (hg:w.heap[g]? = some (.cells cur t (0,0))) (hc:0 < cur.size) :
    (Extern.SlicesOverlaps.overlaps #[tS,tS] #[tR] #[.slice (some a) la ca,.slice (some ⟨g,o,none⟩) lb cb]).run P w = .ok (.bool false) w:=by
  have hnb:(a.block != g) = true:=by simpa using hne
  have hnb':(a.block == g) = false:=by simpa using hne
  have hsb:w.shape? g = some (t,cur.size):=by simp [World.shape?,hg]
  have hfb:∀ k,w.frozen? ⟨g,k,none⟩ = false:=fun k=>by simp [World.frozen?,hg]
  obtain ⟨tA,kA,hsa⟩:∃ tA kA,w.shape? a.block = some (tA,kA + 1):=by
    unfold World.cell? at ha
    split at ha
    · rename_i c el fr hh
      split at ha
      · cases ha
      · have hlt:a.off < c.size:=(Array.getElem?_eq_some_iff.1 ha).1
        exact ⟨el,c.size - 1,by simp [World.shape?,hh];omega⟩
    · cases ha
  obtain ⟨kB,hkB⟩:∃ kB,cur.size = kB + 1:=⟨cur.size - 1,by omega⟩
  rw [hkB] at hsb
  have hb:∀ {β γ:Type} (x:Sem β) (f:β → Sem γ),Sem.bind x f = x >>= f:=fun _ _=>rfl
  conv=>lhs;arg 2;whnf
  by_cases h0:la = 0 ∨ lb = 0 ∨ size = 0
  · simp [Sem.run,hb,ht,hz,h0]
  · simp [Sem.run,hb,ht,hz,h0,hnb,hnb',frozen,noView,viewAt,mayBeOne,stringish,shape,hsa,hsb,hfb]
section
variable {α:Type} (d:Kd α) (hE:d.E = [])
include hE
theorem M_any {w w1:World} {base:Nat} {ok ok':Nat → Prop} {x:α} {cs:List Value} (h:d.M w base ok x cs):d.M w1 base ok' x cs:=by
  have h1:d.M w base (fun _=>False) x cs:=d.M_mono (fun k hk=>by
    obtain ⟨_,_,_,q,hq,_⟩:=hk
    rw [hE] at hq
    simp at hq) (d.M_bound h)
  exact d.M_mono (fun k hk=>hk.elim) (d.M_move (fun k hk=>hk.elim) h1)
theorem R_row {e base:Nat} {W w0:World} {ok ok0:Nat → Prop} (g cap:Nat) (cur:Array Value) (ys:List α) (inner:List Value) (hg:W.heap[g]? = some (.cells cur e (0,0))) (hb:base ≤ g) (ho:ok g)
    (hn:ys.length ≤ cap) (hc:cap ≤ maxLen) (hs:cur.size = cap * d.sz) (ht:cur.toList.take (ys.length * d.sz) = inner) (hr:Reps (d.M w0 base ok0) d.sz ys inner):d.R e W base ok (.slice (some ⟨g,0,none⟩) ys.length cap) ys :=
  ⟨fun k hk=>by
    have:g = k:=by simpa [Value.ownBlock] using hk
    exact this ▸ ho,inner,⟨hr.1,.inr ⟨g,cap,cur,rfl,hb,hg,hn,hc,hs,ht⟩⟩,hr.imp_ (fun _ _ hp=>M_any d hE hp)⟩
end
theorem R_row_open {α:Type} (d:Kd α) {e base:Nat} {w:World} {ok:Nat → Prop} {v:Value} {xs:List α} (h:d.R e w base ok v xs) (hn:0 < xs.length) :
    ∃ g cap cur,v = .slice (some ⟨g,0,none⟩) xs.length cap ∧ base ≤ g ∧ ok g ∧ w.heap[g]? = some (.cells cur e (0,0)) ∧ xs.length ≤ cap ∧ cap ≤ maxLen ∧ cur.size = cap * d.sz ∧ Reps (d.M w base (fun _=>True)) d.sz xs (cur.toList.take (xs.length * d.sz)):=by
  obtain ⟨h0,inner,⟨h1,h2⟩,hr⟩:=h
  rcases h2 with ⟨_,he⟩|⟨g,cap,cur,rfl,hb,hg,hnc,hc,hs,ht⟩
  · omega
  · exact ⟨g,cap,cur,rfl,hb,h0 g (by simp [Value.ownBlock]),hg,hnc,hc,hs,by rw [ht];exact hr.imp_ (fun _ _ hp=>d.M_mono (fun _ _=>trivial) hp)⟩
theorem C_one {α:Type} (d:Kd α) {w:World} {A:Option Addr} {x:α} (h:d.C w A 1 [x]):∃ ad vcs,A = some ad ∧ vcs.length = d.sz ∧ d.K w x vcs ∧ ∀ i u,vcs[i]? = some u → w.cell? (ad.add i) = some u:=by
  obtain ⟨_,_,h3⟩:=h
  obtain ⟨ad,rfl,h4⟩:=h3 (by omega)
  obtain ⟨c,hc,hR,hcell⟩:=h4 0 x rfl
  exact ⟨ad,c,rfl,hc,hR,fun i u hi=>by have:=hcell i u hi;rwa [Nat.zero_mul,Nat.zero_add] at this⟩
theorem reps_single {α:Type} {R:α → List Value → Prop} {size:Nat} {x:α} {c:List Value} (h:R x c) (hc:c.length = size):Reps R size [x] c:=by
  have:=(Reps.none R size).snoc h hc
  simpa using this
theorem reps_ins {α:Type} {R:α → List Value → Prop} {size i:Nat} {xs:List α} {x:α} {inner vcs:List Value} (h:Reps R size xs inner) (hi:i ≤ xs.length) (hx:R x vcs) (hc:vcs.length = size) :
    Reps R size (xs.take i ++ [x] ++ xs.drop i) (inner.take (i * size) ++ vcs ++ inner.drop (i * size)) :=
  Kd.reps_append (Kd.reps_append (Kd.reps_take h hi) (reps_single hx hc)) (Kd.reps_drop h)
theorem ins_cells (cur inner vcs:List Value) (n i sz cap:Nat) (hi:i < n) (hn:n + 1 ≤ cap) (hl:cur.length = cap * sz) (hin:cur.take (n * sz) = inner) (hv:vcs.length = sz) :
    let cs:=inner.drop (i * sz)
    let c1:=cur.take ((i + 1) * sz) ++ cs ++ cur.drop ((i + 1) * sz + cs.length)
    let c2:=c1.take (i * sz) ++ vcs ++ c1.drop (i * sz + vcs.length)
    cs.length = (n - i) * sz ∧ (i + 1) * sz + cs.length = (n + 1) * sz ∧ (n + 1) * sz ≤ cur.length ∧ c1.length = cur.length ∧ c2.length = cur.length ∧ c2.take ((n + 1) * sz) = inner.take (i * sz) ++ vcs ++ cs:=by
  intro cs c1 c2
  have hm:∀ {a b:Nat},a ≤ b → a * sz ≤ b * sz:=fun h=>Nat.mul_le_mul_right _ h
  have e1:(i + 1) * sz = i * sz + sz:=by rw [Nat.add_mul,Nat.one_mul]
  have e2:(n + 1) * sz = n * sz + sz:=by rw [Nat.add_mul,Nat.one_mul]
  have e3:(n - i) * sz = n * sz - i * sz:=Nat.mul_sub_right_distrib n i sz
  have h1:=hm (show i ≤ n by omega)
  have h2:=hm hn
  have hil:inner.length = n * sz:=by rw [← hin,List.length_take,hl];omega
  have hcs:cs.length = (n - i) * sz:=by show (inner.drop (i * sz)).length = _;rw [List.length_drop,hil,e3]
  have a1:(i + 1) * sz + cs.length = (n + 1) * sz:=by rw [hcs,e1,e2,e3];omega
  have a2:(n + 1) * sz ≤ cur.length:=by rw [hl];exact h2
  have b1:(i + 1) * sz ≤ cur.length:=by omega
  have l1:c1.length = cur.length:=by
    show (cur.take ((i + 1) * sz) ++ inner.drop (i * sz) ++ cur.drop ((i + 1) * sz + (inner.drop (i * sz)).length)).length = _
    simp only [List.length_append,List.length_take,List.length_drop,hil]
    omega
  have b2:i * sz ≤ cur.length:=by omega
  have t1:c1.take (i * sz) = inner.take (i * sz):=by
    show (cur.take ((i + 1) * sz) ++ cs ++ cur.drop ((i + 1) * sz + cs.length)).take (i * sz) = _
    rw [List.append_assoc,List.take_append_of_le_length (by rw [List.length_take];omega),List.take_take,← hin,List.take_take]
    congr 1
    omega
  have t2:c1.drop (i * sz + vcs.length) = cs ++ cur.drop ((i + 1) * sz + cs.length):=by
    show (cur.take ((i + 1) * sz) ++ cs ++ cur.drop ((i + 1) * sz + cs.length)).drop (i * sz + vcs.length) = _
    rw [hv,← e1,List.append_assoc,List.drop_append_of_le_length (by rw [List.length_take];omega),List.drop_of_length_le (by rw [List.length_take];omega),List.nil_append]
  have c2e:c2 = inner.take (i * sz) ++ vcs ++ (cs ++ cur.drop ((i + 1) * sz + cs.length)):=by
    show c1.take (i * sz) ++ vcs ++ c1.drop (i * sz + vcs.length) = _
    rw [t1,t2]
  refine ⟨hcs,a1,a2,l1,?_,?_⟩
  · rw [c2e]
    simp only [List.length_append,List.length_take,List.length_drop,hil,hv]
    omega
  · rw [c2e,← List.append_assoc,List.take_append_of_le_length (by simp only [List.length_append,List.length_take,hil,hv];omega),List.take_of_length_le (by simp only [List.length_append,List.length_take,hil,hv];omega)]
theorem ins_new (inner vcs Z:List Value) (n i sz cap:Nat) (hi:i < n) (hn:n + 1 ≤ cap) (hil:inner.length = n * sz) (hl:(inner.take (i * sz) ++ Z).length = cap * sz) (hv:vcs.length = sz) :
    let c0:=inner.take (i * sz) ++ Z
    let c1:=c0.take (i * sz) ++ vcs ++ c0.drop (i * sz + vcs.length)
    let cs:=inner.drop (i * sz)
    let c2:=c1.take ((i + 1) * sz) ++ cs ++ c1.drop ((i + 1) * sz + cs.length)
    cs.length = (n - i) * sz ∧ i * sz + vcs.length ≤ c0.length ∧ (i + 1) * sz + cs.length = (n + 1) * sz ∧ (n + 1) * sz ≤ c1.length ∧ c1.length = c0.length ∧ c2.length = c0.length ∧ c2.take ((n + 1) * sz) = inner.take (i * sz) ++ vcs ++ cs:=by
  intro c0 c1 cs c2
  have hm:∀ {a b:Nat},a ≤ b → a * sz ≤ b * sz:=fun h=>Nat.mul_le_mul_right _ h
  have e1:(i + 1) * sz = i * sz + sz:=by rw [Nat.add_mul,Nat.one_mul]
  have e2:(n + 1) * sz = n * sz + sz:=by rw [Nat.add_mul,Nat.one_mul]
  have e3:(n - i) * sz = n * sz - i * sz:=Nat.mul_sub_right_distrib n i sz
  have h1:=hm (show i ≤ n by omega)
  have h3:=hm (show i + 1 ≤ n by omega)
  have h2:=hm hn
  have hcs:cs.length = (n - i) * sz:=by show (inner.drop (i * sz)).length = _;rw [List.length_drop,hil,e3]
  have a1:(i + 1) * sz + cs.length = (n + 1) * sz:=by rw [hcs,e1,e2,e3];omega
  have l0:c0.length = cap * sz:=hl
  have a0:i * sz + vcs.length ≤ c0.length:=by omega
  have ht:(inner.take (i * sz)).length = i * sz:=by rw [List.length_take];omega
  have t0:c0.take (i * sz) = inner.take (i * sz):=by
    show (inner.take (i * sz) ++ Z).take (i * sz) = _
    rw [List.take_append_of_le_length (by omega),List.take_of_length_le (by omega)]
  have l1:c1.length = c0.length:=by
    show (c0.take (i * sz) ++ vcs ++ c0.drop (i * sz + vcs.length)).length = _
    rw [List.length_append,List.length_append,List.length_take,List.length_drop];omega
  have t1:c1.take ((i + 1) * sz) = inner.take (i * sz) ++ vcs:=by
    show (c0.take (i * sz) ++ vcs ++ c0.drop (i * sz + vcs.length)).take ((i + 1) * sz) = _
    rw [t0,List.take_append_of_le_length (by rw [List.length_append];omega),List.take_of_length_le (by rw [List.length_append];omega)]
  refine ⟨hcs,a0,a1,by omega,l1,?_,?_⟩
  · show (c1.take ((i + 1) * sz) ++ inner.drop (i * sz) ++ c1.drop ((i + 1) * sz + (inner.drop (i * sz)).length)).length = _
    simp only [List.length_append,List.length_take,List.length_drop,hil]
    omega
  · show (c1.take ((i + 1) * sz) ++ cs ++ c1.drop ((i + 1) * sz + cs.length)).take ((n + 1) * sz) = _
    rw [t1,List.take_append_of_le_length (by rw [List.length_append,List.length_append];omega),List.take_of_length_le (by rw [List.length_append,List.length_append];omega)]
section
variable {P:Program}
theorem sizeOf_of {e:TypeId} {sz:Nat} (hs:(P.info? e).map (·.size) = some sz) (w:World):(Go.sizeOf e).run P w = .ok sz w:=by
  cases hq:P.info? e with
  | none=>simp [hq] at hs
  | some i =>
    have hi:i.size = sz:=by simpa [hq] using hs
    simp [Go.sizeOf,typeInfo,hq,hi]
theorem add_block (a:Addr) (j:Nat):(a.add j).block = a.block:=by unfold Addr.add;split <;> rfl
theorem ins_room (t e:TypeId) (sz:Nat) (hu:P.underlying t = some (.slice e)) (hs:(P.info? e).map (·.size) = some sz) (hs0:0 < sz)
    (g cap n i:Nat) (cur:Array Value) (inner:List Value) (ad:Addr) (c2:Nat) (vcs:List Value) (w:World) (hi:i < n) (hroom:n + 1 ≤ cap)
    (hg:w.heap[g]? = some (.cells cur e (0,0))) (hsz:cur.size = cap * sz) (hin:cur.toList.take (n * sz) = inner) (hione:∀ u ∈ inner,u.oneCell' = true)
    (hvl:vcs.length = sz) (hvone:∀ u ∈ vcs,u.oneCell' = true) (hvc:∀ i u,vcs[i]? = some u → w.cell? (ad.add i) = some u) (hne:ad.block ≠ g) :
    ∃ d1 d2:List Value,
      (∀ ty,(Builtin.copy_ #[t,t] ty #[.slice (some ⟨g,(i + 1) * sz,none⟩) (n - i) (cap - (i + 1)),.slice (some ⟨g,i * sz,none⟩) (n + 1 - i) (cap - i)]).run P w.drew = .ok (goInt (n - i:Nat)) (w.drew.setRow g d1.toArray)) ∧
      (∀ ty,(Builtin.copy_ #[t,t] ty #[.slice (some ⟨g,i * sz,none⟩) (n + 1 - i) (cap - i),.slice (some ad) 1 c2]).run P (w.drew.setRow g d1.toArray) = .ok (goInt (1:Nat)) ((w.drew.setRow g d1.toArray).setRow g d2.toArray)) ∧
      d2.length = cur.size ∧ d2.take ((n + 1) * sz) = inner.take (i * sz) ++ vcs ++ inner.drop (i * sz):=by
  obtain ⟨k1,k2,k3,k4,k5,k6⟩:=ins_cells cur.toList inner vcs n i sz cap hi hroom (by simpa using hsz) hin hvl
  have hcl:cur.toList.length = cur.size:=by simp
  have hil:inner.length = n * sz:=by rw [← hin,List.length_take,hcl,hsz];exact Nat.min_eq_left (Nat.mul_le_mul_right _ (by omega))
  have hw:w.drew.heap[g]? = some (.cells cur e (0,0)):=hg
  have hcell:∀ j v,(inner.drop (i * sz))[j]? = some v → w.drew.cell? ⟨g,i * sz + j,none⟩ = some v:=by
    intro j v hj
    rw [List.getElem?_drop,← hin,List.getElem?_take] at hj
    split at hj
    · simpa [World.cell?,hw] using hj
    · cases hj
  refine ⟨cur.toList.take ((i + 1) * sz) ++ inner.drop (i * sz) ++ cur.toList.drop ((i + 1) * sz + (inner.drop (i * sz)).length),_,fun ty=>?_,fun ty=>?_,k5.trans hcl,k6⟩
  · have h:=run_copy_rows w.drew t t ty e g ((i + 1) * sz) (n - i) (cap - (i + 1)) ⟨g,i * sz,none⟩ (n + 1 - i) (cap - i) sz cur e (inner.drop (i * sz)) hu hs hw
      (by rw [k1,show Nat.min (n + 1 - i) (n - i) = n - i from Nat.min_eq_right (by omega)]) (fun j v hj=>by rw [Addr.add_lit];exact hcell j v hj) (by rw [k2,← hcl];exact k3) (fun v hv=>hione v (List.mem_of_mem_drop hv))
    rw [show Nat.min (n + 1 - i) (n - i) = n - i from Nat.min_eq_right (by omega)] at h
    exact h
  · have h:=run_copy_rows (w.drew.setRow g (cur.toList.take ((i + 1) * sz) ++ inner.drop (i * sz) ++ cur.toList.drop ((i + 1) * sz + (inner.drop (i * sz)).length)).toArray) t t ty e g (i * sz) (n + 1 - i) (cap - i) ad 1 c2 sz _ e vcs hu hs
      (setRow_heap w.drew g cur _ e _ hw) (by rw [hvl,show Nat.min 1 (n + 1 - i) = 1 from Nat.min_eq_left (by omega),Nat.one_mul])
      (fun j v hj=>by rw [cell_setRow_other _ g _ _ (by rw [add_block];exact hne)];exact hvc j v hj)
      (by rw [List.size_toArray,k4,hvl];have e1:(i + 1) * sz = i * sz + sz:=by rw [Nat.add_mul,Nat.one_mul]
          omega) hvone
    rw [show Nat.min 1 (n + 1 - i) = 1 from Nat.min_eq_left (by omega)] at h
    exact h
theorem ins_grow (t ti e:TypeId) (sz bytes:Nat) (z:Value) (hu:P.underlying t = some (.slice e)) (hti:P.underlying ti = some (.int .i64)) (hinfo:(P.info? e).map (fun i=>(i.zero,i.size,i.bytes)) = some (some z,sz,bytes))
    (hzs:z.cells.size = sz) (hs0:0 < sz) (hb0:0 < bytes) (g cap n i:Nat) (cur:Array Value) (inner:List Value) (ad:Addr) (c2:Nat) (vcs:List Value) (w:World) (hi:i < n) (hncap:n ≤ cap) (hroom:cap < n + 1) (hbig:(n + 1) * bytes ≤ 140737488355328)
    (hg:w.heap[g]? = some (.cells cur e (0,0))) (hsz:cur.size = cap * sz) (hin:cur.toList.take (n * sz) = inner) (hione:∀ u ∈ inner,u.oneCell' = true)
    (hvl:vcs.length = sz) (hvone:∀ u ∈ vcs,u.oneCell' = true) (hvc:∀ i u,vcs[i]? = some u → w.cell? (ad.add i) = some u) :
    ∃ (G:Nat) (W1:World) (d1 d2:List Value),n + 1 ≤ G ∧ G ≤ maxLen ∧ Below w.heap.size w W1 ∧ (∃ d0,W1.heap[w.heap.size]? = some (.cells d0 e (0,0))) ∧
      (∀ ty,(Builtin.append_ #[t,ti] ty #[.slice (some ⟨g,0,none⟩) i cap,.int .i64 ((n:Int) + 1 - i)]).run P w = .ok (.slice (some ⟨w.heap.size,0,none⟩) (n + 1) G) W1) ∧
      (∀ ty,(Builtin.copy_ #[t,t] ty #[.slice (some ⟨w.heap.size,i * sz,none⟩) (n + 1 - i) (G - i),.slice (some ad) 1 c2]).run P W1 = .ok (goInt (1:Nat)) (W1.setRow w.heap.size d1.toArray)) ∧
      (∀ ty,(Builtin.copy_ #[t,t] ty #[.slice (some ⟨w.heap.size,(i + 1) * sz,none⟩) (n - i) (G - (i + 1)),.slice (some ⟨g,i * sz,none⟩) (n - i) (cap - i)]).run P (W1.setRow w.heap.size d1.toArray).drew = .ok (goInt (n - i:Nat)) ((W1.setRow w.heap.size d1.toArray).drew.setRow w.heap.size d2.toArray)) ∧
      d2.length = G * sz ∧ d2.take ((n + 1) * sz) = inner.take (i * sz) ++ vcs ++ inner.drop (i * sz):=by
  obtain ⟨i0,hi0,hzz⟩:=Option.map_eq_some_iff.1 hinfo
  simp only [Prod.mk.injEq] at hzz
  obtain ⟨hz0,hz1,hz2⟩:=hzz
  have hs:(P.info? e).map (·.size) = some sz:=by rw [hi0];simp [hz1]
  have hcl:cur.toList.length = cur.size:=by simp
  have hil:inner.length = n * sz:=by rw [← hin,List.length_take,hcl,hsz];exact Nat.min_eq_left (Nat.mul_le_mul_right _ hncap)
  have hle:n + 1 ≤ 140737488355328:=Nat.le_trans (Nat.le_mul_of_pos_right _ hb0) hbig
  have hgl:g < w.heap.size:=(Array.getElem?_eq_some_iff.1 hg).1
  have hcell:∀ j v,inner[j]? = some v → w.cell? ⟨g,j,none⟩ = some v:=by
    intro j v hj
    rw [← hin,List.getElem?_take] at hj
    split at hj
    · simpa [World.cell?,hg] using hj
    · cases hj
  have hold:(Builtin.firstCells i0.size i (.slice (some ⟨g,0,none⟩) i cap)).run P w.drew = .ok (inner.take (i * sz)).toArray w.drew:=by
    rw [hz1]
    exact run_firstCells_some (P:=P) w.drew sz i ⟨g,0,none⟩ i cap (inner.take (i * sz)) (by rw [List.length_take,hil];exact Nat.min_eq_left (Nat.mul_le_mul_right _ (by omega))) (fun j v hj=>by
      rw [Addr.add_lit,Nat.zero_add]
      rw [List.getElem?_take] at hj
      split at hj
      · exact hcell j v hj
      · cases hj)
  have hkk:(n:Int) + 1 - (i:Int) = ((n + 1 - i:Nat):Int):=by omega
  have hik:i + (n + 1 - i) = n + 1:=by omega
  have hgr:=fun ty=>Lib.run_append_grow_zeros (P:=P) w t ti ty e i0 z .i64 .i64 hu hti hi0 hz0 (some ⟨g,0,none⟩) i cap (inner.take (i * sz)) hold (n + 1 - i) (by omega) (by omega) (by omega) (by omega) (by rw [hz2];exact Nat.le_trans (Nat.mul_le_mul_right bytes (show n + 1 - i ≤ n + 1 by omega)) (by omega)) (by rw [hz2,hik];exact growslice_fits hroom hbig)
  rw [hik] at hgr
  obtain ⟨G,hG⟩:∃ G,G = grownCap w (n + 1) cap e:=⟨_,rfl⟩
  have hGn:n + 1 ≤ G:=by rw [hG];exact grownCap_ge w _ _ _
  have hG63:G ≤ maxLen:=by rw [hG];exact grownCap_le_maxLen w (n + 1) cap e (by unfold maxLen;omega)
  rw [← hG] at hgr
  obtain ⟨Z,hZ⟩:∃ Z,Z = (Builtin.zeroCells z.cells (n + 1 - i)).toList ++ (Builtin.zeroCells z.cells (G - (n + 1))).toList:=⟨_,rfl⟩
  have hrow:(inner.take (i * sz)).toArray ++ Builtin.zeroCells z.cells (n + 1 - i) ++ Builtin.zeroCells z.cells (G - (n + 1)) = (inner.take (i * sz) ++ Z).toArray:=by
    rw [hZ];apply Array.toList_inj.1;simp
  rw [hrow] at hgr
  have hlen:(inner.take (i * sz) ++ Z).length = G * sz:=by
    rw [List.length_append,List.length_take,hil,Nat.min_eq_left (Nat.mul_le_mul_right _ (show i ≤ n by omega)),hZ,List.length_append,Array.length_toList,Array.length_toList,size_zeroCells,size_zeroCells,hzs,← Nat.add_mul,← Nat.add_mul]
    congr 1;omega
  obtain ⟨k1,k2,k3,k4,k5,k6,k7⟩:=ins_new inner vcs Z n i sz G hi hGn hil hlen hvl
  have hnew:(w.drew.alloc (.cells (inner.take (i * sz) ++ Z).toArray e)).heap[w.heap.size]? = some (.cells (inner.take (i * sz) ++ Z).toArray e (0,0)):=heap_alloc_new w.drew _
  have hbel:Below w.heap.size w (w.drew.alloc (.cells (inner.take (i * sz) ++ Z).toArray e)):=⟨rfl,rfl,rfl,by simp,fun k hk=>heap_alloc_old w.drew _ hk⟩
  have hcellW:∀ a v,w.cell? a = some v → (w.drew.alloc (.cells (inner.take (i * sz) ++ Z).toArray e)).cell? a = some v:=by
    intro a v ha
    have hlt:a.block < w.heap.size:=block_lt_of_cell ha
    unfold World.cell? at ha ⊢
    rw [hbel.block _ hlt]
    exact ha
  refine ⟨G,w.drew.alloc (.cells (inner.take (i * sz) ++ Z).toArray e),(inner.take (i * sz) ++ Z).take (i * sz) ++ vcs ++ (inner.take (i * sz) ++ Z).drop (i * sz + vcs.length),_,hGn,hG63,hbel,⟨_,hnew⟩,fun ty=>by rw [hkk];exact hgr ty,fun ty=>?_,fun ty=>?_,by rw [k6,hlen],k7⟩
  · have h:=run_copy_rows (w.drew.alloc (.cells (inner.take (i * sz) ++ Z).toArray e)) t t ty e w.heap.size (i * sz) (n + 1 - i) (G - i) ad 1 c2 sz _ e vcs hu hs hnew (by rw [hvl,show Nat.min 1 (n + 1 - i) = 1 from Nat.min_eq_left (by omega),Nat.one_mul])
      (fun j v hj=>hcellW _ v (hvc j v hj)) (by rw [List.size_toArray];exact k2) hvone
    rw [show Nat.min 1 (n + 1 - i) = 1 from Nat.min_eq_left (by omega)] at h
    exact h
  · have hne:g ≠ w.heap.size:=by omega
    have h:=run_copy_rows ((w.drew.alloc (.cells (inner.take (i * sz) ++ Z).toArray e)).setRow w.heap.size ((inner.take (i * sz) ++ Z).take (i * sz) ++ vcs ++ (inner.take (i * sz) ++ Z).drop (i * sz + vcs.length)).toArray).drew t t ty e w.heap.size ((i + 1) * sz) (n - i) (G - (i + 1)) ⟨g,i * sz,none⟩ (n - i) (cap - i) sz _ e (inner.drop (i * sz)) hu hs
      (setRow_heap _ w.heap.size _ _ e _ hnew) (by rw [k1,show Nat.min (n - i) (n - i) = n - i from Nat.min_self _])
      (fun j v hj=>by
        rw [Addr.add_lit]
        rw [List.getElem?_drop] at hj
        have:=hcellW _ v (hcell _ v hj)
        rw [← this]
        exact cell_setRow_other _ w.heap.size _ ⟨g,i * sz + j,none⟩ hne) (by rw [List.size_toArray,k3];exact k4) (fun v hv=>hione v (List.mem_of_mem_drop hv))
    rw [show Nat.min (n - i) (n - i) = n - i from Nat.min_self _] at h
    exact h
end
end Go.Proofs.Ytgmelgkcoejknaa.X
end
section
namespace Go.Proofs.Ytgmelgkcoejknaa.X
open Go.RowKit Go.Proofs.YtgmelgkcoejknaaW.PrintWords Go.Proofs.YtgmelgkcoejknaaW.PrintLast Go.Proofs.YtgmelgkcoejknaaW.PrintMore
attribute [local go_sem] max2_int min2_int max_two min_two max_three min_three max_four min_four
set_option linter.unusedVariables false
set_option linter.unusedSimpArgs false
def suspend_Case_28.f (l:List S37) (i:Int) (v:List S37):Option (List S37):=if 0 ≤ i ∧ i ≤ (l.length:Int) ∧ l.length < 137438953471 ∧ v.length = 1 then some (l.take i.toNat ++ v ++ l.drop i.toNat) else none
set_option maxHeartbeats 1600000 in
set_option maxRecDepth 100000 in
theorem suspend_Case_28.end_ (P0_:Nat → Prop) (u9000_:Value) (l0:List S37) (A2:Option Addr) (c2:Nat) (l2:List S37) (w0 w:World) (hB:Below w0.heap.size w0 w) (ho0:Kd.R k37 37 w w0.heap.size P0_ u9000_ l0) (hr2:∀ W',Kept w W' (fun k_=>P0_ k_) → Kd.C k37 W' A2 l2.length l2) (hc2:l2.length ≤ c2) (hlim:l0.length < 137438953471) (hv1:l2.length = 1) :
  Calls Try.prog 28 #[u9000_,.int .i64 (l0.length:Int),.slice A2 l2.length c2] w fun e w'=>∃ v0_:Value,e = .returned (v0_) ∧ Kd.R k37 37 w' w0.heap.size (fun k_=>(P0_ k_ ∨ w.heap.size ≤ k_)) v0_ (l0 ++ l2) ∧ Below w0.heap.size w0 w' ∧ Kept w w' (fun k_=>P0_ k_):=by
 obtain ⟨A0,c0,rfl⟩:=Kd.R_slice ho0
 have HO:=Aside0.mk (Kd.R_mono ho0 (ok':=fun k_=>P0_ k_ ∨ w.heap.size ≤ k_) (fun k hk=>.inl hk))
 have hblk:∀ k,(Value.slice A0 l0.length c0).ownBlock = some k → P0_ k:=ho0.1
 have HR:=Aside0.mk hr2
 have HB:=Aside0.mk hB
 have HV:=Aside0.mk hblk
 have hle:l0.length ≤ c0:=by
  obtain ⟨A,c,he,hl,_⟩:=Kd.R_reads ho0
  injection he with _ _ h3
  omega
 have h64:=R_cap k37 ho0
 clear hr2 hB ho0 hblk
 have hm:¬ ((l2.length:Int) = 0):=by omega
 go_enter Try.func28,Try.ntmps28
 go_wp2_with (first
  | ((with_reducible refine gate_builtin (b:=.append) (xs:=#[.tmp 23,.tmp 24]) rfl ?_);at_builtin;refine Kd.R_append_rows k37 (w0:=w0) w0.heap.size rfl (.tmp 23) (.tmp 24) 23 37 _ _ rfl Try.underlying23 info37 rfl (by decide) (by omega) _ l0 l2 _ _ _ (fun k_=>P0_ k_ ∨ w.heap.size ≤ k_) (fun _=>False) rfl rfl ?aO ?aR (fun _ _ h=>h) (fun _ h=>h.elim) (fun _ hk=>.inr hk) ?aB ?aS ?aL ?_;(case aO=>exact HO.out);(case aR=>exact (HR.out _ (Kept.refl _ _)));(case aB=>exact HB.out);(case aS=>exact (below_size HB.out));(case aL=>have:=hlim;simp;omega);intro v2 w2 ho hb hg hat;have HO2:=Aside0.mk ho;have HB2:=Aside0.mk hb;have HG2:=Aside0.mk hg;clear ho hb hg hat))
 all_goals go_ret
 all_goals exact ⟨_,rfl,HO2.out,HB2.out,Kept.of_grown HG2.out (Kept.refl _ _) (fun k hk=>.inl (HV.out k hk))⟩
set_option maxHeartbeats 1600000 in
set_option maxRecDepth 100000 in
theorem suspend_Case_28.room (g cap n i:Nat) (cur:Array Value) (inner:List Value) (ad:Addr) (c2:Nat) (vcs:List Value) (w:World) (hi:i < n) (hroom:n + 1 ≤ cap) (hcap:cap ≤ 9223372036854775807)
  (hg:w.heap[g]? = some (.cells cur 37 (0,0))) (hsz:cur.size = cap * 3) (hin:cur.toList.take (n * 3) = inner) (hione:∀ u ∈ inner,u.oneCell' = true)
  (hvl:vcs.length = 3) (hvone:∀ u ∈ vcs,u.oneCell' = true) (hvc:∀ i u,vcs[i]? = some u → w.cell? (ad.add i) = some u) (hne:ad.block ≠ g) (h2:1 ≤ c2) :
  Calls Try.prog 28 #[.slice (some ⟨g,0,none⟩) n cap,.int .i64 (i:Int),.slice (some ad) 1 c2] w fun e w'=>e = .returned (.slice (some ⟨g,0,none⟩) (n + 1) cap) ∧ ∃ cs:List Value,w' = w.drew.setRow g cs.toArray ∧ cs.length = cap * 3 ∧ cs.take ((n + 1) * 3) = inner.take (i * 3) ++ vcs ++ inner.drop (i * 3):=by
 have hs:(Try.prog.info? 37).map (·.size) = some 3:=by kernel_rfl
 obtain ⟨d1,d2,hc1,hc2,K5,K6⟩:=ins_room (P:=Try.prog) 23 37 3 Try.underlying23 hs (by omega) g cap n i cur inner ad c2 vcs w hi hroom hg hsz hin hione hvl hvone hvc hne
 have hc1:=hc1 3
 have hc2:=hc2 3
 have K5:=Aside0.mk (K5.trans hsz)
 have K6:=Aside0.mk K6
 obtain ⟨v0,hv0⟩:∃ v,w.cell? ad = some v:=⟨vcs[0]'(by omega),by have:=hvc 0 _ (List.getElem?_eq_getElem (by omega));rwa [show ad.add 0 = ad from by unfold Addr.add;split <;> simp_all] at this⟩
 have hov:∀ o lb cb,(callFunc 35 #[.slice (some ad) 1 c2,.slice (some ⟨g,o,none⟩) lb cb]).run Try.prog w = .ok (.value (.bool false)) w:=fun o lb cb=>by
  rw [run_callFunc_extern Try.func35 (by kernel_rfl) (by kernel_rfl) (by kernel_rfl) (e:=Extern.SlicesOverlaps.overlaps #[23,23] #[4]) (by kernel_rfl),
   run_overlaps_row w 23 4 37 Try.underlying23 3 (sizeOf_of hs) ad g o 1 c2 lb cb cur 37 v0 hne hv0 hg (by omega)]
  rfl
 clear hsz hin hione hvl hvone hvc hg hv0 hs
 have hw1:IntKind.i64.wrap ((i:Int) + 1) = (i:Int) + 1:=by rw [IntKind.wrap_i64];omega
 have hz2:¬ ((i:Int) = (n:Int)):=by omega
 have hb1:(0:Int) ≤ (i:Int) + 1:=by omega
 have hin':i ≤ n:=by omega
 have htn:((i:Int) + 1).toNat = i + 1:=by omega
 have hb2:¬ (cap = i + 1):=by omega
 have hb3:(i:Int) ≤ (n:Int) + 1:=by omega
 have hb4:¬ (cap = i):=by omega
 go_enter Try.func28,Try.ntmps28
 go_wp2_with (simp only [hov])
 go_region
 go_wp2
 go_ret
 exact ⟨rfl,d2,by rw [setRow_setRow],K5.out,K6.out⟩
set_option maxHeartbeats 1600000 in
set_option maxRecDepth 100000 in
theorem suspend_Case_28.grow (g cap n i:Nat) (cur:Array Value) (inner:List Value) (ad:Addr) (c2:Nat) (vcs:List Value) (w:World) (hi:i < n) (hncap:n ≤ cap) (hroom:cap < n + 1) (hlim:n < 137438953471)
  (hg:w.heap[g]? = some (.cells cur 37 (0,0))) (hsz:cur.size = cap * 3) (hin:cur.toList.take (n * 3) = inner) (hione:∀ u ∈ inner,u.oneCell' = true)
  (hvl:vcs.length = 3) (hvone:∀ u ∈ vcs,u.oneCell' = true) (hvc:∀ i u,vcs[i]? = some u → w.cell? (ad.add i) = some u) (h2:1 ≤ c2) :
  Calls Try.prog 28 #[.slice (some ⟨g,0,none⟩) n cap,.int .i64 (i:Int),.slice (some ad) 1 c2] w fun e w'=>∃ G,e = .returned (.slice (some ⟨w.heap.size,0,none⟩) (n + 1) G) ∧ n + 1 ≤ G ∧ G ≤ maxLen ∧ Below w.heap.size w w' ∧ ∃ cs:List Value,w'.heap[w.heap.size]? = some (.cells cs.toArray 37 (0,0)) ∧ cs.length = G * 3 ∧ cs.take ((n + 1) * 3) = inner.take (i * 3) ++ vcs ++ inner.drop (i * 3):=by
 obtain ⟨G,W1,d1,d2,hGn,hG63,HB,HN,ha,hc1,hc2,K5,K6⟩:=ins_grow (P:=Try.prog) 23 3 37 3 _ _ Try.underlying23 (by kernel_rfl) info37 rfl (by omega) (by omega) g cap n i cur inner ad c2 vcs w hi hncap hroom (by omega) hg hsz hin hione hvl hvone hvc
 have ha:=ha 23
 have hc1:=hc1 3
 have hc2:=hc2 3
 have K5:=Aside0.mk K5
 have K6:=Aside0.mk K6
 have HB:=Aside0.mk HB
 have HN:=Aside0.mk HN
 have HG:=Aside0.mk hG63
 have hG':G ≤ 9223372036854775807:=hG63
 obtain ⟨H,hH⟩:∃ H,H = w.heap.size:=⟨_,rfl⟩
 rw [← hH] at HB HN ha hc1 hc2 ⊢
 clear hsz hin hione hvl hvone hvc hg hG63 hH
 have hw1:IntKind.i64.wrap ((i:Int) + 1) = (i:Int) + 1:=by rw [IntKind.wrap_i64];omega
 have hz2:¬ ((i:Int) = (n:Int)):=by omega
 have hb1:(0:Int) ≤ (i:Int) + 1:=by omega
 have hin':i ≤ n:=by omega
 have htn:((i:Int) + 1).toNat = i + 1:=by omega
 have hb2:¬ (G = i + 1):=by omega
 have hb3:(i:Int) ≤ (n:Int) + 1:=by omega
 have hb4:¬ (G = i):=by omega
 have hb5:¬ (cap = i):=by omega
 have hz3:(cap:Int) < (n:Int) + 1:=by omega
 go_enter Try.func28,Try.ntmps28
 go_wp2_with (at_builtin;refine Lib.wpList_append_run _ rfl _ _ _ _ rfl _ _ rfl rfl _ _ ha ?_)
 go_region
 go_wp2
 go_ret
 obtain ⟨d0,hd0⟩:=HN.out
 refine ⟨G,rfl,hGn,HG.out,?_,d2,setRow_heap _ H d1.toArray _ 37 _ (setRow_heap _ H d0 _ 37 _ hd0),K5.out,K6.out⟩
 exact below_setRow (below_drew (below_setRow HB.out (Nat.le_refl _) _)) (Nat.le_refl _) _
theorem suspend_Case_28.calls (P0_:Nat → Prop) (u9000_:Value) (l0:List S37) (a1:Int) (A2:Option Addr) (c2:Nat) (l2:List S37) (r:List S37) (w0 w:World) (hB:Below w0.heap.size w0 w) (ho0:Kd.R k37 37 w w0.heap.size P0_ u9000_ l0) (hr2:∀ W',Kept w W' (fun k_=>P0_ k_) → Kd.C k37 W' A2 l2.length l2) (hc2:l2.length ≤ c2) (h:suspend_Case_28.f l0 a1 l2 = some r) :
  Calls Try.prog 28 #[u9000_,.int .i64 a1,.slice A2 l2.length c2] w fun e w'=>∃ v0_:Value,e = .returned (v0_) ∧ Kd.R k37 37 w' w0.heap.size (fun k_=>(P0_ k_ ∨ w.heap.size ≤ k_)) v0_ r ∧ Below w0.heap.size w0 w' ∧ Kept w w' (fun k_=>P0_ k_):=by
 unfold suspend_Case_28.f at h
 by_cases hc:0 ≤ a1 ∧ a1 ≤ (l0.length:Int) ∧ l0.length < 137438953471 ∧ l2.length = 1
 case neg=>rw [if_neg hc] at h;exact absurd h (by simp)
 case pos =>
  rw [if_pos hc] at h
  obtain rfl:=Option.some.inj h
  obtain ⟨h1,h2,h3,h4⟩:=hc
  obtain ⟨i,rfl⟩:=Int.eq_ofNat_of_zero_le h1
  by_cases he:i = l0.length
  ·subst he
   have e:l0.take (l0.length:Int).toNat ++ l2 ++ l0.drop (l0.length:Int).toNat = l0 ++ l2:=by simp
   rw [e]
   exact suspend_Case_28.end_ P0_ u9000_ l0 A2 c2 l2 w0 w hB ho0 hr2 hc2 h3 h4
  ·obtain ⟨x,rfl⟩:=List.length_eq_one_iff.1 h4
   obtain ⟨ad,vcs,rfl,hvl,hvK,hvc⟩:=C_one k37 (hr2 w (Kept.refl _ _))
   obtain ⟨g,cap,cur,rfl,hbg,hok,hg,hnc,hcm,hsz,hrep⟩:=R_row_open k37 ho0 (by omega)
   have hM:k37.M w w0.heap.size (fun _=>True) x vcs:=hvK
   have hione:=Kd.reps_one hrep (by decide) (fun _ _ hp=>k37.K_one (k37.K_of_M hp))
   have hcm':cap ≤ 9223372036854775807:=hcm
   have hreps:=reps_ins hrep (i:=i) (by omega) hM hvl
   have hlen:(l0.take i ++ [x] ++ l0.drop i).length = l0.length + 1:=by simp;omega
   rw [show ((i:Nat):Int).toNat = i from Int.toNat_natCast i]
   by_cases hroom:l0.length + 1 ≤ cap
   ·have hne:=read_apart k37 (by decide) hr2 hg hok
    refine (suspend_Case_28.room g cap l0.length i cur _ ad c2 vcs w (by omega) hroom hcm' hg hsz rfl hione hvl (k37.K_one hvK) hvc hne hc2).mono ?_
    rintro e w' ⟨rfl,cs,rfl,hcl,hct⟩
    refine ⟨_,rfl,?_,?_,?_⟩
    ·have:=R_row k37 rfl (e:=37) (base:=w0.heap.size) (W:=w.drew.setRow g cs.toArray) (ok:=fun k_=>(P0_ k_ ∨ w.heap.size ≤ k_)) g cap cs.toArray (l0.take i ++ [x] ++ l0.drop i) _ (setRow_heap w.drew g cur _ 37 _ hg) hbg (.inl hok) (by omega) hcm (by rw [List.size_toArray];exact hcl) (by rw [hlen];exact hct) hreps
     rw [hlen] at this
     exact this
    ·exact below_setRow (below_drew hB) hbg _
    ·exact kept_setRow (Kept.refl w _) (.inl hok) _
   ·refine (suspend_Case_28.grow g cap l0.length i cur _ ad c2 vcs w (by omega) hnc (by omega) h3 hg hsz rfl hione hvl (k37.K_one hvK) hvc hc2).mono ?_
    rintro e w' ⟨G,rfl,hGn,hG,hbel,cs,hnew,hcl,hct⟩
    refine ⟨_,rfl,?_,hB.trans (hbel.mono hB.size),Kept.of_below hbel _⟩
    have:=R_row k37 rfl (e:=37) (base:=w0.heap.size) (W:=w') (ok:=fun k_=>(P0_ k_ ∨ w.heap.size ≤ k_)) w.heap.size G cs.toArray (l0.take i ++ [x] ++ l0.drop i) _ hnew hB.size (.inr (Nat.le_refl _)) (by omega) hG (by rw [List.size_toArray];exact hcl) (by rw [hlen];exact hct) hreps
    rw [hlen] at this
    exact this
end Go.Proofs.Ytgmelgkcoejknaa.X
end
section
namespace Go.Proofs.Ytgmelgkcoejknaa.X
open Go.RowKit Go.Proofs.YtgmelgkcoejknaaW.PrintWords Go.Proofs.YtgmelgkcoejknaaW.PrintLast Go.Proofs.YtgmelgkcoejknaaW.PrintMore
attribute [local go_sem] max2_int min2_int max_two min_two max_three min_three max_four min_four
set_option linter.unusedVariables false
set_option linter.unusedSimpArgs false
def suspend_day.f (a0:Int):Option (Bool):=if a0 ≥ 0 then (some (decide (a0 ≤ 73048))) else (some false)
set_option maxHeartbeats 8000000 in
set_option maxRecDepth 100000 in
theorem suspend_day.calls (a0:Int) (r:Bool) (w:World) (h:suspend_day.f a0 = some r) :
  Calls Try.prog 27 #[.int .i64 a0] w fun e w'=>e = .returned (.bool r) ∧ Drawn0 w w':=by
 have H:(if a0 ≥ 0 then (some (decide (a0 ≤ 73048))) else (some false)) = some r:=h
 clear h
 by_cases c2:a0 ≥ 0
 ·rw [if_pos c2] at H
  have c2b0:decide (0 ≤ a0) = true:=decide_eq_true c2
  clear c2
  obtain rfl:=Option.some.inj H
  go_enter Try.func27,Try.ntmps27
  go_wp2
  go_ret
  exact ⟨by first|rfl|(simp;done)|(simp [*];done),by repeat (first|exact Drawn0.refl _|apply Drawn0.step)⟩
 ·rw [if_neg c2] at H
  have c2b0:decide (0 ≤ a0) = false:=decide_eq_false c2
  clear c2
  obtain rfl:=Option.some.inj H
  go_enter Try.func27,Try.ntmps27
  go_wp2
  go_ret
  exact ⟨by first|rfl|(simp;done)|(simp [*];done),by repeat (first|exact Drawn0.refl _|apply Drawn0.step)⟩
end Go.Proofs.Ytgmelgkcoejknaa.X
end
section
namespace Go.Proofs.Ytgmelgkcoejknaa.X
open Go.RowKit Go.Proofs.YtgmelgkcoejknaaW.PrintWords Go.Proofs.YtgmelgkcoejknaaW.PrintLast Go.Proofs.YtgmelgkcoejknaaW.PrintMore
attribute [local go_sem] max2_int min2_int max_two min_two max_three min_three max_four min_four
set_option linter.unusedVariables false
set_option linter.unusedSimpArgs false
def words_digit.f (a0:Int):Option (Bool):=if 48 ≤ a0 then (some (decide (a0 ≤ 57))) else (some false)
set_option maxHeartbeats 8000000 in
set_option maxRecDepth 100000 in
theorem words_digit.calls (a0:Int) (r:Bool) (w:World) (h:words_digit.f a0 = some r) :
  Calls Try.prog 34 #[.int .u8 a0] w fun e w'=>e = .returned (.bool r) ∧ Drawn0 w w':=by
 have H:(if 48 ≤ a0 then (some (decide (a0 ≤ 57))) else (some false)) = some r:=h
 clear h
 by_cases c2:48 ≤ a0
 ·rw [if_pos c2] at H
  have c2b0:decide (48 ≤ a0) = true:=decide_eq_true c2
  clear c2
  obtain rfl:=Option.some.inj H
  go_enter Try.func34,Try.ntmps34
  go_wp2
  go_ret
  exact ⟨by first|rfl|(simp;done)|(simp [*];done),by repeat (first|exact Drawn0.refl _|apply Drawn0.step)⟩
 ·rw [if_neg c2] at H
  have c2b0:decide (48 ≤ a0) = false:=decide_eq_false c2
  clear c2
  obtain rfl:=Option.some.inj H
  go_enter Try.func34,Try.ntmps34
  go_wp2
  go_ret
  exact ⟨by first|rfl|(simp;done)|(simp [*];done),by repeat (first|exact Drawn0.refl _|apply Drawn0.step)⟩
end Go.Proofs.Ytgmelgkcoejknaa.X
end
section
namespace Go.Proofs.Ytgmelgkcoejknaa.X
open Go.RowKit Go.Proofs.YtgmelgkcoejknaaW.PrintWords Go.Proofs.YtgmelgkcoejknaaW.PrintLast Go.Proofs.YtgmelgkcoejknaaW.PrintMore
attribute [local go_sem] max2_int min2_int max_two min_two max_three min_three max_four min_four
set_option linter.unusedVariables false
set_option linter.unusedSimpArgs false
def words_letter.f (a0:Int):Option (Bool):=if 97 ≤ a0 then (some (decide (a0 ≤ 122))) else (some false)
set_option maxHeartbeats 8000000 in
set_option maxRecDepth 100000 in
theorem words_letter.calls (a0:Int) (r:Bool) (w:World) (h:words_letter.f a0 = some r) :
  Calls Try.prog 33 #[.int .u8 a0] w fun e w'=>e = .returned (.bool r) ∧ Drawn0 w w':=by
 have H:(if 97 ≤ a0 then (some (decide (a0 ≤ 122))) else (some false)) = some r:=h
 clear h
 by_cases c2:97 ≤ a0
 ·rw [if_pos c2] at H
  have c2b0:decide (97 ≤ a0) = true:=decide_eq_true c2
  clear c2
  obtain rfl:=Option.some.inj H
  go_enter Try.func33,Try.ntmps33
  go_wp2
  go_ret
  exact ⟨by first|rfl|(simp;done)|(simp [*];done),by repeat (first|exact Drawn0.refl _|apply Drawn0.step)⟩
 ·rw [if_neg c2] at H
  have c2b0:decide (97 ≤ a0) = false:=decide_eq_false c2
  clear c2
  obtain rfl:=Option.some.inj H
  go_enter Try.func33,Try.ntmps33
  go_wp2
  go_ret
  exact ⟨by first|rfl|(simp;done)|(simp [*];done),by repeat (first|exact Drawn0.refl _|apply Drawn0.step)⟩
end Go.Proofs.Ytgmelgkcoejknaa.X
end
section
namespace Go.Proofs.Ytgmelgkcoejknaa.X
open Go.RowKit Go.Proofs.YtgmelgkcoejknaaW.PrintWords Go.Proofs.YtgmelgkcoejknaaW.PrintLast Go.Proofs.YtgmelgkcoejknaaW.PrintMore
attribute [local go_sem] max2_int min2_int max_two min_two max_three min_three max_four min_four
set_option linter.unusedVariables false
set_option linter.unusedSimpArgs false
mutual
def words_Name.j0:Nat → ByteArray → Bool → Option (Bool)
 | 0,_,_=>none
 | k + 1,x0,x16=>if x16 = true then (some false) else (words_Name.l0 k x0 (x0.size:Int) 0)
def words_Name.l0:Nat → ByteArray → Int → Int → Option (Bool)
 | 0,_,_,_=>none
 | k + 1,x0,x18,x19=>if x19 < x18 then (if 0 ≤ x19 then (if x19 < (x0.size:Int) then ((words_letter.f (bt x0 x19)).bind fun t102=>(if t102 = true then (words_Name.l0 k x0 x18 (wrap64 (x19 + 1))) else ((words_digit.f (bt x0 x19)).bind fun t103=>(if t103 = true then (words_Name.l0 k x0 x18 (wrap64 (x19 + 1))) else (some false))))) else (none)) else (none)) else (some true)
end
def words_Name.f (k:Nat) (a0:ByteArray):Option (Bool):=if a0.toList = ([]:List UInt8) then (words_Name.j0 k a0 true) else (if (a0.size:Int) > 12 then (words_Name.j0 k a0 true) else (if 0 < (a0.size:Int) then ((words_letter.f (bt a0 0)).bind fun t101=>(words_Name.j0 k a0 (!t101))) else (none)))
theorem words_Name.mono_l:∀ k,(∀ y0 y1,LeO (words_Name.j0 k y0 y1) (words_Name.j0 (k + 1) y0 y1)) ∧ (∀ y0 y1 y2,LeO (words_Name.l0 k y0 y1 y2) (words_Name.l0 (k + 1) y0 y1 y2))
 | 0=>⟨fun _ _ r h=>by simp [words_Name.j0] at h,fun _ _ _ r h=>by simp [words_Name.l0] at h⟩
 | k + 1=>by
  obtain ⟨ih0,ih1⟩:=words_Name.mono_l k
  refine ⟨?_,?_⟩
  ·intro y0 y1
   unfold words_Name.j0
   repeat' first
   | (with_reducible exact ih0 _ _)
   | (with_reducible exact ih1 _ _ _)
   | (with_reducible exact LeO.refl _)
   | (with_reducible exact LeO.none _)
   | (with_reducible refine LeO.ite ?_ ?_)
   | (with_reducible refine LeO.bind ?_ (fun _=>?_))
   | exact ih0 _ _
   | exact ih1 _ _ _
   | exact LeO.none _
   | refine LeO.ite ?_ ?_
   | refine LeO.bind ?_ (fun _=>?_)
  ·intro y0 y1 y2
   unfold words_Name.l0
   repeat' first
   | (with_reducible exact ih0 _ _)
   | (with_reducible exact ih1 _ _ _)
   | (with_reducible exact LeO.refl _)
   | (with_reducible exact LeO.none _)
   | (with_reducible refine LeO.ite ?_ ?_)
   | (with_reducible refine LeO.bind ?_ (fun _=>?_))
   | exact ih0 _ _
   | exact ih1 _ _ _
   | exact LeO.none _
   | refine LeO.ite ?_ ?_
   | refine LeO.bind ?_ (fun _=>?_)
theorem words_Name.mono:∀ a0 k,LeO (words_Name.f k a0) (words_Name.f (k + 1) a0):=by
 intro a0 k
 obtain ⟨ih0,ih1⟩:=words_Name.mono_l k
 unfold words_Name.f
 repeat' first
   | (with_reducible exact ih0 _ _)
   | (with_reducible exact ih1 _ _ _)
   | (with_reducible exact LeO.refl _)
   | (with_reducible exact LeO.none _)
   | (with_reducible refine LeO.ite ?_ ?_)
   | (with_reducible refine LeO.bind ?_ (fun _=>?_))
   | exact ih0 _ _
   | exact ih1 _ _ _
   | exact LeO.none _
   | refine LeO.ite ?_ ?_
   | refine LeO.bind ?_ (fun _=>?_)
set_option maxHeartbeats 8000000 in
set_option maxRecDepth 100000 in
theorem words_Name.calls (k:Nat) (a0:ByteArray) (r:Bool) (w:World) (h:words_Name.f k a0 = some r) :
  Calls Try.prog 26 #[.string a0] w fun e w'=>e = .returned (.bool r) ∧ Drawn0 w w':=by
 have H:(if a0.toList = ([]:List UInt8) then (words_Name.j0 k a0 true) else (if (a0.size:Int) > 12 then (words_Name.j0 k a0 true) else (if 0 < (a0.size:Int) then ((words_letter.f (bt a0 0)).bind fun t101=>(words_Name.j0 k a0 (!t101))) else (none)))) = some r:=h
 clear h
 have HC2:=Aside0.mk H
 clear H
 go_enter Try.func26,Try.ntmps26
 go_upto_region 1 with (fail)
 go_cut [16] (fun v16 wc=>∃ (kq:Nat) (x16_1:Bool),v16 = .bool x16_1 ∧ Aside0 (words_Name.j0 kq a0 x16_1 = some r) ∧ Aside0 (kq ≤ k) ∧ Drawn0 w wc)
 case first =>
  have H:=HC2.out
  clear HC2
  by_cases c3:a0.toList = ([]:List UInt8)
  ·rw [if_pos c3] at H
   have c3b0:(a0.toList == ([]:List UInt8)) = true:=beq_iff_eq.mpr c3
   have c3b1:(a0.toList != ([]:List UInt8)) = false:=bne_eq_false_iff_eq.mpr c3
   clear c3
   (first|rw [c3b0]|(simp only [i64_w,i32_w];rw [c3b0])|skip)
   have H':=Aside0.mk H
   clear H
   go_wp2
   go_meet
   case rel=>exact ⟨_,(true),(by first|rfl|(simp;done)|(simp [*];done)),H',⟨by first|omega|exact Nat.le_refl _⟩,by repeat (first|exact Drawn0.refl _|apply Drawn0.step)⟩
  ·rw [if_neg c3] at H
   have c3b0:(a0.toList == ([]:List UInt8)) = false:=beq_eq_false_iff_ne.mpr c3
   have c3b1:(a0.toList != ([]:List UInt8)) = true:=bne_iff_ne.mpr c3
   (first|rw [c3b0]|(simp only [i64_w,i32_w];rw [c3b0])|skip)
   by_cases c4:(a0.size:Int) > 12
   ·rw [if_pos c4] at H
    have c4b0:decide (12 < (a0.size:Int)) = true:=decide_eq_true c4
    have c4b1:decide (12 < a0.size) = true:=decide_eq_true (by omega)
    clear c4
    have H':=Aside0.mk H
    clear H
    go_wp2
    go_meet
    case rel=>exact ⟨_,(true),(by first|rfl|(simp;done)|(simp [*];done)),H',⟨by first|omega|exact Nat.le_refl _⟩,by repeat (first|exact Drawn0.refl _|apply Drawn0.step)⟩
   ·rw [if_neg c4] at H
    have c4b0:decide (12 < (a0.size:Int)) = false:=decide_eq_false c4
    have c4b1:decide (12 < a0.size) = false:=decide_eq_false (by omega)
    clear c4
    by_cases c5:0 < (a0.size:Int)
    ·rw [if_pos c5] at H
     have c5b0:decide (0 < (a0.size:Int)) = true:=decide_eq_true c5
     have c5b1:decide (0 < a0.size) = true:=decide_eq_true (by omega)
     clear c5
     replace H:=Option.bind_eq_some_iff.mp H
     obtain ⟨t101,A70,H⟩:=H
     replace H:(words_Name.j0 k a0 (!t101)) = some r:=H
     have A7:=Aside0.mk A70
     clear A70
     have H':=Aside0.mk H
     clear H
     have p6:0 ≤ (0:Int):=(by omega)
     have q6:0 < a0.size:=(by have:(0:Int) < (a0.size:Int):=of_decide_eq_true (by first|(with_reducible assumption)|assumption);omega)
     have hx6:∀ h:0 < a0.size,((a0[0]'h).toNat:Int) = bt a0 0:=bt_at a0 0
     clear p6
     have qi6:(0 < (a0.size:Int)) = True:=eq_true (of_decide_eq_true (by first|(with_reducible assumption)|assumption))
     replace q6:=eq_true q6
     go_wp2_with (first|(go_at_call 33;(with_reducible refine (words_letter.calls (bt a0 0) t101 _ A7.out).mono ?_);rintro e w' ⟨rfl,⟨nd,rfl⟩⟩))
     go_meet
     case rel=>exact ⟨_,(!t101),(by first|rfl|(simp;done)|(simp [*];done)),H',⟨by first|omega|exact Nat.le_refl _⟩,by repeat (first|exact Drawn0.refl _|apply Drawn0.step)⟩
    ·rw [if_neg c5] at H
     exact absurd H (by simp)
 case rest =>
  clear HC2
  try clear c2
  try clear p2
  try clear c3
  try clear c3b0
  try clear c3b1
  try clear c4
  try clear c4b0
  try clear c4b1
  try clear c5
  try clear c5b0
  try clear c5b1
  try clear p6
  try clear q6
  try clear hx6
  try clear qi6
  try clear p6
  try clear q6
  obtain ⟨kq,x16_1,rfl,HA,HJ1,⟨mc1,rfl⟩⟩:=hcut
  cases kq with
  | zero=>exact absurd HA.out (by simp [words_Name.j0])
  | succ kj1 =>
   have H:=HA.out
   clear HA
   simp only [words_Name.j0] at H
   by_cases c8:x16_1 = true
   ·subst c8
    have H1:(some false) = some r:=by rw [if_pos rfl] at H;exact H
    clear H
    have H:=H1
    clear H1
    obtain rfl:=Option.some.inj H
    go_wp2
    go_ret
    exact ⟨by first|rfl|(simp;done)|(simp [*];done),by repeat (first|exact Drawn0.refl _|apply Drawn0.step)⟩
   ·replace c8:=Bool.eq_false_iff.mpr c8
    subst c8
    have H1:(words_Name.l0 kj1 a0 (a0.size:Int) 0) = some r:=by rw [if_neg (show ¬ (false = true) by decide)] at H;exact H
    clear H
    have H:=H1
    clear H1
    have H':=Aside0.mk H
    clear H
    go_wp2
    go_loopg [19] kj1 (fun kq v19 w'=>∃ (x19_2:Int),v19 = .int .i64 x19_2 ∧ Aside0 (words_Name.l0 kq a0 (a0.size:Int) x19_2 = some r) ∧ Aside0 (kq ≤ kj1) ∧ Drawn0 w w')
    case atStart=>exact ⟨(0),(by first|rfl|(simp;done)|(simp [*];done)),H',⟨Nat.le_refl _⟩,by repeat (first|exact Drawn0.refl _|apply Drawn0.step)⟩
    case round =>
     clear H'
     try clear c1
     try clear c2
     try clear p2
     try clear c3
     try clear c3b0
     try clear c3b1
     try clear c4
     try clear c4b0
     try clear c4b1
     try clear c5
     try clear c5b0
     try clear c5b1
     try clear p6
     try clear q6
     try clear hx6
     try clear qi6
     try clear c8
     try clear p2
     try clear p6
     try clear q6
     obtain ⟨x19_2,rfl,HA,HK2,⟨m2,rfl⟩⟩:=hrel
     cases gk with
     | zero=>exact absurd HA.out (by simp [words_Name.l0])
     | succ k2 =>
      have H:=HA.out
      clear HA
      simp only [words_Name.l0] at H
      by_cases c9:x19_2 < (a0.size:Int)
      ·rw [if_pos c9] at H
       have c9b0:decide (x19_2 < (a0.size:Int)) = true:=decide_eq_true c9
       clear c9
       by_cases c10:0 ≤ x19_2
       ·rw [if_pos c10] at H
        have c10b0:decide (0 ≤ x19_2) = true:=decide_eq_true c10
        clear c10
        by_cases c11:x19_2 < (a0.size:Int)
        ·rw [if_pos c11] at H
         have c11b0:decide (x19_2 < (a0.size:Int)) = true:=decide_eq_true c11
         clear c11
         replace H:=Option.bind_eq_some_iff.mp H
         obtain ⟨t102,A130,H⟩:=H
         replace H:(if t102 = true then (words_Name.l0 k2 a0 (a0.size:Int) (wrap64 (x19_2 + 1))) else ((words_digit.f (bt a0 x19_2)).bind fun t103=>(if t103 = true then (words_Name.l0 k2 a0 (a0.size:Int) (wrap64 (x19_2 + 1))) else (some false)))) = some r:=H
         have A13:=Aside0.mk A130
         clear A130
         by_cases c14:t102 = true
         ·subst c14
          have H1:(words_Name.l0 k2 a0 (a0.size:Int) (wrap64 (x19_2 + 1))) = some r:=by rw [if_pos rfl] at H;exact H
          clear H
          have H:=H1
          clear H1
          have H':=Aside0.mk H
          clear H
          have p12:0 ≤ (x19_2:Int):=of_decide_eq_true (by first|(with_reducible assumption)|assumption)
          have q12:x19_2 < (a0.size:Int):=of_decide_eq_true (by first|(with_reducible assumption)|assumption)
          have hx12:=bt_at a0 x19_2
          replace p12:=eq_true p12
          replace q12:=eq_true q12
          go_wp2_with (first|((with_reducible refine gate_callee (f:=33) rfl ?_);refine goesL_ (some 25) rfl rfl Try.func33 (by kernel_rfl) rfl #[.int .u8 (bt a0 x19_2)] rfl (by (try simp only [List.map_toArray,List.map_cons,List.map_nil]);first|done|rfl|(simp only [List.length_drop,List.length_take];rfl)) ?_;(with_reducible refine (words_letter.calls (bt a0 x19_2) true _ A13.out).mono ?_);rintro e w' ⟨rfl,⟨nd,rfl⟩⟩;refine ⟨_,rfl,?_⟩))
          go_roundg k2
          case measure=>have:=HJ1.out;have:=HK2.out;omega
          case rel=>exact ⟨(wrap64 (x19_2 + 1)),(by first|rfl|(simp;done)|(simp [*];done)),H',⟨by have:=HJ1.out;have:=HK2.out;omega⟩,by repeat (first|exact Drawn0.refl _|apply Drawn0.step)⟩
         ·replace c14:=Bool.eq_false_iff.mpr c14
          subst c14
          have H1:((words_digit.f (bt a0 x19_2)).bind fun t103=>(if t103 = true then (words_Name.l0 k2 a0 (a0.size:Int) (wrap64 (x19_2 + 1))) else (some false))) = some r:=by rw [if_neg (show ¬ (false = true) by decide)] at H;exact H
          clear H
          have H:=H1
          clear H1
          replace H:=Option.bind_eq_some_iff.mp H
          obtain ⟨t103,A160,H⟩:=H
          replace H:(if t103 = true then (words_Name.l0 k2 a0 (a0.size:Int) (wrap64 (x19_2 + 1))) else (some false)) = some r:=H
          have A16:=Aside0.mk A160
          clear A160
          by_cases c17:t103 = true
          ·subst c17
           have H1:(words_Name.l0 k2 a0 (a0.size:Int) (wrap64 (x19_2 + 1))) = some r:=by rw [if_pos rfl] at H;exact H
           clear H
           have H:=H1
           clear H1
           have H':=Aside0.mk H
           clear H
           have p12:0 ≤ (x19_2:Int):=of_decide_eq_true (by first|(with_reducible assumption)|assumption)
           have q12:x19_2 < (a0.size:Int):=of_decide_eq_true (by first|(with_reducible assumption)|assumption)
           have hx12:=bt_at a0 x19_2
           replace p12:=eq_true p12
           replace q12:=eq_true q12
           go_wp2_with (first|((with_reducible refine gate_callee (f:=33) rfl ?_);refine goesL_ (some 25) rfl rfl Try.func33 (by kernel_rfl) rfl #[.int .u8 (bt a0 x19_2)] rfl (by (try simp only [List.map_toArray,List.map_cons,List.map_nil]);first|done|rfl|(simp only [List.length_drop,List.length_take];rfl)) ?_;(with_reducible refine (words_letter.calls (bt a0 x19_2) false _ A13.out).mono ?_);rintro e w' ⟨rfl,⟨nd,rfl⟩⟩;refine ⟨_,rfl,?_⟩;have p15:0 ≤ (x19_2:Int):=of_decide_eq_true (by first|(with_reducible assumption)|assumption);have q15:x19_2 < (a0.size:Int):=of_decide_eq_true (by first|(with_reducible assumption)|assumption);have hx15:=bt_at a0 x19_2;replace p15:=eq_true p15;replace q15:=eq_true q15)|(go_at_call 34;(with_reducible refine (words_digit.calls (bt a0 x19_2) true _ A16.out).mono ?_);rintro e w' ⟨rfl,⟨nd,rfl⟩⟩))
           go_roundg k2
           case measure=>have:=HJ1.out;have:=HK2.out;omega
           case rel=>exact ⟨(wrap64 (x19_2 + 1)),(by first|rfl|(simp;done)|(simp [*];done)),H',⟨by have:=HJ1.out;have:=HK2.out;omega⟩,by repeat (first|exact Drawn0.refl _|apply Drawn0.step)⟩
          ·replace c17:=Bool.eq_false_iff.mpr c17
           subst c17
           have H1:(some false) = some r:=by rw [if_neg (show ¬ (false = true) by decide)] at H;exact H
           clear H
           have H:=H1
           clear H1
           obtain rfl:=Option.some.inj H
           have p12:0 ≤ (x19_2:Int):=of_decide_eq_true (by first|(with_reducible assumption)|assumption)
           have q12:x19_2 < (a0.size:Int):=of_decide_eq_true (by first|(with_reducible assumption)|assumption)
           have hx12:=bt_at a0 x19_2
           replace p12:=eq_true p12
           replace q12:=eq_true q12
           go_wp2_with (first|((with_reducible refine gate_callee (f:=33) rfl ?_);refine goesL_ (some 25) rfl rfl Try.func33 (by kernel_rfl) rfl #[.int .u8 (bt a0 x19_2)] rfl (by (try simp only [List.map_toArray,List.map_cons,List.map_nil]);first|done|rfl|(simp only [List.length_drop,List.length_take];rfl)) ?_;(with_reducible refine (words_letter.calls (bt a0 x19_2) false _ A13.out).mono ?_);rintro e w' ⟨rfl,⟨nd,rfl⟩⟩;refine ⟨_,rfl,?_⟩;have p15:0 ≤ (x19_2:Int):=of_decide_eq_true (by first|(with_reducible assumption)|assumption);have q15:x19_2 < (a0.size:Int):=of_decide_eq_true (by first|(with_reducible assumption)|assumption);have hx15:=bt_at a0 x19_2;replace p15:=eq_true p15;replace q15:=eq_true q15)|(go_at_call 34;(with_reducible refine (words_digit.calls (bt a0 x19_2) false _ A16.out).mono ?_);rintro e w' ⟨rfl,⟨nd,rfl⟩⟩))
           go_ret
           exact ⟨by first|rfl|(simp;done)|(simp [*];done),by repeat (first|exact Drawn0.refl _|apply Drawn0.step)⟩
        ·rw [if_neg c11] at H
         exact absurd H (by simp)
       ·rw [if_neg c10] at H
        exact absurd H (by simp)
      ·rw [if_neg c9] at H
       have c9b0:decide (x19_2 < (a0.size:Int)) = false:=decide_eq_false c9
       clear c9
       obtain rfl:=Option.some.inj H
       go_wp2
       go_ret
       exact ⟨by first|rfl|(simp;done)|(simp [*];done),by repeat (first|exact Drawn0.refl _|apply Drawn0.step)⟩
end Go.Proofs.Ytgmelgkcoejknaa.X
end
section
namespace Go.Proofs.Ytgmelgkcoejknaa.X
open Go.RowKit Go.Proofs.YtgmelgkcoejknaaW.PrintWords Go.Proofs.YtgmelgkcoejknaaW.PrintLast Go.Proofs.YtgmelgkcoejknaaW.PrintMore
attribute [local go_sem] max2_int min2_int max_two min_two max_three min_three max_four min_four
set_option linter.unusedVariables false
set_option linter.unusedSimpArgs false
mutual
def suspend_Check.l0:Nat → List (S37) → List (S37) → Int → Int → Option (Int)
 | 0,_,_,_,_=>none
 | k + 1,x0,x8,x9,x10=>if x10 < x9 then (if 0 ≤ x10 then (if x10 < (x8.length:Int) then ((words_Name.f k ((rd_T37 x8 x10).f0)).bind fun t103=>(if t103 = true then (if x10 > 0 then (if 0 ≤ (wrap64 (x10 - 1)) then (if (wrap64 (x10 - 1)) < (x0.length:Int) then (suspend_Check.j1 k x0 x8 x9 x10 (!(Op.bytesLess (((rd_T37 x0 (wrap64 (x10 - 1))).f0).toList) (((rd_T37 x8 x10).f0).toList))) ((rd_T37 x8 x10).f0) ((rd_T37 x8 x10).f1) ((rd_T37 x8 x10).f2)) else (none)) else (none)) else (suspend_Check.j1 k x0 x8 x9 x10 false ((rd_T37 x8 x10).f0) ((rd_T37 x8 x10).f1) ((rd_T37 x8 x10).f2))) else (some 10))) else (none)) else (none)) else (some 0)
def suspend_Check.j1:Nat → List (S37) → List (S37) → Int → Int → Bool → ByteArray → Int → Int → Option (Int)
 | 0,_,_,_,_,_,_,_,_=>none
 | k + 1,x0,x8,x9,x10,x20,x103000,x103001,x103002=>if x20 = true then (some 12) else (if x103001 < 1 then (suspend_Check.j2 k x0 x8 x9 x10 true x103000 x103001 x103002) else (suspend_Check.j2 k x0 x8 x9 x10 (decide (x103001 > 7)) x103000 x103001 x103002))
def suspend_Check.j2:Nat → List (S37) → List (S37) → Int → Int → Bool → ByteArray → Int → Int → Option (Int)
 | 0,_,_,_,_,_,_,_,_=>none
 | k + 1,x0,x8,x9,x10,x34,x103000,x103001,x103002=>if x34 = true then (some 13) else ((suspend_day.f x103002).bind fun t105=>(if t105 = true then (suspend_Check.l0 k x0 x8 x9 (wrap64 (x10 + 1))) else (some 15)))
end
def suspend_Check.f (k:Nat) (l0:List (S37)):Option (Int):=if (l0.length:Int) > 32 then (some 8) else (suspend_Check.l0 k l0 l0 (l0.length:Int) 0)
theorem suspend_Check.mono_l:∀ k,(∀ y0 y1 y2 y3,LeO (suspend_Check.l0 k y0 y1 y2 y3) (suspend_Check.l0 (k + 1) y0 y1 y2 y3)) ∧ (∀ y0 y1 y2 y3 y4 y5 y6 y7,LeO (suspend_Check.j1 k y0 y1 y2 y3 y4 y5 y6 y7) (suspend_Check.j1 (k + 1) y0 y1 y2 y3 y4 y5 y6 y7)) ∧ (∀ y0 y1 y2 y3 y4 y5 y6 y7,LeO (suspend_Check.j2 k y0 y1 y2 y3 y4 y5 y6 y7) (suspend_Check.j2 (k + 1) y0 y1 y2 y3 y4 y5 y6 y7))
 | 0=>⟨fun _ _ _ _ r h=>by simp [suspend_Check.l0] at h,fun _ _ _ _ _ _ _ _ r h=>by simp [suspend_Check.j1] at h,fun _ _ _ _ _ _ _ _ r h=>by simp [suspend_Check.j2] at h⟩
 | k + 1=>by
  obtain ⟨ih0,ih1,ih2⟩:=suspend_Check.mono_l k
  refine ⟨?_,?_,?_⟩
  ·intro y0 y1 y2 y3
   unfold suspend_Check.l0
   repeat' first
   | (with_reducible exact ih0 _ _ _ _)
   | (with_reducible exact ih1 _ _ _ _ _ _ _ _)
   | (with_reducible exact ih2 _ _ _ _ _ _ _ _)
   | (with_reducible exact words_Name.mono _ _)
   | (with_reducible exact LeO.refl _)
   | (with_reducible exact LeO.none _)
   | (with_reducible refine LeO.ite ?_ ?_)
   | (with_reducible refine LeO.bind ?_ (fun _=>?_))
   | exact ih0 _ _ _ _
   | exact ih1 _ _ _ _ _ _ _ _
   | exact ih2 _ _ _ _ _ _ _ _
   | exact words_Name.mono _ _
   | exact LeO.none _
   | refine LeO.ite ?_ ?_
   | refine LeO.bind ?_ (fun _=>?_)
  ·intro y0 y1 y2 y3 y4 y5 y6 y7
   unfold suspend_Check.j1
   repeat' first
   | (with_reducible exact ih0 _ _ _ _)
   | (with_reducible exact ih1 _ _ _ _ _ _ _ _)
   | (with_reducible exact ih2 _ _ _ _ _ _ _ _)
   | (with_reducible exact words_Name.mono _ _)
   | (with_reducible exact LeO.refl _)
   | (with_reducible exact LeO.none _)
   | (with_reducible refine LeO.ite ?_ ?_)
   | (with_reducible refine LeO.bind ?_ (fun _=>?_))
   | exact ih0 _ _ _ _
   | exact ih1 _ _ _ _ _ _ _ _
   | exact ih2 _ _ _ _ _ _ _ _
   | exact words_Name.mono _ _
   | exact LeO.none _
   | refine LeO.ite ?_ ?_
   | refine LeO.bind ?_ (fun _=>?_)
  ·intro y0 y1 y2 y3 y4 y5 y6 y7
   unfold suspend_Check.j2
   repeat' first
   | (with_reducible exact ih0 _ _ _ _)
   | (with_reducible exact ih1 _ _ _ _ _ _ _ _)
   | (with_reducible exact ih2 _ _ _ _ _ _ _ _)
   | (with_reducible exact words_Name.mono _ _)
   | (with_reducible exact LeO.refl _)
   | (with_reducible exact LeO.none _)
   | (with_reducible refine LeO.ite ?_ ?_)
   | (with_reducible refine LeO.bind ?_ (fun _=>?_))
   | exact ih0 _ _ _ _
   | exact ih1 _ _ _ _ _ _ _ _
   | exact ih2 _ _ _ _ _ _ _ _
   | exact words_Name.mono _ _
   | exact LeO.none _
   | refine LeO.ite ?_ ?_
   | refine LeO.bind ?_ (fun _=>?_)
theorem suspend_Check.mono:∀ a0 k,LeO (suspend_Check.f k a0) (suspend_Check.f (k + 1) a0):=by
 intro a0 k
 obtain ⟨ih0,ih1,ih2⟩:=suspend_Check.mono_l k
 unfold suspend_Check.f
 repeat' first
   | (with_reducible exact ih0 _ _ _ _)
   | (with_reducible exact ih1 _ _ _ _ _ _ _ _)
   | (with_reducible exact ih2 _ _ _ _ _ _ _ _)
   | (with_reducible exact words_Name.mono _ _)
   | (with_reducible exact LeO.refl _)
   | (with_reducible exact LeO.none _)
   | (with_reducible refine LeO.ite ?_ ?_)
   | (with_reducible refine LeO.bind ?_ (fun _=>?_))
   | exact ih0 _ _ _ _
   | exact ih1 _ _ _ _ _ _ _ _
   | exact ih2 _ _ _ _ _ _ _ _
   | exact words_Name.mono _ _
   | exact LeO.none _
   | refine LeO.ite ?_ ?_
   | refine LeO.bind ?_ (fun _=>?_)
set_option maxHeartbeats 8000000 in
set_option maxRecDepth 100000 in
theorem suspend_Check.calls (k:Nat) (A0:Option Addr) (c0:Nat) (l0:List (S37)) (r:Int) (w:World) (hr0:Kd.C k37 w A0 l0.length l0) (hc0:l0.length ≤ c0) (h:suspend_Check.f k l0 = some r) :
  Calls Try.prog 14 #[.slice A0 l0.length c0] w fun e w'=>e = .returned (.int .i64 r) ∧ Below w.heap.size w w':=by
 have hu37:=Try.underlying37
 have HR0:=Aside0.mk hr0
 have HC0:=Aside0.mk hc0
 clear hr0 hc0
 have HB:=Aside0.mk (Below.refl w.heap.size w)
 have H:(if (l0.length:Int) > 32 then (some 8) else (suspend_Check.l0 k l0 l0 (l0.length:Int) 0)) = some r:=h
 clear h
 by_cases c2:(l0.length:Int) > 32
 ·rw [if_pos c2] at H
  have c2b0:decide (32 < (l0.length:Int)) = true:=decide_eq_true c2
  have c2b1:decide (32 < l0.length) = true:=decide_eq_true (by omega)
  clear c2
  obtain rfl:=Option.some.inj H
  go_enter Try.func14,Try.ntmps14
  go_wp2
  repeat (go_quiet (fail);try go_wp2)
  go_ret
  exact ⟨by first|rfl|(simp [errW_none,errW_some] <;> rfl)|(simp [*,errW_none,errW_some] <;> rfl),by repeat (first|(with_reducible first|exact HB.out|apply below_alloc|apply pw_below_drewN|apply below_drew1)|exact HB.out)⟩
 ·rw [if_neg c2] at H
  have c2b0:decide (32 < (l0.length:Int)) = false:=decide_eq_false c2
  have c2b1:decide (32 < l0.length) = false:=decide_eq_false (by omega)
  clear c2
  have H':=Aside0.mk H
  clear H
  go_enter Try.func14,Try.ntmps14
  go_wp2
  repeat (go_quiet (fail);try go_wp2)
  go_loopg [10] k (fun kq v10 w'=>∃ (x10_1:Int),v10 = .int .i64 x10_1 ∧ Aside0 (suspend_Check.l0 kq l0 l0 (l0.length:Int) x10_1 = some r) ∧ Aside0 (kq ≤ k) ∧ Aside0 (Below w.heap.size w w'))
  case atStart=>exact ⟨(0),(by first|rfl|(simp;done)|(simp [*];done)),H',⟨Nat.le_refl _⟩,⟨by repeat (first|(with_reducible first|exact HB.out|apply below_alloc|apply pw_below_drewN|apply below_drew1)|exact HB.out)⟩⟩
  case round =>
   clear H'
   try clear c1
   try clear c2
   try clear c2b0
   try clear c2b1
   try clear p2
   obtain ⟨x10_1,rfl,HA,HK1,HB⟩:=hrel
   cases gk with
   | zero=>exact absurd HA.out (by simp [suspend_Check.l0])
   | succ k1 =>
    have H:=HA.out
    clear HA
    simp only [suspend_Check.l0] at H
    by_cases c3:x10_1 < (l0.length:Int)
    ·rw [if_pos c3] at H
     have c3b0:decide (x10_1 < (l0.length:Int)) = true:=decide_eq_true c3
     clear c3
     by_cases c4:0 ≤ x10_1
     ·rw [if_pos c4] at H
      have c4b0:decide (0 ≤ x10_1) = true:=decide_eq_true c4
      clear c4
      by_cases c5:x10_1 < (l0.length:Int)
      ·rw [if_pos c5] at H
       have c5b0:decide (x10_1 < (l0.length:Int)) = true:=decide_eq_true c5
       clear c5
       replace H:=Option.bind_eq_some_iff.mp H
       obtain ⟨t103,A60,H⟩:=H
       replace H:(if t103 = true then (if x10_1 > 0 then (if 0 ≤ (wrap64 (x10_1 - 1)) then (if (wrap64 (x10_1 - 1)) < (l0.length:Int) then (suspend_Check.j1 k1 l0 l0 (l0.length:Int) x10_1 (!(Op.bytesLess (((rd_T37 l0 (wrap64 (x10_1 - 1))).f0).toList) (((rd_T37 l0 x10_1).f0).toList))) ((rd_T37 l0 x10_1).f0) ((rd_T37 l0 x10_1).f1) ((rd_T37 l0 x10_1).f2)) else (none)) else (none)) else (suspend_Check.j1 k1 l0 l0 (l0.length:Int) x10_1 false ((rd_T37 l0 x10_1).f0) ((rd_T37 l0 x10_1).f1) ((rd_T37 l0 x10_1).f2))) else (some 10)) = some r:=H
       have A6:=Aside0.mk A60
       clear A60
       by_cases c7:t103 = true
       ·subst c7
        have H1:(if x10_1 > 0 then (if 0 ≤ (wrap64 (x10_1 - 1)) then (if (wrap64 (x10_1 - 1)) < (l0.length:Int) then (suspend_Check.j1 k1 l0 l0 (l0.length:Int) x10_1 (!(Op.bytesLess (((rd_T37 l0 (wrap64 (x10_1 - 1))).f0).toList) (((rd_T37 l0 x10_1).f0).toList))) ((rd_T37 l0 x10_1).f0) ((rd_T37 l0 x10_1).f1) ((rd_T37 l0 x10_1).f2)) else (none)) else (none)) else (suspend_Check.j1 k1 l0 l0 (l0.length:Int) x10_1 false ((rd_T37 l0 x10_1).f0) ((rd_T37 l0 x10_1).f1) ((rd_T37 l0 x10_1).f2))) = some r:=by rw [if_pos rfl] at H;exact H
        clear H
        have H:=H1
        clear H1
        have HC8:=Aside0.mk H
        clear H
        have p101:0 ≤ (x10_1:Int):=of_decide_eq_true (by first|(with_reducible assumption)|assumption)
        have q101:x10_1 < (l0.length:Int):=of_decide_eq_true (by first|(with_reducible assumption)|assumption)
        obtain ⟨ad101,e101,hx101_0,hx101_1,hx101_2⟩:=at_T37 HR0.out x10_1 p101 q101
        cases e101
        replace hx101_0:=(HB.out.cell (World.block_lt_of_cell? w _ hx101_0)).trans hx101_0
        replace hx101_1:=(HB.out.cell (World.block_lt_of_cell? w _ hx101_1)).trans hx101_1
        replace hx101_2:=(HB.out.cell (World.block_lt_of_cell? w _ hx101_2)).trans hx101_2
        replace p101:=eq_true p101
        replace q101:=eq_true q101
        go_upto_region 8 with (first|((with_reducible refine gate_dst (N:=4) rfl ?_);refine box_event ?hg (N:=4) ?hd (cs:=#[.string (⟨#[]⟩:ByteArray),.int .i64 0,.int .i64 0]) (t:=37) ?hr ?_;(case hd=>rfl);(case hg=>rfl);(case hr=>first|(go_simp;done)|(go_simp;rfl));intro gb102 hg w9 hbox hb;have n0_:=Aside0.mk (below_step (by repeat (first|(with_reducible first|exact HB.out|apply below_alloc|apply pw_below_drewN|apply below_drew1)|exact HB.out)) hb);have n1_:=Aside0.mk (hbox);have n2_:=Aside0.mk ((by rw [hg];exact (below_size (by repeat (first|(with_reducible first|exact HB.out|apply below_alloc|apply pw_below_drewN|apply below_drew1)|exact HB.out))):w.heap.size ≤ gb102));have n3_:=Aside0.mk ((by rw [hg];exact (below_size (by repeat (first|(with_reducible first|exact HB.out|apply below_alloc|apply pw_below_drewN|apply below_drew1)|exact HB.out))):w.heap.size ≤ gb102));clear HB;have HB:=n0_;have BK102:=n1_;have GW102:=n2_;have GE102:=n3_;clear n0_ n1_ n2_ n3_;clear hb hbox hg;have hcz10_0:w9.cell? ⟨gb102,0,none⟩ = some (.string (⟨#[]⟩:ByteArray)):=(blk_cell BK102.out 0).trans rfl;have hcz10_1:w9.cell? ⟨gb102,1,none⟩ = some (.int .i64 0):=(blk_cell BK102.out 1).trans rfl;have hcz10_2:w9.cell? ⟨gb102,2,none⟩ = some (.int .i64 0):=(blk_cell BK102.out 2).trans rfl;have hfz10_0:=blk_frozen BK102.out 0;have hfz10_1:=blk_frozen BK102.out 1;have hfz10_2:=blk_frozen BK102.out 2)|(go_at_call 26;(with_reducible refine (words_Name.calls k1 ((rd_T37 l0 x10_1).f0) true _ A6.out).mono ?_);rintro e w' ⟨rfl,⟨nd,rfl⟩⟩;(try first|exact ⟨rfl,_,World.drewN_drewN _ _ _⟩|exact ⟨rfl,_,Eq.trans (World.drewN_drewN _ _ _) (congrArg (World.drewN _) (Nat.add_assoc _ _ _))⟩)))
        repeat (go_quiet (first|((with_reducible refine gate_dst (N:=4) rfl ?_);refine box_event ?hg (N:=4) ?hd (cs:=#[.string (⟨#[]⟩:ByteArray),.int .i64 0,.int .i64 0]) (t:=37) ?hr ?_;(case hd=>rfl);(case hg=>rfl);(case hr=>first|(go_simp;done)|(go_simp;rfl));intro gb102 hg w9 hbox hb;have n0_:=Aside0.mk (below_step (by repeat (first|(with_reducible first|exact HB.out|apply below_alloc|apply pw_below_drewN|apply below_drew1)|exact HB.out)) hb);have n1_:=Aside0.mk (hbox);have n2_:=Aside0.mk ((by rw [hg];exact (below_size (by repeat (first|(with_reducible first|exact HB.out|apply below_alloc|apply pw_below_drewN|apply below_drew1)|exact HB.out))):w.heap.size ≤ gb102));have n3_:=Aside0.mk ((by rw [hg];exact (below_size (by repeat (first|(with_reducible first|exact HB.out|apply below_alloc|apply pw_below_drewN|apply below_drew1)|exact HB.out))):w.heap.size ≤ gb102));clear HB;have HB:=n0_;have BK102:=n1_;have GW102:=n2_;have GE102:=n3_;clear n0_ n1_ n2_ n3_;clear hb hbox hg;have hcz10_0:w9.cell? ⟨gb102,0,none⟩ = some (.string (⟨#[]⟩:ByteArray)):=(blk_cell BK102.out 0).trans rfl;have hcz10_1:w9.cell? ⟨gb102,1,none⟩ = some (.int .i64 0):=(blk_cell BK102.out 1).trans rfl;have hcz10_2:w9.cell? ⟨gb102,2,none⟩ = some (.int .i64 0):=(blk_cell BK102.out 2).trans rfl;have hfz10_0:=blk_frozen BK102.out 0;have hfz10_1:=blk_frozen BK102.out 1;have hfz10_2:=blk_frozen BK102.out 2)|(go_at_call 26;(with_reducible refine (words_Name.calls k1 ((rd_T37 l0 x10_1).f0) true _ A6.out).mono ?_);rintro e w' ⟨rfl,⟨nd,rfl⟩⟩;(try first|exact ⟨rfl,_,World.drewN_drewN _ _ _⟩|exact ⟨rfl,_,Eq.trans (World.drewN_drewN _ _ _) (congrArg (World.drewN _) (Nat.add_assoc _ _ _))⟩)));go_upto_region 8 with (first|((with_reducible refine gate_dst (N:=4) rfl ?_);refine box_event ?hg (N:=4) ?hd (cs:=#[.string (⟨#[]⟩:ByteArray),.int .i64 0,.int .i64 0]) (t:=37) ?hr ?_;(case hd=>rfl);(case hg=>rfl);(case hr=>first|(go_simp;done)|(go_simp;rfl));intro gb102 hg w9 hbox hb;have n0_:=Aside0.mk (below_step (by repeat (first|(with_reducible first|exact HB.out|apply below_alloc|apply pw_below_drewN|apply below_drew1)|exact HB.out)) hb);have n1_:=Aside0.mk (hbox);have n2_:=Aside0.mk ((by rw [hg];exact (below_size (by repeat (first|(with_reducible first|exact HB.out|apply below_alloc|apply pw_below_drewN|apply below_drew1)|exact HB.out))):w.heap.size ≤ gb102));have n3_:=Aside0.mk ((by rw [hg];exact (below_size (by repeat (first|(with_reducible first|exact HB.out|apply below_alloc|apply pw_below_drewN|apply below_drew1)|exact HB.out))):w.heap.size ≤ gb102));clear HB;have HB:=n0_;have BK102:=n1_;have GW102:=n2_;have GE102:=n3_;clear n0_ n1_ n2_ n3_;clear hb hbox hg;have hcz10_0:w9.cell? ⟨gb102,0,none⟩ = some (.string (⟨#[]⟩:ByteArray)):=(blk_cell BK102.out 0).trans rfl;have hcz10_1:w9.cell? ⟨gb102,1,none⟩ = some (.int .i64 0):=(blk_cell BK102.out 1).trans rfl;have hcz10_2:w9.cell? ⟨gb102,2,none⟩ = some (.int .i64 0):=(blk_cell BK102.out 2).trans rfl;have hfz10_0:=blk_frozen BK102.out 0;have hfz10_1:=blk_frozen BK102.out 1;have hfz10_2:=blk_frozen BK102.out 2)|(go_at_call 26;(with_reducible refine (words_Name.calls k1 ((rd_T37 l0 x10_1).f0) true _ A6.out).mono ?_);rintro e w' ⟨rfl,⟨nd,rfl⟩⟩;(try first|exact ⟨rfl,_,World.drewN_drewN _ _ _⟩|exact ⟨rfl,_,Eq.trans (World.drewN_drewN _ _ _) (congrArg (World.drewN _) (Nat.add_assoc _ _ _))⟩))))
        (try simp only [Act.put,List.setIfInBounds_toArray,List.set_cons_zero,List.set_cons_succ])
        go_cut [20] (fun v20 wc=>∃ (kq:Nat) (x20_7:Bool),v20 = .bool x20_7 ∧ Aside0 (suspend_Check.j1 kq l0 l0 (l0.length:Int) x10_1 x20_7 ((rd_T37 l0 x10_1).f0) ((rd_T37 l0 x10_1).f1) ((rd_T37 l0 x10_1).f2) = some r) ∧ Aside0 (kq ≤ k1) ∧ Aside0 (wc.heap[gb102]? = some (.cells #[.string ((rd_T37 l0 x10_1).f0),.int .i64 ((rd_T37 l0 x10_1).f1),.int .i64 ((rd_T37 l0 x10_1).f2)] 37 (0,0))) ∧ Aside0 (Below w.heap.size w wc))
        case first =>
         have H:=HC8.out
         clear HC8
         by_cases c11:x10_1 > 0
         ·rw [if_pos c11] at H
          have c11b0:decide (0 < x10_1) = true:=decide_eq_true c11
          clear c11
          (first|rw [c11b0]|(simp only [i64_w,i32_w];rw [c11b0])|skip)
          obtain ⟨ji12,hji12⟩:∃ j_:Int,(wrap64 (x10_1 - 1)) = j_:=⟨_,rfl⟩
          replace H:(if 0 ≤ (ji12) then (if (ji12) < (l0.length:Int) then (suspend_Check.j1 k1 l0 l0 (l0.length:Int) x10_1 (!(Op.bytesLess (((rd_T37 l0 (ji12)).f0).toList) (((rd_T37 l0 x10_1).f0).toList))) ((rd_T37 l0 x10_1).f0) ((rd_T37 l0 x10_1).f1) ((rd_T37 l0 x10_1).f2)) else (none)) else (none)) = some r:=by first|(rw [hji12] at H;exact H)|(simp only [hji12] at H ⊢;exact H)
          have hji12w:(IntKind.i64.wrap (x10_1 - 1)) = ji12:=(i64_w _).trans hji12
          by_cases c13:0 ≤ (ji12)
          ·rw [if_pos c13] at H
           have c13b0:decide (0 ≤ (ji12)) = true:=decide_eq_true c13
           clear c13
           by_cases c14:(ji12) < (l0.length:Int)
           ·rw [if_pos c14] at H
            have c14b0:decide ((ji12) < (l0.length:Int)) = true:=decide_eq_true c14
            clear c14
            have H':=Aside0.mk H
            clear H
            have hcz15_0:w9.cell? ⟨gb102,0,none⟩ = some (.string (⟨#[]⟩:ByteArray)):=(blk_cell BK102.out 0).trans rfl
            have hcz15_1:w9.cell? ⟨gb102,1,none⟩ = some (.int .i64 0):=(blk_cell BK102.out 1).trans rfl
            have hcz15_2:w9.cell? ⟨gb102,2,none⟩ = some (.int .i64 0):=(blk_cell BK102.out 2).trans rfl
            have hfz15_0:=blk_frozen BK102.out 0
            have hfz15_1:=blk_frozen BK102.out 1
            have hfz15_2:=blk_frozen BK102.out 2
            have p104:0 ≤ ((ji12):Int):=of_decide_eq_true (by first|(with_reducible assumption)|assumption)
            have q104:(ji12) < (l0.length:Int):=of_decide_eq_true (by first|(with_reducible assumption)|assumption)
            obtain ⟨ad104,e104,hx104_0,hx104_1,hx104_2⟩:=at_T37 HR0.out (ji12) p104 q104
            obtain rfl:ad101 = ad104:=(by injection e104)
            have hn104_0:ad101.block ≠ gb102:=Nat.ne_of_lt (Nat.lt_of_lt_of_le (by have:=World.block_lt_of_cell? _ _ hx104_0;first|rwa [add_block] at this|exact this) GW102.out)
            have hn104_1:ad101.block ≠ gb102:=Nat.ne_of_lt (Nat.lt_of_lt_of_le (by have:=World.block_lt_of_cell? _ _ hx104_0;first|rwa [add_block] at this|exact this) GW102.out)
            have hn104_2:ad101.block ≠ gb102:=Nat.ne_of_lt (Nat.lt_of_lt_of_le (by have:=World.block_lt_of_cell? _ _ hx104_0;first|rwa [add_block] at this|exact this) GW102.out)
            replace hx104_0:=(HB.out.cell (World.block_lt_of_cell? w _ hx104_0)).trans hx104_0
            replace hx104_1:=(HB.out.cell (World.block_lt_of_cell? w _ hx104_1)).trans hx104_1
            replace hx104_2:=(HB.out.cell (World.block_lt_of_cell? w _ hx104_2)).trans hx104_2
            replace hx104_0:=(cell_far (p:=⟨gb102,0,none⟩) (by first|(rw [add_block];exact hn104_0)|(show (Addr.add _ _).block ≠ _;rw [add_block];exact hn104_0)|exact hn104_0) (.string ((rd_T37 l0 x10_1).f0))).trans hx104_0
            replace hx104_1:=(cell_far (p:=⟨gb102,0,none⟩) (by first|(rw [add_block];exact hn104_0)|(show (Addr.add _ _).block ≠ _;rw [add_block];exact hn104_0)|exact hn104_0) (.string ((rd_T37 l0 x10_1).f0))).trans hx104_1
            replace hx104_2:=(cell_far (p:=⟨gb102,0,none⟩) (by first|(rw [add_block];exact hn104_0)|(show (Addr.add _ _).block ≠ _;rw [add_block];exact hn104_0)|exact hn104_0) (.string ((rd_T37 l0 x10_1).f0))).trans hx104_2
            replace hx104_0:=(cell_far (p:=⟨gb102,1,none⟩) (by first|(rw [add_block];exact hn104_1)|(show (Addr.add _ _).block ≠ _;rw [add_block];exact hn104_1)|exact hn104_1) (.int .i64 ((rd_T37 l0 x10_1).f1))).trans hx104_0
            replace hx104_1:=(cell_far (p:=⟨gb102,1,none⟩) (by first|(rw [add_block];exact hn104_1)|(show (Addr.add _ _).block ≠ _;rw [add_block];exact hn104_1)|exact hn104_1) (.int .i64 ((rd_T37 l0 x10_1).f1))).trans hx104_1
            replace hx104_2:=(cell_far (p:=⟨gb102,1,none⟩) (by first|(rw [add_block];exact hn104_1)|(show (Addr.add _ _).block ≠ _;rw [add_block];exact hn104_1)|exact hn104_1) (.int .i64 ((rd_T37 l0 x10_1).f1))).trans hx104_2
            replace hx104_0:=(cell_far (p:=⟨gb102,2,none⟩) (by first|(rw [add_block];exact hn104_2)|(show (Addr.add _ _).block ≠ _;rw [add_block];exact hn104_2)|exact hn104_2) (.int .i64 ((rd_T37 l0 x10_1).f2))).trans hx104_0
            replace hx104_1:=(cell_far (p:=⟨gb102,2,none⟩) (by first|(rw [add_block];exact hn104_2)|(show (Addr.add _ _).block ≠ _;rw [add_block];exact hn104_2)|exact hn104_2) (.int .i64 ((rd_T37 l0 x10_1).f2))).trans hx104_1
            replace hx104_2:=(cell_far (p:=⟨gb102,2,none⟩) (by first|(rw [add_block];exact hn104_2)|(show (Addr.add _ _).block ≠ _;rw [add_block];exact hn104_2)|exact hn104_2) (.int .i64 ((rd_T37 l0 x10_1).f2))).trans hx104_2
            (try have hy104_0:=fun (n_:Nat)=>(show (((((w9.drewN n_).setCell ⟨gb102,0,none⟩ (.string ((rd_T37 l0 x10_1).f0))).setCell ⟨gb102,1,none⟩ (.int .i64 ((rd_T37 l0 x10_1).f1))).setCell ⟨gb102,2,none⟩ (.int .i64 ((rd_T37 l0 x10_1).f2)))).cell? _ = some _ from hx104_0))
            (try have hy104_1:=fun (n_:Nat)=>(show (((((w9.drewN n_).setCell ⟨gb102,0,none⟩ (.string ((rd_T37 l0 x10_1).f0))).setCell ⟨gb102,1,none⟩ (.int .i64 ((rd_T37 l0 x10_1).f1))).setCell ⟨gb102,2,none⟩ (.int .i64 ((rd_T37 l0 x10_1).f2)))).cell? _ = some _ from hx104_1))
            (try have hy104_2:=fun (n_:Nat)=>(show (((((w9.drewN n_).setCell ⟨gb102,0,none⟩ (.string ((rd_T37 l0 x10_1).f0))).setCell ⟨gb102,1,none⟩ (.int .i64 ((rd_T37 l0 x10_1).f1))).setCell ⟨gb102,2,none⟩ (.int .i64 ((rd_T37 l0 x10_1).f2)))).cell? _ = some _ from hx104_2))
            clear hn104_0
            clear hn104_1
            clear hn104_2
            replace p104:=eq_true p104
            replace q104:=eq_true q104
            go_wp2
            repeat (go_quiet (fail);try go_wp2)
            go_meet
            case rel=>exact ⟨_,(!(Op.bytesLess (((rd_T37 l0 (ji12)).f0).toList) (((rd_T37 l0 x10_1).f0).toList))),(by first|rfl|(simp;done)|(simp only [← hji12] <;> (first|rfl|simp))|(simp [*];done)),H',⟨by have:=HK1.out;first|omega|exact Nat.le_refl _⟩,⟨by (with_reducible repeat (first|refine blk_drewN ?_ _|refine blk_drew ?_|refine blk_alloc ?_ _));refine blk_put (cs:=#[.string ((rd_T37 l0 x10_1).f0),.int .i64 ((rd_T37 l0 x10_1).f1),.int .i64 0]) ?_ 2 _ rfl;(with_reducible repeat (first|refine blk_drewN ?_ _|refine blk_drew ?_|refine blk_alloc ?_ _));refine blk_put (cs:=#[.string ((rd_T37 l0 x10_1).f0),.int .i64 0,.int .i64 0]) ?_ 1 _ rfl;(with_reducible repeat (first|refine blk_drewN ?_ _|refine blk_drew ?_|refine blk_alloc ?_ _));refine blk_put (cs:=#[.string (⟨#[]⟩:ByteArray),.int .i64 0,.int .i64 0]) ?_ 0 _ rfl;(with_reducible repeat (first|refine blk_drewN ?_ _|refine blk_drew ?_|refine blk_alloc ?_ _));exact BK102.out⟩,⟨by repeat (first|(with_reducible first|exact HB.out|apply below_alloc|apply pw_below_drewN|apply below_drew1|refine below_set ?_ GE102.out)|exact HB.out)⟩⟩
           ·rw [if_neg c14] at H
            exact absurd H (by simp)
          ·rw [if_neg c13] at H
           exact absurd H (by simp)
         ·rw [if_neg c11] at H
          have c11b0:decide (0 < x10_1) = false:=decide_eq_false c11
          clear c11
          (first|rw [c11b0]|(simp only [i64_w,i32_w];rw [c11b0])|skip)
          have H':=Aside0.mk H
          clear H
          go_wp2
          repeat (go_quiet (fail);try go_wp2)
          go_meet
          case rel=>exact ⟨_,(false),(by first|rfl|(simp;done)|(simp [*];done)),H',⟨by have:=HK1.out;first|omega|exact Nat.le_refl _⟩,⟨by (with_reducible repeat (first|refine blk_drewN ?_ _|refine blk_drew ?_|refine blk_alloc ?_ _));refine blk_put (cs:=#[.string ((rd_T37 l0 x10_1).f0),.int .i64 ((rd_T37 l0 x10_1).f1),.int .i64 0]) ?_ 2 _ rfl;(with_reducible repeat (first|refine blk_drewN ?_ _|refine blk_drew ?_|refine blk_alloc ?_ _));refine blk_put (cs:=#[.string ((rd_T37 l0 x10_1).f0),.int .i64 0,.int .i64 0]) ?_ 1 _ rfl;(with_reducible repeat (first|refine blk_drewN ?_ _|refine blk_drew ?_|refine blk_alloc ?_ _));refine blk_put (cs:=#[.string (⟨#[]⟩:ByteArray),.int .i64 0,.int .i64 0]) ?_ 0 _ rfl;(with_reducible repeat (first|refine blk_drewN ?_ _|refine blk_drew ?_|refine blk_alloc ?_ _));exact BK102.out⟩,⟨by repeat (first|(with_reducible first|exact HB.out|apply below_alloc|apply pw_below_drewN|apply below_drew1|refine below_set ?_ GE102.out)|exact HB.out)⟩⟩
        case rest =>
         clear HC8
         try clear c1
         try clear p1
         try clear q1
         try clear hx1
         try clear c2
         try clear c2b0
         try clear c2b1
         try clear p2
         try clear c3
         try clear c3b0
         try clear c4
         try clear c4b0
         try clear c5
         try clear c5b0
         try clear p6
         try clear c7
         try clear p10
         try clear q10
         try clear hx10
         try clear c11
         try clear c11b0
         try clear c13
         try clear c13b0
         try clear c14
         try clear c14b0
         try clear hcz10_0
         try clear hcz10_1
         try clear hcz10_2
         try clear hcz15_0
         try clear hcz15_1
         try clear hcz15_2
         try clear hfz10_0
         try clear hfz10_1
         try clear hfz10_2
         try clear hfz15_0
         try clear hfz15_1
         try clear hfz15_2
         try clear hx101_0
         try clear hx101_1
         try clear hx101_2
         try clear hx104_0
         try clear hx104_1
         try clear hx104_2
         try clear p101
         try clear p104
         try clear p2
         try clear q101
         try clear q104
         obtain ⟨kq,x20_7,rfl,HA,HJ7,BK102,HB⟩:=hcut
         cases kq with
         | zero=>exact absurd HA.out (by simp [suspend_Check.j1])
         | succ kj7 =>
          have H:=HA.out
          clear HA
          simp only [suspend_Check.j1] at H
          by_cases c16:x20_7 = true
          ·subst c16
           have H1:(some 12) = some r:=by rw [if_pos rfl] at H;exact H
           clear H
           have H:=H1
           clear H1
           obtain rfl:=Option.some.inj H
           go_wp2
           repeat (go_quiet (fail);try go_wp2)
           go_ret
           exact ⟨by first|rfl|(simp [errW_none,errW_some] <;> rfl)|(simp [*,errW_none,errW_some] <;> rfl),by repeat (first|(with_reducible first|exact HB.out|apply below_alloc|apply pw_below_drewN|apply below_drew1|refine below_set ?_ GE102.out)|exact HB.out)⟩
          ·replace c16:=Bool.eq_false_iff.mpr c16
           subst c16
           have H1:(if ((rd_T37 l0 x10_1).f1) < 1 then (suspend_Check.j2 kj7 l0 l0 (l0.length:Int) x10_1 true ((rd_T37 l0 x10_1).f0) ((rd_T37 l0 x10_1).f1) ((rd_T37 l0 x10_1).f2)) else (suspend_Check.j2 kj7 l0 l0 (l0.length:Int) x10_1 (decide (((rd_T37 l0 x10_1).f1) > 7)) ((rd_T37 l0 x10_1).f0) ((rd_T37 l0 x10_1).f1) ((rd_T37 l0 x10_1).f2))) = some r:=by rw [if_neg (show ¬ (false = true) by decide)] at H;exact H
           clear H
           have H:=H1
           clear H1
           have HC17:=Aside0.mk H
           clear H
           go_upto_region 10 with (fail)
           repeat (go_quiet (fail);go_upto_region 10 with (fail))
           go_cut [34] (fun v34 wc=>∃ (kq:Nat) (x34_16:Bool),v34 = .bool x34_16 ∧ Aside0 (suspend_Check.j2 kq l0 l0 (l0.length:Int) x10_1 x34_16 ((rd_T37 l0 x10_1).f0) ((rd_T37 l0 x10_1).f1) ((rd_T37 l0 x10_1).f2) = some r) ∧ Aside0 (kq ≤ kj7) ∧ Aside0 (wc.heap[gb102]? = some (.cells #[.string ((rd_T37 l0 x10_1).f0),.int .i64 ((rd_T37 l0 x10_1).f1),.int .i64 ((rd_T37 l0 x10_1).f2)] 37 (0,0))) ∧ Aside0 (Below w.heap.size w wc))
           case first =>
            have H:=HC17.out
            clear HC17
            by_cases c18:((rd_T37 l0 x10_1).f1) < 1
            ·rw [if_pos c18] at H
             have c18b0:decide (((rd_T37 l0 x10_1).f1) < 1) = true:=decide_eq_true c18
             clear c18
             (first|rw [c18b0]|(simp only [i64_w,i32_w];rw [c18b0])|skip)
             have H':=Aside0.mk H
             clear H
             have hcz19_0:wc.cell? ⟨gb102,0,none⟩ = some (.string ((rd_T37 l0 x10_1).f0)):=(blk_cell BK102.out 0).trans rfl
             have hcz19_1:wc.cell? ⟨gb102,1,none⟩ = some (.int .i64 ((rd_T37 l0 x10_1).f1)):=(blk_cell BK102.out 1).trans rfl
             have hcz19_2:wc.cell? ⟨gb102,2,none⟩ = some (.int .i64 ((rd_T37 l0 x10_1).f2)):=(blk_cell BK102.out 2).trans rfl
             have hfz19_0:=blk_frozen BK102.out 0
             have hfz19_1:=blk_frozen BK102.out 1
             have hfz19_2:=blk_frozen BK102.out 2
             go_wp2
             repeat (go_quiet (fail);try go_wp2)
             go_meet
             case rel=>exact ⟨_,(true),(by first|rfl|(simp;done)|(simp [*];done)),H',⟨by have:=HK1.out;have:=HJ7.out;first|omega|exact Nat.le_refl _⟩,⟨by (with_reducible repeat (first|refine blk_drewN ?_ _|refine blk_drew ?_|refine blk_alloc ?_ _));exact BK102.out⟩,⟨by repeat (first|(with_reducible first|exact HB.out|apply below_alloc|apply pw_below_drewN|apply below_drew1|refine below_set ?_ GE102.out)|exact HB.out)⟩⟩
            ·rw [if_neg c18] at H
             have c18b0:decide (((rd_T37 l0 x10_1).f1) < 1) = false:=decide_eq_false c18
             clear c18
             (first|rw [c18b0]|(simp only [i64_w,i32_w];rw [c18b0])|skip)
             have H':=Aside0.mk H
             clear H
             have hcz20_0:wc.cell? ⟨gb102,0,none⟩ = some (.string ((rd_T37 l0 x10_1).f0)):=(blk_cell BK102.out 0).trans rfl
             have hcz20_1:wc.cell? ⟨gb102,1,none⟩ = some (.int .i64 ((rd_T37 l0 x10_1).f1)):=(blk_cell BK102.out 1).trans rfl
             have hcz20_2:wc.cell? ⟨gb102,2,none⟩ = some (.int .i64 ((rd_T37 l0 x10_1).f2)):=(blk_cell BK102.out 2).trans rfl
             have hfz20_0:=blk_frozen BK102.out 0
             have hfz20_1:=blk_frozen BK102.out 1
             have hfz20_2:=blk_frozen BK102.out 2
             go_wp2
             repeat (go_quiet (fail);try go_wp2)
             go_meet
             case rel=>exact ⟨_,(decide (((rd_T37 l0 x10_1).f1) > 7)),(by first|rfl|(simp;done)|(simp [*];done)),H',⟨by have:=HK1.out;have:=HJ7.out;first|omega|exact Nat.le_refl _⟩,⟨by (with_reducible repeat (first|refine blk_drewN ?_ _|refine blk_drew ?_|refine blk_alloc ?_ _));exact BK102.out⟩,⟨by repeat (first|(with_reducible first|exact HB.out|apply below_alloc|apply pw_below_drewN|apply below_drew1|refine below_set ?_ GE102.out)|exact HB.out)⟩⟩
           case rest =>
            clear HC17
            try clear c1
            try clear p1
            try clear q1
            try clear hx1
            try clear c2
            try clear c2b0
            try clear c2b1
            try clear p2
            try clear c3
            try clear c3b0
            try clear c4
            try clear c4b0
            try clear c5
            try clear c5b0
            try clear p6
            try clear c7
            try clear p10
            try clear q10
            try clear hx10
            try clear c11
            try clear c11b0
            try clear c13
            try clear c13b0
            try clear c14
            try clear c14b0
            try clear c16
            try clear c18
            try clear c18b0
            try clear hcz10_0
            try clear hcz10_1
            try clear hcz10_2
            try clear hcz15_0
            try clear hcz15_1
            try clear hcz15_2
            try clear hcz19_0
            try clear hcz19_1
            try clear hcz19_2
            try clear hcz20_0
            try clear hcz20_1
            try clear hcz20_2
            try clear hfz10_0
            try clear hfz10_1
            try clear hfz10_2
            try clear hfz15_0
            try clear hfz15_1
            try clear hfz15_2
            try clear hfz19_0
            try clear hfz19_1
            try clear hfz19_2
            try clear hfz20_0
            try clear hfz20_1
            try clear hfz20_2
            try clear hx101_0
            try clear hx101_1
            try clear hx101_2
            try clear hx104_0
            try clear hx104_1
            try clear hx104_2
            try clear p1
            try clear p10
            try clear p101
            try clear p104
            try clear p2
            try clear p6
            try clear q1
            try clear q10
            try clear q101
            try clear q104
            obtain ⟨kq,x34_16,rfl,HA,HJ16,BK102,HB⟩:=hcut
            cases kq with
            | zero=>exact absurd HA.out (by simp [suspend_Check.j2])
            | succ kj16 =>
             have H:=HA.out
             clear HA
             simp only [suspend_Check.j2] at H
             by_cases c21:x34_16 = true
             ·subst c21
              have H1:(some 13) = some r:=by rw [if_pos rfl] at H;exact H
              clear H
              have H:=H1
              clear H1
              obtain rfl:=Option.some.inj H
              go_wp2
              repeat (go_quiet (fail);try go_wp2)
              go_ret
              exact ⟨by first|rfl|(simp [errW_none,errW_some] <;> rfl)|(simp [*,errW_none,errW_some] <;> rfl),by repeat (first|(with_reducible first|exact HB.out|apply below_alloc|apply pw_below_drewN|apply below_drew1|refine below_set ?_ GE102.out)|exact HB.out)⟩
             ·replace c21:=Bool.eq_false_iff.mpr c21
              subst c21
              have H1:((suspend_day.f ((rd_T37 l0 x10_1).f2)).bind fun t105=>(if t105 = true then (suspend_Check.l0 kj16 l0 l0 (l0.length:Int) (wrap64 (x10_1 + 1))) else (some 15))) = some r:=by rw [if_neg (show ¬ (false = true) by decide)] at H;exact H
              clear H
              have H:=H1
              clear H1
              replace H:=Option.bind_eq_some_iff.mp H
              obtain ⟨t105,A220,H⟩:=H
              replace H:(if t105 = true then (suspend_Check.l0 kj16 l0 l0 (l0.length:Int) (wrap64 (x10_1 + 1))) else (some 15)) = some r:=H
              have A22:=Aside0.mk A220
              clear A220
              by_cases c23:t105 = true
              ·subst c23
               have H1:(suspend_Check.l0 kj16 l0 l0 (l0.length:Int) (wrap64 (x10_1 + 1))) = some r:=by rw [if_pos rfl] at H;exact H
               clear H
               have H:=H1
               clear H1
               have H':=Aside0.mk H
               clear H
               have hcz24_0:wc.cell? ⟨gb102,0,none⟩ = some (.string ((rd_T37 l0 x10_1).f0)):=(blk_cell BK102.out 0).trans rfl
               have hcz24_1:wc.cell? ⟨gb102,1,none⟩ = some (.int .i64 ((rd_T37 l0 x10_1).f1)):=(blk_cell BK102.out 1).trans rfl
               have hcz24_2:wc.cell? ⟨gb102,2,none⟩ = some (.int .i64 ((rd_T37 l0 x10_1).f2)):=(blk_cell BK102.out 2).trans rfl
               have hfz24_0:=blk_frozen BK102.out 0
               have hfz24_1:=blk_frozen BK102.out 1
               have hfz24_2:=blk_frozen BK102.out 2
               go_wp2_with (first|(go_at_call 27;(with_reducible refine (suspend_day.calls ((rd_T37 l0 x10_1).f2) true _ A22.out).mono ?_);rintro e w' ⟨rfl,⟨nd,rfl⟩⟩;(try first|exact ⟨rfl,_,World.drewN_drewN _ _ _⟩|exact ⟨rfl,_,Eq.trans (World.drewN_drewN _ _ _) (congrArg (World.drewN _) (Nat.add_assoc _ _ _))⟩)))
               repeat (go_quiet (first|(go_at_call 27;(with_reducible refine (suspend_day.calls ((rd_T37 l0 x10_1).f2) true _ A22.out).mono ?_);rintro e w' ⟨rfl,⟨nd,rfl⟩⟩;(try first|exact ⟨rfl,_,World.drewN_drewN _ _ _⟩|exact ⟨rfl,_,Eq.trans (World.drewN_drewN _ _ _) (congrArg (World.drewN _) (Nat.add_assoc _ _ _))⟩)));try go_wp2_with (first|(go_at_call 27;(with_reducible refine (suspend_day.calls ((rd_T37 l0 x10_1).f2) true _ A22.out).mono ?_);rintro e w' ⟨rfl,⟨nd,rfl⟩⟩;(try first|exact ⟨rfl,_,World.drewN_drewN _ _ _⟩|exact ⟨rfl,_,Eq.trans (World.drewN_drewN _ _ _) (congrArg (World.drewN _) (Nat.add_assoc _ _ _))⟩))))
               go_roundg kj16
               case measure=>have:=HK1.out;have:=HJ7.out;have:=HJ16.out;omega
               case rel=>exact ⟨(wrap64 (x10_1 + 1)),(by first|rfl|(simp;done)|(simp [*];done)),H',⟨by have:=HK1.out;have:=HJ7.out;have:=HJ16.out;omega⟩,⟨by repeat (first|(with_reducible first|exact HB.out|apply below_alloc|apply pw_below_drewN|apply below_drew1|refine below_set ?_ GE102.out)|exact HB.out)⟩⟩
              ·replace c23:=Bool.eq_false_iff.mpr c23
               subst c23
               have H1:(some 15) = some r:=by rw [if_neg (show ¬ (false = true) by decide)] at H;exact H
               clear H
               have H:=H1
               clear H1
               obtain rfl:=Option.some.inj H
               have hcz25_0:wc.cell? ⟨gb102,0,none⟩ = some (.string ((rd_T37 l0 x10_1).f0)):=(blk_cell BK102.out 0).trans rfl
               have hcz25_1:wc.cell? ⟨gb102,1,none⟩ = some (.int .i64 ((rd_T37 l0 x10_1).f1)):=(blk_cell BK102.out 1).trans rfl
               have hcz25_2:wc.cell? ⟨gb102,2,none⟩ = some (.int .i64 ((rd_T37 l0 x10_1).f2)):=(blk_cell BK102.out 2).trans rfl
               have hfz25_0:=blk_frozen BK102.out 0
               have hfz25_1:=blk_frozen BK102.out 1
               have hfz25_2:=blk_frozen BK102.out 2
               go_wp2_with (first|(go_at_call 27;(with_reducible refine (suspend_day.calls ((rd_T37 l0 x10_1).f2) false _ A22.out).mono ?_);rintro e w' ⟨rfl,⟨nd,rfl⟩⟩;(try first|exact ⟨rfl,_,World.drewN_drewN _ _ _⟩|exact ⟨rfl,_,Eq.trans (World.drewN_drewN _ _ _) (congrArg (World.drewN _) (Nat.add_assoc _ _ _))⟩)))
               repeat (go_quiet (first|(go_at_call 27;(with_reducible refine (suspend_day.calls ((rd_T37 l0 x10_1).f2) false _ A22.out).mono ?_);rintro e w' ⟨rfl,⟨nd,rfl⟩⟩;(try first|exact ⟨rfl,_,World.drewN_drewN _ _ _⟩|exact ⟨rfl,_,Eq.trans (World.drewN_drewN _ _ _) (congrArg (World.drewN _) (Nat.add_assoc _ _ _))⟩)));try go_wp2_with (first|(go_at_call 27;(with_reducible refine (suspend_day.calls ((rd_T37 l0 x10_1).f2) false _ A22.out).mono ?_);rintro e w' ⟨rfl,⟨nd,rfl⟩⟩;(try first|exact ⟨rfl,_,World.drewN_drewN _ _ _⟩|exact ⟨rfl,_,Eq.trans (World.drewN_drewN _ _ _) (congrArg (World.drewN _) (Nat.add_assoc _ _ _))⟩))))
               go_ret
               exact ⟨by first|rfl|(simp [errW_none,errW_some] <;> rfl)|(simp [*,errW_none,errW_some] <;> rfl),by repeat (first|(with_reducible first|exact HB.out|apply below_alloc|apply pw_below_drewN|apply below_drew1|refine below_set ?_ GE102.out)|exact HB.out)⟩
       ·replace c7:=Bool.eq_false_iff.mpr c7
        subst c7
        have H1:(some 10) = some r:=by rw [if_neg (show ¬ (false = true) by decide)] at H;exact H
        clear H
        have H:=H1
        clear H1
        obtain rfl:=Option.some.inj H
        have p101:0 ≤ (x10_1:Int):=of_decide_eq_true (by first|(with_reducible assumption)|assumption)
        have q101:x10_1 < (l0.length:Int):=of_decide_eq_true (by first|(with_reducible assumption)|assumption)
        obtain ⟨ad101,e101,hx101_0,hx101_1,hx101_2⟩:=at_T37 HR0.out x10_1 p101 q101
        cases e101
        replace hx101_0:=(HB.out.cell (World.block_lt_of_cell? w _ hx101_0)).trans hx101_0
        replace hx101_1:=(HB.out.cell (World.block_lt_of_cell? w _ hx101_1)).trans hx101_1
        replace hx101_2:=(HB.out.cell (World.block_lt_of_cell? w _ hx101_2)).trans hx101_2
        replace p101:=eq_true p101
        replace q101:=eq_true q101
        go_wp2_with (first|((with_reducible refine gate_dst (N:=4) rfl ?_);refine box_event ?hg (N:=4) ?hd (cs:=#[.string (⟨#[]⟩:ByteArray),.int .i64 0,.int .i64 0]) (t:=37) ?hr ?_;(case hd=>rfl);(case hg=>rfl);(case hr=>first|(go_simp;done)|(go_simp;rfl));intro gb102 hg w26 hbox hb;have n0_:=Aside0.mk (below_step (by repeat (first|(with_reducible first|exact HB.out|apply below_alloc|apply pw_below_drewN|apply below_drew1)|exact HB.out)) hb);have n1_:=Aside0.mk (hbox);have n2_:=Aside0.mk ((by rw [hg];exact (below_size (by repeat (first|(with_reducible first|exact HB.out|apply below_alloc|apply pw_below_drewN|apply below_drew1)|exact HB.out))):w.heap.size ≤ gb102));have n3_:=Aside0.mk ((by rw [hg];exact (below_size (by repeat (first|(with_reducible first|exact HB.out|apply below_alloc|apply pw_below_drewN|apply below_drew1)|exact HB.out))):w.heap.size ≤ gb102));clear HB;have HB:=n0_;have BK102:=n1_;have GW102:=n2_;have GE102:=n3_;clear n0_ n1_ n2_ n3_;clear hb hbox hg;have hcz27_0:w26.cell? ⟨gb102,0,none⟩ = some (.string (⟨#[]⟩:ByteArray)):=(blk_cell BK102.out 0).trans rfl;have hcz27_1:w26.cell? ⟨gb102,1,none⟩ = some (.int .i64 0):=(blk_cell BK102.out 1).trans rfl;have hcz27_2:w26.cell? ⟨gb102,2,none⟩ = some (.int .i64 0):=(blk_cell BK102.out 2).trans rfl;have hfz27_0:=blk_frozen BK102.out 0;have hfz27_1:=blk_frozen BK102.out 1;have hfz27_2:=blk_frozen BK102.out 2)|(go_at_call 26;(with_reducible refine (words_Name.calls k1 ((rd_T37 l0 x10_1).f0) false _ A6.out).mono ?_);rintro e w' ⟨rfl,⟨nd,rfl⟩⟩;(try first|exact ⟨rfl,_,World.drewN_drewN _ _ _⟩|exact ⟨rfl,_,Eq.trans (World.drewN_drewN _ _ _) (congrArg (World.drewN _) (Nat.add_assoc _ _ _))⟩)))
        repeat (go_quiet (first|((with_reducible refine gate_dst (N:=4) rfl ?_);refine box_event ?hg (N:=4) ?hd (cs:=#[.string (⟨#[]⟩:ByteArray),.int .i64 0,.int .i64 0]) (t:=37) ?hr ?_;(case hd=>rfl);(case hg=>rfl);(case hr=>first|(go_simp;done)|(go_simp;rfl));intro gb102 hg w26 hbox hb;have n0_:=Aside0.mk (below_step (by repeat (first|(with_reducible first|exact HB.out|apply below_alloc|apply pw_below_drewN|apply below_drew1)|exact HB.out)) hb);have n1_:=Aside0.mk (hbox);have n2_:=Aside0.mk ((by rw [hg];exact (below_size (by repeat (first|(with_reducible first|exact HB.out|apply below_alloc|apply pw_below_drewN|apply below_drew1)|exact HB.out))):w.heap.size ≤ gb102));have n3_:=Aside0.mk ((by rw [hg];exact (below_size (by repeat (first|(with_reducible first|exact HB.out|apply below_alloc|apply pw_below_drewN|apply below_drew1)|exact HB.out))):w.heap.size ≤ gb102));clear HB;have HB:=n0_;have BK102:=n1_;have GW102:=n2_;have GE102:=n3_;clear n0_ n1_ n2_ n3_;clear hb hbox hg;have hcz27_0:w26.cell? ⟨gb102,0,none⟩ = some (.string (⟨#[]⟩:ByteArray)):=(blk_cell BK102.out 0).trans rfl;have hcz27_1:w26.cell? ⟨gb102,1,none⟩ = some (.int .i64 0):=(blk_cell BK102.out 1).trans rfl;have hcz27_2:w26.cell? ⟨gb102,2,none⟩ = some (.int .i64 0):=(blk_cell BK102.out 2).trans rfl;have hfz27_0:=blk_frozen BK102.out 0;have hfz27_1:=blk_frozen BK102.out 1;have hfz27_2:=blk_frozen BK102.out 2)|(go_at_call 26;(with_reducible refine (words_Name.calls k1 ((rd_T37 l0 x10_1).f0) false _ A6.out).mono ?_);rintro e w' ⟨rfl,⟨nd,rfl⟩⟩;(try first|exact ⟨rfl,_,World.drewN_drewN _ _ _⟩|exact ⟨rfl,_,Eq.trans (World.drewN_drewN _ _ _) (congrArg (World.drewN _) (Nat.add_assoc _ _ _))⟩)));try go_wp2_with (first|((with_reducible refine gate_dst (N:=4) rfl ?_);refine box_event ?hg (N:=4) ?hd (cs:=#[.string (⟨#[]⟩:ByteArray),.int .i64 0,.int .i64 0]) (t:=37) ?hr ?_;(case hd=>rfl);(case hg=>rfl);(case hr=>first|(go_simp;done)|(go_simp;rfl));intro gb102 hg w26 hbox hb;have n0_:=Aside0.mk (below_step (by repeat (first|(with_reducible first|exact HB.out|apply below_alloc|apply pw_below_drewN|apply below_drew1)|exact HB.out)) hb);have n1_:=Aside0.mk (hbox);have n2_:=Aside0.mk ((by rw [hg];exact (below_size (by repeat (first|(with_reducible first|exact HB.out|apply below_alloc|apply pw_below_drewN|apply below_drew1)|exact HB.out))):w.heap.size ≤ gb102));have n3_:=Aside0.mk ((by rw [hg];exact (below_size (by repeat (first|(with_reducible first|exact HB.out|apply below_alloc|apply pw_below_drewN|apply below_drew1)|exact HB.out))):w.heap.size ≤ gb102));clear HB;have HB:=n0_;have BK102:=n1_;have GW102:=n2_;have GE102:=n3_;clear n0_ n1_ n2_ n3_;clear hb hbox hg;have hcz27_0:w26.cell? ⟨gb102,0,none⟩ = some (.string (⟨#[]⟩:ByteArray)):=(blk_cell BK102.out 0).trans rfl;have hcz27_1:w26.cell? ⟨gb102,1,none⟩ = some (.int .i64 0):=(blk_cell BK102.out 1).trans rfl;have hcz27_2:w26.cell? ⟨gb102,2,none⟩ = some (.int .i64 0):=(blk_cell BK102.out 2).trans rfl;have hfz27_0:=blk_frozen BK102.out 0;have hfz27_1:=blk_frozen BK102.out 1;have hfz27_2:=blk_frozen BK102.out 2)|(go_at_call 26;(with_reducible refine (words_Name.calls k1 ((rd_T37 l0 x10_1).f0) false _ A6.out).mono ?_);rintro e w' ⟨rfl,⟨nd,rfl⟩⟩;(try first|exact ⟨rfl,_,World.drewN_drewN _ _ _⟩|exact ⟨rfl,_,Eq.trans (World.drewN_drewN _ _ _) (congrArg (World.drewN _) (Nat.add_assoc _ _ _))⟩))))
        go_ret
        exact ⟨by first|rfl|(simp [errW_none,errW_some] <;> rfl)|(simp [*,errW_none,errW_some] <;> rfl),by repeat (first|(with_reducible first|exact HB.out|apply below_alloc|apply pw_below_drewN|apply below_drew1|refine below_set ?_ GE102.out)|exact HB.out)⟩
      ·rw [if_neg c5] at H
       exact absurd H (by simp)
     ·rw [if_neg c4] at H
      exact absurd H (by simp)
    ·rw [if_neg c3] at H
     have c3b0:decide (x10_1 < (l0.length:Int)) = false:=decide_eq_false c3
     clear c3
     obtain rfl:=Option.some.inj H
     go_wp2
     repeat (go_quiet (fail);try go_wp2)
     go_ret
     exact ⟨by first|rfl|(simp [errW_none,errW_some] <;> rfl)|(simp [*,errW_none,errW_some] <;> rfl),by repeat (first|(with_reducible first|exact HB.out|apply below_alloc|apply pw_below_drewN|apply below_drew1)|exact HB.out)⟩
end Go.Proofs.Ytgmelgkcoejknaa.X
end
section
namespace Go.Proofs.Ytgmelgkcoejknaa.X
open Go.RowKit Go.Proofs.YtgmelgkcoejknaaW.PrintWords Go.Proofs.YtgmelgkcoejknaaW.PrintLast Go.Proofs.YtgmelgkcoejknaaW.PrintMore
attribute [local go_sem] max2_int min2_int max_two min_two max_three min_three max_four min_four
set_option linter.unusedVariables false
set_option linter.unusedSimpArgs false
def cmpN (a b:ByteArray):Int:=Lib.compareBytes a.data.toList b.data.toList
set_option maxHeartbeats 1600000 in
set_option maxRecDepth 100000 in
theorem str_cmp0 (a b:ByteArray) (w:World):Calls Try.prog 37 #[.string a,.string b] w fun e w'=>e = .returned (.int .i64 (cmpN a b)) ∧ w' = w:=by
 go_enter Try.func37,Try.ntmps37
 go_wp2
 rw [run_callFunc_extern Try.func39 (by kernel_rfl) (by kernel_rfl) (by kernel_rfl) (e:=Extern.BytealgCompare.compare) (by kernel_rfl),Lib.run_compareString]
 simp only [Result.andThen]
 rw [Oper.upon_value]
 go_wp2
 go_ret
 exact ⟨rfl,rfl⟩
theorem str_cmp (a b:ByteArray) (w:World):Calls Try.prog 32 #[.string a,.string b] w fun e w'=>e = .returned (.int .i64 (cmpN a b)) ∧ w' = w:=by
 go_enter Try.func32,Try.ntmps32
 go_wp2_with (go_at_call 37;refine (str_cmp0 _ _ _).mono ?_;rintro e w' ⟨rfl,rfl⟩)
 go_ret
 exact ⟨rfl,rfl⟩
theorem place_lit (c:S37) (m:ByteArray) (w:World):Calls Try.prog 31 #[.agg #[.string c.f0,.int .i64 c.f1,.int .i64 c.f2],.string m] w fun e w'=>e = .returned (.int .i64 (cmpN c.f0 m)) ∧ Below w.heap.size w w':=by
 go_enter Try.func31,Try.ntmps31
 go_wp2_with (go_at_call 32;refine (str_cmp _ _ _).mono ?_;rintro e w' ⟨rfl,rfl⟩)
 go_ret
 exact ⟨rfl,(Below.refl _ _).alloc (Nat.le_refl _) _⟩
def bsAt (l:List S37) (m:ByteArray):Nat → Nat → Nat → Nat
 | 0,lo,_=>lo
 | k + 1,lo,hi=>if lo < hi then (if cmpN (rd_T37 l (((lo + hi) / 2:Nat):Int)).f0 m < 0 then bsAt l m k ((lo + hi) / 2 + 1) hi else bsAt l m k lo ((lo + hi) / 2)) else lo
def placeAt (l:List S37) (m:ByteArray):Nat:=bsAt l m l.length 0 l.length
def placeIs (l:List S37) (m:ByteArray):Bool:=decide (placeAt l m < l.length) && (cmpN (rd_T37 l (placeAt l m:Int)).f0 m == 0)
theorem bsAt_le (l:List S37) (m:ByteArray):∀ (k lo hi:Nat),lo ≤ hi → lo ≤ bsAt l m k lo hi ∧ bsAt l m k lo hi ≤ hi
 | 0,lo,hi,h=>⟨Nat.le_refl _,h⟩
 | k + 1,lo,hi,h=>by
  unfold bsAt
  by_cases c:lo < hi
  ·rw [if_pos c]
   by_cases c2:cmpN (rd_T37 l (((lo + hi) / 2:Nat):Int)).f0 m < 0
   ·rw [if_pos c2]
    have:=bsAt_le l m k ((lo + hi) / 2 + 1) hi (by omega)
    omega
   ·rw [if_neg c2]
    have:=bsAt_le l m k lo ((lo + hi) / 2) (by omega)
    omega
  ·rw [if_neg c];omega
set_option maxHeartbeats 1600000 in
set_option maxRecDepth 100000 in
theorem bs_calls (A0:Option Addr) (c0:Nat) (l0:List S37) (m:ByteArray) (w:World) (hr0:Kd.C k37 w A0 l0.length l0) (hl2:l0.length ≤ 4611686018427387903) :
  Calls Try.prog 30 #[.slice A0 l0.length c0,.string m,.func (.func 31) #[] #[]] w fun e w'=>e = .returned (.tuple #[.int .i64 (placeAt l0 m:Int),.bool (placeIs l0 m)]) ∧ Below w.heap.size w w':=by
 have HR:=Aside0.mk hr0
 have hlen:=(show l0.length ≤ 9223372036854775807 from Kd.C_max hr0)
 clear hr0
 go_enter Try.func30,Try.ntmps30
 go_wp2_with fail
 go_loopg [9,10] l0.length (fun kq v9 v10 wr=>∃ lo hi:Nat,v9 = .int .i64 (lo:Int) ∧ v10 = .int .i64 (hi:Int) ∧ Aside0 (lo ≤ hi ∧ hi ≤ l0.length ∧ hi - lo ≤ kq) ∧ Aside0 (bsAt l0 m kq lo hi = placeAt l0 m) ∧ Aside0 (Below w.heap.size w wr))
 case atStart=>exact ⟨0,l0.length,rfl,rfl,⟨by omega,by omega,by omega⟩,⟨rfl⟩,⟨Below.refl _ _⟩⟩
 case round =>
  obtain ⟨lo,hi,rfl,rfl,HI,HG,HB2⟩:=hrel
  obtain ⟨i1,i2,i3⟩:=HI.out
  by_cases hlt:lo < hi
  ·obtain ⟨ad,ea,hx0,hx1,hx2⟩:=at_T37 HR.out (((lo + hi) / 2:Nat):Int) (by omega) (by omega)
   cases ea
   replace hx0:=(HB2.out.cell (World.block_lt_of_cell? w _ hx0)).trans hx0
   replace hx1:=(HB2.out.cell (World.block_lt_of_cell? w _ hx1)).trans hx1
   replace hx2:=(HB2.out.cell (World.block_lt_of_cell? w _ hx2)).trans hx2
   obtain ⟨mid,hm⟩:∃ mid,(lo + hi) / 2 = mid:=⟨_,rfl⟩
   have hmw:wrap64 ((IntKind.u64.wrap (wrap64 ((lo:Int) + (hi:Int)))) / 2) = (mid:Int):=by
    simp only [IntKind.wrap,IntKind.signed,IntKind.bits,wrap64]
    simp
    omega
   have hlo:mid < l0.length:=by omega
   rw [hm,Int.toNat_natCast] at hx0 hx1 hx2
   obtain ⟨t,ht⟩:∃ t,rd_T37 l0 (mid:Int) = t:=⟨_,rfl⟩
   rw [ht] at hx0 hx1 hx2
   obtain ⟨k',rfl⟩:∃ k',gk = k' + 1:=⟨gk - 1,by omega⟩
   have hg:=HG.out
   rw [bsAt,if_pos hlt,hm,ht] at hg
   have hlm:lo ≤ mid:=by omega
   have hmh:mid < hi:=by omega
   clear hmw ht
   by_cases c:cmpN t.f0 m < 0
   ·rw [if_pos c] at hg
    have HG2:=Aside0.mk hg
    clear hg
    go_wp2_with (go_at_call 31;refine (place_lit _ _ _).mono ?_;rintro e w1 ⟨rfl,hb1⟩;have HB3:=Aside0.mk (below_step HB2.out hb1);clear hb1)
    go_roundg k'
    case measure=>omega
    case rel=>exact ⟨mid + 1,hi,by go_num,rfl,⟨by omega,by omega,by omega⟩,HG2,HB3⟩
   ·rw [if_neg c] at hg
    have HG2:=Aside0.mk hg
    clear hg
    go_wp2_with (go_at_call 31;refine (place_lit _ _ _).mono ?_;rintro e w1 ⟨rfl,hb1⟩;have HB3:=Aside0.mk (below_step HB2.out hb1);clear hb1)
    go_roundg k'
    case measure=>omega
    case rel=>exact ⟨lo,mid,rfl,by go_num,⟨by omega,by omega,by omega⟩,HG2,HB3⟩
  ·have hat:placeAt l0 m = lo:=by
    have hg:=HG.out
    cases gk with
    | zero=>rw [← hg];rfl
    | succ k'=>rw [bsAt,if_neg hlt] at hg;exact hg.symm
   have hAT:=Aside0.mk hat
   clear hat
   by_cases hle:lo < l0.length
   ·obtain ⟨ad,ea,hx0,hx1,hx2⟩:=at_T37 HR.out (lo:Int) (by omega) (by omega)
    cases ea
    replace hx0:=(HB2.out.cell (World.block_lt_of_cell? w _ hx0)).trans hx0
    replace hx1:=(HB2.out.cell (World.block_lt_of_cell? w _ hx1)).trans hx1
    replace hx2:=(HB2.out.cell (World.block_lt_of_cell? w _ hx2)).trans hx2
    rw [Int.toNat_natCast] at hx0 hx1 hx2
    have hIs:placeIs l0 m = (cmpN (rd_T37 l0 (lo:Int)).f0 m == 0):=by
     unfold placeIs
     rw [hAT.out,decide_eq_true hle,Bool.true_and]
    obtain ⟨t,ht⟩:∃ t,rd_T37 l0 (lo:Int) = t:=⟨_,rfl⟩
    rw [ht] at hx0 hx1 hx2 hIs
    have HIS:=Aside0.mk hIs
    clear ht hIs
    go_wp2_with (go_at_call 31;refine (place_lit _ _ _).mono ?_;rintro e w1 ⟨rfl,hb1⟩;have HB3:=Aside0.mk (below_step HB2.out hb1);clear hb1)
    refine bodyPost_ret (v:=.tuple #[.int .i64 (lo:Int),.bool (cmpN t.f0 m == 0)]) (by simp [results,Try.results30,go_sem]) rfl ⟨?_,HB3.out⟩
    rw [hAT.out,HIS.out]
   ·have hIs:placeIs l0 m = false:=by
     unfold placeIs
     rw [hAT.out,decide_eq_false hle,Bool.false_and]
    have HIS:=Aside0.mk hIs
    clear hIs
    go_wp2_with fail
    refine bodyPost_ret (v:=.tuple #[.int .i64 (lo:Int),.bool false]) (by simp [results,Try.results30,go_sem]) rfl ⟨?_,HB2.out⟩
    rw [hAT.out,HIS.out]
def suspend_place.f (l:List S37) (m:ByteArray):Option (Int × Bool):=if l.length ≤ 4611686018427387903 then some ((placeAt l m:Int),placeIs l m) else none
set_option maxHeartbeats 1600000 in
set_option maxRecDepth 100000 in
theorem suspend_place.calls (A0:Option Addr) (c0:Nat) (l0:List S37) (a1:ByteArray) (r1:Int) (r2:Bool) (w:World) (hr0:Kd.C k37 w A0 l0.length l0) (hc0:l0.length ≤ c0) (h:suspend_place.f l0 a1 = some (r1,r2)) :
  Calls Try.prog 23 #[.slice A0 l0.length c0,.string a1] w fun e w'=>e = .returned (.tuple #[.int .i64 r1,.bool r2]) ∧ Below w.heap.size w w':=by
 unfold suspend_place.f at h
 by_cases hl:l0.length ≤ 4611686018427387903
 ·rw [if_pos hl] at h
  obtain ⟨rfl,rfl⟩:=Prod.mk.inj (Option.some.inj h)
  have HR:=Aside0.mk hr0
  clear h hr0
  go_enter Try.func23,Try.ntmps23
  go_wp2_with (go_at_call 30;refine (bs_calls _ _ _ _ _ HR.out hl).mono ?_;rintro e w1 ⟨rfl,hb1⟩)
  refine bodyPost_ret (v:=.tuple #[.int .i64 (placeAt l0 a1:Int),.bool (placeIs l0 a1)]) (by simp [results,Try.results23,go_sem]) rfl ⟨rfl,by assumption⟩
 ·rw [if_neg hl] at h;exact absurd h (by simp)
end Go.Proofs.Ytgmelgkcoejknaa.X
end
section
namespace Go.Proofs.Ytgmelgkcoejknaa.X
open Go.RowKit Go.Proofs.YtgmelgkcoejknaaW.PrintWords Go.Proofs.YtgmelgkcoejknaaW.PrintLast Go.Proofs.YtgmelgkcoejknaaW.PrintMore
attribute [local go_sem] max2_int min2_int max_two min_two max_three min_three max_four min_four
set_option linter.unusedVariables false
set_option linter.unusedSimpArgs false
def suspend_Declare.f (k:Nat) (l0:List (S37)) (a1:ByteArray) (a2:Int):Option ((List (S37)) × Int):=(suspend_Check.f k l0).bind fun t101=>(if t101 = 0 then ((suspend_place.f l0 a1).bind fun bt102=>((words_Name.f k a1).bind fun t104=>(if t104 = true then (if bt102.2 = true then (some (([]:List (S37)),12)) else ((suspend_day.f a2).bind fun t105=>(if t105 = true then (if (l0.length:Int) ≥ 32 then (some (([]:List (S37)),8)) else ((suspend_Case_25.f l0).bind fun t106=>((suspend_Case_28.f t106 bt102.1 (([(⟨a1,1,a2⟩:S37)]:List (S37)))).bind fun t112=>(some (t112,0))))) else (some (([]:List (S37)),15))))) else (some (([]:List (S37)),10))))) else (some (([]:List (S37)),t101)))
theorem suspend_Declare.mono:∀ a0 a1 a2 k,LeO (suspend_Declare.f k a0 a1 a2) (suspend_Declare.f (k + 1) a0 a1 a2):=by
 intro a0 a1 a2 k
 unfold suspend_Declare.f
 repeat' first
   | (with_reducible exact suspend_Check.mono _ _)
   | (with_reducible exact words_Name.mono _ _)
   | (with_reducible exact LeO.refl _)
   | (with_reducible exact LeO.none _)
   | (with_reducible refine LeO.ite ?_ ?_)
   | (with_reducible refine LeO.bind ?_ (fun _=>?_))
   | exact suspend_Check.mono _ _
   | exact words_Name.mono _ _
   | exact LeO.none _
   | refine LeO.ite ?_ ?_
   | refine LeO.bind ?_ (fun _=>?_)
set_option maxHeartbeats 8000000 in
set_option maxRecDepth 100000 in
theorem suspend_Declare.calls (k:Nat) (A0:Option Addr) (c0:Nat) (l0:List (S37)) (a1:ByteArray) (a2:Int) (r1:List (S37)) (r2:Int) (w:World) (hr0:Kd.C k37 w A0 l0.length l0) (hc0:l0.length ≤ c0) (h:suspend_Declare.f k l0 a1 a2 = some (r1,r2)) :
  Calls Try.prog 16 #[.slice A0 l0.length c0,.string a1,.int .i64 a2] w fun e w'=>∃ v0_:Value,e = .returned (.tuple #[v0_,.int .i64 r2]) ∧ Kd.R k37 37 w' w.heap.size (fun _=>True) v0_ r1 ∧ Below w.heap.size w w':=by
 have hu37:=Try.underlying37
 have HR0:=Aside0.mk hr0
 have HC0:=Aside0.mk hc0
 clear hr0 hc0
 have HB:=Aside0.mk (Below.refl w.heap.size w)
 have H:((suspend_Check.f k l0).bind fun t101=>(if t101 = 0 then ((suspend_place.f l0 a1).bind fun bt102=>((words_Name.f k a1).bind fun t104=>(if t104 = true then (if bt102.2 = true then (some (([]:List (S37)),12)) else ((suspend_day.f a2).bind fun t105=>(if t105 = true then (if (l0.length:Int) ≥ 32 then (some (([]:List (S37)),8)) else ((suspend_Case_25.f l0).bind fun t106=>((suspend_Case_28.f t106 bt102.1 (([(⟨a1,1,a2⟩:S37)]:List (S37)))).bind fun t112=>(some (t112,0))))) else (some (([]:List (S37)),15))))) else (some (([]:List (S37)),10))))) else (some (([]:List (S37)),t101)))) = some (r1,r2):=h
 clear h
 replace H:=Option.bind_eq_some_iff.mp H
 obtain ⟨t101,A40,H⟩:=H
 replace H:(if t101 = 0 then ((suspend_place.f l0 a1).bind fun bt102=>((words_Name.f k a1).bind fun t104=>(if t104 = true then (if bt102.2 = true then (some (([]:List (S37)),12)) else ((suspend_day.f a2).bind fun t105=>(if t105 = true then (if (l0.length:Int) ≥ 32 then (some (([]:List (S37)),8)) else ((suspend_Case_25.f l0).bind fun t106=>((suspend_Case_28.f t106 bt102.1 (([(⟨a1,1,a2⟩:S37)]:List (S37)))).bind fun t112=>(some (t112,0))))) else (some (([]:List (S37)),15))))) else (some (([]:List (S37)),10))))) else (some (([]:List (S37)),t101))) = some (r1,r2):=H
 have A4:=Aside0.mk A40
 clear A40
 by_cases c5:t101 = 0
 ·rw [if_pos c5] at H
  have c5b0:(t101 == 0) = true:=beq_iff_eq.mpr c5
  have c5b1:(t101 != 0) = false:=bne_eq_false_iff_eq.mpr c5
  clear c5
  replace H:=Option.bind_eq_some_iff.mp H
  obtain ⟨⟨t102,t103⟩,A60,H⟩:=H
  replace H:((words_Name.f k a1).bind fun t104=>(if t104 = true then (if t103 = true then (some (([]:List (S37)),12)) else ((suspend_day.f a2).bind fun t105=>(if t105 = true then (if (l0.length:Int) ≥ 32 then (some (([]:List (S37)),8)) else ((suspend_Case_25.f l0).bind fun t106=>((suspend_Case_28.f t106 t102 (([(⟨a1,1,a2⟩:S37)]:List (S37)))).bind fun t112=>(some (t112,0))))) else (some (([]:List (S37)),15))))) else (some (([]:List (S37)),10)))) = some (r1,r2):=H
  have A6:=Aside0.mk A60
  clear A60
  replace H:=Option.bind_eq_some_iff.mp H
  obtain ⟨t104,A70,H⟩:=H
  replace H:(if t104 = true then (if t103 = true then (some (([]:List (S37)),12)) else ((suspend_day.f a2).bind fun t105=>(if t105 = true then (if (l0.length:Int) ≥ 32 then (some (([]:List (S37)),8)) else ((suspend_Case_25.f l0).bind fun t106=>((suspend_Case_28.f t106 t102 (([(⟨a1,1,a2⟩:S37)]:List (S37)))).bind fun t112=>(some (t112,0))))) else (some (([]:List (S37)),15))))) else (some (([]:List (S37)),10))) = some (r1,r2):=H
  have A7:=Aside0.mk A70
  clear A70
  by_cases c8:t104 = true
  ·subst c8
   have H1:(if t103 = true then (some (([]:List (S37)),12)) else ((suspend_day.f a2).bind fun t105=>(if t105 = true then (if (l0.length:Int) ≥ 32 then (some (([]:List (S37)),8)) else ((suspend_Case_25.f l0).bind fun t106=>((suspend_Case_28.f t106 t102 (([(⟨a1,1,a2⟩:S37)]:List (S37)))).bind fun t112=>(some (t112,0))))) else (some (([]:List (S37)),15))))) = some (r1,r2):=by rw [if_pos rfl] at H;exact H
   clear H
   have H:=H1
   clear H1
   by_cases c9:t103 = true
   ·subst c9
    have H1:(some (([]:List (S37)),12)) = some (r1,r2):=by rw [if_pos rfl] at H;exact H
    clear H
    have H:=H1
    clear H1
    simp only [Option.some.injEq,Prod.mk.injEq] at H
    obtain ⟨rfl,rfl⟩:=H
    go_enter Try.func16,Try.ntmps16
    go_wp2_with (first|((with_reducible refine gate_callee (f:=14) rfl ?_);refine goesL_ (some 12) rfl rfl Try.func14 (by kernel_rfl) rfl #[.slice A0 l0.length c0] rfl (by (try simp only [List.map_toArray,List.map_cons,List.map_nil]);first|done|rfl|(simp only [List.length_drop,List.length_take];rfl)) ?_;(with_reducible refine (suspend_Check.calls k _ _ l0 t101 _ ?side1 ?side2 A4.out).mono ?_);(case side1=>repeat (first|exact HR0.out|(with_reducible refine Kd.C_alloc ?_ _)|(with_reducible refine Kd.C_drewN ?_ _)|(with_reducible refine Kd.C_drew ?_)));(case side2=>exact HC0.out);rintro e w10 ⟨rfl,hb⟩;refine ⟨_,rfl,?_⟩;have n0_:=Aside0.mk (below_step (by repeat (first|(with_reducible first|exact HB.out|apply below_alloc|apply pw_below_drewN|apply below_drew1)|exact HB.out)) hb);clear HB;have HB:=n0_;clear n0_;(try clear hb);(try clear hb2);(try clear hk);(try clear hi))|((with_reducible refine gate_callee (f:=23) rfl ?_);refine goesL_ (some 19) rfl rfl Try.func23 (by kernel_rfl) rfl #[.slice A0 l0.length c0,.string a1] rfl (by (try simp only [List.map_toArray,List.map_cons,List.map_nil]);first|done|rfl|(simp only [List.length_drop,List.length_take];rfl)) ?_;(with_reducible refine (suspend_place.calls _ _ l0 a1 t102 true _ ?side1 ?side2 A6.out).mono ?_);(case side1=>repeat (first|exact (Kd.C_below HR0.out HB.out)|(with_reducible refine Kd.C_alloc ?_ _)|(with_reducible refine Kd.C_drewN ?_ _)|(with_reducible refine Kd.C_drew ?_)));(case side2=>exact HC0.out);rintro e w11 ⟨rfl,hb⟩;refine ⟨_,rfl,?_⟩;have n0_:=Aside0.mk (below_step (by repeat (first|(with_reducible first|exact HB.out|apply below_alloc|apply pw_below_drewN|apply below_drew1)|exact HB.out)) hb);clear HB;have HB:=n0_;clear n0_;(try clear hb);(try clear hb2);(try clear hk);(try clear hi))|((with_reducible refine gate_callee (f:=26) rfl ?_);refine goesL_ (some 24) rfl rfl Try.func26 (by kernel_rfl) rfl #[.string a1] rfl (by (try simp only [List.map_toArray,List.map_cons,List.map_nil]);first|done|rfl|(simp only [List.length_drop,List.length_take];rfl)) ?_;(with_reducible refine (words_Name.calls k a1 true _ A7.out).mono ?_);rintro e w' ⟨rfl,⟨nd,rfl⟩⟩;refine ⟨_,rfl,?_⟩))
    go_ret2
    exact ⟨_,by first|rfl|(simp [errW_none,errW_some] <;> rfl)|(simp [*,errW_none,errW_some] <;> rfl),by first|exact Kd.R_nil _ _ _ _ _|exact Kd.N_nil _ _ _ _ _|exact Kd.V_nil _ _ _ _ _|exact Kd.Q_nil _ _ _ _ _|exact Kd.S_nil _ _ _ _ _,by repeat (first|(with_reducible first|exact HB.out|apply below_alloc|apply pw_below_drewN|apply below_drew1)|exact HB.out)⟩
   ·replace c9:=Bool.eq_false_iff.mpr c9
    subst c9
    have H1:((suspend_day.f a2).bind fun t105=>(if t105 = true then (if (l0.length:Int) ≥ 32 then (some (([]:List (S37)),8)) else ((suspend_Case_25.f l0).bind fun t106=>((suspend_Case_28.f t106 t102 (([(⟨a1,1,a2⟩:S37)]:List (S37)))).bind fun t112=>(some (t112,0))))) else (some (([]:List (S37)),15)))) = some (r1,r2):=by rw [if_neg (show ¬ (false = true) by decide)] at H;exact H
    clear H
    have H:=H1
    clear H1
    replace H:=Option.bind_eq_some_iff.mp H
    obtain ⟨t105,A120,H⟩:=H
    replace H:(if t105 = true then (if (l0.length:Int) ≥ 32 then (some (([]:List (S37)),8)) else ((suspend_Case_25.f l0).bind fun t106=>((suspend_Case_28.f t106 t102 (([(⟨a1,1,a2⟩:S37)]:List (S37)))).bind fun t112=>(some (t112,0))))) else (some (([]:List (S37)),15))) = some (r1,r2):=H
    have A12:=Aside0.mk A120
    clear A120
    by_cases c13:t105 = true
    ·subst c13
     have H1:(if (l0.length:Int) ≥ 32 then (some (([]:List (S37)),8)) else ((suspend_Case_25.f l0).bind fun t106=>((suspend_Case_28.f t106 t102 (([(⟨a1,1,a2⟩:S37)]:List (S37)))).bind fun t112=>(some (t112,0))))) = some (r1,r2):=by rw [if_pos rfl] at H;exact H
     clear H
     have H:=H1
     clear H1
     by_cases c14:(l0.length:Int) ≥ 32
     ·rw [if_pos c14] at H
      have c14b0:decide (32 ≤ (l0.length:Int)) = true:=decide_eq_true c14
      have c14b1:decide (32 ≤ l0.length) = true:=decide_eq_true (by omega)
      clear c14
      simp only [Option.some.injEq,Prod.mk.injEq] at H
      obtain ⟨rfl,rfl⟩:=H
      go_enter Try.func16,Try.ntmps16
      go_wp2_with (first|((with_reducible refine gate_callee (f:=14) rfl ?_);refine goesL_ (some 12) rfl rfl Try.func14 (by kernel_rfl) rfl #[.slice A0 l0.length c0] rfl (by (try simp only [List.map_toArray,List.map_cons,List.map_nil]);first|done|rfl|(simp only [List.length_drop,List.length_take];rfl)) ?_;(with_reducible refine (suspend_Check.calls k _ _ l0 t101 _ ?side1 ?side2 A4.out).mono ?_);(case side1=>repeat (first|exact HR0.out|(with_reducible refine Kd.C_alloc ?_ _)|(with_reducible refine Kd.C_drewN ?_ _)|(with_reducible refine Kd.C_drew ?_)));(case side2=>exact HC0.out);rintro e w15 ⟨rfl,hb⟩;refine ⟨_,rfl,?_⟩;have n0_:=Aside0.mk (below_step (by repeat (first|(with_reducible first|exact HB.out|apply below_alloc|apply pw_below_drewN|apply below_drew1)|exact HB.out)) hb);clear HB;have HB:=n0_;clear n0_;(try clear hb);(try clear hb2);(try clear hk);(try clear hi))|((with_reducible refine gate_callee (f:=23) rfl ?_);refine goesL_ (some 19) rfl rfl Try.func23 (by kernel_rfl) rfl #[.slice A0 l0.length c0,.string a1] rfl (by (try simp only [List.map_toArray,List.map_cons,List.map_nil]);first|done|rfl|(simp only [List.length_drop,List.length_take];rfl)) ?_;(with_reducible refine (suspend_place.calls _ _ l0 a1 t102 false _ ?side1 ?side2 A6.out).mono ?_);(case side1=>repeat (first|exact (Kd.C_below HR0.out HB.out)|(with_reducible refine Kd.C_alloc ?_ _)|(with_reducible refine Kd.C_drewN ?_ _)|(with_reducible refine Kd.C_drew ?_)));(case side2=>exact HC0.out);rintro e w16 ⟨rfl,hb⟩;refine ⟨_,rfl,?_⟩;have n0_:=Aside0.mk (below_step (by repeat (first|(with_reducible first|exact HB.out|apply below_alloc|apply pw_below_drewN|apply below_drew1)|exact HB.out)) hb);clear HB;have HB:=n0_;clear n0_;(try clear hb);(try clear hb2);(try clear hk);(try clear hi))|((with_reducible refine gate_callee (f:=26) rfl ?_);refine goesL_ (some 24) rfl rfl Try.func26 (by kernel_rfl) rfl #[.string a1] rfl (by (try simp only [List.map_toArray,List.map_cons,List.map_nil]);first|done|rfl|(simp only [List.length_drop,List.length_take];rfl)) ?_;(with_reducible refine (words_Name.calls k a1 true _ A7.out).mono ?_);rintro e w' ⟨rfl,⟨nd,rfl⟩⟩;refine ⟨_,rfl,?_⟩)|((with_reducible refine gate_callee (f:=27) rfl ?_);refine goesL_ (some 30) rfl rfl Try.func27 (by kernel_rfl) rfl #[.int .i64 a2] rfl (by (try simp only [List.map_toArray,List.map_cons,List.map_nil]);first|done|rfl|(simp only [List.length_drop,List.length_take];rfl)) ?_;(with_reducible refine (suspend_day.calls a2 true _ A12.out).mono ?_);rintro e w' ⟨rfl,⟨nd,rfl⟩⟩;refine ⟨_,rfl,?_⟩))
      go_ret2
      exact ⟨_,by first|rfl|(simp [errW_none,errW_some] <;> rfl)|(simp [*,errW_none,errW_some] <;> rfl),by first|exact Kd.R_nil _ _ _ _ _|exact Kd.N_nil _ _ _ _ _|exact Kd.V_nil _ _ _ _ _|exact Kd.Q_nil _ _ _ _ _|exact Kd.S_nil _ _ _ _ _,by repeat (first|(with_reducible first|exact HB.out|apply below_alloc|apply pw_below_drewN|apply below_drew1)|exact HB.out)⟩
     ·rw [if_neg c14] at H
      have c14b0:decide (32 ≤ (l0.length:Int)) = false:=decide_eq_false c14
      have c14b1:decide (32 ≤ l0.length) = false:=decide_eq_false (by omega)
      clear c14
      replace H:=Option.bind_eq_some_iff.mp H
      obtain ⟨t106,A170,H⟩:=H
      replace H:((suspend_Case_28.f t106 t102 (([(⟨a1,1,a2⟩:S37)]:List (S37)))).bind fun t112=>(some (t112,0))) = some (r1,r2):=H
      have A17:=Aside0.mk A170
      clear A170
      obtain ⟨y109,hy109⟩:∃ y_:List (S37),y_ = (([(⟨a1,1,a2⟩:S37)]:List (S37))):=⟨_,rfl⟩
      replace H:((suspend_Case_28.f t106 t102 y109).bind fun t112=>(some (t112,0))) = some (r1,r2):=by first|(rw [hy109];with_reducible exact H)|(have H2_:=(Option.bind_some _ _).symm.trans H;rw [hy109];with_reducible exact H2_)|(have H2_:=(Option.bind_some _ _).symm.trans H;with_reducible exact H2_)|with_reducible exact H|(rw [hy109];exact H)|exact H
      have Ny109:=Aside0.mk hy109
      clear hy109
      replace H:=Option.bind_eq_some_iff.mp H
      obtain ⟨t112,A180,H⟩:=H
      replace H:(some (t112,0)) = some (r1,r2):=H
      have A18:=Aside0.mk A180
      clear A180
      simp only [Option.some.injEq,Prod.mk.injEq] at H
      obtain ⟨rfl,rfl⟩:=H
      go_enter Try.func16,Try.ntmps16
      go_wp2_with (first|((with_reducible refine gate_callee (f:=14) rfl ?_);refine goesL_ (some 12) rfl rfl Try.func14 (by kernel_rfl) rfl #[.slice A0 l0.length c0] rfl (by (try simp only [List.map_toArray,List.map_cons,List.map_nil]);first|done|rfl|(simp only [List.length_drop,List.length_take];rfl)) ?_;(with_reducible refine (suspend_Check.calls k _ _ l0 t101 _ ?side1 ?side2 A4.out).mono ?_);(case side1=>repeat (first|exact HR0.out|(with_reducible refine Kd.C_alloc ?_ _)|(with_reducible refine Kd.C_drewN ?_ _)|(with_reducible refine Kd.C_drew ?_)));(case side2=>exact HC0.out);rintro e w19 ⟨rfl,hb⟩;refine ⟨_,rfl,?_⟩;have n0_:=Aside0.mk (below_step (by repeat (first|(with_reducible first|exact HB.out|apply below_alloc|apply pw_below_drewN|apply below_drew1)|exact HB.out)) hb);clear HB;have HB:=n0_;clear n0_;(try clear hb);(try clear hb2);(try clear hk);(try clear hi))|((with_reducible refine gate_callee (f:=23) rfl ?_);refine goesL_ (some 19) rfl rfl Try.func23 (by kernel_rfl) rfl #[.slice A0 l0.length c0,.string a1] rfl (by (try simp only [List.map_toArray,List.map_cons,List.map_nil]);first|done|rfl|(simp only [List.length_drop,List.length_take];rfl)) ?_;(with_reducible refine (suspend_place.calls _ _ l0 a1 t102 false _ ?side1 ?side2 A6.out).mono ?_);(case side1=>repeat (first|exact (Kd.C_below HR0.out HB.out)|(with_reducible refine Kd.C_alloc ?_ _)|(with_reducible refine Kd.C_drewN ?_ _)|(with_reducible refine Kd.C_drew ?_)));(case side2=>exact HC0.out);rintro e w20 ⟨rfl,hb⟩;refine ⟨_,rfl,?_⟩;have n0_:=Aside0.mk (below_step (by repeat (first|(with_reducible first|exact HB.out|apply below_alloc|apply pw_below_drewN|apply below_drew1)|exact HB.out)) hb);clear HB;have HB:=n0_;clear n0_;(try clear hb);(try clear hb2);(try clear hk);(try clear hi))|((with_reducible refine gate_callee (f:=26) rfl ?_);refine goesL_ (some 24) rfl rfl Try.func26 (by kernel_rfl) rfl #[.string a1] rfl (by (try simp only [List.map_toArray,List.map_cons,List.map_nil]);first|done|rfl|(simp only [List.length_drop,List.length_take];rfl)) ?_;(with_reducible refine (words_Name.calls k a1 true _ A7.out).mono ?_);rintro e w' ⟨rfl,⟨nd,rfl⟩⟩;refine ⟨_,rfl,?_⟩)|((with_reducible refine gate_callee (f:=27) rfl ?_);refine goesL_ (some 30) rfl rfl Try.func27 (by kernel_rfl) rfl #[.int .i64 a2] rfl (by (try simp only [List.map_toArray,List.map_cons,List.map_nil]);first|done|rfl|(simp only [List.length_drop,List.length_take];rfl)) ?_;(with_reducible refine (suspend_day.calls a2 true _ A12.out).mono ?_);rintro e w' ⟨rfl,⟨nd,rfl⟩⟩;refine ⟨_,rfl,?_⟩)|((with_reducible refine gate_callee (f:=25) rfl ?_);refine goesL_ (some 37) rfl rfl Try.func25 (by kernel_rfl) rfl #[.slice A0 l0.length c0] rfl (by (try simp only [List.map_toArray,List.map_cons,List.map_nil]);first|done|rfl|(simp only [List.length_drop,List.length_take];rfl)) ?_;(with_reducible refine (suspend_Case_25.calls _ _ l0 t106 _ ?side1 ?side2 A17.out).mono ?_);(case side1=>repeat (first|exact (Kd.C_below HR0.out (by repeat (first|(with_reducible first|exact HB.out|apply below_alloc|apply pw_below_drewN|apply below_drew1)|exact HB.out)))|(with_reducible refine Kd.C_alloc ?_ _)|(with_reducible refine Kd.C_drewN ?_ _)|(with_reducible refine Kd.C_drew ?_)));(case side2=>exact HC0.out);rintro e w21 ⟨v107,rfl,ho0,hb⟩;refine ⟨_,rfl,?_⟩;have n0_:=Aside0.mk (Kd.R_lower ho0 (below_size (by repeat (first|(with_reducible first|exact HB.out|apply below_alloc|apply pw_below_drewN|apply below_drew1)|exact HB.out))));have n1_:=Aside0.mk (below_step (by repeat (first|(with_reducible first|exact HB.out|apply below_alloc|apply pw_below_drewN|apply below_drew1)|exact HB.out)) hb);clear HB;have HO108:=n0_;have HB:=n1_;clear n0_ n1_;(try clear hb);(try clear hb2);(try clear hk);(try clear hi);(try clear ho0))|((with_reducible refine gate_dst (N:=42) rfl ?_);refine Kd.R_lit k37 _ 37 ?hg (N:=42) ?hd (xs:=([(⟨a1,1,a2⟩:S37)]:List (S37))) (inner:=[.string a1,.int .i64 1,.int .i64 a2]) (ok:=fun _=>True) (okp:=fun _=>True) ?hr ?hp (fun _ hk=>hk) trivial (Below.refl _ _) (Nat.le_refl _) (by simp) ?_;(case hd=>rfl);(case hg=>rfl);(case hr=>first|(go_simp;done)|(go_simp;rfl));(case hp=>exact (Reps.c3 (show Kd.M k37 _ _ _ (⟨a1,1,a2⟩:S37) [.string a1,.int .i64 1,.int .i64 a2] from (k37_mkM _ _ _ (⟨a1,1,a2⟩:S37) )) (Reps.none _ _)));intro v110 w22 ho23 hb hg_ hnew_;clear hg_ hnew_;(first|rw [← Ny109.out] at ho23|(simp only [Int.reduceToNat] at ho23;rw [← Ny109.out] at ho23));have n0_:=Aside0.mk (Kd.R_elder' (by (with_reducible repeat (first|apply Kd.R_alloc|apply Kd.R_drewN|apply Kd.R_drew));exact HO108.out) (Kd.R_base ho23) hb);have n1_:=Aside0.mk (Kd.R_lower (Kd.R_new' ho23 (Kd.R_lt (by (with_reducible repeat (first|apply Kd.R_alloc|apply Kd.R_drewN|apply Kd.R_drew));exact HO108.out))) (below_size (by repeat (first|(with_reducible first|exact HB.out|apply below_alloc|apply pw_below_drewN|apply below_drew1)|exact HB.out))));have n2_:=Aside0.mk (below_step (by repeat (first|(with_reducible first|exact HB.out|apply below_alloc|apply pw_below_drewN|apply below_drew1)|exact HB.out)) hb);clear HO108;clear HB;have HO108:=n0_;have HO111:=n1_;have HB:=n2_;clear n0_ n1_ n2_;clear hb ho23;obtain ⟨Ao24,co24,eo24⟩:=Kd.R_slice HO108.out;subst eo24;obtain ⟨Ao25,co25,eo25⟩:=Kd.R_slice HO111.out;subst eo25)|((with_reducible refine gate_callee (f:=28) rfl ?_);refine goesL_ (some 43) rfl rfl Try.func28 (by kernel_rfl) rfl #[.slice Ao24 t106.length co24,.int .i64 t102,.slice Ao25 y109.length co25] rfl (by (try simp only [List.map_toArray,List.map_cons,List.map_nil]);first|done|rfl|(simp only [List.length_drop,List.length_take];rfl)) ?_;(with_reducible refine (suspend_Case_28.calls (fun k_=>some k_ = (.slice Ao24 t106.length co24:Value).ownBlock) (.slice Ao24 t106.length co24) t106 t102 _ _ y109 t112 w _ ?side1 ?side2 ?side3 ?side4 A18.out).mono ?_);(case side1=>repeat (first|(with_reducible first|exact HB.out|apply below_alloc|apply pw_below_drewN|apply below_drew1)|exact HB.out));(case side2=>exact Kd.R_tight rfl HO108.out);(case side3=>exact Kd.C_kept_own (HO111.out) (fun k_ hk_ hs_=>(hk_.2) hs_));(case side4=>exact (Kd.R_reads' HO111.out).2.1);rintro e w26 ⟨v113,rfl,ho0,hb,hkp⟩;refine ⟨_,rfl,?_⟩;have n0_:=Aside0.mk (Kd.R_mono (ok':=fun k_=>some k_ ≠ (v113:Value).ownBlock) (Kd.R_keptB (HO111.out) hkp (fun k_ hk_ hs_=>(hk_.2) hs_)) (fun k_ hk_=>fun e_=>Or.elim (ho0.1 k_ e_.symm) (fun hs_=>hk_.2.1 hs_) (fun hn_=>Nat.not_le.2 hk_.2.2 hn_)));have n1_:=Aside0.mk (Kd.R_mono (ok':=fun k_=>some k_ ≠ (.slice Ao25 y109.length co25:Value).ownBlock) ho0 (fun k_ hk_=>Or.elim hk_ (fun hs_=>fun e_=>(((HO111.out).1 k_ e_.symm).2) hs_) (fun hn_=>(Kd.fresh' (Kd.R_lt (by (with_reducible repeat (first|apply Kd.R_alloc|apply Kd.R_drewN|apply Kd.R_drew));exact HO111.out)) k_ hn_))));have n2_:=Aside0.mk (hb);clear HO111;clear HB;clear HO108;have HO111:=n0_;have HO114:=n1_;have HB:=n2_;clear n0_ n1_ n2_;(try clear hb);(try clear hkp);(try clear ho0)))
      go_ret2
      exact ⟨_,by first|rfl|(simp [errW_none,errW_some] <;> rfl)|(simp [*,errW_none,errW_some] <;> rfl),by (with_reducible repeat (first|apply Kd.R_alloc|apply Kd.R_drewN|apply Kd.R_drew));exact Kd.R_mono HO114.out (fun _ hk=>trivial),by repeat (first|(with_reducible first|exact HB.out|apply below_alloc|apply pw_below_drewN|apply below_drew1)|exact HB.out)⟩
    ·replace c13:=Bool.eq_false_iff.mpr c13
     subst c13
     have H1:(some (([]:List (S37)),15)) = some (r1,r2):=by rw [if_neg (show ¬ (false = true) by decide)] at H;exact H
     clear H
     have H:=H1
     clear H1
     simp only [Option.some.injEq,Prod.mk.injEq] at H
     obtain ⟨rfl,rfl⟩:=H
     go_enter Try.func16,Try.ntmps16
     go_wp2_with (first|((with_reducible refine gate_callee (f:=14) rfl ?_);refine goesL_ (some 12) rfl rfl Try.func14 (by kernel_rfl) rfl #[.slice A0 l0.length c0] rfl (by (try simp only [List.map_toArray,List.map_cons,List.map_nil]);first|done|rfl|(simp only [List.length_drop,List.length_take];rfl)) ?_;(with_reducible refine (suspend_Check.calls k _ _ l0 t101 _ ?side1 ?side2 A4.out).mono ?_);(case side1=>repeat (first|exact HR0.out|(with_reducible refine Kd.C_alloc ?_ _)|(with_reducible refine Kd.C_drewN ?_ _)|(with_reducible refine Kd.C_drew ?_)));(case side2=>exact HC0.out);rintro e w27 ⟨rfl,hb⟩;refine ⟨_,rfl,?_⟩;have n0_:=Aside0.mk (below_step (by repeat (first|(with_reducible first|exact HB.out|apply below_alloc|apply pw_below_drewN|apply below_drew1)|exact HB.out)) hb);clear HB;have HB:=n0_;clear n0_;(try clear hb);(try clear hb2);(try clear hk);(try clear hi))|((with_reducible refine gate_callee (f:=23) rfl ?_);refine goesL_ (some 19) rfl rfl Try.func23 (by kernel_rfl) rfl #[.slice A0 l0.length c0,.string a1] rfl (by (try simp only [List.map_toArray,List.map_cons,List.map_nil]);first|done|rfl|(simp only [List.length_drop,List.length_take];rfl)) ?_;(with_reducible refine (suspend_place.calls _ _ l0 a1 t102 false _ ?side1 ?side2 A6.out).mono ?_);(case side1=>repeat (first|exact (Kd.C_below HR0.out HB.out)|(with_reducible refine Kd.C_alloc ?_ _)|(with_reducible refine Kd.C_drewN ?_ _)|(with_reducible refine Kd.C_drew ?_)));(case side2=>exact HC0.out);rintro e w28 ⟨rfl,hb⟩;refine ⟨_,rfl,?_⟩;have n0_:=Aside0.mk (below_step (by repeat (first|(with_reducible first|exact HB.out|apply below_alloc|apply pw_below_drewN|apply below_drew1)|exact HB.out)) hb);clear HB;have HB:=n0_;clear n0_;(try clear hb);(try clear hb2);(try clear hk);(try clear hi))|((with_reducible refine gate_callee (f:=26) rfl ?_);refine goesL_ (some 24) rfl rfl Try.func26 (by kernel_rfl) rfl #[.string a1] rfl (by (try simp only [List.map_toArray,List.map_cons,List.map_nil]);first|done|rfl|(simp only [List.length_drop,List.length_take];rfl)) ?_;(with_reducible refine (words_Name.calls k a1 true _ A7.out).mono ?_);rintro e w' ⟨rfl,⟨nd,rfl⟩⟩;refine ⟨_,rfl,?_⟩)|((with_reducible refine gate_callee (f:=27) rfl ?_);refine goesL_ (some 30) rfl rfl Try.func27 (by kernel_rfl) rfl #[.int .i64 a2] rfl (by (try simp only [List.map_toArray,List.map_cons,List.map_nil]);first|done|rfl|(simp only [List.length_drop,List.length_take];rfl)) ?_;(with_reducible refine (suspend_day.calls a2 false _ A12.out).mono ?_);rintro e w' ⟨rfl,⟨nd,rfl⟩⟩;refine ⟨_,rfl,?_⟩))
     go_ret2
     exact ⟨_,by first|rfl|(simp [errW_none,errW_some] <;> rfl)|(simp [*,errW_none,errW_some] <;> rfl),by first|exact Kd.R_nil _ _ _ _ _|exact Kd.N_nil _ _ _ _ _|exact Kd.V_nil _ _ _ _ _|exact Kd.Q_nil _ _ _ _ _|exact Kd.S_nil _ _ _ _ _,by repeat (first|(with_reducible first|exact HB.out|apply below_alloc|apply pw_below_drewN|apply below_drew1)|exact HB.out)⟩
  ·replace c8:=Bool.eq_false_iff.mpr c8
   subst c8
   have H1:(some (([]:List (S37)),10)) = some (r1,r2):=by rw [if_neg (show ¬ (false = true) by decide)] at H;exact H
   clear H
   have H:=H1
   clear H1
   simp only [Option.some.injEq,Prod.mk.injEq] at H
   obtain ⟨rfl,rfl⟩:=H
   go_enter Try.func16,Try.ntmps16
   go_wp2_with (first|((with_reducible refine gate_callee (f:=14) rfl ?_);refine goesL_ (some 12) rfl rfl Try.func14 (by kernel_rfl) rfl #[.slice A0 l0.length c0] rfl (by (try simp only [List.map_toArray,List.map_cons,List.map_nil]);first|done|rfl|(simp only [List.length_drop,List.length_take];rfl)) ?_;(with_reducible refine (suspend_Check.calls k _ _ l0 t101 _ ?side1 ?side2 A4.out).mono ?_);(case side1=>repeat (first|exact HR0.out|(with_reducible refine Kd.C_alloc ?_ _)|(with_reducible refine Kd.C_drewN ?_ _)|(with_reducible refine Kd.C_drew ?_)));(case side2=>exact HC0.out);rintro e w29 ⟨rfl,hb⟩;refine ⟨_,rfl,?_⟩;have n0_:=Aside0.mk (below_step (by repeat (first|(with_reducible first|exact HB.out|apply below_alloc|apply pw_below_drewN|apply below_drew1)|exact HB.out)) hb);clear HB;have HB:=n0_;clear n0_;(try clear hb);(try clear hb2);(try clear hk);(try clear hi))|((with_reducible refine gate_callee (f:=23) rfl ?_);refine goesL_ (some 19) rfl rfl Try.func23 (by kernel_rfl) rfl #[.slice A0 l0.length c0,.string a1] rfl (by (try simp only [List.map_toArray,List.map_cons,List.map_nil]);first|done|rfl|(simp only [List.length_drop,List.length_take];rfl)) ?_;(with_reducible refine (suspend_place.calls _ _ l0 a1 t102 t103 _ ?side1 ?side2 A6.out).mono ?_);(case side1=>repeat (first|exact (Kd.C_below HR0.out HB.out)|(with_reducible refine Kd.C_alloc ?_ _)|(with_reducible refine Kd.C_drewN ?_ _)|(with_reducible refine Kd.C_drew ?_)));(case side2=>exact HC0.out);rintro e w30 ⟨rfl,hb⟩;refine ⟨_,rfl,?_⟩;have n0_:=Aside0.mk (below_step (by repeat (first|(with_reducible first|exact HB.out|apply below_alloc|apply pw_below_drewN|apply below_drew1)|exact HB.out)) hb);clear HB;have HB:=n0_;clear n0_;(try clear hb);(try clear hb2);(try clear hk);(try clear hi))|((with_reducible refine gate_callee (f:=26) rfl ?_);refine goesL_ (some 24) rfl rfl Try.func26 (by kernel_rfl) rfl #[.string a1] rfl (by (try simp only [List.map_toArray,List.map_cons,List.map_nil]);first|done|rfl|(simp only [List.length_drop,List.length_take];rfl)) ?_;(with_reducible refine (words_Name.calls k a1 false _ A7.out).mono ?_);rintro e w' ⟨rfl,⟨nd,rfl⟩⟩;refine ⟨_,rfl,?_⟩))
   go_ret2
   exact ⟨_,by first|rfl|(simp [errW_none,errW_some] <;> rfl)|(simp [*,errW_none,errW_some] <;> rfl),by first|exact Kd.R_nil _ _ _ _ _|exact Kd.N_nil _ _ _ _ _|exact Kd.V_nil _ _ _ _ _|exact Kd.Q_nil _ _ _ _ _|exact Kd.S_nil _ _ _ _ _,by repeat (first|(with_reducible first|exact HB.out|apply below_alloc|apply pw_below_drewN|apply below_drew1)|exact HB.out)⟩
 ·rw [if_neg c5] at H
  have c5b0:(t101 == 0) = false:=beq_eq_false_iff_ne.mpr c5
  have c5b1:(t101 != 0) = true:=bne_iff_ne.mpr c5
  simp only [Option.some.injEq,Prod.mk.injEq] at H
  obtain ⟨rfl,rfl⟩:=H
  go_enter Try.func16,Try.ntmps16
  go_wp2_with (first|((with_reducible refine gate_callee (f:=14) rfl ?_);refine goesL_ (some 12) rfl rfl Try.func14 (by kernel_rfl) rfl #[.slice A0 l0.length c0] rfl (by (try simp only [List.map_toArray,List.map_cons,List.map_nil]);first|done|rfl|(simp only [List.length_drop,List.length_take];rfl)) ?_;(with_reducible refine (suspend_Check.calls k _ _ l0 t101 _ ?side1 ?side2 A4.out).mono ?_);(case side1=>repeat (first|exact HR0.out|(with_reducible refine Kd.C_alloc ?_ _)|(with_reducible refine Kd.C_drewN ?_ _)|(with_reducible refine Kd.C_drew ?_)));(case side2=>exact HC0.out);rintro e w31 ⟨rfl,hb⟩;refine ⟨_,rfl,?_⟩;have n0_:=Aside0.mk (below_step (by repeat (first|(with_reducible first|exact HB.out|apply below_alloc|apply pw_below_drewN|apply below_drew1)|exact HB.out)) hb);clear HB;have HB:=n0_;clear n0_;(try clear hb);(try clear hb2);(try clear hk);(try clear hi)))
  go_ret2
  exact ⟨_,by first|rfl|(simp [errW_none,errW_some] <;> rfl)|(simp [*,errW_none,errW_some] <;> rfl),by first|exact Kd.R_nil _ _ _ _ _|exact Kd.N_nil _ _ _ _ _|exact Kd.V_nil _ _ _ _ _|exact Kd.Q_nil _ _ _ _ _|exact Kd.S_nil _ _ _ _ _,by repeat (first|(with_reducible first|exact HB.out|apply below_alloc|apply pw_below_drewN|apply below_drew1)|exact HB.out)⟩
end Go.Proofs.Ytgmelgkcoejknaa.X
end
section
namespace Go.Proofs.Ytgmelgkcoejknaa.X
open Go.RowKit Go.Proofs.YtgmelgkcoejknaaW.PrintWords Go.Proofs.YtgmelgkcoejknaaW.PrintLast Go.Proofs.YtgmelgkcoejknaaW.PrintMore
attribute [local go_sem] max2_int min2_int max_two min_two max_three min_three max_four min_four
set_option linter.unusedVariables false
set_option linter.unusedSimpArgs false
def suspend_May.j0:Nat → Int → Int → Int → Bool → Option (Bool)
 | 0,_,_,_,_=>none
 | k + 1,x0,x1,x5,x8=>if x8 = true then (if x1 = 3 then (some true) else (if x1 = 4 then (some true) else (some (x1 == 5)))) else (if x5 = 4 then (if x1 = 4 then (some true) else (some (x1 == 5))) else (if x5 = 5 then (if x1 = 5 then (some true) else (if x1 = 6 then (some true) else (if x1 = 7 then (some (x0 == 6)) else (some false)))) else (if x5 = 6 then (if x1 = 6 then (some true) else (if x1 = 7 then (some (x0 == 6)) else (some false))) else (some false))))
def suspend_May.f (k:Nat) (a0:Int) (a1:Int):Option (Bool):=if a0 = 1 then (some (a1 == 2)) else (if a0 = 2 then (suspend_May.j0 k a0 a1 a0 (a0 == 2)) else (suspend_May.j0 k a0 a1 a0 (a0 == 3)))
theorem suspend_May.mono_l:∀ k,(∀ y0 y1 y2 y3,LeO (suspend_May.j0 k y0 y1 y2 y3) (suspend_May.j0 (k + 1) y0 y1 y2 y3))
 | 0=>fun _ _ _ _ r h=>by simp [suspend_May.j0] at h
 | k + 1=>by
  have ih0:=suspend_May.mono_l k
  ·intro y0 y1 y2 y3
   unfold suspend_May.j0
   repeat' first
   | (with_reducible exact ih0 _ _ _ _)
   | (with_reducible exact LeO.refl _)
   | (with_reducible exact LeO.none _)
   | (with_reducible refine LeO.ite ?_ ?_)
   | (with_reducible refine LeO.bind ?_ (fun _=>?_))
   | exact ih0 _ _ _ _
   | exact LeO.none _
   | refine LeO.ite ?_ ?_
   | refine LeO.bind ?_ (fun _=>?_)
theorem suspend_May.mono:∀ a0 a1 k,LeO (suspend_May.f k a0 a1) (suspend_May.f (k + 1) a0 a1):=by
 intro a0 a1 k
 have ih0:=suspend_May.mono_l k
 unfold suspend_May.f
 repeat' first
   | (with_reducible exact ih0 _ _ _ _)
   | (with_reducible exact LeO.refl _)
   | (with_reducible exact LeO.none _)
   | (with_reducible refine LeO.ite ?_ ?_)
   | (with_reducible refine LeO.bind ?_ (fun _=>?_))
   | exact ih0 _ _ _ _
   | exact LeO.none _
   | refine LeO.ite ?_ ?_
   | refine LeO.bind ?_ (fun _=>?_)
set_option maxHeartbeats 8000000 in
set_option maxRecDepth 100000 in
theorem suspend_May.calls (k:Nat) (a0:Int) (a1:Int) (r:Bool) (w:World) (h:suspend_May.f k a0 a1 = some r) :
  Calls Try.prog 12 #[.int .i64 a0,.int .i64 a1] w fun e w'=>e = .returned (.bool r) ∧ Drawn0 w w':=by
 have H:(if a0 = 1 then (some (a1 == 2)) else (if a0 = 2 then (suspend_May.j0 k a0 a1 a0 (a0 == 2)) else (suspend_May.j0 k a0 a1 a0 (a0 == 3)))) = some r:=h
 clear h
 by_cases c3:a0 = 1
 ·rw [if_pos c3] at H
  have c3b0:(a0 == 1) = true:=beq_iff_eq.mpr c3
  have c3b1:(a0 != 1) = false:=bne_eq_false_iff_eq.mpr c3
  clear c3
  obtain rfl:=Option.some.inj H
  go_enter Try.func12,Try.ntmps12
  go_wp2
  go_ret
  exact ⟨by first|rfl|(simp;done)|(simp [*];done),by repeat (first|exact Drawn0.refl _|apply Drawn0.step)⟩
 ·rw [if_neg c3] at H
  have c3b0:(a0 == 1) = false:=beq_eq_false_iff_ne.mpr c3
  have c3b1:(a0 != 1) = true:=bne_iff_ne.mpr c3
  have HC4:=Aside0.mk H
  clear H
  go_enter Try.func12,Try.ntmps12
  go_upto_if 8 with (fail)
  go_cut [8] (fun v8 wc=>∃ (kq:Nat) (x8_3:Bool),v8 = .bool x8_3 ∧ Aside0 (suspend_May.j0 kq a0 a1 a0 x8_3 = some r) ∧ Aside0 (kq ≤ k) ∧ Drawn0 w wc)
  case first =>
   have H:=HC4.out
   clear HC4
   by_cases c5:a0 = 2
   ·rw [if_pos c5] at H
    have c5b0:(a0 == 2) = true:=beq_iff_eq.mpr c5
    have c5b1:(a0 != 2) = false:=bne_eq_false_iff_eq.mpr c5
    clear c5
    (first|rw [c5b0]|(simp only [i64_w,i32_w];rw [c5b0])|skip)
    have H':=Aside0.mk H
    clear H
    go_wp2
    go_meet
    case rel=>exact ⟨_,((a0 == 2)),(by first|rfl|(simp;done)|(simp [*];done)),H',⟨by first|omega|exact Nat.le_refl _⟩,by repeat (first|exact Drawn0.refl _|apply Drawn0.step)⟩
   ·rw [if_neg c5] at H
    have c5b0:(a0 == 2) = false:=beq_eq_false_iff_ne.mpr c5
    have c5b1:(a0 != 2) = true:=bne_iff_ne.mpr c5
    (first|rw [c5b0]|(simp only [i64_w,i32_w];rw [c5b0])|skip)
    have H':=Aside0.mk H
    clear H
    go_wp2
    go_meet
    case rel=>exact ⟨_,((a0 == 3)),(by first|rfl|(simp;done)|(simp [*];done)),H',⟨by first|omega|exact Nat.le_refl _⟩,by repeat (first|exact Drawn0.refl _|apply Drawn0.step)⟩
  case rest =>
   clear HC4
   try clear c1
   try clear p2
   try clear c3
   try clear c3b0
   try clear c3b1
   try clear c5
   try clear c5b0
   try clear c5b1
   obtain ⟨kq,x8_3,rfl,HA,HJ3,⟨mc3,rfl⟩⟩:=hcut
   cases kq with
   | zero=>exact absurd HA.out (by simp [suspend_May.j0])
   | succ kj3 =>
    have H:=HA.out
    clear HA
    simp only [suspend_May.j0] at H
    by_cases c6:x8_3 = true
    ·subst c6
     have H1:(if a1 = 3 then (some true) else (if a1 = 4 then (some true) else (some (a1 == 5)))) = some r:=by rw [if_pos rfl] at H;exact H
     clear H
     have H:=H1
     clear H1
     by_cases c7:a1 = 3
     ·rw [if_pos c7] at H
      have c7b0:(a1 == 3) = true:=beq_iff_eq.mpr c7
      have c7b1:(a1 != 3) = false:=bne_eq_false_iff_eq.mpr c7
      clear c7
      obtain rfl:=Option.some.inj H
      go_wp2
      go_ret
      exact ⟨by first|rfl|(simp;done)|(simp [*];done),by repeat (first|exact Drawn0.refl _|apply Drawn0.step)⟩
     ·rw [if_neg c7] at H
      have c7b0:(a1 == 3) = false:=beq_eq_false_iff_ne.mpr c7
      have c7b1:(a1 != 3) = true:=bne_iff_ne.mpr c7
      by_cases c8:a1 = 4
      ·rw [if_pos c8] at H
       have c8b0:(a1 == 4) = true:=beq_iff_eq.mpr c8
       have c8b1:(a1 != 4) = false:=bne_eq_false_iff_eq.mpr c8
       clear c8
       obtain rfl:=Option.some.inj H
       go_wp2
       go_ret
       exact ⟨by first|rfl|(simp;done)|(simp [*];done),by repeat (first|exact Drawn0.refl _|apply Drawn0.step)⟩
      ·rw [if_neg c8] at H
       have c8b0:(a1 == 4) = false:=beq_eq_false_iff_ne.mpr c8
       have c8b1:(a1 != 4) = true:=bne_iff_ne.mpr c8
       obtain rfl:=Option.some.inj H
       go_wp2
       go_ret
       exact ⟨by first|rfl|(simp;done)|(simp [*];done),by repeat (first|exact Drawn0.refl _|apply Drawn0.step)⟩
    ·replace c6:=Bool.eq_false_iff.mpr c6
     subst c6
     have H1:(if a0 = 4 then (if a1 = 4 then (some true) else (some (a1 == 5))) else (if a0 = 5 then (if a1 = 5 then (some true) else (if a1 = 6 then (some true) else (if a1 = 7 then (some (a0 == 6)) else (some false)))) else (if a0 = 6 then (if a1 = 6 then (some true) else (if a1 = 7 then (some (a0 == 6)) else (some false))) else (some false)))) = some r:=by rw [if_neg (show ¬ (false = true) by decide)] at H;exact H
     clear H
     have H:=H1
     clear H1
     by_cases c9:a0 = 4
     ·rw [if_pos c9] at H
      have c9b0:(a0 == 4) = true:=beq_iff_eq.mpr c9
      have c9b1:(a0 != 4) = false:=bne_eq_false_iff_eq.mpr c9
      clear c9
      by_cases c10:a1 = 4
      ·rw [if_pos c10] at H
       have c10b0:(a1 == 4) = true:=beq_iff_eq.mpr c10
       have c10b1:(a1 != 4) = false:=bne_eq_false_iff_eq.mpr c10
       clear c10
       obtain rfl:=Option.some.inj H
       go_wp2
       go_ret
       exact ⟨by first|rfl|(simp;done)|(simp [*];done),by repeat (first|exact Drawn0.refl _|apply Drawn0.step)⟩
      ·rw [if_neg c10] at H
       have c10b0:(a1 == 4) = false:=beq_eq_false_iff_ne.mpr c10
       have c10b1:(a1 != 4) = true:=bne_iff_ne.mpr c10
       obtain rfl:=Option.some.inj H
       go_wp2
       go_ret
       exact ⟨by first|rfl|(simp;done)|(simp [*];done),by repeat (first|exact Drawn0.refl _|apply Drawn0.step)⟩
     ·rw [if_neg c9] at H
      have c9b0:(a0 == 4) = false:=beq_eq_false_iff_ne.mpr c9
      have c9b1:(a0 != 4) = true:=bne_iff_ne.mpr c9
      by_cases c11:a0 = 5
      ·rw [if_pos c11] at H
       have c11b0:(a0 == 5) = true:=beq_iff_eq.mpr c11
       have c11b1:(a0 != 5) = false:=bne_eq_false_iff_eq.mpr c11
       clear c11
       by_cases c12:a1 = 5
       ·rw [if_pos c12] at H
        have c12b0:(a1 == 5) = true:=beq_iff_eq.mpr c12
        have c12b1:(a1 != 5) = false:=bne_eq_false_iff_eq.mpr c12
        clear c12
        obtain rfl:=Option.some.inj H
        go_wp2
        go_ret
        exact ⟨by first|rfl|(simp;done)|(simp [*];done),by repeat (first|exact Drawn0.refl _|apply Drawn0.step)⟩
       ·rw [if_neg c12] at H
        have c12b0:(a1 == 5) = false:=beq_eq_false_iff_ne.mpr c12
        have c12b1:(a1 != 5) = true:=bne_iff_ne.mpr c12
        by_cases c13:a1 = 6
        ·rw [if_pos c13] at H
         have c13b0:(a1 == 6) = true:=beq_iff_eq.mpr c13
         have c13b1:(a1 != 6) = false:=bne_eq_false_iff_eq.mpr c13
         clear c13
         obtain rfl:=Option.some.inj H
         go_wp2
         go_ret
         exact ⟨by first|rfl|(simp;done)|(simp [*];done),by repeat (first|exact Drawn0.refl _|apply Drawn0.step)⟩
        ·rw [if_neg c13] at H
         have c13b0:(a1 == 6) = false:=beq_eq_false_iff_ne.mpr c13
         have c13b1:(a1 != 6) = true:=bne_iff_ne.mpr c13
         by_cases c14:a1 = 7
         ·rw [if_pos c14] at H
          have c14b0:(a1 == 7) = true:=beq_iff_eq.mpr c14
          have c14b1:(a1 != 7) = false:=bne_eq_false_iff_eq.mpr c14
          clear c14
          obtain rfl:=Option.some.inj H
          go_wp2
          go_ret
          exact ⟨by first|rfl|(simp;done)|(simp [*];done),by repeat (first|exact Drawn0.refl _|apply Drawn0.step)⟩
         ·rw [if_neg c14] at H
          have c14b0:(a1 == 7) = false:=beq_eq_false_iff_ne.mpr c14
          have c14b1:(a1 != 7) = true:=bne_iff_ne.mpr c14
          obtain rfl:=Option.some.inj H
          go_wp2
          go_ret
          exact ⟨by first|rfl|(simp;done)|(simp [*];done),by repeat (first|exact Drawn0.refl _|apply Drawn0.step)⟩
      ·rw [if_neg c11] at H
       have c11b0:(a0 == 5) = false:=beq_eq_false_iff_ne.mpr c11
       have c11b1:(a0 != 5) = true:=bne_iff_ne.mpr c11
       by_cases c15:a0 = 6
       ·rw [if_pos c15] at H
        have c15b0:(a0 == 6) = true:=beq_iff_eq.mpr c15
        have c15b1:(a0 != 6) = false:=bne_eq_false_iff_eq.mpr c15
        clear c15
        by_cases c16:a1 = 6
        ·rw [if_pos c16] at H
         have c16b0:(a1 == 6) = true:=beq_iff_eq.mpr c16
         have c16b1:(a1 != 6) = false:=bne_eq_false_iff_eq.mpr c16
         clear c16
         obtain rfl:=Option.some.inj H
         go_wp2
         go_ret
         exact ⟨by first|rfl|(simp;done)|(simp [*];done),by repeat (first|exact Drawn0.refl _|apply Drawn0.step)⟩
        ·rw [if_neg c16] at H
         have c16b0:(a1 == 6) = false:=beq_eq_false_iff_ne.mpr c16
         have c16b1:(a1 != 6) = true:=bne_iff_ne.mpr c16
         by_cases c17:a1 = 7
         ·rw [if_pos c17] at H
          have c17b0:(a1 == 7) = true:=beq_iff_eq.mpr c17
          have c17b1:(a1 != 7) = false:=bne_eq_false_iff_eq.mpr c17
          clear c17
          obtain rfl:=Option.some.inj H
          go_wp2
          go_ret
          exact ⟨by first|rfl|(simp;done)|(simp [*];done),by repeat (first|exact Drawn0.refl _|apply Drawn0.step)⟩
         ·rw [if_neg c17] at H
          have c17b0:(a1 == 7) = false:=beq_eq_false_iff_ne.mpr c17
          have c17b1:(a1 != 7) = true:=bne_iff_ne.mpr c17
          obtain rfl:=Option.some.inj H
          go_wp2
          go_ret
          exact ⟨by first|rfl|(simp;done)|(simp [*];done),by repeat (first|exact Drawn0.refl _|apply Drawn0.step)⟩
       ·rw [if_neg c15] at H
        have c15b0:(a0 == 6) = false:=beq_eq_false_iff_ne.mpr c15
        have c15b1:(a0 != 6) = true:=bne_iff_ne.mpr c15
        obtain rfl:=Option.some.inj H
        go_wp2
        go_ret
        exact ⟨by first|rfl|(simp;done)|(simp [*];done),by repeat (first|exact Drawn0.refl _|apply Drawn0.step)⟩
end Go.Proofs.Ytgmelgkcoejknaa.X
end
section
namespace Go.Proofs.Ytgmelgkcoejknaa.X
open Go.RowKit Go.Proofs.YtgmelgkcoejknaaW.PrintWords Go.Proofs.YtgmelgkcoejknaaW.PrintLast Go.Proofs.YtgmelgkcoejknaaW.PrintMore
attribute [local go_sem] max2_int min2_int max_two min_two max_three min_three max_four min_four
set_option linter.unusedVariables false
set_option linter.unusedSimpArgs false
def suspend_must.f (a0:Int):Option (Bool):=if a0 = 2 then (some true) else (if a0 = 5 then (some true) else (some (a0 == 6)))
set_option maxHeartbeats 8000000 in
set_option maxRecDepth 100000 in
theorem suspend_must.calls (a0:Int) (r:Bool) (w:World) (h:suspend_must.f a0 = some r) :
  Calls Try.prog 24 #[.int .i64 a0] w fun e w'=>e = .returned (.bool r) ∧ Drawn0 w w':=by
 have H:(if a0 = 2 then (some true) else (if a0 = 5 then (some true) else (some (a0 == 6)))) = some r:=h
 clear h
 by_cases c2:a0 = 2
 ·rw [if_pos c2] at H
  have c2b0:(a0 == 2) = true:=beq_iff_eq.mpr c2
  have c2b1:(a0 != 2) = false:=bne_eq_false_iff_eq.mpr c2
  clear c2
  obtain rfl:=Option.some.inj H
  go_enter Try.func24,Try.ntmps24
  go_wp2
  go_ret
  exact ⟨by first|rfl|(simp;done)|(simp [*];done),by repeat (first|exact Drawn0.refl _|apply Drawn0.step)⟩
 ·rw [if_neg c2] at H
  have c2b0:(a0 == 2) = false:=beq_eq_false_iff_ne.mpr c2
  have c2b1:(a0 != 2) = true:=bne_iff_ne.mpr c2
  by_cases c3:a0 = 5
  ·rw [if_pos c3] at H
   have c3b0:(a0 == 5) = true:=beq_iff_eq.mpr c3
   have c3b1:(a0 != 5) = false:=bne_eq_false_iff_eq.mpr c3
   clear c3
   obtain rfl:=Option.some.inj H
   go_enter Try.func24,Try.ntmps24
   go_wp2
   go_ret
   exact ⟨by first|rfl|(simp;done)|(simp [*];done),by repeat (first|exact Drawn0.refl _|apply Drawn0.step)⟩
  ·rw [if_neg c3] at H
   have c3b0:(a0 == 5) = false:=beq_eq_false_iff_ne.mpr c3
   have c3b1:(a0 != 5) = true:=bne_iff_ne.mpr c3
   obtain rfl:=Option.some.inj H
   go_enter Try.func24,Try.ntmps24
   go_wp2
   go_ret
   exact ⟨by first|rfl|(simp;done)|(simp [*];done),by repeat (first|exact Drawn0.refl _|apply Drawn0.step)⟩
end Go.Proofs.Ytgmelgkcoejknaa.X
end
section
namespace Go.Proofs.Ytgmelgkcoejknaa.X
open Go.RowKit Go.Proofs.YtgmelgkcoejknaaW.PrintWords Go.Proofs.YtgmelgkcoejknaaW.PrintLast Go.Proofs.YtgmelgkcoejknaaW.PrintMore
attribute [local go_sem] max2_int min2_int max_two min_two max_three min_three max_four min_four
set_option linter.unusedVariables false
set_option linter.unusedSimpArgs false
mutual
def suspend_Step.j0:Nat → List (S37) → Int → Int → Bool → Option ((List (S37)) × Int)
 | 0,_,_,_,_=>none
 | k + 1,x0,x2,x9,x36=>if x36 = true then (some (([]:List (S37)),13)) else (if 0 ≤ x9 then (if x9 < (x0.length:Int) then (suspend_Step.l0 k x0 x2 x9 (wrap64 (((rd_T37 x0 x9).f1) + 1))) else (none)) else (none))
def suspend_Step.l0:Nat → List (S37) → Int → Int → Int → Option ((List (S37)) × Int)
 | 0,_,_,_,_=>none
 | k + 1,x0,x2,x9,x11=>if x11 < x2 then ((suspend_must.f x11).bind fun t106=>(if t106 = true then (some (([]:List (S37)),13)) else (suspend_Step.l0 k x0 x2 x9 (wrap64 (x11 + 1))))) else ((suspend_Case_25.f x0).bind fun t107=>(if 0 ≤ x9 then (if x9 < (t107.length:Int) then (some ((t107.set (x9:Int).toNat (⟨(rd_T37 t107 x9).f0,x2,(rd_T37 t107 x9).f2⟩:S37)),0)) else (none)) else (none)))
end
def suspend_Step.f (k:Nat) (l0:List (S37)) (a1:ByteArray) (a2:Int):Option ((List (S37)) × Int):=(suspend_Check.f k l0).bind fun t101=>(if t101 = 0 then ((suspend_place.f l0 a1).bind fun bt102=>(if bt102.2 = true then (if 0 ≤ bt102.1 then (if bt102.1 < (l0.length:Int) then (if a2 ≤ ((rd_T37 l0 bt102.1).f1) then (suspend_Step.j0 k l0 a2 bt102.1 true) else (suspend_Step.j0 k l0 a2 bt102.1 (decide (a2 > 7)))) else (none)) else (none)) else (some (([]:List (S37)),11)))) else (some (([]:List (S37)),t101)))
theorem suspend_Step.mono_l:∀ k,(∀ y0 y1 y2 y3,LeO (suspend_Step.j0 k y0 y1 y2 y3) (suspend_Step.j0 (k + 1) y0 y1 y2 y3)) ∧ (∀ y0 y1 y2 y3,LeO (suspend_Step.l0 k y0 y1 y2 y3) (suspend_Step.l0 (k + 1) y0 y1 y2 y3))
 | 0=>⟨fun _ _ _ _ r h=>by simp [suspend_Step.j0] at h,fun _ _ _ _ r h=>by simp [suspend_Step.l0] at h⟩
 | k + 1=>by
  obtain ⟨ih0,ih1⟩:=suspend_Step.mono_l k
  refine ⟨?_,?_⟩
  ·intro y0 y1 y2 y3
   unfold suspend_Step.j0
   repeat' first
   | (with_reducible exact ih0 _ _ _ _)
   | (with_reducible exact ih1 _ _ _ _)
   | (with_reducible exact suspend_Check.mono _ _)
   | (with_reducible exact LeO.refl _)
   | (with_reducible exact LeO.none _)
   | (with_reducible refine LeO.ite ?_ ?_)
   | (with_reducible refine LeO.bind ?_ (fun _=>?_))
   | exact ih0 _ _ _ _
   | exact ih1 _ _ _ _
   | exact suspend_Check.mono _ _
   | exact LeO.none _
   | refine LeO.ite ?_ ?_
   | refine LeO.bind ?_ (fun _=>?_)
  ·intro y0 y1 y2 y3
   unfold suspend_Step.l0
   repeat' first
   | (with_reducible exact ih0 _ _ _ _)
   | (with_reducible exact ih1 _ _ _ _)
   | (with_reducible exact suspend_Check.mono _ _)
   | (with_reducible exact LeO.refl _)
   | (with_reducible exact LeO.none _)
   | (with_reducible refine LeO.ite ?_ ?_)
   | (with_reducible refine LeO.bind ?_ (fun _=>?_))
   | exact ih0 _ _ _ _
   | exact ih1 _ _ _ _
   | exact suspend_Check.mono _ _
   | exact LeO.none _
   | refine LeO.ite ?_ ?_
   | refine LeO.bind ?_ (fun _=>?_)
theorem suspend_Step.mono:∀ a0 a1 a2 k,LeO (suspend_Step.f k a0 a1 a2) (suspend_Step.f (k + 1) a0 a1 a2):=by
 intro a0 a1 a2 k
 obtain ⟨ih0,ih1⟩:=suspend_Step.mono_l k
 unfold suspend_Step.f
 repeat' first
   | (with_reducible exact ih0 _ _ _ _)
   | (with_reducible exact ih1 _ _ _ _)
   | (with_reducible exact suspend_Check.mono _ _)
   | (with_reducible exact LeO.refl _)
   | (with_reducible exact LeO.none _)
   | (with_reducible refine LeO.ite ?_ ?_)
   | (with_reducible refine LeO.bind ?_ (fun _=>?_))
   | exact ih0 _ _ _ _
   | exact ih1 _ _ _ _
   | exact suspend_Check.mono _ _
   | exact LeO.none _
   | refine LeO.ite ?_ ?_
   | refine LeO.bind ?_ (fun _=>?_)
set_option maxHeartbeats 8000000 in
set_option maxRecDepth 100000 in
theorem suspend_Step.calls (k:Nat) (A0:Option Addr) (c0:Nat) (l0:List (S37)) (a1:ByteArray) (a2:Int) (r1:List (S37)) (r2:Int) (w:World) (hr0:Kd.C k37 w A0 l0.length l0) (hc0:l0.length ≤ c0) (h:suspend_Step.f k l0 a1 a2 = some (r1,r2)) :
  Calls Try.prog 7 #[.slice A0 l0.length c0,.string a1,.int .i64 a2] w fun e w'=>∃ v0_:Value,e = .returned (.tuple #[v0_,.int .i64 r2]) ∧ Kd.R k37 37 w' w.heap.size (fun _=>True) v0_ r1 ∧ Below w.heap.size w w':=by
 have HR0:=Aside0.mk hr0
 have HC0:=Aside0.mk hc0
 clear hr0 hc0
 have HB:=Aside0.mk (Below.refl w.heap.size w)
 have H:((suspend_Check.f k l0).bind fun t101=>(if t101 = 0 then ((suspend_place.f l0 a1).bind fun bt102=>(if bt102.2 = true then (if 0 ≤ bt102.1 then (if bt102.1 < (l0.length:Int) then (if a2 ≤ ((rd_T37 l0 bt102.1).f1) then (suspend_Step.j0 k l0 a2 bt102.1 true) else (suspend_Step.j0 k l0 a2 bt102.1 (decide (a2 > 7)))) else (none)) else (none)) else (some (([]:List (S37)),11)))) else (some (([]:List (S37)),t101)))) = some (r1,r2):=h
 clear h
 replace H:=Option.bind_eq_some_iff.mp H
 obtain ⟨t101,A40,H⟩:=H
 replace H:(if t101 = 0 then ((suspend_place.f l0 a1).bind fun bt102=>(if bt102.2 = true then (if 0 ≤ bt102.1 then (if bt102.1 < (l0.length:Int) then (if a2 ≤ ((rd_T37 l0 bt102.1).f1) then (suspend_Step.j0 k l0 a2 bt102.1 true) else (suspend_Step.j0 k l0 a2 bt102.1 (decide (a2 > 7)))) else (none)) else (none)) else (some (([]:List (S37)),11)))) else (some (([]:List (S37)),t101))) = some (r1,r2):=H
 have A4:=Aside0.mk A40
 clear A40
 by_cases c5:t101 = 0
 ·rw [if_pos c5] at H
  have c5b0:(t101 == 0) = true:=beq_iff_eq.mpr c5
  have c5b1:(t101 != 0) = false:=bne_eq_false_iff_eq.mpr c5
  clear c5
  replace H:=Option.bind_eq_some_iff.mp H
  obtain ⟨⟨t102,t103⟩,A60,H⟩:=H
  replace H:(if t103 = true then (if 0 ≤ t102 then (if t102 < (l0.length:Int) then (if a2 ≤ ((rd_T37 l0 t102).f1) then (suspend_Step.j0 k l0 a2 t102 true) else (suspend_Step.j0 k l0 a2 t102 (decide (a2 > 7)))) else (none)) else (none)) else (some (([]:List (S37)),11))) = some (r1,r2):=H
  have A6:=Aside0.mk A60
  clear A60
  by_cases c7:t103 = true
  ·subst c7
   have H1:(if 0 ≤ t102 then (if t102 < (l0.length:Int) then (if a2 ≤ ((rd_T37 l0 t102).f1) then (suspend_Step.j0 k l0 a2 t102 true) else (suspend_Step.j0 k l0 a2 t102 (decide (a2 > 7)))) else (none)) else (none)) = some (r1,r2):=by rw [if_pos rfl] at H;exact H
   clear H
   have H:=H1
   clear H1
   have HC8:=Aside0.mk H
   clear H
   go_enter Try.func7,Try.ntmps7
   go_upto_region 7 with (first|((with_reducible refine gate_callee (f:=14) rfl ?_);refine goesL_ (some 14) rfl rfl Try.func14 (by kernel_rfl) rfl #[.slice A0 l0.length c0] rfl (by (try simp only [List.map_toArray,List.map_cons,List.map_nil]);first|done|rfl|(simp only [List.length_drop,List.length_take];rfl)) ?_;(with_reducible refine (suspend_Check.calls k _ _ l0 t101 _ ?side1 ?side2 A4.out).mono ?_);(case side1=>repeat (first|exact HR0.out|(with_reducible refine Kd.C_alloc ?_ _)|(with_reducible refine Kd.C_drewN ?_ _)|(with_reducible refine Kd.C_drew ?_)));(case side2=>exact HC0.out);rintro e w9 ⟨rfl,hb⟩;refine ⟨_,rfl,?_⟩;have n0_:=Aside0.mk (below_step (by repeat (first|(with_reducible first|exact HB.out|apply below_alloc|apply pw_below_drewN|apply below_drew1)|exact HB.out)) hb);clear HB;have HB:=n0_;clear n0_;(try clear hb);(try clear hb2);(try clear hk);(try clear hi))|((with_reducible refine gate_callee (f:=23) rfl ?_);refine goesL_ (some 21) rfl rfl Try.func23 (by kernel_rfl) rfl #[.slice A0 l0.length c0,.string a1] rfl (by (try simp only [List.map_toArray,List.map_cons,List.map_nil]);first|done|rfl|(simp only [List.length_drop,List.length_take];rfl)) ?_;(with_reducible refine (suspend_place.calls _ _ l0 a1 t102 true _ ?side1 ?side2 A6.out).mono ?_);(case side1=>repeat (first|exact (Kd.C_below HR0.out HB.out)|(with_reducible refine Kd.C_alloc ?_ _)|(with_reducible refine Kd.C_drewN ?_ _)|(with_reducible refine Kd.C_drew ?_)));(case side2=>exact HC0.out);rintro e w10 ⟨rfl,hb⟩;refine ⟨_,rfl,?_⟩;have n0_:=Aside0.mk (below_step (by repeat (first|(with_reducible first|exact HB.out|apply below_alloc|apply pw_below_drewN|apply below_drew1)|exact HB.out)) hb);clear HB;have HB:=n0_;clear n0_;(try clear hb);(try clear hb2);(try clear hk);(try clear hi)))
   (try simp only [Act.put,List.setIfInBounds_toArray,List.set_cons_zero,List.set_cons_succ])
   go_cut [36] (fun v36 wc=>∃ (kq:Nat) (x36_7:Bool),v36 = .bool x36_7 ∧ Aside0 (suspend_Step.j0 kq l0 a2 t102 x36_7 = some (r1,r2)) ∧ Aside0 (kq ≤ k) ∧ Aside0 (Below w.heap.size w wc))
   case first =>
    have H:=HC8.out
    clear HC8
    by_cases c11:0 ≤ t102
    ·rw [if_pos c11] at H
     have c11b0:decide (0 ≤ t102) = true:=decide_eq_true c11
     clear c11
     (first|rw [c11b0]|(simp only [i64_w,i32_w];rw [c11b0])|skip)
     by_cases c12:t102 < (l0.length:Int)
     ·rw [if_pos c12] at H
      have c12b0:decide (t102 < (l0.length:Int)) = true:=decide_eq_true c12
      clear c12
      by_cases c13:a2 ≤ ((rd_T37 l0 t102).f1)
      ·rw [if_pos c13] at H
       have c13b0:decide (a2 ≤ ((rd_T37 l0 t102).f1)) = true:=decide_eq_true c13
       clear c13
       have H':=Aside0.mk H
       clear H
       have p104:0 ≤ (t102:Int):=of_decide_eq_true (by first|(with_reducible assumption)|assumption)
       have q104:t102 < (l0.length:Int):=of_decide_eq_true (by first|(with_reducible assumption)|assumption)
       obtain ⟨ad104,e104,hx104_0,hx104_1,hx104_2⟩:=at_T37 HR0.out t102 p104 q104
       cases e104
       replace hx104_0:=(HB.out.cell (World.block_lt_of_cell? w _ hx104_0)).trans hx104_0
       replace hx104_1:=(HB.out.cell (World.block_lt_of_cell? w _ hx104_1)).trans hx104_1
       replace hx104_2:=(HB.out.cell (World.block_lt_of_cell? w _ hx104_2)).trans hx104_2
       replace p104:=eq_true p104
       replace q104:=eq_true q104
       go_wp2
       go_meet
       case rel=>exact ⟨_,(true),(by first|rfl|(simp;done)|(simp [*];done)),H',⟨by first|omega|exact Nat.le_refl _⟩,⟨by repeat (first|(with_reducible first|exact HB.out|apply below_alloc|apply pw_below_drewN|apply below_drew1)|exact HB.out)⟩⟩
      ·rw [if_neg c13] at H
       have c13b0:decide (a2 ≤ ((rd_T37 l0 t102).f1)) = false:=decide_eq_false c13
       clear c13
       have H':=Aside0.mk H
       clear H
       have p104:0 ≤ (t102:Int):=of_decide_eq_true (by first|(with_reducible assumption)|assumption)
       have q104:t102 < (l0.length:Int):=of_decide_eq_true (by first|(with_reducible assumption)|assumption)
       obtain ⟨ad104,e104,hx104_0,hx104_1,hx104_2⟩:=at_T37 HR0.out t102 p104 q104
       cases e104
       replace hx104_0:=(HB.out.cell (World.block_lt_of_cell? w _ hx104_0)).trans hx104_0
       replace hx104_1:=(HB.out.cell (World.block_lt_of_cell? w _ hx104_1)).trans hx104_1
       replace hx104_2:=(HB.out.cell (World.block_lt_of_cell? w _ hx104_2)).trans hx104_2
       replace p104:=eq_true p104
       replace q104:=eq_true q104
       go_wp2
       go_meet
       case rel=>exact ⟨_,(decide (a2 > 7)),(by first|rfl|(simp;done)|(simp [*];done)),H',⟨by first|omega|exact Nat.le_refl _⟩,⟨by repeat (first|(with_reducible first|exact HB.out|apply below_alloc|apply pw_below_drewN|apply below_drew1)|exact HB.out)⟩⟩
     ·rw [if_neg c12] at H
      exact absurd H (by simp)
    ·rw [if_neg c11] at H
     exact absurd H (by simp)
   case rest =>
    clear HC8
    try clear c1
    try clear p1
    try clear q1
    try clear hx1
    try clear c2
    try clear p2
    try clear c5
    try clear c5b0
    try clear c5b1
    try clear c7
    try clear p10
    try clear q10
    try clear hx10
    try clear c11
    try clear c11b0
    try clear c12
    try clear c12b0
    try clear c13
    try clear c13b0
    try clear hx104_0
    try clear hx104_1
    try clear hx104_2
    try clear p104
    try clear q104
    obtain ⟨kq,x36_7,rfl,HA,HJ7,HB⟩:=hcut
    cases kq with
    | zero=>exact absurd HA.out (by simp [suspend_Step.j0])
    | succ kj7 =>
     have H:=HA.out
     clear HA
     simp only [suspend_Step.j0] at H
     by_cases c14:x36_7 = true
     ·subst c14
      have H1:(some (([]:List (S37)),13)) = some (r1,r2):=by rw [if_pos rfl] at H;exact H
      clear H
      have H:=H1
      clear H1
      simp only [Option.some.injEq,Prod.mk.injEq] at H
      obtain ⟨rfl,rfl⟩:=H
      go_wp2
      go_ret2
      exact ⟨_,by first|rfl|(simp [errW_none,errW_some] <;> rfl)|(simp [*,errW_none,errW_some] <;> rfl),by first|exact Kd.R_nil _ _ _ _ _|exact Kd.N_nil _ _ _ _ _|exact Kd.V_nil _ _ _ _ _|exact Kd.Q_nil _ _ _ _ _|exact Kd.S_nil _ _ _ _ _,by repeat (first|(with_reducible first|exact HB.out|apply below_alloc|apply pw_below_drewN|apply below_drew1)|exact HB.out)⟩
     ·replace c14:=Bool.eq_false_iff.mpr c14
      subst c14
      have H1:(if 0 ≤ t102 then (if t102 < (l0.length:Int) then (suspend_Step.l0 kj7 l0 a2 t102 (wrap64 (((rd_T37 l0 t102).f1) + 1))) else (none)) else (none)) = some (r1,r2):=by rw [if_neg (show ¬ (false = true) by decide)] at H;exact H
      clear H
      have H:=H1
      clear H1
      by_cases c15:0 ≤ t102
      ·rw [if_pos c15] at H
       have c15b0:decide (0 ≤ t102) = true:=decide_eq_true c15
       clear c15
       by_cases c16:t102 < (l0.length:Int)
       ·rw [if_pos c16] at H
        have c16b0:decide (t102 < (l0.length:Int)) = true:=decide_eq_true c16
        clear c16
        have H':=Aside0.mk H
        clear H
        have p105:0 ≤ (t102:Int):=of_decide_eq_true (by first|(with_reducible assumption)|assumption)
        have q105:t102 < (l0.length:Int):=of_decide_eq_true (by first|(with_reducible assumption)|assumption)
        obtain ⟨ad105,e105,hx105_0,hx105_1,hx105_2⟩:=at_T37 HR0.out t102 p105 q105
        cases e105
        replace hx105_0:=(HB.out.cell (World.block_lt_of_cell? w _ hx105_0)).trans hx105_0
        replace hx105_1:=(HB.out.cell (World.block_lt_of_cell? w _ hx105_1)).trans hx105_1
        replace hx105_2:=(HB.out.cell (World.block_lt_of_cell? w _ hx105_2)).trans hx105_2
        replace p105:=eq_true p105
        replace q105:=eq_true q105
        go_wp2
        go_loopg [11] kj7 (fun kq v11 w'=>∃ (x11_2:Int),v11 = .int .i64 x11_2 ∧ Aside0 (suspend_Step.l0 kq l0 a2 t102 x11_2 = some (r1,r2)) ∧ Aside0 (kq ≤ kj7) ∧ Aside0 (Below w.heap.size w w'))
        case atStart=>exact ⟨(wrap64 (((rd_T37 l0 t102).f1) + 1)),(by first|rfl|(simp;done)|(simp [*];done)),H',⟨Nat.le_refl _⟩,⟨by repeat (first|(with_reducible first|exact HB.out|apply below_alloc|apply pw_below_drewN|apply below_drew1)|exact HB.out)⟩⟩
        case round =>
         clear H'
         try clear c1
         try clear p1
         try clear q1
         try clear hx1
         try clear c2
         try clear p2
         try clear c5
         try clear c5b0
         try clear c5b1
         try clear p6
         try clear c7
         try clear p10
         try clear q10
         try clear hx10
         try clear c11
         try clear c11b0
         try clear c12
         try clear c12b0
         try clear c13
         try clear c13b0
         try clear c14
         try clear c15
         try clear c15b0
         try clear c16
         try clear c16b0
         try clear hx104_0
         try clear hx104_1
         try clear hx104_2
         try clear hx105_0
         try clear hx105_1
         try clear hx105_2
         try clear p1
         try clear p10
         try clear p104
         try clear p105
         try clear p2
         try clear q1
         try clear q10
         try clear q104
         try clear q105
         obtain ⟨x11_2,rfl,HA,HK2,HB⟩:=hrel
         cases gk with
         | zero=>exact absurd HA.out (by simp [suspend_Step.l0])
         | succ k2 =>
          have H:=HA.out
          clear HA
          simp only [suspend_Step.l0] at H
          by_cases c17:x11_2 < a2
          ·rw [if_pos c17] at H
           have c17b0:decide (x11_2 < a2) = true:=decide_eq_true c17
           clear c17
           replace H:=Option.bind_eq_some_iff.mp H
           obtain ⟨t106,A180,H⟩:=H
           replace H:(if t106 = true then (some (([]:List (S37)),13)) else (suspend_Step.l0 k2 l0 a2 t102 (wrap64 (x11_2 + 1)))) = some (r1,r2):=H
           have A18:=Aside0.mk A180
           clear A180
           by_cases c19:t106 = true
           ·subst c19
            have H1:(some (([]:List (S37)),13)) = some (r1,r2):=by rw [if_pos rfl] at H;exact H
            clear H
            have H:=H1
            clear H1
            simp only [Option.some.injEq,Prod.mk.injEq] at H
            obtain ⟨rfl,rfl⟩:=H
            go_wp2_with (first|((with_reducible refine gate_callee (f:=24) rfl ?_);refine goesL_ (some 49) rfl rfl Try.func24 (by kernel_rfl) rfl #[.int .i64 x11_2] rfl (by (try simp only [List.map_toArray,List.map_cons,List.map_nil]);first|done|rfl|(simp only [List.length_drop,List.length_take];rfl)) ?_;(with_reducible refine (suspend_must.calls x11_2 true _ A18.out).mono ?_);rintro e w' ⟨rfl,⟨nd,rfl⟩⟩;refine ⟨_,rfl,?_⟩))
            go_ret2
            exact ⟨_,by first|rfl|(simp [errW_none,errW_some] <;> rfl)|(simp [*,errW_none,errW_some] <;> rfl),by first|exact Kd.R_nil _ _ _ _ _|exact Kd.N_nil _ _ _ _ _|exact Kd.V_nil _ _ _ _ _|exact Kd.Q_nil _ _ _ _ _|exact Kd.S_nil _ _ _ _ _,by repeat (first|(with_reducible first|exact HB.out|apply below_alloc|apply pw_below_drewN|apply below_drew1)|exact HB.out)⟩
           ·replace c19:=Bool.eq_false_iff.mpr c19
            subst c19
            have H1:(suspend_Step.l0 k2 l0 a2 t102 (wrap64 (x11_2 + 1))) = some (r1,r2):=by rw [if_neg (show ¬ (false = true) by decide)] at H;exact H
            clear H
            have H:=H1
            clear H1
            have H':=Aside0.mk H
            clear H
            go_wp2_with (first|((with_reducible refine gate_callee (f:=24) rfl ?_);refine goesL_ (some 49) rfl rfl Try.func24 (by kernel_rfl) rfl #[.int .i64 x11_2] rfl (by (try simp only [List.map_toArray,List.map_cons,List.map_nil]);first|done|rfl|(simp only [List.length_drop,List.length_take];rfl)) ?_;(with_reducible refine (suspend_must.calls x11_2 false _ A18.out).mono ?_);rintro e w' ⟨rfl,⟨nd,rfl⟩⟩;refine ⟨_,rfl,?_⟩))
            go_roundg k2
            case measure=>have:=HJ7.out;have:=HK2.out;omega
            case rel=>exact ⟨(wrap64 (x11_2 + 1)),(by first|rfl|(simp;done)|(simp [*];done)),H',⟨by have:=HJ7.out;have:=HK2.out;omega⟩,⟨by repeat (first|(with_reducible first|exact HB.out|apply below_alloc|apply pw_below_drewN|apply below_drew1)|exact HB.out)⟩⟩
          ·rw [if_neg c17] at H
           have c17b0:decide (x11_2 < a2) = false:=decide_eq_false c17
           clear c17
           replace H:=Option.bind_eq_some_iff.mp H
           obtain ⟨t107,A200,H⟩:=H
           replace H:(if 0 ≤ t102 then (if t102 < (t107.length:Int) then (some ((t107.set (t102:Int).toNat (⟨(rd_T37 t107 t102).f0,a2,(rd_T37 t107 t102).f2⟩:S37)),0)) else (none)) else (none)) = some (r1,r2):=H
           have A20:=Aside0.mk A200
           clear A200
           by_cases c21:0 ≤ t102
           ·rw [if_pos c21] at H
            have c21b0:decide (0 ≤ t102) = true:=decide_eq_true c21
            clear c21
            by_cases c22:t102 < (t107.length:Int)
            ·rw [if_pos c22] at H
             have c22b0:decide (t102 < (t107.length:Int)) = true:=decide_eq_true c22
             clear c22
             obtain ⟨y110,hy110⟩:∃ y_:List (S37),y_ = (t107.set (t102:Int).toNat (⟨(rd_T37 t107 t102).f0,a2,(rd_T37 t107 t102).f2⟩:S37)):=⟨_,rfl⟩
             replace H:(some (y110,0)) = some (r1,r2):=by first|(rw [hy110];with_reducible exact H)|(have H2_:=(Option.bind_some _ _).symm.trans H;rw [hy110];with_reducible exact H2_)|(have H2_:=(Option.bind_some _ _).symm.trans H;with_reducible exact H2_)|with_reducible exact H|(rw [hy110];exact H)|exact H
             have Ny110:=Aside0.mk hy110
             clear hy110
             simp only [Option.some.injEq,Prod.mk.injEq] at H
             obtain ⟨rfl,rfl⟩:=H
             go_wp2_with (first|((with_reducible refine gate_callee (f:=25) rfl ?_);refine goesL_ (some 51) rfl rfl Try.func25 (by kernel_rfl) rfl #[.slice (some ad105) l0.length c0] rfl (by (try simp only [List.map_toArray,List.map_cons,List.map_nil]);first|done|rfl|(simp only [List.length_drop,List.length_take];rfl)) ?_;(with_reducible refine (suspend_Case_25.calls _ _ l0 t107 _ ?side1 ?side2 A20.out).mono ?_);(case side1=>repeat (first|exact (Kd.C_below HR0.out HB.out)|(with_reducible refine Kd.C_alloc ?_ _)|(with_reducible refine Kd.C_drewN ?_ _)|(with_reducible refine Kd.C_drew ?_)));(case side2=>exact HC0.out);rintro e w24 ⟨v108,rfl,ho0,hb⟩;refine ⟨_,rfl,?_⟩;have n0_:=Aside0.mk (Kd.R_lower ho0 (below_size (by repeat (first|(with_reducible first|exact HB.out|apply below_alloc|apply pw_below_drewN|apply below_drew1)|exact HB.out))));have n1_:=Aside0.mk (below_step (by repeat (first|(with_reducible first|exact HB.out|apply below_alloc|apply pw_below_drewN|apply below_drew1)|exact HB.out)) hb);clear HB;have HO109:=n0_;have HB:=n1_;clear n0_ n1_;(try clear hb);(try clear hb2);(try clear hk);(try clear hi);(try clear ho0);have p23:0 ≤ (t102:Int):=of_decide_eq_true (by first|(with_reducible assumption)|assumption);have q23:(t102:Int) < ((t107.length:Int):Int):=of_decide_eq_true (by first|(with_reducible assumption)|assumption);obtain ⟨go23,co23,eo23,gb23,gl23,cl23,HG23⟩:=Kd.R_form HO109.out (by omega);(first|cases eo23|(injection eo23 with ea_ en_ ec_;(first|subst ea_|(injection ea_ with ea_;subst ea_));subst ec_;clear en_));have GB23:=Aside0.mk gb23;have GG23:=Aside0.mk HG23;clear gb23 gl23 HG23;obtain ⟨ce23,hcl23,hM23,hcc23,hfr23⟩:=Kd.R_elem HO109.out z37 (t102:Int) p23 q23;obtain rfl:=k37_openM hM23;have hx23_0:w24.cell? ⟨go23,(t102:Int).toNat * 3,none⟩ = some (.string ((rd_T37 t107 t102).f0)):=hcc23 0 _ rfl;have hx23_1:w24.cell? ⟨go23,(t102:Int).toNat * 3 + 1,none⟩ = some (.int .i64 ((rd_T37 t107 t102).f1)):=hcc23 1 _ rfl;have hx23_2:w24.cell? ⟨go23,(t102:Int).toNat * 3 + 2,none⟩ = some (.int .i64 ((rd_T37 t107 t102).f2)):=hcc23 2 _ rfl;have hf23_0:w24.frozen? ⟨go23,(t102:Int).toNat * 3,none⟩ = false:=hfr23 0;have hf23_1:w24.frozen? ⟨go23,(t102:Int).toNat * 3 + 1,none⟩ = false:=hfr23 1;have hf23_2:w24.frozen? ⟨go23,(t102:Int).toNat * 3 + 2,none⟩ = false:=hfr23 2;clear hcl23 hcc23 hfr23 hM23;replace p23:=eq_true p23;replace q23:=eq_true q23;have HX25:=Aside0.mk (show Kd.R k37 37 w24 w.heap.size (fun _=>True) (.slice (some ⟨go23,0,none⟩) t107.length co23) t107 from (by (with_reducible repeat (first|apply Kd.R_alloc|apply Kd.R_drewN|apply Kd.R_drew));exact HO109.out));obtain ⟨ce25,hcl25,hM25,hcc25,hfr25⟩:=Kd.R_elem HX25.out z37 (t102:Int) (of_decide_eq_true (by first|(with_reducible assumption)|assumption)) (by have h_:(t102:Int) < ((t107.length:Int):Int):=of_decide_eq_true (by first|(with_reducible assumption)|assumption);first|exact h_|(have e_:=(Kd.R_reads' HO109.out).1;omega)|simpa using h_);obtain rfl:=k37_openM hM25;have HP25:=Kd.R_seg HX25.out (t102:Int) (of_decide_eq_true (by first|(with_reducible assumption)|assumption)) (by have h_:(t102:Int) < ((t107.length:Int):Int):=of_decide_eq_true (by first|(with_reducible assumption)|assumption);first|exact h_|(have e_:=(Kd.R_reads' HO109.out).1;omega)|simpa using h_) (seg:=[.int .i64 a2]) (j:=1) hcl25 hcc25 (show 2 ≤ 3 from by decide) (x':=(⟨(rd_T37 t107 t102).f0,a2,(rd_T37 t107 t102).f2⟩:S37)) (k37_mkM _ _ _ (⟨(rd_T37 t107 t102).f0,a2,(rd_T37 t107 t102).f2⟩:S37) ) (fun _ hk=>hk);have hx25_1:=hcc25 1 _ rfl;(try simp only [show (k37).sz = 3 from rfl,Nat.mul_one,Nat.add_zero] at hx25_1);have hf25_1:=hfr25 1;(try simp only [show (k37).sz = 3 from rfl,Nat.mul_one,Nat.add_zero] at hf25_1);clear hcl25 hcc25 hfr25 hM25)|((with_reducible refine gate_store (t:=3) (p:=56) rfl ?_);refine store_event (t:=3) (p:=56) (v:=?vo_w26) (w1:=(w24.setCell ⟨go23,(t102:Int).toNat * 3 + 1,none⟩ (.int .i64 a2))) ?hg ?ho ?hn ?hr ?_;(case ho=>rfl);(case hg=>rfl);(case hn=>rfl);(case hr=>first|(go_simp;done)|(go_simp;rfl));intro w26 hw;have hg:w24.grownBy w26 (some go23):=(by rw [hw];exact HP25.2);have hp_:Kd.R k37 37 w26 w.heap.size (fun _=>True) (.slice (some ⟨go23,0,none⟩) t107.length co23) y110:=(by rw [hw,Ny110.out];exact HP25.1);clear HP25;have n0_:=Aside0.mk (hp_);have n1_:=Aside0.mk ((by rw [hw];exact below_set (HB.out) GB23.out:Below w.heap.size w w26));clear HO109;clear HB;have HO109:=n0_;have HB:=n1_;clear n0_ n1_;clear hg hw hp_))
             go_ret2
             exact ⟨_,by first|rfl|(simp [errW_none,errW_some] <;> rfl)|(simp [*,errW_none,errW_some] <;> rfl),by (with_reducible repeat (first|apply Kd.R_alloc|apply Kd.R_drewN|apply Kd.R_drew));exact HO109.out,by repeat (first|(with_reducible first|exact HB.out|apply below_alloc|apply pw_below_drewN|apply below_drew1)|exact HB.out)⟩
            ·rw [if_neg c22] at H
             exact absurd H (by simp)
           ·rw [if_neg c21] at H
            exact absurd H (by simp)
       ·rw [if_neg c16] at H
        exact absurd H (by simp)
      ·rw [if_neg c15] at H
       exact absurd H (by simp)
  ·replace c7:=Bool.eq_false_iff.mpr c7
   subst c7
   have H1:(some (([]:List (S37)),11)) = some (r1,r2):=by rw [if_neg (show ¬ (false = true) by decide)] at H;exact H
   clear H
   have H:=H1
   clear H1
   simp only [Option.some.injEq,Prod.mk.injEq] at H
   obtain ⟨rfl,rfl⟩:=H
   go_enter Try.func7,Try.ntmps7
   go_wp2_with (first|((with_reducible refine gate_callee (f:=14) rfl ?_);refine goesL_ (some 14) rfl rfl Try.func14 (by kernel_rfl) rfl #[.slice A0 l0.length c0] rfl (by (try simp only [List.map_toArray,List.map_cons,List.map_nil]);first|done|rfl|(simp only [List.length_drop,List.length_take];rfl)) ?_;(with_reducible refine (suspend_Check.calls k _ _ l0 t101 _ ?side1 ?side2 A4.out).mono ?_);(case side1=>repeat (first|exact HR0.out|(with_reducible refine Kd.C_alloc ?_ _)|(with_reducible refine Kd.C_drewN ?_ _)|(with_reducible refine Kd.C_drew ?_)));(case side2=>exact HC0.out);rintro e w27 ⟨rfl,hb⟩;refine ⟨_,rfl,?_⟩;have n0_:=Aside0.mk (below_step (by repeat (first|(with_reducible first|exact HB.out|apply below_alloc|apply pw_below_drewN|apply below_drew1)|exact HB.out)) hb);clear HB;have HB:=n0_;clear n0_;(try clear hb);(try clear hb2);(try clear hk);(try clear hi))|((with_reducible refine gate_callee (f:=23) rfl ?_);refine goesL_ (some 21) rfl rfl Try.func23 (by kernel_rfl) rfl #[.slice A0 l0.length c0,.string a1] rfl (by (try simp only [List.map_toArray,List.map_cons,List.map_nil]);first|done|rfl|(simp only [List.length_drop,List.length_take];rfl)) ?_;(with_reducible refine (suspend_place.calls _ _ l0 a1 t102 false _ ?side1 ?side2 A6.out).mono ?_);(case side1=>repeat (first|exact (Kd.C_below HR0.out HB.out)|(with_reducible refine Kd.C_alloc ?_ _)|(with_reducible refine Kd.C_drewN ?_ _)|(with_reducible refine Kd.C_drew ?_)));(case side2=>exact HC0.out);rintro e w28 ⟨rfl,hb⟩;refine ⟨_,rfl,?_⟩;have n0_:=Aside0.mk (below_step (by repeat (first|(with_reducible first|exact HB.out|apply below_alloc|apply pw_below_drewN|apply below_drew1)|exact HB.out)) hb);clear HB;have HB:=n0_;clear n0_;(try clear hb);(try clear hb2);(try clear hk);(try clear hi)))
   go_ret2
   exact ⟨_,by first|rfl|(simp [errW_none,errW_some] <;> rfl)|(simp [*,errW_none,errW_some] <;> rfl),by first|exact Kd.R_nil _ _ _ _ _|exact Kd.N_nil _ _ _ _ _|exact Kd.V_nil _ _ _ _ _|exact Kd.Q_nil _ _ _ _ _|exact Kd.S_nil _ _ _ _ _,by repeat (first|(with_reducible first|exact HB.out|apply below_alloc|apply pw_below_drewN|apply below_drew1)|exact HB.out)⟩
 ·rw [if_neg c5] at H
  have c5b0:(t101 == 0) = false:=beq_eq_false_iff_ne.mpr c5
  have c5b1:(t101 != 0) = true:=bne_iff_ne.mpr c5
  simp only [Option.some.injEq,Prod.mk.injEq] at H
  obtain ⟨rfl,rfl⟩:=H
  go_enter Try.func7,Try.ntmps7
  go_wp2_with (first|((with_reducible refine gate_callee (f:=14) rfl ?_);refine goesL_ (some 14) rfl rfl Try.func14 (by kernel_rfl) rfl #[.slice A0 l0.length c0] rfl (by (try simp only [List.map_toArray,List.map_cons,List.map_nil]);first|done|rfl|(simp only [List.length_drop,List.length_take];rfl)) ?_;(with_reducible refine (suspend_Check.calls k _ _ l0 t101 _ ?side1 ?side2 A4.out).mono ?_);(case side1=>repeat (first|exact HR0.out|(with_reducible refine Kd.C_alloc ?_ _)|(with_reducible refine Kd.C_drewN ?_ _)|(with_reducible refine Kd.C_drew ?_)));(case side2=>exact HC0.out);rintro e w29 ⟨rfl,hb⟩;refine ⟨_,rfl,?_⟩;have n0_:=Aside0.mk (below_step (by repeat (first|(with_reducible first|exact HB.out|apply below_alloc|apply pw_below_drewN|apply below_drew1)|exact HB.out)) hb);clear HB;have HB:=n0_;clear n0_;(try clear hb);(try clear hb2);(try clear hk);(try clear hi)))
  go_ret2
  exact ⟨_,by first|rfl|(simp [errW_none,errW_some] <;> rfl)|(simp [*,errW_none,errW_some] <;> rfl),by first|exact Kd.R_nil _ _ _ _ _|exact Kd.N_nil _ _ _ _ _|exact Kd.V_nil _ _ _ _ _|exact Kd.Q_nil _ _ _ _ _|exact Kd.S_nil _ _ _ _ _,by repeat (first|(with_reducible first|exact HB.out|apply below_alloc|apply pw_below_drewN|apply below_drew1)|exact HB.out)⟩
end Go.Proofs.Ytgmelgkcoejknaa.X
end
section
namespace Go.Proofs.Ytgmelgkcoejknaa.X
open Go.RowKit Go.Proofs.YtgmelgkcoejknaaW.PrintWords Go.Proofs.YtgmelgkcoejknaaW.PrintLast Go.Proofs.YtgmelgkcoejknaaW.PrintMore
attribute [local go_sem] max2_int min2_int max_two min_two max_three min_three max_four min_four
set_option linter.unusedVariables false
set_option linter.unusedSimpArgs false
def contangolaw41_goes.f (k:Nat)  : Option (Bool):=(suspend_Declare.f k ([]:List (S37)) (⟨#[97]⟩:ByteArray) 5).bind fun bt101=>((suspend_Step.f k bt101.1 (⟨#[97]⟩:ByteArray) 3).bind fun bt105=>((suspend_Step.f k bt101.1 (⟨#[97]⟩:ByteArray) 2).bind fun bt109=>((suspend_Step.f k bt109.1 (⟨#[97]⟩:ByteArray) 5).bind fun bt113=>(if bt101.2 = 0 then (if (bt101.1.length:Int) = 1 then (if 0 < (bt101.1.length:Int) then (if ((rd_T37 bt101.1 0).f1) = 1 then (if bt105.2 = 13 then (if bt109.2 = 0 then (if bt113.2 = 0 then (if (bt113.1.length:Int) = 1 then (if 0 < (bt113.1.length:Int) then (if ((rd_T37 bt113.1 0).f1) = 5 then ((suspend_May.f k 2 5).bind fun t119=>(if t119 = true then ((suspend_May.f k 5 4).bind fun t120=>(if t120 = true then (none) else ((suspend_May.f k 7 7).bind fun t121=>(some (!t121))))) else (none))) else (none)) else (none)) else (none)) else (none)) else (none)) else (none)) else (none)) else (none)) else (none)) else (none)))))
theorem contangolaw41_goes.mono:∀ k,LeO (contangolaw41_goes.f k ) (contangolaw41_goes.f (k + 1) ):=by
 intro  k
 unfold contangolaw41_goes.f
 repeat' first
   | (with_reducible exact suspend_Declare.mono _ _ _ _)
   | (with_reducible exact suspend_May.mono _ _ _)
   | (with_reducible exact suspend_Step.mono _ _ _ _)
   | (with_reducible exact LeO.refl _)
   | (with_reducible exact LeO.none _)
   | (with_reducible refine LeO.ite ?_ ?_)
   | (with_reducible refine LeO.bind ?_ (fun _=>?_))
   | exact suspend_Declare.mono _ _ _ _
   | exact suspend_May.mono _ _ _
   | exact suspend_Step.mono _ _ _ _
   | exact LeO.none _
   | refine LeO.ite ?_ ?_
   | refine LeO.bind ?_ (fun _=>?_)
set_option maxHeartbeats 8000000 in
set_option maxRecDepth 100000 in
theorem contangolaw41_goes.calls (k:Nat)  (r:Bool) (w:World) (h:contangolaw41_goes.f k  = some r) :
  Calls Try.prog 11 #[] w fun e w'=>e = .returned (.bool r) ∧ Below w.heap.size w w':=by
 have HB:=Aside0.mk (Below.refl w.heap.size w)
 have H:((suspend_Declare.f k ([]:List (S37)) (⟨#[97]⟩:ByteArray) 5).bind fun bt101=>((suspend_Step.f k bt101.1 (⟨#[97]⟩:ByteArray) 3).bind fun bt105=>((suspend_Step.f k bt101.1 (⟨#[97]⟩:ByteArray) 2).bind fun bt109=>((suspend_Step.f k bt109.1 (⟨#[97]⟩:ByteArray) 5).bind fun bt113=>(if bt101.2 = 0 then (if (bt101.1.length:Int) = 1 then (if 0 < (bt101.1.length:Int) then (if ((rd_T37 bt101.1 0).f1) = 1 then (if bt105.2 = 13 then (if bt109.2 = 0 then (if bt113.2 = 0 then (if (bt113.1.length:Int) = 1 then (if 0 < (bt113.1.length:Int) then (if ((rd_T37 bt113.1 0).f1) = 5 then ((suspend_May.f k 2 5).bind fun t119=>(if t119 = true then ((suspend_May.f k 5 4).bind fun t120=>(if t120 = true then (none) else ((suspend_May.f k 7 7).bind fun t121=>(some (!t121))))) else (none))) else (none)) else (none)) else (none)) else (none)) else (none)) else (none)) else (none)) else (none)) else (none)) else (none)))))) = some r:=h
 clear h
 replace H:=Option.bind_eq_some_iff.mp H
 obtain ⟨⟨t101,t102⟩,A10,H⟩:=H
 replace H:((suspend_Step.f k t101 (⟨#[97]⟩:ByteArray) 3).bind fun bt105=>((suspend_Step.f k t101 (⟨#[97]⟩:ByteArray) 2).bind fun bt109=>((suspend_Step.f k bt109.1 (⟨#[97]⟩:ByteArray) 5).bind fun bt113=>(if t102 = 0 then (if (t101.length:Int) = 1 then (if 0 < (t101.length:Int) then (if ((rd_T37 t101 0).f1) = 1 then (if bt105.2 = 13 then (if bt109.2 = 0 then (if bt113.2 = 0 then (if (bt113.1.length:Int) = 1 then (if 0 < (bt113.1.length:Int) then (if ((rd_T37 bt113.1 0).f1) = 5 then ((suspend_May.f k 2 5).bind fun t119=>(if t119 = true then ((suspend_May.f k 5 4).bind fun t120=>(if t120 = true then (none) else ((suspend_May.f k 7 7).bind fun t121=>(some (!t121))))) else (none))) else (none)) else (none)) else (none)) else (none)) else (none)) else (none)) else (none)) else (none)) else (none)) else (none))))) = some r:=H
 have A1:=Aside0.mk A10
 clear A10
 replace H:=Option.bind_eq_some_iff.mp H
 obtain ⟨⟨t105,t106⟩,A20,H⟩:=H
 replace H:((suspend_Step.f k t101 (⟨#[97]⟩:ByteArray) 2).bind fun bt109=>((suspend_Step.f k bt109.1 (⟨#[97]⟩:ByteArray) 5).bind fun bt113=>(if t102 = 0 then (if (t101.length:Int) = 1 then (if 0 < (t101.length:Int) then (if ((rd_T37 t101 0).f1) = 1 then (if t106 = 13 then (if bt109.2 = 0 then (if bt113.2 = 0 then (if (bt113.1.length:Int) = 1 then (if 0 < (bt113.1.length:Int) then (if ((rd_T37 bt113.1 0).f1) = 5 then ((suspend_May.f k 2 5).bind fun t119=>(if t119 = true then ((suspend_May.f k 5 4).bind fun t120=>(if t120 = true then (none) else ((suspend_May.f k 7 7).bind fun t121=>(some (!t121))))) else (none))) else (none)) else (none)) else (none)) else (none)) else (none)) else (none)) else (none)) else (none)) else (none)) else (none)))) = some r:=H
 have A2:=Aside0.mk A20
 clear A20
 replace H:=Option.bind_eq_some_iff.mp H
 obtain ⟨⟨t109,t110⟩,A30,H⟩:=H
 replace H:((suspend_Step.f k t109 (⟨#[97]⟩:ByteArray) 5).bind fun bt113=>(if t102 = 0 then (if (t101.length:Int) = 1 then (if 0 < (t101.length:Int) then (if ((rd_T37 t101 0).f1) = 1 then (if t106 = 13 then (if t110 = 0 then (if bt113.2 = 0 then (if (bt113.1.length:Int) = 1 then (if 0 < (bt113.1.length:Int) then (if ((rd_T37 bt113.1 0).f1) = 5 then ((suspend_May.f k 2 5).bind fun t119=>(if t119 = true then ((suspend_May.f k 5 4).bind fun t120=>(if t120 = true then (none) else ((suspend_May.f k 7 7).bind fun t121=>(some (!t121))))) else (none))) else (none)) else (none)) else (none)) else (none)) else (none)) else (none)) else (none)) else (none)) else (none)) else (none))) = some r:=H
 have A3:=Aside0.mk A30
 clear A30
 replace H:=Option.bind_eq_some_iff.mp H
 obtain ⟨⟨t113,t114⟩,A40,H⟩:=H
 replace H:(if t102 = 0 then (if (t101.length:Int) = 1 then (if 0 < (t101.length:Int) then (if ((rd_T37 t101 0).f1) = 1 then (if t106 = 13 then (if t110 = 0 then (if t114 = 0 then (if (t113.length:Int) = 1 then (if 0 < (t113.length:Int) then (if ((rd_T37 t113 0).f1) = 5 then ((suspend_May.f k 2 5).bind fun t119=>(if t119 = true then ((suspend_May.f k 5 4).bind fun t120=>(if t120 = true then (none) else ((suspend_May.f k 7 7).bind fun t121=>(some (!t121))))) else (none))) else (none)) else (none)) else (none)) else (none)) else (none)) else (none)) else (none)) else (none)) else (none)) else (none)) = some r:=H
 have A4:=Aside0.mk A40
 clear A40
 by_cases c5:t102 = 0
 ·rw [if_pos c5] at H
  have c5b0:(t102 == 0) = true:=beq_iff_eq.mpr c5
  have c5b1:(t102 != 0) = false:=bne_eq_false_iff_eq.mpr c5
  clear c5
  by_cases c6:(t101.length:Int) = 1
  ·rw [if_pos c6] at H
   have c6b0:((t101.length:Int) == 1) = true:=beq_iff_eq.mpr c6
   have c6b1:((t101.length:Int) != 1) = false:=bne_eq_false_iff_eq.mpr c6
   clear c6
   by_cases c7:0 < (t101.length:Int)
   ·rw [if_pos c7] at H
    have c7b0:decide (0 < (t101.length:Int)) = true:=decide_eq_true c7
    have c7b1:decide (0 < t101.length) = true:=decide_eq_true (by omega)
    clear c7
    by_cases c8:((rd_T37 t101 0).f1) = 1
    ·rw [if_pos c8] at H
     have c8b0:(((rd_T37 t101 0).f1) == 1) = true:=beq_iff_eq.mpr c8
     have c8b1:(((rd_T37 t101 0).f1) != 1) = false:=bne_eq_false_iff_eq.mpr c8
     clear c8
     by_cases c9:t106 = 13
     ·rw [if_pos c9] at H
      have c9b0:(t106 == 13) = true:=beq_iff_eq.mpr c9
      have c9b1:(t106 != 13) = false:=bne_eq_false_iff_eq.mpr c9
      clear c9
      by_cases c10:t110 = 0
      ·rw [if_pos c10] at H
       have c10b0:(t110 == 0) = true:=beq_iff_eq.mpr c10
       have c10b1:(t110 != 0) = false:=bne_eq_false_iff_eq.mpr c10
       clear c10
       by_cases c11:t114 = 0
       ·rw [if_pos c11] at H
        have c11b0:(t114 == 0) = true:=beq_iff_eq.mpr c11
        have c11b1:(t114 != 0) = false:=bne_eq_false_iff_eq.mpr c11
        clear c11
        by_cases c12:(t113.length:Int) = 1
        ·rw [if_pos c12] at H
         have c12b0:((t113.length:Int) == 1) = true:=beq_iff_eq.mpr c12
         have c12b1:((t113.length:Int) != 1) = false:=bne_eq_false_iff_eq.mpr c12
         clear c12
         by_cases c13:0 < (t113.length:Int)
         ·rw [if_pos c13] at H
          have c13b0:decide (0 < (t113.length:Int)) = true:=decide_eq_true c13
          have c13b1:decide (0 < t113.length) = true:=decide_eq_true (by omega)
          clear c13
          by_cases c14:((rd_T37 t113 0).f1) = 5
          ·rw [if_pos c14] at H
           have c14b0:(((rd_T37 t113 0).f1) == 5) = true:=beq_iff_eq.mpr c14
           have c14b1:(((rd_T37 t113 0).f1) != 5) = false:=bne_eq_false_iff_eq.mpr c14
           clear c14
           replace H:=Option.bind_eq_some_iff.mp H
           obtain ⟨t119,A150,H⟩:=H
           replace H:(if t119 = true then ((suspend_May.f k 5 4).bind fun t120=>(if t120 = true then (none) else ((suspend_May.f k 7 7).bind fun t121=>(some (!t121))))) else (none)) = some r:=H
           have A15:=Aside0.mk A150
           clear A150
           by_cases c16:t119 = true
           ·subst c16
            have H1:((suspend_May.f k 5 4).bind fun t120=>(if t120 = true then (none) else ((suspend_May.f k 7 7).bind fun t121=>(some (!t121))))) = some r:=by rw [if_pos rfl] at H;exact H
            clear H
            have H:=H1
            clear H1
            replace H:=Option.bind_eq_some_iff.mp H
            obtain ⟨t120,A170,H⟩:=H
            replace H:(if t120 = true then (none) else ((suspend_May.f k 7 7).bind fun t121=>(some (!t121)))) = some r:=H
            have A17:=Aside0.mk A170
            clear A170
            by_cases c18:t120 = true
            ·subst c18
             have H1:(none) = some r:=by rw [if_pos rfl] at H;exact H
             clear H
             have H:=H1
             clear H1
             exact absurd H (by simp)
            ·replace c18:=Bool.eq_false_iff.mpr c18
             subst c18
             have H1:((suspend_May.f k 7 7).bind fun t121=>(some (!t121))) = some r:=by rw [if_neg (show ¬ (false = true) by decide)] at H;exact H
             clear H
             have H:=H1
             clear H1
             replace H:=Option.bind_eq_some_iff.mp H
             obtain ⟨t121,A190,H⟩:=H
             replace H:(some (!t121)) = some r:=H
             have A19:=Aside0.mk A190
             clear A190
             obtain rfl:=Option.some.inj H
             go_enter Try.func11,Try.ntmps11
             go_wp2_with (first|((with_reducible refine gate_callee (f:=16) rfl ?_);refine goesL_ (some 10) rfl rfl Try.func16 (by kernel_rfl) rfl #[.slice none 0 0,.string (⟨#[97]⟩:ByteArray),.int .i64 5] rfl (by (try simp only [List.map_toArray,List.map_cons,List.map_nil]);first|done|rfl|(simp only [List.length_drop,List.length_take];rfl)) ?_;(refine (suspend_Declare.calls k _ _ ([]:List (S37)) (⟨#[97]⟩:ByteArray) 5 t101 t102 _ ?side1 ?side2 A1.out).mono ?_);(case side1=>exact Kd.C_nil _ _);(case side2=>exact Nat.le_refl _);rintro e w20 ⟨v103,rfl,ho0,hb⟩;refine ⟨_,rfl,?_⟩;have n0_:=Aside0.mk (Kd.R_lower ho0 (below_size (by repeat (first|(with_reducible first|exact HB.out|apply below_alloc|apply pw_below_drewN|apply below_drew1)|exact HB.out))));have n1_:=Aside0.mk (below_step (by repeat (first|(with_reducible first|exact HB.out|apply below_alloc|apply pw_below_drewN|apply below_drew1)|exact HB.out)) hb);clear HB;have HO104:=n0_;have HB:=n1_;clear n0_ n1_;(try clear hb);(try clear hb2);(try clear hk);(try clear hi);(try clear ho0);obtain ⟨Ao21,co21,eo21⟩:=Kd.R_slice HO104.out;subst eo21)|((with_reducible refine gate_callee (f:=7) rfl ?_);refine goesL_ (some 15) rfl rfl Try.func7 (by kernel_rfl) rfl #[.slice Ao21 t101.length co21,.string (⟨#[97]⟩:ByteArray),.int .i64 3] rfl (by (try simp only [List.map_toArray,List.map_cons,List.map_nil]);first|done|rfl|(simp only [List.length_drop,List.length_take];rfl)) ?_;(with_reducible refine (suspend_Step.calls k _ _ t101 (⟨#[97]⟩:ByteArray) 3 t105 t106 _ ?side1 ?side2 A2.out).mono ?_);(case side1=>repeat (first|exact (Kd.R_reads' HO104.out).2.2|(with_reducible refine Kd.C_alloc ?_ _)|(with_reducible refine Kd.C_drewN ?_ _)|(with_reducible refine Kd.C_drew ?_)));(case side2=>exact (Kd.R_reads' HO104.out).2.1);rintro e w22 ⟨v107,rfl,ho0,hb⟩;refine ⟨_,rfl,?_⟩;have n0_:=Aside0.mk (Kd.R_elder' (by (with_reducible repeat (first|apply Kd.R_alloc|apply Kd.R_drewN|apply Kd.R_drew));exact HO104.out) (Kd.R_base ho0) hb);have n1_:=Aside0.mk (Kd.R_lower (Kd.R_new' ho0 (Kd.R_lt (by (with_reducible repeat (first|apply Kd.R_alloc|apply Kd.R_drewN|apply Kd.R_drew));exact HO104.out))) (below_size (by repeat (first|(with_reducible first|exact HB.out|apply below_alloc|apply pw_below_drewN|apply below_drew1)|exact HB.out))));have n2_:=Aside0.mk (below_step (by repeat (first|(with_reducible first|exact HB.out|apply below_alloc|apply pw_below_drewN|apply below_drew1)|exact HB.out)) hb);clear HO104;clear HB;have HO104:=n0_;have HO108:=n1_;have HB:=n2_;clear n0_ n1_ n2_;(try clear hb);(try clear hb2);(try clear hk);(try clear hi);(try clear ho0))|((with_reducible refine gate_callee (f:=7) rfl ?_);refine goesL_ (some 20) rfl rfl Try.func7 (by kernel_rfl) rfl #[.slice Ao21 t101.length co21,.string (⟨#[97]⟩:ByteArray),.int .i64 2] rfl (by (try simp only [List.map_toArray,List.map_cons,List.map_nil]);first|done|rfl|(simp only [List.length_drop,List.length_take];rfl)) ?_;(with_reducible refine (suspend_Step.calls k _ _ t101 (⟨#[97]⟩:ByteArray) 2 t109 t110 _ ?side1 ?side2 A3.out).mono ?_);(case side1=>repeat (first|exact (Kd.R_reads' HO104.out).2.2|(with_reducible refine Kd.C_alloc ?_ _)|(with_reducible refine Kd.C_drewN ?_ _)|(with_reducible refine Kd.C_drew ?_)));(case side2=>exact (Kd.R_reads' HO104.out).2.1);rintro e w23 ⟨v111,rfl,ho0,hb⟩;refine ⟨_,rfl,?_⟩;have n0_:=Aside0.mk (Kd.R_elder' (by (with_reducible repeat (first|apply Kd.R_alloc|apply Kd.R_drewN|apply Kd.R_drew));exact HO104.out) (Kd.R_base ho0) hb);have n1_:=Aside0.mk (Kd.R_elder' (by (with_reducible repeat (first|apply Kd.R_alloc|apply Kd.R_drewN|apply Kd.R_drew));exact HO108.out) (Kd.R_base ho0) hb);have n2_:=Aside0.mk (Kd.R_lower (Kd.R_new' (Kd.R_new' ho0 (Kd.R_lt (by (with_reducible repeat (first|apply Kd.R_alloc|apply Kd.R_drewN|apply Kd.R_drew));exact HO104.out))) (Kd.R_lt (by (with_reducible repeat (first|apply Kd.R_alloc|apply Kd.R_drewN|apply Kd.R_drew));exact HO108.out))) (below_size (by repeat (first|(with_reducible first|exact HB.out|apply below_alloc|apply pw_below_drewN|apply below_drew1)|exact HB.out))));have n3_:=Aside0.mk (below_step (by repeat (first|(with_reducible first|exact HB.out|apply below_alloc|apply pw_below_drewN|apply below_drew1)|exact HB.out)) hb);clear HO104;clear HO108;clear HB;have HO104:=n0_;have HO108:=n1_;have HO112:=n2_;have HB:=n3_;clear n0_ n1_ n2_ n3_;(try clear hb);(try clear hb2);(try clear hk);(try clear hi);(try clear ho0);obtain ⟨Ao24,co24,eo24⟩:=Kd.R_slice HO112.out;subst eo24)|((with_reducible refine gate_callee (f:=7) rfl ?_);refine goesL_ (some 25) rfl rfl Try.func7 (by kernel_rfl) rfl #[.slice Ao24 t109.length co24,.string (⟨#[97]⟩:ByteArray),.int .i64 5] rfl (by (try simp only [List.map_toArray,List.map_cons,List.map_nil]);first|done|rfl|(simp only [List.length_drop,List.length_take];rfl)) ?_;(with_reducible refine (suspend_Step.calls k _ _ t109 (⟨#[97]⟩:ByteArray) 5 t113 t114 _ ?side1 ?side2 A4.out).mono ?_);(case side1=>repeat (first|exact (Kd.R_reads' HO112.out).2.2|(with_reducible refine Kd.C_alloc ?_ _)|(with_reducible refine Kd.C_drewN ?_ _)|(with_reducible refine Kd.C_drew ?_)));(case side2=>exact (Kd.R_reads' HO112.out).2.1);rintro e w25 ⟨v115,rfl,ho0,hb⟩;refine ⟨_,rfl,?_⟩;have n0_:=Aside0.mk (Kd.R_elder' (by (with_reducible repeat (first|apply Kd.R_alloc|apply Kd.R_drewN|apply Kd.R_drew));exact HO104.out) (Kd.R_base ho0) hb);have n1_:=Aside0.mk (Kd.R_elder' (by (with_reducible repeat (first|apply Kd.R_alloc|apply Kd.R_drewN|apply Kd.R_drew));exact HO108.out) (Kd.R_base ho0) hb);have n2_:=Aside0.mk (Kd.R_elder' (by (with_reducible repeat (first|apply Kd.R_alloc|apply Kd.R_drewN|apply Kd.R_drew));exact HO112.out) (Kd.R_base ho0) hb);have n3_:=Aside0.mk (Kd.R_lower (Kd.R_new' (Kd.R_new' (Kd.R_new' ho0 (Kd.R_lt (by (with_reducible repeat (first|apply Kd.R_alloc|apply Kd.R_drewN|apply Kd.R_drew));exact HO104.out))) (Kd.R_lt (by (with_reducible repeat (first|apply Kd.R_alloc|apply Kd.R_drewN|apply Kd.R_drew));exact HO108.out))) (Kd.R_lt (by (with_reducible repeat (first|apply Kd.R_alloc|apply Kd.R_drewN|apply Kd.R_drew));exact HO112.out))) (below_size (by repeat (first|(with_reducible first|exact HB.out|apply below_alloc|apply pw_below_drewN|apply below_drew1)|exact HB.out))));have n4_:=Aside0.mk (below_step (by repeat (first|(with_reducible first|exact HB.out|apply below_alloc|apply pw_below_drewN|apply below_drew1)|exact HB.out)) hb);clear HO104;clear HO108;clear HO112;clear HB;have HO104:=n0_;have HO108:=n1_;have HO112:=n2_;have HO116:=n3_;have HB:=n4_;clear n0_ n1_ n2_ n3_ n4_;(try clear hb);(try clear hb2);(try clear hk);(try clear hi);(try clear ho0);have p117:0 ≤ (0:Int):=(by omega);have q117:0 < (t101.length:Int):=of_decide_eq_true (by first|(with_reducible assumption)|assumption);obtain ⟨ad117,e117,hx117_0,hx117_1,hx117_2⟩:=at_T37 (Kd.R_reads' HO104.out).2.2 0 p117 q117;cases e117;have qi117:(0 < t101.length) = True:=eq_true (by omega);(try rw [show ((0:Int)).toNat = 0 from rfl] at hx117_0);(try rw [show 0 * 3 = 0 from rfl] at hx117_0);(try rw [Addr.add_zero'] at hx117_0);(try rw [show ((0:Int)).toNat = 0 from rfl] at hx117_1);(try rw [show 0 * 3 = 0 from rfl] at hx117_1);(try rw [Addr.add_zero'] at hx117_1);(try rw [show ((0:Int)).toNat = 0 from rfl] at hx117_2);(try rw [show 0 * 3 = 0 from rfl] at hx117_2);(try rw [Addr.add_zero'] at hx117_2);replace p117:=eq_true p117;replace q117:=eq_true q117;obtain ⟨Ao26,co26,eo26⟩:=Kd.R_slice HO116.out;subst eo26;have p118:0 ≤ (0:Int):=(by omega);have q118:0 < (t113.length:Int):=of_decide_eq_true (by first|(with_reducible assumption)|assumption);obtain ⟨ad118,e118,hx118_0,hx118_1,hx118_2⟩:=at_T37 (Kd.R_reads' HO116.out).2.2 0 p118 q118;cases e118;have qi118:(0 < t113.length) = True:=eq_true (by omega);(try rw [show ((0:Int)).toNat = 0 from rfl] at hx118_0);(try rw [show 0 * 3 = 0 from rfl] at hx118_0);(try rw [Addr.add_zero'] at hx118_0);(try rw [show ((0:Int)).toNat = 0 from rfl] at hx118_1);(try rw [show 0 * 3 = 0 from rfl] at hx118_1);(try rw [Addr.add_zero'] at hx118_1);(try rw [show ((0:Int)).toNat = 0 from rfl] at hx118_2);(try rw [show 0 * 3 = 0 from rfl] at hx118_2);(try rw [Addr.add_zero'] at hx118_2);replace p118:=eq_true p118;replace q118:=eq_true q118)|(go_at_call 12;(with_reducible refine (suspend_May.calls k 2 5 true _ A15.out).mono ?_);rintro e w' ⟨rfl,⟨nd,rfl⟩⟩)|(go_at_call 12;(with_reducible refine (suspend_May.calls k 5 4 false _ A17.out).mono ?_);rintro e w' ⟨rfl,⟨nd,rfl⟩⟩)|(go_at_call 12;(with_reducible refine (suspend_May.calls k 7 7 t121 _ A19.out).mono ?_);rintro e w' ⟨rfl,⟨nd,rfl⟩⟩))
             go_ret
             exact ⟨by first|rfl|(simp [errW_none,errW_some] <;> rfl)|(simp [*,errW_none,errW_some] <;> rfl),by repeat (first|(with_reducible first|exact HB.out|apply below_alloc|apply pw_below_drewN|apply below_drew1)|exact HB.out)⟩
           ·replace c16:=Bool.eq_false_iff.mpr c16
            subst c16
            have H1:(none) = some r:=by rw [if_neg (show ¬ (false = true) by decide)] at H;exact H
            clear H
            have H:=H1
            clear H1
            exact absurd H (by simp)
          ·rw [if_neg c14] at H
           exact absurd H (by simp)
         ·rw [if_neg c13] at H
          exact absurd H (by simp)
        ·rw [if_neg c12] at H
         exact absurd H (by simp)
       ·rw [if_neg c11] at H
        exact absurd H (by simp)
      ·rw [if_neg c10] at H
       exact absurd H (by simp)
     ·rw [if_neg c9] at H
      exact absurd H (by simp)
    ·rw [if_neg c8] at H
     exact absurd H (by simp)
   ·rw [if_neg c7] at H
    exact absurd H (by simp)
  ·rw [if_neg c6] at H
   exact absurd H (by simp)
 ·rw [if_neg c5] at H
  exact absurd H (by simp)
end Go.Proofs.Ytgmelgkcoejknaa.X
end
