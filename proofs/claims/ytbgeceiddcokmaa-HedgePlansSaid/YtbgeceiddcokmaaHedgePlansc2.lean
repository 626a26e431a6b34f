/- For HedgePlans: contracts, and facts on lists and numbers, that it uses (part 2). -/
import Derived.Test.YtbgeceiddcokmaaHedgePlansc1
section
namespace Go.Proofs.Ytbgeceiddcokmaa.X
open Go.RowKit Go.Proofs.YtbgeceiddcokmaaW.PrintWords Go.Proofs.YtbgeceiddcokmaaW.PrintLast Go.Proofs.YtbgeceiddcokmaaW.PrintMore
attribute [local go_sem] max2_int min2_int max_two min_two max_three min_three max_four min_four
set_option linter.unusedVariables false
set_option linter.unusedSimpArgs false
attribute [local go_sem high] eqA41
def contangolaw43_goes.f (k:Nat)  : Option (Bool):=(hedge_Best.f k 2600 1000 9).bind fun bt101=>((hedge_Best.f k 2500 1000 9).bind fun bt103=>((hedge_Best.f k 2600 (-500) 9).bind fun bt105=>((hedge_Plan.f (([(⟨#[111,105,108]⟩:ByteArray)]:List ByteArray)) (([2600]:List Int)) (([(⟨(⟨(⟨#[111,105,108]⟩:ByteArray),1,9,0⟩:S39),1000,2⟩:S92),(⟨(⟨(⟨#[111,105,108]⟩:ByteArray),1,39,0⟩:S39),300,9⟩:S92)]:List (S92)))).bind fun bt118=>(if bt101.1 = (-3) then (if bt101.2 = 0 then (if bt103.1 = (-2) then (if bt103.2 = 0 then (if bt105.1 = 5 then (if bt105.2 = 0 then (if bt118.2.2 = 0 then ((contangoref43_Ints.f k bt118.2.1 (([0]:List Int))).bind fun t128=>(if t128 = true then (if (bt118.1.length:Int) = 2 then (if 0 < (bt118.1.length:Int) then (if (((((rd_T41 bt118.1 0).f0.f0).toList) == ([111,105,108]:List UInt8) && (((rd_T41 bt118.1 0).f0.f1) == 1 && (((rd_T41 bt118.1 0).f0.f2) == 9 && (((rd_T41 bt118.1 0).f0.f3) == 0)))) && (((rd_T41 bt118.1 0).f1) == (-2))) = true then (if 1 < (bt118.1.length:Int) then (some (((((rd_T41 bt118.1 1).f0.f0).toList) == ([111,105,108]:List UInt8) && (((rd_T41 bt118.1 1).f0.f1) == 1 && (((rd_T41 bt118.1 1).f0.f2) == 39 && (((rd_T41 bt118.1 1).f0.f3) == 0)))) && (((rd_T41 bt118.1 1).f1) == (-2)))) else (none)) else (none)) else (none)) else (none)) else (none))) else (none)) else (none)) else (none)) else (none)) else (none)) else (none)) else (none)))))
theorem contangolaw43_goes.mono:∀ k,LeO (contangolaw43_goes.f k ) (contangolaw43_goes.f (k + 1) ):=by
 intro  k
 unfold contangolaw43_goes.f
 repeat' first
   | (with_reducible exact contangoref43_Ints.mono _ _ _)
   | (with_reducible exact hedge_Best.mono _ _ _ _)
   | (with_reducible exact LeO.refl _)
   | (with_reducible exact LeO.none _)
   | (with_reducible refine LeO.ite ?_ ?_)
   | (with_reducible refine LeO.bind ?_ (fun _=>?_))
   | exact contangoref43_Ints.mono _ _ _
   | exact hedge_Best.mono _ _ _ _
   | exact LeO.none _
   | refine LeO.ite ?_ ?_
   | refine LeO.bind ?_ (fun _=>?_)
def contangolaw43_goes.T6:Bool × List (List Nat × List Nat):=(true,[([],[]),([0],[0]),([1],[1]),([2],[2]),([3,2],[2,3]),([2,4],[2,4]),([5,2],[5]),([6],[6]),([7,6],[6,7]),([6,8],[6,8]),([9,6],[9]),([10],[10]),([11,10],[10,11]),([10,12],[10,12]),([13,10],[13]),([14],[14]),([15,14],[14,15]),([14,16],[14,16]),([17,14],[17]),([18],[18]),([19,18],[18,19]),([18,20],[18,20]),([21,18],[21]),([22],[22]),([23,22],[22,23]),([22,24],[22,24]),([25,22],[25]),([26],[26]),([26],[26]),([27,28,26,26],[26,27,28]),([26,29],[26,29]),([30,29],[30]),([31],[31]),([32,31],[31,32]),([33,31],[31,33]),([31,34],[31,34]),([35,31],[35]),([36],[36]),([37,36],[36,37]),([38,36],[36,38]),([36],[36]),([40,36],[36,40]),([39,41,36],[36,39,41]),([36,42],[36,42]),([43,36],[43]),([44],[44]),([45,44],[44,45]),([46,44],[44,46]),([44],[44]),([48,44],[44,48]),([47,49,44],[44,47,49]),([44,50],[44,50]),([51,44,0,1,2,3,4,5,6,7,8,9,10,11,12,13,14,15,16,17,18,19,20,21,22,23,24,25,26,27,28,29,30,31,32,33,34,35,36,37,38,39,40,41,42,43,44,45,46,47,48,49,50,51],[51])])
def contangolaw43_goes.B6:List Nat:=[0,1,3,7,15,31,63,127,255,511,1023,2047,4095,8191,16383,32767,65535,131071,262143,524287,1048575,2097151,4194303,8388607,16777215,33554431,67108863,134217727,134217727,536870911,1073741823,2147483647,4294967295,8589934591,17179869183,34359738367,68719476735,137438953471,274877906943,549755813887,137438953471,1236950581247,4398046511103,8796093022207,17592186044415,35184372088831,70368744177663,140737488355327,35184372088831,316659348799487,1125899906842623,2251799813685247,4503599627370495]
theorem contangolaw43_goes.tab6:rtab .any (opsOf Try.f14 6) = contangolaw43_goes.T6:=by kernel_rfl
theorem contangolaw43_goes.bits6:waitsOk contangolaw43_goes.T6.2 contangolaw43_goes.B6 = true:=by kernel_rfl
set_option maxHeartbeats 8000000 in
set_option maxRecDepth 100000 in
theorem contangolaw43_goes.calls (k:Nat)  (r:Bool) (w:World) (h:contangolaw43_goes.f k  = some r) :
  Calls Try.prog 14 #[] w fun e w'=>e = .returned (.bool r) ∧ Below w.heap.size w w':=by
 have hu39:=Try.underlying39
 have hu92:=Try.underlying92
 have hu41:=Try.underlying41
 have HB:=Aside0.mk (Below.refl w.heap.size w)
 have H:((hedge_Best.f k 2600 1000 9).bind fun bt101=>((hedge_Best.f k 2500 1000 9).bind fun bt103=>((hedge_Best.f k 2600 (-500) 9).bind fun bt105=>((hedge_Plan.f (([(⟨#[111,105,108]⟩:ByteArray)]:List ByteArray)) (([2600]:List Int)) (([(⟨(⟨(⟨#[111,105,108]⟩:ByteArray),1,9,0⟩:S39),1000,2⟩:S92),(⟨(⟨(⟨#[111,105,108]⟩:ByteArray),1,39,0⟩:S39),300,9⟩:S92)]:List (S92)))).bind fun bt118=>(if bt101.1 = (-3) then (if bt101.2 = 0 then (if bt103.1 = (-2) then (if bt103.2 = 0 then (if bt105.1 = 5 then (if bt105.2 = 0 then (if bt118.2.2 = 0 then ((contangoref43_Ints.f k bt118.2.1 (([0]:List Int))).bind fun t128=>(if t128 = true then (if (bt118.1.length:Int) = 2 then (if 0 < (bt118.1.length:Int) then (if (((((rd_T41 bt118.1 0).f0.f0).toList) == ([111,105,108]:List UInt8) && (((rd_T41 bt118.1 0).f0.f1) == 1 && (((rd_T41 bt118.1 0).f0.f2) == 9 && (((rd_T41 bt118.1 0).f0.f3) == 0)))) && (((rd_T41 bt118.1 0).f1) == (-2))) = true then (if 1 < (bt118.1.length:Int) then (some (((((rd_T41 bt118.1 1).f0.f0).toList) == ([111,105,108]:List UInt8) && (((rd_T41 bt118.1 1).f0.f1) == 1 && (((rd_T41 bt118.1 1).f0.f2) == 39 && (((rd_T41 bt118.1 1).f0.f3) == 0)))) && (((rd_T41 bt118.1 1).f1) == (-2)))) else (none)) else (none)) else (none)) else (none)) else (none))) else (none)) else (none)) else (none)) else (none)) else (none)) else (none)) else (none)))))) = some r:=h
 clear h
 replace H:=Option.bind_eq_some_iff.mp H
 obtain ⟨⟨t101,t102⟩,A10,H⟩:=H
 replace H:((hedge_Best.f k 2500 1000 9).bind fun bt103=>((hedge_Best.f k 2600 (-500) 9).bind fun bt105=>((hedge_Plan.f (([(⟨#[111,105,108]⟩:ByteArray)]:List ByteArray)) (([2600]:List Int)) (([(⟨(⟨(⟨#[111,105,108]⟩:ByteArray),1,9,0⟩:S39),1000,2⟩:S92),(⟨(⟨(⟨#[111,105,108]⟩:ByteArray),1,39,0⟩:S39),300,9⟩:S92)]:List (S92)))).bind fun bt118=>(if t101 = (-3) then (if t102 = 0 then (if bt103.1 = (-2) then (if bt103.2 = 0 then (if bt105.1 = 5 then (if bt105.2 = 0 then (if bt118.2.2 = 0 then ((contangoref43_Ints.f k bt118.2.1 (([0]:List Int))).bind fun t128=>(if t128 = true then (if (bt118.1.length:Int) = 2 then (if 0 < (bt118.1.length:Int) then (if (((((rd_T41 bt118.1 0).f0.f0).toList) == ([111,105,108]:List UInt8) && (((rd_T41 bt118.1 0).f0.f1) == 1 && (((rd_T41 bt118.1 0).f0.f2) == 9 && (((rd_T41 bt118.1 0).f0.f3) == 0)))) && (((rd_T41 bt118.1 0).f1) == (-2))) = true then (if 1 < (bt118.1.length:Int) then (some (((((rd_T41 bt118.1 1).f0.f0).toList) == ([111,105,108]:List UInt8) && (((rd_T41 bt118.1 1).f0.f1) == 1 && (((rd_T41 bt118.1 1).f0.f2) == 39 && (((rd_T41 bt118.1 1).f0.f3) == 0)))) && (((rd_T41 bt118.1 1).f1) == (-2)))) else (none)) else (none)) else (none)) else (none)) else (none))) else (none)) else (none)) else (none)) else (none)) else (none)) else (none)) else (none))))) = some r:=H
 have A1:=Aside0.mk A10
 clear A10
 replace H:=Option.bind_eq_some_iff.mp H
 obtain ⟨⟨t103,t104⟩,A20,H⟩:=H
 replace H:((hedge_Best.f k 2600 (-500) 9).bind fun bt105=>((hedge_Plan.f (([(⟨#[111,105,108]⟩:ByteArray)]:List ByteArray)) (([2600]:List Int)) (([(⟨(⟨(⟨#[111,105,108]⟩:ByteArray),1,9,0⟩:S39),1000,2⟩:S92),(⟨(⟨(⟨#[111,105,108]⟩:ByteArray),1,39,0⟩:S39),300,9⟩:S92)]:List (S92)))).bind fun bt118=>(if t101 = (-3) then (if t102 = 0 then (if t103 = (-2) then (if t104 = 0 then (if bt105.1 = 5 then (if bt105.2 = 0 then (if bt118.2.2 = 0 then ((contangoref43_Ints.f k bt118.2.1 (([0]:List Int))).bind fun t128=>(if t128 = true then (if (bt118.1.length:Int) = 2 then (if 0 < (bt118.1.length:Int) then (if (((((rd_T41 bt118.1 0).f0.f0).toList) == ([111,105,108]:List UInt8) && (((rd_T41 bt118.1 0).f0.f1) == 1 && (((rd_T41 bt118.1 0).f0.f2) == 9 && (((rd_T41 bt118.1 0).f0.f3) == 0)))) && (((rd_T41 bt118.1 0).f1) == (-2))) = true then (if 1 < (bt118.1.length:Int) then (some (((((rd_T41 bt118.1 1).f0.f0).toList) == ([111,105,108]:List UInt8) && (((rd_T41 bt118.1 1).f0.f1) == 1 && (((rd_T41 bt118.1 1).f0.f2) == 39 && (((rd_T41 bt118.1 1).f0.f3) == 0)))) && (((rd_T41 bt118.1 1).f1) == (-2)))) else (none)) else (none)) else (none)) else (none)) else (none))) else (none)) else (none)) else (none)) else (none)) else (none)) else (none)) else (none)))) = some r:=H
 have A2:=Aside0.mk A20
 clear A20
 replace H:=Option.bind_eq_some_iff.mp H
 obtain ⟨⟨t105,t106⟩,A30,H⟩:=H
 replace H:((hedge_Plan.f (([(⟨#[111,105,108]⟩:ByteArray)]:List ByteArray)) (([2600]:List Int)) (([(⟨(⟨(⟨#[111,105,108]⟩:ByteArray),1,9,0⟩:S39),1000,2⟩:S92),(⟨(⟨(⟨#[111,105,108]⟩:ByteArray),1,39,0⟩:S39),300,9⟩:S92)]:List (S92)))).bind fun bt118=>(if t101 = (-3) then (if t102 = 0 then (if t103 = (-2) then (if t104 = 0 then (if t105 = 5 then (if t106 = 0 then (if bt118.2.2 = 0 then ((contangoref43_Ints.f k bt118.2.1 (([0]:List Int))).bind fun t128=>(if t128 = true then (if (bt118.1.length:Int) = 2 then (if 0 < (bt118.1.length:Int) then (if (((((rd_T41 bt118.1 0).f0.f0).toList) == ([111,105,108]:List UInt8) && (((rd_T41 bt118.1 0).f0.f1) == 1 && (((rd_T41 bt118.1 0).f0.f2) == 9 && (((rd_T41 bt118.1 0).f0.f3) == 0)))) && (((rd_T41 bt118.1 0).f1) == (-2))) = true then (if 1 < (bt118.1.length:Int) then (some (((((rd_T41 bt118.1 1).f0.f0).toList) == ([111,105,108]:List UInt8) && (((rd_T41 bt118.1 1).f0.f1) == 1 && (((rd_T41 bt118.1 1).f0.f2) == 39 && (((rd_T41 bt118.1 1).f0.f3) == 0)))) && (((rd_T41 bt118.1 1).f1) == (-2)))) else (none)) else (none)) else (none)) else (none)) else (none))) else (none)) else (none)) else (none)) else (none)) else (none)) else (none)) else (none))) = some r:=H
 have A3:=Aside0.mk A30
 clear A30
 obtain ⟨y109,hy109⟩:∃ y_:List ByteArray,y_ = (([(⟨#[111,105,108]⟩:ByteArray)]:List ByteArray)):=⟨_,rfl⟩
 replace H:((hedge_Plan.f y109 (([2600]:List Int)) (([(⟨(⟨(⟨#[111,105,108]⟩:ByteArray),1,9,0⟩:S39),1000,2⟩:S92),(⟨(⟨(⟨#[111,105,108]⟩:ByteArray),1,39,0⟩:S39),300,9⟩:S92)]:List (S92)))).bind fun bt118=>(if t101 = (-3) then (if t102 = 0 then (if t103 = (-2) then (if t104 = 0 then (if t105 = 5 then (if t106 = 0 then (if bt118.2.2 = 0 then ((contangoref43_Ints.f k bt118.2.1 (([0]:List Int))).bind fun t128=>(if t128 = true then (if (bt118.1.length:Int) = 2 then (if 0 < (bt118.1.length:Int) then (if (((((rd_T41 bt118.1 0).f0.f0).toList) == ([111,105,108]:List UInt8) && (((rd_T41 bt118.1 0).f0.f1) == 1 && (((rd_T41 bt118.1 0).f0.f2) == 9 && (((rd_T41 bt118.1 0).f0.f3) == 0)))) && (((rd_T41 bt118.1 0).f1) == (-2))) = true then (if 1 < (bt118.1.length:Int) then (some (((((rd_T41 bt118.1 1).f0.f0).toList) == ([111,105,108]:List UInt8) && (((rd_T41 bt118.1 1).f0.f1) == 1 && (((rd_T41 bt118.1 1).f0.f2) == 39 && (((rd_T41 bt118.1 1).f0.f3) == 0)))) && (((rd_T41 bt118.1 1).f1) == (-2)))) else (none)) else (none)) else (none)) else (none)) else (none))) else (none)) else (none)) else (none)) else (none)) else (none)) else (none)) else (none))) = some r:=by first|(rw [hy109];with_reducible exact H)|(have H2_:=(Option.bind_some _ _).symm.trans H;rw [hy109];with_reducible exact H2_)|(have H2_:=(Option.bind_some _ _).symm.trans H;with_reducible exact H2_)|with_reducible exact H|(rw [hy109];exact H)|exact H
 have Ny109:=Aside0.mk hy109
 clear hy109
 obtain ⟨y112,hy112⟩:∃ y_:List Int,y_ = (([2600]:List Int)):=⟨_,rfl⟩
 replace H:((hedge_Plan.f y109 y112 (([(⟨(⟨(⟨#[111,105,108]⟩:ByteArray),1,9,0⟩:S39),1000,2⟩:S92),(⟨(⟨(⟨#[111,105,108]⟩:ByteArray),1,39,0⟩:S39),300,9⟩:S92)]:List (S92)))).bind fun bt118=>(if t101 = (-3) then (if t102 = 0 then (if t103 = (-2) then (if t104 = 0 then (if t105 = 5 then (if t106 = 0 then (if bt118.2.2 = 0 then ((contangoref43_Ints.f k bt118.2.1 (([0]:List Int))).bind fun t128=>(if t128 = true then (if (bt118.1.length:Int) = 2 then (if 0 < (bt118.1.length:Int) then (if (((((rd_T41 bt118.1 0).f0.f0).toList) == ([111,105,108]:List UInt8) && (((rd_T41 bt118.1 0).f0.f1) == 1 && (((rd_T41 bt118.1 0).f0.f2) == 9 && (((rd_T41 bt118.1 0).f0.f3) == 0)))) && (((rd_T41 bt118.1 0).f1) == (-2))) = true then (if 1 < (bt118.1.length:Int) then (some (((((rd_T41 bt118.1 1).f0.f0).toList) == ([111,105,108]:List UInt8) && (((rd_T41 bt118.1 1).f0.f1) == 1 && (((rd_T41 bt118.1 1).f0.f2) == 39 && (((rd_T41 bt118.1 1).f0.f3) == 0)))) && (((rd_T41 bt118.1 1).f1) == (-2)))) else (none)) else (none)) else (none)) else (none)) else (none))) else (none)) else (none)) else (none)) else (none)) else (none)) else (none)) else (none))) = some r:=by first|(rw [hy112];with_reducible exact H)|(have H2_:=(Option.bind_some _ _).symm.trans H;rw [hy112];with_reducible exact H2_)|(have H2_:=(Option.bind_some _ _).symm.trans H;with_reducible exact H2_)|with_reducible exact H|(rw [hy112];exact H)|exact H
 have Ny112:=Aside0.mk hy112
 clear hy112
 obtain ⟨y115,hy115⟩:∃ y_:List (S92),y_ = (([(⟨(⟨(⟨#[111,105,108]⟩:ByteArray),1,9,0⟩:S39),1000,2⟩:S92),(⟨(⟨(⟨#[111,105,108]⟩:ByteArray),1,39,0⟩:S39),300,9⟩:S92)]:List (S92))):=⟨_,rfl⟩
 replace H:((hedge_Plan.f y109 y112 y115).bind fun bt118=>(if t101 = (-3) then (if t102 = 0 then (if t103 = (-2) then (if t104 = 0 then (if t105 = 5 then (if t106 = 0 then (if bt118.2.2 = 0 then ((contangoref43_Ints.f k bt118.2.1 (([0]:List Int))).bind fun t128=>(if t128 = true then (if (bt118.1.length:Int) = 2 then (if 0 < (bt118.1.length:Int) then (if (((((rd_T41 bt118.1 0).f0.f0).toList) == ([111,105,108]:List UInt8) && (((rd_T41 bt118.1 0).f0.f1) == 1 && (((rd_T41 bt118.1 0).f0.f2) == 9 && (((rd_T41 bt118.1 0).f0.f3) == 0)))) && (((rd_T41 bt118.1 0).f1) == (-2))) = true then (if 1 < (bt118.1.length:Int) then (some (((((rd_T41 bt118.1 1).f0.f0).toList) == ([111,105,108]:List UInt8) && (((rd_T41 bt118.1 1).f0.f1) == 1 && (((rd_T41 bt118.1 1).f0.f2) == 39 && (((rd_T41 bt118.1 1).f0.f3) == 0)))) && (((rd_T41 bt118.1 1).f1) == (-2)))) else (none)) else (none)) else (none)) else (none)) else (none))) else (none)) else (none)) else (none)) else (none)) else (none)) else (none)) else (none))) = some r:=by first|(rw [hy115];with_reducible exact H)|(have H2_:=(Option.bind_some _ _).symm.trans H;rw [hy115];with_reducible exact H2_)|(have H2_:=(Option.bind_some _ _).symm.trans H;with_reducible exact H2_)|with_reducible exact H|(rw [hy115];exact H)|exact H
 have Ny115:=Aside0.mk hy115
 clear hy115
 replace H:=Option.bind_eq_some_iff.mp H
 obtain ⟨⟨t118,t119,t120⟩,A40,H⟩:=H
 replace H:(if t101 = (-3) then (if t102 = 0 then (if t103 = (-2) then (if t104 = 0 then (if t105 = 5 then (if t106 = 0 then (if t120 = 0 then ((contangoref43_Ints.f k t119 (([0]:List Int))).bind fun t128=>(if t128 = true then (if (t118.length:Int) = 2 then (if 0 < (t118.length:Int) then (if (((((rd_T41 t118 0).f0.f0).toList) == ([111,105,108]:List UInt8) && (((rd_T41 t118 0).f0.f1) == 1 && (((rd_T41 t118 0).f0.f2) == 9 && (((rd_T41 t118 0).f0.f3) == 0)))) && (((rd_T41 t118 0).f1) == (-2))) = true then (if 1 < (t118.length:Int) then (some (((((rd_T41 t118 1).f0.f0).toList) == ([111,105,108]:List UInt8) && (((rd_T41 t118 1).f0.f1) == 1 && (((rd_T41 t118 1).f0.f2) == 39 && (((rd_T41 t118 1).f0.f3) == 0)))) && (((rd_T41 t118 1).f1) == (-2)))) else (none)) else (none)) else (none)) else (none)) else (none))) else (none)) else (none)) else (none)) else (none)) else (none)) else (none)) else (none)) = some r:=H
 have A4:=Aside0.mk A40
 clear A40
 by_cases c5:t101 = (-3)
 ·rw [if_pos c5] at H
  have c5b0:(t101 == (-3)) = true:=beq_iff_eq.mpr c5
  have c5b1:(t101 != (-3)) = false:=bne_eq_false_iff_eq.mpr c5
  clear c5
  by_cases c6:t102 = 0
  ·rw [if_pos c6] at H
   have c6b0:(t102 == 0) = true:=beq_iff_eq.mpr c6
   have c6b1:(t102 != 0) = false:=bne_eq_false_iff_eq.mpr c6
   clear c6
   by_cases c7:t103 = (-2)
   ·rw [if_pos c7] at H
    have c7b0:(t103 == (-2)) = true:=beq_iff_eq.mpr c7
    have c7b1:(t103 != (-2)) = false:=bne_eq_false_iff_eq.mpr c7
    clear c7
    by_cases c8:t104 = 0
    ·rw [if_pos c8] at H
     have c8b0:(t104 == 0) = true:=beq_iff_eq.mpr c8
     have c8b1:(t104 != 0) = false:=bne_eq_false_iff_eq.mpr c8
     clear c8
     by_cases c9:t105 = 5
     ·rw [if_pos c9] at H
      have c9b0:(t105 == 5) = true:=beq_iff_eq.mpr c9
      have c9b1:(t105 != 5) = false:=bne_eq_false_iff_eq.mpr c9
      clear c9
      by_cases c10:t106 = 0
      ·rw [if_pos c10] at H
       have c10b0:(t106 == 0) = true:=beq_iff_eq.mpr c10
       have c10b1:(t106 != 0) = false:=bne_eq_false_iff_eq.mpr c10
       clear c10
       by_cases c11:t120 = 0
       ·rw [if_pos c11] at H
        have c11b0:(t120 == 0) = true:=beq_iff_eq.mpr c11
        have c11b1:(t120 != 0) = false:=bne_eq_false_iff_eq.mpr c11
        clear c11
        obtain ⟨y125,hy125⟩:∃ y_:List Int,y_ = (([0]:List Int)):=⟨_,rfl⟩
        replace H:((contangoref43_Ints.f k t119 y125).bind fun t128=>(if t128 = true then (if (t118.length:Int) = 2 then (if 0 < (t118.length:Int) then (if (((((rd_T41 t118 0).f0.f0).toList) == ([111,105,108]:List UInt8) && (((rd_T41 t118 0).f0.f1) == 1 && (((rd_T41 t118 0).f0.f2) == 9 && (((rd_T41 t118 0).f0.f3) == 0)))) && (((rd_T41 t118 0).f1) == (-2))) = true then (if 1 < (t118.length:Int) then (some (((((rd_T41 t118 1).f0.f0).toList) == ([111,105,108]:List UInt8) && (((rd_T41 t118 1).f0.f1) == 1 && (((rd_T41 t118 1).f0.f2) == 39 && (((rd_T41 t118 1).f0.f3) == 0)))) && (((rd_T41 t118 1).f1) == (-2)))) else (none)) else (none)) else (none)) else (none)) else (none))) = some r:=by first|(rw [hy125];with_reducible exact H)|(have H2_:=(Option.bind_some _ _).symm.trans H;rw [hy125];with_reducible exact H2_)|(have H2_:=(Option.bind_some _ _).symm.trans H;with_reducible exact H2_)|with_reducible exact H|(rw [hy125];exact H)|exact H
        have Ny125:=Aside0.mk hy125
        clear hy125
        replace H:=Option.bind_eq_some_iff.mp H
        obtain ⟨t128,A120,H⟩:=H
        replace H:(if t128 = true then (if (t118.length:Int) = 2 then (if 0 < (t118.length:Int) then (if (((((rd_T41 t118 0).f0.f0).toList) == ([111,105,108]:List UInt8) && (((rd_T41 t118 0).f0.f1) == 1 && (((rd_T41 t118 0).f0.f2) == 9 && (((rd_T41 t118 0).f0.f3) == 0)))) && (((rd_T41 t118 0).f1) == (-2))) = true then (if 1 < (t118.length:Int) then (some (((((rd_T41 t118 1).f0.f0).toList) == ([111,105,108]:List UInt8) && (((rd_T41 t118 1).f0.f1) == 1 && (((rd_T41 t118 1).f0.f2) == 39 && (((rd_T41 t118 1).f0.f3) == 0)))) && (((rd_T41 t118 1).f1) == (-2)))) else (none)) else (none)) else (none)) else (none)) else (none)) = some r:=H
        have A12:=Aside0.mk A120
        clear A120
        by_cases c13:t128 = true
        ·subst c13
         have H1:(if (t118.length:Int) = 2 then (if 0 < (t118.length:Int) then (if (((((rd_T41 t118 0).f0.f0).toList) == ([111,105,108]:List UInt8) && (((rd_T41 t118 0).f0.f1) == 1 && (((rd_T41 t118 0).f0.f2) == 9 && (((rd_T41 t118 0).f0.f3) == 0)))) && (((rd_T41 t118 0).f1) == (-2))) = true then (if 1 < (t118.length:Int) then (some (((((rd_T41 t118 1).f0.f0).toList) == ([111,105,108]:List UInt8) && (((rd_T41 t118 1).f0.f1) == 1 && (((rd_T41 t118 1).f0.f2) == 39 && (((rd_T41 t118 1).f0.f3) == 0)))) && (((rd_T41 t118 1).f1) == (-2)))) else (none)) else (none)) else (none)) else (none)) = some r:=by rw [if_pos rfl] at H;exact H
         clear H
         have H:=H1
         clear H1
         by_cases c14:(t118.length:Int) = 2
         ·rw [if_pos c14] at H
          have c14b0:((t118.length:Int) == 2) = true:=beq_iff_eq.mpr c14
          have c14b1:((t118.length:Int) != 2) = false:=bne_eq_false_iff_eq.mpr c14
          clear c14
          by_cases c15:0 < (t118.length:Int)
          ·rw [if_pos c15] at H
           have c15b0:decide (0 < (t118.length:Int)) = true:=decide_eq_true c15
           have c15b1:decide (0 < t118.length) = true:=decide_eq_true (by omega)
           clear c15
           by_cases c16:(((((rd_T41 t118 0).f0.f0).toList) == ([111,105,108]:List UInt8) && (((rd_T41 t118 0).f0.f1) == 1 && (((rd_T41 t118 0).f0.f2) == 9 && (((rd_T41 t118 0).f0.f3) == 0)))) && (((rd_T41 t118 0).f1) == (-2))) = true
           ·rw [if_pos c16] at H
            have c16b0:(((((rd_T41 t118 0).f0.f0).toList) == ([111,105,108]:List UInt8) && (((rd_T41 t118 0).f0.f1) == 1 && (((rd_T41 t118 0).f0.f2) == 9 && (((rd_T41 t118 0).f0.f3) == 0)))) && (((rd_T41 t118 0).f1) == (-2))) = true:=c16
            clear c16
            by_cases c17:1 < (t118.length:Int)
            ·rw [if_pos c17] at H
             have c17b0:decide (1 < (t118.length:Int)) = true:=decide_eq_true c17
             have c17b1:decide (1 < t118.length) = true:=decide_eq_true (by omega)
             clear c17
             obtain rfl:=Option.some.inj H
             go_enter Try.func14,Try.ntmps14
             try go_wp2_with (first|((with_reducible refine gate_callee (f:=21) rfl ?_);refine goesL_ (some 13) rfl rfl Try.func21 (by kernel_rfl) rfl #[.int .i64 2600,.int .i64 1000,.int .i64 9] rfl (by (try simp only [List.map_toArray,List.map_cons,List.map_nil]);first|done|rfl|(simp only [List.length_drop,List.length_take];rfl)) ?_;(with_reducible refine (hedge_Best.calls k 2600 1000 9 t101 t102 _ A1.out).mono ?_);rintro e w18 ⟨rfl,hb⟩;refine ⟨_,rfl,?_⟩;have n0_:=Aside0.mk (below_step (by repeat (first|(with_reducible first|exact HB.out|apply below_alloc|apply pw_below_drewN|apply below_drew1)|exact HB.out)) hb);clear HB;have HB:=n0_;clear n0_;(try clear hb);(try clear hb2);(try clear hk);(try clear hi))|((with_reducible refine gate_callee (f:=21) rfl ?_);refine goesL_ (some 17) rfl rfl Try.func21 (by kernel_rfl) rfl #[.int .i64 2500,.int .i64 1000,.int .i64 9] rfl (by (try simp only [List.map_toArray,List.map_cons,List.map_nil]);first|done|rfl|(simp only [List.length_drop,List.length_take];rfl)) ?_;(with_reducible refine (hedge_Best.calls k 2500 1000 9 t103 t104 _ A2.out).mono ?_);rintro e w19 ⟨rfl,hb⟩;refine ⟨_,rfl,?_⟩;have n0_:=Aside0.mk (below_step (by repeat (first|(with_reducible first|exact HB.out|apply below_alloc|apply pw_below_drewN|apply below_drew1)|exact HB.out)) hb);clear HB;have HB:=n0_;clear n0_;(try clear hb);(try clear hb2);(try clear hk);(try clear hi))|((with_reducible refine gate_callee (f:=21) rfl ?_);refine goesL_ (some 21) rfl rfl Try.func21 (by kernel_rfl) rfl #[.int .i64 2600,.int .i64 (-500),.int .i64 9] rfl (by (try simp only [List.map_toArray,List.map_cons,List.map_nil]);first|done|rfl|(simp only [List.length_drop,List.length_take];rfl)) ?_;(with_reducible refine (hedge_Best.calls k 2600 (-500) 9 t105 t106 _ A3.out).mono ?_);rintro e w20 ⟨rfl,hb⟩;refine ⟨_,rfl,?_⟩;have n0_:=Aside0.mk (below_step (by repeat (first|(with_reducible first|exact HB.out|apply below_alloc|apply pw_below_drewN|apply below_drew1)|exact HB.out)) hb);clear HB;have HB:=n0_;clear n0_;(try clear hb);(try clear hb2);(try clear hk);(try clear hi))|((with_reducible refine gate_dst (N:=7) rfl ?_);(try (refine gate_guard (by rfl) ?_;dsimp only));refine box_event ?hg (N:=7) ?hd (cs:=#[.string (⟨#[]⟩:ByteArray),.int .i64 0,.int .i64 0,.int .i64 0]) (t:=39) ?hr ?_;(case hd=>rfl);(case hg=>rfl);(case hr=>first|(go_simp;done)|(go_simp;rfl));intro gb107 hg w21 hbox hb;have n0_:=Aside0.mk (below_step (by repeat (first|(with_reducible first|exact HB.out|apply below_alloc|apply pw_below_drewN|apply below_drew1)|exact HB.out)) hb);have n1_:=Aside0.mk (hbox);have n2_:=Aside0.mk ((by rw [hg];exact (below_size (by repeat (first|(with_reducible first|exact HB.out|apply below_alloc|apply pw_below_drewN|apply below_drew1)|exact HB.out))):w.heap.size ≤ gb107));have n3_:=Aside0.mk ((by rw [hg];exact (below_size (by repeat (first|(with_reducible first|exact HB.out|apply below_alloc|apply pw_below_drewN|apply below_drew1)|exact HB.out))):w.heap.size ≤ gb107));clear HB;have HB:=n0_;have BK107:=n1_;have GW107:=n2_;have GE107:=n3_;clear n0_ n1_ n2_ n3_;clear hb hbox hg)|((with_reducible refine gate_dst (N:=8) rfl ?_);(try (refine gate_guard (by rfl) ?_;dsimp only));refine box_event ?hg (N:=8) ?hd (cs:=#[.string (⟨#[]⟩:ByteArray),.int .i64 0,.int .i64 0,.int .i64 0]) (t:=39) ?hr ?_;(case hd=>rfl);(case hg=>rfl);(case hr=>first|(go_simp;done)|(go_simp;rfl));intro gb108 hg w22 hbox hb;have n0_:=Aside0.mk (blk_below (g:=gb107) (o:=.cells #[.string (⟨#[]⟩:ByteArray),.int .i64 0,.int .i64 0,.int .i64 0] 39 (0,0)) (by (with_reducible repeat (first|refine blk_drewN ?_ _|refine blk_drew ?_|refine blk_alloc ?_ _));exact BK107.out) hb);have n1_:=Aside0.mk (below_step (by repeat (first|(with_reducible first|exact HB.out|apply below_alloc|apply pw_below_drewN|apply below_drew1|refine below_set ?_ GE107.out)|exact HB.out)) hb);have n2_:=Aside0.mk (hbox);have n3_:=Aside0.mk ((by rw [hg];exact (below_size (by repeat (first|(with_reducible first|exact HB.out|apply below_alloc|apply pw_below_drewN|apply below_drew1|refine below_set ?_ GE107.out)|exact HB.out))):w.heap.size ≤ gb108));have n4_:=Aside0.mk ((by rw [hg];exact (below_size (by repeat (first|(with_reducible first|exact HB.out|apply below_alloc|apply pw_below_drewN|apply below_drew1|refine below_set ?_ GE107.out)|exact HB.out))):w.heap.size ≤ gb108));have n5_:=Aside0.mk ((by rw [hg];exact Nat.ne_of_lt (blk_lt (g:=gb107) (o:=.cells #[.string (⟨#[]⟩:ByteArray),.int .i64 0,.int .i64 0,.int .i64 0] 39 (0,0)) (by (with_reducible repeat (first|refine blk_drewN ?_ _|refine blk_drew ?_|refine blk_alloc ?_ _));exact BK107.out)):gb107 ≠ gb108));have n6_:=Aside0.mk ((by rw [hg];exact Nat.ne_of_gt (blk_lt (g:=gb107) (o:=.cells #[.string (⟨#[]⟩:ByteArray),.int .i64 0,.int .i64 0,.int .i64 0] 39 (0,0)) (by (with_reducible repeat (first|refine blk_drewN ?_ _|refine blk_drew ?_|refine blk_alloc ?_ _));exact BK107.out)):gb108 ≠ gb107));clear BK107;clear HB;have BK107:=n0_;have HB:=n1_;have BK108:=n2_;have GW108:=n3_;have GE108:=n4_;have NB107_108:=n5_;have NB108_107:=n6_;clear n0_ n1_ n2_ n3_ n4_ n5_ n6_;clear hb hbox hg;have hnb23:=NB107_108.out;have hnc23:=NB108_107.out;have hcz24_0:w22.cell? ⟨gb107,0,none⟩ = some (.string (⟨#[]⟩:ByteArray)):=(blk_cell BK107.out 0).trans rfl;have hcz24_1:w22.cell? ⟨gb107,1,none⟩ = some (.int .i64 0):=(blk_cell BK107.out 1).trans rfl;have hcz24_2:w22.cell? ⟨gb107,2,none⟩ = some (.int .i64 0):=(blk_cell BK107.out 2).trans rfl;have hcz24_3:w22.cell? ⟨gb107,3,none⟩ = some (.int .i64 0):=(blk_cell BK107.out 3).trans rfl;have hfz24_0:=blk_frozen BK107.out 0;have hfz24_1:=blk_frozen BK107.out 1;have hfz24_2:=blk_frozen BK107.out 2;have hfz24_3:=blk_frozen BK107.out 3;have hcz25_0:w22.cell? ⟨gb108,0,none⟩ = some (.string (⟨#[]⟩:ByteArray)):=(blk_cell BK108.out 0).trans rfl;have hcz25_1:w22.cell? ⟨gb108,1,none⟩ = some (.int .i64 0):=(blk_cell BK108.out 1).trans rfl;have hcz25_2:w22.cell? ⟨gb108,2,none⟩ = some (.int .i64 0):=(blk_cell BK108.out 2).trans rfl;have hcz25_3:w22.cell? ⟨gb108,3,none⟩ = some (.int .i64 0):=(blk_cell BK108.out 3).trans rfl;have hfz25_0:=blk_frozen BK108.out 0;have hfz25_1:=blk_frozen BK108.out 1;have hfz25_2:=blk_frozen BK108.out 2;have hfz25_3:=blk_frozen BK108.out 3)|((with_reducible refine gate_dst (N:=27) rfl ?_);(try (refine gate_guard (by rfl) ?_;dsimp only));refine Kd.R_lit Kd.string _ 9 ?hg (N:=27) ?hd (xs:=([(⟨#[111,105,108]⟩:ByteArray)]:List ByteArray)) (inner:=[.string (⟨#[111,105,108]⟩:ByteArray)]) (ok:=fun _=>True) (okp:=fun _=>True) ?hr ?hp (fun _ hk=>hk) trivial (Below.refl _ _) (Nat.le_refl _) (by simp) ?_;(case hd=>rfl);(case hg=>rfl);(case hr=>first|(go_simp;done)|(go_simp;rfl));(case hp=>exact (Reps.one (show Kd.M Kd.string _ _ _ (⟨#[111,105,108]⟩:ByteArray) [.string (⟨#[111,105,108]⟩:ByteArray)] from rfl) (Reps.none _ _)));intro v110 w26 ho27 hb hg_ hnew_;clear hg_ hnew_;(first|rw [← Ny109.out] at ho27|(simp only [Int.reduceToNat] at ho27;rw [← Ny109.out] at ho27));have n0_:=Aside0.mk (Kd.R_lower ho27 (below_size (by repeat (first|(with_reducible first|exact HB.out|apply below_alloc|apply pw_below_drewN|apply below_drew1|refine below_set ?_ GE107.out|refine below_set ?_ GE108.out)|exact HB.out))));have n1_:=Aside0.mk (blk_below (g:=gb107) (o:=.cells #[.string (⟨#[111,105,108]⟩:ByteArray),.int .i64 1,.int .i64 9,.int .i64 0] 39 (0,0)) (by (with_reducible repeat (first|refine blk_drewN ?_ _|refine blk_drew ?_|refine blk_alloc ?_ _));refine blk_far ?_ NB107_108.out _;(with_reducible repeat (first|refine blk_drewN ?_ _|refine blk_drew ?_|refine blk_alloc ?_ _));refine blk_far ?_ NB107_108.out _;(with_reducible repeat (first|refine blk_drewN ?_ _|refine blk_drew ?_|refine blk_alloc ?_ _));refine blk_far ?_ NB107_108.out _;(with_reducible repeat (first|refine blk_drewN ?_ _|refine blk_drew ?_|refine blk_alloc ?_ _));refine blk_far ?_ NB107_108.out _;(with_reducible repeat (first|refine blk_drewN ?_ _|refine blk_drew ?_|refine blk_alloc ?_ _));refine blk_put (cs:=#[.string (⟨#[111,105,108]⟩:ByteArray),.int .i64 1,.int .i64 9,.int .i64 0]) ?_ 3 _ rfl;(with_reducible repeat (first|refine blk_drewN ?_ _|refine blk_drew ?_|refine blk_alloc ?_ _));refine blk_put (cs:=#[.string (⟨#[111,105,108]⟩:ByteArray),.int .i64 1,.int .i64 0,.int .i64 0]) ?_ 2 _ rfl;(with_reducible repeat (first|refine blk_drewN ?_ _|refine blk_drew ?_|refine blk_alloc ?_ _));refine blk_put (cs:=#[.string (⟨#[111,105,108]⟩:ByteArray),.int .i64 0,.int .i64 0,.int .i64 0]) ?_ 1 _ rfl;(with_reducible repeat (first|refine blk_drewN ?_ _|refine blk_drew ?_|refine blk_alloc ?_ _));refine blk_put (cs:=#[.string (⟨#[]⟩:ByteArray),.int .i64 0,.int .i64 0,.int .i64 0]) ?_ 0 _ rfl;(with_reducible repeat (first|refine blk_drewN ?_ _|refine blk_drew ?_|refine blk_alloc ?_ _));exact BK107.out) hb);have n2_:=Aside0.mk (blk_below (g:=gb108) (o:=.cells #[.string (⟨#[111,105,108]⟩:ByteArray),.int .i64 1,.int .i64 39,.int .i64 0] 39 (0,0)) (by (with_reducible repeat (first|refine blk_drewN ?_ _|refine blk_drew ?_|refine blk_alloc ?_ _));refine blk_put (cs:=#[.string (⟨#[111,105,108]⟩:ByteArray),.int .i64 1,.int .i64 39,.int .i64 0]) ?_ 3 _ rfl;(with_reducible repeat (first|refine blk_drewN ?_ _|refine blk_drew ?_|refine blk_alloc ?_ _));refine blk_put (cs:=#[.string (⟨#[111,105,108]⟩:ByteArray),.int .i64 1,.int .i64 0,.int .i64 0]) ?_ 2 _ rfl;(with_reducible repeat (first|refine blk_drewN ?_ _|refine blk_drew ?_|refine blk_alloc ?_ _));refine blk_put (cs:=#[.string (⟨#[111,105,108]⟩:ByteArray),.int .i64 0,.int .i64 0,.int .i64 0]) ?_ 1 _ rfl;(with_reducible repeat (first|refine blk_drewN ?_ _|refine blk_drew ?_|refine blk_alloc ?_ _));refine blk_put (cs:=#[.string (⟨#[]⟩:ByteArray),.int .i64 0,.int .i64 0,.int .i64 0]) ?_ 0 _ rfl;(with_reducible repeat (first|refine blk_drewN ?_ _|refine blk_drew ?_|refine blk_alloc ?_ _));refine blk_far ?_ NB108_107.out _;(with_reducible repeat (first|refine blk_drewN ?_ _|refine blk_drew ?_|refine blk_alloc ?_ _));refine blk_far ?_ NB108_107.out _;(with_reducible repeat (first|refine blk_drewN ?_ _|refine blk_drew ?_|refine blk_alloc ?_ _));refine blk_far ?_ NB108_107.out _;(with_reducible repeat (first|refine blk_drewN ?_ _|refine blk_drew ?_|refine blk_alloc ?_ _));refine blk_far ?_ NB108_107.out _;(with_reducible repeat (first|refine blk_drewN ?_ _|refine blk_drew ?_|refine blk_alloc ?_ _));exact BK108.out) hb);have n3_:=Aside0.mk (below_step (by repeat (first|(with_reducible first|exact HB.out|apply below_alloc|apply pw_below_drewN|apply below_drew1|refine below_set ?_ GE107.out|refine below_set ?_ GE108.out)|exact HB.out)) hb);clear BK107;clear BK108;clear HB;have HO111:=n0_;have BK107:=n1_;have BK108:=n2_;have HB:=n3_;clear n0_ n1_ n2_ n3_;clear hb ho27)|((with_reducible refine gate_dst (N:=28) rfl ?_);(try (refine gate_guard (by rfl) ?_;dsimp only));refine Kd.R_lit (Kd.int .i64) _ 3 ?hg (N:=28) ?hd (xs:=([2600]:List Int)) (inner:=[.int .i64 2600]) (ok:=fun _=>True) (okp:=fun _=>True) ?hr ?hp (fun _ hk=>hk) trivial (Below.refl _ _) (Nat.le_refl _) (by simp) ?_;(case hd=>rfl);(case hg=>rfl);(case hr=>first|(go_simp;done)|(go_simp;rfl));(case hp=>exact (Reps.one (show Kd.M (Kd.int .i64) _ _ _ 2600 [.int .i64 2600] from rfl) (Reps.none _ _)));intro v113 w28 ho29 hb hg_ hnew_;clear hg_ hnew_;(first|rw [← Ny112.out] at ho29|(simp only [Int.reduceToNat] at ho29;rw [← Ny112.out] at ho29));have n0_:=Aside0.mk (Kd.R_below (by (with_reducible repeat (first|apply Kd.R_alloc|apply Kd.R_drewN|apply Kd.R_drew));exact HO111.out) hb);have n1_:=Aside0.mk (Kd.R_lower ho29 (below_size (by repeat (first|(with_reducible first|exact HB.out|apply below_alloc|apply pw_below_drewN|apply below_drew1|refine below_set ?_ GE107.out|refine below_set ?_ GE108.out)|exact HB.out))));have n2_:=Aside0.mk (blk_below (g:=gb107) (o:=.cells #[.string (⟨#[111,105,108]⟩:ByteArray),.int .i64 1,.int .i64 9,.int .i64 0] 39 (0,0)) (by (with_reducible repeat (first|refine blk_drewN ?_ _|refine blk_drew ?_|refine blk_alloc ?_ _));exact BK107.out) hb);have n3_:=Aside0.mk (blk_below (g:=gb108) (o:=.cells #[.string (⟨#[111,105,108]⟩:ByteArray),.int .i64 1,.int .i64 39,.int .i64 0] 39 (0,0)) (by (with_reducible repeat (first|refine blk_drewN ?_ _|refine blk_drew ?_|refine blk_alloc ?_ _));exact BK108.out) hb);have n4_:=Aside0.mk (below_step (by repeat (first|(with_reducible first|exact HB.out|apply below_alloc|apply pw_below_drewN|apply below_drew1|refine below_set ?_ GE107.out|refine below_set ?_ GE108.out)|exact HB.out)) hb);clear HO111;clear BK107;clear BK108;clear HB;have HO111:=n0_;have HO114:=n1_;have BK107:=n2_;have BK108:=n3_;have HB:=n4_;clear n0_ n1_ n2_ n3_ n4_;clear hb ho29;have hcz30_0:w28.cell? ⟨gb107,0,none⟩ = some (.string (⟨#[111,105,108]⟩:ByteArray)):=(blk_cell BK107.out 0).trans rfl;have hcz30_1:w28.cell? ⟨gb107,1,none⟩ = some (.int .i64 1):=(blk_cell BK107.out 1).trans rfl;have hcz30_2:w28.cell? ⟨gb107,2,none⟩ = some (.int .i64 9):=(blk_cell BK107.out 2).trans rfl;have hcz30_3:w28.cell? ⟨gb107,3,none⟩ = some (.int .i64 0):=(blk_cell BK107.out 3).trans rfl;have hfz30_0:=blk_frozen BK107.out 0;have hfz30_1:=blk_frozen BK107.out 1;have hfz30_2:=blk_frozen BK107.out 2;have hfz30_3:=blk_frozen BK107.out 3;have hcz31_0:w28.cell? ⟨gb108,0,none⟩ = some (.string (⟨#[111,105,108]⟩:ByteArray)):=(blk_cell BK108.out 0).trans rfl;have hcz31_1:w28.cell? ⟨gb108,1,none⟩ = some (.int .i64 1):=(blk_cell BK108.out 1).trans rfl;have hcz31_2:w28.cell? ⟨gb108,2,none⟩ = some (.int .i64 39):=(blk_cell BK108.out 2).trans rfl;have hcz31_3:w28.cell? ⟨gb108,3,none⟩ = some (.int .i64 0):=(blk_cell BK108.out 3).trans rfl;have hfz31_0:=blk_frozen BK108.out 0;have hfz31_1:=blk_frozen BK108.out 1;have hfz31_2:=blk_frozen BK108.out 2;have hfz31_3:=blk_frozen BK108.out 3)|((with_reducible refine gate_dst (N:=33) rfl ?_);(try (refine gate_guard (by rfl) ?_;dsimp only));refine Kd.R_lit k92 _ 92 ?hg (N:=33) ?hd (xs:=([(⟨(⟨(⟨#[111,105,108]⟩:ByteArray),1,9,0⟩:S39),1000,2⟩:S92),(⟨(⟨(⟨#[111,105,108]⟩:ByteArray),1,39,0⟩:S39),300,9⟩:S92)]:List (S92))) (inner:=[.string (⟨#[111,105,108]⟩:ByteArray),.int .i64 1,.int .i64 9,.int .i64 0,.int .i64 1000,.int .i64 2,.string (⟨#[111,105,108]⟩:ByteArray),.int .i64 1,.int .i64 39,.int .i64 0,.int .i64 300,.int .i64 9]) (ok:=fun _=>True) (okp:=fun _=>True) ?hr ?hp (fun _ hk=>hk) trivial (Below.refl _ _) (Nat.le_refl _) (by simp) ?_;(case hd=>rfl);(case hg=>rfl);(case hr=>first|(go_simp;done)|(go_simp;rfl));(case hp=>exact (Reps.c6 (show Kd.M k92 _ _ _ (⟨(⟨(⟨#[111,105,108]⟩:ByteArray),1,9,0⟩:S39),1000,2⟩:S92) [.string (⟨#[111,105,108]⟩:ByteArray),.int .i64 1,.int .i64 9,.int .i64 0,.int .i64 1000,.int .i64 2] from (k92_mkM _ _ _ (⟨(⟨(⟨#[111,105,108]⟩:ByteArray),1,9,0⟩:S39),1000,2⟩:S92) )) (Reps.c6 (show Kd.M k92 _ _ _ (⟨(⟨(⟨#[111,105,108]⟩:ByteArray),1,39,0⟩:S39),300,9⟩:S92) [.string (⟨#[111,105,108]⟩:ByteArray),.int .i64 1,.int .i64 39,.int .i64 0,.int .i64 300,.int .i64 9] from (k92_mkM _ _ _ (⟨(⟨(⟨#[111,105,108]⟩:ByteArray),1,39,0⟩:S39),300,9⟩:S92) )) (Reps.none _ _))));intro v116 w32 ho33 hb hg_ hnew_;clear hg_ hnew_;(first|rw [← Ny115.out] at ho33|(simp only [Int.reduceToNat] at ho33;rw [← Ny115.out] at ho33));have n0_:=Aside0.mk (Kd.R_below (by (with_reducible repeat (first|apply Kd.R_alloc|apply Kd.R_drewN|apply Kd.R_drew));exact HO111.out) hb);have n1_:=Aside0.mk (Kd.R_below (by (with_reducible repeat (first|apply Kd.R_alloc|apply Kd.R_drewN|apply Kd.R_drew));exact HO114.out) hb);have n2_:=Aside0.mk (Kd.R_lower ho33 (below_size (by repeat (first|(with_reducible first|exact HB.out|apply below_alloc|apply pw_below_drewN|apply below_drew1|refine below_set ?_ GE107.out|refine below_set ?_ GE108.out)|exact HB.out))));have n3_:=Aside0.mk (blk_below (g:=gb107) (o:=.cells #[.string (⟨#[111,105,108]⟩:ByteArray),.int .i64 1,.int .i64 9,.int .i64 0] 39 (0,0)) (by (with_reducible repeat (first|refine blk_drewN ?_ _|refine blk_drew ?_|refine blk_alloc ?_ _));exact BK107.out) hb);have n4_:=Aside0.mk (blk_below (g:=gb108) (o:=.cells #[.string (⟨#[111,105,108]⟩:ByteArray),.int .i64 1,.int .i64 39,.int .i64 0] 39 (0,0)) (by (with_reducible repeat (first|refine blk_drewN ?_ _|refine blk_drew ?_|refine blk_alloc ?_ _));exact BK108.out) hb);have n5_:=Aside0.mk (below_step (by repeat (first|(with_reducible first|exact HB.out|apply below_alloc|apply pw_below_drewN|apply below_drew1|refine below_set ?_ GE107.out|refine below_set ?_ GE108.out)|exact HB.out)) hb);clear HO111;clear HO114;clear BK107;clear BK108;clear HB;have HO111:=n0_;have HO114:=n1_;have HO117:=n2_;have BK107:=n3_;have BK108:=n4_;have HB:=n5_;clear n0_ n1_ n2_ n3_ n4_ n5_;clear hb ho33;obtain ⟨Ao34,co34,eo34⟩:=Kd.R_slice HO111.out;subst eo34;obtain ⟨Ao35,co35,eo35⟩:=Kd.R_slice HO114.out;subst eo35;obtain ⟨Ao36,co36,eo36⟩:=Kd.R_slice HO117.out;subst eo36)|((with_reducible refine gate_callee (f:=15) rfl ?_);refine goesL_ (some 34) rfl rfl Try.func15 (by kernel_rfl) rfl #[.slice Ao34 y109.length co34,.slice Ao35 y112.length co35,.slice Ao36 y115.length co36] rfl (by (try simp only [List.map_toArray,List.map_cons,List.map_nil]);first|done|rfl|(simp only [List.length_drop,List.length_take];rfl)) ?_;(with_reducible refine (hedge_Plan.calls _ _ y109 _ _ y112 _ _ y115 t118 t119 t120 _ ?side1 ?side2 ?side3 ?side4 ?side5 ?side6 A4.out).mono ?_);(case side1=>repeat (first|exact (Kd.R_reads' HO111.out).2.2|(with_reducible refine Kd.C_alloc ?_ _)|(with_reducible refine Kd.C_drewN ?_ _)|(with_reducible refine Kd.C_drew ?_)));(case side2=>exact (Kd.R_reads' HO111.out).2.1);(case side3=>repeat (first|exact (Kd.R_reads' HO114.out).2.2|(with_reducible refine Kd.C_alloc ?_ _)|(with_reducible refine Kd.C_drewN ?_ _)|(with_reducible refine Kd.C_drew ?_)));(case side4=>exact (Kd.R_reads' HO114.out).2.1);(case side5=>repeat (first|exact (Kd.R_reads' HO117.out).2.2|(with_reducible refine Kd.C_alloc ?_ _)|(with_reducible refine Kd.C_drewN ?_ _)|(with_reducible refine Kd.C_drew ?_)));(case side6=>exact (Kd.R_reads' HO117.out).2.1);rintro e w37 ⟨v121,v123,rfl,ho0,ho1,hb⟩;refine ⟨_,rfl,?_⟩;have n0_:=Aside0.mk (Kd.R_below (by (with_reducible repeat (first|apply Kd.R_alloc|apply Kd.R_drewN|apply Kd.R_drew));exact HO111.out) hb);have n1_:=Aside0.mk (Kd.R_elder' (by (with_reducible repeat (first|apply Kd.R_alloc|apply Kd.R_drewN|apply Kd.R_drew));exact HO114.out) (Kd.R_base ho1) hb);have n2_:=Aside0.mk (Kd.R_below (by (with_reducible repeat (first|apply Kd.R_alloc|apply Kd.R_drewN|apply Kd.R_drew));exact HO117.out) hb);have n3_:=Aside0.mk (Kd.R_lower ho0 (below_size (by repeat (first|(with_reducible first|exact HB.out|apply below_alloc|apply pw_below_drewN|apply below_drew1|refine below_set ?_ GE107.out|refine below_set ?_ GE108.out)|exact HB.out))));have n4_:=Aside0.mk (Kd.R_lower (Kd.R_new' ho1 (Kd.R_lt (by (with_reducible repeat (first|apply Kd.R_alloc|apply Kd.R_drewN|apply Kd.R_drew));exact HO114.out))) (below_size (by repeat (first|(with_reducible first|exact HB.out|apply below_alloc|apply pw_below_drewN|apply below_drew1|refine below_set ?_ GE107.out|refine below_set ?_ GE108.out)|exact HB.out))));have n5_:=Aside0.mk (blk_below (g:=gb107) (o:=.cells #[.string (⟨#[111,105,108]⟩:ByteArray),.int .i64 1,.int .i64 9,.int .i64 0] 39 (0,0)) (by (with_reducible repeat (first|refine blk_drewN ?_ _|refine blk_drew ?_|refine blk_alloc ?_ _));exact BK107.out) hb);have n6_:=Aside0.mk (blk_below (g:=gb108) (o:=.cells #[.string (⟨#[111,105,108]⟩:ByteArray),.int .i64 1,.int .i64 39,.int .i64 0] 39 (0,0)) (by (with_reducible repeat (first|refine blk_drewN ?_ _|refine blk_drew ?_|refine blk_alloc ?_ _));exact BK108.out) hb);have n7_:=Aside0.mk (below_step (by repeat (first|(with_reducible first|exact HB.out|apply below_alloc|apply pw_below_drewN|apply below_drew1|refine below_set ?_ GE107.out|refine below_set ?_ GE108.out)|exact HB.out)) hb);clear HO111;clear HO114;clear HO117;clear BK107;clear BK108;clear HB;have HO111:=n0_;have HO114:=n1_;have HO117:=n2_;have HO122:=n3_;have HO124:=n4_;have BK107:=n5_;have BK108:=n6_;have HB:=n7_;clear n0_ n1_ n2_ n3_ n4_ n5_ n6_ n7_;(try clear hb);(try clear hb2);(try clear hk);(try clear hi);(try clear ho0);(try clear ho1)))
             have n0_:=Aside0.mk (Kd.R_drew HO111.out)
             have n1_:=Aside0.mk (Kd.R_drew HO114.out)
             have n2_:=Aside0.mk (Kd.R_drew HO117.out)
             have n3_:=Aside0.mk (Kd.R_drew HO122.out)
             have n4_:=Aside0.mk (Kd.R_drew HO124.out)
             have n5_:=Aside0.mk (blk_drew BK107.out)
             have n6_:=Aside0.mk (blk_drew BK108.out)
             have n7_:=Aside0.mk (below_drew1 HB.out)
             clear HO111
             clear HO114
             clear HO117
             clear HO122
             clear HO124
             clear BK107
             clear BK108
             clear HB
             have HO111:=n0_
             have HO114:=n1_
             have HO117:=n2_
             have HO122:=n3_
             have HO124:=n4_
             have BK107:=n5_
             have BK108:=n6_
             have HB:=n7_
             clear n0_ n1_ n2_ n3_ n4_ n5_ n6_ n7_
             obtain ⟨Aog_,cog_,eog_⟩:=Kd.R_slice HO122.out;subst eog_
             have p129:0 ≤ (0:Int):=(by omega)
             have q129:0 < (t118.length:Int):=of_decide_eq_true (by first|(with_reducible assumption)|assumption)
             obtain ⟨ad129,e129,hx129_0,hx129_1,hx129_2,hx129_3,hx129_4⟩:=at_T41 (Kd.R_reads' HO122.out).2.2 0 p129 q129
             cases e129
             have qi129:(0 < t118.length) = True:=eq_true (by omega)
             (try rw [show ((0:Int)).toNat = 0 from rfl] at hx129_0)
             (try rw [show 0 * 5 = 0 from rfl] at hx129_0)
             (try rw [Addr.add_zero'] at hx129_0)
             (try rw [show ((0:Int)).toNat = 0 from rfl] at hx129_1)
             (try rw [show 0 * 5 = 0 from rfl] at hx129_1)
             (try rw [Addr.add_zero'] at hx129_1)
             (try rw [show ((0:Int)).toNat = 0 from rfl] at hx129_2)
             (try rw [show 0 * 5 = 0 from rfl] at hx129_2)
             (try rw [Addr.add_zero'] at hx129_2)
             (try rw [show ((0:Int)).toNat = 0 from rfl] at hx129_3)
             (try rw [show 0 * 5 = 0 from rfl] at hx129_3)
             (try rw [Addr.add_zero'] at hx129_3)
             (try rw [show ((0:Int)).toNat = 0 from rfl] at hx129_4)
             (try rw [show 0 * 5 = 0 from rfl] at hx129_4)
             (try rw [Addr.add_zero'] at hx129_4)
             replace p129:=eq_true p129
             replace q129:=eq_true q129
             have p130:0 ≤ (1:Int):=(by omega)
             have q130:1 < (t118.length:Int):=of_decide_eq_true (by first|(with_reducible assumption)|assumption)
             obtain ⟨ad130,e130,hx130_0,hx130_1,hx130_2,hx130_3,hx130_4⟩:=at_T41 (Kd.R_reads' HO122.out).2.2 1 p130 q130
             obtain rfl:ad129 = ad130:=(by injection e130)
             (try simp only [show (1:Int).toNat = 1 from rfl,Nat.reduceMul,Nat.reduceEqDiff,Go.Addr.add,↓reduceIte] at hx130_0)
             (try simp only [show (1:Int).toNat = 1 from rfl,Nat.reduceMul,Nat.reduceEqDiff,Go.Addr.add,↓reduceIte] at hx130_1)
             (try simp only [show (1:Int).toNat = 1 from rfl,Nat.reduceMul,Nat.reduceEqDiff,Go.Addr.add,↓reduceIte] at hx130_2)
             (try simp only [show (1:Int).toNat = 1 from rfl,Nat.reduceMul,Nat.reduceEqDiff,Go.Addr.add,↓reduceIte] at hx130_3)
             (try simp only [show (1:Int).toNat = 1 from rfl,Nat.reduceMul,Nat.reduceEqDiff,Go.Addr.add,↓reduceIte] at hx130_4)
             have qi130:(1 < t118.length) = True:=eq_true (by omega)
             (try rw [show ((1:Int)).toNat = 1 from rfl] at hx130_0)
             (try rw [show 1 * 5 = 5 from rfl] at hx130_0)
             (try rw [show ((1:Int)).toNat = 1 from rfl] at hx130_1)
             (try rw [show 1 * 5 = 5 from rfl] at hx130_1)
             (try rw [show ((1:Int)).toNat = 1 from rfl] at hx130_2)
             (try rw [show 1 * 5 = 5 from rfl] at hx130_2)
             (try rw [show ((1:Int)).toNat = 1 from rfl] at hx130_3)
             (try rw [show 1 * 5 = 5 from rfl] at hx130_3)
             (try rw [show ((1:Int)).toNat = 1 from rfl] at hx130_4)
             (try rw [show 1 * 5 = 5 from rfl] at hx130_4)
             replace p130:=eq_true p130
             replace q130:=eq_true q130
             refine start_ (n:=53) (S:=fun w'=>w'.cell? ⟨gb107,0,none⟩ = some (.string (⟨#[111,105,108]⟩:ByteArray)) ∧ w'.cell? ⟨gb107,1,none⟩ = some (.int .i64 1) ∧ w'.cell? ⟨gb107,2,none⟩ = some (.int .i64 9) ∧ w'.cell? ⟨gb107,3,none⟩ = some (.int .i64 0) ∧ w'.cell? ⟨gb108,0,none⟩ = some (.string (⟨#[111,105,108]⟩:ByteArray)) ∧ w'.cell? ⟨gb108,1,none⟩ = some (.int .i64 1) ∧ w'.cell? ⟨gb108,2,none⟩ = some (.int .i64 39) ∧ w'.cell? ⟨gb108,3,none⟩ = some (.int .i64 0) ∧ w'.cell? ad129 = some (.string ((rd_T41 t118 0).f0.f0)) ∧ w'.cell? ⟨ad129.block,ad129.off + 1,none⟩ = some (.int .i64 ((rd_T41 t118 0).f0.f1)) ∧ w'.cell? ⟨ad129.block,ad129.off + 2,none⟩ = some (.int .i64 ((rd_T41 t118 0).f0.f2)) ∧ w'.cell? ⟨ad129.block,ad129.off + 3,none⟩ = some (.int .i64 ((rd_T41 t118 0).f0.f3)) ∧ w'.cell? ⟨ad129.block,ad129.off + 4,none⟩ = some (.int .i64 ((rd_T41 t118 0).f1)) ∧ w'.cell? ⟨ad129.block,ad129.off + 5,none⟩ = some (.string ((rd_T41 t118 1).f0.f0)) ∧ w'.cell? ⟨ad129.block,ad129.off + 5 + 1,none⟩ = some (.int .i64 ((rd_T41 t118 1).f0.f1)) ∧ w'.cell? ⟨ad129.block,ad129.off + 5 + 2,none⟩ = some (.int .i64 ((rd_T41 t118 1).f0.f2)) ∧ w'.cell? ⟨ad129.block,ad129.off + 5 + 3,none⟩ = some (.int .i64 ((rd_T41 t118 1).f0.f3)) ∧ w'.cell? ⟨ad129.block,ad129.off + 5 + 4,none⟩ = some (.int .i64 ((rd_T41 t118 1).f1))) (ds:=[]) #[Z,Z,Z,Z,Z,Z,Z,Z,Z,Z,Z,Z,Z,Z,Z,Z,Z,Z,Z,Z,Z,Z,Z,Z,Z,Z,Z,Z,Z,Z,Z,Z,Z,Z,Z,Z,Z,Z,Z,Z,Z,Z,Z,Z,Z,Z,Z,Z,Z,Z,Z,Z,Z] (by kernel_rfl) rfl rfl ⟨(blk_cell BK107.out 0).trans rfl,(blk_cell BK107.out 1).trans rfl,(blk_cell BK107.out 2).trans rfl,(blk_cell BK107.out 3).trans rfl,(blk_cell BK108.out 0).trans rfl,(blk_cell BK108.out 1).trans rfl,(blk_cell BK108.out 2).trans rfl,(blk_cell BK108.out 3).trans rfl,hx129_0,hx129_1,hx129_2,hx129_3,hx129_4,hx130_0,hx130_1,hx130_2,hx130_3,hx130_4⟩ (fun hHeld=>?_);refine with_tabW contangolaw43_goes.tab6 contangolaw43_goes.bits6 (fun HT_ HW_=>?_)
             generalize w37.drew = w38 at HO111 HO114 HO117 HO122 HO124 BK107 BK108 HB hx129_0 hx129_1 hx129_2 hx129_3 hx129_4 hx130_0 hx130_1 hx130_2 hx130_3 hx130_4 hHeld ⊢
             refine pure_ (i:=0) (N:=some 38) (v:=?_) (a':=?_) #[Y,Z,Z,Z,Z,Z,Z,Z,Z,Z,Z,Z,Z,Z,Z,Z,Z,Z,Z,Z,Z,Z,Z,Z,Z,Z,Z,Z,Z,Z,Z,Z,Z,Z,Z,Z,Z,Z,Z,Z,Z,Z,Z,Z,Z,Z,Z,Z,Z,Z,Z,Z,Z] rfl rfl (any_of HT_.out (by kernel_rfl)) (fun _ _ _ h=>h) (Or.inl ⟨by rfl,?_⟩) ?_ ?_
             rotate_left
             ·intro w'
              go_simp
              with_reducible rfl
             rotate_left
             ·simp only [Act.put,List.setIfInBounds_toArray,List.set_cons_zero,List.set_cons_succ,i64_w,i32_w]
              rfl
             refine pure_ (i:=1) (N:=some 39) (v:=?_) (a':=?_) #[Y,Y,Z,Z,Z,Z,Z,Z,Z,Z,Z,Z,Z,Z,Z,Z,Z,Z,Z,Z,Z,Z,Z,Z,Z,Z,Z,Z,Z,Z,Z,Z,Z,Z,Z,Z,Z,Z,Z,Z,Z,Z,Z,Z,Z,Z,Z,Z,Z,Z,Z,Z,Z] rfl rfl (any_of HT_.out (by kernel_rfl)) (fun _ _ _ h=>h) (Or.inl ⟨by rfl,?_⟩) ?_ ?_
             rotate_left
             ·intro w'
              go_simp
              with_reducible rfl
             rotate_left
             ·simp only [Act.put,List.setIfInBounds_toArray,List.set_cons_zero,List.set_cons_succ,i64_w,i32_w]
              rfl
             refine pure_ (i:=2) (N:=some 40) (v:=?_) (a':=?_) #[Y,Y,Y,Z,Z,Z,Z,Z,Z,Z,Z,Z,Z,Z,Z,Z,Z,Z,Z,Z,Z,Z,Z,Z,Z,Z,Z,Z,Z,Z,Z,Z,Z,Z,Z,Z,Z,Z,Z,Z,Z,Z,Z,Z,Z,Z,Z,Z,Z,Z,Z,Z,Z] rfl rfl (any_of HT_.out (by kernel_rfl)) (fun _ _ _ h=>h) (Or.inl ⟨by rfl,?_⟩) ?_ ?_
             rotate_left
             ·intro w'
              go_simp
              with_reducible rfl
             rotate_left
             ·simp only [Act.put,List.setIfInBounds_toArray,List.set_cons_zero,List.set_cons_succ,i64_w,i32_w]
              rfl
             refine pure_ (i:=3) (N:=some 41) (v:=?_) (a':=?_) #[Y,Y,Y,Y,Z,Z,Z,Z,Z,Z,Z,Z,Z,Z,Z,Z,Z,Z,Z,Z,Z,Z,Z,Z,Z,Z,Z,Z,Z,Z,Z,Z,Z,Z,Z,Z,Z,Z,Z,Z,Z,Z,Z,Z,Z,Z,Z,Z,Z,Z,Z,Z,Z] rfl rfl (any_of HT_.out (by kernel_rfl)) (fun _ _ _ h=>h) (Or.inl ⟨by rfl,?_⟩) ?_ ?_
             rotate_left
             ·intro w'
              go_simp
              with_reducible rfl
             rotate_left
             ·simp only [Act.put,List.setIfInBounds_toArray,List.set_cons_zero,List.set_cons_succ,i64_w,i32_w]
              rfl
             refine pure_ (i:=4) (N:=some 42) (v:=?_) (a':=?_) #[Y,Y,Y,Y,Y,Z,Z,Z,Z,Z,Z,Z,Z,Z,Z,Z,Z,Z,Z,Z,Z,Z,Z,Z,Z,Z,Z,Z,Z,Z,Z,Z,Z,Z,Z,Z,Z,Z,Z,Z,Z,Z,Z,Z,Z,Z,Z,Z,Z,Z,Z,Z,Z] rfl rfl (any_of HT_.out (by kernel_rfl)) (fun _ _ _ h=>h) (Or.inl ⟨by rfl,?_⟩) ?_ ?_
             rotate_left
             ·intro w'
              go_simp
              with_reducible rfl
             rotate_left
             ·simp only [Act.put,List.setIfInBounds_toArray,List.set_cons_zero,List.set_cons_succ,i64_w,i32_w]
              rfl
             refine pure_ (i:=5) (N:=some 43) (v:=?_) (a':=?_) #[Y,Y,Y,Y,Y,Y,Z,Z,Z,Z,Z,Z,Z,Z,Z,Z,Z,Z,Z,Z,Z,Z,Z,Z,Z,Z,Z,Z,Z,Z,Z,Z,Z,Z,Z,Z,Z,Z,Z,Z,Z,Z,Z,Z,Z,Z,Z,Z,Z,Z,Z,Z,Z] rfl rfl (any_of HT_.out (by kernel_rfl)) (fun _ _ _ h=>h) (Or.inl ⟨by rfl,?_⟩) ?_ ?_
             rotate_left
             ·intro w'
              go_simp
              with_reducible rfl
             rotate_left
             ·simp only [Act.put,List.setIfInBounds_toArray,List.set_cons_zero,List.set_cons_succ,i64_w,i32_w]
              rfl
             refine pure_ (i:=6) (N:=some 44) (v:=?_) (a':=?_) #[Y,Y,Y,Y,Y,Y,Y,Z,Z,Z,Z,Z,Z,Z,Z,Z,Z,Z,Z,Z,Z,Z,Z,Z,Z,Z,Z,Z,Z,Z,Z,Z,Z,Z,Z,Z,Z,Z,Z,Z,Z,Z,Z,Z,Z,Z,Z,Z,Z,Z,Z,Z,Z] rfl rfl (any_of HT_.out (by kernel_rfl)) (fun _ _ _ h=>h) (Or.inl ⟨by rfl,?_⟩) ?_ ?_
             rotate_left
             ·intro w'
              go_simp
              with_reducible rfl
             rotate_left
             ·simp only [Act.put,List.setIfInBounds_toArray,List.set_cons_zero,List.set_cons_succ,i64_w,i32_w]
              rfl
             refine pure_ (i:=7) (N:=some 45) (v:=?_) (a':=?_) #[Y,Y,Y,Y,Y,Y,Y,Y,Z,Z,Z,Z,Z,Z,Z,Z,Z,Z,Z,Z,Z,Z,Z,Z,Z,Z,Z,Z,Z,Z,Z,Z,Z,Z,Z,Z,Z,Z,Z,Z,Z,Z,Z,Z,Z,Z,Z,Z,Z,Z,Z,Z,Z] rfl rfl (any_of HT_.out (by kernel_rfl)) (fun _ _ _ h=>h) (Or.inl ⟨by rfl,?_⟩) ?_ ?_
             rotate_left
             ·intro w'
              go_simp
              with_reducible rfl
             rotate_left
             ·simp only [Act.put,List.setIfInBounds_toArray,List.set_cons_zero,List.set_cons_succ,i64_w,i32_w]
              rfl
             refine pure_ (i:=8) (N:=some 46) (v:=?_) (a':=?_) #[Y,Y,Y,Y,Y,Y,Y,Y,Y,Z,Z,Z,Z,Z,Z,Z,Z,Z,Z,Z,Z,Z,Z,Z,Z,Z,Z,Z,Z,Z,Z,Z,Z,Z,Z,Z,Z,Z,Z,Z,Z,Z,Z,Z,Z,Z,Z,Z,Z,Z,Z,Z,Z] rfl rfl (any_of HT_.out (by kernel_rfl)) (fun _ _ _ h=>h) (Or.inl ⟨by rfl,?_⟩) ?_ ?_
             rotate_left
             ·intro w'
              go_simp
              with_reducible rfl
             rotate_left
             ·simp only [Act.put,List.setIfInBounds_toArray,List.set_cons_zero,List.set_cons_succ,i64_w,i32_w]
              rfl
             refine pure_ (i:=9) (N:=some 47) (v:=?_) (a':=?_) #[Y,Y,Y,Y,Y,Y,Y,Y,Y,Y,Z,Z,Z,Z,Z,Z,Z,Z,Z,Z,Z,Z,Z,Z,Z,Z,Z,Z,Z,Z,Z,Z,Z,Z,Z,Z,Z,Z,Z,Z,Z,Z,Z,Z,Z,Z,Z,Z,Z,Z,Z,Z,Z] rfl rfl (any_of HT_.out (by kernel_rfl)) (fun _ _ _ h=>h) (Or.inl ⟨by rfl,?_⟩) ?_ ?_
             rotate_left
             ·intro w'
              go_simp
              with_reducible rfl
             rotate_left
             ·simp only [Act.put,List.setIfInBounds_toArray,List.set_cons_zero,List.set_cons_succ,i64_w,i32_w]
              rfl
             refine pure_ (i:=10) (N:=some 48) (v:=?_) (a':=?_) #[Y,Y,Y,Y,Y,Y,Y,Y,Y,Y,Y,Z,Z,Z,Z,Z,Z,Z,Z,Z,Z,Z,Z,Z,Z,Z,Z,Z,Z,Z,Z,Z,Z,Z,Z,Z,Z,Z,Z,Z,Z,Z,Z,Z,Z,Z,Z,Z,Z,Z,Z,Z,Z] rfl rfl (any_of HT_.out (by kernel_rfl)) (fun _ _ _ h=>h) (Or.inl ⟨by rfl,?_⟩) ?_ ?_
             rotate_left
             ·intro w'
              go_simp
              with_reducible rfl
             rotate_left
             ·simp only [Act.put,List.setIfInBounds_toArray,List.set_cons_zero,List.set_cons_succ,i64_w,i32_w]
              rfl
             refine pure_ (i:=11) (N:=some 49) (v:=?_) (a':=?_) #[Y,Y,Y,Y,Y,Y,Y,Y,Y,Y,Y,Y,Z,Z,Z,Z,Z,Z,Z,Z,Z,Z,Z,Z,Z,Z,Z,Z,Z,Z,Z,Z,Z,Z,Z,Z,Z,Z,Z,Z,Z,Z,Z,Z,Z,Z,Z,Z,Z,Z,Z,Z,Z] rfl rfl (any_of HT_.out (by kernel_rfl)) (fun _ _ _ h=>h) (Or.inl ⟨by rfl,?_⟩) ?_ ?_
             rotate_left
             ·intro w'
              go_simp
              with_reducible rfl
             rotate_left
             ·simp only [Act.put,List.setIfInBounds_toArray,List.set_cons_zero,List.set_cons_succ,i64_w,i32_w]
              rfl
             refine pure_ (i:=12) (N:=some 50) (v:=?_) (a':=?_) #[Y,Y,Y,Y,Y,Y,Y,Y,Y,Y,Y,Y,Y,Z,Z,Z,Z,Z,Z,Z,Z,Z,Z,Z,Z,Z,Z,Z,Z,Z,Z,Z,Z,Z,Z,Z,Z,Z,Z,Z,Z,Z,Z,Z,Z,Z,Z,Z,Z,Z,Z,Z,Z] rfl rfl (any_of HT_.out (by kernel_rfl)) (fun _ _ _ h=>h) (Or.inl ⟨by rfl,?_⟩) ?_ ?_
             rotate_left
             ·intro w'
              go_simp
              with_reducible rfl
             rotate_left
             ·simp only [Act.put,List.setIfInBounds_toArray,List.set_cons_zero,List.set_cons_succ,i64_w,i32_w]
              rfl
             refine pure_ (i:=13) (N:=some 51) (v:=?_) (a':=?_) #[Y,Y,Y,Y,Y,Y,Y,Y,Y,Y,Y,Y,Y,Y,Z,Z,Z,Z,Z,Z,Z,Z,Z,Z,Z,Z,Z,Z,Z,Z,Z,Z,Z,Z,Z,Z,Z,Z,Z,Z,Z,Z,Z,Z,Z,Z,Z,Z,Z,Z,Z,Z,Z] rfl rfl (any_of HT_.out (by kernel_rfl)) (fun _ _ _ h=>h) (Or.inl ⟨by rfl,?_⟩) ?_ ?_
             rotate_left
             ·intro w'
              go_simp
              with_reducible rfl
             rotate_left
             ·simp only [Act.put,List.setIfInBounds_toArray,List.set_cons_zero,List.set_cons_succ,i64_w,i32_w]
              rfl
             refine pure_ (i:=14) (N:=some 52) (v:=?_) (a':=?_) #[Y,Y,Y,Y,Y,Y,Y,Y,Y,Y,Y,Y,Y,Y,Y,Z,Z,Z,Z,Z,Z,Z,Z,Z,Z,Z,Z,Z,Z,Z,Z,Z,Z,Z,Z,Z,Z,Z,Z,Z,Z,Z,Z,Z,Z,Z,Z,Z,Z,Z,Z,Z,Z] rfl rfl (any_of HT_.out (by kernel_rfl)) (fun _ _ _ h=>h) (Or.inl ⟨by rfl,?_⟩) ?_ ?_
             rotate_left
             ·intro w'
              go_simp
              with_reducible rfl
             rotate_left
             ·simp only [Act.put,List.setIfInBounds_toArray,List.set_cons_zero,List.set_cons_succ,i64_w,i32_w]
              rfl
             refine pure_ (i:=15) (N:=some 53) (v:=?_) (a':=?_) #[Y,Y,Y,Y,Y,Y,Y,Y,Y,Y,Y,Y,Y,Y,Y,Y,Z,Z,Z,Z,Z,Z,Z,Z,Z,Z,Z,Z,Z,Z,Z,Z,Z,Z,Z,Z,Z,Z,Z,Z,Z,Z,Z,Z,Z,Z,Z,Z,Z,Z,Z,Z,Z] rfl rfl (any_of HT_.out (by kernel_rfl)) (fun _ _ _ h=>h) (Or.inl ⟨by rfl,?_⟩) ?_ ?_
             rotate_left
             ·intro w'
              go_simp
              with_reducible rfl
             rotate_left
             ·simp only [Act.put,List.setIfInBounds_toArray,List.set_cons_zero,List.set_cons_succ,i64_w,i32_w]
              rfl
             refine pure_ (i:=16) (N:=some 54) (v:=?_) (a':=?_) #[Y,Y,Y,Y,Y,Y,Y,Y,Y,Y,Y,Y,Y,Y,Y,Y,Y,Z,Z,Z,Z,Z,Z,Z,Z,Z,Z,Z,Z,Z,Z,Z,Z,Z,Z,Z,Z,Z,Z,Z,Z,Z,Z,Z,Z,Z,Z,Z,Z,Z,Z,Z,Z] rfl rfl (any_of HT_.out (by kernel_rfl)) (fun _ _ _ h=>h) (Or.inl ⟨by rfl,?_⟩) ?_ ?_
             rotate_left
             ·intro w'
              go_simp
              with_reducible rfl
             rotate_left
             ·simp only [Act.put,List.setIfInBounds_toArray,List.set_cons_zero,List.set_cons_succ,i64_w,i32_w]
              rfl
             refine pure_ (i:=17) (N:=some 55) (v:=?_) (a':=?_) #[Y,Y,Y,Y,Y,Y,Y,Y,Y,Y,Y,Y,Y,Y,Y,Y,Y,Y,Z,Z,Z,Z,Z,Z,Z,Z,Z,Z,Z,Z,Z,Z,Z,Z,Z,Z,Z,Z,Z,Z,Z,Z,Z,Z,Z,Z,Z,Z,Z,Z,Z,Z,Z] rfl rfl (any_of HT_.out (by kernel_rfl)) (fun _ _ _ h=>h) (Or.inl ⟨by rfl,?_⟩) ?_ ?_
             rotate_left
             ·intro w'
              go_simp
              with_reducible rfl
             rotate_left
             ·simp only [Act.put,List.setIfInBounds_toArray,List.set_cons_zero,List.set_cons_succ,i64_w,i32_w]
              rfl
             refine pure_ (i:=18) (N:=some 56) (v:=?_) (a':=?_) #[Y,Y,Y,Y,Y,Y,Y,Y,Y,Y,Y,Y,Y,Y,Y,Y,Y,Y,Y,Z,Z,Z,Z,Z,Z,Z,Z,Z,Z,Z,Z,Z,Z,Z,Z,Z,Z,Z,Z,Z,Z,Z,Z,Z,Z,Z,Z,Z,Z,Z,Z,Z,Z] rfl rfl (any_of HT_.out (by kernel_rfl)) (fun _ _ _ h=>h) (Or.inl ⟨by rfl,?_⟩) ?_ ?_
             rotate_left
             ·intro w'
              go_simp
              with_reducible rfl
             rotate_left
             ·simp only [Act.put,List.setIfInBounds_toArray,List.set_cons_zero,List.set_cons_succ,i64_w,i32_w]
              rfl
             refine pure_ (i:=19) (N:=some 57) (v:=?_) (a':=?_) #[Y,Y,Y,Y,Y,Y,Y,Y,Y,Y,Y,Y,Y,Y,Y,Y,Y,Y,Y,Y,Z,Z,Z,Z,Z,Z,Z,Z,Z,Z,Z,Z,Z,Z,Z,Z,Z,Z,Z,Z,Z,Z,Z,Z,Z,Z,Z,Z,Z,Z,Z,Z,Z] rfl rfl (any_of HT_.out (by kernel_rfl)) (fun _ _ _ h=>h) (Or.inl ⟨by rfl,?_⟩) ?_ ?_
             rotate_left
             ·intro w'
              go_simp
              with_reducible rfl
             rotate_left
             ·simp only [Act.put,List.setIfInBounds_toArray,List.set_cons_zero,List.set_cons_succ,i64_w,i32_w]
              rfl
             refine pure_ (i:=20) (N:=some 58) (v:=?_) (a':=?_) #[Y,Y,Y,Y,Y,Y,Y,Y,Y,Y,Y,Y,Y,Y,Y,Y,Y,Y,Y,Y,Y,Z,Z,Z,Z,Z,Z,Z,Z,Z,Z,Z,Z,Z,Z,Z,Z,Z,Z,Z,Z,Z,Z,Z,Z,Z,Z,Z,Z,Z,Z,Z,Z] rfl rfl (any_of HT_.out (by kernel_rfl)) (fun _ _ _ h=>h) (Or.inl ⟨by rfl,?_⟩) ?_ ?_
             rotate_left
             ·intro w'
              go_simp
              with_reducible rfl
             rotate_left
             ·simp only [Act.put,List.setIfInBounds_toArray,List.set_cons_zero,List.set_cons_succ,i64_w,i32_w]
              rfl
             refine pure_ (i:=21) (N:=some 59) (v:=?_) (a':=?_) #[Y,Y,Y,Y,Y,Y,Y,Y,Y,Y,Y,Y,Y,Y,Y,Y,Y,Y,Y,Y,Y,Y,Z,Z,Z,Z,Z,Z,Z,Z,Z,Z,Z,Z,Z,Z,Z,Z,Z,Z,Z,Z,Z,Z,Z,Z,Z,Z,Z,Z,Z,Z,Z] rfl rfl (any_of HT_.out (by kernel_rfl)) (fun _ _ _ h=>h) (Or.inl ⟨by rfl,?_⟩) ?_ ?_
             rotate_left
             ·intro w'
              go_simp
              with_reducible rfl
             rotate_left
             ·simp only [Act.put,List.setIfInBounds_toArray,List.set_cons_zero,List.set_cons_succ,i64_w,i32_w]
              rfl
             refine pure_ (i:=22) (N:=some 60) (v:=?_) (a':=?_) #[Y,Y,Y,Y,Y,Y,Y,Y,Y,Y,Y,Y,Y,Y,Y,Y,Y,Y,Y,Y,Y,Y,Y,Z,Z,Z,Z,Z,Z,Z,Z,Z,Z,Z,Z,Z,Z,Z,Z,Z,Z,Z,Z,Z,Z,Z,Z,Z,Z,Z,Z,Z,Z] rfl rfl (any_of HT_.out (by kernel_rfl)) (fun _ _ _ h=>h) (Or.inl ⟨by rfl,?_⟩) ?_ ?_
             rotate_left
             ·intro w'
              go_simp
              with_reducible rfl
             rotate_left
             ·simp only [Act.put,List.setIfInBounds_toArray,List.set_cons_zero,List.set_cons_succ,i64_w,i32_w]
              rfl
             refine pure_ (i:=23) (N:=some 61) (v:=?_) (a':=?_) #[Y,Y,Y,Y,Y,Y,Y,Y,Y,Y,Y,Y,Y,Y,Y,Y,Y,Y,Y,Y,Y,Y,Y,Y,Z,Z,Z,Z,Z,Z,Z,Z,Z,Z,Z,Z,Z,Z,Z,Z,Z,Z,Z,Z,Z,Z,Z,Z,Z,Z,Z,Z,Z] rfl rfl (any_of HT_.out (by kernel_rfl)) (fun _ _ _ h=>h) (Or.inl ⟨by rfl,?_⟩) ?_ ?_
             rotate_left
             ·intro w'
              go_simp
              with_reducible rfl
             rotate_left
             ·simp only [Act.put,List.setIfInBounds_toArray,List.set_cons_zero,List.set_cons_succ,i64_w,i32_w]
              rfl
             refine pure_ (i:=24) (N:=some 62) (v:=?_) (a':=?_) #[Y,Y,Y,Y,Y,Y,Y,Y,Y,Y,Y,Y,Y,Y,Y,Y,Y,Y,Y,Y,Y,Y,Y,Y,Y,Z,Z,Z,Z,Z,Z,Z,Z,Z,Z,Z,Z,Z,Z,Z,Z,Z,Z,Z,Z,Z,Z,Z,Z,Z,Z,Z,Z] rfl rfl (any_of HT_.out (by kernel_rfl)) (fun _ _ _ h=>h) (Or.inl ⟨by rfl,?_⟩) ?_ ?_
             rotate_left
             ·intro w'
              go_simp
              with_reducible rfl
             rotate_left
             ·simp only [Act.put,List.setIfInBounds_toArray,List.set_cons_zero,List.set_cons_succ,i64_w,i32_w]
              rfl
             refine pure_ (i:=25) (N:=some 63) (v:=?_) (a':=?_) #[Y,Y,Y,Y,Y,Y,Y,Y,Y,Y,Y,Y,Y,Y,Y,Y,Y,Y,Y,Y,Y,Y,Y,Y,Y,Y,Z,Z,Z,Z,Z,Z,Z,Z,Z,Z,Z,Z,Z,Z,Z,Z,Z,Z,Z,Z,Z,Z,Z,Z,Z,Z,Z] rfl rfl (any_of HT_.out (by kernel_rfl)) (fun _ _ _ h=>h) (Or.inl ⟨by rfl,?_⟩) ?_ ?_
             rotate_left
             ·intro w'
              go_simp
              with_reducible rfl
             rotate_left
             ·simp only [Act.put,List.setIfInBounds_toArray,List.set_cons_zero,List.set_cons_succ,i64_w,i32_w]
              rfl
             refine pure_ (i:=26) (N:=some 64) (v:=?_) (a':=?_) #[Y,Y,Y,Y,Y,Y,Y,Y,Y,Y,Y,Y,Y,Y,Y,Y,Y,Y,Y,Y,Y,Y,Y,Y,Y,Y,Y,Z,Z,Z,Z,Z,Z,Z,Z,Z,Z,Z,Z,Z,Z,Z,Z,Z,Z,Z,Z,Z,Z,Z,Z,Z,Z] rfl rfl (any_of HT_.out (by kernel_rfl)) (fun _ _ _ h=>h) (Or.inl ⟨by rfl,?_⟩) ?_ ?_
             rotate_left
             ·intro w'
              go_simp
              with_reducible rfl
             rotate_left
             ·simp only [Act.put,List.setIfInBounds_toArray,List.set_cons_zero,List.set_cons_succ,i64_w,i32_w]
              rfl
             refine pure_ (i:=27) (N:=some 65) (v:=?_) (a':=?_) #[Y,Y,Y,Y,Y,Y,Y,Y,Y,Y,Y,Y,Y,Y,Y,Y,Y,Y,Y,Y,Y,Y,Y,Y,Y,Y,Y,Y,Z,Z,Z,Z,Z,Z,Z,Z,Z,Z,Z,Z,Z,Z,Z,Z,Z,Z,Z,Z,Z,Z,Z,Z,Z] rfl rfl (any_of HT_.out (by kernel_rfl)) (fun _ _ _ h=>h) (Or.inl ⟨by rfl,?_⟩) ?_ ?_
             rotate_left
             ·intro w'
              go_simp
              with_reducible rfl
             rotate_left
             ·simp only [Act.put,List.setIfInBounds_toArray,List.set_cons_zero,List.set_cons_succ,i64_w,i32_w]
              rfl
             refine one_ (i:=28) (N:=some 66) #[Y,Y,Y,Y,Y,Y,Y,Y,Y,Y,Y,Y,Y,Y,Y,Y,Y,Y,Y,Y,Y,Y,Y,Y,Y,Y,Y,Y,Y,Z,Z,Z,Z,Z,Z,Z,Z,Z,Z,Z,Z,Z,Z,Z,Z,Z,Z,Z,Z,Z,Z,Z,Z] rfl rfl (one_of HT_.out (by kernel_rfl)) (by decide) (fun K hK=>?_)
             refine Kd.R_lit_step (Kd.int .i64) _ 3 ?hg (N:=66) ?hd (xs:=([0]:List Int)) (inner:=[.int .i64 0]) (ok:=fun _=>True) (okp:=fun _=>True) ?hr ?hp (fun _ hk=>hk) trivial (Below.refl _ _) (Nat.le_refl _) (by simp) ?_;(case hd=>rfl);(case hg=>rfl);(case hr=>first|(go_simp;done)|(go_simp;rfl));(case hp=>exact (Reps.one (show Kd.M (Kd.int .i64) _ _ _ 0 [.int .i64 0] from rfl) (Reps.none _ _)))
             intro v126 w39 ho40 hb hg_ hnew_
             have HS8_:=(hb.cell (World.block_lt_of_cell? _ _ (hHeld.2.2.2.2.2.2.2.2.1))).trans (hHeld.2.2.2.2.2.2.2.2.1)
             have HS9_:=(hb.cell (World.block_lt_of_cell? _ _ (hHeld.2.2.2.2.2.2.2.2.2.1))).trans (hHeld.2.2.2.2.2.2.2.2.2.1)
             have HS10_:=(hb.cell (World.block_lt_of_cell? _ _ (hHeld.2.2.2.2.2.2.2.2.2.2.1))).trans (hHeld.2.2.2.2.2.2.2.2.2.2.1)
             have HS11_:=(hb.cell (World.block_lt_of_cell? _ _ (hHeld.2.2.2.2.2.2.2.2.2.2.2.1))).trans (hHeld.2.2.2.2.2.2.2.2.2.2.2.1)
             have HS12_:=(hb.cell (World.block_lt_of_cell? _ _ (hHeld.2.2.2.2.2.2.2.2.2.2.2.2.1))).trans (hHeld.2.2.2.2.2.2.2.2.2.2.2.2.1)
             have HS13_:=(hb.cell (World.block_lt_of_cell? _ _ (hHeld.2.2.2.2.2.2.2.2.2.2.2.2.2.1))).trans (hHeld.2.2.2.2.2.2.2.2.2.2.2.2.2.1)
             have HS14_:=(hb.cell (World.block_lt_of_cell? _ _ (hHeld.2.2.2.2.2.2.2.2.2.2.2.2.2.2.1))).trans (hHeld.2.2.2.2.2.2.2.2.2.2.2.2.2.2.1)
             have HS15_:=(hb.cell (World.block_lt_of_cell? _ _ (hHeld.2.2.2.2.2.2.2.2.2.2.2.2.2.2.2.1))).trans (hHeld.2.2.2.2.2.2.2.2.2.2.2.2.2.2.2.1)
             have HS16_:=(hb.cell (World.block_lt_of_cell? _ _ (hHeld.2.2.2.2.2.2.2.2.2.2.2.2.2.2.2.2.1))).trans (hHeld.2.2.2.2.2.2.2.2.2.2.2.2.2.2.2.2.1)
             have HS17_:=(hb.cell (World.block_lt_of_cell? _ _ (hHeld.2.2.2.2.2.2.2.2.2.2.2.2.2.2.2.2.2))).trans (hHeld.2.2.2.2.2.2.2.2.2.2.2.2.2.2.2.2.2)
             clear hg_ hnew_
             (first|rw [← Ny125.out] at ho40|(simp only [Int.reduceToNat] at ho40;rw [← Ny125.out] at ho40))
             have n0_:=Aside0.mk (Kd.R_below (by (with_reducible repeat (first|apply Kd.R_alloc|apply Kd.R_drewN|apply Kd.R_drew));exact HO111.out) hb)
             have n1_:=Aside0.mk (Kd.R_elder' (by (with_reducible repeat (first|apply Kd.R_alloc|apply Kd.R_drewN|apply Kd.R_drew));exact HO114.out) (Kd.R_base ho40) hb)
             have n2_:=Aside0.mk (Kd.R_below (by (with_reducible repeat (first|apply Kd.R_alloc|apply Kd.R_drewN|apply Kd.R_drew));exact HO117.out) hb)
             have n3_:=Aside0.mk (Kd.R_below (by (with_reducible repeat (first|apply Kd.R_alloc|apply Kd.R_drewN|apply Kd.R_drew));exact HO122.out) hb)
             have n4_:=Aside0.mk (Kd.R_elder' (by (with_reducible repeat (first|apply Kd.R_alloc|apply Kd.R_drewN|apply Kd.R_drew));exact HO124.out) (Kd.R_base ho40) hb)
             have n5_:=Aside0.mk (Kd.R_lower (Kd.R_new' (Kd.R_new' ho40 (Kd.R_lt (by (with_reducible repeat (first|apply Kd.R_alloc|apply Kd.R_drewN|apply Kd.R_drew));exact HO114.out))) (Kd.R_lt (by (with_reducible repeat (first|apply Kd.R_alloc|apply Kd.R_drewN|apply Kd.R_drew));exact HO124.out))) (below_size (by repeat (first|(with_reducible first|exact HB.out|apply below_alloc|apply pw_below_drewN|apply below_drew1|refine below_set ?_ GE107.out|refine below_set ?_ GE108.out)|exact HB.out))))
             have n6_:=Aside0.mk (blk_below (g:=gb107) (o:=.cells #[.string (⟨#[111,105,108]⟩:ByteArray),.int .i64 1,.int .i64 9,.int .i64 0] 39 (0,0)) (by (with_reducible repeat (first|refine blk_drewN ?_ _|refine blk_drew ?_|refine blk_alloc ?_ _));exact BK107.out) hb)
             have n7_:=Aside0.mk (blk_below (g:=gb108) (o:=.cells #[.string (⟨#[111,105,108]⟩:ByteArray),.int .i64 1,.int .i64 39,.int .i64 0] 39 (0,0)) (by (with_reducible repeat (first|refine blk_drewN ?_ _|refine blk_drew ?_|refine blk_alloc ?_ _));exact BK108.out) hb)
             have n8_:=Aside0.mk (below_step (by repeat (first|(with_reducible first|exact HB.out|apply below_alloc|apply pw_below_drewN|apply below_drew1|refine below_set ?_ GE107.out|refine below_set ?_ GE108.out)|exact HB.out)) hb)
             clear HO111
             clear HO114
             clear HO117
             clear HO122
             clear HO124
             clear BK107
             clear BK108
             clear HB
             have HO111:=n0_
             have HO114:=n1_
             have HO117:=n2_
             have HO122:=n3_
             have HO124:=n4_
             have HO127:=n5_
             have BK107:=n6_
             have BK108:=n7_
             have HB:=n8_
             clear n0_ n1_ n2_ n3_ n4_ n5_ n6_ n7_ n8_
             clear hb ho40
             obtain ⟨Ao41,co41,eo41⟩:=Kd.R_slice HO124.out
             (first|subst eo41|(injection eo41 with f1_ f2_ f3_;have f4_:=f1_.symm;have f5_:=f3_.symm;clear f1_ f2_ f3_;subst f4_;subst f5_))
             obtain ⟨Ao42,co42,eo42⟩:=Kd.R_slice HO127.out
             (first|subst eo42|(injection eo42 with f1_ f2_ f3_;have f4_:=f1_.symm;have f5_:=f3_.symm;clear f1_ f2_ f3_;subst f4_;subst f5_))
             refine hK.out _ _ ⟨(blk_cell BK107.out 0).trans rfl,(blk_cell BK107.out 1).trans rfl,(blk_cell BK107.out 2).trans rfl,(blk_cell BK107.out 3).trans rfl,(blk_cell BK108.out 0).trans rfl,(blk_cell BK108.out 1).trans rfl,(blk_cell BK108.out 2).trans rfl,(blk_cell BK108.out 3).trans rfl,HS8_,HS9_,HS10_,HS11_,HS12_,HS13_,HS14_,HS15_,HS16_,HS17_⟩ (fun hHeld=>?_)
             clear hK K
             refine norm_ (a':=?_) ?_ ?_
             rotate_left
             ·show Act.put _ (some 66) _ = _
              simp only [Act.put,List.setIfInBounds_toArray,List.set_cons_zero,List.set_cons_succ,i64_w,i32_w]
              rfl
             refine one_ (i:=29) (N:=some 67) #[Y,Y,Y,Y,Y,Y,Y,Y,Y,Y,Y,Y,Y,Y,Y,Y,Y,Y,Y,Y,Y,Y,Y,Y,Y,Y,Y,Y,Y,Y,Z,Z,Z,Z,Z,Z,Z,Z,Z,Z,Z,Z,Z,Z,Z,Z,Z,Z,Z,Z,Z,Z,Z] rfl rfl (one_of HT_.out (by kernel_rfl)) (by decide) (fun K hK=>?_)
             refine goes_ Try.func18 (by kernel_rfl) rfl #[.slice Ao41 t119.length co41,.slice Ao42 y125.length co42] (by rfl) rfl rfl (by (try simp only [List.map_toArray,List.map_cons,List.map_nil]);first|done|rfl|(simp only [List.length_drop,List.length_take];rfl)) ?_
             with_reducible refine (contangoref43_Ints.calls k _ _ t119 _ _ y125 true _ ?side1 ?side2 ?side3 ?side4 A12.out).mono ?_
             (case side1=>repeat (first|exact (Kd.R_reads' HO124.out).2.2|(with_reducible refine Kd.C_alloc ?_ _)|(with_reducible refine Kd.C_drewN ?_ _)|(with_reducible refine Kd.C_drew ?_)))
             (case side2=>exact (Kd.R_reads' HO124.out).2.1)
             (case side3=>repeat (first|exact (Kd.R_reads' HO127.out).2.2|(with_reducible refine Kd.C_alloc ?_ _)|(with_reducible refine Kd.C_drewN ?_ _)|(with_reducible refine Kd.C_drew ?_)))
             (case side4=>exact (Kd.R_reads' HO127.out).2.1)
             rintro e w' ⟨rfl,⟨nd,rfl⟩⟩
             refine ⟨_,rfl,?_⟩
             obtain ⟨Ao43,co43,eo43⟩:=Kd.R_slice HO122.out
             (first|subst eo43|(injection eo43 with f1_ f2_ f3_;have f4_:=f1_.symm;have f5_:=f3_.symm;clear f1_ f2_ f3_;subst f4_;subst f5_))
             refine hK.out _ _ ⟨(blk_cell BK107.out 0).trans rfl,(blk_cell BK107.out 1).trans rfl,(blk_cell BK107.out 2).trans rfl,(blk_cell BK107.out 3).trans rfl,(blk_cell BK108.out 0).trans rfl,(blk_cell BK108.out 1).trans rfl,(blk_cell BK108.out 2).trans rfl,(blk_cell BK108.out 3).trans rfl,hHeld.2.2.2.2.2.2.2.2.1,hHeld.2.2.2.2.2.2.2.2.2.1,hHeld.2.2.2.2.2.2.2.2.2.2.1,hHeld.2.2.2.2.2.2.2.2.2.2.2.1,hHeld.2.2.2.2.2.2.2.2.2.2.2.2.1,hHeld.2.2.2.2.2.2.2.2.2.2.2.2.2.1,hHeld.2.2.2.2.2.2.2.2.2.2.2.2.2.2.1,hHeld.2.2.2.2.2.2.2.2.2.2.2.2.2.2.2.1,hHeld.2.2.2.2.2.2.2.2.2.2.2.2.2.2.2.2.1,hHeld.2.2.2.2.2.2.2.2.2.2.2.2.2.2.2.2.2⟩ (fun hHeld=>?_)
             clear hK K
             refine norm_ (a':=?_) ?_ ?_
             rotate_left
             ·show Act.put _ (some 67) _ = _
              simp only [Act.put,List.setIfInBounds_toArray,List.set_cons_zero,List.set_cons_succ,i64_w,i32_w]
              rfl
             refine pure_ (i:=30) (N:=some 68) (v:=?_) (a':=?_) #[Y,Y,Y,Y,Y,Y,Y,Y,Y,Y,Y,Y,Y,Y,Y,Y,Y,Y,Y,Y,Y,Y,Y,Y,Y,Y,Y,Y,Y,Y,Y,Z,Z,Z,Z,Z,Z,Z,Z,Z,Z,Z,Z,Z,Z,Z,Z,Z,Z,Z,Z,Z,Z] rfl rfl (any_of HT_.out (by kernel_rfl)) (fun _ _ _ h=>h) (Or.inl ⟨by rfl,?_⟩) ?_ ?_
             rotate_left
             ·intro w'
              go_simp
              with_reducible rfl
             rotate_left
             ·simp only [Act.put,List.setIfInBounds_toArray,List.set_cons_zero,List.set_cons_succ,i64_w,i32_w]
              rfl
             refine pure_ (i:=31) (N:=some 69) (v:=?_) (a':=?_) #[Y,Y,Y,Y,Y,Y,Y,Y,Y,Y,Y,Y,Y,Y,Y,Y,Y,Y,Y,Y,Y,Y,Y,Y,Y,Y,Y,Y,Y,Y,Y,Y,Z,Z,Z,Z,Z,Z,Z,Z,Z,Z,Z,Z,Z,Z,Z,Z,Z,Z,Z,Z,Z] rfl rfl (any_of HT_.out (by kernel_rfl)) (fun _ _ _ h=>h) (Or.inl ⟨by rfl,?_⟩) ?_ ?_
             rotate_left
             ·intro w'
              go_simp
              with_reducible rfl
             rotate_left
             ·simp only [Act.put,List.setIfInBounds_toArray,List.set_cons_zero,List.set_cons_succ,i64_w,i32_w]
              rfl
             refine pure_ (i:=32) (N:=some 70) (v:=?_) (a':=?_) #[Y,Y,Y,Y,Y,Y,Y,Y,Y,Y,Y,Y,Y,Y,Y,Y,Y,Y,Y,Y,Y,Y,Y,Y,Y,Y,Y,Y,Y,Y,Y,Y,Y,Z,Z,Z,Z,Z,Z,Z,Z,Z,Z,Z,Z,Z,Z,Z,Z,Z,Z,Z,Z] rfl rfl (any_of HT_.out (by kernel_rfl)) (fun _ _ _ h=>h) (Or.inl ⟨by rfl,?_⟩) ?_ ?_
             rotate_left
             ·intro w'
              go_simp
              with_reducible rfl
             rotate_left
             ·simp only [Act.put,List.setIfInBounds_toArray,List.set_cons_zero,List.set_cons_succ,i64_w,i32_w]
              rfl
             refine pure_ (i:=33) (N:=some 71) (v:=?_) (a':=?_) #[Y,Y,Y,Y,Y,Y,Y,Y,Y,Y,Y,Y,Y,Y,Y,Y,Y,Y,Y,Y,Y,Y,Y,Y,Y,Y,Y,Y,Y,Y,Y,Y,Y,Y,Z,Z,Z,Z,Z,Z,Z,Z,Z,Z,Z,Z,Z,Z,Z,Z,Z,Z,Z] rfl rfl (any_of HT_.out (by kernel_rfl)) (fun _ _ _ h=>h) (Or.inl ⟨by rfl,?_⟩) ?_ ?_
             rotate_left
             ·intro w'
              go_simp
              with_reducible rfl
             rotate_left
             ·simp only [Act.put,List.setIfInBounds_toArray,List.set_cons_zero,List.set_cons_succ,i64_w,i32_w]
              rfl
             refine pure_ (i:=34) (N:=some 72) (v:=?_) (a':=?_) #[Y,Y,Y,Y,Y,Y,Y,Y,Y,Y,Y,Y,Y,Y,Y,Y,Y,Y,Y,Y,Y,Y,Y,Y,Y,Y,Y,Y,Y,Y,Y,Y,Y,Y,Y,Z,Z,Z,Z,Z,Z,Z,Z,Z,Z,Z,Z,Z,Z,Z,Z,Z,Z] rfl rfl (any_of HT_.out (by kernel_rfl)) (fun _ _ _ h=>h) (Or.inl ⟨by rfl,?_⟩) ?_ ?_
             rotate_left
             ·intro w'
              go_simp
              with_reducible rfl
             rotate_left
             ·simp only [Act.put,List.setIfInBounds_toArray,List.set_cons_zero,List.set_cons_succ,i64_w,i32_w]
              rfl
             refine pure_ (i:=35) (N:=some 73) (v:=?_) (a':=?_) #[Y,Y,Y,Y,Y,Y,Y,Y,Y,Y,Y,Y,Y,Y,Y,Y,Y,Y,Y,Y,Y,Y,Y,Y,Y,Y,Y,Y,Y,Y,Y,Y,Y,Y,Y,Y,Z,Z,Z,Z,Z,Z,Z,Z,Z,Z,Z,Z,Z,Z,Z,Z,Z] rfl rfl (any_of HT_.out (by kernel_rfl)) (fun _ _ _ h=>h) (Or.inl ⟨by rfl,?_⟩) ?_ ?_
             rotate_left
             ·intro w'
              go_simp
              with_reducible rfl
             rotate_left
             ·simp only [Act.put,List.setIfInBounds_toArray,List.set_cons_zero,List.set_cons_succ,i64_w,i32_w]
              rfl
             refine pure_ (i:=36) (N:=some 74) (v:=?_) (a':=?_) #[Y,Y,Y,Y,Y,Y,Y,Y,Y,Y,Y,Y,Y,Y,Y,Y,Y,Y,Y,Y,Y,Y,Y,Y,Y,Y,Y,Y,Y,Y,Y,Y,Y,Y,Y,Y,Y,Z,Z,Z,Z,Z,Z,Z,Z,Z,Z,Z,Z,Z,Z,Z,Z] rfl rfl (any_of HT_.out (by kernel_rfl)) (fun _ _ _ h=>h) (Or.inl ⟨by rfl,?_⟩) ?_ ?_
             rotate_left
             ·intro w'
              go_simp
              with_reducible rfl
             rotate_left
             ·simp only [Act.put,List.setIfInBounds_toArray,List.set_cons_zero,List.set_cons_succ,i64_w,i32_w]
              rfl
             refine pure_ (i:=37) (N:=some 75) (v:=?_) (a':=?_) #[Y,Y,Y,Y,Y,Y,Y,Y,Y,Y,Y,Y,Y,Y,Y,Y,Y,Y,Y,Y,Y,Y,Y,Y,Y,Y,Y,Y,Y,Y,Y,Y,Y,Y,Y,Y,Y,Y,Z,Z,Z,Z,Z,Z,Z,Z,Z,Z,Z,Z,Z,Z,Z] rfl rfl (any_of HT_.out (by kernel_rfl)) (fun _ _ _ h=>h) (Or.inl ⟨by rfl,?_⟩) ?_ ?_
             rotate_left
             ·intro w'
              go_simp
              with_reducible rfl
             rotate_left
             ·simp only [Act.put,List.setIfInBounds_toArray,List.set_cons_zero,List.set_cons_succ,i64_w,i32_w]
              rfl
             refine pure_ (i:=38) (N:=some 76) (v:=?_) (a':=?_) #[Y,Y,Y,Y,Y,Y,Y,Y,Y,Y,Y,Y,Y,Y,Y,Y,Y,Y,Y,Y,Y,Y,Y,Y,Y,Y,Y,Y,Y,Y,Y,Y,Y,Y,Y,Y,Y,Y,Y,Z,Z,Z,Z,Z,Z,Z,Z,Z,Z,Z,Z,Z,Z] rfl rfl (any_of HT_.out (by kernel_rfl)) (fun _ _ _ h=>h) (Or.inl ⟨by rfl,?_⟩) ?_ ?_
             rotate_left
             ·intro w'
              go_simp
              with_reducible rfl
             rotate_left
             ·simp only [Act.put,List.setIfInBounds_toArray,List.set_cons_zero,List.set_cons_succ,i64_w,i32_w]
              rfl
             refine take_ (i:=39) (N:=some 77) (v:=?_) (a':=?_) #[Y,Y,Y,Y,Y,Y,Y,Y,Y,Y,Y,Y,Y,Y,Y,Y,Y,Y,Y,Y,Y,Y,Y,Y,Y,Y,Y,Y,Y,Y,Y,Y,Y,Y,Y,Y,Y,Y,Y,Y,Z,Z,Z,Z,Z,Z,Z,Z,Z,Z,Z,Z,Z] rfl rfl (take_ofW HT_.out HW_.out (by kernel_rfl)) (fun _ _ _ h=>h) (Or.inl ⟨by rfl,?_⟩) hHeld ?_ ?_
             rotate_left
             ·rintro w' ⟨s0,s1,s2,s3,s4,s5,s6,s7,s8,s9,s10,s11,s12,s13,s14,s15,s16,s17⟩
              go_simp
              with_reducible rfl
             rotate_left
             ·simp only [Act.put,List.setIfInBounds_toArray,List.set_cons_zero,List.set_cons_succ,i64_w,i32_w]
              rfl
             refine take_ (i:=40) (N:=some 78) (v:=?_) (a':=?_) #[Y,Y,Y,Y,Y,Y,Y,Y,Y,Y,Y,Y,Y,Y,Y,Y,Y,Y,Y,Y,Y,Y,Y,Y,Y,Y,Y,Y,Y,Y,Y,Y,Y,Y,Y,Y,Y,Y,Y,Y,Y,Z,Z,Z,Z,Z,Z,Z,Z,Z,Z,Z,Z] rfl rfl (take_ofW HT_.out HW_.out (by kernel_rfl)) (fun _ _ _ h=>h) (Or.inl ⟨by rfl,?_⟩) hHeld ?_ ?_
             rotate_left
             ·rintro w' ⟨s0,s1,s2,s3,s4,s5,s6,s7,s8,s9,s10,s11,s12,s13,s14,s15,s16,s17⟩
              go_simp
              with_reducible rfl
             rotate_left
             ·simp only [Act.put,List.setIfInBounds_toArray,List.set_cons_zero,List.set_cons_succ,i64_w,i32_w]
              rfl
             refine pure_ (i:=41) (N:=some 79) (v:=?_) (a':=?_) #[Y,Y,Y,Y,Y,Y,Y,Y,Y,Y,Y,Y,Y,Y,Y,Y,Y,Y,Y,Y,Y,Y,Y,Y,Y,Y,Y,Y,Y,Y,Y,Y,Y,Y,Y,Y,Y,Y,Y,Y,Y,Y,Z,Z,Z,Z,Z,Z,Z,Z,Z,Z,Z] rfl rfl (any_of HT_.out (by kernel_rfl)) (fun _ _ _ h=>h) (Or.inl ⟨by rfl,?_⟩) ?_ ?_
             rotate_left
             ·intro w'
              go_simp
              with_reducible rfl
             rotate_left
             ·simp only [Act.put,List.setIfInBounds_toArray,List.set_cons_zero,List.set_cons_succ,i64_w,i32_w]
              rfl
             refine pure_ (i:=42) (N:=some 80) (v:=?_) (a':=?_) #[Y,Y,Y,Y,Y,Y,Y,Y,Y,Y,Y,Y,Y,Y,Y,Y,Y,Y,Y,Y,Y,Y,Y,Y,Y,Y,Y,Y,Y,Y,Y,Y,Y,Y,Y,Y,Y,Y,Y,Y,Y,Y,Y,Z,Z,Z,Z,Z,Z,Z,Z,Z,Z] rfl rfl (any_of HT_.out (by kernel_rfl)) (fun _ _ _ h=>h) (Or.inl ⟨by rfl,?_⟩) ?_ ?_
             rotate_left
             ·intro w'
              go_simp
              with_reducible rfl
             rotate_left
             ·simp only [Act.put,List.setIfInBounds_toArray,List.set_cons_zero,List.set_cons_succ,i64_w,i32_w]
              rfl
             refine pure_ (i:=43) (N:=some 81) (v:=?_) (a':=?_) #[Y,Y,Y,Y,Y,Y,Y,Y,Y,Y,Y,Y,Y,Y,Y,Y,Y,Y,Y,Y,Y,Y,Y,Y,Y,Y,Y,Y,Y,Y,Y,Y,Y,Y,Y,Y,Y,Y,Y,Y,Y,Y,Y,Y,Z,Z,Z,Z,Z,Z,Z,Z,Z] rfl rfl (any_of HT_.out (by kernel_rfl)) (fun _ _ _ h=>h) (Or.inl ⟨by rfl,?_⟩) ?_ ?_
             rotate_left
             ·intro w'
              go_simp
              with_reducible rfl
             rotate_left
             ·simp only [Act.put,List.setIfInBounds_toArray,List.set_cons_zero,List.set_cons_succ,i64_w,i32_w]
              rfl
             refine pure_ (i:=44) (N:=some 82) (v:=?_) (a':=?_) #[Y,Y,Y,Y,Y,Y,Y,Y,Y,Y,Y,Y,Y,Y,Y,Y,Y,Y,Y,Y,Y,Y,Y,Y,Y,Y,Y,Y,Y,Y,Y,Y,Y,Y,Y,Y,Y,Y,Y,Y,Y,Y,Y,Y,Y,Z,Z,Z,Z,Z,Z,Z,Z] rfl rfl (any_of HT_.out (by kernel_rfl)) (fun _ _ _ h=>h) (Or.inl ⟨by rfl,?_⟩) ?_ ?_
             rotate_left
             ·intro w'
              go_simp
              with_reducible rfl
             rotate_left
             ·simp only [Act.put,List.setIfInBounds_toArray,List.set_cons_zero,List.set_cons_succ,i64_w,i32_w]
              rfl
             refine pure_ (i:=45) (N:=some 83) (v:=?_) (a':=?_) #[Y,Y,Y,Y,Y,Y,Y,Y,Y,Y,Y,Y,Y,Y,Y,Y,Y,Y,Y,Y,Y,Y,Y,Y,Y,Y,Y,Y,Y,Y,Y,Y,Y,Y,Y,Y,Y,Y,Y,Y,Y,Y,Y,Y,Y,Y,Z,Z,Z,Z,Z,Z,Z] rfl rfl (any_of HT_.out (by kernel_rfl)) (fun _ _ _ h=>h) (Or.inl ⟨by rfl,?_⟩) ?_ ?_
             rotate_left
             ·intro w'
              go_simp
              with_reducible rfl
             rotate_left
             ·simp only [Act.put,List.setIfInBounds_toArray,List.set_cons_zero,List.set_cons_succ,i64_w,i32_w]
              rfl
             refine pure_ (i:=46) (N:=some 84) (v:=?_) (a':=?_) #[Y,Y,Y,Y,Y,Y,Y,Y,Y,Y,Y,Y,Y,Y,Y,Y,Y,Y,Y,Y,Y,Y,Y,Y,Y,Y,Y,Y,Y,Y,Y,Y,Y,Y,Y,Y,Y,Y,Y,Y,Y,Y,Y,Y,Y,Y,Y,Z,Z,Z,Z,Z,Z] rfl rfl (any_of HT_.out (by kernel_rfl)) (fun _ _ _ h=>h) (Or.inl ⟨by rfl,?_⟩) ?_ ?_
             rotate_left
             ·intro w'
              go_simp
              with_reducible rfl
             rotate_left
             ·simp only [Act.put,List.setIfInBounds_toArray,List.set_cons_zero,List.set_cons_succ,i64_w,i32_w]
              rfl
             refine take_ (i:=47) (N:=some 85) (v:=?_) (a':=?_) #[Y,Y,Y,Y,Y,Y,Y,Y,Y,Y,Y,Y,Y,Y,Y,Y,Y,Y,Y,Y,Y,Y,Y,Y,Y,Y,Y,Y,Y,Y,Y,Y,Y,Y,Y,Y,Y,Y,Y,Y,Y,Y,Y,Y,Y,Y,Y,Y,Z,Z,Z,Z,Z] rfl rfl (take_ofW HT_.out HW_.out (by kernel_rfl)) (fun _ _ _ h=>h) (Or.inl ⟨by rfl,?_⟩) hHeld ?_ ?_
             rotate_left
             ·rintro w' ⟨s0,s1,s2,s3,s4,s5,s6,s7,s8,s9,s10,s11,s12,s13,s14,s15,s16,s17⟩
              go_simp
              with_reducible rfl
             rotate_left
             ·simp only [Act.put,List.setIfInBounds_toArray,List.set_cons_zero,List.set_cons_succ,i64_w,i32_w]
              rfl
             refine take_ (i:=48) (N:=some 86) (v:=?_) (a':=?_) #[Y,Y,Y,Y,Y,Y,Y,Y,Y,Y,Y,Y,Y,Y,Y,Y,Y,Y,Y,Y,Y,Y,Y,Y,Y,Y,Y,Y,Y,Y,Y,Y,Y,Y,Y,Y,Y,Y,Y,Y,Y,Y,Y,Y,Y,Y,Y,Y,Y,Z,Z,Z,Z] rfl rfl (take_ofW HT_.out HW_.out (by kernel_rfl)) (fun _ _ _ h=>h) (Or.inl ⟨by rfl,?_⟩) hHeld ?_ ?_
             rotate_left
             ·rintro w' ⟨s0,s1,s2,s3,s4,s5,s6,s7,s8,s9,s10,s11,s12,s13,s14,s15,s16,s17⟩
              go_simp
              with_reducible rfl
             rotate_left
             ·simp only [Act.put,List.setIfInBounds_toArray,List.set_cons_zero,List.set_cons_succ,i64_w,i32_w]
              rfl
             refine pure_ (i:=49) (N:=some 87) (v:=?_) (a':=?_) #[Y,Y,Y,Y,Y,Y,Y,Y,Y,Y,Y,Y,Y,Y,Y,Y,Y,Y,Y,Y,Y,Y,Y,Y,Y,Y,Y,Y,Y,Y,Y,Y,Y,Y,Y,Y,Y,Y,Y,Y,Y,Y,Y,Y,Y,Y,Y,Y,Y,Y,Z,Z,Z] rfl rfl (any_of HT_.out (by kernel_rfl)) (fun _ _ _ h=>h) (Or.inl ⟨by rfl,?_⟩) ?_ ?_
             rotate_left
             ·intro w'
              go_simp
              with_reducible rfl
             rotate_left
             ·simp only [Act.put,List.setIfInBounds_toArray,List.set_cons_zero,List.set_cons_succ,i64_w,i32_w]
              rfl
             refine pure_ (i:=50) (N:=some 88) (v:=?_) (a':=?_) #[Y,Y,Y,Y,Y,Y,Y,Y,Y,Y,Y,Y,Y,Y,Y,Y,Y,Y,Y,Y,Y,Y,Y,Y,Y,Y,Y,Y,Y,Y,Y,Y,Y,Y,Y,Y,Y,Y,Y,Y,Y,Y,Y,Y,Y,Y,Y,Y,Y,Y,Y,Z,Z] rfl rfl (any_of HT_.out (by kernel_rfl)) (fun _ _ _ h=>h) (Or.inl ⟨by rfl,?_⟩) ?_ ?_
             rotate_left
             ·intro w'
              go_simp
              with_reducible rfl
             rotate_left
             ·simp only [Act.put,List.setIfInBounds_toArray,List.set_cons_zero,List.set_cons_succ,i64_w,i32_w]
              rfl
             refine pure_ (i:=51) (N:=some 89) (v:=?_) (a':=?_) #[Y,Y,Y,Y,Y,Y,Y,Y,Y,Y,Y,Y,Y,Y,Y,Y,Y,Y,Y,Y,Y,Y,Y,Y,Y,Y,Y,Y,Y,Y,Y,Y,Y,Y,Y,Y,Y,Y,Y,Y,Y,Y,Y,Y,Y,Y,Y,Y,Y,Y,Y,Y,Z] rfl rfl (any_of HT_.out (by kernel_rfl)) (fun _ _ _ h=>h) (Or.inl ⟨by rfl,?_⟩) ?_ ?_
             rotate_left
             ·intro w'
              go_simp
              with_reducible rfl
             rotate_left
             ·simp only [Act.put,List.setIfInBounds_toArray,List.set_cons_zero,List.set_cons_succ,i64_w,i32_w]
              rfl
             refine pure_ (i:=52) (N:=some 0) (v:=?_) (a':=?_) #[Y,Y,Y,Y,Y,Y,Y,Y,Y,Y,Y,Y,Y,Y,Y,Y,Y,Y,Y,Y,Y,Y,Y,Y,Y,Y,Y,Y,Y,Y,Y,Y,Y,Y,Y,Y,Y,Y,Y,Y,Y,Y,Y,Y,Y,Y,Y,Y,Y,Y,Y,Y,Y] rfl rfl (any_of HT_.out (by kernel_rfl)) (fun _ _ _ h=>h) (Or.inl ⟨by rfl,?_⟩) ?_ ?_
             rotate_left
             ·intro w'
              go_simp
              with_reducible rfl
             rotate_left
             ·simp only [Act.put,List.setIfInBounds_toArray,List.set_cons_zero,List.set_cons_succ,i64_w,i32_w]
              rfl
             refine done_ (done_of HT_.out (by kernel_rfl)) ?_
             try go_wp2
             go_ret
             exact ⟨by first|rfl|(simp [errW_none,errW_some] <;> rfl)|(simp [*,errW_none,errW_some] <;> rfl),by repeat (first|(with_reducible first|exact HB.out|apply below_alloc|apply pw_below_drewN|apply below_drew1|refine below_set ?_ GE107.out|refine below_set ?_ GE108.out)|exact HB.out)⟩
            ·rw [if_neg c17] at H
             exact absurd H (by simp)
           ·rw [if_neg c16] at H
            have c16b0:(((((rd_T41 t118 0).f0.f0).toList) == ([111,105,108]:List UInt8) && (((rd_T41 t118 0).f0.f1) == 1 && (((rd_T41 t118 0).f0.f2) == 9 && (((rd_T41 t118 0).f0.f3) == 0)))) && (((rd_T41 t118 0).f1) == (-2))) = false:=by simpa using c16
            clear c16
            exact absurd H (by simp)
          ·rw [if_neg c15] at H
           exact absurd H (by simp)
         ·rw [if_neg c14] at H
          have c14b0:((t118.length:Int) == 2) = false:=beq_eq_false_iff_ne.mpr c14
          have c14b1:((t118.length:Int) != 2) = true:=bne_iff_ne.mpr c14
          exact absurd H (by simp)
        ·replace c13:=Bool.eq_false_iff.mpr c13
         subst c13
         have H1:(none) = some r:=by rw [if_neg (show ¬ (false = true) by decide)] at H;exact H
         clear H
         have H:=H1
         clear H1
         exact absurd H (by simp)
       ·rw [if_neg c11] at H
        have c11b0:(t120 == 0) = false:=beq_eq_false_iff_ne.mpr c11
        have c11b1:(t120 != 0) = true:=bne_iff_ne.mpr c11
        exact absurd H (by simp)
      ·rw [if_neg c10] at H
       have c10b0:(t106 == 0) = false:=beq_eq_false_iff_ne.mpr c10
       have c10b1:(t106 != 0) = true:=bne_iff_ne.mpr c10
       exact absurd H (by simp)
     ·rw [if_neg c9] at H
      have c9b0:(t105 == 5) = false:=beq_eq_false_iff_ne.mpr c9
      have c9b1:(t105 != 5) = true:=bne_iff_ne.mpr c9
      exact absurd H (by simp)
    ·rw [if_neg c8] at H
     have c8b0:(t104 == 0) = false:=beq_eq_false_iff_ne.mpr c8
     have c8b1:(t104 != 0) = true:=bne_iff_ne.mpr c8
     exact absurd H (by simp)
   ·rw [if_neg c7] at H
    have c7b0:(t103 == (-2)) = false:=beq_eq_false_iff_ne.mpr c7
    have c7b1:(t103 != (-2)) = true:=bne_iff_ne.mpr c7
    exact absurd H (by simp)
  ·rw [if_neg c6] at H
   have c6b0:(t102 == 0) = false:=beq_eq_false_iff_ne.mpr c6
   have c6b1:(t102 != 0) = true:=bne_iff_ne.mpr c6
   exact absurd H (by simp)
 ·rw [if_neg c5] at H
  have c5b0:(t101 == (-3)) = false:=beq_eq_false_iff_ne.mpr c5
  have c5b1:(t101 != (-3)) = true:=bne_iff_ne.mpr c5
  exact absurd H (by simp)
end Go.Proofs.Ytbgeceiddcokmaa.X
end
section
namespace Go.Proofs.Ytbgeceiddcokmaa.X
open Go.RowKit Go.Proofs.YtbgeceiddcokmaaW.PrintWords Go.Proofs.YtbgeceiddcokmaaW.PrintLast Go.Proofs.YtbgeceiddcokmaaW.PrintMore
attribute [local go_sem] max2_int min2_int max_two min_two max_three min_three max_four min_four
set_option linter.unusedVariables false
set_option linter.unusedSimpArgs false
def contangolaw43_to.l0:Nat → List (S54) → List (S92) → Int → Option ((List (S92)))
 | 0,_,_,_=>none
 | k + 1,x0,x3,x4=>if x4 < (x0.length:Int) then (if 0 ≤ x4 then (if x3.length < 2513169434916 then (contangolaw43_to.l0 k x0 (x3 ++ [(⟨(⟨(rd_T54 x0 x4).f0.f0,(rd_T54 x0 x4).f0.f1,(rd_T54 x0 x4).f0.f2,(rd_T54 x0 x4).f0.f3⟩:S39),(rd_T54 x0 x4).f1,(rd_T54 x0 x4).f2⟩:S92)]) (wrap64 (x4 + 1))) else (none)) else (none)) else (some x3)
def contangolaw43_to.f (k:Nat) (l0:List (S54)):Option ((List (S92))):=contangolaw43_to.l0 k l0 ([]:List (S92)) 0
set_option maxHeartbeats 8000000 in
set_option maxRecDepth 100000 in
theorem contangolaw43_to.calls (k:Nat) (A0:Option Addr) (c0:Nat) (l0:List (S54)) (r:List (S92)) (w:World) (hr0:Kd.C k54 w A0 l0.length l0) (hc0:l0.length ≤ c0) (h:contangolaw43_to.f k l0 = some r) :
  Calls Try.prog 16 #[.slice A0 l0.length c0] w fun e w'=>∃ v0_:Value,e = .returned (v0_) ∧ Kd.R k92 92 w' w.heap.size (fun _=>True) v0_ r ∧ Below w.heap.size w w':=by
 have hu54:=Try.underlying54
 have HR0:=Aside0.mk hr0
 have HC0:=Aside0.mk hc0
 clear hr0 hc0
 have HB:=Aside0.mk (Below.refl w.heap.size w)
 have H:(contangolaw43_to.l0 k l0 ([]:List (S92)) 0) = some r:=h
 clear h
 have H':=Aside0.mk H
 clear H
 go_enter Try.func16,Try.ntmps16
 go_wp2
 go_loopg [3,4] k (fun kq v3 v4 w'=>∃ (x3_1:List (S92)) (x4_1:Int),v4 = .int .i64 x4_1 ∧ Aside0 (contangolaw43_to.l0 kq l0 x3_1 x4_1 = some r) ∧ Aside0 (kq ≤ k) ∧ Aside0 (Kd.R k92 92 w' w.heap.size (fun _=>True) v3 x3_1) ∧ Aside0 (Below w.heap.size w w'))
 case atStart=>exact ⟨(([]:List (S92))),(0),(by first|rfl|(simp;done)|(simp [*];done)),H',⟨Nat.le_refl _⟩,⟨by first|exact Kd.R_nil _ _ _ _ _|exact Kd.N_nil _ _ _ _ _|exact Kd.V_nil _ _ _ _ _|exact Kd.Q_nil _ _ _ _ _|exact Kd.S_nil _ _ _ _ _⟩,⟨by repeat (first|(with_reducible first|exact HB.out|apply below_alloc|apply pw_below_drewN|apply below_drew1)|exact HB.out)⟩⟩
 case round =>
  clear H'
  try clear c1
  obtain ⟨x3_1,x4_1,rfl,HA,HK1,HO_3,HB⟩:=hrel
  cases gk with
  | zero=>exact absurd HA.out (by simp [contangolaw43_to.l0])
  | succ k1 =>
   have H:=HA.out
   clear HA
   simp only [contangolaw43_to.l0] at H
   by_cases c2:x4_1 < (l0.length:Int)
   ·rw [if_pos c2] at H
    have c2b0:decide (x4_1 < (l0.length:Int)) = true:=decide_eq_true c2
    clear c2
    by_cases c3:0 ≤ x4_1
    ·rw [if_pos c3] at H
     have c3b0:decide (0 ≤ x4_1) = true:=decide_eq_true c3
     clear c3
     by_cases c4:x3_1.length < 2513169434916
     ·rw [if_pos c4] at H
      have LMc4:=Aside0.mk c4
      clear c4
      obtain ⟨y102,hy102⟩:∃ y_:List (S92),y_ = (x3_1 ++ [(⟨(⟨(rd_T54 l0 x4_1).f0.f0,(rd_T54 l0 x4_1).f0.f1,(rd_T54 l0 x4_1).f0.f2,(rd_T54 l0 x4_1).f0.f3⟩:S39),(rd_T54 l0 x4_1).f1,(rd_T54 l0 x4_1).f2⟩:S92)]):=⟨_,rfl⟩
      replace H:(contangolaw43_to.l0 k1 l0 y102 (wrap64 (x4_1 + 1))) = some r:=by first|(rw [hy102];with_reducible exact H)|(have H2_:=(Option.bind_some _ _).symm.trans H;rw [hy102];with_reducible exact H2_)|(have H2_:=(Option.bind_some _ _).symm.trans H;with_reducible exact H2_)|with_reducible exact H|(rw [hy102];exact H)|exact H
      have Ny102:=Aside0.mk hy102
      clear hy102
      have H':=Aside0.mk H
      clear H
      have p101:0 ≤ (x4_1:Int):=of_decide_eq_true (by first|(with_reducible assumption)|assumption)
      have q101:x4_1 < (l0.length:Int):=of_decide_eq_true (by first|(with_reducible assumption)|assumption)
      obtain ⟨ad101,e101,hx101_0,hx101_1,hx101_2,hx101_3,hx101_4,hx101_5⟩:=at_T54 HR0.out x4_1 p101 q101
      cases e101
      replace hx101_0:=(HB.out.cell (World.block_lt_of_cell? w _ hx101_0)).trans hx101_0
      replace hx101_1:=(HB.out.cell (World.block_lt_of_cell? w _ hx101_1)).trans hx101_1
      replace hx101_2:=(HB.out.cell (World.block_lt_of_cell? w _ hx101_2)).trans hx101_2
      replace hx101_3:=(HB.out.cell (World.block_lt_of_cell? w _ hx101_3)).trans hx101_3
      replace hx101_4:=(HB.out.cell (World.block_lt_of_cell? w _ hx101_4)).trans hx101_4
      replace hx101_5:=(HB.out.cell (World.block_lt_of_cell? w _ hx101_5)).trans hx101_5
      replace p101:=eq_true p101
      replace q101:=eq_true q101
      go_wp2_with (first|((with_reducible refine gate_builtin (b:=.append) (xs:=#[.tmp 11,.tmp 16]) rfl ?_);at_builtin;refine Kd.R_append k92 (w0:=w) w.heap.size rfl (.tmp 11) (.tmp 16) 30 92 (.agg #[(.string ⟨#[]⟩),(.int .i64 0),(.int .i64 0),(.int .i64 0),(.int .i64 0),(.int .i64 0)]) 56 rfl Try.underlying30 info92 rfl (by decide) (by omega) u3 x3_1 (⟨(⟨(rd_T54 l0 x4_1).f0.f0,(rd_T54 l0 x4_1).f0.f1,(rd_T54 l0 x4_1).f0.f2,(rd_T54 l0 x4_1).f0.f3⟩:S39),(rd_T54 l0 x4_1).f1,(rd_T54 l0 x4_1).f2⟩:S92) [.string ((rd_T54 l0 x4_1).f0.f0),.int .i64 ((rd_T54 l0 x4_1).f0.f1),.int .i64 ((rd_T54 l0 x4_1).f0.f2),.int .i64 ((rd_T54 l0 x4_1).f0.f3),.int .i64 ((rd_T54 l0 x4_1).f1),.int .i64 ((rd_T54 l0 x4_1).f2)] (fun _=>True) (fun _=>False) rfl rfl ?aP (fun _ hk=>hk.elim) ?aF ?aO ?aB ?aS ?aL ?_;(case aP=>exact k92_mkM _ _ _ (⟨(⟨(rd_T54 l0 x4_1).f0.f0,(rd_T54 l0 x4_1).f0.f1,(rd_T54 l0 x4_1).f0.f2,(rd_T54 l0 x4_1).f0.f3⟩:S39),(rd_T54 l0 x4_1).f1,(rd_T54 l0 x4_1).f2⟩:S92));(case aB=>exact (by repeat (first|(with_reducible first|exact HB.out|apply below_alloc|apply pw_below_drewN|apply below_drew1)|exact HB.out)));(case aF=>exact (fun _ _=>trivial));(case aO=>exact (by (with_reducible repeat (first|apply Kd.R_alloc|apply Kd.R_drewN|apply Kd.R_drew));exact HO_3.out));(case aS=>exact (below_size (by repeat (first|(with_reducible first|exact HB.out|apply below_alloc|apply pw_below_drewN|apply below_drew1)|exact HB.out))));(case aL=>have:=LMc4.out;omega);intro v103 w5 ho hb hg hat;rw [← Ny102.out] at ho;have n0_:=Aside0.mk (hb);have n1_:=Aside0.mk (ho);clear HB;clear HO_3;have HB:=n0_;have HO104:=n1_;clear n0_ n1_;clear ho hb hg hat))
      go_roundg k1
      case measure=>have:=HK1.out;omega
      case rel=>exact ⟨(y102),(wrap64 (x4_1 + 1)),(by first|rfl|(simp;done)|(simp [*];done)),H',⟨by have:=HK1.out;omega⟩,⟨by (with_reducible repeat (first|apply Kd.R_alloc|apply Kd.R_drewN|apply Kd.R_drew));exact HO104.out⟩,⟨by repeat (first|(with_reducible first|exact HB.out|apply below_alloc|apply pw_below_drewN|apply below_drew1)|exact HB.out)⟩⟩
     ·rw [if_neg c4] at H
      exact absurd H (by simp)
    ·rw [if_neg c3] at H
     exact absurd H (by simp)
   ·rw [if_neg c2] at H
    have c2b0:decide (x4_1 < (l0.length:Int)) = false:=decide_eq_false c2
    clear c2
    obtain rfl:=Option.some.inj H
    go_wp2
    go_ret
    exact ⟨_,by first|rfl|(simp [errW_none,errW_some] <;> rfl)|(simp [*,errW_none,errW_some] <;> rfl),by (with_reducible repeat (first|apply Kd.R_alloc|apply Kd.R_drewN|apply Kd.R_drew));exact HO_3.out,by repeat (first|(with_reducible first|exact HB.out|apply below_alloc|apply pw_below_drewN|apply below_drew1)|exact HB.out)⟩
end Go.Proofs.Ytbgeceiddcokmaa.X
end
section
namespace Go.Proofs.Ytbgeceiddcokmaa.X
open Go.RowKit Go.Proofs.YtbgeceiddcokmaaW.PrintWords Go.Proofs.YtbgeceiddcokmaaW.PrintLast Go.Proofs.YtbgeceiddcokmaaW.PrintMore
attribute [local go_sem] max2_int min2_int max_two min_two max_three min_three max_four min_four
set_option linter.unusedVariables false
set_option linter.unusedSimpArgs false
def contangoref43_one.j0:Nat → Int → Bool → Option (Int)
 | 0,_,_=>none
 | k + 1,x1,x14=>if x14 = true then (some 2) else (if x1 < 0 then (some 18) else (if x1 > 1048576 then (some 18) else (some 0)))
def contangoref43_one.f (k:Nat) (a0:Int) (a1:Int):Option (Int):=if a0 = 0 then (contangoref43_one.j0 k a1 true) else (if a0 < (-1000) then (contangoref43_one.j0 k a1 true) else (contangoref43_one.j0 k a1 (decide (a0 > 1000))))
set_option maxHeartbeats 8000000 in
set_option maxRecDepth 100000 in
theorem contangoref43_one.calls (k:Nat) (a0:Int) (a1:Int) (r:Int) (w:World) (h:contangoref43_one.f k a0 a1 = some r) :
  Calls Try.prog 54 #[.int .i64 a0,.int .i64 a1] w fun e w'=>e = .returned (.int .i64 r) ∧ Drawn0 w w':=by
 have H:(if a0 = 0 then (contangoref43_one.j0 k a1 true) else (if a0 < (-1000) then (contangoref43_one.j0 k a1 true) else (contangoref43_one.j0 k a1 (decide (a0 > 1000))))) = some r:=h
 clear h
 have HC3:=Aside0.mk H
 clear H
 go_enter Try.func54,Try.ntmps54
 go_upto_region 1 with (fail)
 go_cut [14] (fun v14 wc=>∃ (kq:Nat) (x14_2:Bool),v14 = .bool x14_2 ∧ Aside0 (contangoref43_one.j0 kq a1 x14_2 = some r) ∧ Aside0 (kq ≤ k) ∧ Drawn0 w wc)
 case first =>
  have H:=HC3.out
  clear HC3
  by_cases c4:a0 = 0
  ·rw [if_pos c4] at H
   have c4b0:(a0 == 0) = true:=beq_iff_eq.mpr c4
   have c4b1:(a0 != 0) = false:=bne_eq_false_iff_eq.mpr c4
   clear c4
   (first|rw [c4b0]|(simp only [i64_w,i32_w];rw [c4b0])|skip)
   have H':=Aside0.mk H
   clear H
   go_wp2
   go_meet
   case rel=>exact ⟨_,(true),(by first|rfl|(simp;done)|(simp [*];done)),H',⟨by first|omega|exact Nat.le_refl _⟩,by repeat (first|exact Drawn0.refl _|apply Drawn0.step)⟩
  ·rw [if_neg c4] at H
   have c4b0:(a0 == 0) = false:=beq_eq_false_iff_ne.mpr c4
   have c4b1:(a0 != 0) = true:=bne_iff_ne.mpr c4
   (first|rw [c4b0]|(simp only [i64_w,i32_w];rw [c4b0])|skip)
   by_cases c5:a0 < (-1000)
   ·rw [if_pos c5] at H
    have c5b0:decide (a0 < (-1000)) = true:=decide_eq_true c5
    clear c5
    have H':=Aside0.mk H
    clear H
    go_wp2
    go_meet
    case rel=>exact ⟨_,(true),(by first|rfl|(simp;done)|(simp [*];done)),H',⟨by first|omega|exact Nat.le_refl _⟩,by repeat (first|exact Drawn0.refl _|apply Drawn0.step)⟩
   ·rw [if_neg c5] at H
    have c5b0:decide (a0 < (-1000)) = false:=decide_eq_false c5
    clear c5
    have H':=Aside0.mk H
    clear H
    go_wp2
    go_meet
    case rel=>exact ⟨_,(decide (a0 > 1000)),(by first|rfl|(simp;done)|(simp [*];done)),H',⟨by first|omega|exact Nat.le_refl _⟩,by repeat (first|exact Drawn0.refl _|apply Drawn0.step)⟩
 case rest =>
  clear HC3
  try clear p2
  try clear c4
  try clear c4b0
  try clear c4b1
  try clear c5
  try clear c5b0
  obtain ⟨kq,x14_2,rfl,HA,HJ2,⟨mc2,rfl⟩⟩:=hcut
  cases kq with
  | zero=>exact absurd HA.out (by simp [contangoref43_one.j0])
  | succ kj2 =>
   have H:=HA.out
   clear HA
   simp only [contangoref43_one.j0] at H
   by_cases c6:x14_2 = true
   ·subst c6
    have H1:(some 2) = some r:=by rw [if_pos rfl] at H;exact H
    clear H
    have H:=H1
    clear H1
    obtain rfl:=Option.some.inj H
    go_wp2
    go_ret
    exact ⟨by first|rfl|(simp;done)|(simp [*];done),by repeat (first|exact Drawn0.refl _|apply Drawn0.step)⟩
   ·replace c6:=Bool.eq_false_iff.mpr c6
    subst c6
    have H1:(if a1 < 0 then (some 18) else (if a1 > 1048576 then (some 18) else (some 0))) = some r:=by rw [if_neg (show ¬ (false = true) by decide)] at H;exact H
    clear H
    have H:=H1
    clear H1
    by_cases c7:a1 < 0
    ·rw [if_pos c7] at H
     have c7b0:decide (a1 < 0) = true:=decide_eq_true c7
     clear c7
     obtain rfl:=Option.some.inj H
     go_wp2
     go_ret
     exact ⟨by first|rfl|(simp;done)|(simp [*];done),by repeat (first|exact Drawn0.refl _|apply Drawn0.step)⟩
    ·rw [if_neg c7] at H
     have c7b0:decide (a1 < 0) = false:=decide_eq_false c7
     clear c7
     by_cases c8:a1 > 1048576
     ·rw [if_pos c8] at H
      have c8b0:decide (1048576 < a1) = true:=decide_eq_true c8
      clear c8
      obtain rfl:=Option.some.inj H
      go_wp2
      go_ret
      exact ⟨by first|rfl|(simp;done)|(simp [*];done),by repeat (first|exact Drawn0.refl _|apply Drawn0.step)⟩
     ·rw [if_neg c8] at H
      have c8b0:decide (1048576 < a1) = false:=decide_eq_false c8
      clear c8
      obtain rfl:=Option.some.inj H
      go_wp2
      go_ret
      exact ⟨by first|rfl|(simp;done)|(simp [*];done),by repeat (first|exact Drawn0.refl _|apply Drawn0.step)⟩
end Go.Proofs.Ytbgeceiddcokmaa.X
end
section
namespace Go.Proofs.Ytbgeceiddcokmaa.X
open Go.RowKit Go.Proofs.YtbgeceiddcokmaaW.PrintWords Go.Proofs.YtbgeceiddcokmaaW.PrintLast Go.Proofs.YtbgeceiddcokmaaW.PrintMore
attribute [local go_sem] max2_int min2_int max_two min_two max_three min_three max_four min_four
set_option linter.unusedVariables false
set_option linter.unusedSimpArgs false
attribute [local go_sem high] eqA39
mutual
def contangoref43_Check.l0:Nat → List (S54) → Int → Option (Int)
 | 0,_,_=>none
 | k + 1,x0,x3=>if x3 < (x0.length:Int) then (if 0 ≤ x3 then ((contangoref43_one.f k ((rd_T54 x0 x3).f1) ((rd_T54 x0 x3).f2)).bind fun t103=>(if t103 = 0 then (contangoref43_Check.l1 k x0 x3 0) else (some t103))) else (none)) else (some 0)
def contangoref43_Check.l1:Nat → List (S54) → Int → Int → Option (Int)
 | 0,_,_,_=>none
 | k + 1,x0,x3,x5=>if x5 < x3 then (if 0 ≤ x5 then (if x5 < (x0.length:Int) then (if 0 ≤ x3 then (if x3 < (x0.length:Int) then (if ((((rd_T54 x0 x5).f0.f0).toList) == (((rd_T54 x0 x3).f0.f0).toList) && (((rd_T54 x0 x5).f0.f1) == ((rd_T54 x0 x3).f0.f1) && (((rd_T54 x0 x5).f0.f2) == ((rd_T54 x0 x3).f0.f2) && (((rd_T54 x0 x5).f0.f3) == ((rd_T54 x0 x3).f0.f3))))) = true then (some 19) else (contangoref43_Check.l1 k x0 x3 (wrap64 (x5 + 1)))) else (none)) else (none)) else (none)) else (none)) else (contangoref43_Check.l0 k x0 (wrap64 (x3 + 1)))
end
def contangoref43_Check.f (k:Nat) (l0:List (S54)):Option (Int):=if (l0.length:Int) > 1024 then (some 8) else (contangoref43_Check.l0 k l0 0)
set_option maxHeartbeats 8000000 in
set_option maxRecDepth 100000 in
theorem contangoref43_Check.calls (k:Nat) (A0:Option Addr) (c0:Nat) (l0:List (S54)) (r:Int) (w:World) (hr0:Kd.C k54 w A0 l0.length l0) (hc0:l0.length ≤ c0) (h:contangoref43_Check.f k l0 = some r) :
  Calls Try.prog 20 #[.slice A0 l0.length c0] w fun e w'=>e = .returned (.int .i64 r) ∧ Drawn0 w w':=by
 have hu39:=Try.underlying39
 have HR0:=Aside0.mk hr0
 have HC0:=Aside0.mk hc0
 clear hr0 hc0
 have H:(if (l0.length:Int) > 1024 then (some 8) else (contangoref43_Check.l0 k l0 0)) = some r:=h
 clear h
 by_cases c2:(l0.length:Int) > 1024
 ·rw [if_pos c2] at H
  have c2b0:decide (1024 < (l0.length:Int)) = true:=decide_eq_true c2
  have c2b1:decide (1024 < l0.length) = true:=decide_eq_true (by omega)
  clear c2
  obtain rfl:=Option.some.inj H
  go_enter Try.func20,Try.ntmps20
  go_wp2
  repeat (go_quiet (fail);try go_wp2)
  go_ret
  exact ⟨by first|rfl|(simp;done)|(simp [*];done),by repeat (first|exact Drawn0.refl _|apply Drawn0.step)⟩
 ·rw [if_neg c2] at H
  have c2b0:decide (1024 < (l0.length:Int)) = false:=decide_eq_false c2
  have c2b1:decide (1024 < l0.length) = false:=decide_eq_false (by omega)
  clear c2
  have H':=Aside0.mk H
  clear H
  go_enter Try.func20,Try.ntmps20
  go_wp2
  repeat (go_quiet (fail);try go_wp2)
  go_loopg [3] k (fun kq v3 w'=>∃ (x3_1:Int),v3 = .int .i64 x3_1 ∧ Aside0 (contangoref43_Check.l0 kq l0 x3_1 = some r) ∧ Aside0 (kq ≤ k) ∧ Drawn0 w w')
  case atStart=>exact ⟨(0),(by first|rfl|(simp;done)|(simp [*];done)),H',⟨Nat.le_refl _⟩,by repeat (first|exact Drawn0.refl _|apply Drawn0.step)⟩
  case round =>
   clear H'
   try clear c2
   try clear c2b0
   try clear c2b1
   try clear p2
   obtain ⟨x3_1,rfl,HA,HK1,⟨m1,rfl⟩⟩:=hrel
   cases gk with
   | zero=>exact absurd HA.out (by simp [contangoref43_Check.l0])
   | succ k1 =>
    have H:=HA.out
    clear HA
    simp only [contangoref43_Check.l0] at H
    by_cases c3:x3_1 < (l0.length:Int)
    ·rw [if_pos c3] at H
     have c3b0:decide (x3_1 < (l0.length:Int)) = true:=decide_eq_true c3
     clear c3
     by_cases c4:0 ≤ x3_1
     ·rw [if_pos c4] at H
      have c4b0:decide (0 ≤ x3_1) = true:=decide_eq_true c4
      clear c4
      replace H:=Option.bind_eq_some_iff.mp H
      obtain ⟨t103,A50,H⟩:=H
      replace H:(if t103 = 0 then (contangoref43_Check.l1 k1 l0 x3_1 0) else (some t103)) = some r:=H
      have A5:=Aside0.mk A50
      clear A50
      by_cases c6:t103 = 0
      ·rw [if_pos c6] at H
       have c6b0:(t103 == 0) = true:=beq_iff_eq.mpr c6
       have c6b1:(t103 != 0) = false:=bne_eq_false_iff_eq.mpr c6
       clear c6
       have H':=Aside0.mk H
       clear H
       have p101:0 ≤ (x3_1:Int):=of_decide_eq_true (by first|(with_reducible assumption)|assumption)
       have q101:x3_1 < (l0.length:Int):=of_decide_eq_true (by first|(with_reducible assumption)|assumption)
       obtain ⟨ad101,e101,hx101_0,hx101_1,hx101_2,hx101_3,hx101_4,hx101_5⟩:=at_T54 HR0.out x3_1 p101 q101
       cases e101
       replace p101:=eq_true p101
       replace q101:=eq_true q101
       have p102:0 ≤ (x3_1:Int):=of_decide_eq_true (by first|(with_reducible assumption)|assumption)
       have q102:x3_1 < (l0.length:Int):=of_decide_eq_true (by first|(with_reducible assumption)|assumption)
       obtain ⟨ad102,e102,hx102_0,hx102_1,hx102_2,hx102_3,hx102_4,hx102_5⟩:=at_T54 HR0.out x3_1 p102 q102
       obtain rfl:ad101 = ad102:=(by injection e102)
       replace p102:=eq_true p102
       replace q102:=eq_true q102
       go_wp2_with (first|(go_at_call 54;(with_reducible refine (contangoref43_one.calls k1 ((rd_T54 l0 x3_1).f1) ((rd_T54 l0 x3_1).f2) t103 _ A5.out).mono ?_);rintro e w' ⟨rfl,⟨nd,rfl⟩⟩;(try first|exact ⟨rfl,_,World.drewN_drewN _ _ _⟩|exact ⟨rfl,_,Eq.trans (World.drewN_drewN _ _ _) (congrArg (World.drewN _) (Nat.add_assoc _ _ _))⟩)))
       repeat (go_quiet (first|(go_at_call 54;(with_reducible refine (contangoref43_one.calls k1 ((rd_T54 l0 x3_1).f1) ((rd_T54 l0 x3_1).f2) t103 _ A5.out).mono ?_);rintro e w' ⟨rfl,⟨nd,rfl⟩⟩;(try first|exact ⟨rfl,_,World.drewN_drewN _ _ _⟩|exact ⟨rfl,_,Eq.trans (World.drewN_drewN _ _ _) (congrArg (World.drewN _) (Nat.add_assoc _ _ _))⟩)));try go_wp2_with (first|(go_at_call 54;(with_reducible refine (contangoref43_one.calls k1 ((rd_T54 l0 x3_1).f1) ((rd_T54 l0 x3_1).f2) t103 _ A5.out).mono ?_);rintro e w' ⟨rfl,⟨nd,rfl⟩⟩;(try first|exact ⟨rfl,_,World.drewN_drewN _ _ _⟩|exact ⟨rfl,_,Eq.trans (World.drewN_drewN _ _ _) (congrArg (World.drewN _) (Nat.add_assoc _ _ _))⟩))))
       go_loopg [5] k1 (fun kq v5 w'=>∃ (x5_2:Int),v5 = .int .i64 x5_2 ∧ Aside0 (contangoref43_Check.l1 kq l0 x3_1 x5_2 = some r) ∧ Aside0 (kq ≤ k1) ∧ Drawn0 w w')
       case atStart=>exact ⟨(0),(by first|rfl|(simp;done)|(simp [*];done)),H',⟨Nat.le_refl _⟩,by repeat (first|exact Drawn0.refl _|apply Drawn0.step)⟩
       case round =>
        clear H'
        try clear p1
        try clear q1
        try clear hx1
        try clear c2
        try clear c2b0
        try clear c2b1
        try clear p2
        try clear c3
        try clear c3b0
        try clear c4
        try clear c4b0
        try clear c6
        try clear c6b0
        try clear c6b1
        try clear hx101_0
        try clear hx101_1
        try clear hx101_2
        try clear hx101_3
        try clear hx101_4
        try clear hx101_5
        try clear hx102_0
        try clear hx102_1
        try clear hx102_2
        try clear hx102_3
        try clear hx102_4
        try clear hx102_5
        try clear p101
        try clear p102
        try clear p2
        try clear q101
        try clear q102
        obtain ⟨x5_2,rfl,HA,HK2,⟨m2,rfl⟩⟩:=hrel
        cases gk with
        | zero=>exact absurd HA.out (by simp [contangoref43_Check.l1])
        | succ k2 =>
         have H:=HA.out
         clear HA
         simp only [contangoref43_Check.l1] at H
         by_cases c7:x5_2 < x3_1
         ·rw [if_pos c7] at H
          have c7b0:decide (x5_2 < x3_1) = true:=decide_eq_true c7
          clear c7
          by_cases c8:0 ≤ x5_2
          ·rw [if_pos c8] at H
           have c8b0:decide (0 ≤ x5_2) = true:=decide_eq_true c8
           clear c8
           by_cases c9:x5_2 < (l0.length:Int)
           ·rw [if_pos c9] at H
            have c9b0:decide (x5_2 < (l0.length:Int)) = true:=decide_eq_true c9
            clear c9
            by_cases c10:0 ≤ x3_1
            ·rw [if_pos c10] at H
             have c10b0:decide (0 ≤ x3_1) = true:=decide_eq_true c10
             clear c10
             by_cases c11:x3_1 < (l0.length:Int)
             ·rw [if_pos c11] at H
              have c11b0:decide (x3_1 < (l0.length:Int)) = true:=decide_eq_true c11
              clear c11
              by_cases c12:((((rd_T54 l0 x5_2).f0.f0).toList) == (((rd_T54 l0 x3_1).f0.f0).toList) && (((rd_T54 l0 x5_2).f0.f1) == ((rd_T54 l0 x3_1).f0.f1) && (((rd_T54 l0 x5_2).f0.f2) == ((rd_T54 l0 x3_1).f0.f2) && (((rd_T54 l0 x5_2).f0.f3) == ((rd_T54 l0 x3_1).f0.f3))))) = true
              ·rw [if_pos c12] at H
               have c12b0:((((rd_T54 l0 x5_2).f0.f0).toList) == (((rd_T54 l0 x3_1).f0.f0).toList) && (((rd_T54 l0 x5_2).f0.f1) == ((rd_T54 l0 x3_1).f0.f1) && (((rd_T54 l0 x5_2).f0.f2) == ((rd_T54 l0 x3_1).f0.f2) && (((rd_T54 l0 x5_2).f0.f3) == ((rd_T54 l0 x3_1).f0.f3))))) = true:=c12
               (try (have c12b1:decide ((((rd_T54 l0 x5_2).f0.f0).toList) = (((rd_T54 l0 x3_1).f0.f0).toList) && (((rd_T54 l0 x5_2).f0.f1) == ((rd_T54 l0 x3_1).f0.f1) && (((rd_T54 l0 x5_2).f0.f2) == ((rd_T54 l0 x3_1).f0.f2) && (((rd_T54 l0 x5_2).f0.f3) == ((rd_T54 l0 x3_1).f0.f3))))) = true:=by simpa using c12))
               (try (have c12b2:((((rd_T54 l0 x5_2).f0.f0).toList) == (((rd_T54 l0 x3_1).f0.f0).toList) && (((rd_T54 l0 x5_2).f0.f1) == ((rd_T54 l0 x3_1).f0.f1) && (((rd_T54 l0 x5_2).f0.f2) == ((rd_T54 l0 x3_1).f0.f2) && (((rd_T54 l0 x5_2).f0.f3) == ((rd_T54 l0 x3_1).f0.f3))))) = true:=by simpa using c12))
               clear c12
               obtain rfl:=Option.some.inj H
               have p104:0 ≤ (x5_2:Int):=of_decide_eq_true (by first|(with_reducible assumption)|assumption)
               have q104:x5_2 < (l0.length:Int):=of_decide_eq_true (by first|(with_reducible assumption)|assumption)
               obtain ⟨ad104,e104,hx104_0,hx104_1,hx104_2,hx104_3,hx104_4,hx104_5⟩:=at_T54 HR0.out x5_2 p104 q104
               obtain rfl:ad101 = ad104:=(by injection e104)
               replace p104:=eq_true p104
               replace q104:=eq_true q104
               have p105:0 ≤ (x3_1:Int):=of_decide_eq_true (by first|(with_reducible assumption)|assumption)
               have q105:x3_1 < (l0.length:Int):=of_decide_eq_true (by first|(with_reducible assumption)|assumption)
               obtain ⟨ad105,e105,hx105_0,hx105_1,hx105_2,hx105_3,hx105_4,hx105_5⟩:=at_T54 HR0.out x3_1 p105 q105
               obtain rfl:ad101 = ad105:=(by injection e105)
               replace p105:=eq_true p105
               replace q105:=eq_true q105
               go_wp2
               repeat (go_quiet (fail);try go_wp2)
               go_ret
               exact ⟨by first|rfl|(simp;done)|(simp [*];done),by repeat (first|exact Drawn0.refl _|apply Drawn0.step)⟩
              ·rw [if_neg c12] at H
               have c12b0:((((rd_T54 l0 x5_2).f0.f0).toList) == (((rd_T54 l0 x3_1).f0.f0).toList) && (((rd_T54 l0 x5_2).f0.f1) == ((rd_T54 l0 x3_1).f0.f1) && (((rd_T54 l0 x5_2).f0.f2) == ((rd_T54 l0 x3_1).f0.f2) && (((rd_T54 l0 x5_2).f0.f3) == ((rd_T54 l0 x3_1).f0.f3))))) = false:=by simpa using c12
               (try (have c12b1:decide ((((rd_T54 l0 x5_2).f0.f0).toList) = (((rd_T54 l0 x3_1).f0.f0).toList) && (((rd_T54 l0 x5_2).f0.f1) == ((rd_T54 l0 x3_1).f0.f1) && (((rd_T54 l0 x5_2).f0.f2) == ((rd_T54 l0 x3_1).f0.f2) && (((rd_T54 l0 x5_2).f0.f3) == ((rd_T54 l0 x3_1).f0.f3))))) = false:=by simpa using c12))
               (try (have c12b2:((((rd_T54 l0 x5_2).f0.f0).toList) == (((rd_T54 l0 x3_1).f0.f0).toList) && (((rd_T54 l0 x5_2).f0.f1) == ((rd_T54 l0 x3_1).f0.f1) && (((rd_T54 l0 x5_2).f0.f2) == ((rd_T54 l0 x3_1).f0.f2) && (((rd_T54 l0 x5_2).f0.f3) == ((rd_T54 l0 x3_1).f0.f3))))) = false:=by simpa using c12))
               (try (have c12b3:¬ ((((rd_T54 l0 x5_2).f0.f0).toList) = (((rd_T54 l0 x3_1).f0.f0).toList) && (((rd_T54 l0 x5_2).f0.f1) == ((rd_T54 l0 x3_1).f0.f1) && (((rd_T54 l0 x5_2).f0.f2) == ((rd_T54 l0 x3_1).f0.f2) && (((rd_T54 l0 x5_2).f0.f3) == ((rd_T54 l0 x3_1).f0.f3))))):=by simpa using c12))
               clear c12
               have H':=Aside0.mk H
               clear H
               have p104:0 ≤ (x5_2:Int):=of_decide_eq_true (by first|(with_reducible assumption)|assumption)
               have q104:x5_2 < (l0.length:Int):=of_decide_eq_true (by first|(with_reducible assumption)|assumption)
               obtain ⟨ad104,e104,hx104_0,hx104_1,hx104_2,hx104_3,hx104_4,hx104_5⟩:=at_T54 HR0.out x5_2 p104 q104
               obtain rfl:ad101 = ad104:=(by injection e104)
               replace p104:=eq_true p104
               replace q104:=eq_true q104
               have p105:0 ≤ (x3_1:Int):=of_decide_eq_true (by first|(with_reducible assumption)|assumption)
               have q105:x3_1 < (l0.length:Int):=of_decide_eq_true (by first|(with_reducible assumption)|assumption)
               obtain ⟨ad105,e105,hx105_0,hx105_1,hx105_2,hx105_3,hx105_4,hx105_5⟩:=at_T54 HR0.out x3_1 p105 q105
               obtain rfl:ad101 = ad105:=(by injection e105)
               replace p105:=eq_true p105
               replace q105:=eq_true q105
               go_wp2
               repeat (go_quiet (fail);try go_wp2)
               go_roundg k2
               case measure=>have:=HK1.out;have:=HK2.out;omega
               case rel=>exact ⟨(wrap64 (x5_2 + 1)),(by first|rfl|(simp;done)|(simp [*];done)),H',⟨by have:=HK1.out;have:=HK2.out;omega⟩,by repeat (first|exact Drawn0.refl _|apply Drawn0.step)⟩
             ·rw [if_neg c11] at H
              exact absurd H (by simp)
            ·rw [if_neg c10] at H
             exact absurd H (by simp)
           ·rw [if_neg c9] at H
            exact absurd H (by simp)
          ·rw [if_neg c8] at H
           exact absurd H (by simp)
         ·rw [if_neg c7] at H
          have c7b0:decide (x5_2 < x3_1) = false:=decide_eq_false c7
          clear c7
          have H':=Aside0.mk H
          clear H
          go_wp2
          repeat (go_quiet (fail);try go_wp2)
          go_roundg k2
          case measure=>have:=HK1.out;have:=HK2.out;omega
          case rel=>exact ⟨(wrap64 (x3_1 + 1)),(by first|rfl|(simp;done)|(simp [*];done)),H',⟨by have:=HK1.out;have:=HK2.out;omega⟩,by repeat (first|exact Drawn0.refl _|apply Drawn0.step)⟩
      ·rw [if_neg c6] at H
       have c6b0:(t103 == 0) = false:=beq_eq_false_iff_ne.mpr c6
       have c6b1:(t103 != 0) = true:=bne_iff_ne.mpr c6
       obtain rfl:=Option.some.inj H
       have p101:0 ≤ (x3_1:Int):=of_decide_eq_true (by first|(with_reducible assumption)|assumption)
       have q101:x3_1 < (l0.length:Int):=of_decide_eq_true (by first|(with_reducible assumption)|assumption)
       obtain ⟨ad101,e101,hx101_0,hx101_1,hx101_2,hx101_3,hx101_4,hx101_5⟩:=at_T54 HR0.out x3_1 p101 q101
       cases e101
       replace p101:=eq_true p101
       replace q101:=eq_true q101
       have p102:0 ≤ (x3_1:Int):=of_decide_eq_true (by first|(with_reducible assumption)|assumption)
       have q102:x3_1 < (l0.length:Int):=of_decide_eq_true (by first|(with_reducible assumption)|assumption)
       obtain ⟨ad102,e102,hx102_0,hx102_1,hx102_2,hx102_3,hx102_4,hx102_5⟩:=at_T54 HR0.out x3_1 p102 q102
       obtain rfl:ad101 = ad102:=(by injection e102)
       replace p102:=eq_true p102
       replace q102:=eq_true q102
       go_wp2_with (first|(go_at_call 54;(with_reducible refine (contangoref43_one.calls k1 ((rd_T54 l0 x3_1).f1) ((rd_T54 l0 x3_1).f2) t103 _ A5.out).mono ?_);rintro e w' ⟨rfl,⟨nd,rfl⟩⟩;(try first|exact ⟨rfl,_,World.drewN_drewN _ _ _⟩|exact ⟨rfl,_,Eq.trans (World.drewN_drewN _ _ _) (congrArg (World.drewN _) (Nat.add_assoc _ _ _))⟩)))
       repeat (go_quiet (first|(go_at_call 54;(with_reducible refine (contangoref43_one.calls k1 ((rd_T54 l0 x3_1).f1) ((rd_T54 l0 x3_1).f2) t103 _ A5.out).mono ?_);rintro e w' ⟨rfl,⟨nd,rfl⟩⟩;(try first|exact ⟨rfl,_,World.drewN_drewN _ _ _⟩|exact ⟨rfl,_,Eq.trans (World.drewN_drewN _ _ _) (congrArg (World.drewN _) (Nat.add_assoc _ _ _))⟩)));try go_wp2_with (first|(go_at_call 54;(with_reducible refine (contangoref43_one.calls k1 ((rd_T54 l0 x3_1).f1) ((rd_T54 l0 x3_1).f2) t103 _ A5.out).mono ?_);rintro e w' ⟨rfl,⟨nd,rfl⟩⟩;(try first|exact ⟨rfl,_,World.drewN_drewN _ _ _⟩|exact ⟨rfl,_,Eq.trans (World.drewN_drewN _ _ _) (congrArg (World.drewN _) (Nat.add_assoc _ _ _))⟩))))
       go_ret
       exact ⟨by first|rfl|(simp;done)|(simp [*];done),by repeat (first|exact Drawn0.refl _|apply Drawn0.step)⟩
     ·rw [if_neg c4] at H
      exact absurd H (by simp)
    ·rw [if_neg c3] at H
     have c3b0:decide (x3_1 < (l0.length:Int)) = false:=decide_eq_false c3
     clear c3
     obtain rfl:=Option.some.inj H
     go_wp2
     repeat (go_quiet (fail);try go_wp2)
     go_ret
     exact ⟨by first|rfl|(simp;done)|(simp [*];done),by repeat (first|exact Drawn0.refl _|apply Drawn0.step)⟩
end Go.Proofs.Ytbgeceiddcokmaa.X
end
section
namespace Go.Proofs.Ytbgeceiddcokmaa.X
open Go.RowKit Go.Proofs.YtbgeceiddcokmaaW.PrintWords Go.Proofs.YtbgeceiddcokmaaW.PrintLast Go.Proofs.YtbgeceiddcokmaaW.PrintMore
attribute [local go_sem] max2_int min2_int max_two min_two max_three min_three max_four min_four
set_option linter.unusedVariables false
set_option linter.unusedSimpArgs false
def contangoref43_size.f (a0:Int):Option (Int):=if a0 < 0 then (some (wrap64 (-a0))) else (some a0)
set_option maxHeartbeats 8000000 in
set_option maxRecDepth 100000 in
theorem contangoref43_size.calls (a0:Int) (r:Int) (w:World) (h:contangoref43_size.f a0 = some r) :
  Calls Try.prog 56 #[.int .i64 a0] w fun e w'=>e = .returned (.int .i64 r) ∧ Drawn0 w w':=by
 have H:(if a0 < 0 then (some (wrap64 (-a0))) else (some a0)) = some r:=h
 clear h
 by_cases c2:a0 < 0
 ·rw [if_pos c2] at H
  have c2b0:decide (a0 < 0) = true:=decide_eq_true c2
  clear c2
  obtain rfl:=Option.some.inj H
  go_enter Try.func56,Try.ntmps56
  go_wp2
  go_ret
  exact ⟨by first|rfl|(simp;done)|(simp [*];done),by repeat (first|exact Drawn0.refl _|apply Drawn0.step)⟩
 ·rw [if_neg c2] at H
  have c2b0:decide (a0 < 0) = false:=decide_eq_false c2
  clear c2
  obtain rfl:=Option.some.inj H
  go_enter Try.func56,Try.ntmps56
  go_wp2
  go_ret
  exact ⟨by first|rfl|(simp;done)|(simp [*];done),by repeat (first|exact Drawn0.refl _|apply Drawn0.step)⟩
end Go.Proofs.Ytbgeceiddcokmaa.X
end
section
namespace Go.Proofs.Ytbgeceiddcokmaa.X
open Go.RowKit Go.Proofs.YtbgeceiddcokmaaW.PrintWords Go.Proofs.YtbgeceiddcokmaaW.PrintLast Go.Proofs.YtbgeceiddcokmaaW.PrintMore
attribute [local go_sem] max2_int min2_int max_two min_two max_three min_three max_four min_four
set_option linter.unusedVariables false
set_option linter.unusedSimpArgs false
def contangoref43_within.f (a0:Int):Option (Bool):=if a0 ≥ (-1099511627776) then (some (decide (a0 ≤ 1099511627776))) else (some false)
set_option maxHeartbeats 8000000 in
set_option maxRecDepth 100000 in
theorem contangoref43_within.calls (a0:Int) (r:Bool) (w:World) (h:contangoref43_within.f a0 = some r) :
  Calls Try.prog 52 #[.int .i64 a0] w fun e w'=>e = .returned (.bool r) ∧ Drawn0 w w':=by
 have H:(if a0 ≥ (-1099511627776) then (some (decide (a0 ≤ 1099511627776))) else (some false)) = some r:=h
 clear h
 by_cases c2:a0 ≥ (-1099511627776)
 ·rw [if_pos c2] at H
  have c2b0:decide ((-1099511627776) ≤ a0) = true:=decide_eq_true c2
  clear c2
  obtain rfl:=Option.some.inj H
  go_enter Try.func52,Try.ntmps52
  go_wp2
  go_ret
  exact ⟨by first|rfl|(simp;done)|(simp [*];done),by repeat (first|exact Drawn0.refl _|apply Drawn0.step)⟩
 ·rw [if_neg c2] at H
  have c2b0:decide ((-1099511627776) ≤ a0) = false:=decide_eq_false c2
  clear c2
  obtain rfl:=Option.some.inj H
  go_enter Try.func52,Try.ntmps52
  go_wp2
  go_ret
  exact ⟨by first|rfl|(simp;done)|(simp [*];done),by repeat (first|exact Drawn0.refl _|apply Drawn0.step)⟩
end Go.Proofs.Ytbgeceiddcokmaa.X
end
section
namespace Go.Proofs.Ytbgeceiddcokmaa.X
open Go.RowKit Go.Proofs.YtbgeceiddcokmaaW.PrintWords Go.Proofs.YtbgeceiddcokmaaW.PrintLast Go.Proofs.YtbgeceiddcokmaaW.PrintMore
attribute [local go_sem] max2_int min2_int max_two min_two max_three min_three max_four min_four
set_option linter.unusedVariables false
set_option linter.unusedSimpArgs false
def contangoref43_Best.j0:Nat → Int → Int → Int → Int → Option (Int × Int)
 | 0,_,_,_,_=>none
 | k + 1,x0,x1,x2,x11=>if x11 > x2 then (if ((decide (x0 > 0)) == (decide (x1 > 0))) = true then (some (wrap64 (-x2),0)) else (some (x2,0))) else (if ((decide (x0 > 0)) == (decide (x1 > 0))) = true then (some (wrap64 (-x11),0)) else (some (x11,0)))
def contangoref43_Best.f (k:Nat) (a0:Int) (a1:Int) (a2:Int):Option (Int × Int):=(contangoref43_within.f a0).bind fun t101=>(if t101 = true then ((contangoref43_one.f k a1 a2).bind fun t102=>(if t102 = 0 then ((contangoref43_size.f a0).bind fun t103=>((contangoref43_size.f a1).bind fun t104=>(if t104 = 0 then (none) else (if (wrap64 (2 * (Int.tmod t103 t104))) > t104 then (contangoref43_Best.j0 k a0 a1 a2 (wrap64 ((wrap64 (Int.tdiv t103 t104)) + 1))) else (contangoref43_Best.j0 k a0 a1 a2 (wrap64 (Int.tdiv t103 t104))))))) else (some (0,t102)))) else (some (0,2)))
set_option maxHeartbeats 8000000 in
set_option maxRecDepth 100000 in
theorem contangoref43_Best.calls (k:Nat) (a0:Int) (a1:Int) (a2:Int) (r1:Int) (r2:Int) (w:World) (h:contangoref43_Best.f k a0 a1 a2 = some (r1,r2)) :
  Calls Try.prog 22 #[.int .i64 a0,.int .i64 a1,.int .i64 a2] w fun e w'=>e = .returned (.tuple #[.int .i64 r1,.int .i64 r2]) ∧ Drawn0 w w':=by
 have H:((contangoref43_within.f a0).bind fun t101=>(if t101 = true then ((contangoref43_one.f k a1 a2).bind fun t102=>(if t102 = 0 then ((contangoref43_size.f a0).bind fun t103=>((contangoref43_size.f a1).bind fun t104=>(if t104 = 0 then (none) else (if (wrap64 (2 * (Int.tmod t103 t104))) > t104 then (contangoref43_Best.j0 k a0 a1 a2 (wrap64 ((wrap64 (Int.tdiv t103 t104)) + 1))) else (contangoref43_Best.j0 k a0 a1 a2 (wrap64 (Int.tdiv t103 t104))))))) else (some (0,t102)))) else (some (0,2)))) = some (r1,r2):=h
 clear h
 replace H:=Option.bind_eq_some_iff.mp H
 obtain ⟨t101,A40,H⟩:=H
 replace H:(if t101 = true then ((contangoref43_one.f k a1 a2).bind fun t102=>(if t102 = 0 then ((contangoref43_size.f a0).bind fun t103=>((contangoref43_size.f a1).bind fun t104=>(if t104 = 0 then (none) else (if (wrap64 (2 * (Int.tmod t103 t104))) > t104 then (contangoref43_Best.j0 k a0 a1 a2 (wrap64 ((wrap64 (Int.tdiv t103 t104)) + 1))) else (contangoref43_Best.j0 k a0 a1 a2 (wrap64 (Int.tdiv t103 t104))))))) else (some (0,t102)))) else (some (0,2))) = some (r1,r2):=H
 have A4:=Aside0.mk A40
 clear A40
 by_cases c5:t101 = true
 ·subst c5
  have H1:((contangoref43_one.f k a1 a2).bind fun t102=>(if t102 = 0 then ((contangoref43_size.f a0).bind fun t103=>((contangoref43_size.f a1).bind fun t104=>(if t104 = 0 then (none) else (if (wrap64 (2 * (Int.tmod t103 t104))) > t104 then (contangoref43_Best.j0 k a0 a1 a2 (wrap64 ((wrap64 (Int.tdiv t103 t104)) + 1))) else (contangoref43_Best.j0 k a0 a1 a2 (wrap64 (Int.tdiv t103 t104))))))) else (some (0,t102)))) = some (r1,r2):=by rw [if_pos rfl] at H;exact H
  clear H
  have H:=H1
  clear H1
  replace H:=Option.bind_eq_some_iff.mp H
  obtain ⟨t102,A60,H⟩:=H
  replace H:(if t102 = 0 then ((contangoref43_size.f a0).bind fun t103=>((contangoref43_size.f a1).bind fun t104=>(if t104 = 0 then (none) else (if (wrap64 (2 * (Int.tmod t103 t104))) > t104 then (contangoref43_Best.j0 k a0 a1 a2 (wrap64 ((wrap64 (Int.tdiv t103 t104)) + 1))) else (contangoref43_Best.j0 k a0 a1 a2 (wrap64 (Int.tdiv t103 t104))))))) else (some (0,t102))) = some (r1,r2):=H
  have A6:=Aside0.mk A60
  clear A60
  by_cases c7:t102 = 0
  ·rw [if_pos c7] at H
   have c7b0:(t102 == 0) = true:=beq_iff_eq.mpr c7
   have c7b1:(t102 != 0) = false:=bne_eq_false_iff_eq.mpr c7
   clear c7
   replace H:=Option.bind_eq_some_iff.mp H
   obtain ⟨t103,A80,H⟩:=H
   replace H:((contangoref43_size.f a1).bind fun t104=>(if t104 = 0 then (none) else (if (wrap64 (2 * (Int.tmod t103 t104))) > t104 then (contangoref43_Best.j0 k a0 a1 a2 (wrap64 ((wrap64 (Int.tdiv t103 t104)) + 1))) else (contangoref43_Best.j0 k a0 a1 a2 (wrap64 (Int.tdiv t103 t104)))))) = some (r1,r2):=H
   have A8:=Aside0.mk A80
   clear A80
   replace H:=Option.bind_eq_some_iff.mp H
   obtain ⟨t104,A90,H⟩:=H
   replace H:(if t104 = 0 then (none) else (if (wrap64 (2 * (Int.tmod t103 t104))) > t104 then (contangoref43_Best.j0 k a0 a1 a2 (wrap64 ((wrap64 (Int.tdiv t103 t104)) + 1))) else (contangoref43_Best.j0 k a0 a1 a2 (wrap64 (Int.tdiv t103 t104))))) = some (r1,r2):=H
   have A9:=Aside0.mk A90
   clear A90
   by_cases c10:t104 = 0
   ·rw [if_pos c10] at H
    exact absurd H (by simp)
   ·rw [if_neg c10] at H
    have c10b0:(t104 == 0) = false:=beq_eq_false_iff_ne.mpr c10
    have c10b1:(t104 != 0) = true:=bne_iff_ne.mpr c10
    have HC11:=Aside0.mk H
    clear H
    go_enter Try.func22,Try.ntmps22
    go_upto_if 33 with (first|((with_reducible refine gate_callee (f:=52) rfl ?_);refine goesL_ (some 13) rfl rfl Try.func52 (by kernel_rfl) rfl #[.int .i64 a0] rfl (by (try simp only [List.map_toArray,List.map_cons,List.map_nil]);first|done|rfl|(simp only [List.length_drop,List.length_take];rfl)) ?_;(with_reducible refine (contangoref43_within.calls a0 true _ A4.out).mono ?_);rintro e w' ⟨rfl,⟨nd,rfl⟩⟩;refine ⟨_,rfl,?_⟩)|((with_reducible refine gate_callee (f:=54) rfl ?_);refine goesL_ (some 17) rfl rfl Try.func54 (by kernel_rfl) rfl #[.int .i64 a1,.int .i64 a2] rfl (by (try simp only [List.map_toArray,List.map_cons,List.map_nil]);first|done|rfl|(simp only [List.length_drop,List.length_take];rfl)) ?_;(with_reducible refine (contangoref43_one.calls k a1 a2 t102 _ A6.out).mono ?_);rintro e w' ⟨rfl,⟨nd,rfl⟩⟩;refine ⟨_,rfl,?_⟩)|((with_reducible refine gate_callee (f:=56) rfl ?_);refine goesL_ (some 22) rfl rfl Try.func56 (by kernel_rfl) rfl #[.int .i64 a0] rfl (by (try simp only [List.map_toArray,List.map_cons,List.map_nil]);first|done|rfl|(simp only [List.length_drop,List.length_take];rfl)) ?_;(with_reducible refine (contangoref43_size.calls a0 t103 _ A8.out).mono ?_);rintro e w' ⟨rfl,⟨nd,rfl⟩⟩;refine ⟨_,rfl,?_⟩)|((with_reducible refine gate_callee (f:=56) rfl ?_);refine goesL_ (some 24) rfl rfl Try.func56 (by kernel_rfl) rfl #[.int .i64 a1] rfl (by (try simp only [List.map_toArray,List.map_cons,List.map_nil]);first|done|rfl|(simp only [List.length_drop,List.length_take];rfl)) ?_;(with_reducible refine (contangoref43_size.calls a1 t104 _ A9.out).mono ?_);rintro e w' ⟨rfl,⟨nd,rfl⟩⟩;refine ⟨_,rfl,?_⟩))
    (try simp only [Act.put,List.setIfInBounds_toArray,List.set_cons_zero,List.set_cons_succ])
    go_cut [11] (fun v11 wc=>∃ (kq:Nat) (x11_10:Int),v11 = .int .i64 x11_10 ∧ Aside0 (contangoref43_Best.j0 kq a0 a1 a2 x11_10 = some (r1,r2)) ∧ Aside0 (kq ≤ k) ∧ Drawn0 w wc)
    case first =>
     have H:=HC11.out
     clear HC11
     by_cases c12:(wrap64 (2 * (Int.tmod t103 t104))) > t104
     ·rw [if_pos c12] at H
      have c12b0:decide (t104 < (wrap64 (2 * (Int.tmod t103 t104)))) = true:=decide_eq_true c12
      clear c12
      (first|rw [c12b0]|(simp only [i64_w,i32_w];rw [c12b0])|skip)
      have H':=Aside0.mk H
      clear H
      go_wp2
      go_meet
      case rel=>exact ⟨_,(wrap64 ((wrap64 (Int.tdiv t103 t104)) + 1)),(by first|rfl|(simp;done)|(simp [*];done)),H',⟨by first|omega|exact Nat.le_refl _⟩,by repeat (first|exact Drawn0.refl _|apply Drawn0.step)⟩
     ·rw [if_neg c12] at H
      have c12b0:decide (t104 < (wrap64 (2 * (Int.tmod t103 t104)))) = false:=decide_eq_false c12
      clear c12
      (first|rw [c12b0]|(simp only [i64_w,i32_w];rw [c12b0])|skip)
      have H':=Aside0.mk H
      clear H
      go_wp2
      go_meet
      case rel=>exact ⟨_,(wrap64 (Int.tdiv t103 t104)),(by first|rfl|(simp;done)|(simp [*];done)),H',⟨by first|omega|exact Nat.le_refl _⟩,by repeat (first|exact Drawn0.refl _|apply Drawn0.step)⟩
    case rest =>
     clear HC11
     try clear c1
     try clear c2
     try clear p2
     try clear c5
     try clear p6
     try clear c7
     try clear c7b0
     try clear c7b1
     try clear c10
     try clear c10b0
     try clear c10b1
     try clear c12
     try clear c12b0
     obtain ⟨kq,x11_10,rfl,HA,HJ10,⟨mc10,rfl⟩⟩:=hcut
     cases kq with
     | zero=>exact absurd HA.out (by simp [contangoref43_Best.j0])
     | succ kj10 =>
      have H:=HA.out
      clear HA
      simp only [contangoref43_Best.j0] at H
      by_cases c13:x11_10 > a2
      ·rw [if_pos c13] at H
       have c13b0:decide (a2 < x11_10) = true:=decide_eq_true c13
       clear c13
       by_cases c14:((decide (a0 > 0)) == (decide (a1 > 0))) = true
       ·rw [if_pos c14] at H
        have c14b0:((decide (a0 > 0)) == (decide (a1 > 0))) = true:=c14
        (try (have c14b1:decide ((decide (a0 > 0)) = (decide (a1 > 0))) = true:=by simpa using c14))
        (try (have c14b2:((decide (a0 > 0)) == (decide (a1 > 0))) = true:=by simpa using c14))
        clear c14
        simp only [Option.some.injEq,Prod.mk.injEq] at H
        obtain ⟨rfl,rfl⟩:=H
        go_wp2
        go_ret2
        exact ⟨by first|rfl|(simp;done)|(simp [*];done),by repeat (first|exact Drawn0.refl _|apply Drawn0.step)⟩
       ·rw [if_neg c14] at H
        have c14b0:((decide (a0 > 0)) == (decide (a1 > 0))) = false:=by simpa using c14
        (try (have c14b1:decide ((decide (a0 > 0)) = (decide (a1 > 0))) = false:=by simpa using c14))
        (try (have c14b2:((decide (a0 > 0)) == (decide (a1 > 0))) = false:=by simpa using c14))
        (try (have c14b3:¬ ((decide (a0 > 0)) = (decide (a1 > 0))):=by simpa using c14))
        clear c14
        simp only [Option.some.injEq,Prod.mk.injEq] at H
        obtain ⟨rfl,rfl⟩:=H
        go_wp2
        go_ret2
        exact ⟨by first|rfl|(simp;done)|(simp [*];done),by repeat (first|exact Drawn0.refl _|apply Drawn0.step)⟩
      ·rw [if_neg c13] at H
       have c13b0:decide (a2 < x11_10) = false:=decide_eq_false c13
       clear c13
       by_cases c15:((decide (a0 > 0)) == (decide (a1 > 0))) = true
       ·rw [if_pos c15] at H
        have c15b0:((decide (a0 > 0)) == (decide (a1 > 0))) = true:=c15
        (try (have c15b1:decide ((decide (a0 > 0)) = (decide (a1 > 0))) = true:=by simpa using c15))
        (try (have c15b2:((decide (a0 > 0)) == (decide (a1 > 0))) = true:=by simpa using c15))
        clear c15
        simp only [Option.some.injEq,Prod.mk.injEq] at H
        obtain ⟨rfl,rfl⟩:=H
        go_wp2
        go_ret2
        exact ⟨by first|rfl|(simp;done)|(simp [*];done),by repeat (first|exact Drawn0.refl _|apply Drawn0.step)⟩
       ·rw [if_neg c15] at H
        have c15b0:((decide (a0 > 0)) == (decide (a1 > 0))) = false:=by simpa using c15
        (try (have c15b1:decide ((decide (a0 > 0)) = (decide (a1 > 0))) = false:=by simpa using c15))
        (try (have c15b2:((decide (a0 > 0)) == (decide (a1 > 0))) = false:=by simpa using c15))
        (try (have c15b3:¬ ((decide (a0 > 0)) = (decide (a1 > 0))):=by simpa using c15))
        clear c15
        simp only [Option.some.injEq,Prod.mk.injEq] at H
        obtain ⟨rfl,rfl⟩:=H
        go_wp2
        go_ret2
        exact ⟨by first|rfl|(simp;done)|(simp [*];done),by repeat (first|exact Drawn0.refl _|apply Drawn0.step)⟩
  ·rw [if_neg c7] at H
   have c7b0:(t102 == 0) = false:=beq_eq_false_iff_ne.mpr c7
   have c7b1:(t102 != 0) = true:=bne_iff_ne.mpr c7
   simp only [Option.some.injEq,Prod.mk.injEq] at H
   obtain ⟨rfl,rfl⟩:=H
   go_enter Try.func22,Try.ntmps22
   go_wp2_with (first|((with_reducible refine gate_callee (f:=52) rfl ?_);refine goesL_ (some 13) rfl rfl Try.func52 (by kernel_rfl) rfl #[.int .i64 a0] rfl (by (try simp only [List.map_toArray,List.map_cons,List.map_nil]);first|done|rfl|(simp only [List.length_drop,List.length_take];rfl)) ?_;(with_reducible refine (contangoref43_within.calls a0 true _ A4.out).mono ?_);rintro e w' ⟨rfl,⟨nd,rfl⟩⟩;refine ⟨_,rfl,?_⟩)|((with_reducible refine gate_callee (f:=54) rfl ?_);refine goesL_ (some 17) rfl rfl Try.func54 (by kernel_rfl) rfl #[.int .i64 a1,.int .i64 a2] rfl (by (try simp only [List.map_toArray,List.map_cons,List.map_nil]);first|done|rfl|(simp only [List.length_drop,List.length_take];rfl)) ?_;(with_reducible refine (contangoref43_one.calls k a1 a2 t102 _ A6.out).mono ?_);rintro e w' ⟨rfl,⟨nd,rfl⟩⟩;refine ⟨_,rfl,?_⟩))
   go_ret2
   exact ⟨by first|rfl|(simp;done)|(simp [*];done),by repeat (first|exact Drawn0.refl _|apply Drawn0.step)⟩
 ·replace c5:=Bool.eq_false_iff.mpr c5
  subst c5
  have H1:(some (0,2)) = some (r1,r2):=by rw [if_neg (show ¬ (false = true) by decide)] at H;exact H
  clear H
  have H:=H1
  clear H1
  simp only [Option.some.injEq,Prod.mk.injEq] at H
  obtain ⟨rfl,rfl⟩:=H
  go_enter Try.func22,Try.ntmps22
  go_wp2_with (first|((with_reducible refine gate_callee (f:=52) rfl ?_);refine goesL_ (some 13) rfl rfl Try.func52 (by kernel_rfl) rfl #[.int .i64 a0] rfl (by (try simp only [List.map_toArray,List.map_cons,List.map_nil]);first|done|rfl|(simp only [List.length_drop,List.length_take];rfl)) ?_;(with_reducible refine (contangoref43_within.calls a0 false _ A4.out).mono ?_);rintro e w' ⟨rfl,⟨nd,rfl⟩⟩;refine ⟨_,rfl,?_⟩))
  go_ret2
  exact ⟨by first|rfl|(simp;done)|(simp [*];done),by repeat (first|exact Drawn0.refl _|apply Drawn0.step)⟩
end Go.Proofs.Ytbgeceiddcokmaa.X
end
