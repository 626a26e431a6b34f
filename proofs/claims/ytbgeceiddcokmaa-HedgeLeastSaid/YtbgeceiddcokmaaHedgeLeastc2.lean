/- For HedgeLeast: contracts, and facts on lists and numbers, that it uses (part 2). -/
import Derived.Test.YtbgeceiddcokmaaHedgeLeastc1
section
namespace Go.Proofs.Ytbgeceiddcokmaa.X
open Go.RowKit Go.Proofs.YtbgeceiddcokmaaW.PrintWords Go.Proofs.YtbgeceiddcokmaaW.PrintLast Go.Proofs.YtbgeceiddcokmaaW.PrintMore
attribute [local go_sem] max2_int min2_int max_two min_two max_three min_three max_four min_four
set_option linter.unusedVariables false
set_option linter.unusedSimpArgs false
attribute [local go_sem high] eqA41
def contangolaw43_goes.f (k:Nat)  : Option (Bool):=(hedge_Best.f k 2600 1000 9).bind fun bt101=>((hedge_Best.f k 2500 1000 9).bind fun bt103=>((hedge_Best.f k 2600 (-500) 9).bind fun bt105=>((hedge_Plan.f (([(⟨#[111,105,108]⟩:ByteArray)]:List ByteArray)) (([2600]:List Int)) (([(⟨(⟨(⟨#[111,105,108]⟩:ByteArray),1,9,0⟩:S39),1000,2⟩:S92),(⟨(⟨(⟨#[111,105,108]⟩:ByteArray),1,39,0⟩:S39),300,9⟩:S92)]:List (S92)))).bind fun bt118=>(if bt101.1 = (-3) then (if bt101.2 = 0 then (if bt103.1 = (-2) then (if bt103.2 = 0 then (if bt105.1 = 5 then (if bt105.2 = 0 then (if bt118.2.2 = 0 then ((contangoref43_Ints.f k bt118.2.1 (([0]:List Int))).bind fun t128=>(if t128 = true then (if (bt118.1.length:Int) = 2 then (if 0 < (bt118.1.length:Int) then (if (((((rd_T41 bt118.1 0).f0.f0).toList) == ([111,105,108]:List UInt8) && (((rd_T41 bt118.1 0).f0.f1) == 1 && (((rd_T41 bt118.1 0).f0.f2) == 9 && (((rd_T41 bt118.1 0).f0.f3) == 0)))) && (((rd_T41 bt118.1 0).f1) == (-2))) = true then (if 1 < (bt118.1.length:Int) then (some (((((rd_T41 bt118.1 1).f0.f0).toList) == ([111,105,108]:List UInt8) && (((rd_T41 bt118.1 1).f0.f1) == 1 && (((rd_T41 bt118.1 1).f0.f2) == 39 && (((rd_T41 bt118.1 1).f0.f3) == 0)))) && (((rd_T41 bt118.1 1).f1) == (-2)))) else (none)) else (none)) else (none)) else (none)) else (none))) else (none)) else (none)) else (none)) else (none)) else (none)) else (none)) else (none)))))
theorem contangolaw43_goes.mono:∀ k,LeO (contangolaw43_goes.f k ) (contangolaw43_goes.f (k + 1) ):=by
 intro  k
 unfold contangolaw43_goes.f
 repeat' first
   | (with_reducible exact contangoref43_Ints.mono _ _ _)
   | (with_reducible exact hedge_Best.mono _ _ _ _)
   | (with_reducible exact LeO.refl _)
   | (with_reducible exact LeO.none _)
   | (with_reducible refine LeO.ite ?_ ?_)
   | (with_reducible refine LeO.bind ?_ (fun _=>?_))
   | exact contangoref43_Ints.mono _ _ _
   | exact hedge_Best.mono _ _ _ _
   | exact LeO.none _
   | refine LeO.ite ?_ ?_
   | refine LeO.bind ?_ (fun _=>?_)
def contangolaw43_goes.T6:Bool × List (List Nat × List Nat):=(true,[([],[]),([0],[0]),([1],[1]),([2],[2]),([3,2],[2,3]),([2,4],[2,4]),([5,2],[5]),([6],[6]),([7,6],[6,7]),([6,8],[6,8]),([9,6],[9]),([10],[10]),([11,10],[10,11]),([10,12],[10,12]),([13,10],[13]),([14],[14]),([15,14],[14,15]),([14,16],[14,16]),([17,14],[17]),([18],[18]),([19,18],[18,19]),([18,20],[18,20]),([21,18],[21]),([22],[22]),([23,22],[22,23]),([22,24],[22,24]),([25,22],[25]),([26],[26]),([26],[26]),([27,28,26,26],[26,27,28]),([26,29],[26,29]),([30,29],[30]),([31],[31]),([32,31],[31,32]),([33,31],[31,33]),([31,34],[31,34]),([35,31],[35]),([36],[36]),([37,36],[36,37]),([38,36],[36,38]),([36],[36]),([40,36],[36,40]),([39,41,36],[36,39,41]),([36,42],[36,42]),([43,36],[43]),([44],[44]),([45,44],[44,45]),([46,44],[44,46]),([44],[44]),([48,44],[44,48]),([47,49,44],[44,47,49]),([44,50],[44,50]),([51,44,0,1,2,3,4,5,6,7,8,9,10,11,12,13,14,15,16,17,18,19,20,21,22,23,24,25,26,27,28,29,30,31,32,33,34,35,36,37,38,39,40,41,42,43,44,45,46,47,48,49,50,51],[51])])
def contangolaw43_goes.B6:List Nat:=[0,1,3,7,15,31,63,127,255,511,1023,2047,4095,8191,16383,32767,65535,131071,262143,524287,1048575,2097151,4194303,8388607,16777215,33554431,67108863,134217727,134217727,536870911,1073741823,2147483647,4294967295,8589934591,17179869183,34359738367,68719476735,137438953471,274877906943,549755813887,137438953471,1236950581247,4398046511103,8796093022207,17592186044415,35184372088831,70368744177663,140737488355327,35184372088831,316659348799487,1125899906842623,2251799813685247,4503599627370495]
theorem contangolaw43_goes.tab6:rtab .any (opsOf Try.f14 6) = contangolaw43_goes.T6:=by kernel_rfl
theorem contangolaw43_goes.bits6:waitsOk contangolaw43_goes.T6.2 contangolaw43_goes.B6 = true:=by kernel_rfl
set_option maxHeartbeats 8000000 in
set_option maxRecDepth 100000 in
theorem contangolaw43_goes.calls (k:Nat)  (r:Bool) (w:World) (h:contangolaw43_goes.f k  = some r) :
  Calls Try.prog 14 #[] w fun e w'=>e = .returned (.bool r) ∧ Below w.heap.size w w':=by
 have hu39:=Try.underlying39
 have hu92:=Try.underlying92
 have hu41:=Try.underlying41
 have HB:=Aside0.mk (Below.refl w.heap.size w)
 have H:((hedge_Best.f k 2600 1000 9).bind fun bt101=>((hedge_Best.f k 2500 1000 9).bind fun bt103=>((hedge_Best.f k 2600 (-500) 9).bind fun bt105=>((hedge_Plan.f (([(⟨#[111,105,108]⟩:ByteArray)]:List ByteArray)) (([2600]:List Int)) (([(⟨(⟨(⟨#[111,105,108]⟩:ByteArray),1,9,0⟩:S39),1000,2⟩:S92),(⟨(⟨(⟨#[111,105,108]⟩:ByteArray),1,39,0⟩:S39),300,9⟩:S92)]:List (S92)))).bind fun bt118=>(if bt101.1 = (-3) then (if bt101.2 = 0 then (if bt103.1 = (-2) then (if bt103.2 = 0 then (if bt105.1 = 5 then (if bt105.2 = 0 then (if bt118.2.2 = 0 then ((contangoref43_Ints.f k bt118.2.1 (([0]:List Int))).bind fun t128=>(if t128 = true then (if (bt118.1.length:Int) = 2 then (if 0 < (bt118.1.length:Int) then (if (((((rd_T41 bt118.1 0).f0.f0).toList) == ([111,105,108]:List UInt8) && (((rd_T41 bt118.1 0).f0.f1) == 1 && (((rd_T41 bt118.1 0).f0.f2) == 9 && (((rd_T41 bt118.1 0).f0.f3) == 0)))) && (((rd_T41 bt118.1 0).f1) == (-2))) = true then (if 1 < (bt118.1.length:Int) then (some (((((rd_T41 bt118.1 1).f0.f0).toList) == ([111,105,108]:List UInt8) && (((rd_T41 bt118.1 1).f0.f1) == 1 && (((rd_T41 bt118.1 1).f0.f2) == 39 && (((rd_T41 bt118.1 1).f0.f3) == 0)))) && (((rd_T41 bt118.1 1).f1) == (-2)))) else (none)) else (none)) else (none)) else (none)) else (none))) else (none)) else (none)) else (none)) else (none)) else (none)) else (none)) else (none)))))) = some r:=h
 clear h
 replace H:=Option.bind_eq_some_iff.mp H
 obtain ⟨⟨t101,t102⟩,A10,H⟩:=H
 replace H:((hedge_Best.f k 2500 1000 9).bind fun bt103=>((hedge_Best.f k 2600 (-500) 9).bind fun bt105=>((hedge_Plan.f (([(⟨#[111,105,108]⟩:ByteArray)]:List ByteArray)) (([2600]:List Int)) (([(⟨(⟨(⟨#[111,105,108]⟩:ByteArray),1,9,0⟩:S39),1000,2⟩:S92),(⟨(⟨(⟨#[111,105,108]⟩:ByteArray),1,39,0⟩:S39),300,9⟩:S92)]:List (S92)))).bind fun bt118=>(if t101 = (-3) then (if t102 = 0 then (if bt103.1 = (-2) then (if bt103.2 = 0 then (if bt105.1 = 5 then (if bt105.2 = 0 then (if bt118.2.2 = 0 then ((contangoref43_Ints.f k bt118.2.1 (([0]:List Int))).bind fun t128=>(if t128 = true then (if (bt118.1.length:Int) = 2 then (if 0 < (bt118.1.length:Int) then (if (((((rd_T41 bt118.1 0).f0.f0).toList) == ([111,105,108]:List UInt8) && (((rd_T41 bt118.1 0).f0.f1) == 1 && (((rd_T41 bt118.1 0).f0.f2) == 9 && (((rd_T41 bt118.1 0).f0.f3) == 0)))) && (((rd_T41 bt118.1 0).f1) == (-2))) = true then (if 1 < (bt118.1.length:Int) then (some (((((rd_T41 bt118.1 1).f0.f0).toList) == ([111,105,108]:List UInt8) && (((rd_T41 bt118.1 1).f0.f1) == 1 && (((rd_T41 bt118.1 1).f0.f2) == 39 && (((rd_T41 bt118.1 1).f0.f3) == 0)))) && (((rd_T41 bt118.1 1).f1) == (-2)))) else (none)) else (none)) else (none)) else (none)) else (none))) else (none)) else (none)) else (none)) else (none)) else (none)) else (none)) else (none))))) = some r:=H
 have A1:=Aside0.mk A10
 clear A10
 replace H:=Option.bind_eq_some_iff.mp H
 obtain ⟨⟨t103,t104⟩,A20,H⟩:=H
 replace H:((hedge_Best.f k 2600 (-500) 9).bind fun bt105=>((hedge_Plan.f (([(⟨#[111,105,108]⟩:ByteArray)]:List ByteArray)) (([2600]:List Int)) (([(⟨(⟨(⟨#[111,105,108]⟩:ByteArray),1,9,0⟩:S39),1000,2⟩:S92),(⟨(⟨(⟨#[111,105,108]⟩:ByteArray),1,39,0⟩:S39),300,9⟩:S92)]:List (S92)))).bind fun bt118=>(if t101 = (-3) then (if t102 = 0 then (if t103 = (-2) then (if t104 = 0 then (if bt105.1 = 5 then (if bt105.2 = 0 then (if bt118.2.2 = 0 then ((contangoref43_Ints.f k bt118.2.1 (([0]:List Int))).bind fun t128=>(if t128 = true then (if (bt118.1.length:Int) = 2 then (if 0 < (bt118.1.length:Int) then (if (((((rd_T41 bt118.1 0).f0.f0).toList) == ([111,105,108]:List UInt8) && (((rd_T41 bt118.1 0).f0.f1) == 1 && (((rd_T41 bt118.1 0).f0.f2) == 9 && (((rd_T41 bt118.1 0).f0.f3) == 0)))) && (((rd_T41 bt118.1 0).f1) == (-2))) = true then (if 1 < (bt118.1.length:Int) then (some (((((rd_T41 bt118.1 1).f0.f0).toList) == ([111,105,108]:List UInt8) && (((rd_T41 bt118.1 1).f0.f1) == 1 && (((rd_T41 bt118.1 1).f0.f2) == 39 && (((rd_T41 bt118.1 1).f0.f3) == 0)))) && (((rd_T41 bt118.1 1).f1) == (-2)))) else (none)) else (none)) else (none)) else (none)) else (none))) else (none)) else (none)) else (none)) else (none)) else (none)) else (none)) else (none)))) = some r:=H
 have A2:=Aside0.mk A20
 clear A20
 replace H:=Option.bind_eq_some_iff.mp H
 obtain ⟨⟨t105,t106⟩,A30,H⟩:=H
 replace H:((hedge_Plan.f (([(⟨#[111,105,108]⟩:ByteArray)]:List ByteArray)) (([2600]:List Int)) (([(⟨(⟨(⟨#[111,105,108]⟩:ByteArray),1,9,0⟩:S39),1000,2⟩:S92),(⟨(⟨(⟨#[111,105,108]⟩:ByteArray),1,39,0⟩:S39),300,9⟩:S92)]:List (S92)))).bind fun bt118=>(if t101 = (-3) then (if t102 = 0 then (if t103 = (-2) then (if t104 = 0 then (if t105 = 5 then (if t106 = 0 then (if bt118.2.2 = 0 then ((contangoref43_Ints.f k bt118.2.1 (([0]:List Int))).bind fun t128=>(if t128 = true then (if (bt118.1.length:Int) = 2 then (if 0 < (bt118.1.length:Int) then (if (((((rd_T41 bt118.1 0).f0.f0).toList) == ([111,105,108]:List UInt8) && (((rd_T41 bt118.1 0).f0.f1) == 1 && (((rd_T41 bt118.1 0).f0.f2) == 9 && (((rd_T41 bt118.1 0).f0.f3) == 0)))) && (((rd_T41 bt118.1 0).f1) == (-2))) = true then (if 1 < (bt118.1.length:Int) then (some (((((rd_T41 bt118.1 1).f0.f0).toList) == ([111,105,108]:List UInt8) && (((rd_T41 bt118.1 1).f0.f1) == 1 && (((rd_T41 bt118.1 1).f0.f2) == 39 && (((rd_T41 bt118.1 1).f0.f3) == 0)))) && (((rd_T41 bt118.1 1).f1) == (-2)))) else (none)) else (none)) else (none)) else (none)) else (none))) else (none)) else (none)) else (none)) else (none)) else (none)) else (none)) else (none))) = some r:=H
 have A3:=Aside0.mk A30
 clear A30
 obtain ⟨y109,hy109⟩:∃ y_:List ByteArray,y_ = (([(⟨#[111,105,108]⟩:ByteArray)]:List ByteArray)):=⟨_,rfl⟩
 replace H:((hedge_Plan.f y109 (([2600]:List Int)) (([(⟨(⟨(⟨#[111,105,108]⟩:ByteArray),1,9,0⟩:S39),1000,2⟩:S92),(⟨(⟨(⟨#[111,105,108]⟩:ByteArray),1,39,0⟩:S39),300,9⟩:S92)]:List (S92)))).bind fun bt118=>(if t101 = (-3) then (if t102 = 0 then (if t103 = (-2) then (if t104 = 0 then (if t105 = 5 then (if t106 = 0 then (if bt118.2.2 = 0 then ((contangoref43_Ints.f k bt118.2.1 (([0]:List Int))).bind fun t128=>(if t128 = true then (if (bt118.1.length:Int) = 2 then (if 0 < (bt118.1.length:Int) then (if (((((rd_T41 bt118.1 0).f0.f0).toList) == ([111,105,108]:List UInt8) && (((rd_T41 bt118.1 0).f0.f1) == 1 && (((rd_T41 bt118.1 0).f0.f2) == 9 && (((rd_T41 bt118.1 0).f0.f3) == 0)))) && (((rd_T41 bt118.1 0).f1) == (-2))) = true then (if 1 < (bt118.1.length:Int) then (some (((((rd_T41 bt118.1 1).f0.f0).toList) == ([111,105,108]:List UInt8) && (((rd_T41 bt118.1 1).f0.f1) == 1 && (((rd_T41 bt118.1 1).f0.f2) == 39 && (((rd_T41 bt118.1 1).f0.f3) == 0)))) && (((rd_T41 bt118.1 1).f1) == (-2)))) else (none)) else (none)) else (none)) else (none)) else (none))) else (none)) else (none)) else (none)) else (none)) else (none)) else (none)) else (none))) = some r:=by first|(rw [hy109];with_reducible exact H)|(have H2_:=(Option.bind_some _ _).symm.trans H;rw [hy109];with_reducible exact H2_)|(have H2_:=(Option.bind_some _ _).symm.trans H;with_reducible exact H2_)|with_reducible exact H|(rw [hy109];exact H)|exact H
 have Ny109:=Aside0.mk hy109
 clear hy109
 obtain ⟨y112,hy112⟩:∃ y_:List Int,y_ = (([2600]:List Int)):=⟨_,rfl⟩
 replace H:((hedge_Plan.f y109 y112 (([(⟨(⟨(⟨#[111,105,108]⟩:ByteArray),1,9,0⟩:S39),1000,2⟩:S92),(⟨(⟨(⟨#[111,105,108]⟩:ByteArray),1,39,0⟩:S39),300,9⟩:S92)]:List (S92)))).bind fun bt118=>(if t101 = (-3) then (if t102 = 0 then (if t103 = (-2) then (if t104 = 0 then (if t105 = 5 then (if t106 = 0 then (if bt118.2.2 = 0 then ((contangoref43_Ints.f k bt118.2.1 (([0]:List Int))).bind fun t128=>(if t128 = true then (if (bt118.1.length:Int) = 2 then (if 0 < (bt118.1.length:Int) then (if (((((rd_T41 bt118.1 0).f0.f0).toList) == ([111,105,108]:List UInt8) && (((rd_T41 bt118.1 0).f0.f1) == 1 && (((rd_T41 bt118.1 0).f0.f2) == 9 && (((rd_T41 bt118.1 0).f0.f3) == 0)))) && (((rd_T41 bt118.1 0).f1) == (-2))) = true then (if 1 < (bt118.1.length:Int) then (some (((((rd_T41 bt118.1 1).f0.f0).toList) == ([111,105,108]:List UInt8) && (((rd_T41 bt118.1 1).f0.f1) == 1 && (((rd_T41 bt118.1 1).f0.f2) == 39 && (((rd_T41 bt118.1 1).f0.f3) == 0)))) && (((rd_T41 bt118.1 1).f1) == (-2)))) else (none)) else (none)) else (none)) else (none)) else (none))) else (none)) else (none)) else (none)) else (none)) else (none)) else (none)) else (none))) = some r:=by first|(rw [hy112];with_reducible exact H)|(have H2_:=(Option.bind_some _ _).symm.trans H;rw [hy112];with_reducible exact H2_)|(have H2_:=(Option.bind_some _ _).symm.trans H;with_reducible exact H2_)|with_reducible exact H|(rw [hy112];exact H)|exact H
 have Ny112:=Aside0.mk hy112
 clear hy112
 obtain ⟨y115,hy115⟩:∃ y_:List (S92),y_ = (([(⟨(⟨(⟨#[111,105,108]⟩:ByteArray),1,9,0⟩:S39),1000,2⟩:S92),(⟨(⟨(⟨#[111,105,108]⟩:ByteArray),1,39,0⟩:S39),300,9⟩:S92)]:List (S92))):=⟨_,rfl⟩
 replace H:((hedge_Plan.f y109 y112 y115).bind fun bt118=>(if t101 = (-3) then (if t102 = 0 then (if t103 = (-2) then (if t104 = 0 then (if t105 = 5 then (if t106 = 0 then (if bt118.2.2 = 0 then ((contangoref43_Ints.f k bt118.2.1 (([0]:List Int))).bind fun t128=>(if t128 = true then (if (bt118.1.length:Int) = 2 then (if 0 < (bt118.1.length:Int) then (if (((((rd_T41 bt118.1 0).f0.f0).toList) == ([111,105,108]:List UInt8) && (((rd_T41 bt118.1 0).f0.f1) == 1 && (((rd_T41 bt118.1 0).f0.f2) == 9 && (((rd_T41 bt118.1 0).f0.f3) == 0)))) && (((rd_T41 bt118.1 0).f1) == (-2))) = true then (if 1 < (bt118.1.length:Int) then (some (((((rd_T41 bt118.1 1).f0.f0).toList) == ([111,105,108]:List UInt8) && (((rd_T41 bt118.1 1).f0.f1) == 1 && (((rd_T41 bt118.1 1).f0.f2) == 39 && (((rd_T41 bt118.1 1).f0.f3) == 0)))) && (((rd_T41 bt118.1 1).f1) == (-2)))) else (none)) else (none)) else (none)) else (none)) else (none))) else (none)) else (none)) else (none)) else (none)) else (none)) else (none)) else (none))) = some r:=by first|(rw [hy115];with_reducible exact H)|(have H2_:=(Option.bind_some _ _).symm.trans H;rw [hy115];with_reducible exact H2_)|(have H2_:=(Option.bind_some _ _).symm.trans H;with_reducible exact H2_)|with_reducible exact H|(rw [hy115];exact H)|exact H
 have Ny115:=Aside0.mk hy115
 clear hy115
 replace H:=Option.bind_eq_some_iff.mp H
 obtain ⟨⟨t118,t119,t120⟩,A40,H⟩:=H
 replace H:(if t101 = (-3) then (if t102 = 0 then (if t103 = (-2) then (if t104 = 0 then (if t105 = 5 then (if t106 = 0 then (if t120 = 0 then ((contangoref43_Ints.f k t119 (([0]:List Int))).bind fun t128=>(if t128 = true then (if (t118.length:Int) = 2 then (if 0 < (t118.length:Int) then (if (((((rd_T41 t118 0).f0.f0).toList) == ([111,105,108]:List UInt8) && (((rd_T41 t118 0).f0.f1) == 1 && (((rd_T41 t118 0).f0.f2) == 9 && (((rd_T41 t118 0).f0.f3) == 0)))) && (((rd_T41 t118 0).f1) == (-2))) = true then (if 1 < (t118.length:Int) then (some (((((rd_T41 t118 1).f0.f0).toList) == ([111,105,108]:List UInt8) && (((rd_T41 t118 1).f0.f1) == 1 && (((rd_T41 t118 1).f0.f2) == 39 && (((rd_T41 t118 1).f0.f3) == 0)))) && (((rd_T41 t118 1).f1) == (-2)))) else (none)) else (none)) else (none)) else (none)) else (none))) else (none)) else (none)) else (none)) else (none)) else (none)) else (none)) else (none)) = some r:=H
 have A4:=Aside0.mk A40
 clear A40
 by_cases c5:t101 = (-3)
 ·rw [if_pos c5] at H
  have c5b0:(t101 == (-3)) = true:=beq_iff_eq.mpr c5
  have c5b1:(t101 != (-3)) = false:=bne_eq_false_iff_eq.mpr c5
  clear c5
  by_cases c6:t102 = 0
  ·rw [if_pos c6] at H
   have c6b0:(t102 == 0) = true:=beq_iff_eq.mpr c6
   have c6b1:(t102 != 0) = false:=bne_eq_false_iff_eq.mpr c6
   clear c6
   by_cases c7:t103 = (-2)
   ·rw [if_pos c7] at H
    have c7b0:(t103 == (-2)) = true:=beq_iff_eq.mpr c7
    have c7b1:(t103 != (-2)) = false:=bne_eq_false_iff_eq.mpr c7
    clear c7
    by_cases c8:t104 = 0
    ·rw [if_pos c8] at H
     have c8b0:(t104 == 0) = true:=beq_iff_eq.mpr c8
     have c8b1:(t104 != 0) = false:=bne_eq_false_iff_eq.mpr c8
     clear c8
     by_cases c9:t105 = 5
     ·rw [if_pos c9] at H
      have c9b0:(t105 == 5) = true:=beq_iff_eq.mpr c9
      have c9b1:(t105 != 5) = false:=bne_eq_false_iff_eq.mpr c9
      clear c9
      by_cases c10:t106 = 0
      ·rw [if_pos c10] at H
       have c10b0:(t106 == 0) = true:=beq_iff_eq.mpr c10
       have c10b1:(t106 != 0) = false:=bne_eq_false_iff_eq.mpr c10
       clear c10
       by_cases c11:t120 = 0
       ·rw [if_pos c11] at H
        have c11b0:(t120 == 0) = true:=beq_iff_eq.mpr c11
        have c11b1:(t120 != 0) = false:=bne_eq_false_iff_eq.mpr c11
        clear c11
        obtain ⟨y125,hy125⟩:∃ y_:List Int,y_ = (([0]:List Int)):=⟨_,rfl⟩
        replace H:((contangoref43_Ints.f k t119 y125).bind fun t128=>(if t128 = true then (if (t118.length:Int) = 2 then (if 0 < (t118.length:Int) then (if (((((rd_T41 t118 0).f0.f0).toList) == ([111,105,108]:List UInt8) && (((rd_T41 t118 0).f0.f1) == 1 && (((rd_T41 t118 0).f0.f2) == 9 && (((rd_T41 t118 0).f0.f3) == 0)))) && (((rd_T41 t118 0).f1) == (-2))) = true then (if 1 < (t118.length:Int) then (some (((((rd_T41 t118 1).f0.f0).toList) == ([111,105,108]:List UInt8) && (((rd_T41 t118 1).f0.f1) == 1 && (((rd_T41 t118 1).f0.f2) == 39 && (((rd_T41 t118 1).f0.f3) == 0)))) && (((rd_T41 t118 1).f1) == (-2)))) else (none)) else (none)) else (none)) else (none)) else (none))) = some r:=by first|(rw [hy125];with_reducible exact H)|(have H2_:=(Option.bind_some _ _).symm.trans H;rw [hy125];with_reducible exact H2_)|(have H2_:=(Option.bind_some _ _).symm.trans H;with_reducible exact H2_)|with_reducible exact H|(rw [hy125];exact H)|exact H
        have Ny125:=Aside0.mk hy125
        clear hy125
        replace H:=Option.bind_eq_some_iff.mp H
        obtain ⟨t128,A120,H⟩:=H
        replace H:(if t128 = true then (if (t118.length:Int) = 2 then (if 0 < (t118.length:Int) then (if (((((rd_T41 t118 0).f0.f0).toList) == ([111,105,108]:List UInt8) && (((rd_T41 t118 0).f0.f1) == 1 && (((rd_T41 t118 0).f0.f2) == 9 && (((rd_T41 t118 0).f0.f3) == 0)))) && (((rd_T41 t118 0).f1) == (-2))) = true then (if 1 < (t118.length:Int) then (some (((((rd_T41 t118 1).f0.f0).toList) == ([111,105,108]:List UInt8) && (((rd_T41 t118 1).f0.f1) == 1 && (((rd_T41 t118 1).f0.f2) == 39 && (((rd_T41 t118 1).f0.f3) == 0)))) && (((rd_T41 t118 1).f1) == (-2)))) else (none)) else (none)) else (none)) else (none)) else (none)) = some r:=H
        have A12:=Aside0.mk A120
        clear A120
        by_cases c13:t128 = true
        ·subst c13
         have H1:(if (t118.length:Int) = 2 then (if 0 < (t118.length:Int) then (if (((((rd_T41 t118 0).f0.f0).toList) == ([111,105,108]:List UInt8) && (((rd_T41 t118 0).f0.f1) == 1 && (((rd_T41 t118 0).f0.f2) == 9 && (((rd_T41 t118 0).f0.f3) == 0)))) && (((rd_T41 t118 0).f1) == (-2))) = true then (if 1 < (t118.length:Int) then (some (((((rd_T41 t118 1).f0.f0).toList) == ([111,105,108]:List UInt8) && (((rd_T41 t118 1).f0.f1) == 1 && (((rd_T41 t118 1).f0.f2) == 39 && (((rd_T41 t118 1).f0.f3) == 0)))) && (((rd_T41 t118 1).f1) == (-2)))) else (none)) else (none)) else (none)) else (none)) = some r:=by rw [if_pos rfl] at H;exact H
         clear H
         have H:=H1
         clear H1
         by_cases c14:(t118.length:Int) = 2
         ·rw [if_pos c14] at H
          have c14b0:((t118.length:Int) == 2) = true:=beq_iff_eq.mpr c14
          have c14b1:((t118.length:Int) != 2) = false:=bne_eq_false_iff_eq.mpr c14
          clear c14
          by_cases c15:0 < (t118.length:Int)
          ·rw [if_pos c15] at H
           have c15b0:decide (0 < (t118.length:Int)) = true:=decide_eq_true c15
           have c15b1:decide (0 < t118.length) = true:=decide_eq_true (by omega)
           clear c15
           by_cases c16:(((((rd_T41 t118 0).f0.f0).toList) == ([111,105,108]:List UInt8) && (((rd_T41 t118 0).f0.f1) == 1 && (((rd_T41 t118 0).f0.f2) == 9 && (((rd_T41 t118 0).f0.f3) == 0)))) && (((rd_T41 t118 0).f1) == (-2))) = true
           ·rw [if_pos c16] at H
            have c16b0:(((((rd_T41 t118 0).f0.f0).toList) == ([111,105,108]:List UInt8) && (((rd_T41 t118 0).f0.f1) == 1 && (((rd_T41 t118 0).f0.f2) == 9 && (((rd_T41 t118 0).f0.f3) == 0)))) && (((rd_T41 t118 0).f1) == (-2))) = true:=c16
            clear c16
            by_cases c17:1 < (t118.length:Int)
            ·rw [if_pos c17] at H
             have c17b0:decide (1 < (t118.length:Int)) = true:=decide_eq_true c17
             have c17b1:decide (1 < t118.length) = true:=decide_eq_true (by omega)
             clear c17
             obtain rfl:=Option.some.inj H
             go_enter Try.func14,Try.ntmps14
             try go_wp2_with (first|((with_reducible refine gate_callee (f:=21) rfl ?_);refine goesL_ (some 13) rfl rfl Try.func21 (by kernel_rfl) rfl #[.int .i64 2600,.int .i64 1000,.int .i64 9] rfl (by (try simp only [List.map_toArray,List.map_cons,List.map_nil]);first|done|rfl|(simp only [List.length_drop,List.length_take];rfl)) ?_;(with_reducible refine (hedge_Best.calls k 2600 1000 9 t101 t102 _ A1.out).mono ?_);rintro e w18 ⟨rfl,hb⟩;refine ⟨_,rfl,?_⟩;have n0_:=Aside0.mk (below_step (by repeat (first|(with_reducible first|exact HB.out|apply below_alloc|apply pw_below_drewN|apply below_drew1)|exact HB.out)) hb);clear HB;have HB:=n0_;clear n0_;(try clear hb);(try clear hb2);(try clear hk);(try clear hi))|((with_reducible refine gate_callee (f:=21) rfl ?_);refine goesL_ (some 17) rfl rfl Try.func21 (by kernel_rfl) rfl #[.int .i64 2500,.int .i64 1000,.int .i64 9] rfl (by (try simp only [List.map_toArray,List.map_cons,List.map_nil]);first|done|rfl|(simp only [List.length_drop,List.length_take];rfl)) ?_;(with_reducible refine (hedge_Best.calls k 2500 1000 9 t103 t104 _ A2.out).mono ?_);rintro e w19 ⟨rfl,hb⟩;refine ⟨_,rfl,?_⟩;have n0_:=Aside0.mk (below_step (by repeat (first|(with_reducible first|exact HB.out|apply below_alloc|apply pw_below_drewN|apply below_drew1)|exact HB.out)) hb);clear HB;have HB:=n0_;clear n0_;(try clear hb);(try clear hb2);(try clear hk);(try clear hi))|((with_reducible refine gate_callee (f:=21) rfl ?_);refine goesL_ (some 21) rfl rfl Try.func21 (by kernel_rfl) rfl #[.int .i64 2600,.int .i64 (-500),.int .i64 9] rfl (by (try simp only [List.map_toArray,List.map_cons,List.map_nil]);first|done|rfl|(simp only [List.length_drop,List.length_take];rfl)) ?_;(with_reducible refine (hedge_Best.calls k 2600 (-500) 9 t105 t106 _ A3.out).mono ?_);rintro e w20 ⟨rfl,hb⟩;refine ⟨_,rfl,?_⟩;have n0_:=Aside0.mk (below_step (by repeat (first|(with_reducible first|exact HB.out|apply below_alloc|apply pw_below_drewN|apply below_drew1)|exact HB.out)) hb);clear HB;have HB:=n0_;clear n0_;(try clear hb);(try clear hb2);(try clear hk);(try clear hi))|((with_reducible refine gate_dst (N:=7) rfl ?_);(try (refine gate_guard (by rfl) ?_;dsimp only));refine box_event ?hg (N:=7) ?hd (cs:=#[.string (⟨#[]⟩:ByteArray),.int .i64 0,.int .i64 0,.int .i64 0]) (t:=39) ?hr ?_;(case hd=>rfl);(case hg=>rfl);(case hr=>first|(go_simp;done)|(go_simp;rfl));intro gb107 hg w21 hbox hb;have n0_:=Aside0.mk (below_step (by repeat (first|(with_reducible first|exact HB.out|apply below_alloc|apply pw_below_drewN|apply below_drew1)|exact HB.out)) hb);have n1_:=Aside0.mk (hbox);have n2_:=Aside0.mk ((by rw [hg];exact (below_size (by repeat (first|(with_reducible first|exact HB.out|apply below_alloc|apply pw_below_drewN|apply below_drew1)|exact HB.out))):w.heap.size ≤ gb107));have n3_:=Aside0.mk ((by rw [hg];exact (below_size (by repeat (first|(with_reducible first|exact HB.out|apply below_alloc|apply pw_below_drewN|apply below_drew1)|exact HB.out))):w.heap.size ≤ gb107));clear HB;have HB:=n0_;have BK107:=n1_;have GW107:=n2_;have GE107:=n3_;clear n0_ n1_ n2_ n3_;clear hb hbox hg)|((with_reducible refine gate_dst (N:=8) rfl ?_);(try (refine gate_guard (by rfl) ?_;dsimp only));refine box_event ?hg (N:=8) ?hd (cs:=#[.string (⟨#[]⟩:ByteArray),.int .i64 0,.int .i64 0,.int .i64 0]) (t:=39) ?hr ?_;(case hd=>rfl);(case hg=>rfl);(case hr=>first|(go_simp;done)|(go_simp;rfl));intro gb108 hg w22 hbox hb;have n0_:=Aside0.mk (blk_below (g:=gb107) (o:=.cells #[.string (⟨#[]⟩:ByteArray),.int .i64 0,.int .i64 0,.int .i64 0] 39 (0,0)) (by (with_reducible repeat (first|refine blk_drewN ?_ _|refine blk_drew ?_|refine blk_alloc ?_ _));exact BK107.out) hb);have n1_:=Aside0.mk (below_step (by repeat (first|(with_reducible first|exact HB.out|apply below_alloc|apply pw_below_drewN|apply below_drew1|refine below_set ?_ GE107.out)|exact HB.out)) hb);have n2_:=Aside0.mk (hbox);have n3_:=Aside0.mk ((by rw [hg];exact (below_size (by repeat (first|(with_reducible first|exact HB.out|apply below_alloc|apply pw_below_drewN|apply below_drew1|refine below_set ?_ GE107.out)|exact HB.out))):w.heap.size ≤ gb108));have n4_:=Aside0.mk ((by rw [hg];exact (below_size (by repeat (first|(with_reducible first|exact HB.out|apply below_alloc|apply pw_below_drewN|apply below_drew1|refine below_set ?_ GE107.out)|exact HB.out))):w.heap.size ≤ gb108));have n5_:=Aside0.mk ((by rw [hg];exact Nat.ne_of_lt (blk_lt (g:=gb107) (o:=.cells #[.string (⟨#[]⟩:ByteArray),.int .i64 0,.int .i64 0,.int .i64 0] 39 (0,0)) (by (with_reducible repeat (first|refine blk_drewN ?_ _|refine blk_drew ?_|refine blk_alloc ?_ _));exact BK107.out)):gb107 ≠ gb108));have n6_:=Aside0.mk ((by rw [hg];exact Nat.ne_of_gt (blk_lt (g:=gb107) (o:=.cells #[.string (⟨#[]⟩:ByteArray),.int .i64 0,.int .i64 0,.int .i64 0] 39 (0,0)) (by (with_reducible repeat (first|refine blk_drewN ?_ _|refine blk_drew ?_|refine blk_alloc ?_ _));exact BK107.out)):gb108 ≠ gb107));clear BK107;clear HB;have BK107:=n0_;have HB:=n1_;have BK108:=n2_;have GW108:=n3_;have GE108:=n4_;have NB107_108:=n5_;have NB108_107:=n6_;clear n0_ n1_ n2_ n3_ n4_ n5_ n6_;clear hb hbox hg;have hnb23:=NB107_108.out;have hnc23:=NB108_107.out;have hcz24_0:w22.cell? ⟨gb107,0,none⟩ = some (.string (⟨#[]⟩:ByteArray)):=(blk_cell BK107.out 0).trans rfl;have hcz24_1:w22.cell? ⟨gb107,1,none⟩ = some (.int .i64 0):=(blk_cell BK107.out 1).trans rfl;have hcz24_2:w22.cell? ⟨gb107,2,none⟩ = some (.int .i64 0):=(blk_cell BK107.out 2).trans rfl;have hcz24_3:w22.cell? ⟨gb107,3,none⟩ = some (.int .i64 0):=(blk_cell BK107.out 3).trans rfl;have hfz24_0:=blk_frozen BK107.out 0;have hfz24_1:=blk_frozen BK107.out 1;have hfz24_2:=blk_frozen BK107.out 2;have hfz24_3:=blk_frozen BK107.out 3;have hcz25_0:w22.cell? ⟨gb108,0,none⟩ = some (.string (⟨#[]⟩:ByteArray)):=(blk_cell BK108.out 0).trans rfl;have hcz25_1:w22.cell? ⟨gb108,1,none⟩ = some (.int .i64 0):=(blk_cell BK108.out 1).trans rfl;have hcz25_2:w22.cell? ⟨gb108,2,none⟩ = some (.int .i64 0):=(blk_cell BK108.out 2).trans rfl;have hcz25_3:w22.cell? ⟨gb108,3,none⟩ = some (.int .i64 0):=(blk_cell BK108.out 3).trans rfl;have hfz25_0:=blk_frozen BK108.out 0;have hfz25_1:=blk_frozen BK108.out 1;have hfz25_2:=blk_frozen BK108.out 2;have hfz25_3:=blk_frozen BK108.out 3)|((with_reducible refine gate_dst (N:=27) rfl ?_);(try (refine gate_guard (by rfl) ?_;dsimp only));refine Kd.R_lit Kd.string _ 9 ?hg (N:=27) ?hd (xs:=([(⟨#[111,105,108]⟩:ByteArray)]:List ByteArray)) (inner:=[.string (⟨#[111,105,108]⟩:ByteArray)]) (ok:=fun _=>True) (okp:=fun _=>True) ?hr ?hp (fun _ hk=>hk) trivial (Below.refl _ _) (Nat.le_refl _) (by simp) ?_;(case hd=>rfl);(case hg=>rfl);(case hr=>first|(go_simp;done)|(go_simp;rfl));(case hp=>exact (Reps.one (show Kd.M Kd.string _ _ _ (⟨#[111,105,108]⟩:ByteArray) [.string (⟨#[111,105,108]⟩:ByteArray)] from rfl) (Reps.none _ _)));intro v110 w26 ho27 hb hg_ hnew_;clear hg_ hnew_;(first|rw [← Ny109.out] at ho27|(simp only [Int.reduceToNat] at ho27;rw [← Ny109.out] at ho27));have n0_:=Aside0.mk (Kd.R_lower ho27 (below_size (by repeat (first|(with_reducible first|exact HB.out|apply below_alloc|apply pw_below_drewN|apply below_drew1|refine below_set ?_ GE107.out|refine below_set ?_ GE108.out)|exact HB.out))));have n1_:=Aside0.mk (blk_below (g:=gb107) (o:=.cells #[.string (⟨#[111,105,108]⟩:ByteArray),.int .i64 1,.int .i64 9,.int .i64 0] 39 (0,0)) (by (with_reducible repeat (first|refine blk_drewN ?_ _|refine blk_drew ?_|refine blk_alloc ?_ _));refine blk_far ?_ NB107_108.out _;(with_reducible repeat (first|refine blk_drewN ?_ _|refine blk_drew ?_|refine blk_alloc ?_ _));refine blk_far ?_ NB107_108.out _;(with_reducible repeat (first|refine blk_drewN ?_ _|refine blk_drew ?_|refine blk_alloc ?_ _));refine blk_far ?_ NB107_108.out _;(with_reducible repeat (first|refine blk_drewN ?_ _|refine blk_drew ?_|refine blk_alloc ?_ _));refine blk_far ?_ NB107_108.out _;(with_reducible repeat (first|refine blk_drewN ?_ _|refine blk_drew ?_|refine blk_alloc ?_ _));refine blk_put (cs:=#[.string (⟨#[111,105,108]⟩:ByteArray),.int .i64 1,.int .i64 9,.int .i64 0]) ?_ 3 _ rfl;(with_reducible repeat (first|refine blk_drewN ?_ _|refine blk_drew ?_|refine blk_alloc ?_ _));refine blk_put (cs:=#[.string (⟨#[111,105,108]⟩:ByteArray),.int .i64 1,.int .i64 0,.int .i64 0]) ?_ 2 _ rfl;(with_reducible repeat (first|refine blk_drewN ?_ _|refine blk_drew ?_|refine blk_alloc ?_ _));refine blk_put (cs:=#[.string (⟨#[111,105,108]⟩:ByteArray),.int .i64 0,.int .i64 0,.int .i64 0]) ?_ 1 _ rfl;(with_reducible repeat (first|refine blk_drewN ?_ _|refine blk_drew ?_|refine blk_alloc ?_ _));refine blk_put (cs:=#[.string (⟨#[]⟩:ByteArray),.int .i64 0,.int .i64 0,.int .i64 0]) ?_ 0 _ rfl;(with_reducible repeat (first|refine blk_drewN ?_ _|refine blk_drew ?_|refine blk_alloc ?_ _));exact BK107.out) hb);have n2_:=Aside0.mk (blk_below (g:=gb108) (o:=.cells #[.string (⟨#[111,105,108]⟩:ByteArray),.int .i64 1,.int .i64 39,.int .i64 0] 39 (0,0)) (by (with_reducible repeat (first|refine blk_drewN ?_ _|refine blk_drew ?_|refine blk_alloc ?_ _));refine blk_put (cs:=#[.string (⟨#[111,105,108]⟩:ByteArray),.int .i64 1,.int .i64 39,.int .i64 0]) ?_ 3 _ rfl;(with_reducible repeat (first|refine blk_drewN ?_ _|refine blk_drew ?_|refine blk_alloc ?_ _));refine blk_put (cs:=#[.string (⟨#[111,105,108]⟩:ByteArray),.int .i64 1,.int .i64 0,.int .i64 0]) ?_ 2 _ rfl;(with_reducible repeat (first|refine blk_drewN ?_ _|refine blk_drew ?_|refine blk_alloc ?_ _));refine blk_put (cs:=#[.string (⟨#[111,105,108]⟩:ByteArray),.int .i64 0,.int .i64 0,.int .i64 0]) ?_ 1 _ rfl;(with_reducible repeat (first|refine blk_drewN ?_ _|refine blk_drew ?_|refine blk_alloc ?_ _));refine blk_put (cs:=#[.string (⟨#[]⟩:ByteArray),.int .i64 0,.int .i64 0,.int .i64 0]) ?_ 0 _ rfl;(with_reducible repeat (first|refine blk_drewN ?_ _|refine blk_drew ?_|refine blk_alloc ?_ _));refine blk_far ?_ NB108_107.out _;(with_reducible repeat (first|refine blk_drewN ?_ _|refine blk_drew ?_|refine blk_alloc ?_ _));refine blk_far ?_ NB108_107.out _;(with_reducible repeat (first|refine blk_drewN ?_ _|refine blk_drew ?_|refine blk_alloc ?_ _));refine blk_far ?_ NB108_107.out _;(with_reducible repeat (first|refine blk_drewN ?_ _|refine blk_drew ?_|refine blk_alloc ?_ _));refine blk_far ?_ NB108_107.out _;(with_reducible repeat (first|refine blk_drewN ?_ _|refine blk_drew ?_|refine blk_alloc ?_ _));exact BK108.out) hb);have n3_:=Aside0.mk (below_step (by repeat (first|(with_reducible first|exact HB.out|apply below_alloc|apply pw_below_drewN|apply below_drew1|refine below_set ?_ GE107.out|refine below_set ?_ GE108.out)|exact HB.out)) hb);clear BK107;clear BK108;clear HB;have HO111:=n0_;have BK107:=n1_;have BK108:=n2_;have HB:=n3_;clear n0_ n1_ n2_ n3_;clear hb ho27)|((with_reducible refine gate_dst (N:=28) rfl ?_);(try (refine gate_guard (by rfl) ?_;dsimp only));refine Kd.R_lit (Kd.int .i64) _ 3 ?hg (N:=28) ?hd (xs:=([2600]:List Int)) (inner:=[.int .i64 2600]) (ok:=fun _=>True) (okp:=fun _=>True) ?hr ?hp (fun _ hk=>hk) trivial (Below.refl _ _) (Nat.le_refl _) (by simp) ?_;(case hd=>rfl);(case hg=>rfl);(case hr=>first|(go_simp;done)|(go_simp;rfl));(case hp=>exact (Reps.one (show Kd.M (Kd.int .i64) _ _ _ 2600 [.int .i64 2600] from rfl) (Reps.none _ _)));intro v113 w28 ho29 hb hg_ hnew_;clear hg_ hnew_;(first|rw [← Ny112.out] at ho29|(simp only [Int.reduceToNat] at ho29;rw [← Ny112.out] at ho29));have n0_:=Aside0.mk (Kd.R_below (by (with_reducible repeat (first|apply Kd.R_alloc|apply Kd.R_drewN|apply Kd.R_drew));exact HO111.out) hb);have n1_:=Aside0.mk (Kd.R_lower ho29 (below_size (by repeat (first|(with_reducible first|exact HB.out|apply below_alloc|apply pw_below_drewN|apply below_drew1|refine below_set ?_ GE107.out|refine below_set ?_ GE108.out)|exact HB.out))));have n2_:=Aside0.mk (blk_below (g:=gb107) (o:=.cells #[.string (⟨#[111,105,108]⟩:ByteArray),.int .i64 1,.int .i64 9,.int .i64 0] 39 (0,0)) (by (with_reducible repeat (first|refine blk_drewN ?_ _|refine blk_drew ?_|refine blk_alloc ?_ _));exact BK107.out) hb);have n3_:=Aside0.mk (blk_below (g:=gb108) (o:=.cells #[.string (⟨#[111,105,108]⟩:ByteArray),.int .i64 1,.int .i64 39,.int .i64 0] 39 (0,0)) (by (with_reducible repeat (first|refine blk_drewN ?_ _|refine blk_drew ?_|refine blk_alloc ?_ _));exact BK108.out) hb);have n4_:=Aside0.mk (below_step (by repeat (first|(with_reducible first|exact HB.out|apply below_alloc|apply pw_below_drewN|apply below_drew1|refine below_set ?_ GE107.out|refine below_set ?_ GE108.out)|exact HB.out)) hb);clear HO111;clear BK107;clear BK108;clear HB;have HO111:=n0_;have HO114:=n1_;have BK107:=n2_;have BK108:=n3_;have HB:=n4_;clear n0_ n1_ n2_ n3_ n4_;clear hb ho29;have hcz30_0:w28.cell? ⟨gb107,0,none⟩ = some (.string (⟨#[111,105,108]⟩:ByteArray)):=(blk_cell BK107.out 0).trans rfl;have hcz30_1:w28.cell? ⟨gb107,1,none⟩ = some (.int .i64 1):=(blk_cell BK107.out 1).trans rfl;have hcz30_2:w28.cell? ⟨gb107,2,none⟩ = some (.int .i64 9):=(blk_cell BK107.out 2).trans rfl;have hcz30_3:w28.cell? ⟨gb107,3,none⟩ = some (.int .i64 0):=(blk_cell BK107.out 3).trans rfl;have hfz30_0:=blk_frozen BK107.out 0;have hfz30_1:=blk_frozen BK107.out 1;have hfz30_2:=blk_frozen BK107.out 2;have hfz30_3:=blk_frozen BK107.out 3;have hcz31_0:w28.cell? ⟨gb108,0,none⟩ = some (.string (⟨#[111,105,108]⟩:ByteArray)):=(blk_cell BK108.out 0).trans rfl;have hcz31_1:w28.cell? ⟨gb108,1,none⟩ = some (.int .i64 1):=(blk_cell BK108.out 1).trans rfl;have hcz31_2:w28.cell? ⟨gb108,2,none⟩ = some (.int .i64 39):=(blk_cell BK108.out 2).trans rfl;have hcz31_3:w28.cell? ⟨gb108,3,none⟩ = some (.int .i64 0):=(blk_cell BK108.out 3).trans rfl;have hfz31_0:=blk_frozen BK108.out 0;have hfz31_1:=blk_frozen BK108.out 1;have hfz31_2:=blk_frozen BK108.out 2;have hfz31_3:=blk_frozen BK108.out 3)|((with_reducible refine gate_dst (N:=33) rfl ?_);(try (refine gate_guard (by rfl) ?_;dsimp only));refine Kd.R_lit k92 _ 92 ?hg (N:=33) ?hd (xs:=([(⟨(⟨(⟨#[111,105,108]⟩:ByteArray),1,9,0⟩:S39),1000,2⟩:S92),(⟨(⟨(⟨#[111,105,108]⟩:ByteArray),1,39,0⟩:S39),300,9⟩:S92)]:List (S92))) (inner:=[.string (⟨#[111,105,108]⟩:ByteArray),.int .i64 1,.int .i64 9,.int .i64 0,.int .i64 1000,.int .i64 2,.string (⟨#[111,105,108]⟩:ByteArray),.int .i64 1,.int .i64 39,.int .i64 0,.int .i64 300,.int .i64 9]) (ok:=fun _=>True) (okp:=fun _=>True) ?hr ?hp (fun _ hk=>hk) trivial (Below.refl _ _) (Nat.le_refl _) (by simp) ?_;(case hd=>rfl);(case hg=>rfl);(case hr=>first|(go_simp;done)|(go_simp;rfl));(case hp=>exact (Reps.c6 (show Kd.M k92 _ _ _ (⟨(⟨(⟨#[111,105,108]⟩:ByteArray),1,9,0⟩:S39),1000,2⟩:S92) [.string (⟨#[111,105,108]⟩:ByteArray),.int .i64 1,.int .i64 9,.int .i64 0,.int .i64 1000,.int .i64 2] from (k92_mkM _ _ _ (⟨(⟨(⟨#[111,105,108]⟩:ByteArray),1,9,0⟩:S39),1000,2⟩:S92) )) (Reps.c6 (show Kd.M k92 _ _ _ (⟨(⟨(⟨#[111,105,108]⟩:ByteArray),1,39,0⟩:S39),300,9⟩:S92) [.string (⟨#[111,105,108]⟩:ByteArray),.int .i64 1,.int .i64 39,.int .i64 0,.int .i64 300,.int .i64 9] from (k92_mkM _ _ _ (⟨(⟨(⟨#[111,105,108]⟩:ByteArray),1,39,0⟩:S39),300,9⟩:S92) )) (Reps.none _ _))));intro v116 w32 ho33 hb hg_ hnew_;clear hg_ hnew_;(first|rw [← Ny115.out] at ho33|(simp only [Int.reduceToNat] at ho33;rw [← Ny115.out] at ho33));have n0_:=Aside0.mk (Kd.R_below (by (with_reducible repeat (first|apply Kd.R_alloc|apply Kd.R_drewN|apply Kd.R_drew));exact HO111.out) hb);have n1_:=Aside0.mk (Kd.R_below (by (with_reducible repeat (first|apply Kd.R_alloc|apply Kd.R_drewN|apply Kd.R_drew));exact HO114.out) hb);have n2_:=Aside0.mk (Kd.R_lower ho33 (below_size (by repeat (first|(with_reducible first|exact HB.out|apply below_alloc|apply pw_below_drewN|apply below_drew1|refine below_set ?_ GE107.out|refine below_set ?_ GE108.out)|exact HB.out))));have n3_:=Aside0.mk (blk_below (g:=gb107) (o:=.cells #[.string (⟨#[111,105,108]⟩:ByteArray),.int .i64 1,.int .i64 9,.int .i64 0] 39 (0,0)) (by (with_reducible repeat (first|refine blk_drewN ?_ _|refine blk_drew ?_|refine blk_alloc ?_ _));exact BK107.out) hb);have n4_:=Aside0.mk (blk_below (g:=gb108) (o:=.cells #[.string (⟨#[111,105,108]⟩:ByteArray),.int .i64 1,.int .i64 39,.int .i64 0] 39 (0,0)) (by (with_reducible repeat (first|refine blk_drewN ?_ _|refine blk_drew ?_|refine blk_alloc ?_ _));exact BK108.out) hb);have n5_:=Aside0.mk (below_step (by repeat (first|(with_reducible first|exact HB.out|apply below_alloc|apply pw_below_drewN|apply below_drew1|refine below_set ?_ GE107.out|refine below_set ?_ GE108.out)|exact HB.out)) hb);clear HO111;clear HO114;clear BK107;clear BK108;clear HB;have HO111:=n0_;have HO114:=n1_;have HO117:=n2_;have BK107:=n3_;have BK108:=n4_;have HB:=n5_;clear n0_ n1_ n2_ n3_ n4_ n5_;clear hb ho33;obtain ⟨Ao34,co34,eo34⟩:=Kd.R_slice HO111.out;subst eo34;obtain ⟨Ao35,co35,eo35⟩:=Kd.R_slice HO114.out;subst eo35;obtain ⟨Ao36,co36,eo36⟩:=Kd.R_slice HO117.out;subst eo36)|((with_reducible refine gate_callee (f:=15) rfl ?_);refine goesL_ (some 34) rfl rfl Try.func15 (by kernel_rfl) rfl #[.slice Ao34 y109.length co34,.slice Ao35 y112.length co35,.slice Ao36 y115.length co36] rfl (by (try simp only [List.map_toArray,List.map_cons,List.map_nil]);first|done|rfl|(simp only [List.length_drop,List.length_take];rfl)) ?_;(with_reducible refine (hedge_Plan.calls _ _ y109 _ _ y112 _ _ y115 t118 t119 t120 _ ?side1 ?side2 ?side3 ?side4 ?side5 ?side6 A4.out).mono ?_);(case side1=>repeat (first|exact (Kd.R_reads' HO111.out).2.2|(with_reducible refine Kd.C_alloc ?_ _)|(with_reducible refine Kd.C_drewN ?_ _)|(with_reducible refine Kd.C_drew ?_)));(case side2=>exact (Kd.R_reads' HO111.out).2.1);(case side3=>repeat (first|exact (Kd.R_reads' HO114.out).2.2|(with_reducible refine Kd.C_alloc ?_ _)|(with_reducible refine Kd.C_drewN ?_ _)|(with_reducible refine Kd.C_drew ?_)));(case side4=>exact (Kd.R_reads' HO114.out).2.1);(case side5=>repeat (first|exact (Kd.R_reads' HO117.out).2.2|(with_reducible refine Kd.C_alloc ?_ _)|(with_reducible refine Kd.C_drewN ?_ _)|(with_reducible refine Kd.C_drew ?_)));(case side6=>exact (Kd.R_reads' HO117.out).2.1);rintro e w37 ⟨v121,v123,rfl,ho0,ho1,hb⟩;refine ⟨_,rfl,?_⟩;have n0_:=Aside0.mk (Kd.R_below (by (with_reducible repeat (first|apply Kd.R_alloc|apply Kd.R_drewN|apply Kd.R_drew));exact HO111.out) hb);have n1_:=Aside0.mk (Kd.R_elder' (by (with_reducible repeat (first|apply Kd.R_alloc|apply Kd.R_drewN|apply Kd.R_drew));exact HO114.out) (Kd.R_base ho1) hb);have n2_:=Aside0.mk (Kd.R_below (by (with_reducible repeat (first|apply Kd.R_alloc|apply Kd.R_drewN|apply Kd.R_drew));exact HO117.out) hb);have n3_:=Aside0.mk (Kd.R_lower ho0 (below_size (by repeat (first|(with_reducible first|exact HB.out|apply below_alloc|apply pw_below_drewN|apply below_drew1|refine below_set ?_ GE107.out|refine below_set ?_ GE108.out)|exact HB.out))));have n4_:=Aside0.mk (Kd.R_lower (Kd.R_new' ho1 (Kd.R_lt (by (with_reducible repeat (first|apply Kd.R_alloc|apply Kd.R_drewN|apply Kd.R_drew));exact HO114.out))) (below_size (by repeat (first|(with_reducible first|exact HB.out|apply below_alloc|apply pw_below_drewN|apply below_drew1|refine below_set ?_ GE107.out|refine below_set ?_ GE108.out)|exact HB.out))));have n5_:=Aside0.mk (blk_below (g:=gb107) (o:=.cells #[.string (⟨#[111,105,108]⟩:ByteArray),.int .i64 1,.int .i64 9,.int .i64 0] 39 (0,0)) (by (with_reducible repeat (first|refine blk_drewN ?_ _|refine blk_drew ?_|refine blk_alloc ?_ _));exact BK107.out) hb);have n6_:=Aside0.mk (blk_below (g:=gb108) (o:=.cells #[.string (⟨#[111,105,108]⟩:ByteArray),.int .i64 1,.int .i64 39,.int .i64 0] 39 (0,0)) (by (with_reducible repeat (first|refine blk_drewN ?_ _|refine blk_drew ?_|refine blk_alloc ?_ _));exact BK108.out) hb);have n7_:=Aside0.mk (below_step (by repeat (first|(with_reducible first|exact HB.out|apply below_alloc|apply pw_below_drewN|apply below_drew1|refine below_set ?_ GE107.out|refine below_set ?_ GE108.out)|exact HB.out)) hb);clear HO111;clear HO114;clear HO117;clear BK107;clear BK108;clear HB;have HO111:=n0_;have HO114:=n1_;have HO117:=n2_;have HO122:=n3_;have HO124:=n4_;have BK107:=n5_;have BK108:=n6_;have HB:=n7_;clear n0_ n1_ n2_ n3_ n4_ n5_ n6_ n7_;(try clear hb);(try clear hb2);(try clear hk);(try clear hi);(try clear ho0);(try clear ho1)))
             have n0_:=Aside0.mk (Kd.R_drew HO111.out)
             have n1_:=Aside0.mk (Kd.R_drew HO114.out)
             have n2_:=Aside0.mk (Kd.R_drew HO117.out)
             have n3_:=Aside0.mk (Kd.R_drew HO122.out)
             have n4_:=Aside0.mk (Kd.R_drew HO124.out)
             have n5_:=Aside0.mk (blk_drew BK107.out)
             have n6_:=Aside0.mk (blk_drew BK108.out)
             have n7_:=Aside0.mk (below_drew1 HB.out)
             clear HO111
             clear HO114
             clear HO117
             clear HO122
             clear HO124
             clear BK107
             clear BK108
             clear HB
             have HO111:=n0_
             have HO114:=n1_
             have HO117:=n2_
             have HO122:=n3_
             have HO124:=n4_
             have BK107:=n5_
             have BK108:=n6_
             have HB:=n7_
             clear n0_ n1_ n2_ n3_ n4_ n5_ n6_ n7_
             obtain ⟨Aog_,cog_,eog_⟩:=Kd.R_slice HO122.out;subst eog_
             have p129:0 ≤ (0:Int):=(by omega)
             have q129:0 < (t118.length:Int):=of_decide_eq_true (by first|(with_reducible assumption)|assumption)
             obtain ⟨ad129,e129,hx129_0,hx129_1,hx129_2,hx129_3,hx129_4⟩:=at_T41 (Kd.R_reads' HO122.out).2.2 0 p129 q129
             cases e129
             have qi129:(0 < t118.length) = True:=eq_true (by omega)
             (try rw [show ((0:Int)).toNat = 0 from rfl] at hx129_0)
             (try rw [show 0 * 5 = 0 from rfl] at hx129_0)
             (try rw [Addr.add_zero'] at hx129_0)
             (try rw [show ((0:Int)).toNat = 0 from rfl] at hx129_1)
             (try rw [show 0 * 5 = 0 from rfl] at hx129_1)
             (try rw [Addr.add_zero'] at hx129_1)
             (try rw [show ((0:Int)).toNat = 0 from rfl] at hx129_2)
             (try rw [show 0 * 5 = 0 from rfl] at hx129_2)
             (try rw [Addr.add_zero'] at hx129_2)
             (try rw [show ((0:Int)).toNat = 0 from rfl] at hx129_3)
             (try rw [show 0 * 5 = 0 from rfl] at hx129_3)
             (try rw [Addr.add_zero'] at hx129_3)
             (try rw [show ((0:Int)).toNat = 0 from rfl] at hx129_4)
             (try rw [show 0 * 5 = 0 from rfl] at hx129_4)
             (try rw [Addr.add_zero'] at hx129_4)
             replace p129:=eq_true p129
             replace q129:=eq_true q129
             have p130:0 ≤ (1:Int):=(by omega)
             have q130:1 < (t118.length:Int):=of_decide_eq_true (by first|(with_reducible assumption)|assumption)
             obtain ⟨ad130,e130,hx130_0,hx130_1,hx130_2,hx130_3,hx130_4⟩:=at_T41 (Kd.R_reads' HO122.out).2.2 1 p130 q130
             obtain rfl:ad129 = ad130:=(by injection e130)
             (try simp only [show (1:Int).toNat = 1 from rfl,Nat.reduceMul,Nat.reduceEqDiff,Go.Addr.add,↓reduceIte] at hx130_0)
             (try simp only [show (1:Int).toNat = 1 from rfl,Nat.reduceMul,Nat.reduceEqDiff,Go.Addr.add,↓reduceIte] at hx130_1)
             (try simp only [show (1:Int).toNat = 1 from rfl,Nat.reduceMul,Nat.reduceEqDiff,Go.Addr.add,↓reduceIte] at hx130_2)
             (try simp only [show (1:Int).toNat = 1 from rfl,Nat.reduceMul,Nat.reduceEqDiff,Go.Addr.add,↓reduceIte] at hx130_3)
             (try simp only [show (1:Int).toNat = 1 from rfl,Nat.reduceMul,Nat.reduceEqDiff,Go.Addr.add,↓reduceIte] at hx130_4)
             have qi130:(1 < t118.length) = True:=eq_true (by omega)
             (try rw [show ((1:Int)).toNat = 1 from rfl] at hx130_0)
             (try rw [show 1 * 5 = 5 from rfl] at hx130_0)
             (try rw [show ((1:Int)).toNat = 1 from rfl] at hx130_1)
             (try rw [show 1 * 5 = 5 from rfl] at hx130_1)
             (try rw [show ((1:Int)).toNat = 1 from rfl] at hx130_2)
             (try rw [show 1 * 5 = 5 from rfl] at hx130_2)
             (try rw [show ((1:Int)).toNat = 1 from rfl] at hx130_3)
             (try rw [show 1 * 5 = 5 from rfl] at hx130_3)
             (try rw [show ((1:Int)).toNat = 1 from rfl] at hx130_4)
             (try rw [show 1 * 5 = 5 from rfl] at hx130_4)
             replace p130:=eq_true p130
             replace q130:=eq_true q130
             refine start_ (n:=53) (S:=fun w'=>w'.cell? ⟨gb107,0,none⟩ = some (.string (⟨#[111,105,108]⟩:ByteArray)) ∧ w'.cell? ⟨gb107,1,none⟩ = some (.int .i64 1) ∧ w'.cell? ⟨gb107,2,none⟩ = some (.int .i64 9) ∧ w'.cell? ⟨gb107,3,none⟩ = some (.int .i64 0) ∧ w'.cell? ⟨gb108,0,none⟩ = some (.string (⟨#[111,105,108]⟩:ByteArray)) ∧ w'.cell? ⟨gb108,1,none⟩ = some (.int .i64 1) ∧ w'.cell? ⟨gb108,2,none⟩ = some (.int .i64 39) ∧ w'.cell? ⟨gb108,3,none⟩ = some (.int .i64 0) ∧ w'.cell? ad129 = some (.string ((rd_T41 t118 0).f0.f0)) ∧ w'.cell? ⟨ad129.block,ad129.off + 1,none⟩ = some (.int .i64 ((rd_T41 t118 0).f0.f1)) ∧ w'.cell? ⟨ad129.block,ad129.off + 2,none⟩ = some (.int .i64 ((rd_T41 t118 0).f0.f2)) ∧ w'.cell? ⟨ad129.block,ad129.off + 3,none⟩ = some (.int .i64 ((rd_T41 t118 0).f0.f3)) ∧ w'.cell? ⟨ad129.block,ad129.off + 4,none⟩ = some (.int .i64 ((rd_T41 t118 0).f1)) ∧ w'.cell? ⟨ad129.block,ad129.off + 5,none⟩ = some (.string ((rd_T41 t118 1).f0.f0)) ∧ w'.cell? ⟨ad129.block,ad129.off + 5 + 1,none⟩ = some (.int .i64 ((rd_T41 t118 1).f0.f1)) ∧ w'.cell? ⟨ad129.block,ad129.off + 5 + 2,none⟩ = some (.int .i64 ((rd_T41 t118 1).f0.f2)) ∧ w'.cell? ⟨ad129.block,ad129.off + 5 + 3,none⟩ = some (.int .i64 ((rd_T41 t118 1).f0.f3)) ∧ w'.cell? ⟨ad129.block,ad129.off + 5 + 4,none⟩ = some (.int .i64 ((rd_T41 t118 1).f1))) (ds:=[]) #[Z,Z,Z,Z,Z,Z,Z,Z,Z,Z,Z,Z,Z,Z,Z,Z,Z,Z,Z,Z,Z,Z,Z,Z,Z,Z,Z,Z,Z,Z,Z,Z,Z,Z,Z,Z,Z,Z,Z,Z,Z,Z,Z,Z,Z,Z,Z,Z,Z,Z,Z,Z,Z] (by kernel_rfl) rfl rfl ⟨(blk_cell BK107.out 0).trans rfl,(blk_cell BK107.out 1).trans rfl,(blk_cell BK107.out 2).trans rfl,(blk_cell BK107.out 3).trans rfl,(blk_cell BK108.out 0).trans rfl,(blk_cell BK108.out 1).trans rfl,(blk_cell BK108.out 2).trans rfl,(blk_cell BK108.out 3).trans rfl,hx129_0,hx129_1,hx129_2,hx129_3,hx129_4,hx130_0,hx130_1,hx130_2,hx130_3,hx130_4⟩ (fun hHeld=>?_);refine with_tabW contangolaw43_goes.tab6 contangolaw43_goes.bits6 (fun HT_ HW_=>?_)
             generalize w37.drew = w38 at HO111 HO114 HO117 HO122 HO124 BK107 BK108 HB hx129_0 hx129_1 hx129_2 hx129_3 hx129_4 hx130_0 hx130_1 hx130_2 hx130_3 hx130_4 hHeld ⊢
             refine pure_ (i:=0) (N:=some 38) (v:=?_) (a':=?_) #[Y,Z,Z,Z,Z,Z,Z,Z,Z,Z,Z,Z,Z,Z,Z,Z,Z,Z,Z,Z,Z,Z,Z,Z,Z,Z,Z,Z,Z,Z,Z,Z,Z,Z,Z,Z,Z,Z,Z,Z,Z,Z,Z,Z,Z,Z,Z,Z,Z,Z,Z,Z,Z] rfl rfl (any_of HT_.out (by kernel_rfl)) (fun _ _ _ h=>h) (Or.inl ⟨by rfl,?_⟩) ?_ ?_
             rotate_left
             ·intro w'
              go_simp
              with_reducible rfl
             rotate_left
             ·simp only [Act.put,List.setIfInBounds_toArray,List.set_cons_zero,List.set_cons_succ,i64_w,i32_w]
              rfl
             refine pure_ (i:=1) (N:=some 39) (v:=?_) (a':=?_) #[Y,Y,Z,Z,Z,Z,Z,Z,Z,Z,Z,Z,Z,Z,Z,Z,Z,Z,Z,Z,Z,Z,Z,Z,Z,Z,Z,Z,Z,Z,Z,Z,Z,Z,Z,Z,Z,Z,Z,Z,Z,Z,Z,Z,Z,Z,Z,Z,Z,Z,Z,Z,Z] rfl rfl (any_of HT_.out (by kernel_rfl)) (fun _ _ _ h=>h) (Or.inl ⟨by rfl,?_⟩) ?_ ?_
             rotate_left
             ·intro w'
              go_simp
              with_reducible rfl
             rotate_left
             ·simp only [Act.put,List.setIfInBounds_toArray,List.set_cons_zero,List.set_cons_succ,i64_w,i32_w]
              rfl
             refine pure_ (i:=2) (N:=some 40) (v:=?_) (a':=?_) #[Y,Y,Y,Z,Z,Z,Z,Z,Z,Z,Z,Z,Z,Z,Z,Z,Z,Z,Z,Z,Z,Z,Z,Z,Z,Z,Z,Z,Z,Z,Z,Z,Z,Z,Z,Z,Z,Z,Z,Z,Z,Z,Z,Z,Z,Z,Z,Z,Z,Z,Z,Z,Z] rfl rfl (any_of HT_.out (by kernel_rfl)) (fun _ _ _ h=>h) (Or.inl ⟨by rfl,?_⟩) ?_ ?_
             rotate_left
             ·intro w'
              go_simp
              with_reducible rfl
             rotate_left
             ·simp only [Act.put,List.setIfInBounds_toArray,List.set_cons_zero,List.set_cons_succ,i64_w,i32_w]
              rfl
             refine pure_ (i:=3) (N:=some 41) (v:=?_) (a':=?_) #[Y,Y,Y,Y,Z,Z,Z,Z,Z,Z,Z,Z,Z,Z,Z,Z,Z,Z,Z,Z,Z,Z,Z,Z,Z,Z,Z,Z,Z,Z,Z,Z,Z,Z,Z,Z,Z,Z,Z,Z,Z,Z,Z,Z,Z,Z,Z,Z,Z,Z,Z,Z,Z] rfl rfl (any_of HT_.out (by kernel_rfl)) (fun _ _ _ h=>h) (Or.inl ⟨by rfl,?_⟩) ?_ ?_
             rotate_left
             ·intro w'
              go_simp
              with_reducible rfl
             rotate_left
             ·simp only [Act.put,List.setIfInBounds_toArray,List.set_cons_zero,List.set_cons_succ,i64_w,i32_w]
              rfl
             refine pure_ (i:=4) (N:=some 42) (v:=?_) (a':=?_) #[Y,Y,Y,Y,Y,Z,Z,Z,Z,Z,Z,Z,Z,Z,Z,Z,Z,Z,Z,Z,Z,Z,Z,Z,Z,Z,Z,Z,Z,Z,Z,Z,Z,Z,Z,Z,Z,Z,Z,Z,Z,Z,Z,Z,Z,Z,Z,Z,Z,Z,Z,Z,Z] rfl rfl (any_of HT_.out (by kernel_rfl)) (fun _ _ _ h=>h) (Or.inl ⟨by rfl,?_⟩) ?_ ?_
             rotate_left
             ·intro w'
              go_simp
              with_reducible rfl
             rotate_left
             ·simp only [Act.put,List.setIfInBounds_toArray,List.set_cons_zero,List.set_cons_succ,i64_w,i32_w]
              rfl
             refine pure_ (i:=5) (N:=some 43) (v:=?_) (a':=?_) #[Y,Y,Y,Y,Y,Y,Z,Z,Z,Z,Z,Z,Z,Z,Z,Z,Z,Z,Z,Z,Z,Z,Z,Z,Z,Z,Z,Z,Z,Z,Z,Z,Z,Z,Z,Z,Z,Z,Z,Z,Z,Z,Z,Z,Z,Z,Z,Z,Z,Z,Z,Z,Z] rfl rfl (any_of HT_.out (by kernel_rfl)) (fun _ _ _ h=>h) (Or.inl ⟨by rfl,?_⟩) ?_ ?_
             rotate_left
             ·intro w'
              go_simp
              with_reducible rfl
             rotate_left
             ·simp only [Act.put,List.setIfInBounds_toArray,List.set_cons_zero,List.set_cons_succ,i64_w,i32_w]
              rfl
             refine pure_ (i:=6) (N:=some 44) (v:=?_) (a':=?_) #[Y,Y,Y,Y,Y,Y,Y,Z,Z,Z,Z,Z,Z,Z,Z,Z,Z,Z,Z,Z,Z,Z,Z,Z,Z,Z,Z,Z,Z,Z,Z,Z,Z,Z,Z,Z,Z,Z,Z,Z,Z,Z,Z,Z,Z,Z,Z,Z,Z,Z,Z,Z,Z] rfl rfl (any_of HT_.out (by kernel_rfl)) (fun _ _ _ h=>h) (Or.inl ⟨by rfl,?_⟩) ?_ ?_
             rotate_left
             ·intro w'
              go_simp
              with_reducible rfl
             rotate_left
             ·simp only [Act.put,List.setIfInBounds_toArray,List.set_cons_zero,List.set_cons_succ,i64_w,i32_w]
              rfl
             refine pure_ (i:=7) (N:=some 45) (v:=?_) (a':=?_) #[Y,Y,Y,Y,Y,Y,Y,Y,Z,Z,Z,Z,Z,Z,Z,Z,Z,Z,Z,Z,Z,Z,Z,Z,Z,Z,Z,Z,Z,Z,Z,Z,Z,Z,Z,Z,Z,Z,Z,Z,Z,Z,Z,Z,Z,Z,Z,Z,Z,Z,Z,Z,Z] rfl rfl (any_of HT_.out (by kernel_rfl)) (fun _ _ _ h=>h) (Or.inl ⟨by rfl,?_⟩) ?_ ?_
             rotate_left
             ·intro w'
              go_simp
              with_reducible rfl
             rotate_left
             ·simp only [Act.put,List.setIfInBounds_toArray,List.set_cons_zero,List.set_cons_succ,i64_w,i32_w]
              rfl
             refine pure_ (i:=8) (N:=some 46) (v:=?_) (a':=?_) #[Y,Y,Y,Y,Y,Y,Y,Y,Y,Z,Z,Z,Z,Z,Z,Z,Z,Z,Z,Z,Z,Z,Z,Z,Z,Z,Z,Z,Z,Z,Z,Z,Z,Z,Z,Z,Z,Z,Z,Z,Z,Z,Z,Z,Z,Z,Z,Z,Z,Z,Z,Z,Z] rfl rfl (any_of HT_.out (by kernel_rfl)) (fun _ _ _ h=>h) (Or.inl ⟨by rfl,?_⟩) ?_ ?_
             rotate_left
             ·intro w'
              go_simp
              with_reducible rfl
             rotate_left
             ·simp only [Act.put,List.setIfInBounds_toArray,List.set_cons_zero,List.set_cons_succ,i64_w,i32_w]
              rfl
             refine pure_ (i:=9) (N:=some 47) (v:=?_) (a':=?_) #[Y,Y,Y,Y,Y,Y,Y,Y,Y,Y,Z,Z,Z,Z,Z,Z,Z,Z,Z,Z,Z,Z,Z,Z,Z,Z,Z,Z,Z,Z,Z,Z,Z,Z,Z,Z,Z,Z,Z,Z,Z,Z,Z,Z,Z,Z,Z,Z,Z,Z,Z,Z,Z] rfl rfl (any_of HT_.out (by kernel_rfl)) (fun _ _ _ h=>h) (Or.inl ⟨by rfl,?_⟩) ?_ ?_
             rotate_left
             ·intro w'
              go_simp
              with_reducible rfl
             rotate_left
             ·simp only [Act.put,List.setIfInBounds_toArray,List.set_cons_zero,List.set_cons_succ,i64_w,i32_w]
              rfl
             refine pure_ (i:=10) (N:=some 48) (v:=?_) (a':=?_) #[Y,Y,Y,Y,Y,Y,Y,Y,Y,Y,Y,Z,Z,Z,Z,Z,Z,Z,Z,Z,Z,Z,Z,Z,Z,Z,Z,Z,Z,Z,Z,Z,Z,Z,Z,Z,Z,Z,Z,Z,Z,Z,Z,Z,Z,Z,Z,Z,Z,Z,Z,Z,Z] rfl rfl (any_of HT_.out (by kernel_rfl)) (fun _ _ _ h=>h) (Or.inl ⟨by rfl,?_⟩) ?_ ?_
             rotate_left
             ·intro w'
              go_simp
              with_reducible rfl
             rotate_left
             ·simp only [Act.put,List.setIfInBounds_toArray,List.set_cons_zero,List.set_cons_succ,i64_w,i32_w]
              rfl
             refine pure_ (i:=11) (N:=some 49) (v:=?_) (a':=?_) #[Y,Y,Y,Y,Y,Y,Y,Y,Y,Y,Y,Y,Z,Z,Z,Z,Z,Z,Z,Z,Z,Z,Z,Z,Z,Z,Z,Z,Z,Z,Z,Z,Z,Z,Z,Z,Z,Z,Z,Z,Z,Z,Z,Z,Z,Z,Z,Z,Z,Z,Z,Z,Z] rfl rfl (any_of HT_.out (by kernel_rfl)) (fun _ _ _ h=>h) (Or.inl ⟨by rfl,?_⟩) ?_ ?_
             rotate_left
             ·intro w'
              go_simp
              with_reducible rfl
             rotate_left
             ·simp only [Act.put,List.setIfInBounds_toArray,List.set_cons_zero,List.set_cons_succ,i64_w,i32_w]
              rfl
             refine pure_ (i:=12) (N:=some 50) (v:=?_) (a':=?_) #[Y,Y,Y,Y,Y,Y,Y,Y,Y,Y,Y,Y,Y,Z,Z,Z,Z,Z,Z,Z,Z,Z,Z,Z,Z,Z,Z,Z,Z,Z,Z,Z,Z,Z,Z,Z,Z,Z,Z,Z,Z,Z,Z,Z,Z,Z,Z,Z,Z,Z,Z,Z,Z] rfl rfl (any_of HT_.out (by kernel_rfl)) (fun _ _ _ h=>h) (Or.inl ⟨by rfl,?_⟩) ?_ ?_
             rotate_left
             ·intro w'
              go_simp
              with_reducible rfl
             rotate_left
             ·simp only [Act.put,List.setIfInBounds_toArray,List.set_cons_zero,List.set_cons_succ,i64_w,i32_w]
              rfl
             refine pure_ (i:=13) (N:=some 51) (v:=?_) (a':=?_) #[Y,Y,Y,Y,Y,Y,Y,Y,Y,Y,Y,Y,Y,Y,Z,Z,Z,Z,Z,Z,Z,Z,Z,Z,Z,Z,Z,Z,Z,Z,Z,Z,Z,Z,Z,Z,Z,Z,Z,Z,Z,Z,Z,Z,Z,Z,Z,Z,Z,Z,Z,Z,Z] rfl rfl (any_of HT_.out (by kernel_rfl)) (fun _ _ _ h=>h) (Or.inl ⟨by rfl,?_⟩) ?_ ?_
             rotate_left
             ·intro w'
              go_simp
              with_reducible rfl
             rotate_left
             ·simp only [Act.put,List.setIfInBounds_toArray,List.set_cons_zero,List.set_cons_succ,i64_w,i32_w]
              rfl
             refine pure_ (i:=14) (N:=some 52) (v:=?_) (a':=?_) #[Y,Y,Y,Y,Y,Y,Y,Y,Y,Y,Y,Y,Y,Y,Y,Z,Z,Z,Z,Z,Z,Z,Z,Z,Z,Z,Z,Z,Z,Z,Z,Z,Z,Z,Z,Z,Z,Z,Z,Z,Z,Z,Z,Z,Z,Z,Z,Z,Z,Z,Z,Z,Z] rfl rfl (any_of HT_.out (by kernel_rfl)) (fun _ _ _ h=>h) (Or.inl ⟨by rfl,?_⟩) ?_ ?_
             rotate_left
             ·intro w'
              go_simp
              with_reducible rfl
             rotate_left
             ·simp only [Act.put,List.setIfInBounds_toArray,List.set_cons_zero,List.set_cons_succ,i64_w,i32_w]
              rfl
             refine pure_ (i:=15) (N:=some 53) (v:=?_) (a':=?_) #[Y,Y,Y,Y,Y,Y,Y,Y,Y,Y,Y,Y,Y,Y,Y,Y,Z,Z,Z,Z,Z,Z,Z,Z,Z,Z,Z,Z,Z,Z,Z,Z,Z,Z,Z,Z,Z,Z,Z,Z,Z,Z,Z,Z,Z,Z,Z,Z,Z,Z,Z,Z,Z] rfl rfl (any_of HT_.out (by kernel_rfl)) (fun _ _ _ h=>h) (Or.inl ⟨by rfl,?_⟩) ?_ ?_
             rotate_left
             ·intro w'
              go_simp
              with_reducible rfl
             rotate_left
             ·simp only [Act.put,List.setIfInBounds_toArray,List.set_cons_zero,List.set_cons_succ,i64_w,i32_w]
              rfl
             refine pure_ (i:=16) (N:=some 54) (v:=?_) (a':=?_) #[Y,Y,Y,Y,Y,Y,Y,Y,Y,Y,Y,Y,Y,Y,Y,Y,Y,Z,Z,Z,Z,Z,Z,Z,Z,Z,Z,Z,Z,Z,Z,Z,Z,Z,Z,Z,Z,Z,Z,Z,Z,Z,Z,Z,Z,Z,Z,Z,Z,Z,Z,Z,Z] rfl rfl (any_of HT_.out (by kernel_rfl)) (fun _ _ _ h=>h) (Or.inl ⟨by rfl,?_⟩) ?_ ?_
             rotate_left
             ·intro w'
              go_simp
              with_reducible rfl
             rotate_left
             ·simp only [Act.put,List.setIfInBounds_toArray,List.set_cons_zero,List.set_cons_succ,i64_w,i32_w]
              rfl
             refine pure_ (i:=17) (N:=some 55) (v:=?_) (a':=?_) #[Y,Y,Y,Y,Y,Y,Y,Y,Y,Y,Y,Y,Y,Y,Y,Y,Y,Y,Z,Z,Z,Z,Z,Z,Z,Z,Z,Z,Z,Z,Z,Z,Z,Z,Z,Z,Z,Z,Z,Z,Z,Z,Z,Z,Z,Z,Z,Z,Z,Z,Z,Z,Z] rfl rfl (any_of HT_.out (by kernel_rfl)) (fun _ _ _ h=>h) (Or.inl ⟨by rfl,?_⟩) ?_ ?_
             rotate_left
             ·intro w'
              go_simp
              with_reducible rfl
             rotate_left
             ·simp only [Act.put,List.setIfInBounds_toArray,List.set_cons_zero,List.set_cons_succ,i64_w,i32_w]
              rfl
             refine pure_ (i:=18) (N:=some 56) (v:=?_) (a':=?_) #[Y,Y,Y,Y,Y,Y,Y,Y,Y,Y,Y,Y,Y,Y,Y,Y,Y,Y,Y,Z,Z,Z,Z,Z,Z,Z,Z,Z,Z,Z,Z,Z,Z,Z,Z,Z,Z,Z,Z,Z,Z,Z,Z,Z,Z,Z,Z,Z,Z,Z,Z,Z,Z] rfl rfl (any_of HT_.out (by kernel_rfl)) (fun _ _ _ h=>h) (Or.inl ⟨by rfl,?_⟩) ?_ ?_
             rotate_left
             ·intro w'
              go_simp
              with_reducible rfl
             rotate_left
             ·simp only [Act.put,List.setIfInBounds_toArray,List.set_cons_zero,List.set_cons_succ,i64_w,i32_w]
              rfl
             refine pure_ (i:=19) (N:=some 57) (v:=?_) (a':=?_) #[Y,Y,Y,Y,Y,Y,Y,Y,Y,Y,Y,Y,Y,Y,Y,Y,Y,Y,Y,Y,Z,Z,Z,Z,Z,Z,Z,Z,Z,Z,Z,Z,Z,Z,Z,Z,Z,Z,Z,Z,Z,Z,Z,Z,Z,Z,Z,Z,Z,Z,Z,Z,Z] rfl rfl (any_of HT_.out (by kernel_rfl)) (fun _ _ _ h=>h) (Or.inl ⟨by rfl,?_⟩) ?_ ?_
             rotate_left
             ·intro w'
              go_simp
              with_reducible rfl
             rotate_left
             ·simp only [Act.put,List.setIfInBounds_toArray,List.set_cons_zero,List.set_cons_succ,i64_w,i32_w]
              rfl
             refine pure_ (i:=20) (N:=some 58) (v:=?_) (a':=?_) #[Y,Y,Y,Y,Y,Y,Y,Y,Y,Y,Y,Y,Y,Y,Y,Y,Y,Y,Y,Y,Y,Z,Z,Z,Z,Z,Z,Z,Z,Z,Z,Z,Z,Z,Z,Z,Z,Z,Z,Z,Z,Z,Z,Z,Z,Z,Z,Z,Z,Z,Z,Z,Z] rfl rfl (any_of HT_.out (by kernel_rfl)) (fun _ _ _ h=>h) (Or.inl ⟨by rfl,?_⟩) ?_ ?_
             rotate_left
             ·intro w'
              go_simp
              with_reducible rfl
             rotate_left
             ·simp only [Act.put,List.setIfInBounds_toArray,List.set_cons_zero,List.set_cons_succ,i64_w,i32_w]
              rfl
             refine pure_ (i:=21) (N:=some 59) (v:=?_) (a':=?_) #[Y,Y,Y,Y,Y,Y,Y,Y,Y,Y,Y,Y,Y,Y,Y,Y,Y,Y,Y,Y,Y,Y,Z,Z,Z,Z,Z,Z,Z,Z,Z,Z,Z,Z,Z,Z,Z,Z,Z,Z,Z,Z,Z,Z,Z,Z,Z,Z,Z,Z,Z,Z,Z] rfl rfl (any_of HT_.out (by kernel_rfl)) (fun _ _ _ h=>h) (Or.inl ⟨by rfl,?_⟩) ?_ ?_
             rotate_left
             ·intro w'
              go_simp
              with_reducible rfl
             rotate_left
             ·simp only [Act.put,List.setIfInBounds_toArray,List.set_cons_zero,List.set_cons_succ,i64_w,i32_w]
              rfl
             refine pure_ (i:=22) (N:=some 60) (v:=?_) (a':=?_) #[Y,Y,Y,Y,Y,Y,Y,Y,Y,Y,Y,Y,Y,Y,Y,Y,Y,Y,Y,Y,Y,Y,Y,Z,Z,Z,Z,Z,Z,Z,Z,Z,Z,Z,Z,Z,Z,Z,Z,Z,Z,Z,Z,Z,Z,Z,Z,Z,Z,Z,Z,Z,Z] rfl rfl (any_of HT_.out (by kernel_rfl)) (fun _ _ _ h=>h) (Or.inl ⟨by rfl,?_⟩) ?_ ?_
             rotate_left
             ·intro w'
              go_simp
              with_reducible rfl
             rotate_left
             ·simp only [Act.put,List.setIfInBounds_toArray,List.set_cons_zero,List.set_cons_succ,i64_w,i32_w]
              rfl
             refine pure_ (i:=23) (N:=some 61) (v:=?_) (a':=?_) #[Y,Y,Y,Y,Y,Y,Y,Y,Y,Y,Y,Y,Y,Y,Y,Y,Y,Y,Y,Y,Y,Y,Y,Y,Z,Z,Z,Z,Z,Z,Z,Z,Z,Z,Z,Z,Z,Z,Z,Z,Z,Z,Z,Z,Z,Z,Z,Z,Z,Z,Z,Z,Z] rfl rfl (any_of HT_.out (by kernel_rfl)) (fun _ _ _ h=>h) (Or.inl ⟨by rfl,?_⟩) ?_ ?_
             rotate_left
             ·intro w'
              go_simp
              with_reducible rfl
             rotate_left
             ·simp only [Act.put,List.setIfInBounds_toArray,List.set_cons_zero,List.set_cons_succ,i64_w,i32_w]
              rfl
             refine pure_ (i:=24) (N:=some 62) (v:=?_) (a':=?_) #[Y,Y,Y,Y,Y,Y,Y,Y,Y,Y,Y,Y,Y,Y,Y,Y,Y,Y,Y,Y,Y,Y,Y,Y,Y,Z,Z,Z,Z,Z,Z,Z,Z,Z,Z,Z,Z,Z,Z,Z,Z,Z,Z,Z,Z,Z,Z,Z,Z,Z,Z,Z,Z] rfl rfl (any_of HT_.out (by kernel_rfl)) (fun _ _ _ h=>h) (Or.inl ⟨by rfl,?_⟩) ?_ ?_
             rotate_left
             ·intro w'
              go_simp
              with_reducible rfl
             rotate_left
             ·simp only [Act.put,List.setIfInBounds_toArray,List.set_cons_zero,List.set_cons_succ,i64_w,i32_w]
              rfl
             refine pure_ (i:=25) (N:=some 63) (v:=?_) (a':=?_) #[Y,Y,Y,Y,Y,Y,Y,Y,Y,Y,Y,Y,Y,Y,Y,Y,Y,Y,Y,Y,Y,Y,Y,Y,Y,Y,Z,Z,Z,Z,Z,Z,Z,Z,Z,Z,Z,Z,Z,Z,Z,Z,Z,Z,Z,Z,Z,Z,Z,Z,Z,Z,Z] rfl rfl (any_of HT_.out (by kernel_rfl)) (fun _ _ _ h=>h) (Or.inl ⟨by rfl,?_⟩) ?_ ?_
             rotate_left
             ·intro w'
              go_simp
              with_reducible rfl
             rotate_left
             ·simp only [Act.put,List.setIfInBounds_toArray,List.set_cons_zero,List.set_cons_succ,i64_w,i32_w]
              rfl
             refine pure_ (i:=26) (N:=some 64) (v:=?_) (a':=?_) #[Y,Y,Y,Y,Y,Y,Y,Y,Y,Y,Y,Y,Y,Y,Y,Y,Y,Y,Y,Y,Y,Y,Y,Y,Y,Y,Y,Z,Z,Z,Z,Z,Z,Z,Z,Z,Z,Z,Z,Z,Z,Z,Z,Z,Z,Z,Z,Z,Z,Z,Z,Z,Z] rfl rfl (any_of HT_.out (by kernel_rfl)) (fun _ _ _ h=>h) (Or.inl ⟨by rfl,?_⟩) ?_ ?_
             rotate_left
             ·intro w'
              go_simp
              with_reducible rfl
             rotate_left
             ·simp only [Act.put,List.setIfInBounds_toArray,List.set_cons_zero,List.set_cons_succ,i64_w,i32_w]
              rfl
             refine pure_ (i:=27) (N:=some 65) (v:=?_) (a':=?_) #[Y,Y,Y,Y,Y,Y,Y,Y,Y,Y,Y,Y,Y,Y,Y,Y,Y,Y,Y,Y,Y,Y,Y,Y,Y,Y,Y,Y,Z,Z,Z,Z,Z,Z,Z,Z,Z,Z,Z,Z,Z,Z,Z,Z,Z,Z,Z,Z,Z,Z,Z,Z,Z] rfl rfl (any_of HT_.out (by kernel_rfl)) (fun _ _ _ h=>h) (Or.inl ⟨by rfl,?_⟩) ?_ ?_
             rotate_left
             ·intro w'
              go_simp
              with_reducible rfl
             rotate_left
             ·simp only [Act.put,List.setIfInBounds_toArray,List.set_cons_zero,List.set_cons_succ,i64_w,i32_w]
              rfl
             refine one_ (i:=28) (N:=some 66) #[Y,Y,Y,Y,Y,Y,Y,Y,Y,Y,Y,Y,Y,Y,Y,Y,Y,Y,Y,Y,Y,Y,Y,Y,Y,Y,Y,Y,Y,Z,Z,Z,Z,Z,Z,Z,Z,Z,Z,Z,Z,Z,Z,Z,Z,Z,Z,Z,Z,Z,Z,Z,Z] rfl rfl (one_of HT_.out (by kernel_rfl)) (by decide) (fun K hK=>?_)
             refine Kd.R_lit_step (Kd.int .i64) _ 3 ?hg (N:=66) ?hd (xs:=([0]:List Int)) (inner:=[.int .i64 0]) (ok:=fun _=>True) (okp:=fun _=>True) ?hr ?hp (fun _ hk=>hk) trivial (Below.refl _ _) (Nat.le_refl _) (by simp) ?_;(case hd=>rfl);(case hg=>rfl);(case hr=>first|(go_simp;done)|(go_simp;rfl));(case hp=>exact (Reps.one (show Kd.M (Kd.int .i64) _ _ _ 0 [.int .i64 0] from rfl) (Reps.none _ _)))
             intro v126 w39 ho40 hb hg_ hnew_
             have HS8_:=(hb.cell (World.block_lt_of_cell? _ _ (hHeld.2.2.2.2.2.2.2.2.1))).trans (hHeld.2.2.2.2.2.2.2.2.1)
             have HS9_:=(hb.cell (World.block_lt_of_cell? _ _ (hHeld.2.2.2.2.2.2.2.2.2.1))).trans (hHeld.2.2.2.2.2.2.2.2.2.1)
             have HS10_:=(hb.cell (World.block_lt_of_cell? _ _ (hHeld.2.2.2.2.2.2.2.2.2.2.1))).trans (hHeld.2.2.2.2.2.2.2.2.2.2.1)
             have HS11_:=(hb.cell (World.block_lt_of_cell? _ _ (hHeld.2.2.2.2.2.2.2.2.2.2.2.1))).trans (hHeld.2.2.2.2.2.2.2.2.2.2.2.1)
             have HS12_:=(hb.cell (World.block_lt_of_cell? _ _ (hHeld.2.2.2.2.2.2.2.2.2.2.2.2.1))).trans (hHeld.2.2.2.2.2.2.2.2.2.2.2.2.1)
             have HS13_:=(hb.cell (World.block_lt_of_cell? _ _ (hHeld.2.2.2.2.2.2.2.2.2.2.2.2.2.1))).trans (hHeld.2.2.2.2.2.2.2.2.2.2.2.2.2.1)
             have HS14_:=(hb.cell (World.block_lt_of_cell? _ _ (hHeld.2.2.2.2.2.2.2.2.2.2.2.2.2.2.1))).trans (hHeld.2.2.2.2.2.2.2.2.2.2.2.2.2.2.1)
             have HS15_:=(hb.cell (World.block_lt_of_cell? _ _ (hHeld.2.2.2.2.2.2.2.2.2.2.2.2.2.2.2.1))).trans (hHeld.2.2.2.2.2.2.2.2.2.2.2.2.2.2.2.1)
             have HS16_:=(hb.cell (World.block_lt_of_cell? _ _ (hHeld.2.2.2.2.2.2.2.2.2.2.2.2.2.2.2.2.1))).trans (hHeld.2.2.2.2.2.2.2.2.2.2.2.2.2.2.2.2.1)
             have HS17_:=(hb.cell (World.block_lt_of_cell? _ _ (hHeld.2.2.2.2.2.2.2.2.2.2.2.2.2.2.2.2.2))).trans (hHeld.2.2.2.2.2.2.2.2.2.2.2.2.2.2.2.2.2)
             clear hg_ hnew_
             (first|rw [← Ny125.out] at ho40|(simp only [Int.reduceToNat] at ho40;rw [← Ny125.out] at ho40))
             have n0_:=Aside0.mk (Kd.R_below (by (with_reducible repeat (first|apply Kd.R_alloc|apply Kd.R_drewN|apply Kd.R_drew));exact HO111.out) hb)
             have n1_:=Aside0.mk (Kd.R_elder' (by (with_reducible repeat (first|apply Kd.R_alloc|apply Kd.R_drewN|apply Kd.R_drew));exact HO114.out) (Kd.R_base ho40) hb)
             have n2_:=Aside0.mk (Kd.R_below (by (with_reducible repeat (first|apply Kd.R_alloc|apply Kd.R_drewN|apply Kd.R_drew));exact HO117.out) hb)
             have n3_:=Aside0.mk (Kd.R_below (by (with_reducible repeat (first|apply Kd.R_alloc|apply Kd.R_drewN|apply Kd.R_drew));exact HO122.out) hb)
             have n4_:=Aside0.mk (Kd.R_elder' (by (with_reducible repeat (first|apply Kd.R_alloc|apply Kd.R_drewN|apply Kd.R_drew));exact HO124.out) (Kd.R_base ho40) hb)
             have n5_:=Aside0.mk (Kd.R_lower (Kd.R_new' (Kd.R_new' ho40 (Kd.R_lt (by (with_reducible repeat (first|apply Kd.R_alloc|apply Kd.R_drewN|apply Kd.R_drew));exact HO114.out))) (Kd.R_lt (by (with_reducible repeat (first|apply Kd.R_alloc|apply Kd.R_drewN|apply Kd.R_drew));exact HO124.out))) (below_size (by repeat (first|(with_reducible first|exact HB.out|apply below_alloc|apply pw_below_drewN|apply below_drew1|refine below_set ?_ GE107.out|refine below_set ?_ GE108.out)|exact HB.out))))
             have n6_:=Aside0.mk (blk_below (g:=gb107) (o:=.cells #[.string (⟨#[111,105,108]⟩:ByteArray),.int .i64 1,.int .i64 9,.int .i64 0] 39 (0,0)) (by (with_reducible repeat (first|refine blk_drewN ?_ _|refine blk_drew ?_|refine blk_alloc ?_ _));exact BK107.out) hb)
             have n7_:=Aside0.mk (blk_below (g:=gb108) (o:=.cells #[.string (⟨#[111,105,108]⟩:ByteArray),.int .i64 1,.int .i64 39,.int .i64 0] 39 (0,0)) (by (with_reducible repeat (first|refine blk_drewN ?_ _|refine blk_drew ?_|refine blk_alloc ?_ _));exact BK108.out) hb)
             have n8_:=Aside0.mk (below_step (by repeat (first|(with_reducible first|exact HB.out|apply below_alloc|apply pw_below_drewN|apply below_drew1|refine below_set ?_ GE107.out|refine below_set ?_ GE108.out)|exact HB.out)) hb)
             clear HO111
             clear HO114
             clear HO117
             clear HO122
             clear HO124
             clear BK107
             clear BK108
             clear HB
             have HO111:=n0_
             have HO114:=n1_
             have HO117:=n2_
             have HO122:=n3_
             have HO124:=n4_
             have HO127:=n5_
             have BK107:=n6_
             have BK108:=n7_
             have HB:=n8_
             clear n0_ n1_ n2_ n3_ n4_ n5_ n6_ n7_ n8_
             clear hb ho40
             obtain ⟨Ao41,co41,eo41⟩:=Kd.R_slice HO124.out
             (first|subst eo41|(injection eo41 with f1_ f2_ f3_;have f4_:=f1_.symm;have f5_:=f3_.symm;clear f1_ f2_ f3_;subst f4_;subst f5_))
             obtain ⟨Ao42,co42,eo42⟩:=Kd.R_slice HO127.out
             (first|subst eo42|(injection eo42 with f1_ f2_ f3_;have f4_:=f1_.symm;have f5_:=f3_.symm;clear f1_ f2_ f3_;subst f4_;subst f5_))
             refine hK.out _ _ ⟨(blk_cell BK107.out 0).trans rfl,(blk_cell BK107.out 1).trans rfl,(blk_cell BK107.out 2).trans rfl,(blk_cell BK107.out 3).trans rfl,(blk_cell BK108.out 0).trans rfl,(blk_cell BK108.out 1).trans rfl,(blk_cell BK108.out 2).trans rfl,(blk_cell BK108.out 3).trans rfl,HS8_,HS9_,HS10_,HS11_,HS12_,HS13_,HS14_,HS15_,HS16_,HS17_⟩ (fun hHeld=>?_)
             clear hK K
             refine norm_ (a':=?_) ?_ ?_
             rotate_left
             ·show Act.put _ (some 66) _ = _
              simp only [Act.put,List.setIfInBounds_toArray,List.set_cons_zero,List.set_cons_succ,i64_w,i32_w]
              rfl
             refine one_ (i:=29) (N:=some 67) #[Y,Y,Y,Y,Y,Y,Y,Y,Y,Y,Y,Y,Y,Y,Y,Y,Y,Y,Y,Y,Y,Y,Y,Y,Y,Y,Y,Y,Y,Y,Z,Z,Z,Z,Z,Z,Z,Z,Z,Z,Z,Z,Z,Z,Z,Z,Z,Z,Z,Z,Z,Z,Z] rfl rfl (one_of HT_.out (by kernel_rfl)) (by decide) (fun K hK=>?_)
             refine goes_ Try.func18 (by kernel_rfl) rfl #[.slice Ao41 t119.length co41,.slice Ao42 y125.length co42] (by rfl) rfl rfl (by (try simp only [List.map_toArray,List.map_cons,List.map_nil]);first|done|rfl|(simp only [List.length_drop,List.length_take];rfl)) ?_
             with_reducible refine (contangoref43_Ints.calls k _ _ t119 _ _ y125 true _ ?side1 ?side2 ?side3 ?side4 A12.out).mono ?_
             (case side1=>repeat (first|exact (Kd.R_reads' HO124.out).2.2|(with_reducible refine Kd.C_alloc ?_ _)|(with_reducible refine Kd.C_drewN ?_ _)|(with_reducible refine Kd.C_drew ?_)))
             (case side2=>exact (Kd.R_reads' HO124.out).2.1)
             (case side3=>repeat (first|exact (Kd.R_reads' HO127.out).2.2|(with_reducible refine Kd.C_alloc ?_ _)|(with_reducible refine Kd.C_drewN ?_ _)|(with_reducible refine Kd.C_drew ?_)))
             (case side4=>exact (Kd.R_reads' HO127.out).2.1)
             rintro e w' ⟨rfl,⟨nd,rfl⟩⟩
             refine ⟨_,rfl,?_⟩
             obtain ⟨Ao43,co43,eo43⟩:=Kd.R_slice HO122.out
             (first|subst eo43|(injection eo43 with f1_ f2_ f3_;have f4_:=f1_.symm;have f5_:=f3_.symm;clear f1_ f2_ f3_;subst f4_;subst f5_))
             refine hK.out _ _ ⟨(blk_cell BK107.out 0).trans rfl,(blk_cell BK107.out 1).trans rfl,(blk_cell BK107.out 2).trans rfl,(blk_cell BK107.out 3).trans rfl,(blk_cell BK108.out 0).trans rfl,(blk_cell BK108.out 1).trans rfl,(blk_cell BK108.out 2).trans rfl,(blk_cell BK108.out 3).trans rfl,hHeld.2.2.2.2.2.2.2.2.1,hHeld.2.2.2.2.2.2.2.2.2.1,hHeld.2.2.2.2.2.2.2.2.2.2.1,hHeld.2.2.2.2.2.2.2.2.2.2.2.1,hHeld.2.2.2.2.2.2.2.2.2.2.2.2.1,hHeld.2.2.2.2.2.2.2.2.2.2.2.2.2.1,hHeld.2.2.2.2.2.2.2.2.2.2.2.2.2.2.1,hHeld.2.2.2.2.2.2.2.2.2.2.2.2.2.2.2.1,hHeld.2.2.2.2.2.2.2.2.2.2.2.2.2.2.2.2.1,hHeld.2.2.2.2.2.2.2.2.2.2.2.2.2.2.2.2.2⟩ (fun hHeld=>?_)
             clear hK K
             refine norm_ (a':=?_) ?_ ?_
             rotate_left
             ·show Act.put _ (some 67) _ = _
              simp only [Act.put,List.setIfInBounds_toArray,List.set_cons_zero,List.set_cons_succ,i64_w,i32_w]
              rfl
             refine pure_ (i:=30) (N:=some 68) (v:=?_) (a':=?_) #[Y,Y,Y,Y,Y,Y,Y,Y,Y,Y,Y,Y,Y,Y,Y,Y,Y,Y,Y,Y,Y,Y,Y,Y,Y,Y,Y,Y,Y,Y,Y,Z,Z,Z,Z,Z,Z,Z,Z,Z,Z,Z,Z,Z,Z,Z,Z,Z,Z,Z,Z,Z,Z] rfl rfl (any_of HT_.out (by kernel_rfl)) (fun _ _ _ h=>h) (Or.inl ⟨by rfl,?_⟩) ?_ ?_
             rotate_left
             ·intro w'
              go_simp
              with_reducible rfl
             rotate_left
             ·simp only [Act.put,List.setIfInBounds_toArray,List.set_cons_zero,List.set_cons_succ,i64_w,i32_w]
              rfl
             refine pure_ (i:=31) (N:=some 69) (v:=?_) (a':=?_) #[Y,Y,Y,Y,Y,Y,Y,Y,Y,Y,Y,Y,Y,Y,Y,Y,Y,Y,Y,Y,Y,Y,Y,Y,Y,Y,Y,Y,Y,Y,Y,Y,Z,Z,Z,Z,Z,Z,Z,Z,Z,Z,Z,Z,Z,Z,Z,Z,Z,Z,Z,Z,Z] rfl rfl (any_of HT_.out (by kernel_rfl)) (fun _ _ _ h=>h) (Or.inl ⟨by rfl,?_⟩) ?_ ?_
             rotate_left
             ·intro w'
              go_simp
              with_reducible rfl
             rotate_left
             ·simp only [Act.put,List.setIfInBounds_toArray,List.set_cons_zero,List.set_cons_succ,i64_w,i32_w]
              rfl
             refine pure_ (i:=32) (N:=some 70) (v:=?_) (a':=?_) #[Y,Y,Y,Y,Y,Y,Y,Y,Y,Y,Y,Y,Y,Y,Y,Y,Y,Y,Y,Y,Y,Y,Y,Y,Y,Y,Y,Y,Y,Y,Y,Y,Y,Z,Z,Z,Z,Z,Z,Z,Z,Z,Z,Z,Z,Z,Z,Z,Z,Z,Z,Z,Z] rfl rfl (any_of HT_.out (by kernel_rfl)) (fun _ _ _ h=>h) (Or.inl ⟨by rfl,?_⟩) ?_ ?_
             rotate_left
             ·intro w'
              go_simp
              with_reducible rfl
             rotate_left
             ·simp only [Act.put,List.setIfInBounds_toArray,List.set_cons_zero,List.set_cons_succ,i64_w,i32_w]
              rfl
             refine pure_ (i:=33) (N:=some 71) (v:=?_) (a':=?_) #[Y,Y,Y,Y,Y,Y,Y,Y,Y,Y,Y,Y,Y,Y,Y,Y,Y,Y,Y,Y,Y,Y,Y,Y,Y,Y,Y,Y,Y,Y,Y,Y,Y,Y,Z,Z,Z,Z,Z,Z,Z,Z,Z,Z,Z,Z,Z,Z,Z,Z,Z,Z,Z] rfl rfl (any_of HT_.out (by kernel_rfl)) (fun _ _ _ h=>h) (Or.inl ⟨by rfl,?_⟩) ?_ ?_
             rotate_left
             ·intro w'
              go_simp
              with_reducible rfl
             rotate_left
             ·simp only [Act.put,List.setIfInBounds_toArray,List.set_cons_zero,List.set_cons_succ,i64_w,i32_w]
              rfl
             refine pure_ (i:=34) (N:=some 72) (v:=?_) (a':=?_) #[Y,Y,Y,Y,Y,Y,Y,Y,Y,Y,Y,Y,Y,Y,Y,Y,Y,Y,Y,Y,Y,Y,Y,Y,Y,Y,Y,Y,Y,Y,Y,Y,Y,Y,Y,Z,Z,Z,Z,Z,Z,Z,Z,Z,Z,Z,Z,Z,Z,Z,Z,Z,Z] rfl rfl (any_of HT_.out (by kernel_rfl)) (fun _ _ _ h=>h) (Or.inl ⟨by rfl,?_⟩) ?_ ?_
             rotate_left
             ·intro w'
              go_simp
              with_reducible rfl
             rotate_left
             ·simp only [Act.put,List.setIfInBounds_toArray,List.set_cons_zero,List.set_cons_succ,i64_w,i32_w]
              rfl
             refine pure_ (i:=35) (N:=some 73) (v:=?_) (a':=?_) #[Y,Y,Y,Y,Y,Y,Y,Y,Y,Y,Y,Y,Y,Y,Y,Y,Y,Y,Y,Y,Y,Y,Y,Y,Y,Y,Y,Y,Y,Y,Y,Y,Y,Y,Y,Y,Z,Z,Z,Z,Z,Z,Z,Z,Z,Z,Z,Z,Z,Z,Z,Z,Z] rfl rfl (any_of HT_.out (by kernel_rfl)) (fun _ _ _ h=>h) (Or.inl ⟨by rfl,?_⟩) ?_ ?_
             rotate_left
             ·intro w'
              go_simp
              with_reducible rfl
             rotate_left
             ·simp only [Act.put,List.setIfInBounds_toArray,List.set_cons_zero,List.set_cons_succ,i64_w,i32_w]
              rfl
             refine pure_ (i:=36) (N:=some 74) (v:=?_) (a':=?_) #[Y,Y,Y,Y,Y,Y,Y,Y,Y,Y,Y,Y,Y,Y,Y,Y,Y,Y,Y,Y,Y,Y,Y,Y,Y,Y,Y,Y,Y,Y,Y,Y,Y,Y,Y,Y,Y,Z,Z,Z,Z,Z,Z,Z,Z,Z,Z,Z,Z,Z,Z,Z,Z] rfl rfl (any_of HT_.out (by kernel_rfl)) (fun _ _ _ h=>h) (Or.inl ⟨by rfl,?_⟩) ?_ ?_
             rotate_left
             ·intro w'
              go_simp
              with_reducible rfl
             rotate_left
             ·simp only [Act.put,List.setIfInBounds_toArray,List.set_cons_zero,List.set_cons_succ,i64_w,i32_w]
              rfl
             refine pure_ (i:=37) (N:=some 75) (v:=?_) (a':=?_) #[Y,Y,Y,Y,Y,Y,Y,Y,Y,Y,Y,Y,Y,Y,Y,Y,Y,Y,Y,Y,Y,Y,Y,Y,Y,Y,Y,Y,Y,Y,Y,Y,Y,Y,Y,Y,Y,Y,Z,Z,Z,Z,Z,Z,Z,Z,Z,Z,Z,Z,Z,Z,Z] rfl rfl (any_of HT_.out (by kernel_rfl)) (fun _ _ _ h=>h) (Or.inl ⟨by rfl,?_⟩) ?_ ?_
             rotate_left
             ·intro w'
              go_simp
              with_reducible rfl
             rotate_left
             ·simp only [Act.put,List.setIfInBounds_toArray,List.set_cons_zero,List.set_cons_succ,i64_w,i32_w]
              rfl
             refine pure_ (i:=38) (N:=some 76) (v:=?_) (a':=?_) #[Y,Y,Y,Y,Y,Y,Y,Y,Y,Y,Y,Y,Y,Y,Y,Y,Y,Y,Y,Y,Y,Y,Y,Y,Y,Y,Y,Y,Y,Y,Y,Y,Y,Y,Y,Y,Y,Y,Y,Z,Z,Z,Z,Z,Z,Z,Z,Z,Z,Z,Z,Z,Z] rfl rfl (any_of HT_.out (by kernel_rfl)) (fun _ _ _ h=>h) (Or.inl ⟨by rfl,?_⟩) ?_ ?_
             rotate_left
             ·intro w'
              go_simp
              with_reducible rfl
             rotate_left
             ·simp only [Act.put,List.setIfInBounds_toArray,List.set_cons_zero,List.set_cons_succ,i64_w,i32_w]
              rfl
             refine take_ (i:=39) (N:=some 77) (v:=?_) (a':=?_) #[Y,Y,Y,Y,Y,Y,Y,Y,Y,Y,Y,Y,Y,Y,Y,Y,Y,Y,Y,Y,Y,Y,Y,Y,Y,Y,Y,Y,Y,Y,Y,Y,Y,Y,Y,Y,Y,Y,Y,Y,Z,Z,Z,Z,Z,Z,Z,Z,Z,Z,Z,Z,Z] rfl rfl (take_ofW HT_.out HW_.out (by kernel_rfl)) (fun _ _ _ h=>h) (Or.inl ⟨by rfl,?_⟩) hHeld ?_ ?_
             rotate_left
             ·rintro w' ⟨s0,s1,s2,s3,s4,s5,s6,s7,s8,s9,s10,s11,s12,s13,s14,s15,s16,s17⟩
              go_simp
              with_reducible rfl
             rotate_left
             ·simp only [Act.put,List.setIfInBounds_toArray,List.set_cons_zero,List.set_cons_succ,i64_w,i32_w]
              rfl
             refine take_ (i:=40) (N:=some 78) (v:=?_) (a':=?_) #[Y,Y,Y,Y,Y,Y,Y,Y,Y,Y,Y,Y,Y,Y,Y,Y,Y,Y,Y,Y,Y,Y,Y,Y,Y,Y,Y,Y,Y,Y,Y,Y,Y,Y,Y,Y,Y,Y,Y,Y,Y,Z,Z,Z,Z,Z,Z,Z,Z,Z,Z,Z,Z] rfl rfl (take_ofW HT_.out HW_.out (by kernel_rfl)) (fun _ _ _ h=>h) (Or.inl ⟨by rfl,?_⟩) hHeld ?_ ?_
             rotate_left
             ·rintro w' ⟨s0,s1,s2,s3,s4,s5,s6,s7,s8,s9,s10,s11,s12,s13,s14,s15,s16,s17⟩
              go_simp
              with_reducible rfl
             rotate_left
             ·simp only [Act.put,List.setIfInBounds_toArray,List.set_cons_zero,List.set_cons_succ,i64_w,i32_w]
              rfl
             refine pure_ (i:=41) (N:=some 79) (v:=?_) (a':=?_) #[Y,Y,Y,Y,Y,Y,Y,Y,Y,Y,Y,Y,Y,Y,Y,Y,Y,Y,Y,Y,Y,Y,Y,Y,Y,Y,Y,Y,Y,Y,Y,Y,Y,Y,Y,Y,Y,Y,Y,Y,Y,Y,Z,Z,Z,Z,Z,Z,Z,Z,Z,Z,Z] rfl rfl (any_of HT_.out (by kernel_rfl)) (fun _ _ _ h=>h) (Or.inl ⟨by rfl,?_⟩) ?_ ?_
             rotate_left
             ·intro w'
              go_simp
              with_reducible rfl
             rotate_left
             ·simp only [Act.put,List.setIfInBounds_toArray,List.set_cons_zero,List.set_cons_succ,i64_w,i32_w]
              rfl
             refine pure_ (i:=42) (N:=some 80) (v:=?_) (a':=?_) #[Y,Y,Y,Y,Y,Y,Y,Y,Y,Y,Y,Y,Y,Y,Y,Y,Y,Y,Y,Y,Y,Y,Y,Y,Y,Y,Y,Y,Y,Y,Y,Y,Y,Y,Y,Y,Y,Y,Y,Y,Y,Y,Y,Z,Z,Z,Z,Z,Z,Z,Z,Z,Z] rfl rfl (any_of HT_.out (by kernel_rfl)) (fun _ _ _ h=>h) (Or.inl ⟨by rfl,?_⟩) ?_ ?_
             rotate_left
             ·intro w'
              go_simp
              with_reducible rfl
             rotate_left
             ·simp only [Act.put,List.setIfInBounds_toArray,List.set_cons_zero,List.set_cons_succ,i64_w,i32_w]
              rfl
             refine pure_ (i:=43) (N:=some 81) (v:=?_) (a':=?_) #[Y,Y,Y,Y,Y,Y,Y,Y,Y,Y,Y,Y,Y,Y,Y,Y,Y,Y,Y,Y,Y,Y,Y,Y,Y,Y,Y,Y,Y,Y,Y,Y,Y,Y,Y,Y,Y,Y,Y,Y,Y,Y,Y,Y,Z,Z,Z,Z,Z,Z,Z,Z,Z] rfl rfl (any_of HT_.out (by kernel_rfl)) (fun _ _ _ h=>h) (Or.inl ⟨by rfl,?_⟩) ?_ ?_
             rotate_left
             ·intro w'
              go_simp
              with_reducible rfl
             rotate_left
             ·simp only [Act.put,List.setIfInBounds_toArray,List.set_cons_zero,List.set_cons_succ,i64_w,i32_w]
              rfl
             refine pure_ (i:=44) (N:=some 82) (v:=?_) (a':=?_) #[Y,Y,Y,Y,Y,Y,Y,Y,Y,Y,Y,Y,Y,Y,Y,Y,Y,Y,Y,Y,Y,Y,Y,Y,Y,Y,Y,Y,Y,Y,Y,Y,Y,Y,Y,Y,Y,Y,Y,Y,Y,Y,Y,Y,Y,Z,Z,Z,Z,Z,Z,Z,Z] rfl rfl (any_of HT_.out (by kernel_rfl)) (fun _ _ _ h=>h) (Or.inl ⟨by rfl,?_⟩) ?_ ?_
             rotate_left
             ·intro w'
              go_simp
              with_reducible rfl
             rotate_left
             ·simp only [Act.put,List.setIfInBounds_toArray,List.set_cons_zero,List.set_cons_succ,i64_w,i32_w]
              rfl
             refine pure_ (i:=45) (N:=some 83) (v:=?_) (a':=?_) #[Y,Y,Y,Y,Y,Y,Y,Y,Y,Y,Y,Y,Y,Y,Y,Y,Y,Y,Y,Y,Y,Y,Y,Y,Y,Y,Y,Y,Y,Y,Y,Y,Y,Y,Y,Y,Y,Y,Y,Y,Y,Y,Y,Y,Y,Y,Z,Z,Z,Z,Z,Z,Z] rfl rfl (any_of HT_.out (by kernel_rfl)) (fun _ _ _ h=>h) (Or.inl ⟨by rfl,?_⟩) ?_ ?_
             rotate_left
             ·intro w'
              go_simp
              with_reducible rfl
             rotate_left
             ·simp only [Act.put,List.setIfInBounds_toArray,List.set_cons_zero,List.set_cons_succ,i64_w,i32_w]
              rfl
             refine pure_ (i:=46) (N:=some 84) (v:=?_) (a':=?_) #[Y,Y,Y,Y,Y,Y,Y,Y,Y,Y,Y,Y,Y,Y,Y,Y,Y,Y,Y,Y,Y,Y,Y,Y,Y,Y,Y,Y,Y,Y,Y,Y,Y,Y,Y,Y,Y,Y,Y,Y,Y,Y,Y,Y,Y,Y,Y,Z,Z,Z,Z,Z,Z] rfl rfl (any_of HT_.out (by kernel_rfl)) (fun _ _ _ h=>h) (Or.inl ⟨by rfl,?_⟩) ?_ ?_
             rotate_left
             ·intro w'
              go_simp
              with_reducible rfl
             rotate_left
             ·simp only [Act.put,List.setIfInBounds_toArray,List.set_cons_zero,List.set_cons_succ,i64_w,i32_w]
              rfl
             refine take_ (i:=47) (N:=some 85) (v:=?_) (a':=?_) #[Y,Y,Y,Y,Y,Y,Y,Y,Y,Y,Y,Y,Y,Y,Y,Y,Y,Y,Y,Y,Y,Y,Y,Y,Y,Y,Y,Y,Y,Y,Y,Y,Y,Y,Y,Y,Y,Y,Y,Y,Y,Y,Y,Y,Y,Y,Y,Y,Z,Z,Z,Z,Z] rfl rfl (take_ofW HT_.out HW_.out (by kernel_rfl)) (fun _ _ _ h=>h) (Or.inl ⟨by rfl,?_⟩) hHeld ?_ ?_
             rotate_left
             ·rintro w' ⟨s0,s1,s2,s3,s4,s5,s6,s7,s8,s9,s10,s11,s12,s13,s14,s15,s16,s17⟩
              go_simp
              with_reducible rfl
             rotate_left
             ·simp only [Act.put,List.setIfInBounds_toArray,List.set_cons_zero,List.set_cons_succ,i64_w,i32_w]
              rfl
             refine take_ (i:=48) (N:=some 86) (v:=?_) (a':=?_) #[Y,Y,Y,Y,Y,Y,Y,Y,Y,Y,Y,Y,Y,Y,Y,Y,Y,Y,Y,Y,Y,Y,Y,Y,Y,Y,Y,Y,Y,Y,Y,Y,Y,Y,Y,Y,Y,Y,Y,Y,Y,Y,Y,Y,Y,Y,Y,Y,Y,Z,Z,Z,Z] rfl rfl (take_ofW HT_.out HW_.out (by kernel_rfl)) (fun _ _ _ h=>h) (Or.inl ⟨by rfl,?_⟩) hHeld ?_ ?_
             rotate_left
             ·rintro w' ⟨s0,s1,s2,s3,s4,s5,s6,s7,s8,s9,s10,s11,s12,s13,s14,s15,s16,s17⟩
              go_simp
              with_reducible rfl
             rotate_left
             ·simp only [Act.put,List.setIfInBounds_toArray,List.set_cons_zero,List.set_cons_succ,i64_w,i32_w]
              rfl
             refine pure_ (i:=49) (N:=some 87) (v:=?_) (a':=?_) #[Y,Y,Y,Y,Y,Y,Y,Y,Y,Y,Y,Y,Y,Y,Y,Y,Y,Y,Y,Y,Y,Y,Y,Y,Y,Y,Y,Y,Y,Y,Y,Y,Y,Y,Y,Y,Y,Y,Y,Y,Y,Y,Y,Y,Y,Y,Y,Y,Y,Y,Z,Z,Z] rfl rfl (any_of HT_.out (by kernel_rfl)) (fun _ _ _ h=>h) (Or.inl ⟨by rfl,?_⟩) ?_ ?_
             rotate_left
             ·intro w'
              go_simp
              with_reducible rfl
             rotate_left
             ·simp only [Act.put,List.setIfInBounds_toArray,List.set_cons_zero,List.set_cons_succ,i64_w,i32_w]
              rfl
             refine pure_ (i:=50) (N:=some 88) (v:=?_) (a':=?_) #[Y,Y,Y,Y,Y,Y,Y,Y,Y,Y,Y,Y,Y,Y,Y,Y,Y,Y,Y,Y,Y,Y,Y,Y,Y,Y,Y,Y,Y,Y,Y,Y,Y,Y,Y,Y,Y,Y,Y,Y,Y,Y,Y,Y,Y,Y,Y,Y,Y,Y,Y,Z,Z] rfl rfl (any_of HT_.out (by kernel_rfl)) (fun _ _ _ h=>h) (Or.inl ⟨by rfl,?_⟩) ?_ ?_
             rotate_left
             ·intro w'
              go_simp
              with_reducible rfl
             rotate_left
             ·simp only [Act.put,List.setIfInBounds_toArray,List.set_cons_zero,List.set_cons_succ,i64_w,i32_w]
              rfl
             refine pure_ (i:=51) (N:=some 89) (v:=?_) (a':=?_) #[Y,Y,Y,Y,Y,Y,Y,Y,Y,Y,Y,Y,Y,Y,Y,Y,Y,Y,Y,Y,Y,Y,Y,Y,Y,Y,Y,Y,Y,Y,Y,Y,Y,Y,Y,Y,Y,Y,Y,Y,Y,Y,Y,Y,Y,Y,Y,Y,Y,Y,Y,Y,Z] rfl rfl (any_of HT_.out (by kernel_rfl)) (fun _ _ _ h=>h) (Or.inl ⟨by rfl,?_⟩) ?_ ?_
             rotate_left
             ·intro w'
              go_simp
              with_reducible rfl
             rotate_left
             ·simp only [Act.put,List.setIfInBounds_toArray,List.set_cons_zero,List.set_cons_succ,i64_w,i32_w]
              rfl
             refine pure_ (i:=52) (N:=some 0) (v:=?_) (a':=?_) #[Y,Y,Y,Y,Y,Y,Y,Y,Y,Y,Y,Y,Y,Y,Y,Y,Y,Y,Y,Y,Y,Y,Y,Y,Y,Y,Y,Y,Y,Y,Y,Y,Y,Y,Y,Y,Y,Y,Y,Y,Y,Y,Y,Y,Y,Y,Y,Y,Y,Y,Y,Y,Y] rfl rfl (any_of HT_.out (by kernel_rfl)) (fun _ _ _ h=>h) (Or.inl ⟨by rfl,?_⟩) ?_ ?_
             rotate_left
             ·intro w'
              go_simp
              with_reducible rfl
             rotate_left
             ·simp only [Act.put,List.setIfInBounds_toArray,List.set_cons_zero,List.set_cons_succ,i64_w,i32_w]
              rfl
             refine done_ (done_of HT_.out (by kernel_rfl)) ?_
             try go_wp2
             go_ret
             exact ⟨by first|rfl|(simp [errW_none,errW_some] <;> rfl)|(simp [*,errW_none,errW_some] <;> rfl),by repeat (first|(with_reducible first|exact HB.out|apply below_alloc|apply pw_below_drewN|apply below_drew1|refine below_set ?_ GE107.out|refine below_set ?_ GE108.out)|exact HB.out)⟩
            ·rw [if_neg c17] at H
             exact absurd H (by simp)
           ·rw [if_neg c16] at H
            have c16b0:(((((rd_T41 t118 0).f0.f0).toList) == ([111,105,108]:List UInt8) && (((rd_T41 t118 0).f0.f1) == 1 && (((rd_T41 t118 0).f0.f2) == 9 && (((rd_T41 t118 0).f0.f3) == 0)))) && (((rd_T41 t118 0).f1) == (-2))) = false:=by simpa using c16
            clear c16
            exact absurd H (by simp)
          ·rw [if_neg c15] at H
           exact absurd H (by simp)
         ·rw [if_neg c14] at H
          have c14b0:((t118.length:Int) == 2) = false:=beq_eq_false_iff_ne.mpr c14
          have c14b1:((t118.length:Int) != 2) = true:=bne_iff_ne.mpr c14
          exact absurd H (by simp)
        ·replace c13:=Bool.eq_false_iff.mpr c13
         subst c13
         have H1:(none) = some r:=by rw [if_neg (show ¬ (false = true) by decide)] at H;exact H
         clear H
         have H:=H1
         clear H1
         exact absurd H (by simp)
       ·rw [if_neg c11] at H
        have c11b0:(t120 == 0) = false:=beq_eq_false_iff_ne.mpr c11
        have c11b1:(t120 != 0) = true:=bne_iff_ne.mpr c11
        exact absurd H (by simp)
      ·rw [if_neg c10] at H
       have c10b0:(t106 == 0) = false:=beq_eq_false_iff_ne.mpr c10
       have c10b1:(t106 != 0) = true:=bne_iff_ne.mpr c10
       exact absurd H (by simp)
     ·rw [if_neg c9] at H
      have c9b0:(t105 == 5) = false:=beq_eq_false_iff_ne.mpr c9
      have c9b1:(t105 != 5) = true:=bne_iff_ne.mpr c9
      exact absurd H (by simp)
    ·rw [if_neg c8] at H
     have c8b0:(t104 == 0) = false:=beq_eq_false_iff_ne.mpr c8
     have c8b1:(t104 != 0) = true:=bne_iff_ne.mpr c8
     exact absurd H (by simp)
   ·rw [if_neg c7] at H
    have c7b0:(t103 == (-2)) = false:=beq_eq_false_iff_ne.mpr c7
    have c7b1:(t103 != (-2)) = true:=bne_iff_ne.mpr c7
    exact absurd H (by simp)
  ·rw [if_neg c6] at H
   have c6b0:(t102 == 0) = false:=beq_eq_false_iff_ne.mpr c6
   have c6b1:(t102 != 0) = true:=bne_iff_ne.mpr c6
   exact absurd H (by simp)
 ·rw [if_neg c5] at H
  have c5b0:(t101 == (-3)) = false:=beq_eq_false_iff_ne.mpr c5
  have c5b1:(t101 != (-3)) = true:=bne_iff_ne.mpr c5
  exact absurd H (by simp)
end Go.Proofs.Ytbgeceiddcokmaa.X
end
section
namespace Go.Proofs.Ytbgeceiddcokmaa.X
open Go.RowKit Go.Proofs.YtbgeceiddcokmaaW.PrintWords Go.Proofs.YtbgeceiddcokmaaW.PrintLast Go.Proofs.YtbgeceiddcokmaaW.PrintMore
attribute [local go_sem] max2_int min2_int max_two min_two max_three min_three max_four min_four
set_option linter.unusedVariables false
set_option linter.unusedSimpArgs false
def contangolaw43_size.f (a0:Int):Option (Int):=if a0 < 0 then (some (wrap64 (-a0))) else (some a0)
set_option maxHeartbeats 8000000 in
set_option maxRecDepth 100000 in
theorem contangolaw43_size.calls (a0:Int) (r:Int) (w:World) (h:contangolaw43_size.f a0 = some r) :
  Calls Try.prog 23 #[.int .i64 a0] w fun e w'=>e = .returned (.int .i64 r) ∧ Drawn0 w w':=by
 have H:(if a0 < 0 then (some (wrap64 (-a0))) else (some a0)) = some r:=h
 clear h
 by_cases c2:a0 < 0
 ·rw [if_pos c2] at H
  have c2b0:decide (a0 < 0) = true:=decide_eq_true c2
  clear c2
  obtain rfl:=Option.some.inj H
  go_enter Try.func23,Try.ntmps23
  go_wp2
  go_ret
  exact ⟨by first|rfl|(simp;done)|(simp [*];done),by repeat (first|exact Drawn0.refl _|apply Drawn0.step)⟩
 ·rw [if_neg c2] at H
  have c2b0:decide (a0 < 0) = false:=decide_eq_false c2
  clear c2
  obtain rfl:=Option.some.inj H
  go_enter Try.func23,Try.ntmps23
  go_wp2
  go_ret
  exact ⟨by first|rfl|(simp;done)|(simp [*];done),by repeat (first|exact Drawn0.refl _|apply Drawn0.step)⟩
end Go.Proofs.Ytbgeceiddcokmaa.X
end
section
namespace Go.Proofs.Ytbgeceiddcokmaa.X
open Go.RowKit Go.Proofs.YtbgeceiddcokmaaW.PrintWords Go.Proofs.YtbgeceiddcokmaaW.PrintLast Go.Proofs.YtbgeceiddcokmaaW.PrintMore
attribute [local go_sem] max2_int min2_int max_two min_two max_three min_three max_four min_four
set_option linter.unusedVariables false
set_option linter.unusedSimpArgs false
mutual
def contangolaw43_HedgeLeast.j0:Nat → Int → Int → Int → Int → Int → Bool → Option (Bool)
 | 0,_,_,_,_,_,_=>none
 | k + 1,x1,x5,x6,x7,x8,x51=>if x51 = true then (none) else ((contangolaw43_size.f (wrap64 (x5 + (wrap64 (x8 * x6))))).bind fun t105=>(contangolaw43_HedgeLeast.l0 k x5 x6 x7 x8 t105 (([wrap64 (x8 - 1),wrap64 (x8 + 1),0,x1]:List Int)) 0))
def contangolaw43_HedgeLeast.l0:Nat → Int → Int → Int → Int → Int → List Int → Int → Option (Bool)
 | 0,_,_,_,_,_,_,_=>none
 | k + 1,x5,x6,x7,x8,x10,x11,x12=>if x12 < (x11.length:Int) then (if 0 ≤ x12 then (if (rd x11 x12) < (wrap64 (-x7)) then (contangolaw43_HedgeLeast.j2 k x5 x6 x7 x8 x10 x11 x12 (rd x11 x12) true) else (if (rd x11 x12) > x7 then (contangolaw43_HedgeLeast.j2 k x5 x6 x7 x8 x10 x11 x12 (rd x11 x12) true) else (contangolaw43_HedgeLeast.j2 k x5 x6 x7 x8 x10 x11 x12 (rd x11 x12) ((rd x11 x12) == x8)))) else (none)) else ((contangolaw43_goes.f k).bind fun t109=>(some t109))
def contangolaw43_HedgeLeast.j2:Nat → Int → Int → Int → Int → Int → List Int → Int → Int → Bool → Option (Bool)
 | 0,_,_,_,_,_,_,_,_,_=>none
 | k + 1,x5,x6,x7,x8,x10,x11,x12,x13,x87=>if x87 = true then (contangolaw43_HedgeLeast.l0 k x5 x6 x7 x8 x10 x11 (wrap64 (x12 + 1))) else ((contangolaw43_size.f (wrap64 (x5 + (wrap64 (x13 * x6))))).bind fun t111=>(if t111 < x10 then (none) else (if t111 = x10 then ((contangolaw43_size.f x13).bind fun t112=>((contangolaw43_size.f x8).bind fun t113=>(if t112 ≤ t113 then (none) else (contangolaw43_HedgeLeast.l0 k x5 x6 x7 x8 x10 x11 (wrap64 (x12 + 1)))))) else (contangolaw43_HedgeLeast.l0 k x5 x6 x7 x8 x10 x11 (wrap64 (x12 + 1))))))
end
def contangolaw43_HedgeLeast.f (k:Nat) (a0_0:Int) (a0_1:Int) (a0_2:Int) (a1:Int):Option (Bool):=(hedge_Best.f k a0_0 a0_1 a0_2).bind fun bt102=>(if bt102.2 = 0 then (if bt102.1 < (wrap64 (-a0_2)) then (contangolaw43_HedgeLeast.j0 k a1 a0_0 a0_1 a0_2 bt102.1 true) else (if bt102.1 > a0_2 then (contangolaw43_HedgeLeast.j0 k a1 a0_0 a0_1 a0_2 bt102.1 true) else (if bt102.1 < (-1048576) then (contangolaw43_HedgeLeast.j0 k a1 a0_0 a0_1 a0_2 bt102.1 true) else (contangolaw43_HedgeLeast.j0 k a1 a0_0 a0_1 a0_2 bt102.1 (decide (bt102.1 > 1048576)))))) else (if bt102.1 = 0 then ((contangolaw43_goes.f k).bind fun t104=>(some t104)) else (none)))
set_option maxHeartbeats 8000000 in
set_option maxRecDepth 100000 in
theorem contangolaw43_HedgeLeast.calls (k:Nat) (a0_0:Int) (a0_1:Int) (a0_2:Int) (a1:Int) (r:Bool) (w:World) (h:contangolaw43_HedgeLeast.f k a0_0 a0_1 a0_2 a1 = some r) :
  Calls Try.prog 5 #[.agg #[.int .i64 a0_0,.int .i64 a0_1,.int .i64 a0_2],.int .i64 a1] w fun e w'=>e = .returned (.bool r) ∧ Below w.heap.size w w':=by
 have hu50:=Try.underlying50
 have HB:=Aside0.mk (Below.refl w.heap.size w)
 have H:((hedge_Best.f k a0_0 a0_1 a0_2).bind fun bt102=>(if bt102.2 = 0 then (if bt102.1 < (wrap64 (-a0_2)) then (contangolaw43_HedgeLeast.j0 k a1 a0_0 a0_1 a0_2 bt102.1 true) else (if bt102.1 > a0_2 then (contangolaw43_HedgeLeast.j0 k a1 a0_0 a0_1 a0_2 bt102.1 true) else (if bt102.1 < (-1048576) then (contangolaw43_HedgeLeast.j0 k a1 a0_0 a0_1 a0_2 bt102.1 true) else (contangolaw43_HedgeLeast.j0 k a1 a0_0 a0_1 a0_2 bt102.1 (decide (bt102.1 > 1048576)))))) else (if bt102.1 = 0 then ((contangolaw43_goes.f k).bind fun t104=>(some t104)) else (none)))) = some r:=h
 clear h
 replace H:=Option.bind_eq_some_iff.mp H
 obtain ⟨⟨t102,t103⟩,A30,H⟩:=H
 replace H:(if t103 = 0 then (if t102 < (wrap64 (-a0_2)) then (contangolaw43_HedgeLeast.j0 k a1 a0_0 a0_1 a0_2 t102 true) else (if t102 > a0_2 then (contangolaw43_HedgeLeast.j0 k a1 a0_0 a0_1 a0_2 t102 true) else (if t102 < (-1048576) then (contangolaw43_HedgeLeast.j0 k a1 a0_0 a0_1 a0_2 t102 true) else (contangolaw43_HedgeLeast.j0 k a1 a0_0 a0_1 a0_2 t102 (decide (t102 > 1048576)))))) else (if t102 = 0 then ((contangolaw43_goes.f k).bind fun t104=>(some t104)) else (none))) = some r:=H
 have A3:=Aside0.mk A30
 clear A30
 by_cases c4:t103 = 0
 ·rw [if_pos c4] at H
  have c4b0:(t103 == 0) = true:=beq_iff_eq.mpr c4
  have c4b1:(t103 != 0) = false:=bne_eq_false_iff_eq.mpr c4
  clear c4
  have HC5:=Aside0.mk H
  clear H
  go_enter Try.func5,Try.ntmps5
  go_upto_region 5 with (first|((with_reducible refine gate_dst (N:=2) rfl ?_);refine box_event ?hg (N:=2) ?hd (cs:=#[.int .i64 a0_0,.int .i64 a0_1,.int .i64 a0_2]) (t:=50) ?hr ?_;(case hd=>rfl);(case hg=>rfl);(case hr=>first|(go_simp;done)|(go_simp;rfl));intro gb101 hg w6 hbox hb;have n0_:=Aside0.mk (below_step (by repeat (first|(with_reducible first|exact HB.out|apply below_alloc|apply pw_below_drewN|apply below_drew1)|exact HB.out)) hb);have n1_:=Aside0.mk (hbox);have n2_:=Aside0.mk ((by rw [hg];exact (below_size (by repeat (first|(with_reducible first|exact HB.out|apply below_alloc|apply pw_below_drewN|apply below_drew1)|exact HB.out))):w.heap.size ≤ gb101));have n3_:=Aside0.mk ((by rw [hg];exact (below_size (by repeat (first|(with_reducible first|exact HB.out|apply below_alloc|apply pw_below_drewN|apply below_drew1)|exact HB.out))):w.heap.size ≤ gb101));clear HB;have HB:=n0_;have BK101:=n1_;have GW101:=n2_;have GE101:=n3_;clear n0_ n1_ n2_ n3_;clear hb hbox hg;have hcz7_0:w6.cell? ⟨gb101,0,none⟩ = some (.int .i64 a0_0):=(blk_cell BK101.out 0).trans rfl;have hcz7_1:w6.cell? ⟨gb101,1,none⟩ = some (.int .i64 a0_1):=(blk_cell BK101.out 1).trans rfl;have hcz7_2:w6.cell? ⟨gb101,2,none⟩ = some (.int .i64 a0_2):=(blk_cell BK101.out 2).trans rfl;have hfz7_0:=blk_frozen BK101.out 0;have hfz7_1:=blk_frozen BK101.out 1;have hfz7_2:=blk_frozen BK101.out 2)|(go_at_call 21;(with_reducible refine (hedge_Best.calls k a0_0 a0_1 a0_2 t102 t103 _ A3.out).mono ?_);rintro e w8 ⟨rfl,hb⟩;have n0_:=Aside0.mk (blk_below (g:=gb101) (o:=.cells #[.int .i64 a0_0,.int .i64 a0_1,.int .i64 a0_2] 50 (0,0)) (by (with_reducible repeat (first|refine blk_drewN ?_ _|refine blk_drew ?_|refine blk_alloc ?_ _));exact BK101.out) hb);have n1_:=Aside0.mk (below_step (by repeat (first|(with_reducible first|exact HB.out|apply below_alloc|apply pw_below_drewN|apply below_drew1|refine below_set ?_ GE101.out)|exact HB.out)) hb);clear BK101;clear HB;have BK101:=n0_;have HB:=n1_;clear n0_ n1_;(try clear hb);(try clear hb2);(try clear hk);(try clear hi)))
  repeat (go_quiet (first|((with_reducible refine gate_dst (N:=2) rfl ?_);refine box_event ?hg (N:=2) ?hd (cs:=#[.int .i64 a0_0,.int .i64 a0_1,.int .i64 a0_2]) (t:=50) ?hr ?_;(case hd=>rfl);(case hg=>rfl);(case hr=>first|(go_simp;done)|(go_simp;rfl));intro gb101 hg w6 hbox hb;have n0_:=Aside0.mk (below_step (by repeat (first|(with_reducible first|exact HB.out|apply below_alloc|apply pw_below_drewN|apply below_drew1)|exact HB.out)) hb);have n1_:=Aside0.mk (hbox);have n2_:=Aside0.mk ((by rw [hg];exact (below_size (by repeat (first|(with_reducible first|exact HB.out|apply below_alloc|apply pw_below_drewN|apply below_drew1)|exact HB.out))):w.heap.size ≤ gb101));have n3_:=Aside0.mk ((by rw [hg];exact (below_size (by repeat (first|(with_reducible first|exact HB.out|apply below_alloc|apply pw_below_drewN|apply below_drew1)|exact HB.out))):w.heap.size ≤ gb101));clear HB;have HB:=n0_;have BK101:=n1_;have GW101:=n2_;have GE101:=n3_;clear n0_ n1_ n2_ n3_;clear hb hbox hg;have hcz7_0:w6.cell? ⟨gb101,0,none⟩ = some (.int .i64 a0_0):=(blk_cell BK101.out 0).trans rfl;have hcz7_1:w6.cell? ⟨gb101,1,none⟩ = some (.int .i64 a0_1):=(blk_cell BK101.out 1).trans rfl;have hcz7_2:w6.cell? ⟨gb101,2,none⟩ = some (.int .i64 a0_2):=(blk_cell BK101.out 2).trans rfl;have hfz7_0:=blk_frozen BK101.out 0;have hfz7_1:=blk_frozen BK101.out 1;have hfz7_2:=blk_frozen BK101.out 2)|(go_at_call 21;(with_reducible refine (hedge_Best.calls k a0_0 a0_1 a0_2 t102 t103 _ A3.out).mono ?_);rintro e w8 ⟨rfl,hb⟩;have n0_:=Aside0.mk (blk_below (g:=gb101) (o:=.cells #[.int .i64 a0_0,.int .i64 a0_1,.int .i64 a0_2] 50 (0,0)) (by (with_reducible repeat (first|refine blk_drewN ?_ _|refine blk_drew ?_|refine blk_alloc ?_ _));exact BK101.out) hb);have n1_:=Aside0.mk (below_step (by repeat (first|(with_reducible first|exact HB.out|apply below_alloc|apply pw_below_drewN|apply below_drew1|refine below_set ?_ GE101.out)|exact HB.out)) hb);clear BK101;clear HB;have BK101:=n0_;have HB:=n1_;clear n0_ n1_;(try clear hb);(try clear hb2);(try clear hk);(try clear hi)));go_upto_region 5 with (first|((with_reducible refine gate_dst (N:=2) rfl ?_);refine box_event ?hg (N:=2) ?hd (cs:=#[.int .i64 a0_0,.int .i64 a0_1,.int .i64 a0_2]) (t:=50) ?hr ?_;(case hd=>rfl);(case hg=>rfl);(case hr=>first|(go_simp;done)|(go_simp;rfl));intro gb101 hg w6 hbox hb;have n0_:=Aside0.mk (below_step (by repeat (first|(with_reducible first|exact HB.out|apply below_alloc|apply pw_below_drewN|apply below_drew1)|exact HB.out)) hb);have n1_:=Aside0.mk (hbox);have n2_:=Aside0.mk ((by rw [hg];exact (below_size (by repeat (first|(with_reducible first|exact HB.out|apply below_alloc|apply pw_below_drewN|apply below_drew1)|exact HB.out))):w.heap.size ≤ gb101));have n3_:=Aside0.mk ((by rw [hg];exact (below_size (by repeat (first|(with_reducible first|exact HB.out|apply below_alloc|apply pw_below_drewN|apply below_drew1)|exact HB.out))):w.heap.size ≤ gb101));clear HB;have HB:=n0_;have BK101:=n1_;have GW101:=n2_;have GE101:=n3_;clear n0_ n1_ n2_ n3_;clear hb hbox hg;have hcz7_0:w6.cell? ⟨gb101,0,none⟩ = some (.int .i64 a0_0):=(blk_cell BK101.out 0).trans rfl;have hcz7_1:w6.cell? ⟨gb101,1,none⟩ = some (.int .i64 a0_1):=(blk_cell BK101.out 1).trans rfl;have hcz7_2:w6.cell? ⟨gb101,2,none⟩ = some (.int .i64 a0_2):=(blk_cell BK101.out 2).trans rfl;have hfz7_0:=blk_frozen BK101.out 0;have hfz7_1:=blk_frozen BK101.out 1;have hfz7_2:=blk_frozen BK101.out 2)|(go_at_call 21;(with_reducible refine (hedge_Best.calls k a0_0 a0_1 a0_2 t102 t103 _ A3.out).mono ?_);rintro e w8 ⟨rfl,hb⟩;have n0_:=Aside0.mk (blk_below (g:=gb101) (o:=.cells #[.int .i64 a0_0,.int .i64 a0_1,.int .i64 a0_2] 50 (0,0)) (by (with_reducible repeat (first|refine blk_drewN ?_ _|refine blk_drew ?_|refine blk_alloc ?_ _));exact BK101.out) hb);have n1_:=Aside0.mk (below_step (by repeat (first|(with_reducible first|exact HB.out|apply below_alloc|apply pw_below_drewN|apply below_drew1|refine below_set ?_ GE101.out)|exact HB.out)) hb);clear BK101;clear HB;have BK101:=n0_;have HB:=n1_;clear n0_ n1_;(try clear hb);(try clear hb2);(try clear hk);(try clear hi))))
  (try simp only [Act.put,List.setIfInBounds_toArray,List.set_cons_zero,List.set_cons_succ])
  go_cut [51] (fun v51 wc=>∃ (kq:Nat) (x51_4:Bool),v51 = .bool x51_4 ∧ Aside0 (contangolaw43_HedgeLeast.j0 kq a1 a0_0 a0_1 a0_2 t102 x51_4 = some r) ∧ Aside0 (kq ≤ k) ∧ Aside0 (wc.heap[gb101]? = some (.cells #[.int .i64 a0_0,.int .i64 a0_1,.int .i64 a0_2] 50 (0,0))) ∧ Aside0 (Below w.heap.size w wc))
  case first =>
   have H:=HC5.out
   clear HC5
   by_cases c9:t102 < (wrap64 (-a0_2))
   ·rw [if_pos c9] at H
    have c9b0:decide (t102 < (wrap64 (-a0_2))) = true:=decide_eq_true c9
    clear c9
    (first|rw [c9b0]|(simp only [i64_w,i32_w];rw [c9b0])|skip)
    have H':=Aside0.mk H
    clear H
    go_wp2
    repeat (go_quiet (fail);try go_wp2)
    go_meet
    case rel=>exact ⟨_,(true),(by first|rfl|(simp;done)|(simp [*];done)),H',⟨by first|omega|exact Nat.le_refl _⟩,⟨by (with_reducible repeat (first|refine blk_drewN ?_ _|refine blk_drew ?_|refine blk_alloc ?_ _));exact BK101.out⟩,⟨by repeat (first|(with_reducible first|exact HB.out|apply below_alloc|apply pw_below_drewN|apply below_drew1|refine below_set ?_ GE101.out)|exact HB.out)⟩⟩
   ·rw [if_neg c9] at H
    have c9b0:decide (t102 < (wrap64 (-a0_2))) = false:=decide_eq_false c9
    clear c9
    (first|rw [c9b0]|(simp only [i64_w,i32_w];rw [c9b0])|skip)
    by_cases c10:t102 > a0_2
    ·rw [if_pos c10] at H
     have c10b0:decide (a0_2 < t102) = true:=decide_eq_true c10
     clear c10
     have H':=Aside0.mk H
     clear H
     go_wp2
     repeat (go_quiet (fail);try go_wp2)
     go_meet
     case rel=>exact ⟨_,(true),(by first|rfl|(simp;done)|(simp [*];done)),H',⟨by first|omega|exact Nat.le_refl _⟩,⟨by (with_reducible repeat (first|refine blk_drewN ?_ _|refine blk_drew ?_|refine blk_alloc ?_ _));exact BK101.out⟩,⟨by repeat (first|(with_reducible first|exact HB.out|apply below_alloc|apply pw_below_drewN|apply below_drew1|refine below_set ?_ GE101.out)|exact HB.out)⟩⟩
    ·rw [if_neg c10] at H
     have c10b0:decide (a0_2 < t102) = false:=decide_eq_false c10
     clear c10
     by_cases c11:t102 < (-1048576)
     ·rw [if_pos c11] at H
      have c11b0:decide (t102 < (-1048576)) = true:=decide_eq_true c11
      clear c11
      have H':=Aside0.mk H
      clear H
      go_wp2
      repeat (go_quiet (fail);try go_wp2)
      go_meet
      case rel=>exact ⟨_,(true),(by first|rfl|(simp;done)|(simp [*];done)),H',⟨by first|omega|exact Nat.le_refl _⟩,⟨by (with_reducible repeat (first|refine blk_drewN ?_ _|refine blk_drew ?_|refine blk_alloc ?_ _));exact BK101.out⟩,⟨by repeat (first|(with_reducible first|exact HB.out|apply below_alloc|apply pw_below_drewN|apply below_drew1|refine below_set ?_ GE101.out)|exact HB.out)⟩⟩
     ·rw [if_neg c11] at H
      have c11b0:decide (t102 < (-1048576)) = false:=decide_eq_false c11
      clear c11
      have H':=Aside0.mk H
      clear H
      go_wp2
      repeat (go_quiet (fail);try go_wp2)
      go_meet
      case rel=>exact ⟨_,(decide (t102 > 1048576)),(by first|rfl|(simp;done)|(simp [*];done)),H',⟨by first|omega|exact Nat.le_refl _⟩,⟨by (with_reducible repeat (first|refine blk_drewN ?_ _|refine blk_drew ?_|refine blk_alloc ?_ _));exact BK101.out⟩,⟨by repeat (first|(with_reducible first|exact HB.out|apply below_alloc|apply pw_below_drewN|apply below_drew1|refine below_set ?_ GE101.out)|exact HB.out)⟩⟩
  case rest =>
   clear HC5
   try clear c1
   try clear p2
   try clear c4
   try clear c4b0
   try clear c4b1
   try clear c5
   try clear p6
   try clear c9
   try clear c9b0
   try clear c10
   try clear c10b0
   try clear c11
   try clear c11b0
   try clear hcz7_0
   try clear hcz7_1
   try clear hcz7_2
   try clear hfz7_0
   try clear hfz7_1
   try clear hfz7_2
   obtain ⟨kq,x51_4,rfl,HA,HJ4,BK101,HB⟩:=hcut
   cases kq with
   | zero=>exact absurd HA.out (by simp [contangolaw43_HedgeLeast.j0])
   | succ kj4 =>
    have H:=HA.out
    clear HA
    simp only [contangolaw43_HedgeLeast.j0] at H
    by_cases c12:x51_4 = true
    ·subst c12
     have H1:(none) = some r:=by rw [if_pos rfl] at H;exact H
     clear H
     have H:=H1
     clear H1
     exact absurd H (by simp)
    ·replace c12:=Bool.eq_false_iff.mpr c12
     subst c12
     have H1:((contangolaw43_size.f (wrap64 (a0_0 + (wrap64 (t102 * a0_1))))).bind fun t105=>(contangolaw43_HedgeLeast.l0 kj4 a0_0 a0_1 a0_2 t102 t105 (([wrap64 (t102 - 1),wrap64 (t102 + 1),0,a1]:List Int)) 0)) = some r:=by rw [if_neg (show ¬ (false = true) by decide)] at H;exact H
     clear H
     have H:=H1
     clear H1
     replace H:=Option.bind_eq_some_iff.mp H
     obtain ⟨t105,A130,H⟩:=H
     replace H:(contangolaw43_HedgeLeast.l0 kj4 a0_0 a0_1 a0_2 t102 t105 (([wrap64 (t102 - 1),wrap64 (t102 + 1),0,a1]:List Int)) 0) = some r:=H
     have A13:=Aside0.mk A130
     clear A130
     obtain ⟨y106,hy106⟩:∃ y_:List Int,y_ = (([wrap64 (t102 - 1),wrap64 (t102 + 1),0,a1]:List Int)):=⟨_,rfl⟩
     replace H:(contangolaw43_HedgeLeast.l0 kj4 a0_0 a0_1 a0_2 t102 t105 y106 0) = some r:=by first|(rw [hy106];with_reducible exact H)|(have H2_:=(Option.bind_some _ _).symm.trans H;rw [hy106];with_reducible exact H2_)|(have H2_:=(Option.bind_some _ _).symm.trans H;with_reducible exact H2_)|with_reducible exact H|(rw [hy106];exact H)|exact H
     have Ny106:=Aside0.mk hy106
     clear hy106
     have H':=Aside0.mk H
     clear H
     go_wp2_with (first|(go_at_call 23;(with_reducible refine (contangolaw43_size.calls (wrap64 (a0_0 + (wrap64 (t102 * a0_1)))) t105 _ A13.out).mono ?_);rintro e w' ⟨rfl,⟨nd,rfl⟩⟩;(try first|exact ⟨rfl,_,World.drewN_drewN _ _ _⟩|exact ⟨rfl,_,Eq.trans (World.drewN_drewN _ _ _) (congrArg (World.drewN _) (Nat.add_assoc _ _ _))⟩))|((with_reducible refine gate_dst (N:=63) rfl ?_);refine Kd.R_lit (Kd.int .i64) _ 3 ?hg (N:=63) ?hd (xs:=([wrap64 (t102 - 1),wrap64 (t102 + 1),0,a1]:List Int)) (inner:=[.int .i64 (wrap64 (t102 - 1)),.int .i64 (wrap64 (t102 + 1)),.int .i64 0,.int .i64 a1]) (ok:=fun _=>True) (okp:=fun _=>True) ?hr ?hp (fun _ hk=>hk) trivial (Below.refl _ _) (Nat.le_refl _) (by simp) ?_;(case hd=>rfl);(case hg=>rfl);(case hr=>first|(go_simp;done)|(go_simp;rfl));(case hp=>exact (Reps.one (show Kd.M (Kd.int .i64) _ _ _ (wrap64 (t102 - 1)) [.int .i64 (wrap64 (t102 - 1))] from rfl) (Reps.one (show Kd.M (Kd.int .i64) _ _ _ (wrap64 (t102 + 1)) [.int .i64 (wrap64 (t102 + 1))] from rfl) (Reps.one (show Kd.M (Kd.int .i64) _ _ _ 0 [.int .i64 0] from rfl) (Reps.one (show Kd.M (Kd.int .i64) _ _ _ a1 [.int .i64 a1] from rfl) (Reps.none _ _))))));intro v107 w14 ho15 hb hg_ hnew_;clear hg_ hnew_;(first|rw [← Ny106.out] at ho15|(simp only [Int.reduceToNat] at ho15;rw [← Ny106.out] at ho15));have n0_:=Aside0.mk (Kd.R_lower ho15 (below_size (by repeat (first|(with_reducible first|exact HB.out|apply below_alloc|apply pw_below_drewN|apply below_drew1|refine below_set ?_ GE101.out)|exact HB.out))));have n1_:=Aside0.mk (blk_below (g:=gb101) (o:=.cells #[.int .i64 a0_0,.int .i64 a0_1,.int .i64 a0_2] 50 (0,0)) (by (with_reducible repeat (first|refine blk_drewN ?_ _|refine blk_drew ?_|refine blk_alloc ?_ _));exact BK101.out) hb);have n2_:=Aside0.mk (below_step (by repeat (first|(with_reducible first|exact HB.out|apply below_alloc|apply pw_below_drewN|apply below_drew1|refine below_set ?_ GE101.out)|exact HB.out)) hb);clear BK101;clear HB;have HO108:=n0_;have BK101:=n1_;have HB:=n2_;clear n0_ n1_ n2_;clear hb ho15))
     repeat (go_quiet (first|(go_at_call 23;(with_reducible refine (contangolaw43_size.calls (wrap64 (a0_0 + (wrap64 (t102 * a0_1)))) t105 _ A13.out).mono ?_);rintro e w' ⟨rfl,⟨nd,rfl⟩⟩;(try first|exact ⟨rfl,_,World.drewN_drewN _ _ _⟩|exact ⟨rfl,_,Eq.trans (World.drewN_drewN _ _ _) (congrArg (World.drewN _) (Nat.add_assoc _ _ _))⟩))|((with_reducible refine gate_dst (N:=63) rfl ?_);refine Kd.R_lit (Kd.int .i64) _ 3 ?hg (N:=63) ?hd (xs:=([wrap64 (t102 - 1),wrap64 (t102 + 1),0,a1]:List Int)) (inner:=[.int .i64 (wrap64 (t102 - 1)),.int .i64 (wrap64 (t102 + 1)),.int .i64 0,.int .i64 a1]) (ok:=fun _=>True) (okp:=fun _=>True) ?hr ?hp (fun _ hk=>hk) trivial (Below.refl _ _) (Nat.le_refl _) (by simp) ?_;(case hd=>rfl);(case hg=>rfl);(case hr=>first|(go_simp;done)|(go_simp;rfl));(case hp=>exact (Reps.one (show Kd.M (Kd.int .i64) _ _ _ (wrap64 (t102 - 1)) [.int .i64 (wrap64 (t102 - 1))] from rfl) (Reps.one (show Kd.M (Kd.int .i64) _ _ _ (wrap64 (t102 + 1)) [.int .i64 (wrap64 (t102 + 1))] from rfl) (Reps.one (show Kd.M (Kd.int .i64) _ _ _ 0 [.int .i64 0] from rfl) (Reps.one (show Kd.M (Kd.int .i64) _ _ _ a1 [.int .i64 a1] from rfl) (Reps.none _ _))))));intro v107 w14 ho15 hb hg_ hnew_;clear hg_ hnew_;(first|rw [← Ny106.out] at ho15|(simp only [Int.reduceToNat] at ho15;rw [← Ny106.out] at ho15));have n0_:=Aside0.mk (Kd.R_lower ho15 (below_size (by repeat (first|(with_reducible first|exact HB.out|apply below_alloc|apply pw_below_drewN|apply below_drew1|refine below_set ?_ GE101.out)|exact HB.out))));have n1_:=Aside0.mk (blk_below (g:=gb101) (o:=.cells #[.int .i64 a0_0,.int .i64 a0_1,.int .i64 a0_2] 50 (0,0)) (by (with_reducible repeat (first|refine blk_drewN ?_ _|refine blk_drew ?_|refine blk_alloc ?_ _));exact BK101.out) hb);have n2_:=Aside0.mk (below_step (by repeat (first|(with_reducible first|exact HB.out|apply below_alloc|apply pw_below_drewN|apply below_drew1|refine below_set ?_ GE101.out)|exact HB.out)) hb);clear BK101;clear HB;have HO108:=n0_;have BK101:=n1_;have HB:=n2_;clear n0_ n1_ n2_;clear hb ho15));try go_wp2_with (first|(go_at_call 23;(with_reducible refine (contangolaw43_size.calls (wrap64 (a0_0 + (wrap64 (t102 * a0_1)))) t105 _ A13.out).mono ?_);rintro e w' ⟨rfl,⟨nd,rfl⟩⟩;(try first|exact ⟨rfl,_,World.drewN_drewN _ _ _⟩|exact ⟨rfl,_,Eq.trans (World.drewN_drewN _ _ _) (congrArg (World.drewN _) (Nat.add_assoc _ _ _))⟩))|((with_reducible refine gate_dst (N:=63) rfl ?_);refine Kd.R_lit (Kd.int .i64) _ 3 ?hg (N:=63) ?hd (xs:=([wrap64 (t102 - 1),wrap64 (t102 + 1),0,a1]:List Int)) (inner:=[.int .i64 (wrap64 (t102 - 1)),.int .i64 (wrap64 (t102 + 1)),.int .i64 0,.int .i64 a1]) (ok:=fun _=>True) (okp:=fun _=>True) ?hr ?hp (fun _ hk=>hk) trivial (Below.refl _ _) (Nat.le_refl _) (by simp) ?_;(case hd=>rfl);(case hg=>rfl);(case hr=>first|(go_simp;done)|(go_simp;rfl));(case hp=>exact (Reps.one (show Kd.M (Kd.int .i64) _ _ _ (wrap64 (t102 - 1)) [.int .i64 (wrap64 (t102 - 1))] from rfl) (Reps.one (show Kd.M (Kd.int .i64) _ _ _ (wrap64 (t102 + 1)) [.int .i64 (wrap64 (t102 + 1))] from rfl) (Reps.one (show Kd.M (Kd.int .i64) _ _ _ 0 [.int .i64 0] from rfl) (Reps.one (show Kd.M (Kd.int .i64) _ _ _ a1 [.int .i64 a1] from rfl) (Reps.none _ _))))));intro v107 w14 ho15 hb hg_ hnew_;clear hg_ hnew_;(first|rw [← Ny106.out] at ho15|(simp only [Int.reduceToNat] at ho15;rw [← Ny106.out] at ho15));have n0_:=Aside0.mk (Kd.R_lower ho15 (below_size (by repeat (first|(with_reducible first|exact HB.out|apply below_alloc|apply pw_below_drewN|apply below_drew1|refine below_set ?_ GE101.out)|exact HB.out))));have n1_:=Aside0.mk (blk_below (g:=gb101) (o:=.cells #[.int .i64 a0_0,.int .i64 a0_1,.int .i64 a0_2] 50 (0,0)) (by (with_reducible repeat (first|refine blk_drewN ?_ _|refine blk_drew ?_|refine blk_alloc ?_ _));exact BK101.out) hb);have n2_:=Aside0.mk (below_step (by repeat (first|(with_reducible first|exact HB.out|apply below_alloc|apply pw_below_drewN|apply below_drew1|refine below_set ?_ GE101.out)|exact HB.out)) hb);clear BK101;clear HB;have HO108:=n0_;have BK101:=n1_;have HB:=n2_;clear n0_ n1_ n2_;clear hb ho15)))
     go_loopg [12] kj4 (fun kq v12 w'=>∃ (x12_2:Int),v12 = .int .i64 x12_2 ∧ Aside0 (contangolaw43_HedgeLeast.l0 kq a0_0 a0_1 a0_2 t102 t105 y106 x12_2 = some r) ∧ Aside0 (kq ≤ kj4) ∧ Aside0 (Kd.R (Kd.int .i64) 3 w' w.heap.size (fun _=>True) v107 y106) ∧ Aside0 (w'.heap[gb101]? = some (.cells #[.int .i64 a0_0,.int .i64 a0_1,.int .i64 a0_2] 50 (0,0))) ∧ Aside0 (Below w.heap.size w w'))
     case atStart=>exact ⟨(0),(by first|rfl|(simp;done)|(simp [*];done)),H',⟨Nat.le_refl _⟩,⟨by (with_reducible repeat (first|apply Kd.R_alloc|apply Kd.R_drewN|apply Kd.R_drew));exact HO108.out⟩,⟨by (with_reducible repeat (first|refine blk_drewN ?_ _|refine blk_drew ?_|refine blk_alloc ?_ _));exact BK101.out⟩,⟨by repeat (first|(with_reducible first|exact HB.out|apply below_alloc|apply pw_below_drewN|apply below_drew1|refine below_set ?_ GE101.out)|exact HB.out)⟩⟩
     case round =>
      clear H'
      try clear c1
      try clear p2
      try clear c4
      try clear c4b0
      try clear c4b1
      try clear c5
      try clear p6
      try clear c9
      try clear c9b0
      try clear c10
      try clear c10b0
      try clear c11
      try clear c11b0
      try clear c12
      try clear hcz7_0
      try clear hcz7_1
      try clear hcz7_2
      try clear hfz7_0
      try clear hfz7_1
      try clear hfz7_2
      try clear p2
      try clear p6
      obtain ⟨x12_2,rfl,HA,HK2,HO_11,BK101,HB⟩:=hrel
      cases gk with
      | zero=>exact absurd HA.out (by simp [contangolaw43_HedgeLeast.l0])
      | succ k2 =>
       have H:=HA.out
       clear HA
       simp only [contangolaw43_HedgeLeast.l0] at H
       by_cases c16:x12_2 < (y106.length:Int)
       ·rw [if_pos c16] at H
        have c16b0:decide (x12_2 < (y106.length:Int)) = true:=decide_eq_true c16
        clear c16
        by_cases c17:0 ≤ x12_2
        ·rw [if_pos c17] at H
         have c17b0:decide (0 ≤ x12_2) = true:=decide_eq_true c17
         clear c17
         have HC18:=Aside0.mk H
         clear H
         obtain ⟨Ao19,co19,eo19⟩:=Kd.R_slice HO_11.out
         subst eo19
         have p110:0 ≤ (x12_2:Int):=of_decide_eq_true (by first|(with_reducible assumption)|assumption)
         have q110:x12_2 < (y106.length:Int):=of_decide_eq_true (by first|(with_reducible assumption)|assumption)
         obtain ⟨ad110,e110,hx110_0⟩:=Kd.at_int (Kd.R_reads' HO_11.out).2.2 x12_2 p110 q110
         cases e110
         replace p110:=eq_true p110
         replace q110:=eq_true q110
         go_upto_region 13 with (fail)
         repeat (go_quiet (fail);go_upto_region 13 with (fail))
         go_cut [87] (fun v87 wc=>∃ (kq:Nat) (x87_17:Bool),v87 = .bool x87_17 ∧ Aside0 (contangolaw43_HedgeLeast.j2 kq a0_0 a0_1 a0_2 t102 t105 y106 x12_2 (rd y106 x12_2) x87_17 = some r) ∧ Aside0 (kq ≤ k2) ∧ Aside0 (Kd.R (Kd.int .i64) 3 wc w.heap.size (fun _=>True) (.slice (some ad110) y106.length co19) y106) ∧ Aside0 (wc.heap[gb101]? = some (.cells #[.int .i64 a0_0,.int .i64 a0_1,.int .i64 a0_2] 50 (0,0))) ∧ Aside0 (Below w.heap.size w wc))
         case first =>
          have H:=HC18.out
          clear HC18
          by_cases c20:(rd y106 x12_2) < (wrap64 (-a0_2))
          ·rw [if_pos c20] at H
           have c20b0:decide ((rd y106 x12_2) < (wrap64 (-a0_2))) = true:=decide_eq_true c20
           clear c20
           (first|rw [c20b0]|(simp only [i64_w,i32_w];rw [c20b0])|skip)
           have H':=Aside0.mk H
           clear H
           go_wp2
           repeat (go_quiet (fail);try go_wp2)
           go_meet
           case rel=>exact ⟨_,(true),(by first|rfl|(simp;done)|(simp [*];done)),H',⟨by have:=HJ4.out;have:=HK2.out;first|omega|exact Nat.le_refl _⟩,⟨by (with_reducible repeat (first|apply Kd.R_alloc|apply Kd.R_drewN|apply Kd.R_drew));exact HO_11.out⟩,⟨by (with_reducible repeat (first|refine blk_drewN ?_ _|refine blk_drew ?_|refine blk_alloc ?_ _));exact BK101.out⟩,⟨by repeat (first|(with_reducible first|exact HB.out|apply below_alloc|apply pw_below_drewN|apply below_drew1|refine below_set ?_ GE101.out)|exact HB.out)⟩⟩
          ·rw [if_neg c20] at H
           have c20b0:decide ((rd y106 x12_2) < (wrap64 (-a0_2))) = false:=decide_eq_false c20
           clear c20
           (first|rw [c20b0]|(simp only [i64_w,i32_w];rw [c20b0])|skip)
           by_cases c21:(rd y106 x12_2) > a0_2
           ·rw [if_pos c21] at H
            have c21b0:decide (a0_2 < (rd y106 x12_2)) = true:=decide_eq_true c21
            clear c21
            have H':=Aside0.mk H
            clear H
            go_wp2
            repeat (go_quiet (fail);try go_wp2)
            go_meet
            case rel=>exact ⟨_,(true),(by first|rfl|(simp;done)|(simp [*];done)),H',⟨by have:=HJ4.out;have:=HK2.out;first|omega|exact Nat.le_refl _⟩,⟨by (with_reducible repeat (first|apply Kd.R_alloc|apply Kd.R_drewN|apply Kd.R_drew));exact HO_11.out⟩,⟨by (with_reducible repeat (first|refine blk_drewN ?_ _|refine blk_drew ?_|refine blk_alloc ?_ _));exact BK101.out⟩,⟨by repeat (first|(with_reducible first|exact HB.out|apply below_alloc|apply pw_below_drewN|apply below_drew1|refine below_set ?_ GE101.out)|exact HB.out)⟩⟩
           ·rw [if_neg c21] at H
            have c21b0:decide (a0_2 < (rd y106 x12_2)) = false:=decide_eq_false c21
            clear c21
            have H':=Aside0.mk H
            clear H
            go_wp2
            repeat (go_quiet (fail);try go_wp2)
            go_meet
            case rel=>exact ⟨_,(((rd y106 x12_2) == t102)),(by first|rfl|(simp;done)|(simp [*];done)),H',⟨by have:=HJ4.out;have:=HK2.out;first|omega|exact Nat.le_refl _⟩,⟨by (with_reducible repeat (first|apply Kd.R_alloc|apply Kd.R_drewN|apply Kd.R_drew));exact HO_11.out⟩,⟨by (with_reducible repeat (first|refine blk_drewN ?_ _|refine blk_drew ?_|refine blk_alloc ?_ _));exact BK101.out⟩,⟨by repeat (first|(with_reducible first|exact HB.out|apply below_alloc|apply pw_below_drewN|apply below_drew1|refine below_set ?_ GE101.out)|exact HB.out)⟩⟩
         case rest =>
          clear HC18
          try clear c1
          try clear p1
          try clear q1
          try clear hx1
          try clear c2
          try clear p2
          try clear c4
          try clear c4b0
          try clear c4b1
          try clear c5
          try clear p6
          try clear c9
          try clear c9b0
          try clear c10
          try clear c10b0
          try clear c11
          try clear c11b0
          try clear p11
          try clear q11
          try clear hx11
          try clear c12
          try clear c16
          try clear c16b0
          try clear c17
          try clear c17b0
          try clear c20
          try clear c20b0
          try clear c21
          try clear c21b0
          try clear hcz7_0
          try clear hcz7_1
          try clear hcz7_2
          try clear hfz7_0
          try clear hfz7_1
          try clear hfz7_2
          try clear hx110_0
          try clear p110
          try clear p2
          try clear p6
          try clear q110
          obtain ⟨kq,x87_17,rfl,HA,HJ17,HO_11,BK101,HB⟩:=hcut
          cases kq with
          | zero=>exact absurd HA.out (by simp [contangolaw43_HedgeLeast.j2])
          | succ kj17 =>
           have H:=HA.out
           clear HA
           simp only [contangolaw43_HedgeLeast.j2] at H
           by_cases c22:x87_17 = true
           ·subst c22
            have H1:(contangolaw43_HedgeLeast.l0 kj17 a0_0 a0_1 a0_2 t102 t105 y106 (wrap64 (x12_2 + 1))) = some r:=by rw [if_pos rfl] at H;exact H
            clear H
            have H:=H1
            clear H1
            have H':=Aside0.mk H
            clear H
            go_wp2
            repeat (go_quiet (fail);try go_wp2)
            go_roundg kj17
            case measure=>have:=HJ4.out;have:=HK2.out;have:=HJ17.out;omega
            case rel=>exact ⟨(wrap64 (x12_2 + 1)),(by first|rfl|(simp;done)|(simp [*];done)),H',⟨by have:=HJ4.out;have:=HK2.out;have:=HJ17.out;omega⟩,⟨by (with_reducible repeat (first|apply Kd.R_alloc|apply Kd.R_drewN|apply Kd.R_drew));exact HO_11.out⟩,⟨by (with_reducible repeat (first|refine blk_drewN ?_ _|refine blk_drew ?_|refine blk_alloc ?_ _));exact BK101.out⟩,⟨by repeat (first|(with_reducible first|exact HB.out|apply below_alloc|apply pw_below_drewN|apply below_drew1|refine below_set ?_ GE101.out)|exact HB.out)⟩⟩
           ·replace c22:=Bool.eq_false_iff.mpr c22
            subst c22
            have H1:((contangolaw43_size.f (wrap64 (a0_0 + (wrap64 ((rd y106 x12_2) * a0_1))))).bind fun t111=>(if t111 < t105 then (none) else (if t111 = t105 then ((contangolaw43_size.f (rd y106 x12_2)).bind fun t112=>((contangolaw43_size.f t102).bind fun t113=>(if t112 ≤ t113 then (none) else (contangolaw43_HedgeLeast.l0 kj17 a0_0 a0_1 a0_2 t102 t105 y106 (wrap64 (x12_2 + 1)))))) else (contangolaw43_HedgeLeast.l0 kj17 a0_0 a0_1 a0_2 t102 t105 y106 (wrap64 (x12_2 + 1)))))) = some r:=by rw [if_neg (show ¬ (false = true) by decide)] at H;exact H
            clear H
            have H:=H1
            clear H1
            replace H:=Option.bind_eq_some_iff.mp H
            obtain ⟨t111,A230,H⟩:=H
            replace H:(if t111 < t105 then (none) else (if t111 = t105 then ((contangolaw43_size.f (rd y106 x12_2)).bind fun t112=>((contangolaw43_size.f t102).bind fun t113=>(if t112 ≤ t113 then (none) else (contangolaw43_HedgeLeast.l0 kj17 a0_0 a0_1 a0_2 t102 t105 y106 (wrap64 (x12_2 + 1)))))) else (contangolaw43_HedgeLeast.l0 kj17 a0_0 a0_1 a0_2 t102 t105 y106 (wrap64 (x12_2 + 1))))) = some r:=H
            have A23:=Aside0.mk A230
            clear A230
            by_cases c24:t111 < t105
            ·rw [if_pos c24] at H
             exact absurd H (by simp)
            ·rw [if_neg c24] at H
             have c24b0:decide (t111 < t105) = false:=decide_eq_false c24
             clear c24
             by_cases c25:t111 = t105
             ·rw [if_pos c25] at H
              have c25b0:(t111 == t105) = true:=beq_iff_eq.mpr c25
              have c25b1:(t111 != t105) = false:=bne_eq_false_iff_eq.mpr c25
              clear c25
              replace H:=Option.bind_eq_some_iff.mp H
              obtain ⟨t112,A260,H⟩:=H
              replace H:((contangolaw43_size.f t102).bind fun t113=>(if t112 ≤ t113 then (none) else (contangolaw43_HedgeLeast.l0 kj17 a0_0 a0_1 a0_2 t102 t105 y106 (wrap64 (x12_2 + 1))))) = some r:=H
              have A26:=Aside0.mk A260
              clear A260
              replace H:=Option.bind_eq_some_iff.mp H
              obtain ⟨t113,A270,H⟩:=H
              replace H:(if t112 ≤ t113 then (none) else (contangolaw43_HedgeLeast.l0 kj17 a0_0 a0_1 a0_2 t102 t105 y106 (wrap64 (x12_2 + 1)))) = some r:=H
              have A27:=Aside0.mk A270
              clear A270
              by_cases c28:t112 ≤ t113
              ·rw [if_pos c28] at H
               exact absurd H (by simp)
              ·rw [if_neg c28] at H
               have c28b0:decide (t112 ≤ t113) = false:=decide_eq_false c28
               clear c28
               have H':=Aside0.mk H
               clear H
               go_wp2_with (first|(go_at_call 23;(with_reducible refine (contangolaw43_size.calls (wrap64 (a0_0 + (wrap64 ((rd y106 x12_2) * a0_1)))) t111 _ A23.out).mono ?_);rintro e w' ⟨rfl,⟨nd,rfl⟩⟩;(try first|exact ⟨rfl,_,World.drewN_drewN _ _ _⟩|exact ⟨rfl,_,Eq.trans (World.drewN_drewN _ _ _) (congrArg (World.drewN _) (Nat.add_assoc _ _ _))⟩))|(go_at_call 23;(with_reducible refine (contangolaw43_size.calls (rd y106 x12_2) t112 _ A26.out).mono ?_);rintro e w' ⟨rfl,⟨nd,rfl⟩⟩;(try first|exact ⟨rfl,_,World.drewN_drewN _ _ _⟩|exact ⟨rfl,_,Eq.trans (World.drewN_drewN _ _ _) (congrArg (World.drewN _) (Nat.add_assoc _ _ _))⟩))|(go_at_call 23;(with_reducible refine (contangolaw43_size.calls t102 t113 _ A27.out).mono ?_);rintro e w' ⟨rfl,⟨nd,rfl⟩⟩;(try first|exact ⟨rfl,_,World.drewN_drewN _ _ _⟩|exact ⟨rfl,_,Eq.trans (World.drewN_drewN _ _ _) (congrArg (World.drewN _) (Nat.add_assoc _ _ _))⟩)))
               repeat (go_quiet (first|(go_at_call 23;(with_reducible refine (contangolaw43_size.calls (wrap64 (a0_0 + (wrap64 ((rd y106 x12_2) * a0_1)))) t111 _ A23.out).mono ?_);rintro e w' ⟨rfl,⟨nd,rfl⟩⟩;(try first|exact ⟨rfl,_,World.drewN_drewN _ _ _⟩|exact ⟨rfl,_,Eq.trans (World.drewN_drewN _ _ _) (congrArg (World.drewN _) (Nat.add_assoc _ _ _))⟩))|(go_at_call 23;(with_reducible refine (contangolaw43_size.calls (rd y106 x12_2) t112 _ A26.out).mono ?_);rintro e w' ⟨rfl,⟨nd,rfl⟩⟩;(try first|exact ⟨rfl,_,World.drewN_drewN _ _ _⟩|exact ⟨rfl,_,Eq.trans (World.drewN_drewN _ _ _) (congrArg (World.drewN _) (Nat.add_assoc _ _ _))⟩))|(go_at_call 23;(with_reducible refine (contangolaw43_size.calls t102 t113 _ A27.out).mono ?_);rintro e w' ⟨rfl,⟨nd,rfl⟩⟩;(try first|exact ⟨rfl,_,World.drewN_drewN _ _ _⟩|exact ⟨rfl,_,Eq.trans (World.drewN_drewN _ _ _) (congrArg (World.drewN _) (Nat.add_assoc _ _ _))⟩)));try go_wp2_with (first|(go_at_call 23;(with_reducible refine (contangolaw43_size.calls (wrap64 (a0_0 + (wrap64 ((rd y106 x12_2) * a0_1)))) t111 _ A23.out).mono ?_);rintro e w' ⟨rfl,⟨nd,rfl⟩⟩;(try first|exact ⟨rfl,_,World.drewN_drewN _ _ _⟩|exact ⟨rfl,_,Eq.trans (World.drewN_drewN _ _ _) (congrArg (World.drewN _) (Nat.add_assoc _ _ _))⟩))|(go_at_call 23;(with_reducible refine (contangolaw43_size.calls (rd y106 x12_2) t112 _ A26.out).mono ?_);rintro e w' ⟨rfl,⟨nd,rfl⟩⟩;(try first|exact ⟨rfl,_,World.drewN_drewN _ _ _⟩|exact ⟨rfl,_,Eq.trans (World.drewN_drewN _ _ _) (congrArg (World.drewN _) (Nat.add_assoc _ _ _))⟩))|(go_at_call 23;(with_reducible refine (contangolaw43_size.calls t102 t113 _ A27.out).mono ?_);rintro e w' ⟨rfl,⟨nd,rfl⟩⟩;(try first|exact ⟨rfl,_,World.drewN_drewN _ _ _⟩|exact ⟨rfl,_,Eq.trans (World.drewN_drewN _ _ _) (congrArg (World.drewN _) (Nat.add_assoc _ _ _))⟩))))
               go_roundg kj17
               case measure=>have:=HJ4.out;have:=HK2.out;have:=HJ17.out;omega
               case rel=>exact ⟨(wrap64 (x12_2 + 1)),(by first|rfl|(simp;done)|(simp [*];done)),H',⟨by have:=HJ4.out;have:=HK2.out;have:=HJ17.out;omega⟩,⟨by (with_reducible repeat (first|apply Kd.R_alloc|apply Kd.R_drewN|apply Kd.R_drew));exact HO_11.out⟩,⟨by (with_reducible repeat (first|refine blk_drewN ?_ _|refine blk_drew ?_|refine blk_alloc ?_ _));exact BK101.out⟩,⟨by repeat (first|(with_reducible first|exact HB.out|apply below_alloc|apply pw_below_drewN|apply below_drew1|refine below_set ?_ GE101.out)|exact HB.out)⟩⟩
             ·rw [if_neg c25] at H
              have c25b0:(t111 == t105) = false:=beq_eq_false_iff_ne.mpr c25
              have c25b1:(t111 != t105) = true:=bne_iff_ne.mpr c25
              have H':=Aside0.mk H
              clear H
              go_wp2_with (first|(go_at_call 23;(with_reducible refine (contangolaw43_size.calls (wrap64 (a0_0 + (wrap64 ((rd y106 x12_2) * a0_1)))) t111 _ A23.out).mono ?_);rintro e w' ⟨rfl,⟨nd,rfl⟩⟩;(try first|exact ⟨rfl,_,World.drewN_drewN _ _ _⟩|exact ⟨rfl,_,Eq.trans (World.drewN_drewN _ _ _) (congrArg (World.drewN _) (Nat.add_assoc _ _ _))⟩)))
              repeat (go_quiet (first|(go_at_call 23;(with_reducible refine (contangolaw43_size.calls (wrap64 (a0_0 + (wrap64 ((rd y106 x12_2) * a0_1)))) t111 _ A23.out).mono ?_);rintro e w' ⟨rfl,⟨nd,rfl⟩⟩;(try first|exact ⟨rfl,_,World.drewN_drewN _ _ _⟩|exact ⟨rfl,_,Eq.trans (World.drewN_drewN _ _ _) (congrArg (World.drewN _) (Nat.add_assoc _ _ _))⟩)));try go_wp2_with (first|(go_at_call 23;(with_reducible refine (contangolaw43_size.calls (wrap64 (a0_0 + (wrap64 ((rd y106 x12_2) * a0_1)))) t111 _ A23.out).mono ?_);rintro e w' ⟨rfl,⟨nd,rfl⟩⟩;(try first|exact ⟨rfl,_,World.drewN_drewN _ _ _⟩|exact ⟨rfl,_,Eq.trans (World.drewN_drewN _ _ _) (congrArg (World.drewN _) (Nat.add_assoc _ _ _))⟩))))
              go_roundg kj17
              case measure=>have:=HJ4.out;have:=HK2.out;have:=HJ17.out;omega
              case rel=>exact ⟨(wrap64 (x12_2 + 1)),(by first|rfl|(simp;done)|(simp [*];done)),H',⟨by have:=HJ4.out;have:=HK2.out;have:=HJ17.out;omega⟩,⟨by (with_reducible repeat (first|apply Kd.R_alloc|apply Kd.R_drewN|apply Kd.R_drew));exact HO_11.out⟩,⟨by (with_reducible repeat (first|refine blk_drewN ?_ _|refine blk_drew ?_|refine blk_alloc ?_ _));exact BK101.out⟩,⟨by repeat (first|(with_reducible first|exact HB.out|apply below_alloc|apply pw_below_drewN|apply below_drew1|refine below_set ?_ GE101.out)|exact HB.out)⟩⟩
        ·rw [if_neg c17] at H
         exact absurd H (by simp)
       ·rw [if_neg c16] at H
        have c16b0:decide (x12_2 < (y106.length:Int)) = false:=decide_eq_false c16
        clear c16
        replace H:=Option.bind_eq_some_iff.mp H
        obtain ⟨t109,A290,H⟩:=H
        replace H:(some t109) = some r:=H
        have A29:=Aside0.mk A290
        clear A290
        obtain rfl:=Option.some.inj H
        obtain ⟨Ao30,co30,eo30⟩:=Kd.R_slice HO_11.out
        subst eo30
        go_wp2_with (first|(go_at_call 14;(with_reducible refine (contangolaw43_goes.calls k2  t109 _ A29.out).mono ?_);rintro e w31 ⟨rfl,hb⟩;have n0_:=Aside0.mk (Kd.R_below (by (with_reducible repeat (first|apply Kd.R_alloc|apply Kd.R_drewN|apply Kd.R_drew));exact HO_11.out) hb);have n1_:=Aside0.mk (blk_below (g:=gb101) (o:=.cells #[.int .i64 a0_0,.int .i64 a0_1,.int .i64 a0_2] 50 (0,0)) (by (with_reducible repeat (first|refine blk_drewN ?_ _|refine blk_drew ?_|refine blk_alloc ?_ _));exact BK101.out) hb);have n2_:=Aside0.mk (below_step (by repeat (first|(with_reducible first|exact HB.out|apply below_alloc|apply pw_below_drewN|apply below_drew1|refine below_set ?_ GE101.out)|exact HB.out)) hb);clear HO_11;clear BK101;clear HB;have HO_11:=n0_;have BK101:=n1_;have HB:=n2_;clear n0_ n1_ n2_;(try clear hb);(try clear hb2);(try clear hk);(try clear hi)))
        repeat (go_quiet (first|(go_at_call 14;(with_reducible refine (contangolaw43_goes.calls k2  t109 _ A29.out).mono ?_);rintro e w31 ⟨rfl,hb⟩;have n0_:=Aside0.mk (Kd.R_below (by (with_reducible repeat (first|apply Kd.R_alloc|apply Kd.R_drewN|apply Kd.R_drew));exact HO_11.out) hb);have n1_:=Aside0.mk (blk_below (g:=gb101) (o:=.cells #[.int .i64 a0_0,.int .i64 a0_1,.int .i64 a0_2] 50 (0,0)) (by (with_reducible repeat (first|refine blk_drewN ?_ _|refine blk_drew ?_|refine blk_alloc ?_ _));exact BK101.out) hb);have n2_:=Aside0.mk (below_step (by repeat (first|(with_reducible first|exact HB.out|apply below_alloc|apply pw_below_drewN|apply below_drew1|refine below_set ?_ GE101.out)|exact HB.out)) hb);clear HO_11;clear BK101;clear HB;have HO_11:=n0_;have BK101:=n1_;have HB:=n2_;clear n0_ n1_ n2_;(try clear hb);(try clear hb2);(try clear hk);(try clear hi)));try go_wp2_with (first|(go_at_call 14;(with_reducible refine (contangolaw43_goes.calls k2  t109 _ A29.out).mono ?_);rintro e w31 ⟨rfl,hb⟩;have n0_:=Aside0.mk (Kd.R_below (by (with_reducible repeat (first|apply Kd.R_alloc|apply Kd.R_drewN|apply Kd.R_drew));exact HO_11.out) hb);have n1_:=Aside0.mk (blk_below (g:=gb101) (o:=.cells #[.int .i64 a0_0,.int .i64 a0_1,.int .i64 a0_2] 50 (0,0)) (by (with_reducible repeat (first|refine blk_drewN ?_ _|refine blk_drew ?_|refine blk_alloc ?_ _));exact BK101.out) hb);have n2_:=Aside0.mk (below_step (by repeat (first|(with_reducible first|exact HB.out|apply below_alloc|apply pw_below_drewN|apply below_drew1|refine below_set ?_ GE101.out)|exact HB.out)) hb);clear HO_11;clear BK101;clear HB;have HO_11:=n0_;have BK101:=n1_;have HB:=n2_;clear n0_ n1_ n2_;(try clear hb);(try clear hb2);(try clear hk);(try clear hi))))
        go_ret
        exact ⟨by first|rfl|(simp [errW_none,errW_some] <;> rfl)|(simp [*,errW_none,errW_some] <;> rfl),by repeat (first|(with_reducible first|exact HB.out|apply below_alloc|apply pw_below_drewN|apply below_drew1|refine below_set ?_ GE101.out)|exact HB.out)⟩
 ·rw [if_neg c4] at H
  have c4b0:(t103 == 0) = false:=beq_eq_false_iff_ne.mpr c4
  have c4b1:(t103 != 0) = true:=bne_iff_ne.mpr c4
  by_cases c32:t102 = 0
  ·rw [if_pos c32] at H
   have c32b0:(t102 == 0) = true:=beq_iff_eq.mpr c32
   have c32b1:(t102 != 0) = false:=bne_eq_false_iff_eq.mpr c32
   clear c32
   replace H:=Option.bind_eq_some_iff.mp H
   obtain ⟨t104,A330,H⟩:=H
   replace H:(some t104) = some r:=H
   have A33:=Aside0.mk A330
   clear A330
   obtain rfl:=Option.some.inj H
   go_enter Try.func5,Try.ntmps5
   go_wp2_with (first|((with_reducible refine gate_dst (N:=2) rfl ?_);refine box_event ?hg (N:=2) ?hd (cs:=#[.int .i64 a0_0,.int .i64 a0_1,.int .i64 a0_2]) (t:=50) ?hr ?_;(case hd=>rfl);(case hg=>rfl);(case hr=>first|(go_simp;done)|(go_simp;rfl));intro gb101 hg w34 hbox hb;have n0_:=Aside0.mk (below_step (by repeat (first|(with_reducible first|exact HB.out|apply below_alloc|apply pw_below_drewN|apply below_drew1)|exact HB.out)) hb);have n1_:=Aside0.mk (hbox);have n2_:=Aside0.mk ((by rw [hg];exact (below_size (by repeat (first|(with_reducible first|exact HB.out|apply below_alloc|apply pw_below_drewN|apply below_drew1)|exact HB.out))):w.heap.size ≤ gb101));have n3_:=Aside0.mk ((by rw [hg];exact (below_size (by repeat (first|(with_reducible first|exact HB.out|apply below_alloc|apply pw_below_drewN|apply below_drew1)|exact HB.out))):w.heap.size ≤ gb101));clear HB;have HB:=n0_;have BK101:=n1_;have GW101:=n2_;have GE101:=n3_;clear n0_ n1_ n2_ n3_;clear hb hbox hg;have hcz35_0:w34.cell? ⟨gb101,0,none⟩ = some (.int .i64 a0_0):=(blk_cell BK101.out 0).trans rfl;have hcz35_1:w34.cell? ⟨gb101,1,none⟩ = some (.int .i64 a0_1):=(blk_cell BK101.out 1).trans rfl;have hcz35_2:w34.cell? ⟨gb101,2,none⟩ = some (.int .i64 a0_2):=(blk_cell BK101.out 2).trans rfl;have hfz35_0:=blk_frozen BK101.out 0;have hfz35_1:=blk_frozen BK101.out 1;have hfz35_2:=blk_frozen BK101.out 2)|(go_at_call 21;(with_reducible refine (hedge_Best.calls k a0_0 a0_1 a0_2 t102 t103 _ A3.out).mono ?_);rintro e w36 ⟨rfl,hb⟩;have n0_:=Aside0.mk (blk_below (g:=gb101) (o:=.cells #[.int .i64 a0_0,.int .i64 a0_1,.int .i64 a0_2] 50 (0,0)) (by (with_reducible repeat (first|refine blk_drewN ?_ _|refine blk_drew ?_|refine blk_alloc ?_ _));exact BK101.out) hb);have n1_:=Aside0.mk (below_step (by repeat (first|(with_reducible first|exact HB.out|apply below_alloc|apply pw_below_drewN|apply below_drew1|refine below_set ?_ GE101.out)|exact HB.out)) hb);clear BK101;clear HB;have BK101:=n0_;have HB:=n1_;clear n0_ n1_;(try clear hb);(try clear hb2);(try clear hk);(try clear hi))|(go_at_call 14;(with_reducible refine (contangolaw43_goes.calls k  t104 _ A33.out).mono ?_);rintro e w37 ⟨rfl,hb⟩;have n0_:=Aside0.mk (blk_below (g:=gb101) (o:=.cells #[.int .i64 a0_0,.int .i64 a0_1,.int .i64 a0_2] 50 (0,0)) (by (with_reducible repeat (first|refine blk_drewN ?_ _|refine blk_drew ?_|refine blk_alloc ?_ _));exact BK101.out) hb);have n1_:=Aside0.mk (below_step (by repeat (first|(with_reducible first|exact HB.out|apply below_alloc|apply pw_below_drewN|apply below_drew1|refine below_set ?_ GE101.out)|exact HB.out)) hb);clear BK101;clear HB;have BK101:=n0_;have HB:=n1_;clear n0_ n1_;(try clear hb);(try clear hb2);(try clear hk);(try clear hi)))
   repeat (go_quiet (first|((with_reducible refine gate_dst (N:=2) rfl ?_);refine box_event ?hg (N:=2) ?hd (cs:=#[.int .i64 a0_0,.int .i64 a0_1,.int .i64 a0_2]) (t:=50) ?hr ?_;(case hd=>rfl);(case hg=>rfl);(case hr=>first|(go_simp;done)|(go_simp;rfl));intro gb101 hg w34 hbox hb;have n0_:=Aside0.mk (below_step (by repeat (first|(with_reducible first|exact HB.out|apply below_alloc|apply pw_below_drewN|apply below_drew1)|exact HB.out)) hb);have n1_:=Aside0.mk (hbox);have n2_:=Aside0.mk ((by rw [hg];exact (below_size (by repeat (first|(with_reducible first|exact HB.out|apply below_alloc|apply pw_below_drewN|apply below_drew1)|exact HB.out))):w.heap.size ≤ gb101));have n3_:=Aside0.mk ((by rw [hg];exact (below_size (by repeat (first|(with_reducible first|exact HB.out|apply below_alloc|apply pw_below_drewN|apply below_drew1)|exact HB.out))):w.heap.size ≤ gb101));clear HB;have HB:=n0_;have BK101:=n1_;have GW101:=n2_;have GE101:=n3_;clear n0_ n1_ n2_ n3_;clear hb hbox hg;have hcz35_0:w34.cell? ⟨gb101,0,none⟩ = some (.int .i64 a0_0):=(blk_cell BK101.out 0).trans rfl;have hcz35_1:w34.cell? ⟨gb101,1,none⟩ = some (.int .i64 a0_1):=(blk_cell BK101.out 1).trans rfl;have hcz35_2:w34.cell? ⟨gb101,2,none⟩ = some (.int .i64 a0_2):=(blk_cell BK101.out 2).trans rfl;have hfz35_0:=blk_frozen BK101.out 0;have hfz35_1:=blk_frozen BK101.out 1;have hfz35_2:=blk_frozen BK101.out 2)|(go_at_call 21;(with_reducible refine (hedge_Best.calls k a0_0 a0_1 a0_2 t102 t103 _ A3.out).mono ?_);rintro e w36 ⟨rfl,hb⟩;have n0_:=Aside0.mk (blk_below (g:=gb101) (o:=.cells #[.int .i64 a0_0,.int .i64 a0_1,.int .i64 a0_2] 50 (0,0)) (by (with_reducible repeat (first|refine blk_drewN ?_ _|refine blk_drew ?_|refine blk_alloc ?_ _));exact BK101.out) hb);have n1_:=Aside0.mk (below_step (by repeat (first|(with_reducible first|exact HB.out|apply below_alloc|apply pw_below_drewN|apply below_drew1|refine below_set ?_ GE101.out)|exact HB.out)) hb);clear BK101;clear HB;have BK101:=n0_;have HB:=n1_;clear n0_ n1_;(try clear hb);(try clear hb2);(try clear hk);(try clear hi))|(go_at_call 14;(with_reducible refine (contangolaw43_goes.calls k  t104 _ A33.out).mono ?_);rintro e w37 ⟨rfl,hb⟩;have n0_:=Aside0.mk (blk_below (g:=gb101) (o:=.cells #[.int .i64 a0_0,.int .i64 a0_1,.int .i64 a0_2] 50 (0,0)) (by (with_reducible repeat (first|refine blk_drewN ?_ _|refine blk_drew ?_|refine blk_alloc ?_ _));exact BK101.out) hb);have n1_:=Aside0.mk (below_step (by repeat (first|(with_reducible first|exact HB.out|apply below_alloc|apply pw_below_drewN|apply below_drew1|refine below_set ?_ GE101.out)|exact HB.out)) hb);clear BK101;clear HB;have BK101:=n0_;have HB:=n1_;clear n0_ n1_;(try clear hb);(try clear hb2);(try clear hk);(try clear hi)));try go_wp2_with (first|((with_reducible refine gate_dst (N:=2) rfl ?_);refine box_event ?hg (N:=2) ?hd (cs:=#[.int .i64 a0_0,.int .i64 a0_1,.int .i64 a0_2]) (t:=50) ?hr ?_;(case hd=>rfl);(case hg=>rfl);(case hr=>first|(go_simp;done)|(go_simp;rfl));intro gb101 hg w34 hbox hb;have n0_:=Aside0.mk (below_step (by repeat (first|(with_reducible first|exact HB.out|apply below_alloc|apply pw_below_drewN|apply below_drew1)|exact HB.out)) hb);have n1_:=Aside0.mk (hbox);have n2_:=Aside0.mk ((by rw [hg];exact (below_size (by repeat (first|(with_reducible first|exact HB.out|apply below_alloc|apply pw_below_drewN|apply below_drew1)|exact HB.out))):w.heap.size ≤ gb101));have n3_:=Aside0.mk ((by rw [hg];exact (below_size (by repeat (first|(with_reducible first|exact HB.out|apply below_alloc|apply pw_below_drewN|apply below_drew1)|exact HB.out))):w.heap.size ≤ gb101));clear HB;have HB:=n0_;have BK101:=n1_;have GW101:=n2_;have GE101:=n3_;clear n0_ n1_ n2_ n3_;clear hb hbox hg;have hcz35_0:w34.cell? ⟨gb101,0,none⟩ = some (.int .i64 a0_0):=(blk_cell BK101.out 0).trans rfl;have hcz35_1:w34.cell? ⟨gb101,1,none⟩ = some (.int .i64 a0_1):=(blk_cell BK101.out 1).trans rfl;have hcz35_2:w34.cell? ⟨gb101,2,none⟩ = some (.int .i64 a0_2):=(blk_cell BK101.out 2).trans rfl;have hfz35_0:=blk_frozen BK101.out 0;have hfz35_1:=blk_frozen BK101.out 1;have hfz35_2:=blk_frozen BK101.out 2)|(go_at_call 21;(with_reducible refine (hedge_Best.calls k a0_0 a0_1 a0_2 t102 t103 _ A3.out).mono ?_);rintro e w36 ⟨rfl,hb⟩;have n0_:=Aside0.mk (blk_below (g:=gb101) (o:=.cells #[.int .i64 a0_0,.int .i64 a0_1,.int .i64 a0_2] 50 (0,0)) (by (with_reducible repeat (first|refine blk_drewN ?_ _|refine blk_drew ?_|refine blk_alloc ?_ _));exact BK101.out) hb);have n1_:=Aside0.mk (below_step (by repeat (first|(with_reducible first|exact HB.out|apply below_alloc|apply pw_below_drewN|apply below_drew1|refine below_set ?_ GE101.out)|exact HB.out)) hb);clear BK101;clear HB;have BK101:=n0_;have HB:=n1_;clear n0_ n1_;(try clear hb);(try clear hb2);(try clear hk);(try clear hi))|(go_at_call 14;(with_reducible refine (contangolaw43_goes.calls k  t104 _ A33.out).mono ?_);rintro e w37 ⟨rfl,hb⟩;have n0_:=Aside0.mk (blk_below (g:=gb101) (o:=.cells #[.int .i64 a0_0,.int .i64 a0_1,.int .i64 a0_2] 50 (0,0)) (by (with_reducible repeat (first|refine blk_drewN ?_ _|refine blk_drew ?_|refine blk_alloc ?_ _));exact BK101.out) hb);have n1_:=Aside0.mk (below_step (by repeat (first|(with_reducible first|exact HB.out|apply below_alloc|apply pw_below_drewN|apply below_drew1|refine below_set ?_ GE101.out)|exact HB.out)) hb);clear BK101;clear HB;have BK101:=n0_;have HB:=n1_;clear n0_ n1_;(try clear hb);(try clear hb2);(try clear hk);(try clear hi))))
   go_ret
   exact ⟨by first|rfl|(simp [errW_none,errW_some] <;> rfl)|(simp [*,errW_none,errW_some] <;> rfl),by repeat (first|(with_reducible first|exact HB.out|apply below_alloc|apply pw_below_drewN|apply below_drew1|refine below_set ?_ GE101.out)|exact HB.out)⟩
  ·rw [if_neg c32] at H
   exact absurd H (by simp)
end Go.Proofs.Ytbgeceiddcokmaa.X
end
section
namespace Go.Proofs.Ytbgeceiddcokmaa.P
set_option linter.unusedVariables false
set_option linter.unusedSimpArgs false
open Go.RowKit Go.Proofs.YtbgeceiddcokmaaW.PrintWords Go.Proofs.YtbgeceiddcokmaaW.PrintMore Go.Proofs.Ytbgeceiddcokmaa.X
def bestAll (d o m:Int):Int × Int:=if -1099511627776 ≤ d ∧ d ≤ 1099511627776 then (if askE o m = 0 then (bestS d o m,0) else (0,askE o m)) else (0,2)
theorem bestAll_f (d o m:Int):Ev (fun k=>hedge_Best.f k d o m) (bestAll d o m):=by
 refine Ev_succ ?_
 unfold bestAll
 by_cases hd:-1099511627776 ≤ d ∧ d ≤ 1099511627776
 ·rw [if_pos hd]
  by_cases ha:askE o m = 0
  ·rw [if_pos ha]
   exact Ev_all (fun k=>best_f k hd.1 hd.2 (askE_ok ha))
  ·rw [if_neg ha]
   refine Ev_all (fun k=>?_)
   unfold hedge_Best.f
   rw [within_f d _ (by omega) (by omega)]
   have e1:(decide (-1099511627776 ≤ d) && decide (d ≤ 1099511627776)) = true:=by rw [Bool.and_eq_true,decide_eq_true_eq,decide_eq_true_eq];exact hd
   simp only [Option.bind_some,e1,if_true,ask_f,if_neg ha]
 ·rw [if_neg hd]
  refine Ev_all (fun k=>?_)
  unfold hedge_Best.f
  rw [within_f d _ (by omega) (by omega)]
  have e1:(decide (-1099511627776 ≤ d) && decide (d ≤ 1099511627776)) = false:=by rw [← Bool.not_eq_true,Bool.and_eq_true,decide_eq_true_eq,decide_eq_true_eq];exact hd
  simp only [Option.bind_some,e1,Bool.false_eq_true,if_false]
end Go.Proofs.Ytbgeceiddcokmaa.P
end
section
namespace Go.Proofs.Ytbgeceiddcokmaa.P
set_option linter.unusedVariables false
set_option linter.unusedSimpArgs false
open Go.RowKit Go.Proofs.YtbgeceiddcokmaaW.PrintWords Go.Proofs.YtbgeceiddcokmaaW.PrintMore Go.Proofs.Ytbgeceiddcokmaa.X
abbrev HG:=S92
structure Act3 where
 q:Nat
 h:HG
 b:Int
end Go.Proofs.Ytbgeceiddcokmaa.P
end
section
namespace Go.Proofs.Ytbgeceiddcokmaa.P
set_option linter.unusedVariables false
set_option linter.unusedSimpArgs false
open Go.RowKit Go.Proofs.YtbgeceiddcokmaaW.PrintWords Go.Proofs.YtbgeceiddcokmaaW.PrintMore Go.Proofs.Ytbgeceiddcokmaa.X
theorem sizeL_f (n:Int) (h:-4611686018427387904 ≤ n) (h':n ≤ 4611686018427387904):contangolaw43_size.f n = some (absI n):=by
 unfold contangolaw43_size.f absI
 by_cases c:n < 0
 ·rw [if_pos c,if_pos c,w_id (by omega) (by omega)]
 ·rw [if_neg c,if_neg c]
theorem mul_small {k o:Int} (h1:-1048576 ≤ k) (h2:k ≤ 1048576) (h3:-1000 ≤ o) (h4:o ≤ 1000):-1048576000 ≤ k * o ∧ k * o ≤ 1048576000:=by
 have key:∀ a b:Int,0 ≤ a → a ≤ 1048576 → 0 ≤ b → b ≤ 1000 → 0 ≤ a * b ∧ a * b ≤ 1048576000:=fun a b h1 h2 h3 h4 =>
  ⟨Int.mul_nonneg h1 h3,Int.le_trans (Int.mul_le_mul h2 h4 h3 (by omega)) (by decide)⟩
 by_cases c1:0 ≤ k <;> by_cases c2:0 ≤ o
 ·have:=key _ _ c1 h2 c2 h4;omega
 ·have:=key k (-o) c1 h2 (by omega) (by omega);rw [Int.mul_neg] at this;omega
 ·have:=key (-k) o (by omega) (by omega) c2 h4;rw [Int.neg_mul] at this;omega
 ·have:=key (-k) (-o) (by omega) (by omega) (by omega) (by omega);rw [Int.neg_mul,Int.mul_neg,Int.neg_neg] at this;omega
end Go.Proofs.Ytbgeceiddcokmaa.P
end
section
namespace Go.Proofs.Ytbgeceiddcokmaa.P
open Go.RowKit Go.Proofs.YtbgeceiddcokmaaW.PrintWords Go.Proofs.YtbgeceiddcokmaaW.PrintMore Go.Proofs.Ytbgeceiddcokmaa.X
set_option maxRecDepth 100000 in
theorem goes43:Ev (fun k=>contangolaw43_goes.f k) true:=Ev.of (k:=40) (contangolaw43_goes.mono) (by decide +kernel)
end Go.Proofs.Ytbgeceiddcokmaa.P
end
section
namespace Go.Proofs.Ytbgeceiddcokmaa.Pure
set_option linter.unusedVariables false
set_option linter.unusedSimpArgs false
open Go.RowKit Go.Proofs.YtbgeceiddcokmaaW.PrintWords Go.Proofs.YtbgeceiddcokmaaW.PrintMore Go.Proofs.Ytbgeceiddcokmaa.X Go.Proofs.Ytbgeceiddcokmaa.P
theorem absI_neg (x:Int):absI (-x) = absI x:=by
  unfold absI
  by_cases h:x < 0
  · rw [if_pos h,if_neg (by omega)]
  · rw [if_neg h]
    by_cases h2:-x < 0
    · rw [if_pos h2];omega
    · rw [if_neg h2];omega
theorem absI_of {x:Int} (h:0 ≤ x):absI x = x:=by unfold absI;rw [if_neg (by omega)]
theorem absI_of' {x:Int} (h:x ≤ 0):absI x = -x:=by
  unfold absI
  by_cases c:x < 0
  · rw [if_pos c]
  · rw [if_neg c];omega
theorem lots_least {d o m j:Int} (ho:askOk o m) (hj:-m ≤ j) (hj':j ≤ m) (hne:j ≠ lotsQ d o m) :
    absI (absI d - lotsQ d o m * absI o) < absI (absI d - j * absI o) ∨ (absI (absI d - lotsQ d o m * absI o) = absI (absI d - j * absI o) ∧ lotsQ d o m < absI j):=by
  have hb:=lotsQ_bounds (d:=d) ho
  unfold askOk at ho
  have hO:=absI_pos ho.1
  have hA:=absI_nonneg d
  have h0:0 ≤ absI d / absI o:=Int.ediv_nonneg hA (by omega)
  have hm:=Int.emod_add_mul_ediv (absI d) (absI o)
  have h1:=Int.emod_nonneg (absI d) (show absI o ≠ 0 by omega)
  have h2:=Int.emod_lt_of_pos (absI d) hO
  rw [Int.mul_comm] at hm
  have e1:(absI d / absI o + 1) * absI o = absI d / absI o * absI o + absI o:=by rw [Int.add_mul,Int.one_mul]
  have e2:(absI d / absI o + 1 + 1) * absI o = absI d / absI o * absI o + absI o + absI o:=by rw [Int.add_mul,Int.one_mul,e1]
  have e3:(absI d / absI o - 1) * absI o = absI d / absI o * absI o - absI o:=by rw [Int.sub_mul,Int.one_mul]
  have mono:∀ a b:Int,a ≤ b → a * absI o ≤ b * absI o:=fun a b h=>Int.mul_le_mul_of_nonneg_right h (by omega)
  by_cases c:absI d / absI o < m ∧ (absI d / absI o + 1) * absI o - absI d < absI d - absI d / absI o * absI o
  · have hQ:lotsQ d o m = absI d / absI o + 1:=by unfold lotsQ;rw [if_pos c]
    rw [hQ,e1]
    rw [hQ,e1] at hb
    rw [e1] at c
    obtain ⟨p,hp⟩:∃ p,p = absI d / absI o * absI o:=⟨_,rfl⟩
    rw [← hp] at hm e1 e2 e3 hb c ⊢
    left
    rw [absI_of' (show absI d - (p + absI o) ≤ 0 by omega)]
    by_cases hlt:j ≤ absI d / absI o
    · have:=mono _ _ hlt
      rw [← hp] at this
      rw [absI_of (show 0 ≤ absI d - j * absI o by omega)]
      omega
    · have:=mono (absI d / absI o + 1 + 1) j (by omega)
      rw [e2] at this
      rw [absI_of' (show absI d - j * absI o ≤ 0 by omega)]
      omega
  · by_cases c2:m < absI d / absI o
    · have hQ:lotsQ d o m = m:=by unfold lotsQ;rw [if_neg c,if_pos c2]
      rw [hQ] at hne
      rw [hQ]
      left
      have g1:=mono m (absI d / absI o) (by omega)
      have g2:=mono j (m - 1) (by omega)
      rw [Int.sub_mul,Int.one_mul] at g2
      rw [absI_of (show 0 ≤ absI d - m * absI o by omega),absI_of (show 0 ≤ absI d - j * absI o by omega)]
      omega
    · have hQ:lotsQ d o m = absI d / absI o:=by unfold lotsQ;rw [if_neg c,if_neg c2]
      rw [hQ] at hne
      rw [hQ]
      rw [e1] at c
      obtain ⟨p,hp⟩:∃ p,p = absI d / absI o * absI o:=⟨_,rfl⟩
      rw [← hp] at hm e1 e2 e3 c ⊢
      rw [absI_of (show 0 ≤ absI d - p by omega)]
      by_cases hlt:j ≤ absI d / absI o - 1
      · have:=mono _ _ hlt
        rw [e3] at this
        left
        rw [absI_of (show 0 ≤ absI d - j * absI o by omega)]
        omega
      · have g:=mono (absI d / absI o + 1) j (by omega)
        rw [e1] at g
        rw [absI_of' (show absI d - j * absI o ≤ 0 by omega),absI_of (show 0 ≤ j by omega)]
        omega
theorem any_left (d o k:Int) (ho:o ≠ 0):∃ j:Int,absI j = absI k ∧ absI (d + k * o) = absI (absI d - j * absI o) ∧ (∀ k':Int,(if decide (d > 0) = decide (o > 0) then -k' else k') = k → k' = j) ∧ (j = k ∨ j = -k):=by
  by_cases c1:d > 0 <;> by_cases c2:o > 0
  · refine ⟨-k,absI_neg k,?_,fun k' h=>?_,.inr rfl⟩
    · rw [absI_of (show 0 ≤ d by omega),absI_of (show 0 ≤ o by omega),Int.neg_mul];congr 1;omega
    · rw [if_pos (by rw [decide_eq_true c1,decide_eq_true c2])] at h;omega
  · refine ⟨k,rfl,?_,fun k' h=>?_,.inl rfl⟩
    · rw [absI_of (show 0 ≤ d by omega),absI_of' (show o ≤ 0 by omega),Int.mul_neg];congr 1;omega
    · rw [if_neg (by rw [decide_eq_true c1,decide_eq_false c2];decide)] at h;omega
  · refine ⟨k,rfl,?_,fun k' h=>?_,.inl rfl⟩
    · rw [absI_of' (show d ≤ 0 by omega),absI_of (show 0 ≤ o by omega),← absI_neg];congr 1;omega
    · rw [if_neg (by rw [decide_eq_false c1,decide_eq_true c2];decide)] at h;omega
  · refine ⟨-k,absI_neg k,?_,fun k' h=>?_,.inr rfl⟩
    · rw [absI_of' (show d ≤ 0 by omega),absI_of' (show o ≤ 0 by omega),Int.mul_neg,Int.neg_mul,Int.neg_neg,← absI_neg];congr 1;omega
    · rw [if_pos (by rw [decide_eq_false c1,decide_eq_false c2])] at h;omega
theorem best_least {d o m k:Int} (ho:askOk o m) (hk:-m ≤ k) (hk':k ≤ m) (hne:k ≠ bestS d o m) :
    absI (d + bestS d o m * o) < absI (d + k * o) ∨ (absI (d + bestS d o m * o) = absI (d + k * o) ∧ absI (bestS d o m) < absI k):=by
  obtain ⟨j,e1,e2,e3,e4⟩:=any_left d o k ho.1
  obtain ⟨n,f1,f2,f3,f4⟩:=any_left d o (bestS d o m) ho.1
  have hn:lotsQ d o m = n:=f3 _ rfl
  have hb:=lotsQ_bounds (d:=d) ho
  have hj:j ≠ lotsQ d o m:=by
    intro e
    apply hne
    obtain ⟨i,g1,g2,g3,g4⟩:=any_left d o k ho.1
    unfold bestS
    rw [← e]
    by_cases c:decide (d > 0) = decide (o > 0)
    · rw [if_pos c]
      have:=e3 (-k) (by rw [if_pos c];omega)
      omega
    · rw [if_neg c]
      exact e3 k (by rw [if_neg c])
  have hl:=lots_least (d:=d) ho (j:=j) (by omega) (by omega) hj
  rw [e2,f2,← hn,← e1]
  have h5:absI (bestS d o m) = lotsQ d o m:=by rw [← f1,← hn,absI_of hb.1]
  rw [h5]
  exact hl
theorem leastLoop {d o m:Int} (ho:askOk o m) (h1:-1099511627776 ≤ d) (h2:d ≤ 1099511627776) (xs:List Int) (hx:xs.length ≤ 100) :
    ∀ (e i:Nat),i + e = xs.length → Ev (fun k=>contangolaw43_HedgeLeast.l0 k d o m (bestS d o m) (absI (d + bestS d o m * o)) xs i) true
  | 0,i,hi=>by
    refine Ev_succ ?_
    simp only [contangolaw43_HedgeLeast.l0,if_neg (show ¬ ((i:Int) < (xs.length:Int)) by omega)]
    exact Ev_id goes43
  | e + 1,i,hi=>by
    have hlt:i < xs.length:=by omega
    have ih:=leastLoop ho h1 h2 xs hx e (i + 1) (by omega)
    have ho':=ho
    unfold askOk at ho'
    have hgo:∀ kk,Ev (fun k=>contangolaw43_HedgeLeast.j2 k d o m (bestS d o m) (absI (d + bestS d o m * o)) xs i kk true) true:=by
      intro kk
      refine Ev_succ ?_
      simp only [contangolaw43_HedgeLeast.j2,if_true,w_succ hlt (by omega)]
      exact ih
    refine Ev_succ ?_
    simp only [contangolaw43_HedgeLeast.l0,if_pos (show (i:Int) < (xs.length:Int) by omega),if_pos (show 0 ≤ (i:Int) by omega)]
    rw [w_id (x:=-m) (by omega) (by omega)]
    by_cases a1:rd xs (i:Int) < -m
    · simp only [if_pos a1];exact hgo _
    · simp only [if_neg a1]
      by_cases a2:rd xs (i:Int) > m
      · simp only [if_pos a2];exact hgo _
      · simp only [if_neg a2]
        by_cases a3:rd xs (i:Int) = bestS d o m
        · rw [a3]
          simp only [beq_self_eq_true]
          exact hgo _
        · have hf:(rd xs (i:Int) == bestS d o m) = false:=beq_eq_false_iff_ne.2 a3
          rw [hf]
          have hr:=mul_small (k:=rd xs (i:Int)) (o:=o) (by omega) (by omega) (by omega) (by omega)
          have hbb:=bestS_bounds (d:=d) ho
          have hl:=best_least (d:=d) ho (k:=rd xs (i:Int)) (by omega) (by omega) a3
          refine Ev_succ ?_
          simp only [contangolaw43_HedgeLeast.j2,Bool.false_eq_true,if_false]
          rw [w_id (x:=rd xs (i:Int) * o) (by omega) (by omega),w_id (x:=d + rd xs (i:Int) * o) (by omega) (by omega)]
          simp only [sizeL_f (d + rd xs (i:Int) * o) (by omega) (by omega),Option.bind_some,sizeL_f (rd xs (i:Int)) (by omega) (by omega),sizeL_f (bestS d o m) (by omega) (by omega),w_succ hlt (by omega)]
          rcases hl with hl|⟨hl,hl2⟩
          · simp only [if_neg (show ¬ absI (d + rd xs (i:Int) * o) < absI (d + bestS d o m * o) by omega),if_neg (show ¬ absI (d + rd xs (i:Int) * o) = absI (d + bestS d o m * o) by omega)]
            exact ih
          · simp only [if_neg (show ¬ absI (d + rd xs (i:Int) * o) < absI (d + bestS d o m * o) by omega),if_pos hl.symm,if_neg (show ¬ absI (rd xs (i:Int)) ≤ absI (bestS d o m) by omega)]
            exact ih
theorem HedgeLeast:∀ (x0:S50) (a1:Int),ok50 x0 → (Lit.int .i64 a1).wf = true → ∃ k,X.contangolaw43_HedgeLeast.f k x0.f0 x0.f1 x0.f2 a1 = some true:=by
  intro x a hx _
  obtain ⟨d,o,m⟩:=x
  apply Ev.rounds
  unfold contangolaw43_HedgeLeast.f
  refine Ev_bind (bestAll_f d o m) ?_
  unfold bestAll
  by_cases hd:-1099511627776 ≤ d ∧ d ≤ 1099511627776
  · simp only [if_pos hd]
    by_cases ha:askE o m = 0
    · have ho:=askE_ok ha
      have hb:=bestS_bounds (d:=d) ho
      have ho':=ho
      unfold askOk at ho'
      have hm:=bestS_mul (d:=d) ho
      simp only [if_pos ha,if_true]
      rw [w_id (x:=-m) (by omega) (by omega)]
      simp only [if_neg (show ¬ bestS d o m < -m by omega),if_neg (show ¬ bestS d o m > m by omega),if_neg (show ¬ bestS d o m < -1048576 by omega),decide_eq_false (show ¬ bestS d o m > 1048576 by omega)]
      refine Ev_succ ?_
      simp only [contangolaw43_HedgeLeast.j0,Bool.false_eq_true,if_false]
      rw [w_id (x:=bestS d o m * o) (by omega) (by omega),w_id (x:=d + bestS d o m * o) (by omega) (by omega)]
      simp only [sizeL_f (d + bestS d o m * o) (by omega) (by omega),Option.bind_some]
      exact leastLoop ho hd.1 hd.2 _ (by simp) 4 0 (by simp)
    · simp only [if_neg ha]
      simp only [if_true]
      exact Ev_id goes43
  · simp only [if_neg hd]
    simp only [show ¬ ((2:Int) = 0) by decide,if_false,if_true]
    exact Ev_id goes43
end Go.Proofs.Ytbgeceiddcokmaa.Pure
end
