/- For HedgeNearer: contracts, and facts on lists and numbers, that it uses (part 2). -/
import Derived.Test.YtbgeceiddcokmaaHedgeNearerc1
section
namespace Go.Proofs.Ytbgeceiddcokmaa.X
open Go.RowKit Go.Proofs.YtbgeceiddcokmaaW.PrintWords Go.Proofs.YtbgeceiddcokmaaW.PrintLast Go.Proofs.YtbgeceiddcokmaaW.PrintMore
attribute [local go_sem] max2_int min2_int max_two min_two max_three min_three max_four min_four
set_option linter.unusedVariables false
set_option linter.unusedSimpArgs false
attribute [local go_sem high] eqA41
def contangolaw43_goes.f (k:Nat)  : Option (Bool):=(hedge_Best.f k 2600 1000 9).bind fun bt101=>((hedge_Best.f k 2500 1000 9).bind fun bt103=>((hedge_Best.f k 2600 (-500) 9).bind fun bt105=>((hedge_Plan.f (([(⟨#[111,105,108]⟩:ByteArray)]:List ByteArray)) (([2600]:List Int)) (([(⟨(⟨(⟨#[111,105,108]⟩:ByteArray),1,9,0⟩:S39),1000,2⟩:S92),(⟨(⟨(⟨#[111,105,108]⟩:ByteArray),1,39,0⟩:S39),300,9⟩:S92)]:List (S92)))).bind fun bt118=>(if bt101.1 = (-3) then (if bt101.2 = 0 then (if bt103.1 = (-2) then (if bt103.2 = 0 then (if bt105.1 = 5 then (if bt105.2 = 0 then (if bt118.2.2 = 0 then ((contangoref43_Ints.f k bt118.2.1 (([0]:List Int))).bind fun t128=>(if t128 = true then (if (bt118.1.length:Int) = 2 then (if 0 < (bt118.1.length:Int) then (if (((((rd_T41 bt118.1 0).f0.f0).toList) == ([111,105,108]:List UInt8) && (((rd_T41 bt118.1 0).f0.f1) == 1 && (((rd_T41 bt118.1 0).f0.f2) == 9 && (((rd_T41 bt118.1 0).f0.f3) == 0)))) && (((rd_T41 bt118.1 0).f1) == (-2))) = true then (if 1 < (bt118.1.length:Int) then (some (((((rd_T41 bt118.1 1).f0.f0).toList) == ([111,105,108]:List UInt8) && (((rd_T41 bt118.1 1).f0.f1) == 1 && (((rd_T41 bt118.1 1).f0.f2) == 39 && (((rd_T41 bt118.1 1).f0.f3) == 0)))) && (((rd_T41 bt118.1 1).f1) == (-2)))) else (none)) else (none)) else (none)) else (none)) else (none))) else (none)) else (none)) else (none)) else (none)) else (none)) else (none)) else (none)))))
theorem contangolaw43_goes.mono:∀ k,LeO (contangolaw43_goes.f k ) (contangolaw43_goes.f (k + 1) ):=by
 intro  k
 unfold contangolaw43_goes.f
 repeat' first
   | (with_reducible exact contangoref43_Ints.mono _ _ _)
   | (with_reducible exact hedge_Best.mono _ _ _ _)
   | (with_reducible exact LeO.refl _)
   | (with_reducible exact LeO.none _)
   | (with_reducible refine LeO.ite ?_ ?_)
   | (with_reducible refine LeO.bind ?_ (fun _=>?_))
   | exact contangoref43_Ints.mono _ _ _
   | exact hedge_Best.mono _ _ _ _
   | exact LeO.none _
   | refine LeO.ite ?_ ?_
   | refine LeO.bind ?_ (fun _=>?_)
def contangolaw43_goes.T6:Bool × List (List Nat × List Nat):=(true,[([],[]),([0],[0]),([1],[1]),([2],[2]),([3,2],[2,3]),([2,4],[2,4]),([5,2],[5]),([6],[6]),([7,6],[6,7]),([6,8],[6,8]),([9,6],[9]),([10],[10]),([11,10],[10,11]),([10,12],[10,12]),([13,10],[13]),([14],[14]),([15,14],[14,15]),([14,16],[14,16]),([17,14],[17]),([18],[18]),([19,18],[18,19]),([18,20],[18,20]),([21,18],[21]),([22],[22]),([23,22],[22,23]),([22,24],[22,24]),([25,22],[25]),([26],[26]),([26],[26]),([27,28,26,26],[26,27,28]),([26,29],[26,29]),([30,29],[30]),([31],[31]),([32,31],[31,32]),([33,31],[31,33]),([31,34],[31,34]),([35,31],[35]),([36],[36]),([37,36],[36,37]),([38,36],[36,38]),([36],[36]),([40,36],[36,40]),([39,41,36],[36,39,41]),([36,42],[36,42]),([43,36],[43]),([44],[44]),([45,44],[44,45]),([46,44],[44,46]),([44],[44]),([48,44],[44,48]),([47,49,44],[44,47,49]),([44,50],[44,50]),([51,44,0,1,2,3,4,5,6,7,8,9,10,11,12,13,14,15,16,17,18,19,20,21,22,23,24,25,26,27,28,29,30,31,32,33,34,35,36,37,38,39,40,41,42,43,44,45,46,47,48,49,50,51],[51])])
def contangolaw43_goes.B6:List Nat:=[0,1,3,7,15,31,63,127,255,511,1023,2047,4095,8191,16383,32767,65535,131071,262143,524287,1048575,2097151,4194303,8388607,16777215,33554431,67108863,134217727,134217727,536870911,1073741823,2147483647,4294967295,8589934591,17179869183,34359738367,68719476735,137438953471,274877906943,549755813887,137438953471,1236950581247,4398046511103,8796093022207,17592186044415,35184372088831,70368744177663,140737488355327,35184372088831,316659348799487,1125899906842623,2251799813685247,4503599627370495]
theorem contangolaw43_goes.tab6:rtab .any (opsOf Try.f14 6) = contangolaw43_goes.T6:=by kernel_rfl
theorem contangolaw43_goes.bits6:waitsOk contangolaw43_goes.T6.2 contangolaw43_goes.B6 = true:=by kernel_rfl
set_option maxHeartbeats 8000000 in
set_option maxRecDepth 100000 in
theorem contangolaw43_goes.calls (k:Nat)  (r:Bool) (w:World) (h:contangolaw43_goes.f k  = some r) :
  Calls Try.prog 14 #[] w fun e w'=>e = .returned (.bool r) ∧ Below w.heap.size w w':=by
 have hu39:=Try.underlying39
 have hu92:=Try.underlying92
 have hu41:=Try.underlying41
 have HB:=Aside0.mk (Below.refl w.heap.size w)
 have H:((hedge_Best.f k 2600 1000 9).bind fun bt101=>((hedge_Best.f k 2500 1000 9).bind fun bt103=>((hedge_Best.f k 2600 (-500) 9).bind fun bt105=>((hedge_Plan.f (([(⟨#[111,105,108]⟩:ByteArray)]:List ByteArray)) (([2600]:List Int)) (([(⟨(⟨(⟨#[111,105,108]⟩:ByteArray),1,9,0⟩:S39),1000,2⟩:S92),(⟨(⟨(⟨#[111,105,108]⟩:ByteArray),1,39,0⟩:S39),300,9⟩:S92)]:List (S92)))).bind fun bt118=>(if bt101.1 = (-3) then (if bt101.2 = 0 then (if bt103.1 = (-2) then (if bt103.2 = 0 then (if bt105.1 = 5 then (if bt105.2 = 0 then (if bt118.2.2 = 0 then ((contangoref43_Ints.f k bt118.2.1 (([0]:List Int))).bind fun t128=>(if t128 = true then (if (bt118.1.length:Int) = 2 then (if 0 < (bt118.1.length:Int) then (if (((((rd_T41 bt118.1 0).f0.f0).toList) == ([111,105,108]:List UInt8) && (((rd_T41 bt118.1 0).f0.f1) == 1 && (((rd_T41 bt118.1 0).f0.f2) == 9 && (((rd_T41 bt118.1 0).f0.f3) == 0)))) && (((rd_T41 bt118.1 0).f1) == (-2))) = true then (if 1 < (bt118.1.length:Int) then (some (((((rd_T41 bt118.1 1).f0.f0).toList) == ([111,105,108]:List UInt8) && (((rd_T41 bt118.1 1).f0.f1) == 1 && (((rd_T41 bt118.1 1).f0.f2) == 39 && (((rd_T41 bt118.1 1).f0.f3) == 0)))) && (((rd_T41 bt118.1 1).f1) == (-2)))) else (none)) else (none)) else (none)) else (none)) else (none))) else (none)) else (none)) else (none)) else (none)) else (none)) else (none)) else (none)))))) = some r:=h
 clear h
 replace H:=Option.bind_eq_some_iff.mp H
 obtain ⟨⟨t101,t102⟩,A10,H⟩:=H
 replace H:((hedge_Best.f k 2500 1000 9).bind fun bt103=>((hedge_Best.f k 2600 (-500) 9).bind fun bt105=>((hedge_Plan.f (([(⟨#[111,105,108]⟩:ByteArray)]:List ByteArray)) (([2600]:List Int)) (([(⟨(⟨(⟨#[111,105,108]⟩:ByteArray),1,9,0⟩:S39),1000,2⟩:S92),(⟨(⟨(⟨#[111,105,108]⟩:ByteArray),1,39,0⟩:S39),300,9⟩:S92)]:List (S92)))).bind fun bt118=>(if t101 = (-3) then (if t102 = 0 then (if bt103.1 = (-2) then (if bt103.2 = 0 then (if bt105.1 = 5 then (if bt105.2 = 0 then (if bt118.2.2 = 0 then ((contangoref43_Ints.f k bt118.2.1 (([0]:List Int))).bind fun t128=>(if t128 = true then (if (bt118.1.length:Int) = 2 then (if 0 < (bt118.1.length:Int) then (if (((((rd_T41 bt118.1 0).f0.f0).toList) == ([111,105,108]:List UInt8) && (((rd_T41 bt118.1 0).f0.f1) == 1 && (((rd_T41 bt118.1 0).f0.f2) == 9 && (((rd_T41 bt118.1 0).f0.f3) == 0)))) && (((rd_T41 bt118.1 0).f1) == (-2))) = true then (if 1 < (bt118.1.length:Int) then (some (((((rd_T41 bt118.1 1).f0.f0).toList) == ([111,105,108]:List UInt8) && (((rd_T41 bt118.1 1).f0.f1) == 1 && (((rd_T41 bt118.1 1).f0.f2) == 39 && (((rd_T41 bt118.1 1).f0.f3) == 0)))) && (((rd_T41 bt118.1 1).f1) == (-2)))) else (none)) else (none)) else (none)) else (none)) else (none))) else (none)) else (none)) else (none)) else (none)) else (none)) else (none)) else (none))))) = some r:=H
 have A1:=Aside0.mk A10
 clear A10
 replace H:=Option.bind_eq_some_iff.mp H
 obtain ⟨⟨t103,t104⟩,A20,H⟩:=H
 replace H:((hedge_Best.f k 2600 (-500) 9).bind fun bt105=>((hedge_Plan.f (([(⟨#[111,105,108]⟩:ByteArray)]:List ByteArray)) (([2600]:List Int)) (([(⟨(⟨(⟨#[111,105,108]⟩:ByteArray),1,9,0⟩:S39),1000,2⟩:S92),(⟨(⟨(⟨#[111,105,108]⟩:ByteArray),1,39,0⟩:S39),300,9⟩:S92)]:List (S92)))).bind fun bt118=>(if t101 = (-3) then (if t102 = 0 then (if t103 = (-2) then (if t104 = 0 then (if bt105.1 = 5 then (if bt105.2 = 0 then (if bt118.2.2 = 0 then ((contangoref43_Ints.f k bt118.2.1 (([0]:List Int))).bind fun t128=>(if t128 = true then (if (bt118.1.length:Int) = 2 then (if 0 < (bt118.1.length:Int) then (if (((((rd_T41 bt118.1 0).f0.f0).toList) == ([111,105,108]:List UInt8) && (((rd_T41 bt118.1 0).f0.f1) == 1 && (((rd_T41 bt118.1 0).f0.f2) == 9 && (((rd_T41 bt118.1 0).f0.f3) == 0)))) && (((rd_T41 bt118.1 0).f1) == (-2))) = true then (if 1 < (bt118.1.length:Int) then (some (((((rd_T41 bt118.1 1).f0.f0).toList) == ([111,105,108]:List UInt8) && (((rd_T41 bt118.1 1).f0.f1) == 1 && (((rd_T41 bt118.1 1).f0.f2) == 39 && (((rd_T41 bt118.1 1).f0.f3) == 0)))) && (((rd_T41 bt118.1 1).f1) == (-2)))) else (none)) else (none)) else (none)) else (none)) else (none))) else (none)) else (none)) else (none)) else (none)) else (none)) else (none)) else (none)))) = some r:=H
 have A2:=Aside0.mk A20
 clear A20
 replace H:=Option.bind_eq_some_iff.mp H
 obtain ⟨⟨t105,t106⟩,A30,H⟩:=H
 replace H:((hedge_Plan.f (([(⟨#[111,105,108]⟩:ByteArray)]:List ByteArray)) (([2600]:List Int)) (([(⟨(⟨(⟨#[111,105,108]⟩:ByteArray),1,9,0⟩:S39),1000,2⟩:S92),(⟨(⟨(⟨#[111,105,108]⟩:ByteArray),1,39,0⟩:S39),300,9⟩:S92)]:List (S92)))).bind fun bt118=>(if t101 = (-3) then (if t102 = 0 then (if t103 = (-2) then (if t104 = 0 then (if t105 = 5 then (if t106 = 0 then (if bt118.2.2 = 0 then ((contangoref43_Ints.f k bt118.2.1 (([0]:List Int))).bind fun t128=>(if t128 = true then (if (bt118.1.length:Int) = 2 then (if 0 < (bt118.1.length:Int) then (if (((((rd_T41 bt118.1 0).f0.f0).toList) == ([111,105,108]:List UInt8) && (((rd_T41 bt118.1 0).f0.f1) == 1 && (((rd_T41 bt118.1 0).f0.f2) == 9 && (((rd_T41 bt118.1 0).f0.f3) == 0)))) && (((rd_T41 bt118.1 0).f1) == (-2))) = true then (if 1 < (bt118.1.length:Int) then (some (((((rd_T41 bt118.1 1).f0.f0).toList) == ([111,105,108]:List UInt8) && (((rd_T41 bt118.1 1).f0.f1) == 1 && (((rd_T41 bt118.1 1).f0.f2) == 39 && (((rd_T41 bt118.1 1).f0.f3) == 0)))) && (((rd_T41 bt118.1 1).f1) == (-2)))) else (none)) else (none)) else (none)) else (none)) else (none))) else (none)) else (none)) else (none)) else (none)) else (none)) else (none)) else (none))) = some r:=H
 have A3:=Aside0.mk A30
 clear A30
 obtain ⟨y109,hy109⟩:∃ y_:List ByteArray,y_ = (([(⟨#[111,105,108]⟩:ByteArray)]:List ByteArray)):=⟨_,rfl⟩
 replace H:((hedge_Plan.f y109 (([2600]:List Int)) (([(⟨(⟨(⟨#[111,105,108]⟩:ByteArray),1,9,0⟩:S39),1000,2⟩:S92),(⟨(⟨(⟨#[111,105,108]⟩:ByteArray),1,39,0⟩:S39),300,9⟩:S92)]:List (S92)))).bind fun bt118=>(if t101 = (-3) then (if t102 = 0 then (if t103 = (-2) then (if t104 = 0 then (if t105 = 5 then (if t106 = 0 then (if bt118.2.2 = 0 then ((contangoref43_Ints.f k bt118.2.1 (([0]:List Int))).bind fun t128=>(if t128 = true then (if (bt118.1.length:Int) = 2 then (if 0 < (bt118.1.length:Int) then (if (((((rd_T41 bt118.1 0).f0.f0).toList) == ([111,105,108]:List UInt8) && (((rd_T41 bt118.1 0).f0.f1) == 1 && (((rd_T41 bt118.1 0).f0.f2) == 9 && (((rd_T41 bt118.1 0).f0.f3) == 0)))) && (((rd_T41 bt118.1 0).f1) == (-2))) = true then (if 1 < (bt118.1.length:Int) then (some (((((rd_T41 bt118.1 1).f0.f0).toList) == ([111,105,108]:List UInt8) && (((rd_T41 bt118.1 1).f0.f1) == 1 && (((rd_T41 bt118.1 1).f0.f2) == 39 && (((rd_T41 bt118.1 1).f0.f3) == 0)))) && (((rd_T41 bt118.1 1).f1) == (-2)))) else (none)) else (none)) else (none)) else (none)) else (none))) else (none)) else (none)) else (none)) else (none)) else (none)) else (none)) else (none))) = some r:=by first|(rw [hy109];with_reducible exact H)|(have H2_:=(Option.bind_some _ _).symm.trans H;rw [hy109];with_reducible exact H2_)|(have H2_:=(Option.bind_some _ _).symm.trans H;with_reducible exact H2_)|with_reducible exact H|(rw [hy109];exact H)|exact H
 have Ny109:=Aside0.mk hy109
 clear hy109
 obtain ⟨y112,hy112⟩:∃ y_:List Int,y_ = (([2600]:List Int)):=⟨_,rfl⟩
 replace H:((hedge_Plan.f y109 y112 (([(⟨(⟨(⟨#[111,105,108]⟩:ByteArray),1,9,0⟩:S39),1000,2⟩:S92),(⟨(⟨(⟨#[111,105,108]⟩:ByteArray),1,39,0⟩:S39),300,9⟩:S92)]:List (S92)))).bind fun bt118=>(if t101 = (-3) then (if t102 = 0 then (if t103 = (-2) then (if t104 = 0 then (if t105 = 5 then (if t106 = 0 then (if bt118.2.2 = 0 then ((contangoref43_Ints.f k bt118.2.1 (([0]:List Int))).bind fun t128=>(if t128 = true then (if (bt118.1.length:Int) = 2 then (if 0 < (bt118.1.length:Int) then (if (((((rd_T41 bt118.1 0).f0.f0).toList) == ([111,105,108]:List UInt8) && (((rd_T41 bt118.1 0).f0.f1) == 1 && (((rd_T41 bt118.1 0).f0.f2) == 9 && (((rd_T41 bt118.1 0).f0.f3) == 0)))) && (((rd_T41 bt118.1 0).f1) == (-2))) = true then (if 1 < (bt118.1.length:Int) then (some (((((rd_T41 bt118.1 1).f0.f0).toList) == ([111,105,108]:List UInt8) && (((rd_T41 bt118.1 1).f0.f1) == 1 && (((rd_T41 bt118.1 1).f0.f2) == 39 && (((rd_T41 bt118.1 1).f0.f3) == 0)))) && (((rd_T41 bt118.1 1).f1) == (-2)))) else (none)) else (none)) else (none)) else (none)) else (none))) else (none)) else (none)) else (none)) else (none)) else (none)) else (none)) else (none))) = some r:=by first|(rw [hy112];with_reducible exact H)|(have H2_:=(Option.bind_some _ _).symm.trans H;rw [hy112];with_reducible exact H2_)|(have H2_:=(Option.bind_some _ _).symm.trans H;with_reducible exact H2_)|with_reducible exact H|(rw [hy112];exact H)|exact H
 have Ny112:=Aside0.mk hy112
 clear hy112
 obtain ⟨y115,hy115⟩:∃ y_:List (S92),y_ = (([(⟨(⟨(⟨#[111,105,108]⟩:ByteArray),1,9,0⟩:S39),1000,2⟩:S92),(⟨(⟨(⟨#[111,105,108]⟩:ByteArray),1,39,0⟩:S39),300,9⟩:S92)]:List (S92))):=⟨_,rfl⟩
 replace H:((hedge_Plan.f y109 y112 y115).bind fun bt118=>(if t101 = (-3) then (if t102 = 0 then (if t103 = (-2) then (if t104 = 0 then (if t105 = 5 then (if t106 = 0 then (if bt118.2.2 = 0 then ((contangoref43_Ints.f k bt118.2.1 (([0]:List Int))).bind fun t128=>(if t128 = true then (if (bt118.1.length:Int) = 2 then (if 0 < (bt118.1.length:Int) then (if (((((rd_T41 bt118.1 0).f0.f0).toList) == ([111,105,108]:List UInt8) && (((rd_T41 bt118.1 0).f0.f1) == 1 && (((rd_T41 bt118.1 0).f0.f2) == 9 && (((rd_T41 bt118.1 0).f0.f3) == 0)))) && (((rd_T41 bt118.1 0).f1) == (-2))) = true then (if 1 < (bt118.1.length:Int) then (some (((((rd_T41 bt118.1 1).f0.f0).toList) == ([111,105,108]:List UInt8) && (((rd_T41 bt118.1 1).f0.f1) == 1 && (((rd_T41 bt118.1 1).f0.f2) == 39 && (((rd_T41 bt118.1 1).f0.f3) == 0)))) && (((rd_T41 bt118.1 1).f1) == (-2)))) else (none)) else (none)) else (none)) else (none)) else (none))) else (none)) else (none)) else (none)) else (none)) else (none)) else (none)) else (none))) = some r:=by first|(rw [hy115];with_reducible exact H)|(have H2_:=(Option.bind_some _ _).symm.trans H;rw [hy115];with_reducible exact H2_)|(have H2_:=(Option.bind_some _ _).symm.trans H;with_reducible exact H2_)|with_reducible exact H|(rw [hy115];exact H)|exact H
 have Ny115:=Aside0.mk hy115
 clear hy115
 replace H:=Option.bind_eq_some_iff.mp H
 obtain ⟨⟨t118,t119,t120⟩,A40,H⟩:=H
 replace H:(if t101 = (-3) then (if t102 = 0 then (if t103 = (-2) then (if t104 = 0 then (if t105 = 5 then (if t106 = 0 then (if t120 = 0 then ((contangoref43_Ints.f k t119 (([0]:List Int))).bind fun t128=>(if t128 = true then (if (t118.length:Int) = 2 then (if 0 < (t118.length:Int) then (if (((((rd_T41 t118 0).f0.f0).toList) == ([111,105,108]:List UInt8) && (((rd_T41 t118 0).f0.f1) == 1 && (((rd_T41 t118 0).f0.f2) == 9 && (((rd_T41 t118 0).f0.f3) == 0)))) && (((rd_T41 t118 0).f1) == (-2))) = true then (if 1 < (t118.length:Int) then (some (((((rd_T41 t118 1).f0.f0).toList) == ([111,105,108]:List UInt8) && (((rd_T41 t118 1).f0.f1) == 1 && (((rd_T41 t118 1).f0.f2) == 39 && (((rd_T41 t118 1).f0.f3) == 0)))) && (((rd_T41 t118 1).f1) == (-2)))) else (none)) else (none)) else (none)) else (none)) else (none))) else (none)) else (none)) else (none)) else (none)) else (none)) else (none)) else (none)) = some r:=H
 have A4:=Aside0.mk A40
 clear A40
 by_cases c5:t101 = (-3)
 ·rw [if_pos c5] at H
  have c5b0:(t101 == (-3)) = true:=beq_iff_eq.mpr c5
  have c5b1:(t101 != (-3)) = false:=bne_eq_false_iff_eq.mpr c5
  clear c5
  by_cases c6:t102 = 0
  ·rw [if_pos c6] at H
   have c6b0:(t102 == 0) = true:=beq_iff_eq.mpr c6
   have c6b1:(t102 != 0) = false:=bne_eq_false_iff_eq.mpr c6
   clear c6
   by_cases c7:t103 = (-2)
   ·rw [if_pos c7] at H
    have c7b0:(t103 == (-2)) = true:=beq_iff_eq.mpr c7
    have c7b1:(t103 != (-2)) = false:=bne_eq_false_iff_eq.mpr c7
    clear c7
    by_cases c8:t104 = 0
    ·rw [if_pos c8] at H
     have c8b0:(t104 == 0) = true:=beq_iff_eq.mpr c8
     have c8b1:(t104 != 0) = false:=bne_eq_false_iff_eq.mpr c8
     clear c8
     by_cases c9:t105 = 5
     ·rw [if_pos c9] at H
      have c9b0:(t105 == 5) = true:=beq_iff_eq.mpr c9
      have c9b1:(t105 != 5) = false:=bne_eq_false_iff_eq.mpr c9
      clear c9
      by_cases c10:t106 = 0
      ·rw [if_pos c10] at H
       have c10b0:(t106 == 0) = true:=beq_iff_eq.mpr c10
       have c10b1:(t106 != 0) = false:=bne_eq_false_iff_eq.mpr c10
       clear c10
       by_cases c11:t120 = 0
       ·rw [if_pos c11] at H
        have c11b0:(t120 == 0) = true:=beq_iff_eq.mpr c11
        have c11b1:(t120 != 0) = false:=bne_eq_false_iff_eq.mpr c11
        clear c11
        obtain ⟨y125,hy125⟩:∃ y_:List Int,y_ = (([0]:List Int)):=⟨_,rfl⟩
        replace H:((contangoref43_Ints.f k t119 y125).bind fun t128=>(if t128 = true then (if (t118.length:Int) = 2 then (if 0 < (t118.length:Int) then (if (((((rd_T41 t118 0).f0.f0).toList) == ([111,105,108]:List UInt8) && (((rd_T41 t118 0).f0.f1) == 1 && (((rd_T41 t118 0).f0.f2) == 9 && (((rd_T41 t118 0).f0.f3) == 0)))) && (((rd_T41 t118 0).f1) == (-2))) = true then (if 1 < (t118.length:Int) then (some (((((rd_T41 t118 1).f0.f0).toList) == ([111,105,108]:List UInt8) && (((rd_T41 t118 1).f0.f1) == 1 && (((rd_T41 t118 1).f0.f2) == 39 && (((rd_T41 t118 1).f0.f3) == 0)))) && (((rd_T41 t118 1).f1) == (-2)))) else (none)) else (none)) else (none)) else (none)) else (none))) = some r:=by first|(rw [hy125];with_reducible exact H)|(have H2_:=(Option.bind_some _ _).symm.trans H;rw [hy125];with_reducible exact H2_)|(have H2_:=(Option.bind_some _ _).symm.trans H;with_reducible exact H2_)|with_reducible exact H|(rw [hy125];exact H)|exact H
        have Ny125:=Aside0.mk hy125
        clear hy125
        replace H:=Option.bind_eq_some_iff.mp H
        obtain ⟨t128,A120,H⟩:=H
        replace H:(if t128 = true then (if (t118.length:Int) = 2 then (if 0 < (t118.length:Int) then (if (((((rd_T41 t118 0).f0.f0).toList) == ([111,105,108]:List UInt8) && (((rd_T41 t118 0).f0.f1) == 1 && (((rd_T41 t118 0).f0.f2) == 9 && (((rd_T41 t118 0).f0.f3) == 0)))) && (((rd_T41 t118 0).f1) == (-2))) = true then (if 1 < (t118.length:Int) then (some (((((rd_T41 t118 1).f0.f0).toList) == ([111,105,108]:List UInt8) && (((rd_T41 t118 1).f0.f1) == 1 && (((rd_T41 t118 1).f0.f2) == 39 && (((rd_T41 t118 1).f0.f3) == 0)))) && (((rd_T41 t118 1).f1) == (-2)))) else (none)) else (none)) else (none)) else (none)) else (none)) = some r:=H
        have A12:=Aside0.mk A120
        clear A120
        by_cases c13:t128 = true
        ·subst c13
         have H1:(if (t118.length:Int) = 2 then (if 0 < (t118.length:Int) then (if (((((rd_T41 t118 0).f0.f0).toList) == ([111,105,108]:List UInt8) && (((rd_T41 t118 0).f0.f1) == 1 && (((rd_T41 t118 0).f0.f2) == 9 && (((rd_T41 t118 0).f0.f3) == 0)))) && (((rd_T41 t118 0).f1) == (-2))) = true then (if 1 < (t118.length:Int) then (some (((((rd_T41 t118 1).f0.f0).toList) == ([111,105,108]:List UInt8) && (((rd_T41 t118 1).f0.f1) == 1 && (((rd_T41 t118 1).f0.f2) == 39 && (((rd_T41 t118 1).f0.f3) == 0)))) && (((rd_T41 t118 1).f1) == (-2)))) else (none)) else (none)) else (none)) else (none)) = some r:=by rw [if_pos rfl] at H;exact H
         clear H
         have H:=H1
         clear H1
         by_cases c14:(t118.length:Int) = 2
         ·rw [if_pos c14] at H
          have c14b0:((t118.length:Int) == 2) = true:=beq_iff_eq.mpr c14
          have c14b1:((t118.length:Int) != 2) = false:=bne_eq_false_iff_eq.mpr c14
          clear c14
          by_cases c15:0 < (t118.length:Int)
          ·rw [if_pos c15] at H
           have c15b0:decide (0 < (t118.length:Int)) = true:=decide_eq_true c15
           have c15b1:decide (0 < t118.length) = true:=decide_eq_true (by omega)
           clear c15
           by_cases c16:(((((rd_T41 t118 0).f0.f0).toList) == ([111,105,108]:List UInt8) && (((rd_T41 t118 0).f0.f1) == 1 && (((rd_T41 t118 0).f0.f2) == 9 && (((rd_T41 t118 0).f0.f3) == 0)))) && (((rd_T41 t118 0).f1) == (-2))) = true
           ·rw [if_pos c16] at H
            have c16b0:(((((rd_T41 t118 0).f0.f0).toList) == ([111,105,108]:List UInt8) && (((rd_T41 t118 0).f0.f1) == 1 && (((rd_T41 t118 0).f0.f2) == 9 && (((rd_T41 t118 0).f0.f3) == 0)))) && (((rd_T41 t118 0).f1) == (-2))) = true:=c16
            clear c16
            by_cases c17:1 < (t118.length:Int)
            ·rw [if_pos c17] at H
             have c17b0:decide (1 < (t118.length:Int)) = true:=decide_eq_true c17
             have c17b1:decide (1 < t118.length) = true:=decide_eq_true (by omega)
             clear c17
             obtain rfl:=Option.some.inj H
             go_enter Try.func14,Try.ntmps14
             try go_wp2_with (first|((with_reducible refine gate_callee (f:=21) rfl ?_);refine goesL_ (some 13) rfl rfl Try.func21 (by kernel_rfl) rfl #[.int .i64 2600,.int .i64 1000,.int .i64 9] rfl (by (try simp only [List.map_toArray,List.map_cons,List.map_nil]);first|done|rfl|(simp only [List.length_drop,List.length_take];rfl)) ?_;(with_reducible refine (hedge_Best.calls k 2600 1000 9 t101 t102 _ A1.out).mono ?_);rintro e w18 ⟨rfl,hb⟩;refine ⟨_,rfl,?_⟩;have n0_:=Aside0.mk (below_step (by repeat (first|(with_reducible first|exact HB.out|apply below_alloc|apply pw_below_drewN|apply below_drew1)|exact HB.out)) hb);clear HB;have HB:=n0_;clear n0_;(try clear hb);(try clear hb2);(try clear hk);(try clear hi))|((with_reducible refine gate_callee (f:=21) rfl ?_);refine goesL_ (some 17) rfl rfl Try.func21 (by kernel_rfl) rfl #[.int .i64 2500,.int .i64 1000,.int .i64 9] rfl (by (try simp only [List.map_toArray,List.map_cons,List.map_nil]);first|done|rfl|(simp only [List.length_drop,List.length_take];rfl)) ?_;(with_reducible refine (hedge_Best.calls k 2500 1000 9 t103 t104 _ A2.out).mono ?_);rintro e w19 ⟨rfl,hb⟩;refine ⟨_,rfl,?_⟩;have n0_:=Aside0.mk (below_step (by repeat (first|(with_reducible first|exact HB.out|apply below_alloc|apply pw_below_drewN|apply below_drew1)|exact HB.out)) hb);clear HB;have HB:=n0_;clear n0_;(try clear hb);(try clear hb2);(try clear hk);(try clear hi))|((with_reducible refine gate_callee (f:=21) rfl ?_);refine goesL_ (some 21) rfl rfl Try.func21 (by kernel_rfl) rfl #[.int .i64 2600,.int .i64 (-500),.int .i64 9] rfl (by (try simp only [List.map_toArray,List.map_cons,List.map_nil]);first|done|rfl|(simp only [List.length_drop,List.length_take];rfl)) ?_;(with_reducible refine (hedge_Best.calls k 2600 (-500) 9 t105 t106 _ A3.out).mono ?_);rintro e w20 ⟨rfl,hb⟩;refine ⟨_,rfl,?_⟩;have n0_:=Aside0.mk (below_step (by repeat (first|(with_reducible first|exact HB.out|apply below_alloc|apply pw_below_drewN|apply below_drew1)|exact HB.out)) hb);clear HB;have HB:=n0_;clear n0_;(try clear hb);(try clear hb2);(try clear hk);(try clear hi))|((with_reducible refine gate_dst (N:=7) rfl ?_);(try (refine gate_guard (by rfl) ?_;dsimp only));refine box_event ?hg (N:=7) ?hd (cs:=#[.string (⟨#[]⟩:ByteArray),.int .i64 0,.int .i64 0,.int .i64 0]) (t:=39) ?hr ?_;(case hd=>rfl);(case hg=>rfl);(case hr=>first|(go_simp;done)|(go_simp;rfl));intro gb107 hg w21 hbox hb;have n0_:=Aside0.mk (below_step (by repeat (first|(with_reducible first|exact HB.out|apply below_alloc|apply pw_below_drewN|apply below_drew1)|exact HB.out)) hb);have n1_:=Aside0.mk (hbox);have n2_:=Aside0.mk ((by rw [hg];exact (below_size (by repeat (first|(with_reducible first|exact HB.out|apply below_alloc|apply pw_below_drewN|apply below_drew1)|exact HB.out))):w.heap.size ≤ gb107));have n3_:=Aside0.mk ((by rw [hg];exact (below_size (by repeat (first|(with_reducible first|exact HB.out|apply below_alloc|apply pw_below_drewN|apply below_drew1)|exact HB.out))):w.heap.size ≤ gb107));clear HB;have HB:=n0_;have BK107:=n1_;have GW107:=n2_;have GE107:=n3_;clear n0_ n1_ n2_ n3_;clear hb hbox hg)|((with_reducible refine gate_dst (N:=8) rfl ?_);(try (refine gate_guard (by rfl) ?_;dsimp only));refine box_event ?hg (N:=8) ?hd (cs:=#[.string (⟨#[]⟩:ByteArray),.int .i64 0,.int .i64 0,.int .i64 0]) (t:=39) ?hr ?_;(case hd=>rfl);(case hg=>rfl);(case hr=>first|(go_simp;done)|(go_simp;rfl));intro gb108 hg w22 hbox hb;have n0_:=Aside0.mk (blk_below (g:=gb107) (o:=.cells #[.string (⟨#[]⟩:ByteArray),.int .i64 0,.int .i64 0,.int .i64 0] 39 (0,0)) (by (with_reducible repeat (first|refine blk_drewN ?_ _|refine blk_drew ?_|refine blk_alloc ?_ _));exact BK107.out) hb);have n1_:=Aside0.mk (below_step (by repeat (first|(with_reducible first|exact HB.out|apply below_alloc|apply pw_below_drewN|apply below_drew1|refine below_set ?_ GE107.out)|exact HB.out)) hb);have n2_:=Aside0.mk (hbox);have n3_:=Aside0.mk ((by rw [hg];exact (below_size (by repeat (first|(with_reducible first|exact HB.out|apply below_alloc|apply pw_below_drewN|apply below_drew1|refine below_set ?_ GE107.out)|exact HB.out))):w.heap.size ≤ gb108));have n4_:=Aside0.mk ((by rw [hg];exact (below_size (by repeat (first|(with_reducible first|exact HB.out|apply below_alloc|apply pw_below_drewN|apply below_drew1|refine below_set ?_ GE107.out)|exact HB.out))):w.heap.size ≤ gb108));have n5_:=Aside0.mk ((by rw [hg];exact Nat.ne_of_lt (blk_lt (g:=gb107) (o:=.cells #[.string (⟨#[]⟩:ByteArray),.int .i64 0,.int .i64 0,.int .i64 0] 39 (0,0)) (by (with_reducible repeat (first|refine blk_drewN ?_ _|refine blk_drew ?_|refine blk_alloc ?_ _));exact BK107.out)):gb107 ≠ gb108));have n6_:=Aside0.mk ((by rw [hg];exact Nat.ne_of_gt (blk_lt (g:=gb107) (o:=.cells #[.string (⟨#[]⟩:ByteArray),.int .i64 0,.int .i64 0,.int .i64 0] 39 (0,0)) (by (with_reducible repeat (first|refine blk_drewN ?_ _|refine blk_drew ?_|refine blk_alloc ?_ _));exact BK107.out)):gb108 ≠ gb107));clear BK107;clear HB;have BK107:=n0_;have HB:=n1_;have BK108:=n2_;have GW108:=n3_;have GE108:=n4_;have NB107_108:=n5_;have NB108_107:=n6_;clear n0_ n1_ n2_ n3_ n4_ n5_ n6_;clear hb hbox hg;have hnb23:=NB107_108.out;have hnc23:=NB108_107.out;have hcz24_0:w22.cell? ⟨gb107,0,none⟩ = some (.string (⟨#[]⟩:ByteArray)):=(blk_cell BK107.out 0).trans rfl;have hcz24_1:w22.cell? ⟨gb107,1,none⟩ = some (.int .i64 0):=(blk_cell BK107.out 1).trans rfl;have hcz24_2:w22.cell? ⟨gb107,2,none⟩ = some (.int .i64 0):=(blk_cell BK107.out 2).trans rfl;have hcz24_3:w22.cell? ⟨gb107,3,none⟩ = some (.int .i64 0):=(blk_cell BK107.out 3).trans rfl;have hfz24_0:=blk_frozen BK107.out 0;have hfz24_1:=blk_frozen BK107.out 1;have hfz24_2:=blk_frozen BK107.out 2;have hfz24_3:=blk_frozen BK107.out 3;have hcz25_0:w22.cell? ⟨gb108,0,none⟩ = some (.string (⟨#[]⟩:ByteArray)):=(blk_cell BK108.out 0).trans rfl;have hcz25_1:w22.cell? ⟨gb108,1,none⟩ = some (.int .i64 0):=(blk_cell BK108.out 1).trans rfl;have hcz25_2:w22.cell? ⟨gb108,2,none⟩ = some (.int .i64 0):=(blk_cell BK108.out 2).trans rfl;have hcz25_3:w22.cell? ⟨gb108,3,none⟩ = some (.int .i64 0):=(blk_cell BK108.out 3).trans rfl;have hfz25_0:=blk_frozen BK108.out 0;have hfz25_1:=blk_frozen BK108.out 1;have hfz25_2:=blk_frozen BK108.out 2;have hfz25_3:=blk_frozen BK108.out 3)|((with_reducible refine gate_dst (N:=27) rfl ?_);(try (refine gate_guard (by rfl) ?_;dsimp only));refine Kd.R_lit Kd.string _ 9 ?hg (N:=27) ?hd (xs:=([(⟨#[111,105,108]⟩:ByteArray)]:List ByteArray)) (inner:=[.string (⟨#[111,105,108]⟩:ByteArray)]) (ok:=fun _=>True) (okp:=fun _=>True) ?hr ?hp (fun _ hk=>hk) trivial (Below.refl _ _) (Nat.le_refl _) (by simp) ?_;(case hd=>rfl);(case hg=>rfl);(case hr=>first|(go_simp;done)|(go_simp;rfl));(case hp=>exact (Reps.one (show Kd.M Kd.string _ _ _ (⟨#[111,105,108]⟩:ByteArray) [.string (⟨#[111,105,108]⟩:ByteArray)] from rfl) (Reps.none _ _)));intro v110 w26 ho27 hb hg_ hnew_;clear hg_ hnew_;(first|rw [← Ny109.out] at ho27|(simp only [Int.reduceToNat] at ho27;rw [← Ny109.out] at ho27));have n0_:=Aside0.mk (Kd.R_lower ho27 (below_size (by repeat (first|(with_reducible first|exact HB.out|apply below_alloc|apply pw_below_drewN|apply below_drew1|refine below_set ?_ GE107.out|refine below_set ?_ GE108.out)|exact HB.out))));have n1_:=Aside0.mk (blk_below (g:=gb107) (o:=.cells #[.string (⟨#[111,105,108]⟩:ByteArray),.int .i64 1,.int .i64 9,.int .i64 0] 39 (0,0)) (by (with_reducible repeat (first|refine blk_drewN ?_ _|refine blk_drew ?_|refine blk_alloc ?_ _));refine blk_far ?_ NB107_108.out _;(with_reducible repeat (first|refine blk_drewN ?_ _|refine blk_drew ?_|refine blk_alloc ?_ _));refine blk_far ?_ NB107_108.out _;(with_reducible repeat (first|refine blk_drewN ?_ _|refine blk_drew ?_|refine blk_alloc ?_ _));refine blk_far ?_ NB107_108.out _;(with_reducible repeat (first|refine blk_drewN ?_ _|refine blk_drew ?_|refine blk_alloc ?_ _));refine blk_far ?_ NB107_108.out _;(with_reducible repeat (first|refine blk_drewN ?_ _|refine blk_drew ?_|refine blk_alloc ?_ _));refine blk_put (cs:=#[.string (⟨#[111,105,108]⟩:ByteArray),.int .i64 1,.int .i64 9,.int .i64 0]) ?_ 3 _ rfl;(with_reducible repeat (first|refine blk_drewN ?_ _|refine blk_drew ?_|refine blk_alloc ?_ _));refine blk_put (cs:=#[.string (⟨#[111,105,108]⟩:ByteArray),.int .i64 1,.int .i64 0,.int .i64 0]) ?_ 2 _ rfl;(with_reducible repeat (first|refine blk_drewN ?_ _|refine blk_drew ?_|refine blk_alloc ?_ _));refine blk_put (cs:=#[.string (⟨#[111,105,108]⟩:ByteArray),.int .i64 0,.int .i64 0,.int .i64 0]) ?_ 1 _ rfl;(with_reducible repeat (first|refine blk_drewN ?_ _|refine blk_drew ?_|refine blk_alloc ?_ _));refine blk_put (cs:=#[.string (⟨#[]⟩:ByteArray),.int .i64 0,.int .i64 0,.int .i64 0]) ?_ 0 _ rfl;(with_reducible repeat (first|refine blk_drewN ?_ _|refine blk_drew ?_|refine blk_alloc ?_ _));exact BK107.out) hb);have n2_:=Aside0.mk (blk_below (g:=gb108) (o:=.cells #[.string (⟨#[111,105,108]⟩:ByteArray),.int .i64 1,.int .i64 39,.int .i64 0] 39 (0,0)) (by (with_reducible repeat (first|refine blk_drewN ?_ _|refine blk_drew ?_|refine blk_alloc ?_ _));refine blk_put (cs:=#[.string (⟨#[111,105,108]⟩:ByteArray),.int .i64 1,.int .i64 39,.int .i64 0]) ?_ 3 _ rfl;(with_reducible repeat (first|refine blk_drewN ?_ _|refine blk_drew ?_|refine blk_alloc ?_ _));refine blk_put (cs:=#[.string (⟨#[111,105,108]⟩:ByteArray),.int .i64 1,.int .i64 0,.int .i64 0]) ?_ 2 _ rfl;(with_reducible repeat (first|refine blk_drewN ?_ _|refine blk_drew ?_|refine blk_alloc ?_ _));refine blk_put (cs:=#[.string (⟨#[111,105,108]⟩:ByteArray),.int .i64 0,.int .i64 0,.int .i64 0]) ?_ 1 _ rfl;(with_reducible repeat (first|refine blk_drewN ?_ _|refine blk_drew ?_|refine blk_alloc ?_ _));refine blk_put (cs:=#[.string (⟨#[]⟩:ByteArray),.int .i64 0,.int .i64 0,.int .i64 0]) ?_ 0 _ rfl;(with_reducible repeat (first|refine blk_drewN ?_ _|refine blk_drew ?_|refine blk_alloc ?_ _));refine blk_far ?_ NB108_107.out _;(with_reducible repeat (first|refine blk_drewN ?_ _|refine blk_drew ?_|refine blk_alloc ?_ _));refine blk_far ?_ NB108_107.out _;(with_reducible repeat (first|refine blk_drewN ?_ _|refine blk_drew ?_|refine blk_alloc ?_ _));refine blk_far ?_ NB108_107.out _;(with_reducible repeat (first|refine blk_drewN ?_ _|refine blk_drew ?_|refine blk_alloc ?_ _));refine blk_far ?_ NB108_107.out _;(with_reducible repeat (first|refine blk_drewN ?_ _|refine blk_drew ?_|refine blk_alloc ?_ _));exact BK108.out) hb);have n3_:=Aside0.mk (below_step (by repeat (first|(with_reducible first|exact HB.out|apply below_alloc|apply pw_below_drewN|apply below_drew1|refine below_set ?_ GE107.out|refine below_set ?_ GE108.out)|exact HB.out)) hb);clear BK107;clear BK108;clear HB;have HO111:=n0_;have BK107:=n1_;have BK108:=n2_;have HB:=n3_;clear n0_ n1_ n2_ n3_;clear hb ho27)|((with_reducible refine gate_dst (N:=28) rfl ?_);(try (refine gate_guard (by rfl) ?_;dsimp only));refine Kd.R_lit (Kd.int .i64) _ 3 ?hg (N:=28) ?hd (xs:=([2600]:List Int)) (inner:=[.int .i64 2600]) (ok:=fun _=>True) (okp:=fun _=>True) ?hr ?hp (fun _ hk=>hk) trivial (Below.refl _ _) (Nat.le_refl _) (by simp) ?_;(case hd=>rfl);(case hg=>rfl);(case hr=>first|(go_simp;done)|(go_simp;rfl));(case hp=>exact (Reps.one (show Kd.M (Kd.int .i64) _ _ _ 2600 [.int .i64 2600] from rfl) (Reps.none _ _)));intro v113 w28 ho29 hb hg_ hnew_;clear hg_ hnew_;(first|rw [← Ny112.out] at ho29|(simp only [Int.reduceToNat] at ho29;rw [← Ny112.out] at ho29));have n0_:=Aside0.mk (Kd.R_below (by (with_reducible repeat (first|apply Kd.R_alloc|apply Kd.R_drewN|apply Kd.R_drew));exact HO111.out) hb);have n1_:=Aside0.mk (Kd.R_lower ho29 (below_size (by repeat (first|(with_reducible first|exact HB.out|apply below_alloc|apply pw_below_drewN|apply below_drew1|refine below_set ?_ GE107.out|refine below_set ?_ GE108.out)|exact HB.out))));have n2_:=Aside0.mk (blk_below (g:=gb107) (o:=.cells #[.string (⟨#[111,105,108]⟩:ByteArray),.int .i64 1,.int .i64 9,.int .i64 0] 39 (0,0)) (by (with_reducible repeat (first|refine blk_drewN ?_ _|refine blk_drew ?_|refine blk_alloc ?_ _));exact BK107.out) hb);have n3_:=Aside0.mk (blk_below (g:=gb108) (o:=.cells #[.string (⟨#[111,105,108]⟩:ByteArray),.int .i64 1,.int .i64 39,.int .i64 0] 39 (0,0)) (by (with_reducible repeat (first|refine blk_drewN ?_ _|refine blk_drew ?_|refine blk_alloc ?_ _));exact BK108.out) hb);have n4_:=Aside0.mk (below_step (by repeat (first|(with_reducible first|exact HB.out|apply below_alloc|apply pw_below_drewN|apply below_drew1|refine below_set ?_ GE107.out|refine below_set ?_ GE108.out)|exact HB.out)) hb);clear HO111;clear BK107;clear BK108;clear HB;have HO111:=n0_;have HO114:=n1_;have BK107:=n2_;have BK108:=n3_;have HB:=n4_;clear n0_ n1_ n2_ n3_ n4_;clear hb ho29;have hcz30_0:w28.cell? ⟨gb107,0,none⟩ = some (.string (⟨#[111,105,108]⟩:ByteArray)):=(blk_cell BK107.out 0).trans rfl;have hcz30_1:w28.cell? ⟨gb107,1,none⟩ = some (.int .i64 1):=(blk_cell BK107.out 1).trans rfl;have hcz30_2:w28.cell? ⟨gb107,2,none⟩ = some (.int .i64 9):=(blk_cell BK107.out 2).trans rfl;have hcz30_3:w28.cell? ⟨gb107,3,none⟩ = some (.int .i64 0):=(blk_cell BK107.out 3).trans rfl;have hfz30_0:=blk_frozen BK107.out 0;have hfz30_1:=blk_frozen BK107.out 1;have hfz30_2:=blk_frozen BK107.out 2;have hfz30_3:=blk_frozen BK107.out 3;have hcz31_0:w28.cell? ⟨gb108,0,none⟩ = some (.string (⟨#[111,105,108]⟩:ByteArray)):=(blk_cell BK108.out 0).trans rfl;have hcz31_1:w28.cell? ⟨gb108,1,none⟩ = some (.int .i64 1):=(blk_cell BK108.out 1).trans rfl;have hcz31_2:w28.cell? ⟨gb108,2,none⟩ = some (.int .i64 39):=(blk_cell BK108.out 2).trans rfl;have hcz31_3:w28.cell? ⟨gb108,3,none⟩ = some (.int .i64 0):=(blk_cell BK108.out 3).trans rfl;have hfz31_0:=blk_frozen BK108.out 0;have hfz31_1:=blk_frozen BK108.out 1;have hfz31_2:=blk_frozen BK108.out 2;have hfz31_3:=blk_frozen BK108.out 3)|((with_reducible refine gate_dst (N:=33) rfl ?_);(try (refine gate_guard (by rfl) ?_;dsimp only));refine Kd.R_lit k92 _ 92 ?hg (N:=33) ?hd (xs:=([(⟨(⟨(⟨#[111,105,108]⟩:ByteArray),1,9,0⟩:S39),1000,2⟩:S92),(⟨(⟨(⟨#[111,105,108]⟩:ByteArray),1,39,0⟩:S39),300,9⟩:S92)]:List (S92))) (inner:=[.string (⟨#[111,105,108]⟩:ByteArray),.int .i64 1,.int .i64 9,.int .i64 0,.int .i64 1000,.int .i64 2,.string (⟨#[111,105,108]⟩:ByteArray),.int .i64 1,.int .i64 39,.int .i64 0,.int .i64 300,.int .i64 9]) (ok:=fun _=>True) (okp:=fun _=>True) ?hr ?hp (fun _ hk=>hk) trivial (Below.refl _ _) (Nat.le_refl _) (by simp) ?_;(case hd=>rfl);(case hg=>rfl);(case hr=>first|(go_simp;done)|(go_simp;rfl));(case hp=>exact (Reps.c6 (show Kd.M k92 _ _ _ (⟨(⟨(⟨#[111,105,108]⟩:ByteArray),1,9,0⟩:S39),1000,2⟩:S92) [.string (⟨#[111,105,108]⟩:ByteArray),.int .i64 1,.int .i64 9,.int .i64 0,.int .i64 1000,.int .i64 2] from (k92_mkM _ _ _ (⟨(⟨(⟨#[111,105,108]⟩:ByteArray),1,9,0⟩:S39),1000,2⟩:S92) )) (Reps.c6 (show Kd.M k92 _ _ _ (⟨(⟨(⟨#[111,105,108]⟩:ByteArray),1,39,0⟩:S39),300,9⟩:S92) [.string (⟨#[111,105,108]⟩:ByteArray),.int .i64 1,.int .i64 39,.int .i64 0,.int .i64 300,.int .i64 9] from (k92_mkM _ _ _ (⟨(⟨(⟨#[111,105,108]⟩:ByteArray),1,39,0⟩:S39),300,9⟩:S92) )) (Reps.none _ _))));intro v116 w32 ho33 hb hg_ hnew_;clear hg_ hnew_;(first|rw [← Ny115.out] at ho33|(simp only [Int.reduceToNat] at ho33;rw [← Ny115.out] at ho33));have n0_:=Aside0.mk (Kd.R_below (by (with_reducible repeat (first|apply Kd.R_alloc|apply Kd.R_drewN|apply Kd.R_drew));exact HO111.out) hb);have n1_:=Aside0.mk (Kd.R_below (by (with_reducible repeat (first|apply Kd.R_alloc|apply Kd.R_drewN|apply Kd.R_drew));exact HO114.out) hb);have n2_:=Aside0.mk (Kd.R_lower ho33 (below_size (by repeat (first|(with_reducible first|exact HB.out|apply below_alloc|apply pw_below_drewN|apply below_drew1|refine below_set ?_ GE107.out|refine below_set ?_ GE108.out)|exact HB.out))));have n3_:=Aside0.mk (blk_below (g:=gb107) (o:=.cells #[.string (⟨#[111,105,108]⟩:ByteArray),.int .i64 1,.int .i64 9,.int .i64 0] 39 (0,0)) (by (with_reducible repeat (first|refine blk_drewN ?_ _|refine blk_drew ?_|refine blk_alloc ?_ _));exact BK107.out) hb);have n4_:=Aside0.mk (blk_below (g:=gb108) (o:=.cells #[.string (⟨#[111,105,108]⟩:ByteArray),.int .i64 1,.int .i64 39,.int .i64 0] 39 (0,0)) (by (with_reducible repeat (first|refine blk_drewN ?_ _|refine blk_drew ?_|refine blk_alloc ?_ _));exact BK108.out) hb);have n5_:=Aside0.mk (below_step (by repeat (first|(with_reducible first|exact HB.out|apply below_alloc|apply pw_below_drewN|apply below_drew1|refine below_set ?_ GE107.out|refine below_set ?_ GE108.out)|exact HB.out)) hb);clear HO111;clear HO114;clear BK107;clear BK108;clear HB;have HO111:=n0_;have HO114:=n1_;have HO117:=n2_;have BK107:=n3_;have BK108:=n4_;have HB:=n5_;clear n0_ n1_ n2_ n3_ n4_ n5_;clear hb ho33;obtain ⟨Ao34,co34,eo34⟩:=Kd.R_slice HO111.out;subst eo34;obtain ⟨Ao35,co35,eo35⟩:=Kd.R_slice HO114.out;subst eo35;obtain ⟨Ao36,co36,eo36⟩:=Kd.R_slice HO117.out;subst eo36)|((with_reducible refine gate_callee (f:=15) rfl ?_);refine goesL_ (some 34) rfl rfl Try.func15 (by kernel_rfl) rfl #[.slice Ao34 y109.length co34,.slice Ao35 y112.length co35,.slice Ao36 y115.length co36] rfl (by (try simp only [List.map_toArray,List.map_cons,List.map_nil]);first|done|rfl|(simp only [List.length_drop,List.length_take];rfl)) ?_;(with_reducible refine (hedge_Plan.calls _ _ y109 _ _ y112 _ _ y115 t118 t119 t120 _ ?side1 ?side2 ?side3 ?side4 ?side5 ?side6 A4.out).mono ?_);(case side1=>repeat (first|exact (Kd.R_reads' HO111.out).2.2|(with_reducible refine Kd.C_alloc ?_ _)|(with_reducible refine Kd.C_drewN ?_ _)|(with_reducible refine Kd.C_drew ?_)));(case side2=>exact (Kd.R_reads' HO111.out).2.1);(case side3=>repeat (first|exact (Kd.R_reads' HO114.out).2.2|(with_reducible refine Kd.C_alloc ?_ _)|(with_reducible refine Kd.C_drewN ?_ _)|(with_reducible refine Kd.C_drew ?_)));(case side4=>exact (Kd.R_reads' HO114.out).2.1);(case side5=>repeat (first|exact (Kd.R_reads' HO117.out).2.2|(with_reducible refine Kd.C_alloc ?_ _)|(with_reducible refine Kd.C_drewN ?_ _)|(with_reducible refine Kd.C_drew ?_)));(case side6=>exact (Kd.R_reads' HO117.out).2.1);rintro e w37 ⟨v121,v123,rfl,ho0,ho1,hb⟩;refine ⟨_,rfl,?_⟩;have n0_:=Aside0.mk (Kd.R_below (by (with_reducible repeat (first|apply Kd.R_alloc|apply Kd.R_drewN|apply Kd.R_drew));exact HO111.out) hb);have n1_:=Aside0.mk (Kd.R_elder' (by (with_reducible repeat (first|apply Kd.R_alloc|apply Kd.R_drewN|apply Kd.R_drew));exact HO114.out) (Kd.R_base ho1) hb);have n2_:=Aside0.mk (Kd.R_below (by (with_reducible repeat (first|apply Kd.R_alloc|apply Kd.R_drewN|apply Kd.R_drew));exact HO117.out) hb);have n3_:=Aside0.mk (Kd.R_lower ho0 (below_size (by repeat (first|(with_reducible first|exact HB.out|apply below_alloc|apply pw_below_drewN|apply below_drew1|refine below_set ?_ GE107.out|refine below_set ?_ GE108.out)|exact HB.out))));have n4_:=Aside0.mk (Kd.R_lower (Kd.R_new' ho1 (Kd.R_lt (by (with_reducible repeat (first|apply Kd.R_alloc|apply Kd.R_drewN|apply Kd.R_drew));exact HO114.out))) (below_size (by repeat (first|(with_reducible first|exact HB.out|apply below_alloc|apply pw_below_drewN|apply below_drew1|refine below_set ?_ GE107.out|refine below_set ?_ GE108.out)|exact HB.out))));have n5_:=Aside0.mk (blk_below (g:=gb107) (o:=.cells #[.string (⟨#[111,105,108]⟩:ByteArray),.int .i64 1,.int .i64 9,.int .i64 0] 39 (0,0)) (by (with_reducible repeat (first|refine blk_drewN ?_ _|refine blk_drew ?_|refine blk_alloc ?_ _));exact BK107.out) hb);have n6_:=Aside0.mk (blk_below (g:=gb108) (o:=.cells #[.string (⟨#[111,105,108]⟩:ByteArray),.int .i64 1,.int .i64 39,.int .i64 0] 39 (0,0)) (by (with_reducible repeat (first|refine blk_drewN ?_ _|refine blk_drew ?_|refine blk_alloc ?_ _));exact BK108.out) hb);have n7_:=Aside0.mk (below_step (by repeat (first|(with_reducible first|exact HB.out|apply below_alloc|apply pw_below_drewN|apply below_drew1|refine below_set ?_ GE107.out|refine below_set ?_ GE108.out)|exact HB.out)) hb);clear HO111;clear HO114;clear HO117;clear BK107;clear BK108;clear HB;have HO111:=n0_;have HO114:=n1_;have HO117:=n2_;have HO122:=n3_;have HO124:=n4_;have BK107:=n5_;have BK108:=n6_;have HB:=n7_;clear n0_ n1_ n2_ n3_ n4_ n5_ n6_ n7_;(try clear hb);(try clear hb2);(try clear hk);(try clear hi);(try clear ho0);(try clear ho1)))
             have n0_:=Aside0.mk (Kd.R_drew HO111.out)
             have n1_:=Aside0.mk (Kd.R_drew HO114.out)
             have n2_:=Aside0.mk (Kd.R_drew HO117.out)
             have n3_:=Aside0.mk (Kd.R_drew HO122.out)
             have n4_:=Aside0.mk (Kd.R_drew HO124.out)
             have n5_:=Aside0.mk (blk_drew BK107.out)
             have n6_:=Aside0.mk (blk_drew BK108.out)
             have n7_:=Aside0.mk (below_drew1 HB.out)
             clear HO111
             clear HO114
             clear HO117
             clear HO122
             clear HO124
             clear BK107
             clear BK108
             clear HB
             have HO111:=n0_
             have HO114:=n1_
             have HO117:=n2_
             have HO122:=n3_
             have HO124:=n4_
             have BK107:=n5_
             have BK108:=n6_
             have HB:=n7_
             clear n0_ n1_ n2_ n3_ n4_ n5_ n6_ n7_
             obtain ⟨Aog_,cog_,eog_⟩:=Kd.R_slice HO122.out;subst eog_
             have p129:0 ≤ (0:Int):=(by omega)
             have q129:0 < (t118.length:Int):=of_decide_eq_true (by first|(with_reducible assumption)|assumption)
             obtain ⟨ad129,e129,hx129_0,hx129_1,hx129_2,hx129_3,hx129_4⟩:=at_T41 (Kd.R_reads' HO122.out).2.2 0 p129 q129
             cases e129
             have qi129:(0 < t118.length) = True:=eq_true (by omega)
             (try rw [show ((0:Int)).toNat = 0 from rfl] at hx129_0)
             (try rw [show 0 * 5 = 0 from rfl] at hx129_0)
             (try rw [Addr.add_zero'] at hx129_0)
             (try rw [show ((0:Int)).toNat = 0 from rfl] at hx129_1)
             (try rw [show 0 * 5 = 0 from rfl] at hx129_1)
             (try rw [Addr.add_zero'] at hx129_1)
             (try rw [show ((0:Int)).toNat = 0 from rfl] at hx129_2)
             (try rw [show 0 * 5 = 0 from rfl] at hx129_2)
             (try rw [Addr.add_zero'] at hx129_2)
             (try rw [show ((0:Int)).toNat = 0 from rfl] at hx129_3)
             (try rw [show 0 * 5 = 0 from rfl] at hx129_3)
             (try rw [Addr.add_zero'] at hx129_3)
             (try rw [show ((0:Int)).toNat = 0 from rfl] at hx129_4)
             (try rw [show 0 * 5 = 0 from rfl] at hx129_4)
             (try rw [Addr.add_zero'] at hx129_4)
             replace p129:=eq_true p129
             replace q129:=eq_true q129
             have p130:0 ≤ (1:Int):=(by omega)
             have q130:1 < (t118.length:Int):=of_decide_eq_true (by first|(with_reducible assumption)|assumption)
             obtain ⟨ad130,e130,hx130_0,hx130_1,hx130_2,hx130_3,hx130_4⟩:=at_T41 (Kd.R_reads' HO122.out).2.2 1 p130 q130
             obtain rfl:ad129 = ad130:=(by injection e130)
             (try simp only [show (1:Int).toNat = 1 from rfl,Nat.reduceMul,Nat.reduceEqDiff,Go.Addr.add,↓reduceIte] at hx130_0)
             (try simp only [show (1:Int).toNat = 1 from rfl,Nat.reduceMul,Nat.reduceEqDiff,Go.Addr.add,↓reduceIte] at hx130_1)
             (try simp only [show (1:Int).toNat = 1 from rfl,Nat.reduceMul,Nat.reduceEqDiff,Go.Addr.add,↓reduceIte] at hx130_2)
             (try simp only [show (1:Int).toNat = 1 from rfl,Nat.reduceMul,Nat.reduceEqDiff,Go.Addr.add,↓reduceIte] at hx130_3)
             (try simp only [show (1:Int).toNat = 1 from rfl,Nat.reduceMul,Nat.reduceEqDiff,Go.Addr.add,↓reduceIte] at hx130_4)
             have qi130:(1 < t118.length) = True:=eq_true (by omega)
             (try rw [show ((1:Int)).toNat = 1 from rfl] at hx130_0)
             (try rw [show 1 * 5 = 5 from rfl] at hx130_0)
             (try rw [show ((1:Int)).toNat = 1 from rfl] at hx130_1)
             (try rw [show 1 * 5 = 5 from rfl] at hx130_1)
             (try rw [show ((1:Int)).toNat = 1 from rfl] at hx130_2)
             (try rw [show 1 * 5 = 5 from rfl] at hx130_2)
             (try rw [show ((1:Int)).toNat = 1 from rfl] at hx130_3)
             (try rw [show 1 * 5 = 5 from rfl] at hx130_3)
             (try rw [show ((1:Int)).toNat = 1 from rfl] at hx130_4)
             (try rw [show 1 * 5 = 5 from rfl] at hx130_4)
             replace p130:=eq_true p130
             replace q130:=eq_true q130
             refine start_ (n:=53) (S:=fun w'=>w'.cell? ⟨gb107,0,none⟩ = some (.string (⟨#[111,105,108]⟩:ByteArray)) ∧ w'.cell? ⟨gb107,1,none⟩ = some (.int .i64 1) ∧ w'.cell? ⟨gb107,2,none⟩ = some (.int .i64 9) ∧ w'.cell? ⟨gb107,3,none⟩ = some (.int .i64 0) ∧ w'.cell? ⟨gb108,0,none⟩ = some (.string (⟨#[111,105,108]⟩:ByteArray)) ∧ w'.cell? ⟨gb108,1,none⟩ = some (.int .i64 1) ∧ w'.cell? ⟨gb108,2,none⟩ = some (.int .i64 39) ∧ w'.cell? ⟨gb108,3,none⟩ = some (.int .i64 0) ∧ w'.cell? ad129 = some (.string ((rd_T41 t118 0).f0.f0)) ∧ w'.cell? ⟨ad129.block,ad129.off + 1,none⟩ = some (.int .i64 ((rd_T41 t118 0).f0.f1)) ∧ w'.cell? ⟨ad129.block,ad129.off + 2,none⟩ = some (.int .i64 ((rd_T41 t118 0).f0.f2)) ∧ w'.cell? ⟨ad129.block,ad129.off + 3,none⟩ = some (.int .i64 ((rd_T41 t118 0).f0.f3)) ∧ w'.cell? ⟨ad129.block,ad129.off + 4,none⟩ = some (.int .i64 ((rd_T41 t118 0).f1)) ∧ w'.cell? ⟨ad129.block,ad129.off + 5,none⟩ = some (.string ((rd_T41 t118 1).f0.f0)) ∧ w'.cell? ⟨ad129.block,ad129.off + 5 + 1,none⟩ = some (.int .i64 ((rd_T41 t118 1).f0.f1)) ∧ w'.cell? ⟨ad129.block,ad129.off + 5 + 2,none⟩ = some (.int .i64 ((rd_T41 t118 1).f0.f2)) ∧ w'.cell? ⟨ad129.block,ad129.off + 5 + 3,none⟩ = some (.int .i64 ((rd_T41 t118 1).f0.f3)) ∧ w'.cell? ⟨ad129.block,ad129.off + 5 + 4,none⟩ = some (.int .i64 ((rd_T41 t118 1).f1))) (ds:=[]) #[Z,Z,Z,Z,Z,Z,Z,Z,Z,Z,Z,Z,Z,Z,Z,Z,Z,Z,Z,Z,Z,Z,Z,Z,Z,Z,Z,Z,Z,Z,Z,Z,Z,Z,Z,Z,Z,Z,Z,Z,Z,Z,Z,Z,Z,Z,Z,Z,Z,Z,Z,Z,Z] (by kernel_rfl) rfl rfl ⟨(blk_cell BK107.out 0).trans rfl,(blk_cell BK107.out 1).trans rfl,(blk_cell BK107.out 2).trans rfl,(blk_cell BK107.out 3).trans rfl,(blk_cell BK108.out 0).trans rfl,(blk_cell BK108.out 1).trans rfl,(blk_cell BK108.out 2).trans rfl,(blk_cell BK108.out 3).trans rfl,hx129_0,hx129_1,hx129_2,hx129_3,hx129_4,hx130_0,hx130_1,hx130_2,hx130_3,hx130_4⟩ (fun hHeld=>?_);refine with_tabW contangolaw43_goes.tab6 contangolaw43_goes.bits6 (fun HT_ HW_=>?_)
             generalize w37.drew = w38 at HO111 HO114 HO117 HO122 HO124 BK107 BK108 HB hx129_0 hx129_1 hx129_2 hx129_3 hx129_4 hx130_0 hx130_1 hx130_2 hx130_3 hx130_4 hHeld ⊢
             refine pure_ (i:=0) (N:=some 38) (v:=?_) (a':=?_) #[Y,Z,Z,Z,Z,Z,Z,Z,Z,Z,Z,Z,Z,Z,Z,Z,Z,Z,Z,Z,Z,Z,Z,Z,Z,Z,Z,Z,Z,Z,Z,Z,Z,Z,Z,Z,Z,Z,Z,Z,Z,Z,Z,Z,Z,Z,Z,Z,Z,Z,Z,Z,Z] rfl rfl (any_of HT_.out (by kernel_rfl)) (fun _ _ _ h=>h) (Or.inl ⟨by rfl,?_⟩) ?_ ?_
             rotate_left
             ·intro w'
              go_simp
              with_reducible rfl
             rotate_left
             ·simp only [Act.put,List.setIfInBounds_toArray,List.set_cons_zero,List.set_cons_succ,i64_w,i32_w]
              rfl
             refine pure_ (i:=1) (N:=some 39) (v:=?_) (a':=?_) #[Y,Y,Z,Z,Z,Z,Z,Z,Z,Z,Z,Z,Z,Z,Z,Z,Z,Z,Z,Z,Z,Z,Z,Z,Z,Z,Z,Z,Z,Z,Z,Z,Z,Z,Z,Z,Z,Z,Z,Z,Z,Z,Z,Z,Z,Z,Z,Z,Z,Z,Z,Z,Z] rfl rfl (any_of HT_.out (by kernel_rfl)) (fun _ _ _ h=>h) (Or.inl ⟨by rfl,?_⟩) ?_ ?_
             rotate_left
             ·intro w'
              go_simp
              with_reducible rfl
             rotate_left
             ·simp only [Act.put,List.setIfInBounds_toArray,List.set_cons_zero,List.set_cons_succ,i64_w,i32_w]
              rfl
             refine pure_ (i:=2) (N:=some 40) (v:=?_) (a':=?_) #[Y,Y,Y,Z,Z,Z,Z,Z,Z,Z,Z,Z,Z,Z,Z,Z,Z,Z,Z,Z,Z,Z,Z,Z,Z,Z,Z,Z,Z,Z,Z,Z,Z,Z,Z,Z,Z,Z,Z,Z,Z,Z,Z,Z,Z,Z,Z,Z,Z,Z,Z,Z,Z] rfl rfl (any_of HT_.out (by kernel_rfl)) (fun _ _ _ h=>h) (Or.inl ⟨by rfl,?_⟩) ?_ ?_
             rotate_left
             ·intro w'
              go_simp
              with_reducible rfl
             rotate_left
             ·simp only [Act.put,List.setIfInBounds_toArray,List.set_cons_zero,List.set_cons_succ,i64_w,i32_w]
              rfl
             refine pure_ (i:=3) (N:=some 41) (v:=?_) (a':=?_) #[Y,Y,Y,Y,Z,Z,Z,Z,Z,Z,Z,Z,Z,Z,Z,Z,Z,Z,Z,Z,Z,Z,Z,Z,Z,Z,Z,Z,Z,Z,Z,Z,Z,Z,Z,Z,Z,Z,Z,Z,Z,Z,Z,Z,Z,Z,Z,Z,Z,Z,Z,Z,Z] rfl rfl (any_of HT_.out (by kernel_rfl)) (fun _ _ _ h=>h) (Or.inl ⟨by rfl,?_⟩) ?_ ?_
             rotate_left
             ·intro w'
              go_simp
              with_reducible rfl
             rotate_left
             ·simp only [Act.put,List.setIfInBounds_toArray,List.set_cons_zero,List.set_cons_succ,i64_w,i32_w]
              rfl
             refine pure_ (i:=4) (N:=some 42) (v:=?_) (a':=?_) #[Y,Y,Y,Y,Y,Z,Z,Z,Z,Z,Z,Z,Z,Z,Z,Z,Z,Z,Z,Z,Z,Z,Z,Z,Z,Z,Z,Z,Z,Z,Z,Z,Z,Z,Z,Z,Z,Z,Z,Z,Z,Z,Z,Z,Z,Z,Z,Z,Z,Z,Z,Z,Z] rfl rfl (any_of HT_.out (by kernel_rfl)) (fun _ _ _ h=>h) (Or.inl ⟨by rfl,?_⟩) ?_ ?_
             rotate_left
             ·intro w'
              go_simp
              with_reducible rfl
             rotate_left
             ·simp only [Act.put,List.setIfInBounds_toArray,List.set_cons_zero,List.set_cons_succ,i64_w,i32_w]
              rfl
             refine pure_ (i:=5) (N:=some 43) (v:=?_) (a':=?_) #[Y,Y,Y,Y,Y,Y,Z,Z,Z,Z,Z,Z,Z,Z,Z,Z,Z,Z,Z,Z,Z,Z,Z,Z,Z,Z,Z,Z,Z,Z,Z,Z,Z,Z,Z,Z,Z,Z,Z,Z,Z,Z,Z,Z,Z,Z,Z,Z,Z,Z,Z,Z,Z] rfl rfl (any_of HT_.out (by kernel_rfl)) (fun _ _ _ h=>h) (Or.inl ⟨by rfl,?_⟩) ?_ ?_
             rotate_left
             ·intro w'
              go_simp
              with_reducible rfl
             rotate_left
             ·simp only [Act.put,List.setIfInBounds_toArray,List.set_cons_zero,List.set_cons_succ,i64_w,i32_w]
              rfl
             refine pure_ (i:=6) (N:=some 44) (v:=?_) (a':=?_) #[Y,Y,Y,Y,Y,Y,Y,Z,Z,Z,Z,Z,Z,Z,Z,Z,Z,Z,Z,Z,Z,Z,Z,Z,Z,Z,Z,Z,Z,Z,Z,Z,Z,Z,Z,Z,Z,Z,Z,Z,Z,Z,Z,Z,Z,Z,Z,Z,Z,Z,Z,Z,Z] rfl rfl (any_of HT_.out (by kernel_rfl)) (fun _ _ _ h=>h) (Or.inl ⟨by rfl,?_⟩) ?_ ?_
             rotate_left
             ·intro w'
              go_simp
              with_reducible rfl
             rotate_left
             ·simp only [Act.put,List.setIfInBounds_toArray,List.set_cons_zero,List.set_cons_succ,i64_w,i32_w]
              rfl
             refine pure_ (i:=7) (N:=some 45) (v:=?_) (a':=?_) #[Y,Y,Y,Y,Y,Y,Y,Y,Z,Z,Z,Z,Z,Z,Z,Z,Z,Z,Z,Z,Z,Z,Z,Z,Z,Z,Z,Z,Z,Z,Z,Z,Z,Z,Z,Z,Z,Z,Z,Z,Z,Z,Z,Z,Z,Z,Z,Z,Z,Z,Z,Z,Z] rfl rfl (any_of HT_.out (by kernel_rfl)) (fun _ _ _ h=>h) (Or.inl ⟨by rfl,?_⟩) ?_ ?_
             rotate_left
             ·intro w'
              go_simp
              with_reducible rfl
             rotate_left
             ·simp only [Act.put,List.setIfInBounds_toArray,List.set_cons_zero,List.set_cons_succ,i64_w,i32_w]
              rfl
             refine pure_ (i:=8) (N:=some 46) (v:=?_) (a':=?_) #[Y,Y,Y,Y,Y,Y,Y,Y,Y,Z,Z,Z,Z,Z,Z,Z,Z,Z,Z,Z,Z,Z,Z,Z,Z,Z,Z,Z,Z,Z,Z,Z,Z,Z,Z,Z,Z,Z,Z,Z,Z,Z,Z,Z,Z,Z,Z,Z,Z,Z,Z,Z,Z] rfl rfl (any_of HT_.out (by kernel_rfl)) (fun _ _ _ h=>h) (Or.inl ⟨by rfl,?_⟩) ?_ ?_
             rotate_left
             ·intro w'
              go_simp
              with_reducible rfl
             rotate_left
             ·simp only [Act.put,List.setIfInBounds_toArray,List.set_cons_zero,List.set_cons_succ,i64_w,i32_w]
              rfl
             refine pure_ (i:=9) (N:=some 47) (v:=?_) (a':=?_) #[Y,Y,Y,Y,Y,Y,Y,Y,Y,Y,Z,Z,Z,Z,Z,Z,Z,Z,Z,Z,Z,Z,Z,Z,Z,Z,Z,Z,Z,Z,Z,Z,Z,Z,Z,Z,Z,Z,Z,Z,Z,Z,Z,Z,Z,Z,Z,Z,Z,Z,Z,Z,Z] rfl rfl (any_of HT_.out (by kernel_rfl)) (fun _ _ _ h=>h) (Or.inl ⟨by rfl,?_⟩) ?_ ?_
             rotate_left
             ·intro w'
              go_simp
              with_reducible rfl
             rotate_left
             ·simp only [Act.put,List.setIfInBounds_toArray,List.set_cons_zero,List.set_cons_succ,i64_w,i32_w]
              rfl
             refine pure_ (i:=10) (N:=some 48) (v:=?_) (a':=?_) #[Y,Y,Y,Y,Y,Y,Y,Y,Y,Y,Y,Z,Z,Z,Z,Z,Z,Z,Z,Z,Z,Z,Z,Z,Z,Z,Z,Z,Z,Z,Z,Z,Z,Z,Z,Z,Z,Z,Z,Z,Z,Z,Z,Z,Z,Z,Z,Z,Z,Z,Z,Z,Z] rfl rfl (any_of HT_.out (by kernel_rfl)) (fun _ _ _ h=>h) (Or.inl ⟨by rfl,?_⟩) ?_ ?_
             rotate_left
             ·intro w'
              go_simp
              with_reducible rfl
             rotate_left
             ·simp only [Act.put,List.setIfInBounds_toArray,List.set_cons_zero,List.set_cons_succ,i64_w,i32_w]
              rfl
             refine pure_ (i:=11) (N:=some 49) (v:=?_) (a':=?_) #[Y,Y,Y,Y,Y,Y,Y,Y,Y,Y,Y,Y,Z,Z,Z,Z,Z,Z,Z,Z,Z,Z,Z,Z,Z,Z,Z,Z,Z,Z,Z,Z,Z,Z,Z,Z,Z,Z,Z,Z,Z,Z,Z,Z,Z,Z,Z,Z,Z,Z,Z,Z,Z] rfl rfl (any_of HT_.out (by kernel_rfl)) (fun _ _ _ h=>h) (Or.inl ⟨by rfl,?_⟩) ?_ ?_
             rotate_left
             ·intro w'
              go_simp
              with_reducible rfl
             rotate_left
             ·simp only [Act.put,List.setIfInBounds_toArray,List.set_cons_zero,List.set_cons_succ,i64_w,i32_w]
              rfl
             refine pure_ (i:=12) (N:=some 50) (v:=?_) (a':=?_) #[Y,Y,Y,Y,Y,Y,Y,Y,Y,Y,Y,Y,Y,Z,Z,Z,Z,Z,Z,Z,Z,Z,Z,Z,Z,Z,Z,Z,Z,Z,Z,Z,Z,Z,Z,Z,Z,Z,Z,Z,Z,Z,Z,Z,Z,Z,Z,Z,Z,Z,Z,Z,Z] rfl rfl (any_of HT_.out (by kernel_rfl)) (fun _ _ _ h=>h) (Or.inl ⟨by rfl,?_⟩) ?_ ?_
             rotate_left
             ·intro w'
              go_simp
              with_reducible rfl
             rotate_left
             ·simp only [Act.put,List.setIfInBounds_toArray,List.set_cons_zero,List.set_cons_succ,i64_w,i32_w]
              rfl
             refine pure_ (i:=13) (N:=some 51) (v:=?_) (a':=?_) #[Y,Y,Y,Y,Y,Y,Y,Y,Y,Y,Y,Y,Y,Y,Z,Z,Z,Z,Z,Z,Z,Z,Z,Z,Z,Z,Z,Z,Z,Z,Z,Z,Z,Z,Z,Z,Z,Z,Z,Z,Z,Z,Z,Z,Z,Z,Z,Z,Z,Z,Z,Z,Z] rfl rfl (any_of HT_.out (by kernel_rfl)) (fun _ _ _ h=>h) (Or.inl ⟨by rfl,?_⟩) ?_ ?_
             rotate_left
             ·intro w'
              go_simp
              with_reducible rfl
             rotate_left
             ·simp only [Act.put,List.setIfInBounds_toArray,List.set_cons_zero,List.set_cons_succ,i64_w,i32_w]
              rfl
             refine pure_ (i:=14) (N:=some 52) (v:=?_) (a':=?_) #[Y,Y,Y,Y,Y,Y,Y,Y,Y,Y,Y,Y,Y,Y,Y,Z,Z,Z,Z,Z,Z,Z,Z,Z,Z,Z,Z,Z,Z,Z,Z,Z,Z,Z,Z,Z,Z,Z,Z,Z,Z,Z,Z,Z,Z,Z,Z,Z,Z,Z,Z,Z,Z] rfl rfl (any_of HT_.out (by kernel_rfl)) (fun _ _ _ h=>h) (Or.inl ⟨by rfl,?_⟩) ?_ ?_
             rotate_left
             ·intro w'
              go_simp
              with_reducible rfl
             rotate_left
             ·simp only [Act.put,List.setIfInBounds_toArray,List.set_cons_zero,List.set_cons_succ,i64_w,i32_w]
              rfl
             refine pure_ (i:=15) (N:=some 53) (v:=?_) (a':=?_) #[Y,Y,Y,Y,Y,Y,Y,Y,Y,Y,Y,Y,Y,Y,Y,Y,Z,Z,Z,Z,Z,Z,Z,Z,Z,Z,Z,Z,Z,Z,Z,Z,Z,Z,Z,Z,Z,Z,Z,Z,Z,Z,Z,Z,Z,Z,Z,Z,Z,Z,Z,Z,Z] rfl rfl (any_of HT_.out (by kernel_rfl)) (fun _ _ _ h=>h) (Or.inl ⟨by rfl,?_⟩) ?_ ?_
             rotate_left
             ·intro w'
              go_simp
              with_reducible rfl
             rotate_left
             ·simp only [Act.put,List.setIfInBounds_toArray,List.set_cons_zero,List.set_cons_succ,i64_w,i32_w]
              rfl
             refine pure_ (i:=16) (N:=some 54) (v:=?_) (a':=?_) #[Y,Y,Y,Y,Y,Y,Y,Y,Y,Y,Y,Y,Y,Y,Y,Y,Y,Z,Z,Z,Z,Z,Z,Z,Z,Z,Z,Z,Z,Z,Z,Z,Z,Z,Z,Z,Z,Z,Z,Z,Z,Z,Z,Z,Z,Z,Z,Z,Z,Z,Z,Z,Z] rfl rfl (any_of HT_.out (by kernel_rfl)) (fun _ _ _ h=>h) (Or.inl ⟨by rfl,?_⟩) ?_ ?_
             rotate_left
             ·intro w'
              go_simp
              with_reducible rfl
             rotate_left
             ·simp only [Act.put,List.setIfInBounds_toArray,List.set_cons_zero,List.set_cons_succ,i64_w,i32_w]
              rfl
             refine pure_ (i:=17) (N:=some 55) (v:=?_) (a':=?_) #[Y,Y,Y,Y,Y,Y,Y,Y,Y,Y,Y,Y,Y,Y,Y,Y,Y,Y,Z,Z,Z,Z,Z,Z,Z,Z,Z,Z,Z,Z,Z,Z,Z,Z,Z,Z,Z,Z,Z,Z,Z,Z,Z,Z,Z,Z,Z,Z,Z,Z,Z,Z,Z] rfl rfl (any_of HT_.out (by kernel_rfl)) (fun _ _ _ h=>h) (Or.inl ⟨by rfl,?_⟩) ?_ ?_
             rotate_left
             ·intro w'
              go_simp
              with_reducible rfl
             rotate_left
             ·simp only [Act.put,List.setIfInBounds_toArray,List.set_cons_zero,List.set_cons_succ,i64_w,i32_w]
              rfl
             refine pure_ (i:=18) (N:=some 56) (v:=?_) (a':=?_) #[Y,Y,Y,Y,Y,Y,Y,Y,Y,Y,Y,Y,Y,Y,Y,Y,Y,Y,Y,Z,Z,Z,Z,Z,Z,Z,Z,Z,Z,Z,Z,Z,Z,Z,Z,Z,Z,Z,Z,Z,Z,Z,Z,Z,Z,Z,Z,Z,Z,Z,Z,Z,Z] rfl rfl (any_of HT_.out (by kernel_rfl)) (fun _ _ _ h=>h) (Or.inl ⟨by rfl,?_⟩) ?_ ?_
             rotate_left
             ·intro w'
              go_simp
              with_reducible rfl
             rotate_left
             ·simp only [Act.put,List.setIfInBounds_toArray,List.set_cons_zero,List.set_cons_succ,i64_w,i32_w]
              rfl
             refine pure_ (i:=19) (N:=some 57) (v:=?_) (a':=?_) #[Y,Y,Y,Y,Y,Y,Y,Y,Y,Y,Y,Y,Y,Y,Y,Y,Y,Y,Y,Y,Z,Z,Z,Z,Z,Z,Z,Z,Z,Z,Z,Z,Z,Z,Z,Z,Z,Z,Z,Z,Z,Z,Z,Z,Z,Z,Z,Z,Z,Z,Z,Z,Z] rfl rfl (any_of HT_.out (by kernel_rfl)) (fun _ _ _ h=>h) (Or.inl ⟨by rfl,?_⟩) ?_ ?_
             rotate_left
             ·intro w'
              go_simp
              with_reducible rfl
             rotate_left
             ·simp only [Act.put,List.setIfInBounds_toArray,List.set_cons_zero,List.set_cons_succ,i64_w,i32_w]
              rfl
             refine pure_ (i:=20) (N:=some 58) (v:=?_) (a':=?_) #[Y,Y,Y,Y,Y,Y,Y,Y,Y,Y,Y,Y,Y,Y,Y,Y,Y,Y,Y,Y,Y,Z,Z,Z,Z,Z,Z,Z,Z,Z,Z,Z,Z,Z,Z,Z,Z,Z,Z,Z,Z,Z,Z,Z,Z,Z,Z,Z,Z,Z,Z,Z,Z] rfl rfl (any_of HT_.out (by kernel_rfl)) (fun _ _ _ h=>h) (Or.inl ⟨by rfl,?_⟩) ?_ ?_
             rotate_left
             ·intro w'
              go_simp
              with_reducible rfl
             rotate_left
             ·simp only [Act.put,List.setIfInBounds_toArray,List.set_cons_zero,List.set_cons_succ,i64_w,i32_w]
              rfl
             refine pure_ (i:=21) (N:=some 59) (v:=?_) (a':=?_) #[Y,Y,Y,Y,Y,Y,Y,Y,Y,Y,Y,Y,Y,Y,Y,Y,Y,Y,Y,Y,Y,Y,Z,Z,Z,Z,Z,Z,Z,Z,Z,Z,Z,Z,Z,Z,Z,Z,Z,Z,Z,Z,Z,Z,Z,Z,Z,Z,Z,Z,Z,Z,Z] rfl rfl (any_of HT_.out (by kernel_rfl)) (fun _ _ _ h=>h) (Or.inl ⟨by rfl,?_⟩) ?_ ?_
             rotate_left
             ·intro w'
              go_simp
              with_reducible rfl
             rotate_left
             ·simp only [Act.put,List.setIfInBounds_toArray,List.set_cons_zero,List.set_cons_succ,i64_w,i32_w]
              rfl
             refine pure_ (i:=22) (N:=some 60) (v:=?_) (a':=?_) #[Y,Y,Y,Y,Y,Y,Y,Y,Y,Y,Y,Y,Y,Y,Y,Y,Y,Y,Y,Y,Y,Y,Y,Z,Z,Z,Z,Z,Z,Z,Z,Z,Z,Z,Z,Z,Z,Z,Z,Z,Z,Z,Z,Z,Z,Z,Z,Z,Z,Z,Z,Z,Z] rfl rfl (any_of HT_.out (by kernel_rfl)) (fun _ _ _ h=>h) (Or.inl ⟨by rfl,?_⟩) ?_ ?_
             rotate_left
             ·intro w'
              go_simp
              with_reducible rfl
             rotate_left
             ·simp only [Act.put,List.setIfInBounds_toArray,List.set_cons_zero,List.set_cons_succ,i64_w,i32_w]
              rfl
             refine pure_ (i:=23) (N:=some 61) (v:=?_) (a':=?_) #[Y,Y,Y,Y,Y,Y,Y,Y,Y,Y,Y,Y,Y,Y,Y,Y,Y,Y,Y,Y,Y,Y,Y,Y,Z,Z,Z,Z,Z,Z,Z,Z,Z,Z,Z,Z,Z,Z,Z,Z,Z,Z,Z,Z,Z,Z,Z,Z,Z,Z,Z,Z,Z] rfl rfl (any_of HT_.out (by kernel_rfl)) (fun _ _ _ h=>h) (Or.inl ⟨by rfl,?_⟩) ?_ ?_
             rotate_left
             ·intro w'
              go_simp
              with_reducible rfl
             rotate_left
             ·simp only [Act.put,List.setIfInBounds_toArray,List.set_cons_zero,List.set_cons_succ,i64_w,i32_w]
              rfl
             refine pure_ (i:=24) (N:=some 62) (v:=?_) (a':=?_) #[Y,Y,Y,Y,Y,Y,Y,Y,Y,Y,Y,Y,Y,Y,Y,Y,Y,Y,Y,Y,Y,Y,Y,Y,Y,Z,Z,Z,Z,Z,Z,Z,Z,Z,Z,Z,Z,Z,Z,Z,Z,Z,Z,Z,Z,Z,Z,Z,Z,Z,Z,Z,Z] rfl rfl (any_of HT_.out (by kernel_rfl)) (fun _ _ _ h=>h) (Or.inl ⟨by rfl,?_⟩) ?_ ?_
             rotate_left
             ·intro w'
              go_simp
              with_reducible rfl
             rotate_left
             ·simp only [Act.put,List.setIfInBounds_toArray,List.set_cons_zero,List.set_cons_succ,i64_w,i32_w]
              rfl
             refine pure_ (i:=25) (N:=some 63) (v:=?_) (a':=?_) #[Y,Y,Y,Y,Y,Y,Y,Y,Y,Y,Y,Y,Y,Y,Y,Y,Y,Y,Y,Y,Y,Y,Y,Y,Y,Y,Z,Z,Z,Z,Z,Z,Z,Z,Z,Z,Z,Z,Z,Z,Z,Z,Z,Z,Z,Z,Z,Z,Z,Z,Z,Z,Z] rfl rfl (any_of HT_.out (by kernel_rfl)) (fun _ _ _ h=>h) (Or.inl ⟨by rfl,?_⟩) ?_ ?_
             rotate_left
             ·intro w'
              go_simp
              with_reducible rfl
             rotate_left
             ·simp only [Act.put,List.setIfInBounds_toArray,List.set_cons_zero,List.set_cons_succ,i64_w,i32_w]
              rfl
             refine pure_ (i:=26) (N:=some 64) (v:=?_) (a':=?_) #[Y,Y,Y,Y,Y,Y,Y,Y,Y,Y,Y,Y,Y,Y,Y,Y,Y,Y,Y,Y,Y,Y,Y,Y,Y,Y,Y,Z,Z,Z,Z,Z,Z,Z,Z,Z,Z,Z,Z,Z,Z,Z,Z,Z,Z,Z,Z,Z,Z,Z,Z,Z,Z] rfl rfl (any_of HT_.out (by kernel_rfl)) (fun _ _ _ h=>h) (Or.inl ⟨by rfl,?_⟩) ?_ ?_
             rotate_left
             ·intro w'
              go_simp
              with_reducible rfl
             rotate_left
             ·simp only [Act.put,List.setIfInBounds_toArray,List.set_cons_zero,List.set_cons_succ,i64_w,i32_w]
              rfl
             refine pure_ (i:=27) (N:=some 65) (v:=?_) (a':=?_) #[Y,Y,Y,Y,Y,Y,Y,Y,Y,Y,Y,Y,Y,Y,Y,Y,Y,Y,Y,Y,Y,Y,Y,Y,Y,Y,Y,Y,Z,Z,Z,Z,Z,Z,Z,Z,Z,Z,Z,Z,Z,Z,Z,Z,Z,Z,Z,Z,Z,Z,Z,Z,Z] rfl rfl (any_of HT_.out (by kernel_rfl)) (fun _ _ _ h=>h) (Or.inl ⟨by rfl,?_⟩) ?_ ?_
             rotate_left
             ·intro w'
              go_simp
              with_reducible rfl
             rotate_left
             ·simp only [Act.put,List.setIfInBounds_toArray,List.set_cons_zero,List.set_cons_succ,i64_w,i32_w]
              rfl
             refine one_ (i:=28) (N:=some 66) #[Y,Y,Y,Y,Y,Y,Y,Y,Y,Y,Y,Y,Y,Y,Y,Y,Y,Y,Y,Y,Y,Y,Y,Y,Y,Y,Y,Y,Y,Z,Z,Z,Z,Z,Z,Z,Z,Z,Z,Z,Z,Z,Z,Z,Z,Z,Z,Z,Z,Z,Z,Z,Z] rfl rfl (one_of HT_.out (by kernel_rfl)) (by decide) (fun K hK=>?_)
             refine Kd.R_lit_step (Kd.int .i64) _ 3 ?hg (N:=66) ?hd (xs:=([0]:List Int)) (inner:=[.int .i64 0]) (ok:=fun _=>True) (okp:=fun _=>True) ?hr ?hp (fun _ hk=>hk) trivial (Below.refl _ _) (Nat.le_refl _) (by simp) ?_;(case hd=>rfl);(case hg=>rfl);(case hr=>first|(go_simp;done)|(go_simp;rfl));(case hp=>exact (Reps.one (show Kd.M (Kd.int .i64) _ _ _ 0 [.int .i64 0] from rfl) (Reps.none _ _)))
             intro v126 w39 ho40 hb hg_ hnew_
             have HS8_:=(hb.cell (World.block_lt_of_cell? _ _ (hHeld.2.2.2.2.2.2.2.2.1))).trans (hHeld.2.2.2.2.2.2.2.2.1)
             have HS9_:=(hb.cell (World.block_lt_of_cell? _ _ (hHeld.2.2.2.2.2.2.2.2.2.1))).trans (hHeld.2.2.2.2.2.2.2.2.2.1)
             have HS10_:=(hb.cell (World.block_lt_of_cell? _ _ (hHeld.2.2.2.2.2.2.2.2.2.2.1))).trans (hHeld.2.2.2.2.2.2.2.2.2.2.1)
             have HS11_:=(hb.cell (World.block_lt_of_cell? _ _ (hHeld.2.2.2.2.2.2.2.2.2.2.2.1))).trans (hHeld.2.2.2.2.2.2.2.2.2.2.2.1)
             have HS12_:=(hb.cell (World.block_lt_of_cell? _ _ (hHeld.2.2.2.2.2.2.2.2.2.2.2.2.1))).trans (hHeld.2.2.2.2.2.2.2.2.2.2.2.2.1)
             have HS13_:=(hb.cell (World.block_lt_of_cell? _ _ (hHeld.2.2.2.2.2.2.2.2.2.2.2.2.2.1))).trans (hHeld.2.2.2.2.2.2.2.2.2.2.2.2.2.1)
             have HS14_:=(hb.cell (World.block_lt_of_cell? _ _ (hHeld.2.2.2.2.2.2.2.2.2.2.2.2.2.2.1))).trans (hHeld.2.2.2.2.2.2.2.2.2.2.2.2.2.2.1)
             have HS15_:=(hb.cell (World.block_lt_of_cell? _ _ (hHeld.2.2.2.2.2.2.2.2.2.2.2.2.2.2.2.1))).trans (hHeld.2.2.2.2.2.2.2.2.2.2.2.2.2.2.2.1)
             have HS16_:=(hb.cell (World.block_lt_of_cell? _ _ (hHeld.2.2.2.2.2.2.2.2.2.2.2.2.2.2.2.2.1))).trans (hHeld.2.2.2.2.2.2.2.2.2.2.2.2.2.2.2.2.1)
             have HS17_:=(hb.cell (World.block_lt_of_cell? _ _ (hHeld.2.2.2.2.2.2.2.2.2.2.2.2.2.2.2.2.2))).trans (hHeld.2.2.2.2.2.2.2.2.2.2.2.2.2.2.2.2.2)
             clear hg_ hnew_
             (first|rw [← Ny125.out] at ho40|(simp only [Int.reduceToNat] at ho40;rw [← Ny125.out] at ho40))
             have n0_:=Aside0.mk (Kd.R_below (by (with_reducible repeat (first|apply Kd.R_alloc|apply Kd.R_drewN|apply Kd.R_drew));exact HO111.out) hb)
             have n1_:=Aside0.mk (Kd.R_elder' (by (with_reducible repeat (first|apply Kd.R_alloc|apply Kd.R_drewN|apply Kd.R_drew));exact HO114.out) (Kd.R_base ho40) hb)
             have n2_:=Aside0.mk (Kd.R_below (by (with_reducible repeat (first|apply Kd.R_alloc|apply Kd.R_drewN|apply Kd.R_drew));exact HO117.out) hb)
             have n3_:=Aside0.mk (Kd.R_below (by (with_reducible repeat (first|apply Kd.R_alloc|apply Kd.R_drewN|apply Kd.R_drew));exact HO122.out) hb)
             have n4_:=Aside0.mk (Kd.R_elder' (by (with_reducible repeat (first|apply Kd.R_alloc|apply Kd.R_drewN|apply Kd.R_drew));exact HO124.out) (Kd.R_base ho40) hb)
             have n5_:=Aside0.mk (Kd.R_lower (Kd.R_new' (Kd.R_new' ho40 (Kd.R_lt (by (with_reducible repeat (first|apply Kd.R_alloc|apply Kd.R_drewN|apply Kd.R_drew));exact HO114.out))) (Kd.R_lt (by (with_reducible repeat (first|apply Kd.R_alloc|apply Kd.R_drewN|apply Kd.R_drew));exact HO124.out))) (below_size (by repeat (first|(with_reducible first|exact HB.out|apply below_alloc|apply pw_below_drewN|apply below_drew1|refine below_set ?_ GE107.out|refine below_set ?_ GE108.out)|exact HB.out))))
             have n6_:=Aside0.mk (blk_below (g:=gb107) (o:=.cells #[.string (⟨#[111,105,108]⟩:ByteArray),.int .i64 1,.int .i64 9,.int .i64 0] 39 (0,0)) (by (with_reducible repeat (first|refine blk_drewN ?_ _|refine blk_drew ?_|refine blk_alloc ?_ _));exact BK107.out) hb)
             have n7_:=Aside0.mk (blk_below (g:=gb108) (o:=.cells #[.string (⟨#[111,105,108]⟩:ByteArray),.int .i64 1,.int .i64 39,.int .i64 0] 39 (0,0)) (by (with_reducible repeat (first|refine blk_drewN ?_ _|refine blk_drew ?_|refine blk_alloc ?_ _));exact BK108.out) hb)
             have n8_:=Aside0.mk (below_step (by repeat (first|(with_reducible first|exact HB.out|apply below_alloc|apply pw_below_drewN|apply below_drew1|refine below_set ?_ GE107.out|refine below_set ?_ GE108.out)|exact HB.out)) hb)
             clear HO111
             clear HO114
             clear HO117
             clear HO122
             clear HO124
             clear BK107
             clear BK108
             clear HB
             have HO111:=n0_
             have HO114:=n1_
             have HO117:=n2_
             have HO122:=n3_
             have HO124:=n4_
             have HO127:=n5_
             have BK107:=n6_
             have BK108:=n7_
             have HB:=n8_
             clear n0_ n1_ n2_ n3_ n4_ n5_ n6_ n7_ n8_
             clear hb ho40
             obtain ⟨Ao41,co41,eo41⟩:=Kd.R_slice HO124.out
             (first|subst eo41|(injection eo41 with f1_ f2_ f3_;have f4_:=f1_.symm;have f5_:=f3_.symm;clear f1_ f2_ f3_;subst f4_;subst f5_))
             obtain ⟨Ao42,co42,eo42⟩:=Kd.R_slice HO127.out
             (first|subst eo42|(injection eo42 with f1_ f2_ f3_;have f4_:=f1_.symm;have f5_:=f3_.symm;clear f1_ f2_ f3_;subst f4_;subst f5_))
             refine hK.out _ _ ⟨(blk_cell BK107.out 0).trans rfl,(blk_cell BK107.out 1).trans rfl,(blk_cell BK107.out 2).trans rfl,(blk_cell BK107.out 3).trans rfl,(blk_cell BK108.out 0).trans rfl,(blk_cell BK108.out 1).trans rfl,(blk_cell BK108.out 2).trans rfl,(blk_cell BK108.out 3).trans rfl,HS8_,HS9_,HS10_,HS11_,HS12_,HS13_,HS14_,HS15_,HS16_,HS17_⟩ (fun hHeld=>?_)
             clear hK K
             refine norm_ (a':=?_) ?_ ?_
             rotate_left
             ·show Act.put _ (some 66) _ = _
              simp only [Act.put,List.setIfInBounds_toArray,List.set_cons_zero,List.set_cons_succ,i64_w,i32_w]
              rfl
             refine one_ (i:=29) (N:=some 67) #[Y,Y,Y,Y,Y,Y,Y,Y,Y,Y,Y,Y,Y,Y,Y,Y,Y,Y,Y,Y,Y,Y,Y,Y,Y,Y,Y,Y,Y,Y,Z,Z,Z,Z,Z,Z,Z,Z,Z,Z,Z,Z,Z,Z,Z,Z,Z,Z,Z,Z,Z,Z,Z] rfl rfl (one_of HT_.out (by kernel_rfl)) (by decide) (fun K hK=>?_)
             refine goes_ Try.func18 (by kernel_rfl) rfl #[.slice Ao41 t119.length co41,.slice Ao42 y125.length co42] (by rfl) rfl rfl (by (try simp only [List.map_toArray,List.map_cons,List.map_nil]);first|done|rfl|(simp only [List.length_drop,List.length_take];rfl)) ?_
             with_reducible refine (contangoref43_Ints.calls k _ _ t119 _ _ y125 true _ ?side1 ?side2 ?side3 ?side4 A12.out).mono ?_
             (case side1=>repeat (first|exact (Kd.R_reads' HO124.out).2.2|(with_reducible refine Kd.C_alloc ?_ _)|(with_reducible refine Kd.C_drewN ?_ _)|(with_reducible refine Kd.C_drew ?_)))
             (case side2=>exact (Kd.R_reads' HO124.out).2.1)
             (case side3=>repeat (first|exact (Kd.R_reads' HO127.out).2.2|(with_reducible refine Kd.C_alloc ?_ _)|(with_reducible refine Kd.C_drewN ?_ _)|(with_reducible refine Kd.C_drew ?_)))
             (case side4=>exact (Kd.R_reads' HO127.out).2.1)
             rintro e w' ⟨rfl,⟨nd,rfl⟩⟩
             refine ⟨_,rfl,?_⟩
             obtain ⟨Ao43,co43,eo43⟩:=Kd.R_slice HO122.out
             (first|subst eo43|(injection eo43 with f1_ f2_ f3_;have f4_:=f1_.symm;have f5_:=f3_.symm;clear f1_ f2_ f3_;subst f4_;subst f5_))
             refine hK.out _ _ ⟨(blk_cell BK107.out 0).trans rfl,(blk_cell BK107.out 1).trans rfl,(blk_cell BK107.out 2).trans rfl,(blk_cell BK107.out 3).trans rfl,(blk_cell BK108.out 0).trans rfl,(blk_cell BK108.out 1).trans rfl,(blk_cell BK108.out 2).trans rfl,(blk_cell BK108.out 3).trans rfl,hHeld.2.2.2.2.2.2.2.2.1,hHeld.2.2.2.2.2.2.2.2.2.1,hHeld.2.2.2.2.2.2.2.2.2.2.1,hHeld.2.2.2.2.2.2.2.2.2.2.2.1,hHeld.2.2.2.2.2.2.2.2.2.2.2.2.1,hHeld.2.2.2.2.2.2.2.2.2.2.2.2.2.1,hHeld.2.2.2.2.2.2.2.2.2.2.2.2.2.2.1,hHeld.2.2.2.2.2.2.2.2.2.2.2.2.2.2.2.1,hHeld.2.2.2.2.2.2.2.2.2.2.2.2.2.2.2.2.1,hHeld.2.2.2.2.2.2.2.2.2.2.2.2.2.2.2.2.2⟩ (fun hHeld=>?_)
             clear hK K
             refine norm_ (a':=?_) ?_ ?_
             rotate_left
             ·show Act.put _ (some 67) _ = _
              simp only [Act.put,List.setIfInBounds_toArray,List.set_cons_zero,List.set_cons_succ,i64_w,i32_w]
              rfl
             refine pure_ (i:=30) (N:=some 68) (v:=?_) (a':=?_) #[Y,Y,Y,Y,Y,Y,Y,Y,Y,Y,Y,Y,Y,Y,Y,Y,Y,Y,Y,Y,Y,Y,Y,Y,Y,Y,Y,Y,Y,Y,Y,Z,Z,Z,Z,Z,Z,Z,Z,Z,Z,Z,Z,Z,Z,Z,Z,Z,Z,Z,Z,Z,Z] rfl rfl (any_of HT_.out (by kernel_rfl)) (fun _ _ _ h=>h) (Or.inl ⟨by rfl,?_⟩) ?_ ?_
             rotate_left
             ·intro w'
              go_simp
              with_reducible rfl
             rotate_left
             ·simp only [Act.put,List.setIfInBounds_toArray,List.set_cons_zero,List.set_cons_succ,i64_w,i32_w]
              rfl
             refine pure_ (i:=31) (N:=some 69) (v:=?_) (a':=?_) #[Y,Y,Y,Y,Y,Y,Y,Y,Y,Y,Y,Y,Y,Y,Y,Y,Y,Y,Y,Y,Y,Y,Y,Y,Y,Y,Y,Y,Y,Y,Y,Y,Z,Z,Z,Z,Z,Z,Z,Z,Z,Z,Z,Z,Z,Z,Z,Z,Z,Z,Z,Z,Z] rfl rfl (any_of HT_.out (by kernel_rfl)) (fun _ _ _ h=>h) (Or.inl ⟨by rfl,?_⟩) ?_ ?_
             rotate_left
             ·intro w'
              go_simp
              with_reducible rfl
             rotate_left
             ·simp only [Act.put,List.setIfInBounds_toArray,List.set_cons_zero,List.set_cons_succ,i64_w,i32_w]
              rfl
             refine pure_ (i:=32) (N:=some 70) (v:=?_) (a':=?_) #[Y,Y,Y,Y,Y,Y,Y,Y,Y,Y,Y,Y,Y,Y,Y,Y,Y,Y,Y,Y,Y,Y,Y,Y,Y,Y,Y,Y,Y,Y,Y,Y,Y,Z,Z,Z,Z,Z,Z,Z,Z,Z,Z,Z,Z,Z,Z,Z,Z,Z,Z,Z,Z] rfl rfl (any_of HT_.out (by kernel_rfl)) (fun _ _ _ h=>h) (Or.inl ⟨by rfl,?_⟩) ?_ ?_
             rotate_left
             ·intro w'
              go_simp
              with_reducible rfl
             rotate_left
             ·simp only [Act.put,List.setIfInBounds_toArray,List.set_cons_zero,List.set_cons_succ,i64_w,i32_w]
              rfl
             refine pure_ (i:=33) (N:=some 71) (v:=?_) (a':=?_) #[Y,Y,Y,Y,Y,Y,Y,Y,Y,Y,Y,Y,Y,Y,Y,Y,Y,Y,Y,Y,Y,Y,Y,Y,Y,Y,Y,Y,Y,Y,Y,Y,Y,Y,Z,Z,Z,Z,Z,Z,Z,Z,Z,Z,Z,Z,Z,Z,Z,Z,Z,Z,Z] rfl rfl (any_of HT_.out (by kernel_rfl)) (fun _ _ _ h=>h) (Or.inl ⟨by rfl,?_⟩) ?_ ?_
             rotate_left
             ·intro w'
              go_simp
              with_reducible rfl
             rotate_left
             ·simp only [Act.put,List.setIfInBounds_toArray,List.set_cons_zero,List.set_cons_succ,i64_w,i32_w]
              rfl
             refine pure_ (i:=34) (N:=some 72) (v:=?_) (a':=?_) #[Y,Y,Y,Y,Y,Y,Y,Y,Y,Y,Y,Y,Y,Y,Y,Y,Y,Y,Y,Y,Y,Y,Y,Y,Y,Y,Y,Y,Y,Y,Y,Y,Y,Y,Y,Z,Z,Z,Z,Z,Z,Z,Z,Z,Z,Z,Z,Z,Z,Z,Z,Z,Z] rfl rfl (any_of HT_.out (by kernel_rfl)) (fun _ _ _ h=>h) (Or.inl ⟨by rfl,?_⟩) ?_ ?_
             rotate_left
             ·intro w'
              go_simp
              with_reducible rfl
             rotate_left
             ·simp only [Act.put,List.setIfInBounds_toArray,List.set_cons_zero,List.set_cons_succ,i64_w,i32_w]
              rfl
             refine pure_ (i:=35) (N:=some 73) (v:=?_) (a':=?_) #[Y,Y,Y,Y,Y,Y,Y,Y,Y,Y,Y,Y,Y,Y,Y,Y,Y,Y,Y,Y,Y,Y,Y,Y,Y,Y,Y,Y,Y,Y,Y,Y,Y,Y,Y,Y,Z,Z,Z,Z,Z,Z,Z,Z,Z,Z,Z,Z,Z,Z,Z,Z,Z] rfl rfl (any_of HT_.out (by kernel_rfl)) (fun _ _ _ h=>h) (Or.inl ⟨by rfl,?_⟩) ?_ ?_
             rotate_left
             ·intro w'
              go_simp
              with_reducible rfl
             rotate_left
             ·simp only [Act.put,List.setIfInBounds_toArray,List.set_cons_zero,List.set_cons_succ,i64_w,i32_w]
              rfl
             refine pure_ (i:=36) (N:=some 74) (v:=?_) (a':=?_) #[Y,Y,Y,Y,Y,Y,Y,Y,Y,Y,Y,Y,Y,Y,Y,Y,Y,Y,Y,Y,Y,Y,Y,Y,Y,Y,Y,Y,Y,Y,Y,Y,Y,Y,Y,Y,Y,Z,Z,Z,Z,Z,Z,Z,Z,Z,Z,Z,Z,Z,Z,Z,Z] rfl rfl (any_of HT_.out (by kernel_rfl)) (fun _ _ _ h=>h) (Or.inl ⟨by rfl,?_⟩) ?_ ?_
             rotate_left
             ·intro w'
              go_simp
              with_reducible rfl
             rotate_left
             ·simp only [Act.put,List.setIfInBounds_toArray,List.set_cons_zero,List.set_cons_succ,i64_w,i32_w]
              rfl
             refine pure_ (i:=37) (N:=some 75) (v:=?_) (a':=?_) #[Y,Y,Y,Y,Y,Y,Y,Y,Y,Y,Y,Y,Y,Y,Y,Y,Y,Y,Y,Y,Y,Y,Y,Y,Y,Y,Y,Y,Y,Y,Y,Y,Y,Y,Y,Y,Y,Y,Z,Z,Z,Z,Z,Z,Z,Z,Z,Z,Z,Z,Z,Z,Z] rfl rfl (any_of HT_.out (by kernel_rfl)) (fun _ _ _ h=>h) (Or.inl ⟨by rfl,?_⟩) ?_ ?_
             rotate_left
             ·intro w'
              go_simp
              with_reducible rfl
             rotate_left
             ·simp only [Act.put,List.setIfInBounds_toArray,List.set_cons_zero,List.set_cons_succ,i64_w,i32_w]
              rfl
             refine pure_ (i:=38) (N:=some 76) (v:=?_) (a':=?_) #[Y,Y,Y,Y,Y,Y,Y,Y,Y,Y,Y,Y,Y,Y,Y,Y,Y,Y,Y,Y,Y,Y,Y,Y,Y,Y,Y,Y,Y,Y,Y,Y,Y,Y,Y,Y,Y,Y,Y,Z,Z,Z,Z,Z,Z,Z,Z,Z,Z,Z,Z,Z,Z] rfl rfl (any_of HT_.out (by kernel_rfl)) (fun _ _ _ h=>h) (Or.inl ⟨by rfl,?_⟩) ?_ ?_
             rotate_left
             ·intro w'
              go_simp
              with_reducible rfl
             rotate_left
             ·simp only [Act.put,List.setIfInBounds_toArray,List.set_cons_zero,List.set_cons_succ,i64_w,i32_w]
              rfl
             refine take_ (i:=39) (N:=some 77) (v:=?_) (a':=?_) #[Y,Y,Y,Y,Y,Y,Y,Y,Y,Y,Y,Y,Y,Y,Y,Y,Y,Y,Y,Y,Y,Y,Y,Y,Y,Y,Y,Y,Y,Y,Y,Y,Y,Y,Y,Y,Y,Y,Y,Y,Z,Z,Z,Z,Z,Z,Z,Z,Z,Z,Z,Z,Z] rfl rfl (take_ofW HT_.out HW_.out (by kernel_rfl)) (fun _ _ _ h=>h) (Or.inl ⟨by rfl,?_⟩) hHeld ?_ ?_
             rotate_left
             ·rintro w' ⟨s0,s1,s2,s3,s4,s5,s6,s7,s8,s9,s10,s11,s12,s13,s14,s15,s16,s17⟩
              go_simp
              with_reducible rfl
             rotate_left
             ·simp only [Act.put,List.setIfInBounds_toArray,List.set_cons_zero,List.set_cons_succ,i64_w,i32_w]
              rfl
             refine take_ (i:=40) (N:=some 78) (v:=?_) (a':=?_) #[Y,Y,Y,Y,Y,Y,Y,Y,Y,Y,Y,Y,Y,Y,Y,Y,Y,Y,Y,Y,Y,Y,Y,Y,Y,Y,Y,Y,Y,Y,Y,Y,Y,Y,Y,Y,Y,Y,Y,Y,Y,Z,Z,Z,Z,Z,Z,Z,Z,Z,Z,Z,Z] rfl rfl (take_ofW HT_.out HW_.out (by kernel_rfl)) (fun _ _ _ h=>h) (Or.inl ⟨by rfl,?_⟩) hHeld ?_ ?_
             rotate_left
             ·rintro w' ⟨s0,s1,s2,s3,s4,s5,s6,s7,s8,s9,s10,s11,s12,s13,s14,s15,s16,s17⟩
              go_simp
              with_reducible rfl
             rotate_left
             ·simp only [Act.put,List.setIfInBounds_toArray,List.set_cons_zero,List.set_cons_succ,i64_w,i32_w]
              rfl
             refine pure_ (i:=41) (N:=some 79) (v:=?_) (a':=?_) #[Y,Y,Y,Y,Y,Y,Y,Y,Y,Y,Y,Y,Y,Y,Y,Y,Y,Y,Y,Y,Y,Y,Y,Y,Y,Y,Y,Y,Y,Y,Y,Y,Y,Y,Y,Y,Y,Y,Y,Y,Y,Y,Z,Z,Z,Z,Z,Z,Z,Z,Z,Z,Z] rfl rfl (any_of HT_.out (by kernel_rfl)) (fun _ _ _ h=>h) (Or.inl ⟨by rfl,?_⟩) ?_ ?_
             rotate_left
             ·intro w'
              go_simp
              with_reducible rfl
             rotate_left
             ·simp only [Act.put,List.setIfInBounds_toArray,List.set_cons_zero,List.set_cons_succ,i64_w,i32_w]
              rfl
             refine pure_ (i:=42) (N:=some 80) (v:=?_) (a':=?_) #[Y,Y,Y,Y,Y,Y,Y,Y,Y,Y,Y,Y,Y,Y,Y,Y,Y,Y,Y,Y,Y,Y,Y,Y,Y,Y,Y,Y,Y,Y,Y,Y,Y,Y,Y,Y,Y,Y,Y,Y,Y,Y,Y,Z,Z,Z,Z,Z,Z,Z,Z,Z,Z] rfl rfl (any_of HT_.out (by kernel_rfl)) (fun _ _ _ h=>h) (Or.inl ⟨by rfl,?_⟩) ?_ ?_
             rotate_left
             ·intro w'
              go_simp
              with_reducible rfl
             rotate_left
             ·simp only [Act.put,List.setIfInBounds_toArray,List.set_cons_zero,List.set_cons_succ,i64_w,i32_w]
              rfl
             refine pure_ (i:=43) (N:=some 81) (v:=?_) (a':=?_) #[Y,Y,Y,Y,Y,Y,Y,Y,Y,Y,Y,Y,Y,Y,Y,Y,Y,Y,Y,Y,Y,Y,Y,Y,Y,Y,Y,Y,Y,Y,Y,Y,Y,Y,Y,Y,Y,Y,Y,Y,Y,Y,Y,Y,Z,Z,Z,Z,Z,Z,Z,Z,Z] rfl rfl (any_of HT_.out (by kernel_rfl)) (fun _ _ _ h=>h) (Or.inl ⟨by rfl,?_⟩) ?_ ?_
             rotate_left
             ·intro w'
              go_simp
              with_reducible rfl
             rotate_left
             ·simp only [Act.put,List.setIfInBounds_toArray,List.set_cons_zero,List.set_cons_succ,i64_w,i32_w]
              rfl
             refine pure_ (i:=44) (N:=some 82) (v:=?_) (a':=?_) #[Y,Y,Y,Y,Y,Y,Y,Y,Y,Y,Y,Y,Y,Y,Y,Y,Y,Y,Y,Y,Y,Y,Y,Y,Y,Y,Y,Y,Y,Y,Y,Y,Y,Y,Y,Y,Y,Y,Y,Y,Y,Y,Y,Y,Y,Z,Z,Z,Z,Z,Z,Z,Z] rfl rfl (any_of HT_.out (by kernel_rfl)) (fun _ _ _ h=>h) (Or.inl ⟨by rfl,?_⟩) ?_ ?_
             rotate_left
             ·intro w'
              go_simp
              with_reducible rfl
             rotate_left
             ·simp only [Act.put,List.setIfInBounds_toArray,List.set_cons_zero,List.set_cons_succ,i64_w,i32_w]
              rfl
             refine pure_ (i:=45) (N:=some 83) (v:=?_) (a':=?_) #[Y,Y,Y,Y,Y,Y,Y,Y,Y,Y,Y,Y,Y,Y,Y,Y,Y,Y,Y,Y,Y,Y,Y,Y,Y,Y,Y,Y,Y,Y,Y,Y,Y,Y,Y,Y,Y,Y,Y,Y,Y,Y,Y,Y,Y,Y,Z,Z,Z,Z,Z,Z,Z] rfl rfl (any_of HT_.out (by kernel_rfl)) (fun _ _ _ h=>h) (Or.inl ⟨by rfl,?_⟩) ?_ ?_
             rotate_left
             ·intro w'
              go_simp
              with_reducible rfl
             rotate_left
             ·simp only [Act.put,List.setIfInBounds_toArray,List.set_cons_zero,List.set_cons_succ,i64_w,i32_w]
              rfl
             refine pure_ (i:=46) (N:=some 84) (v:=?_) (a':=?_) #[Y,Y,Y,Y,Y,Y,Y,Y,Y,Y,Y,Y,Y,Y,Y,Y,Y,Y,Y,Y,Y,Y,Y,Y,Y,Y,Y,Y,Y,Y,Y,Y,Y,Y,Y,Y,Y,Y,Y,Y,Y,Y,Y,Y,Y,Y,Y,Z,Z,Z,Z,Z,Z] rfl rfl (any_of HT_.out (by kernel_rfl)) (fun _ _ _ h=>h) (Or.inl ⟨by rfl,?_⟩) ?_ ?_
             rotate_left
             ·intro w'
              go_simp
              with_reducible rfl
             rotate_left
             ·simp only [Act.put,List.setIfInBounds_toArray,List.set_cons_zero,List.set_cons_succ,i64_w,i32_w]
              rfl
             refine take_ (i:=47) (N:=some 85) (v:=?_) (a':=?_) #[Y,Y,Y,Y,Y,Y,Y,Y,Y,Y,Y,Y,Y,Y,Y,Y,Y,Y,Y,Y,Y,Y,Y,Y,Y,Y,Y,Y,Y,Y,Y,Y,Y,Y,Y,Y,Y,Y,Y,Y,Y,Y,Y,Y,Y,Y,Y,Y,Z,Z,Z,Z,Z] rfl rfl (take_ofW HT_.out HW_.out (by kernel_rfl)) (fun _ _ _ h=>h) (Or.inl ⟨by rfl,?_⟩) hHeld ?_ ?_
             rotate_left
             ·rintro w' ⟨s0,s1,s2,s3,s4,s5,s6,s7,s8,s9,s10,s11,s12,s13,s14,s15,s16,s17⟩
              go_simp
              with_reducible rfl
             rotate_left
             ·simp only [Act.put,List.setIfInBounds_toArray,List.set_cons_zero,List.set_cons_succ,i64_w,i32_w]
              rfl
             refine take_ (i:=48) (N:=some 86) (v:=?_) (a':=?_) #[Y,Y,Y,Y,Y,Y,Y,Y,Y,Y,Y,Y,Y,Y,Y,Y,Y,Y,Y,Y,Y,Y,Y,Y,Y,Y,Y,Y,Y,Y,Y,Y,Y,Y,Y,Y,Y,Y,Y,Y,Y,Y,Y,Y,Y,Y,Y,Y,Y,Z,Z,Z,Z] rfl rfl (take_ofW HT_.out HW_.out (by kernel_rfl)) (fun _ _ _ h=>h) (Or.inl ⟨by rfl,?_⟩) hHeld ?_ ?_
             rotate_left
             ·rintro w' ⟨s0,s1,s2,s3,s4,s5,s6,s7,s8,s9,s10,s11,s12,s13,s14,s15,s16,s17⟩
              go_simp
              with_reducible rfl
             rotate_left
             ·simp only [Act.put,List.setIfInBounds_toArray,List.set_cons_zero,List.set_cons_succ,i64_w,i32_w]
              rfl
             refine pure_ (i:=49) (N:=some 87) (v:=?_) (a':=?_) #[Y,Y,Y,Y,Y,Y,Y,Y,Y,Y,Y,Y,Y,Y,Y,Y,Y,Y,Y,Y,Y,Y,Y,Y,Y,Y,Y,Y,Y,Y,Y,Y,Y,Y,Y,Y,Y,Y,Y,Y,Y,Y,Y,Y,Y,Y,Y,Y,Y,Y,Z,Z,Z] rfl rfl (any_of HT_.out (by kernel_rfl)) (fun _ _ _ h=>h) (Or.inl ⟨by rfl,?_⟩) ?_ ?_
             rotate_left
             ·intro w'
              go_simp
              with_reducible rfl
             rotate_left
             ·simp only [Act.put,List.setIfInBounds_toArray,List.set_cons_zero,List.set_cons_succ,i64_w,i32_w]
              rfl
             refine pure_ (i:=50) (N:=some 88) (v:=?_) (a':=?_) #[Y,Y,Y,Y,Y,Y,Y,Y,Y,Y,Y,Y,Y,Y,Y,Y,Y,Y,Y,Y,Y,Y,Y,Y,Y,Y,Y,Y,Y,Y,Y,Y,Y,Y,Y,Y,Y,Y,Y,Y,Y,Y,Y,Y,Y,Y,Y,Y,Y,Y,Y,Z,Z] rfl rfl (any_of HT_.out (by kernel_rfl)) (fun _ _ _ h=>h) (Or.inl ⟨by rfl,?_⟩) ?_ ?_
             rotate_left
             ·intro w'
              go_simp
              with_reducible rfl
             rotate_left
             ·simp only [Act.put,List.setIfInBounds_toArray,List.set_cons_zero,List.set_cons_succ,i64_w,i32_w]
              rfl
             refine pure_ (i:=51) (N:=some 89) (v:=?_) (a':=?_) #[Y,Y,Y,Y,Y,Y,Y,Y,Y,Y,Y,Y,Y,Y,Y,Y,Y,Y,Y,Y,Y,Y,Y,Y,Y,Y,Y,Y,Y,Y,Y,Y,Y,Y,Y,Y,Y,Y,Y,Y,Y,Y,Y,Y,Y,Y,Y,Y,Y,Y,Y,Y,Z] rfl rfl (any_of HT_.out (by kernel_rfl)) (fun _ _ _ h=>h) (Or.inl ⟨by rfl,?_⟩) ?_ ?_
             rotate_left
             ·intro w'
              go_simp
              with_reducible rfl
             rotate_left
             ·simp only [Act.put,List.setIfInBounds_toArray,List.set_cons_zero,List.set_cons_succ,i64_w,i32_w]
              rfl
             refine pure_ (i:=52) (N:=some 0) (v:=?_) (a':=?_) #[Y,Y,Y,Y,Y,Y,Y,Y,Y,Y,Y,Y,Y,Y,Y,Y,Y,Y,Y,Y,Y,Y,Y,Y,Y,Y,Y,Y,Y,Y,Y,Y,Y,Y,Y,Y,Y,Y,Y,Y,Y,Y,Y,Y,Y,Y,Y,Y,Y,Y,Y,Y,Y] rfl rfl (any_of HT_.out (by kernel_rfl)) (fun _ _ _ h=>h) (Or.inl ⟨by rfl,?_⟩) ?_ ?_
             rotate_left
             ·intro w'
              go_simp
              with_reducible rfl
             rotate_left
             ·simp only [Act.put,List.setIfInBounds_toArray,List.set_cons_zero,List.set_cons_succ,i64_w,i32_w]
              rfl
             refine done_ (done_of HT_.out (by kernel_rfl)) ?_
             try go_wp2
             go_ret
             exact ⟨by first|rfl|(simp [errW_none,errW_some] <;> rfl)|(simp [*,errW_none,errW_some] <;> rfl),by repeat (first|(with_reducible first|exact HB.out|apply below_alloc|apply pw_below_drewN|apply below_drew1|refine below_set ?_ GE107.out|refine below_set ?_ GE108.out)|exact HB.out)⟩
            ·rw [if_neg c17] at H
             exact absurd H (by simp)
           ·rw [if_neg c16] at H
            have c16b0:(((((rd_T41 t118 0).f0.f0).toList) == ([111,105,108]:List UInt8) && (((rd_T41 t118 0).f0.f1) == 1 && (((rd_T41 t118 0).f0.f2) == 9 && (((rd_T41 t118 0).f0.f3) == 0)))) && (((rd_T41 t118 0).f1) == (-2))) = false:=by simpa using c16
            clear c16
            exact absurd H (by simp)
          ·rw [if_neg c15] at H
           exact absurd H (by simp)
         ·rw [if_neg c14] at H
          have c14b0:((t118.length:Int) == 2) = false:=beq_eq_false_iff_ne.mpr c14
          have c14b1:((t118.length:Int) != 2) = true:=bne_iff_ne.mpr c14
          exact absurd H (by simp)
        ·replace c13:=Bool.eq_false_iff.mpr c13
         subst c13
         have H1:(none) = some r:=by rw [if_neg (show ¬ (false = true) by decide)] at H;exact H
         clear H
         have H:=H1
         clear H1
         exact absurd H (by simp)
       ·rw [if_neg c11] at H
        have c11b0:(t120 == 0) = false:=beq_eq_false_iff_ne.mpr c11
        have c11b1:(t120 != 0) = true:=bne_iff_ne.mpr c11
        exact absurd H (by simp)
      ·rw [if_neg c10] at H
       have c10b0:(t106 == 0) = false:=beq_eq_false_iff_ne.mpr c10
       have c10b1:(t106 != 0) = true:=bne_iff_ne.mpr c10
       exact absurd H (by simp)
     ·rw [if_neg c9] at H
      have c9b0:(t105 == 5) = false:=beq_eq_false_iff_ne.mpr c9
      have c9b1:(t105 != 5) = true:=bne_iff_ne.mpr c9
      exact absurd H (by simp)
    ·rw [if_neg c8] at H
     have c8b0:(t104 == 0) = false:=beq_eq_false_iff_ne.mpr c8
     have c8b1:(t104 != 0) = true:=bne_iff_ne.mpr c8
     exact absurd H (by simp)
   ·rw [if_neg c7] at H
    have c7b0:(t103 == (-2)) = false:=beq_eq_false_iff_ne.mpr c7
    have c7b1:(t103 != (-2)) = true:=bne_iff_ne.mpr c7
    exact absurd H (by simp)
  ·rw [if_neg c6] at H
   have c6b0:(t102 == 0) = false:=beq_eq_false_iff_ne.mpr c6
   have c6b1:(t102 != 0) = true:=bne_iff_ne.mpr c6
   exact absurd H (by simp)
 ·rw [if_neg c5] at H
  have c5b0:(t101 == (-3)) = false:=beq_eq_false_iff_ne.mpr c5
  have c5b1:(t101 != (-3)) = true:=bne_iff_ne.mpr c5
  exact absurd H (by simp)
end Go.Proofs.Ytbgeceiddcokmaa.X
end
section
namespace Go.Proofs.Ytbgeceiddcokmaa.X
open Go.RowKit Go.Proofs.YtbgeceiddcokmaaW.PrintWords Go.Proofs.YtbgeceiddcokmaaW.PrintLast Go.Proofs.YtbgeceiddcokmaaW.PrintMore
attribute [local go_sem] max2_int min2_int max_two min_two max_three min_three max_four min_four
set_option linter.unusedVariables false
set_option linter.unusedSimpArgs false
def contangolaw43_size.f (a0:Int):Option (Int):=if a0 < 0 then (some (wrap64 (-a0))) else (some a0)
set_option maxHeartbeats 8000000 in
set_option maxRecDepth 100000 in
theorem contangolaw43_size.calls (a0:Int) (r:Int) (w:World) (h:contangolaw43_size.f a0 = some r) :
  Calls Try.prog 23 #[.int .i64 a0] w fun e w'=>e = .returned (.int .i64 r) ∧ Drawn0 w w':=by
 have H:(if a0 < 0 then (some (wrap64 (-a0))) else (some a0)) = some r:=h
 clear h
 by_cases c2:a0 < 0
 ·rw [if_pos c2] at H
  have c2b0:decide (a0 < 0) = true:=decide_eq_true c2
  clear c2
  obtain rfl:=Option.some.inj H
  go_enter Try.func23,Try.ntmps23
  go_wp2
  go_ret
  exact ⟨by first|rfl|(simp;done)|(simp [*];done),by repeat (first|exact Drawn0.refl _|apply Drawn0.step)⟩
 ·rw [if_neg c2] at H
  have c2b0:decide (a0 < 0) = false:=decide_eq_false c2
  clear c2
  obtain rfl:=Option.some.inj H
  go_enter Try.func23,Try.ntmps23
  go_wp2
  go_ret
  exact ⟨by first|rfl|(simp;done)|(simp [*];done),by repeat (first|exact Drawn0.refl _|apply Drawn0.step)⟩
end Go.Proofs.Ytbgeceiddcokmaa.X
end
section
namespace Go.Proofs.Ytbgeceiddcokmaa.X
open Go.RowKit Go.Proofs.YtbgeceiddcokmaaW.PrintWords Go.Proofs.YtbgeceiddcokmaaW.PrintLast Go.Proofs.YtbgeceiddcokmaaW.PrintMore
attribute [local go_sem] max2_int min2_int max_two min_two max_three min_three max_four min_four
set_option linter.unusedVariables false
set_option linter.unusedSimpArgs false
def contangolaw43_to.l0:Nat → List (S54) → List (S92) → Int → Option ((List (S92)))
 | 0,_,_,_=>none
 | k + 1,x0,x3,x4=>if x4 < (x0.length:Int) then (if 0 ≤ x4 then (if x3.length < 2513169434916 then (contangolaw43_to.l0 k x0 (x3 ++ [(⟨(⟨(rd_T54 x0 x4).f0.f0,(rd_T54 x0 x4).f0.f1,(rd_T54 x0 x4).f0.f2,(rd_T54 x0 x4).f0.f3⟩:S39),(rd_T54 x0 x4).f1,(rd_T54 x0 x4).f2⟩:S92)]) (wrap64 (x4 + 1))) else (none)) else (none)) else (some x3)
def contangolaw43_to.f (k:Nat) (l0:List (S54)):Option ((List (S92))):=contangolaw43_to.l0 k l0 ([]:List (S92)) 0
set_option maxHeartbeats 8000000 in
set_option maxRecDepth 100000 in
theorem contangolaw43_to.calls (k:Nat) (A0:Option Addr) (c0:Nat) (l0:List (S54)) (r:List (S92)) (w:World) (hr0:Kd.C k54 w A0 l0.length l0) (hc0:l0.length ≤ c0) (h:contangolaw43_to.f k l0 = some r) :
  Calls Try.prog 16 #[.slice A0 l0.length c0] w fun e w'=>∃ v0_:Value,e = .returned (v0_) ∧ Kd.R k92 92 w' w.heap.size (fun _=>True) v0_ r ∧ Below w.heap.size w w':=by
 have hu54:=Try.underlying54
 have HR0:=Aside0.mk hr0
 have HC0:=Aside0.mk hc0
 clear hr0 hc0
 have HB:=Aside0.mk (Below.refl w.heap.size w)
 have H:(contangolaw43_to.l0 k l0 ([]:List (S92)) 0) = some r:=h
 clear h
 have H':=Aside0.mk H
 clear H
 go_enter Try.func16,Try.ntmps16
 go_wp2
 go_loopg [3,4] k (fun kq v3 v4 w'=>∃ (x3_1:List (S92)) (x4_1:Int),v4 = .int .i64 x4_1 ∧ Aside0 (contangolaw43_to.l0 kq l0 x3_1 x4_1 = some r) ∧ Aside0 (kq ≤ k) ∧ Aside0 (Kd.R k92 92 w' w.heap.size (fun _=>True) v3 x3_1) ∧ Aside0 (Below w.heap.size w w'))
 case atStart=>exact ⟨(([]:List (S92))),(0),(by first|rfl|(simp;done)|(simp [*];done)),H',⟨Nat.le_refl _⟩,⟨by first|exact Kd.R_nil _ _ _ _ _|exact Kd.N_nil _ _ _ _ _|exact Kd.V_nil _ _ _ _ _|exact Kd.Q_nil _ _ _ _ _|exact Kd.S_nil _ _ _ _ _⟩,⟨by repeat (first|(with_reducible first|exact HB.out|apply below_alloc|apply pw_below_drewN|apply below_drew1)|exact HB.out)⟩⟩
 case round =>
  clear H'
  try clear c1
  obtain ⟨x3_1,x4_1,rfl,HA,HK1,HO_3,HB⟩:=hrel
  cases gk with
  | zero=>exact absurd HA.out (by simp [contangolaw43_to.l0])
  | succ k1 =>
   have H:=HA.out
   clear HA
   simp only [contangolaw43_to.l0] at H
   by_cases c2:x4_1 < (l0.length:Int)
   ·rw [if_pos c2] at H
    have c2b0:decide (x4_1 < (l0.length:Int)) = true:=decide_eq_true c2
    clear c2
    by_cases c3:0 ≤ x4_1
    ·rw [if_pos c3] at H
     have c3b0:decide (0 ≤ x4_1) = true:=decide_eq_true c3
     clear c3
     by_cases c4:x3_1.length < 2513169434916
     ·rw [if_pos c4] at H
      have LMc4:=Aside0.mk c4
      clear c4
      obtain ⟨y102,hy102⟩:∃ y_:List (S92),y_ = (x3_1 ++ [(⟨(⟨(rd_T54 l0 x4_1).f0.f0,(rd_T54 l0 x4_1).f0.f1,(rd_T54 l0 x4_1).f0.f2,(rd_T54 l0 x4_1).f0.f3⟩:S39),(rd_T54 l0 x4_1).f1,(rd_T54 l0 x4_1).f2⟩:S92)]):=⟨_,rfl⟩
      replace H:(contangolaw43_to.l0 k1 l0 y102 (wrap64 (x4_1 + 1))) = some r:=by first|(rw [hy102];with_reducible exact H)|(have H2_:=(Option.bind_some _ _).symm.trans H;rw [hy102];with_reducible exact H2_)|(have H2_:=(Option.bind_some _ _).symm.trans H;with_reducible exact H2_)|with_reducible exact H|(rw [hy102];exact H)|exact H
      have Ny102:=Aside0.mk hy102
      clear hy102
      have H':=Aside0.mk H
      clear H
      have p101:0 ≤ (x4_1:Int):=of_decide_eq_true (by first|(with_reducible assumption)|assumption)
      have q101:x4_1 < (l0.length:Int):=of_decide_eq_true (by first|(with_reducible assumption)|assumption)
      obtain ⟨ad101,e101,hx101_0,hx101_1,hx101_2,hx101_3,hx101_4,hx101_5⟩:=at_T54 HR0.out x4_1 p101 q101
      cases e101
      replace hx101_0:=(HB.out.cell (World.block_lt_of_cell? w _ hx101_0)).trans hx101_0
      replace hx101_1:=(HB.out.cell (World.block_lt_of_cell? w _ hx101_1)).trans hx101_1
      replace hx101_2:=(HB.out.cell (World.block_lt_of_cell? w _ hx101_2)).trans hx101_2
      replace hx101_3:=(HB.out.cell (World.block_lt_of_cell? w _ hx101_3)).trans hx101_3
      replace hx101_4:=(HB.out.cell (World.block_lt_of_cell? w _ hx101_4)).trans hx101_4
      replace hx101_5:=(HB.out.cell (World.block_lt_of_cell? w _ hx101_5)).trans hx101_5
      replace p101:=eq_true p101
      replace q101:=eq_true q101
      go_wp2_with (first|((with_reducible refine gate_builtin (b:=.append) (xs:=#[.tmp 11,.tmp 16]) rfl ?_);at_builtin;refine Kd.R_append k92 (w0:=w) w.heap.size rfl (.tmp 11) (.tmp 16) 30 92 (.agg #[(.string ⟨#[]⟩),(.int .i64 0),(.int .i64 0),(.int .i64 0),(.int .i64 0),(.int .i64 0)]) 56 rfl Try.underlying30 info92 rfl (by decide) (by omega) u3 x3_1 (⟨(⟨(rd_T54 l0 x4_1).f0.f0,(rd_T54 l0 x4_1).f0.f1,(rd_T54 l0 x4_1).f0.f2,(rd_T54 l0 x4_1).f0.f3⟩:S39),(rd_T54 l0 x4_1).f1,(rd_T54 l0 x4_1).f2⟩:S92) [.string ((rd_T54 l0 x4_1).f0.f0),.int .i64 ((rd_T54 l0 x4_1).f0.f1),.int .i64 ((rd_T54 l0 x4_1).f0.f2),.int .i64 ((rd_T54 l0 x4_1).f0.f3),.int .i64 ((rd_T54 l0 x4_1).f1),.int .i64 ((rd_T54 l0 x4_1).f2)] (fun _=>True) (fun _=>False) rfl rfl ?aP (fun _ hk=>hk.elim) ?aF ?aO ?aB ?aS ?aL ?_;(case aP=>exact k92_mkM _ _ _ (⟨(⟨(rd_T54 l0 x4_1).f0.f0,(rd_T54 l0 x4_1).f0.f1,(rd_T54 l0 x4_1).f0.f2,(rd_T54 l0 x4_1).f0.f3⟩:S39),(rd_T54 l0 x4_1).f1,(rd_T54 l0 x4_1).f2⟩:S92));(case aB=>exact (by repeat (first|(with_reducible first|exact HB.out|apply below_alloc|apply pw_below_drewN|apply below_drew1)|exact HB.out)));(case aF=>exact (fun _ _=>trivial));(case aO=>exact (by (with_reducible repeat (first|apply Kd.R_alloc|apply Kd.R_drewN|apply Kd.R_drew));exact HO_3.out));(case aS=>exact (below_size (by repeat (first|(with_reducible first|exact HB.out|apply below_alloc|apply pw_below_drewN|apply below_drew1)|exact HB.out))));(case aL=>have:=LMc4.out;omega);intro v103 w5 ho hb hg hat;rw [← Ny102.out] at ho;have n0_:=Aside0.mk (hb);have n1_:=Aside0.mk (ho);clear HB;clear HO_3;have HB:=n0_;have HO104:=n1_;clear n0_ n1_;clear ho hb hg hat))
      go_roundg k1
      case measure=>have:=HK1.out;omega
      case rel=>exact ⟨(y102),(wrap64 (x4_1 + 1)),(by first|rfl|(simp;done)|(simp [*];done)),H',⟨by have:=HK1.out;omega⟩,⟨by (with_reducible repeat (first|apply Kd.R_alloc|apply Kd.R_drewN|apply Kd.R_drew));exact HO104.out⟩,⟨by repeat (first|(with_reducible first|exact HB.out|apply below_alloc|apply pw_below_drewN|apply below_drew1)|exact HB.out)⟩⟩
     ·rw [if_neg c4] at H
      exact absurd H (by simp)
    ·rw [if_neg c3] at H
     exact absurd H (by simp)
   ·rw [if_neg c2] at H
    have c2b0:decide (x4_1 < (l0.length:Int)) = false:=decide_eq_false c2
    clear c2
    obtain rfl:=Option.some.inj H
    go_wp2
    go_ret
    exact ⟨_,by first|rfl|(simp [errW_none,errW_some] <;> rfl)|(simp [*,errW_none,errW_some] <;> rfl),by (with_reducible repeat (first|apply Kd.R_alloc|apply Kd.R_drewN|apply Kd.R_drew));exact HO_3.out,by repeat (first|(with_reducible first|exact HB.out|apply below_alloc|apply pw_below_drewN|apply below_drew1)|exact HB.out)⟩
end Go.Proofs.Ytbgeceiddcokmaa.X
end
section
namespace Go.Proofs.Ytbgeceiddcokmaa.X
open Go.RowKit Go.Proofs.YtbgeceiddcokmaaW.PrintWords Go.Proofs.YtbgeceiddcokmaaW.PrintLast Go.Proofs.YtbgeceiddcokmaaW.PrintMore
attribute [local go_sem] max2_int min2_int max_two min_two max_three min_three max_four min_four
set_option linter.unusedVariables false
set_option linter.unusedSimpArgs false
attribute [local go_sem high] eqA39
mutual
def contangolaw43_HedgeNearer.j0:Nat → List ByteArray → List Int → List (S54) → Bool → Option (Bool)
 | 0,_,_,_,_=>none
 | k + 1,x0,x1,x2,x26=>if x26 = true then ((contangolaw43_goes.f k).bind fun t101=>(some t101)) else ((contangolaw43_to.f k x2).bind fun t102=>((hedge_Plan.f x0 x1 t102).bind fun bt105=>(if bt105.2.2 = 0 then (if (bt105.2.1.length:Int) = (x1.length:Int) then (contangolaw43_HedgeNearer.j1 k x0 x1 x2 bt105.1 bt105.2.1 (decide ((bt105.1.length:Int) > (x2.length:Int)))) else (contangolaw43_HedgeNearer.j1 k x0 x1 x2 bt105.1 bt105.2.1 true)) else (if (wrap64 ((bt105.1.length:Int) + (bt105.2.1.length:Int))) = 0 then ((contangolaw43_goes.f k).bind fun t112=>(some t112)) else (none)))))
def contangolaw43_HedgeNearer.j1:Nat → List ByteArray → List Int → List (S54) → List (S41) → List Int → Bool → Option (Bool)
 | 0,_,_,_,_,_,_=>none
 | k + 1,x0,x1,x2,x7,x8,x59=>if x59 = true then (none) else (contangolaw43_HedgeNearer.l0 k x0 x1 x2 x7 x8 0)
def contangolaw43_HedgeNearer.l0:Nat → List ByteArray → List Int → List (S54) → List (S41) → List Int → Int → Option (Bool)
 | 0,_,_,_,_,_,_=>none
 | k + 1,x0,x1,x2,x7,x8,x10=>if x10 < (x1.length:Int) then (if 0 ≤ x10 then (contangolaw43_HedgeNearer.l1 k x0 x1 x2 x7 x8 x10 (rd x1 x10) 0 0) else (none)) else ((contangolaw43_goes.f k).bind fun t113=>(some t113))
def contangolaw43_HedgeNearer.l1:Nat → List ByteArray → List Int → List (S54) → List (S41) → List Int → Int → Int → Int → Int → Option (Bool)
 | 0,_,_,_,_,_,_,_,_,_=>none
 | k + 1,x0,x1,x2,x7,x8,x10,x11,x12,x13=>if x13 < (x7.length:Int) then (contangolaw43_HedgeNearer.l2 k x0 x1 x2 x7 x8 x10 x11 x12 x13) else (if 0 ≤ x10 then (if x10 < (x8.length:Int) then (if x11 = (rd x8 x10) then ((contangolaw43_size.f (rd x8 x10)).bind fun t128=>(if x10 < (x1.length:Int) then ((contangolaw43_size.f (rd x1 x10)).bind fun t130=>(if t128 > t130 then (none) else (contangolaw43_HedgeNearer.l0 k x0 x1 x2 x7 x8 (wrap64 (x10 + 1))))) else (none))) else (none)) else (none)) else (none))
def contangolaw43_HedgeNearer.j5:Nat → List ByteArray → List Int → List (S54) → List (S41) → List Int → Int → Int → Int → Int → Option (Bool)
 | 0,_,_,_,_,_,_,_,_,_=>none
 | k + 1,x0,x1,x2,x7,x8,x10,x11,x12,x13=>if x12 = (x2.length:Int) then (contangolaw43_HedgeNearer.j6 k x0 x1 x2 x7 x8 x10 x11 x12 x13 true) else (if 0 ≤ x13 then (if x13 < (x7.length:Int) then (if ((rd_T41 x7 x13).f1) = 0 then (contangolaw43_HedgeNearer.j6 k x0 x1 x2 x7 x8 x10 x11 x12 x13 true) else (if 0 ≤ x12 then (if x12 < (x2.length:Int) then (if ((rd_T41 x7 x13).f1) > ((rd_T54 x2 x12).f2) then (contangolaw43_HedgeNearer.j6 k x0 x1 x2 x7 x8 x10 x11 x12 x13 true) else (contangolaw43_HedgeNearer.j6 k x0 x1 x2 x7 x8 x10 x11 x12 x13 (decide (((rd_T41 x7 x13).f1) < (wrap64 (-((rd_T54 x2 x12).f2))))))) else (none)) else (none))) else (none)) else (none))
def contangolaw43_HedgeNearer.j6:Nat → List ByteArray → List Int → List (S54) → List (S41) → List Int → Int → Int → Int → Int → Bool → Option (Bool)
 | 0,_,_,_,_,_,_,_,_,_,_=>none
 | k + 1,x0,x1,x2,x7,x8,x10,x11,x12,x13,x133=>if x133 = true then (none) else (if 0 ≤ x13 then (if x13 < (x7.length:Int) then (if 0 ≤ x10 then (if x10 < (x0.length:Int) then (if ((rd_T41 x7 x13).f0.f0).toList = (rdOf ByteArray.empty x0 x10).toList then (if 0 ≤ x12 then (if x12 < (x2.length:Int) then (contangolaw43_HedgeNearer.l1 k x0 x1 x2 x7 x8 x10 (wrap64 (x11 + (wrap64 (((rd_T41 x7 x13).f1) * ((rd_T54 x2 x12).f1))))) x12 (wrap64 (x13 + 1))) else (none)) else (none)) else (contangolaw43_HedgeNearer.l1 k x0 x1 x2 x7 x8 x10 x11 x12 (wrap64 (x13 + 1)))) else (none)) else (none)) else (none)) else (none))
def contangolaw43_HedgeNearer.l2:Nat → List ByteArray → List Int → List (S54) → List (S41) → List Int → Int → Int → Int → Int → Option (Bool)
 | 0,_,_,_,_,_,_,_,_,_=>none
 | k + 1,x0,x1,x2,x7,x8,x10,x11,x12,x13=>if x12 < (x2.length:Int) then (if 0 ≤ x12 then (if 0 ≤ x13 then (if x13 < (x7.length:Int) then (if (!((((rd_T54 x2 x12).f0.f0).toList) == (((rd_T41 x7 x13).f0.f0).toList)) || (!(((rd_T54 x2 x12).f0.f1) == ((rd_T41 x7 x13).f0.f1)) || (!(((rd_T54 x2 x12).f0.f2) == ((rd_T41 x7 x13).f0.f2)) || (!(((rd_T54 x2 x12).f0.f3) == ((rd_T41 x7 x13).f0.f3)))))) = true then (contangolaw43_HedgeNearer.l2 k x0 x1 x2 x7 x8 x10 x11 (wrap64 (x12 + 1)) x13) else (contangolaw43_HedgeNearer.j5 k x0 x1 x2 x7 x8 x10 x11 x12 x13)) else (none)) else (none)) else (none)) else (contangolaw43_HedgeNearer.j5 k x0 x1 x2 x7 x8 x10 x11 x12 x13)
end
def contangolaw43_HedgeNearer.f (k:Nat) (l0:List ByteArray) (l1:List Int) (l2:List (S54)):Option (Bool):=if (l0.length:Int) > 200 then (contangolaw43_HedgeNearer.j0 k l0 l1 l2 true) else (if (l1.length:Int) > 200 then (contangolaw43_HedgeNearer.j0 k l0 l1 l2 true) else (contangolaw43_HedgeNearer.j0 k l0 l1 l2 (decide ((l2.length:Int) > 1100))))
set_option maxHeartbeats 8000000 in
set_option maxRecDepth 100000 in
theorem contangolaw43_HedgeNearer.calls (k:Nat) (A0:Option Addr) (c0:Nat) (l0:List ByteArray) (A1:Option Addr) (c1:Nat) (l1:List Int) (A2:Option Addr) (c2:Nat) (l2:List (S54)) (r:Bool) (w:World) (hr0:Kd.C Kd.string w A0 l0.length l0) (hc0:l0.length ≤ c0) (hr1:Kd.C (Kd.int .i64) w A1 l1.length l1) (hc1:l1.length ≤ c1) (hr2:Kd.C k54 w A2 l2.length l2) (hc2:l2.length ≤ c2) (h:contangolaw43_HedgeNearer.f k l0 l1 l2 = some r) :
  Calls Try.prog 6 #[.slice A0 l0.length c0,.slice A1 l1.length c1,.slice A2 l2.length c2] w fun e w'=>e = .returned (.bool r) ∧ Below w.heap.size w w':=by
 have hu39:=Try.underlying39
 have HR0:=Aside0.mk hr0
 have HC0:=Aside0.mk hc0
 clear hr0 hc0
 have HR1:=Aside0.mk hr1
 have HC1:=Aside0.mk hc1
 clear hr1 hc1
 have HR2:=Aside0.mk hr2
 have HC2:=Aside0.mk hc2
 clear hr2 hc2
 have HB:=Aside0.mk (Below.refl w.heap.size w)
 have H:(if (l0.length:Int) > 200 then (contangolaw43_HedgeNearer.j0 k l0 l1 l2 true) else (if (l1.length:Int) > 200 then (contangolaw43_HedgeNearer.j0 k l0 l1 l2 true) else (contangolaw43_HedgeNearer.j0 k l0 l1 l2 (decide ((l2.length:Int) > 1100))))) = some r:=h
 clear h
 have HC4:=Aside0.mk H
 clear H
 go_enter Try.func6,Try.ntmps6
 go_upto_region 1 with (fail)
 repeat (go_quiet (fail);go_upto_region 1 with (fail))
 go_cut [26] (fun v26 wc=>∃ (kq:Nat) (x26_3:Bool),v26 = .bool x26_3 ∧ Aside0 (contangolaw43_HedgeNearer.j0 kq l0 l1 l2 x26_3 = some r) ∧ Aside0 (kq ≤ k) ∧ Aside0 (Below w.heap.size w wc))
 case first =>
  have H:=HC4.out
  clear HC4
  by_cases c5:(l0.length:Int) > 200
  ·rw [if_pos c5] at H
   have c5b0:decide (200 < (l0.length:Int)) = true:=decide_eq_true c5
   have c5b1:decide (200 < l0.length) = true:=decide_eq_true (by omega)
   clear c5
   (first|rw [c5b0]|(simp only [i64_w,i32_w];rw [c5b0])|skip)
   have H':=Aside0.mk H
   clear H
   go_wp2
   repeat (go_quiet (fail);try go_wp2)
   go_meet
   case rel=>exact ⟨_,(true),(by first|rfl|(simp;done)|(simp [*];done)),H',⟨by first|omega|exact Nat.le_refl _⟩,⟨by repeat (first|(with_reducible first|exact HB.out|apply below_alloc|apply pw_below_drewN|apply below_drew1)|exact HB.out)⟩⟩
  ·rw [if_neg c5] at H
   have c5b0:decide (200 < (l0.length:Int)) = false:=decide_eq_false c5
   have c5b1:decide (200 < l0.length) = false:=decide_eq_false (by omega)
   clear c5
   (first|rw [c5b0]|(simp only [i64_w,i32_w];rw [c5b0])|skip)
   by_cases c6:(l1.length:Int) > 200
   ·rw [if_pos c6] at H
    have c6b0:decide (200 < (l1.length:Int)) = true:=decide_eq_true c6
    have c6b1:decide (200 < l1.length) = true:=decide_eq_true (by omega)
    clear c6
    have H':=Aside0.mk H
    clear H
    go_wp2
    repeat (go_quiet (fail);try go_wp2)
    go_meet
    case rel=>exact ⟨_,(true),(by first|rfl|(simp;done)|(simp [*];done)),H',⟨by first|omega|exact Nat.le_refl _⟩,⟨by repeat (first|(with_reducible first|exact HB.out|apply below_alloc|apply pw_below_drewN|apply below_drew1)|exact HB.out)⟩⟩
   ·rw [if_neg c6] at H
    have c6b0:decide (200 < (l1.length:Int)) = false:=decide_eq_false c6
    have c6b1:decide (200 < l1.length) = false:=decide_eq_false (by omega)
    clear c6
    have H':=Aside0.mk H
    clear H
    go_wp2
    repeat (go_quiet (fail);try go_wp2)
    go_meet
    case rel=>exact ⟨_,(decide ((l2.length:Int) > 1100)),(by first|rfl|(simp;done)|(simp [*];done)),H',⟨by first|omega|exact Nat.le_refl _⟩,⟨by repeat (first|(with_reducible first|exact HB.out|apply below_alloc|apply pw_below_drewN|apply below_drew1)|exact HB.out)⟩⟩
 case rest =>
  clear HC4
  try clear c1
  try clear c2
  try clear p2
  try clear c5
  try clear c5b0
  try clear c5b1
  try clear c6
  try clear c6b0
  try clear c6b1
  obtain ⟨kq,x26_3,rfl,HA,HJ3,HB⟩:=hcut
  cases kq with
  | zero=>exact absurd HA.out (by simp [contangolaw43_HedgeNearer.j0])
  | succ kj3 =>
   have H:=HA.out
   clear HA
   simp only [contangolaw43_HedgeNearer.j0] at H
   by_cases c7:x26_3 = true
   ·subst c7
    have H1:((contangolaw43_goes.f kj3).bind fun t101=>(some t101)) = some r:=by rw [if_pos rfl] at H;exact H
    clear H
    have H:=H1
    clear H1
    replace H:=Option.bind_eq_some_iff.mp H
    obtain ⟨t101,A80,H⟩:=H
    replace H:(some t101) = some r:=H
    have A8:=Aside0.mk A80
    clear A80
    obtain rfl:=Option.some.inj H
    go_wp2_with (first|(go_at_call 14;(with_reducible refine (contangolaw43_goes.calls kj3  t101 _ A8.out).mono ?_);rintro e w9 ⟨rfl,hb⟩;have n0_:=Aside0.mk (below_step (by repeat (first|(with_reducible first|exact HB.out|apply below_alloc|apply pw_below_drewN|apply below_drew1)|exact HB.out)) hb);clear HB;have HB:=n0_;clear n0_;(try clear hb);(try clear hb2);(try clear hk);(try clear hi)))
    repeat (go_quiet (first|(go_at_call 14;(with_reducible refine (contangolaw43_goes.calls kj3  t101 _ A8.out).mono ?_);rintro e w9 ⟨rfl,hb⟩;have n0_:=Aside0.mk (below_step (by repeat (first|(with_reducible first|exact HB.out|apply below_alloc|apply pw_below_drewN|apply below_drew1)|exact HB.out)) hb);clear HB;have HB:=n0_;clear n0_;(try clear hb);(try clear hb2);(try clear hk);(try clear hi)));try go_wp2_with (first|(go_at_call 14;(with_reducible refine (contangolaw43_goes.calls kj3  t101 _ A8.out).mono ?_);rintro e w9 ⟨rfl,hb⟩;have n0_:=Aside0.mk (below_step (by repeat (first|(with_reducible first|exact HB.out|apply below_alloc|apply pw_below_drewN|apply below_drew1)|exact HB.out)) hb);clear HB;have HB:=n0_;clear n0_;(try clear hb);(try clear hb2);(try clear hk);(try clear hi))))
    go_ret
    exact ⟨by first|rfl|(simp [errW_none,errW_some] <;> rfl)|(simp [*,errW_none,errW_some] <;> rfl),by repeat (first|(with_reducible first|exact HB.out|apply below_alloc|apply pw_below_drewN|apply below_drew1)|exact HB.out)⟩
   ·replace c7:=Bool.eq_false_iff.mpr c7
    subst c7
    have H1:((contangolaw43_to.f kj3 l2).bind fun t102=>((hedge_Plan.f l0 l1 t102).bind fun bt105=>(if bt105.2.2 = 0 then (if (bt105.2.1.length:Int) = (l1.length:Int) then (contangolaw43_HedgeNearer.j1 kj3 l0 l1 l2 bt105.1 bt105.2.1 (decide ((bt105.1.length:Int) > (l2.length:Int)))) else (contangolaw43_HedgeNearer.j1 kj3 l0 l1 l2 bt105.1 bt105.2.1 true)) else (if (wrap64 ((bt105.1.length:Int) + (bt105.2.1.length:Int))) = 0 then ((contangolaw43_goes.f kj3).bind fun t112=>(some t112)) else (none))))) = some r:=by rw [if_neg (show ¬ (false = true) by decide)] at H;exact H
    clear H
    have H:=H1
    clear H1
    replace H:=Option.bind_eq_some_iff.mp H
    obtain ⟨t102,A100,H⟩:=H
    replace H:((hedge_Plan.f l0 l1 t102).bind fun bt105=>(if bt105.2.2 = 0 then (if (bt105.2.1.length:Int) = (l1.length:Int) then (contangolaw43_HedgeNearer.j1 kj3 l0 l1 l2 bt105.1 bt105.2.1 (decide ((bt105.1.length:Int) > (l2.length:Int)))) else (contangolaw43_HedgeNearer.j1 kj3 l0 l1 l2 bt105.1 bt105.2.1 true)) else (if (wrap64 ((bt105.1.length:Int) + (bt105.2.1.length:Int))) = 0 then ((contangolaw43_goes.f kj3).bind fun t112=>(some t112)) else (none)))) = some r:=H
    have A10:=Aside0.mk A100
    clear A100
    replace H:=Option.bind_eq_some_iff.mp H
    obtain ⟨⟨t105,t106,t107⟩,A110,H⟩:=H
    replace H:(if t107 = 0 then (if (t106.length:Int) = (l1.length:Int) then (contangolaw43_HedgeNearer.j1 kj3 l0 l1 l2 t105 t106 (decide ((t105.length:Int) > (l2.length:Int)))) else (contangolaw43_HedgeNearer.j1 kj3 l0 l1 l2 t105 t106 true)) else (if (wrap64 ((t105.length:Int) + (t106.length:Int))) = 0 then ((contangolaw43_goes.f kj3).bind fun t112=>(some t112)) else (none))) = some r:=H
    have A11:=Aside0.mk A110
    clear A110
    by_cases c12:t107 = 0
    ·rw [if_pos c12] at H
     have c12b0:(t107 == 0) = true:=beq_iff_eq.mpr c12
     have c12b1:(t107 != 0) = false:=bne_eq_false_iff_eq.mpr c12
     clear c12
     have HC13:=Aside0.mk H
     clear H
     go_upto_region 6 with (first|(go_at_call 16;(with_reducible refine (contangolaw43_to.calls kj3 _ _ l2 t102 _ ?side1 ?side2 A10.out).mono ?_);(case side1=>repeat (first|exact (Kd.C_below HR2.out HB.out)|(with_reducible refine Kd.C_alloc ?_ _)|(with_reducible refine Kd.C_drewN ?_ _)|(with_reducible refine Kd.C_drew ?_)));(case side2=>exact HC2.out);rintro e w14 ⟨v103,rfl,ho0,hb⟩;have n0_:=Aside0.mk (Kd.R_lower ho0 (below_size (by repeat (first|(with_reducible first|exact HB.out|apply below_alloc|apply pw_below_drewN|apply below_drew1)|exact HB.out))));have n1_:=Aside0.mk (below_step (by repeat (first|(with_reducible first|exact HB.out|apply below_alloc|apply pw_below_drewN|apply below_drew1)|exact HB.out)) hb);clear HB;have HO104:=n0_;have HB:=n1_;clear n0_ n1_;(try clear hb);(try clear hb2);(try clear hk);(try clear hi);(try clear ho0);obtain ⟨Ao15,co15,eo15⟩:=Kd.R_slice HO104.out;subst eo15)|(go_at_call 15;(with_reducible refine (hedge_Plan.calls _ _ l0 _ _ l1 _ _ t102 t105 t106 t107 _ ?side1 ?side2 ?side3 ?side4 ?side5 ?side6 A11.out).mono ?_);(case side1=>repeat (first|exact (Kd.C_below HR0.out HB.out)|(with_reducible refine Kd.C_alloc ?_ _)|(with_reducible refine Kd.C_drewN ?_ _)|(with_reducible refine Kd.C_drew ?_)));(case side2=>exact HC0.out);(case side3=>repeat (first|exact (Kd.C_below HR1.out HB.out)|(with_reducible refine Kd.C_alloc ?_ _)|(with_reducible refine Kd.C_drewN ?_ _)|(with_reducible refine Kd.C_drew ?_)));(case side4=>exact HC1.out);(case side5=>repeat (first|exact (Kd.R_reads' HO104.out).2.2|(with_reducible refine Kd.C_alloc ?_ _)|(with_reducible refine Kd.C_drewN ?_ _)|(with_reducible refine Kd.C_drew ?_)));(case side6=>exact (Kd.R_reads' HO104.out).2.1);rintro e w16 ⟨v108,v110,rfl,ho0,ho1,hb⟩;have n0_:=Aside0.mk (Kd.R_below (by (with_reducible repeat (first|apply Kd.R_alloc|apply Kd.R_drewN|apply Kd.R_drew));exact HO104.out) hb);have n1_:=Aside0.mk (Kd.R_lower ho0 (below_size (by repeat (first|(with_reducible first|exact HB.out|apply below_alloc|apply pw_below_drewN|apply below_drew1)|exact HB.out))));have n2_:=Aside0.mk (Kd.R_lower ho1 (below_size (by repeat (first|(with_reducible first|exact HB.out|apply below_alloc|apply pw_below_drewN|apply below_drew1)|exact HB.out))));have n3_:=Aside0.mk (below_step (by repeat (first|(with_reducible first|exact HB.out|apply below_alloc|apply pw_below_drewN|apply below_drew1)|exact HB.out)) hb);clear HO104;clear HB;have HO104:=n0_;have HO109:=n1_;have HO111:=n2_;have HB:=n3_;clear n0_ n1_ n2_ n3_;(try clear hb);(try clear hb2);(try clear hk);(try clear hi);(try clear ho0);(try clear ho1)))
     repeat (go_quiet (first|(go_at_call 16;(with_reducible refine (contangolaw43_to.calls kj3 _ _ l2 t102 _ ?side1 ?side2 A10.out).mono ?_);(case side1=>repeat (first|exact (Kd.C_below HR2.out HB.out)|(with_reducible refine Kd.C_alloc ?_ _)|(with_reducible refine Kd.C_drewN ?_ _)|(with_reducible refine Kd.C_drew ?_)));(case side2=>exact HC2.out);rintro e w14 ⟨v103,rfl,ho0,hb⟩;have n0_:=Aside0.mk (Kd.R_lower ho0 (below_size (by repeat (first|(with_reducible first|exact HB.out|apply below_alloc|apply pw_below_drewN|apply below_drew1)|exact HB.out))));have n1_:=Aside0.mk (below_step (by repeat (first|(with_reducible first|exact HB.out|apply below_alloc|apply pw_below_drewN|apply below_drew1)|exact HB.out)) hb);clear HB;have HO104:=n0_;have HB:=n1_;clear n0_ n1_;(try clear hb);(try clear hb2);(try clear hk);(try clear hi);(try clear ho0);obtain ⟨Ao15,co15,eo15⟩:=Kd.R_slice HO104.out;subst eo15)|(go_at_call 15;(with_reducible refine (hedge_Plan.calls _ _ l0 _ _ l1 _ _ t102 t105 t106 t107 _ ?side1 ?side2 ?side3 ?side4 ?side5 ?side6 A11.out).mono ?_);(case side1=>repeat (first|exact (Kd.C_below HR0.out HB.out)|(with_reducible refine Kd.C_alloc ?_ _)|(with_reducible refine Kd.C_drewN ?_ _)|(with_reducible refine Kd.C_drew ?_)));(case side2=>exact HC0.out);(case side3=>repeat (first|exact (Kd.C_below HR1.out HB.out)|(with_reducible refine Kd.C_alloc ?_ _)|(with_reducible refine Kd.C_drewN ?_ _)|(with_reducible refine Kd.C_drew ?_)));(case side4=>exact HC1.out);(case side5=>repeat (first|exact (Kd.R_reads' HO104.out).2.2|(with_reducible refine Kd.C_alloc ?_ _)|(with_reducible refine Kd.C_drewN ?_ _)|(with_reducible refine Kd.C_drew ?_)));(case side6=>exact (Kd.R_reads' HO104.out).2.1);rintro e w16 ⟨v108,v110,rfl,ho0,ho1,hb⟩;have n0_:=Aside0.mk (Kd.R_below (by (with_reducible repeat (first|apply Kd.R_alloc|apply Kd.R_drewN|apply Kd.R_drew));exact HO104.out) hb);have n1_:=Aside0.mk (Kd.R_lower ho0 (below_size (by repeat (first|(with_reducible first|exact HB.out|apply below_alloc|apply pw_below_drewN|apply below_drew1)|exact HB.out))));have n2_:=Aside0.mk (Kd.R_lower ho1 (below_size (by repeat (first|(with_reducible first|exact HB.out|apply below_alloc|apply pw_below_drewN|apply below_drew1)|exact HB.out))));have n3_:=Aside0.mk (below_step (by repeat (first|(with_reducible first|exact HB.out|apply below_alloc|apply pw_below_drewN|apply below_drew1)|exact HB.out)) hb);clear HO104;clear HB;have HO104:=n0_;have HO109:=n1_;have HO111:=n2_;have HB:=n3_;clear n0_ n1_ n2_ n3_;(try clear hb);(try clear hb2);(try clear hk);(try clear hi);(try clear ho0);(try clear ho1)));go_upto_region 6 with (first|(go_at_call 16;(with_reducible refine (contangolaw43_to.calls kj3 _ _ l2 t102 _ ?side1 ?side2 A10.out).mono ?_);(case side1=>repeat (first|exact (Kd.C_below HR2.out HB.out)|(with_reducible refine Kd.C_alloc ?_ _)|(with_reducible refine Kd.C_drewN ?_ _)|(with_reducible refine Kd.C_drew ?_)));(case side2=>exact HC2.out);rintro e w14 ⟨v103,rfl,ho0,hb⟩;have n0_:=Aside0.mk (Kd.R_lower ho0 (below_size (by repeat (first|(with_reducible first|exact HB.out|apply below_alloc|apply pw_below_drewN|apply below_drew1)|exact HB.out))));have n1_:=Aside0.mk (below_step (by repeat (first|(with_reducible first|exact HB.out|apply below_alloc|apply pw_below_drewN|apply below_drew1)|exact HB.out)) hb);clear HB;have HO104:=n0_;have HB:=n1_;clear n0_ n1_;(try clear hb);(try clear hb2);(try clear hk);(try clear hi);(try clear ho0);obtain ⟨Ao15,co15,eo15⟩:=Kd.R_slice HO104.out;subst eo15)|(go_at_call 15;(with_reducible refine (hedge_Plan.calls _ _ l0 _ _ l1 _ _ t102 t105 t106 t107 _ ?side1 ?side2 ?side3 ?side4 ?side5 ?side6 A11.out).mono ?_);(case side1=>repeat (first|exact (Kd.C_below HR0.out HB.out)|(with_reducible refine Kd.C_alloc ?_ _)|(with_reducible refine Kd.C_drewN ?_ _)|(with_reducible refine Kd.C_drew ?_)));(case side2=>exact HC0.out);(case side3=>repeat (first|exact (Kd.C_below HR1.out HB.out)|(with_reducible refine Kd.C_alloc ?_ _)|(with_reducible refine Kd.C_drewN ?_ _)|(with_reducible refine Kd.C_drew ?_)));(case side4=>exact HC1.out);(case side5=>repeat (first|exact (Kd.R_reads' HO104.out).2.2|(with_reducible refine Kd.C_alloc ?_ _)|(with_reducible refine Kd.C_drewN ?_ _)|(with_reducible refine Kd.C_drew ?_)));(case side6=>exact (Kd.R_reads' HO104.out).2.1);rintro e w16 ⟨v108,v110,rfl,ho0,ho1,hb⟩;have n0_:=Aside0.mk (Kd.R_below (by (with_reducible repeat (first|apply Kd.R_alloc|apply Kd.R_drewN|apply Kd.R_drew));exact HO104.out) hb);have n1_:=Aside0.mk (Kd.R_lower ho0 (below_size (by repeat (first|(with_reducible first|exact HB.out|apply below_alloc|apply pw_below_drewN|apply below_drew1)|exact HB.out))));have n2_:=Aside0.mk (Kd.R_lower ho1 (below_size (by repeat (first|(with_reducible first|exact HB.out|apply below_alloc|apply pw_below_drewN|apply below_drew1)|exact HB.out))));have n3_:=Aside0.mk (below_step (by repeat (first|(with_reducible first|exact HB.out|apply below_alloc|apply pw_below_drewN|apply below_drew1)|exact HB.out)) hb);clear HO104;clear HB;have HO104:=n0_;have HO109:=n1_;have HO111:=n2_;have HB:=n3_;clear n0_ n1_ n2_ n3_;(try clear hb);(try clear hb2);(try clear hk);(try clear hi);(try clear ho0);(try clear ho1))))
     (try simp only [Act.put,List.setIfInBounds_toArray,List.set_cons_zero,List.set_cons_succ])
     go_cut [59] (fun v59 wc=>∃ (kq:Nat) (x59_12:Bool),v59 = .bool x59_12 ∧ Aside0 (contangolaw43_HedgeNearer.j1 kq l0 l1 l2 t105 t106 x59_12 = some r) ∧ Aside0 (kq ≤ kj3) ∧ Aside0 (Kd.R k41 41 wc w.heap.size (fun _=>True) v108 t105) ∧ Aside0 (Kd.R (Kd.int .i64) 3 wc w.heap.size (fun _=>True) v110 t106) ∧ Aside0 (Below w.heap.size w wc))
     case first =>
      have H:=HC13.out
      clear HC13
      by_cases c17:(t106.length:Int) = (l1.length:Int)
      ·rw [if_pos c17] at H
       have c17b0:((t106.length:Int) == (l1.length:Int)) = true:=beq_iff_eq.mpr c17
       have c17b1:((t106.length:Int) != (l1.length:Int)) = false:=bne_eq_false_iff_eq.mpr c17
       have c17b2:(t106.length == l1.length) = true:=by first|simpa using c17|(simp at c17 ⊢;omega)
       clear c17
       (first|rw [c17b0]|(simp only [i64_w,i32_w];rw [c17b0])|skip)
       have H':=Aside0.mk H
       clear H
       obtain ⟨Ao18,co18,eo18⟩:=Kd.R_slice HO111.out
       subst eo18
       obtain ⟨Ao19,co19,eo19⟩:=Kd.R_slice HO109.out
       subst eo19
       go_wp2
       repeat (go_quiet (fail);try go_wp2)
       go_meet
       case rel=>exact ⟨_,(decide ((t105.length:Int) > (l2.length:Int))),(by first|rfl|(simp;done)|(simp [*];done)),H',⟨by have:=HJ3.out;first|omega|exact Nat.le_refl _⟩,⟨by (with_reducible repeat (first|apply Kd.R_alloc|apply Kd.R_drewN|apply Kd.R_drew));exact HO109.out⟩,⟨by (with_reducible repeat (first|apply Kd.R_alloc|apply Kd.R_drewN|apply Kd.R_drew));exact HO111.out⟩,⟨by repeat (first|(with_reducible first|exact HB.out|apply below_alloc|apply pw_below_drewN|apply below_drew1)|exact HB.out)⟩⟩
      ·rw [if_neg c17] at H
       have c17b0:((t106.length:Int) == (l1.length:Int)) = false:=beq_eq_false_iff_ne.mpr c17
       have c17b1:((t106.length:Int) != (l1.length:Int)) = true:=bne_iff_ne.mpr c17
       have c17b2:(t106.length == l1.length) = false:=by first|simpa using c17|(simp at c17 ⊢;omega)
       (first|rw [c17b0]|(simp only [i64_w,i32_w];rw [c17b0])|skip)
       have H':=Aside0.mk H
       clear H
       obtain ⟨Ao20,co20,eo20⟩:=Kd.R_slice HO111.out
       subst eo20
       go_wp2
       repeat (go_quiet (fail);try go_wp2)
       go_meet
       case rel=>exact ⟨_,(true),(by first|rfl|(simp;done)|(simp [*];done)),H',⟨by have:=HJ3.out;first|omega|exact Nat.le_refl _⟩,⟨by (with_reducible repeat (first|apply Kd.R_alloc|apply Kd.R_drewN|apply Kd.R_drew));exact HO109.out⟩,⟨by (with_reducible repeat (first|apply Kd.R_alloc|apply Kd.R_drewN|apply Kd.R_drew));exact HO111.out⟩,⟨by repeat (first|(with_reducible first|exact HB.out|apply below_alloc|apply pw_below_drewN|apply below_drew1)|exact HB.out)⟩⟩
     case rest =>
      clear HC13
      try clear c1
      try clear c2
      try clear p2
      try clear c5
      try clear c5b0
      try clear c5b1
      try clear c6
      try clear c6b0
      try clear c6b1
      try clear p6
      try clear c7
      try clear c12
      try clear c12b0
      try clear c12b1
      try clear c17
      try clear c17b0
      try clear c17b1
      try clear c17b2
      try clear p2
      obtain ⟨kq,x59_12,rfl,HA,HJ12,HO_7,HO_8,HB⟩:=hcut
      cases kq with
      | zero=>exact absurd HA.out (by simp [contangolaw43_HedgeNearer.j1])
      | succ kj12 =>
       have H:=HA.out
       clear HA
       simp only [contangolaw43_HedgeNearer.j1] at H
       by_cases c21:x59_12 = true
       ·subst c21
        have H1:(none) = some r:=by rw [if_pos rfl] at H;exact H
        clear H
        have H:=H1
        clear H1
        exact absurd H (by simp)
       ·replace c21:=Bool.eq_false_iff.mpr c21
        subst c21
        have H1:(contangolaw43_HedgeNearer.l0 kj12 l0 l1 l2 t105 t106 0) = some r:=by rw [if_neg (show ¬ (false = true) by decide)] at H;exact H
        clear H
        have H:=H1
        clear H1
        have H':=Aside0.mk H
        clear H
        go_wp2
        repeat (go_quiet (fail);try go_wp2)
        go_loopg [10] kj12 (fun kq v10 w'=>∃ (x10_3:Int),v10 = .int .i64 x10_3 ∧ Aside0 (contangolaw43_HedgeNearer.l0 kq l0 l1 l2 t105 t106 x10_3 = some r) ∧ Aside0 (kq ≤ kj12) ∧ Aside0 (Kd.R k41 41 w' w.heap.size (fun _=>True) v108 t105) ∧ Aside0 (Kd.R (Kd.int .i64) 3 w' w.heap.size (fun _=>True) v110 t106) ∧ Aside0 (Below w.heap.size w w'))
        case atStart=>exact ⟨(0),(by first|rfl|(simp;done)|(simp [*];done)),H',⟨Nat.le_refl _⟩,⟨by (with_reducible repeat (first|apply Kd.R_alloc|apply Kd.R_drewN|apply Kd.R_drew));exact HO_7.out⟩,⟨by (with_reducible repeat (first|apply Kd.R_alloc|apply Kd.R_drewN|apply Kd.R_drew));exact HO_8.out⟩,⟨by repeat (first|(with_reducible first|exact HB.out|apply below_alloc|apply pw_below_drewN|apply below_drew1)|exact HB.out)⟩⟩
        case round =>
         clear H'
         try clear c1
         try clear c2
         try clear p2
         try clear c5
         try clear c5b0
         try clear c5b1
         try clear c6
         try clear c6b0
         try clear c6b1
         try clear p6
         try clear c7
         try clear c12
         try clear c12b0
         try clear c12b1
         try clear c17
         try clear c17b0
         try clear c17b1
         try clear c17b2
         try clear c21
         try clear p2
         try clear p6
         obtain ⟨x10_3,rfl,HA,HK3,HO_7,HO_8,HB⟩:=hrel
         cases gk with
         | zero=>exact absurd HA.out (by simp [contangolaw43_HedgeNearer.l0])
         | succ k3 =>
          have H:=HA.out
          clear HA
          simp only [contangolaw43_HedgeNearer.l0] at H
          by_cases c22:x10_3 < (l1.length:Int)
          ·rw [if_pos c22] at H
           have c22b0:decide (x10_3 < (l1.length:Int)) = true:=decide_eq_true c22
           clear c22
           by_cases c23:0 ≤ x10_3
           ·rw [if_pos c23] at H
            have c23b0:decide (0 ≤ x10_3) = true:=decide_eq_true c23
            clear c23
            have H':=Aside0.mk H
            clear H
            have p114:0 ≤ (x10_3:Int):=of_decide_eq_true (by first|(with_reducible assumption)|assumption)
            have q114:x10_3 < (l1.length:Int):=of_decide_eq_true (by first|(with_reducible assumption)|assumption)
            obtain ⟨ad114,e114,hx114_0⟩:=Kd.at_int HR1.out x10_3 p114 q114
            cases e114
            replace hx114_0:=(HB.out.cell (World.block_lt_of_cell? w _ hx114_0)).trans hx114_0
            replace p114:=eq_true p114
            replace q114:=eq_true q114
            go_wp2
            repeat (go_quiet (fail);try go_wp2)
            go_loopg [11,12,13] k3 (fun kq v11 v12 v13 w'=>∃ (x11_4:Int) (x12_4:Int) (x13_4:Int),v11 = .int .i64 x11_4 ∧ v12 = .int .i64 x12_4 ∧ v13 = .int .i64 x13_4 ∧ Aside0 (contangolaw43_HedgeNearer.l1 kq l0 l1 l2 t105 t106 x10_3 x11_4 x12_4 x13_4 = some r) ∧ Aside0 (kq ≤ k3) ∧ Aside0 (Kd.R k41 41 w' w.heap.size (fun _=>True) v108 t105) ∧ Aside0 (Kd.R (Kd.int .i64) 3 w' w.heap.size (fun _=>True) v110 t106) ∧ Aside0 (Below w.heap.size w w'))
            case atStart=>exact ⟨(rd l1 x10_3),(0),(0),(by first|rfl|(simp;done)|(simp [*];done)),(by first|rfl|(simp;done)|(simp [*];done)),(by first|rfl|(simp;done)|(simp [*];done)),H',⟨Nat.le_refl _⟩,⟨by (with_reducible repeat (first|apply Kd.R_alloc|apply Kd.R_drewN|apply Kd.R_drew));exact HO_7.out⟩,⟨by (with_reducible repeat (first|apply Kd.R_alloc|apply Kd.R_drewN|apply Kd.R_drew));exact HO_8.out⟩,⟨by repeat (first|(with_reducible first|exact HB.out|apply below_alloc|apply pw_below_drewN|apply below_drew1)|exact HB.out)⟩⟩
            case round =>
             clear H'
             try clear c1
             try clear p1
             try clear q1
             try clear hx1
             try clear c2
             try clear p2
             try clear c5
             try clear c5b0
             try clear c5b1
             try clear c6
             try clear c6b0
             try clear c6b1
             try clear p6
             try clear c7
             try clear p11
             try clear q11
             try clear hx11
             try clear c12
             try clear c12b0
             try clear c12b1
             try clear c17
             try clear c17b0
             try clear c17b1
             try clear c17b2
             try clear c21
             try clear c22
             try clear c22b0
             try clear c23
             try clear c23b0
             try clear hx114_0
             try clear p114
             try clear p2
             try clear p6
             try clear q114
             obtain ⟨x11_4,x12_4,x13_4,rfl,rfl,rfl,HA,HK4,HO_7,HO_8,HB⟩:=hrel
             cases gk with
             | zero=>exact absurd HA.out (by simp [contangolaw43_HedgeNearer.l1])
             | succ k4 =>
              have H:=HA.out
              clear HA
              simp only [contangolaw43_HedgeNearer.l1] at H
              by_cases c24:x13_4 < (t105.length:Int)
              ·rw [if_pos c24] at H
               have c24b0:decide (x13_4 < (t105.length:Int)) = true:=decide_eq_true c24
               clear c24
               have HC25:=Aside0.mk H
               clear H
               obtain ⟨Ao26,co26,eo26⟩:=Kd.R_slice HO_7.out
               subst eo26
               go_upto_block 4 with (fail)
               repeat (go_quiet (fail);go_upto_block 4 with (fail))
               go_cut [12] (fun v12 wc=>∃ (kq:Nat) (x12_24:Int),v12 = .int .i64 x12_24 ∧ Aside0 (contangolaw43_HedgeNearer.j5 kq l0 l1 l2 t105 t106 x10_3 x11_4 x12_24 x13_4 = some r) ∧ Aside0 (kq ≤ k4) ∧ Aside0 (Kd.R k41 41 wc w.heap.size (fun _=>True) (.slice Ao26 t105.length co26) t105) ∧ Aside0 (Kd.R (Kd.int .i64) 3 wc w.heap.size (fun _=>True) v110 t106) ∧ Aside0 (Below w.heap.size w wc))
               case first =>
                have H:=HC25.out
                clear HC25
                have H':=Aside0.mk H
                clear H
                go_wp2
                repeat (go_quiet (fail);try go_wp2)
                go_loopg [12] k4 (fun kq v12 w'=>∃ (x12_5:Int),v12 = .int .i64 x12_5 ∧ Aside0 (contangolaw43_HedgeNearer.l2 kq l0 l1 l2 t105 t106 x10_3 x11_4 x12_5 x13_4 = some r) ∧ Aside0 (kq ≤ k4) ∧ Aside0 (Kd.R k41 41 w' w.heap.size (fun _=>True) (.slice Ao26 t105.length co26) t105) ∧ Aside0 (Kd.R (Kd.int .i64) 3 w' w.heap.size (fun _=>True) v110 t106) ∧ Aside0 (Below w.heap.size w w'))
                case atStart=>exact ⟨(x12_4),(by first|rfl|(simp;done)|(simp [*];done)),H',⟨Nat.le_refl _⟩,⟨by (with_reducible repeat (first|apply Kd.R_alloc|apply Kd.R_drewN|apply Kd.R_drew));exact HO_7.out⟩,⟨by (with_reducible repeat (first|apply Kd.R_alloc|apply Kd.R_drewN|apply Kd.R_drew));exact HO_8.out⟩,⟨by repeat (first|(with_reducible first|exact HB.out|apply below_alloc|apply pw_below_drewN|apply below_drew1)|exact HB.out)⟩⟩
                case round =>
                 clear H'
                 try clear c1
                 try clear p1
                 try clear q1
                 try clear hx1
                 try clear c2
                 try clear p2
                 try clear c5
                 try clear c5b0
                 try clear c5b1
                 try clear c6
                 try clear c6b0
                 try clear c6b1
                 try clear p6
                 try clear c7
                 try clear p11
                 try clear q11
                 try clear hx11
                 try clear c12
                 try clear c12b0
                 try clear c12b1
                 try clear c17
                 try clear c17b0
                 try clear c17b1
                 try clear c17b2
                 try clear c21
                 try clear c22
                 try clear c22b0
                 try clear c23
                 try clear c23b0
                 try clear c24
                 try clear c24b0
                 try clear hx114_0
                 try clear p1
                 try clear p11
                 try clear p114
                 try clear p2
                 try clear p6
                 try clear q1
                 try clear q11
                 try clear q114
                 obtain ⟨x12_5,rfl,HA,HK5,HO_7,HO_8,HB⟩:=hrel
                 cases gk with
                 | zero=>exact absurd HA.out (by simp [contangolaw43_HedgeNearer.l2])
                 | succ k5 =>
                  have H:=HA.out
                  clear HA
                  simp only [contangolaw43_HedgeNearer.l2] at H
                  by_cases c27:x12_5 < (l2.length:Int)
                  ·rw [if_pos c27] at H
                   have c27b0:decide (x12_5 < (l2.length:Int)) = true:=decide_eq_true c27
                   clear c27
                   (first|rw [c27b0]|(simp only [i64_w,i32_w];rw [c27b0])|skip)
                   by_cases c28:0 ≤ x12_5
                   ·rw [if_pos c28] at H
                    have c28b0:decide (0 ≤ x12_5) = true:=decide_eq_true c28
                    clear c28
                    by_cases c29:0 ≤ x13_4
                    ·rw [if_pos c29] at H
                     have c29b0:decide (0 ≤ x13_4) = true:=decide_eq_true c29
                     clear c29
                     by_cases c30:x13_4 < (t105.length:Int)
                     ·rw [if_pos c30] at H
                      have c30b0:decide (x13_4 < (t105.length:Int)) = true:=decide_eq_true c30
                      clear c30
                      by_cases c31:(!((((rd_T54 l2 x12_5).f0.f0).toList) == (((rd_T41 t105 x13_4).f0.f0).toList)) || (!(((rd_T54 l2 x12_5).f0.f1) == ((rd_T41 t105 x13_4).f0.f1)) || (!(((rd_T54 l2 x12_5).f0.f2) == ((rd_T41 t105 x13_4).f0.f2)) || (!(((rd_T54 l2 x12_5).f0.f3) == ((rd_T41 t105 x13_4).f0.f3)))))) = true
                      ·rw [if_pos c31] at H
                       have c31b0:(!((((rd_T54 l2 x12_5).f0.f0).toList) == (((rd_T41 t105 x13_4).f0.f0).toList)) || (!(((rd_T54 l2 x12_5).f0.f1) == ((rd_T41 t105 x13_4).f0.f1)) || (!(((rd_T54 l2 x12_5).f0.f2) == ((rd_T41 t105 x13_4).f0.f2)) || (!(((rd_T54 l2 x12_5).f0.f3) == ((rd_T41 t105 x13_4).f0.f3)))))) = true:=c31
                       clear c31
                       have H':=Aside0.mk H
                       clear H
                       have p115:0 ≤ (x12_5:Int):=of_decide_eq_true (by first|(with_reducible assumption)|assumption)
                       have q115:x12_5 < (l2.length:Int):=of_decide_eq_true (by first|(with_reducible assumption)|assumption)
                       obtain ⟨ad115,e115,hx115_0,hx115_1,hx115_2,hx115_3,hx115_4,hx115_5⟩:=at_T54 HR2.out x12_5 p115 q115
                       cases e115
                       replace hx115_0:=(HB.out.cell (World.block_lt_of_cell? w _ hx115_0)).trans hx115_0
                       replace hx115_1:=(HB.out.cell (World.block_lt_of_cell? w _ hx115_1)).trans hx115_1
                       replace hx115_2:=(HB.out.cell (World.block_lt_of_cell? w _ hx115_2)).trans hx115_2
                       replace hx115_3:=(HB.out.cell (World.block_lt_of_cell? w _ hx115_3)).trans hx115_3
                       replace hx115_4:=(HB.out.cell (World.block_lt_of_cell? w _ hx115_4)).trans hx115_4
                       replace hx115_5:=(HB.out.cell (World.block_lt_of_cell? w _ hx115_5)).trans hx115_5
                       replace p115:=eq_true p115
                       replace q115:=eq_true q115
                       have p116:0 ≤ (x13_4:Int):=of_decide_eq_true (by first|(with_reducible assumption)|assumption)
                       have q116:x13_4 < (t105.length:Int):=of_decide_eq_true (by first|(with_reducible assumption)|assumption)
                       obtain ⟨ad116,e116,hx116_0,hx116_1,hx116_2,hx116_3,hx116_4⟩:=at_T41 (Kd.R_reads' HO_7.out).2.2 x13_4 p116 q116
                       cases e116
                       replace p116:=eq_true p116
                       replace q116:=eq_true q116
                       go_wp2
                       repeat (go_quiet (fail);try go_wp2)
                       go_roundg k5
                       case measure=>have:=HJ3.out;have:=HJ12.out;have:=HK3.out;have:=HK4.out;have:=HK5.out;omega
                       case rel=>exact ⟨(wrap64 (x12_5 + 1)),(by first|rfl|(simp;done)|(simp [*];done)),H',⟨by have:=HJ3.out;have:=HJ12.out;have:=HK3.out;have:=HK4.out;have:=HK5.out;omega⟩,⟨by (with_reducible repeat (first|apply Kd.R_alloc|apply Kd.R_drewN|apply Kd.R_drew));exact HO_7.out⟩,⟨by (with_reducible repeat (first|apply Kd.R_alloc|apply Kd.R_drewN|apply Kd.R_drew));exact HO_8.out⟩,⟨by repeat (first|(with_reducible first|exact HB.out|apply below_alloc|apply pw_below_drewN|apply below_drew1)|exact HB.out)⟩⟩
                      ·rw [if_neg c31] at H
                       have c31b0:(!((((rd_T54 l2 x12_5).f0.f0).toList) == (((rd_T41 t105 x13_4).f0.f0).toList)) || (!(((rd_T54 l2 x12_5).f0.f1) == ((rd_T41 t105 x13_4).f0.f1)) || (!(((rd_T54 l2 x12_5).f0.f2) == ((rd_T41 t105 x13_4).f0.f2)) || (!(((rd_T54 l2 x12_5).f0.f3) == ((rd_T41 t105 x13_4).f0.f3)))))) = false:=by simpa using c31
                       clear c31
                       have H':=Aside0.mk H
                       clear H
                       have p115:0 ≤ (x12_5:Int):=of_decide_eq_true (by first|(with_reducible assumption)|assumption)
                       have q115:x12_5 < (l2.length:Int):=of_decide_eq_true (by first|(with_reducible assumption)|assumption)
                       obtain ⟨ad115,e115,hx115_0,hx115_1,hx115_2,hx115_3,hx115_4,hx115_5⟩:=at_T54 HR2.out x12_5 p115 q115
                       cases e115
                       replace hx115_0:=(HB.out.cell (World.block_lt_of_cell? w _ hx115_0)).trans hx115_0
                       replace hx115_1:=(HB.out.cell (World.block_lt_of_cell? w _ hx115_1)).trans hx115_1
                       replace hx115_2:=(HB.out.cell (World.block_lt_of_cell? w _ hx115_2)).trans hx115_2
                       replace hx115_3:=(HB.out.cell (World.block_lt_of_cell? w _ hx115_3)).trans hx115_3
                       replace hx115_4:=(HB.out.cell (World.block_lt_of_cell? w _ hx115_4)).trans hx115_4
                       replace hx115_5:=(HB.out.cell (World.block_lt_of_cell? w _ hx115_5)).trans hx115_5
                       replace p115:=eq_true p115
                       replace q115:=eq_true q115
                       have p116:0 ≤ (x13_4:Int):=of_decide_eq_true (by first|(with_reducible assumption)|assumption)
                       have q116:x13_4 < (t105.length:Int):=of_decide_eq_true (by first|(with_reducible assumption)|assumption)
                       obtain ⟨ad116,e116,hx116_0,hx116_1,hx116_2,hx116_3,hx116_4⟩:=at_T41 (Kd.R_reads' HO_7.out).2.2 x13_4 p116 q116
                       cases e116
                       replace p116:=eq_true p116
                       replace q116:=eq_true q116
                       go_wp2
                       repeat (go_quiet (fail);try go_wp2)
                       go_meet
                       case rel=>exact ⟨_,(x12_5),(by first|rfl|(simp;done)|(simp [*];done)),H',⟨by have:=HJ3.out;have:=HJ12.out;have:=HK3.out;have:=HK4.out;have:=HK5.out;first|omega|exact Nat.le_refl _⟩,⟨by (with_reducible repeat (first|apply Kd.R_alloc|apply Kd.R_drewN|apply Kd.R_drew));exact HO_7.out⟩,⟨by (with_reducible repeat (first|apply Kd.R_alloc|apply Kd.R_drewN|apply Kd.R_drew));exact HO_8.out⟩,⟨by repeat (first|(with_reducible first|exact HB.out|apply below_alloc|apply pw_below_drewN|apply below_drew1)|exact HB.out)⟩⟩
                     ·rw [if_neg c30] at H
                      exact absurd H (by simp)
                    ·rw [if_neg c29] at H
                     exact absurd H (by simp)
                   ·rw [if_neg c28] at H
                    exact absurd H (by simp)
                  ·rw [if_neg c27] at H
                   have c27b0:decide (x12_5 < (l2.length:Int)) = false:=decide_eq_false c27
                   clear c27
                   (first|rw [c27b0]|(simp only [i64_w,i32_w];rw [c27b0])|skip)
                   have H':=Aside0.mk H
                   clear H
                   go_wp2
                   repeat (go_quiet (fail);try go_wp2)
                   go_meet
                   case rel=>exact ⟨_,(x12_5),(by first|rfl|(simp;done)|(simp [*];done)),H',⟨by have:=HJ3.out;have:=HJ12.out;have:=HK3.out;have:=HK4.out;have:=HK5.out;first|omega|exact Nat.le_refl _⟩,⟨by (with_reducible repeat (first|apply Kd.R_alloc|apply Kd.R_drewN|apply Kd.R_drew));exact HO_7.out⟩,⟨by (with_reducible repeat (first|apply Kd.R_alloc|apply Kd.R_drewN|apply Kd.R_drew));exact HO_8.out⟩,⟨by repeat (first|(with_reducible first|exact HB.out|apply below_alloc|apply pw_below_drewN|apply below_drew1)|exact HB.out)⟩⟩
               case rest =>
                clear HC25
                try clear c1
                try clear p1
                try clear q1
                try clear hx1
                try clear c2
                try clear p2
                try clear c3
                try clear c5
                try clear c5b0
                try clear c5b1
                try clear c6
                try clear c6b0
                try clear c6b1
                try clear p6
                try clear c7
                try clear p11
                try clear q11
                try clear hx11
                try clear c12
                try clear c12b0
                try clear c12b1
                try clear c17
                try clear c17b0
                try clear c17b1
                try clear c17b2
                try clear c21
                try clear c22
                try clear c22b0
                try clear c23
                try clear c23b0
                try clear c24
                try clear c24b0
                try clear c27
                try clear c27b0
                try clear c28
                try clear c28b0
                try clear c29
                try clear c29b0
                try clear c30
                try clear c30b0
                try clear c31
                try clear c31b0
                try clear hx114_0
                try clear hx115_0
                try clear hx115_1
                try clear hx115_2
                try clear hx115_3
                try clear hx115_4
                try clear hx115_5
                try clear hx116_0
                try clear hx116_1
                try clear hx116_2
                try clear hx116_3
                try clear hx116_4
                try clear p1
                try clear p11
                try clear p114
                try clear p115
                try clear p116
                try clear p2
                try clear p6
                try clear q1
                try clear q11
                try clear q114
                try clear q115
                try clear q116
                obtain ⟨kq,x12_24,rfl,HA,HJ24,HO_7,HO_8,HB⟩:=hcut
                cases kq with
                | zero=>exact absurd HA.out (by simp [contangolaw43_HedgeNearer.j5])
                | succ kj24 =>
                 have H:=HA.out
                 clear HA
                 simp only [contangolaw43_HedgeNearer.j5] at H
                 have HC32:=Aside0.mk H
                 clear H
                 go_upto_region 18 with (fail)
                 repeat (go_quiet (fail);go_upto_region 18 with (fail))
                 go_cut [133] (fun v133 wc=>∃ (kq:Nat) (x133_31:Bool),v133 = .bool x133_31 ∧ Aside0 (contangolaw43_HedgeNearer.j6 kq l0 l1 l2 t105 t106 x10_3 x11_4 x12_24 x13_4 x133_31 = some r) ∧ Aside0 (kq ≤ kj24) ∧ Aside0 (Kd.R k41 41 wc w.heap.size (fun _=>True) (.slice Ao26 t105.length co26) t105) ∧ Aside0 (Kd.R (Kd.int .i64) 3 wc w.heap.size (fun _=>True) v110 t106) ∧ Aside0 (Below w.heap.size w wc))
                 case first =>
                  have H:=HC32.out
                  clear HC32
                  by_cases c33:x12_24 = (l2.length:Int)
                  ·rw [if_pos c33] at H
                   have c33b0:(x12_24 == (l2.length:Int)) = true:=beq_iff_eq.mpr c33
                   have c33b1:(x12_24 != (l2.length:Int)) = false:=bne_eq_false_iff_eq.mpr c33
                   clear c33
                   (first|rw [c33b0]|(simp only [i64_w,i32_w];rw [c33b0])|skip)
                   have H':=Aside0.mk H
                   clear H
                   go_wp2
                   repeat (go_quiet (fail);try go_wp2)
                   go_meet
                   case rel=>exact ⟨_,(true),(by first|rfl|(simp;done)|(simp [*];done)),H',⟨by have:=HJ3.out;have:=HJ12.out;have:=HK3.out;have:=HK4.out;have:=HJ24.out;first|omega|exact Nat.le_refl _⟩,⟨by (with_reducible repeat (first|apply Kd.R_alloc|apply Kd.R_drewN|apply Kd.R_drew));exact HO_7.out⟩,⟨by (with_reducible repeat (first|apply Kd.R_alloc|apply Kd.R_drewN|apply Kd.R_drew));exact HO_8.out⟩,⟨by repeat (first|(with_reducible first|exact HB.out|apply below_alloc|apply pw_below_drewN|apply below_drew1)|exact HB.out)⟩⟩
                  ·rw [if_neg c33] at H
                   have c33b0:(x12_24 == (l2.length:Int)) = false:=beq_eq_false_iff_ne.mpr c33
                   have c33b1:(x12_24 != (l2.length:Int)) = true:=bne_iff_ne.mpr c33
                   (first|rw [c33b0]|(simp only [i64_w,i32_w];rw [c33b0])|skip)
                   by_cases c34:0 ≤ x13_4
                   ·rw [if_pos c34] at H
                    have c34b0:decide (0 ≤ x13_4) = true:=decide_eq_true c34
                    clear c34
                    by_cases c35:x13_4 < (t105.length:Int)
                    ·rw [if_pos c35] at H
                     have c35b0:decide (x13_4 < (t105.length:Int)) = true:=decide_eq_true c35
                     clear c35
                     by_cases c36:((rd_T41 t105 x13_4).f1) = 0
                     ·rw [if_pos c36] at H
                      have c36b0:(((rd_T41 t105 x13_4).f1) == 0) = true:=beq_iff_eq.mpr c36
                      have c36b1:(((rd_T41 t105 x13_4).f1) != 0) = false:=bne_eq_false_iff_eq.mpr c36
                      clear c36
                      have H':=Aside0.mk H
                      clear H
                      have p117:0 ≤ (x13_4:Int):=of_decide_eq_true (by first|(with_reducible assumption)|assumption)
                      have q117:x13_4 < (t105.length:Int):=of_decide_eq_true (by first|(with_reducible assumption)|assumption)
                      obtain ⟨ad117,e117,hx117_0,hx117_1,hx117_2,hx117_3,hx117_4⟩:=at_T41 (Kd.R_reads' HO_7.out).2.2 x13_4 p117 q117
                      cases e117
                      replace p117:=eq_true p117
                      replace q117:=eq_true q117
                      go_wp2
                      repeat (go_quiet (fail);try go_wp2)
                      go_meet
                      case rel=>exact ⟨_,(true),(by first|rfl|(simp;done)|(simp [*];done)),H',⟨by have:=HJ3.out;have:=HJ12.out;have:=HK3.out;have:=HK4.out;have:=HJ24.out;first|omega|exact Nat.le_refl _⟩,⟨by (with_reducible repeat (first|apply Kd.R_alloc|apply Kd.R_drewN|apply Kd.R_drew));exact HO_7.out⟩,⟨by (with_reducible repeat (first|apply Kd.R_alloc|apply Kd.R_drewN|apply Kd.R_drew));exact HO_8.out⟩,⟨by repeat (first|(with_reducible first|exact HB.out|apply below_alloc|apply pw_below_drewN|apply below_drew1)|exact HB.out)⟩⟩
                     ·rw [if_neg c36] at H
                      have c36b0:(((rd_T41 t105 x13_4).f1) == 0) = false:=beq_eq_false_iff_ne.mpr c36
                      have c36b1:(((rd_T41 t105 x13_4).f1) != 0) = true:=bne_iff_ne.mpr c36
                      by_cases c37:0 ≤ x12_24
                      ·rw [if_pos c37] at H
                       have c37b0:decide (0 ≤ x12_24) = true:=decide_eq_true c37
                       clear c37
                       by_cases c38:x12_24 < (l2.length:Int)
                       ·rw [if_pos c38] at H
                        have c38b0:decide (x12_24 < (l2.length:Int)) = true:=decide_eq_true c38
                        clear c38
                        by_cases c39:((rd_T41 t105 x13_4).f1) > ((rd_T54 l2 x12_24).f2)
                        ·rw [if_pos c39] at H
                         have c39b0:decide (((rd_T54 l2 x12_24).f2) < ((rd_T41 t105 x13_4).f1)) = true:=decide_eq_true c39
                         clear c39
                         have H':=Aside0.mk H
                         clear H
                         have p117:0 ≤ (x13_4:Int):=of_decide_eq_true (by first|(with_reducible assumption)|assumption)
                         have q117:x13_4 < (t105.length:Int):=of_decide_eq_true (by first|(with_reducible assumption)|assumption)
                         obtain ⟨ad117,e117,hx117_0,hx117_1,hx117_2,hx117_3,hx117_4⟩:=at_T41 (Kd.R_reads' HO_7.out).2.2 x13_4 p117 q117
                         cases e117
                         replace p117:=eq_true p117
                         replace q117:=eq_true q117
                         have p118:0 ≤ (x13_4:Int):=of_decide_eq_true (by first|(with_reducible assumption)|assumption)
                         have q118:x13_4 < (t105.length:Int):=of_decide_eq_true (by first|(with_reducible assumption)|assumption)
                         obtain ⟨ad118,e118,hx118_0,hx118_1,hx118_2,hx118_3,hx118_4⟩:=at_T41 (Kd.R_reads' HO_7.out).2.2 x13_4 p118 q118
                         obtain rfl:ad117 = ad118:=(by injection e118)
                         replace p118:=eq_true p118
                         replace q118:=eq_true q118
                         have p119:0 ≤ (x12_24:Int):=of_decide_eq_true (by first|(with_reducible assumption)|assumption)
                         have q119:x12_24 < (l2.length:Int):=of_decide_eq_true (by first|(with_reducible assumption)|assumption)
                         obtain ⟨ad119,e119,hx119_0,hx119_1,hx119_2,hx119_3,hx119_4,hx119_5⟩:=at_T54 HR2.out x12_24 p119 q119
                         cases e119
                         replace hx119_0:=(HB.out.cell (World.block_lt_of_cell? w _ hx119_0)).trans hx119_0
                         replace hx119_1:=(HB.out.cell (World.block_lt_of_cell? w _ hx119_1)).trans hx119_1
                         replace hx119_2:=(HB.out.cell (World.block_lt_of_cell? w _ hx119_2)).trans hx119_2
                         replace hx119_3:=(HB.out.cell (World.block_lt_of_cell? w _ hx119_3)).trans hx119_3
                         replace hx119_4:=(HB.out.cell (World.block_lt_of_cell? w _ hx119_4)).trans hx119_4
                         replace hx119_5:=(HB.out.cell (World.block_lt_of_cell? w _ hx119_5)).trans hx119_5
                         replace p119:=eq_true p119
                         replace q119:=eq_true q119
                         go_wp2
                         repeat (go_quiet (fail);try go_wp2)
                         go_meet
                         case rel=>exact ⟨_,(true),(by first|rfl|(simp;done)|(simp [*];done)),H',⟨by have:=HJ3.out;have:=HJ12.out;have:=HK3.out;have:=HK4.out;have:=HJ24.out;first|omega|exact Nat.le_refl _⟩,⟨by (with_reducible repeat (first|apply Kd.R_alloc|apply Kd.R_drewN|apply Kd.R_drew));exact HO_7.out⟩,⟨by (with_reducible repeat (first|apply Kd.R_alloc|apply Kd.R_drewN|apply Kd.R_drew));exact HO_8.out⟩,⟨by repeat (first|(with_reducible first|exact HB.out|apply below_alloc|apply pw_below_drewN|apply below_drew1)|exact HB.out)⟩⟩
                        ·rw [if_neg c39] at H
                         have c39b0:decide (((rd_T54 l2 x12_24).f2) < ((rd_T41 t105 x13_4).f1)) = false:=decide_eq_false c39
                         clear c39
                         have H':=Aside0.mk H
                         clear H
                         have p117:0 ≤ (x13_4:Int):=of_decide_eq_true (by first|(with_reducible assumption)|assumption)
                         have q117:x13_4 < (t105.length:Int):=of_decide_eq_true (by first|(with_reducible assumption)|assumption)
                         obtain ⟨ad117,e117,hx117_0,hx117_1,hx117_2,hx117_3,hx117_4⟩:=at_T41 (Kd.R_reads' HO_7.out).2.2 x13_4 p117 q117
                         cases e117
                         replace p117:=eq_true p117
                         replace q117:=eq_true q117
                         have p118:0 ≤ (x13_4:Int):=of_decide_eq_true (by first|(with_reducible assumption)|assumption)
                         have q118:x13_4 < (t105.length:Int):=of_decide_eq_true (by first|(with_reducible assumption)|assumption)
                         obtain ⟨ad118,e118,hx118_0,hx118_1,hx118_2,hx118_3,hx118_4⟩:=at_T41 (Kd.R_reads' HO_7.out).2.2 x13_4 p118 q118
                         obtain rfl:ad117 = ad118:=(by injection e118)
                         replace p118:=eq_true p118
                         replace q118:=eq_true q118
                         have p119:0 ≤ (x12_24:Int):=of_decide_eq_true (by first|(with_reducible assumption)|assumption)
                         have q119:x12_24 < (l2.length:Int):=of_decide_eq_true (by first|(with_reducible assumption)|assumption)
                         obtain ⟨ad119,e119,hx119_0,hx119_1,hx119_2,hx119_3,hx119_4,hx119_5⟩:=at_T54 HR2.out x12_24 p119 q119
                         cases e119
                         replace hx119_0:=(HB.out.cell (World.block_lt_of_cell? w _ hx119_0)).trans hx119_0
                         replace hx119_1:=(HB.out.cell (World.block_lt_of_cell? w _ hx119_1)).trans hx119_1
                         replace hx119_2:=(HB.out.cell (World.block_lt_of_cell? w _ hx119_2)).trans hx119_2
                         replace hx119_3:=(HB.out.cell (World.block_lt_of_cell? w _ hx119_3)).trans hx119_3
                         replace hx119_4:=(HB.out.cell (World.block_lt_of_cell? w _ hx119_4)).trans hx119_4
                         replace hx119_5:=(HB.out.cell (World.block_lt_of_cell? w _ hx119_5)).trans hx119_5
                         replace p119:=eq_true p119
                         replace q119:=eq_true q119
                         have p120:0 ≤ (x13_4:Int):=of_decide_eq_true (by first|(with_reducible assumption)|assumption)
                         have q120:x13_4 < (t105.length:Int):=of_decide_eq_true (by first|(with_reducible assumption)|assumption)
                         obtain ⟨ad120,e120,hx120_0,hx120_1,hx120_2,hx120_3,hx120_4⟩:=at_T41 (Kd.R_reads' HO_7.out).2.2 x13_4 p120 q120
                         obtain rfl:ad117 = ad120:=(by injection e120)
                         replace p120:=eq_true p120
                         replace q120:=eq_true q120
                         have p121:0 ≤ (x12_24:Int):=of_decide_eq_true (by first|(with_reducible assumption)|assumption)
                         have q121:x12_24 < (l2.length:Int):=of_decide_eq_true (by first|(with_reducible assumption)|assumption)
                         obtain ⟨ad121,e121,hx121_0,hx121_1,hx121_2,hx121_3,hx121_4,hx121_5⟩:=at_T54 HR2.out x12_24 p121 q121
                         obtain rfl:ad119 = ad121:=(by injection e121)
                         replace hx121_0:=(HB.out.cell (World.block_lt_of_cell? w _ hx121_0)).trans hx121_0
                         replace hx121_1:=(HB.out.cell (World.block_lt_of_cell? w _ hx121_1)).trans hx121_1
                         replace hx121_2:=(HB.out.cell (World.block_lt_of_cell? w _ hx121_2)).trans hx121_2
                         replace hx121_3:=(HB.out.cell (World.block_lt_of_cell? w _ hx121_3)).trans hx121_3
                         replace hx121_4:=(HB.out.cell (World.block_lt_of_cell? w _ hx121_4)).trans hx121_4
                         replace hx121_5:=(HB.out.cell (World.block_lt_of_cell? w _ hx121_5)).trans hx121_5
                         replace p121:=eq_true p121
                         replace q121:=eq_true q121
                         go_wp2
                         repeat (go_quiet (fail);try go_wp2)
                         go_meet
                         case rel=>exact ⟨_,(decide (((rd_T41 t105 x13_4).f1) < (wrap64 (-((rd_T54 l2 x12_24).f2))))),(by first|rfl|(simp;done)|(simp [*];done)),H',⟨by have:=HJ3.out;have:=HJ12.out;have:=HK3.out;have:=HK4.out;have:=HJ24.out;first|omega|exact Nat.le_refl _⟩,⟨by (with_reducible repeat (first|apply Kd.R_alloc|apply Kd.R_drewN|apply Kd.R_drew));exact HO_7.out⟩,⟨by (with_reducible repeat (first|apply Kd.R_alloc|apply Kd.R_drewN|apply Kd.R_drew));exact HO_8.out⟩,⟨by repeat (first|(with_reducible first|exact HB.out|apply below_alloc|apply pw_below_drewN|apply below_drew1)|exact HB.out)⟩⟩
                       ·rw [if_neg c38] at H
                        exact absurd H (by simp)
                      ·rw [if_neg c37] at H
                       exact absurd H (by simp)
                    ·rw [if_neg c35] at H
                     exact absurd H (by simp)
                   ·rw [if_neg c34] at H
                    exact absurd H (by simp)
                 case rest =>
                  clear HC32
                  try clear c1
                  try clear p1
                  try clear q1
                  try clear hx1
                  try clear c2
                  try clear p2
                  try clear c3
                  try clear c5
                  try clear c5b0
                  try clear c5b1
                  try clear c6
                  try clear c6b0
                  try clear c6b1
                  try clear p6
                  try clear c7
                  try clear p11
                  try clear q11
                  try clear hx11
                  try clear c12
                  try clear c12b0
                  try clear c12b1
                  try clear p12
                  try clear q12
                  try clear hx12
                  try clear c17
                  try clear c17b0
                  try clear c17b1
                  try clear c17b2
                  try clear c21
                  try clear c22
                  try clear c22b0
                  try clear c23
                  try clear c23b0
                  try clear c24
                  try clear c24b0
                  try clear c27
                  try clear c27b0
                  try clear c28
                  try clear c28b0
                  try clear c29
                  try clear c29b0
                  try clear c30
                  try clear c30b0
                  try clear c31
                  try clear c31b0
                  try clear c33
                  try clear c33b0
                  try clear c33b1
                  try clear c34
                  try clear c34b0
                  try clear c35
                  try clear c35b0
                  try clear c36
                  try clear c36b0
                  try clear c36b1
                  try clear c37
                  try clear c37b0
                  try clear c38
                  try clear c38b0
                  try clear c39
                  try clear c39b0
                  try clear hx114_0
                  try clear hx115_0
                  try clear hx115_1
                  try clear hx115_2
                  try clear hx115_3
                  try clear hx115_4
                  try clear hx115_5
                  try clear hx116_0
                  try clear hx116_1
                  try clear hx116_2
                  try clear hx116_3
                  try clear hx116_4
                  try clear hx117_0
                  try clear hx117_1
                  try clear hx117_2
                  try clear hx117_3
                  try clear hx117_4
                  try clear hx118_0
                  try clear hx118_1
                  try clear hx118_2
                  try clear hx118_3
                  try clear hx118_4
                  try clear hx119_0
                  try clear hx119_1
                  try clear hx119_2
                  try clear hx119_3
                  try clear hx119_4
                  try clear hx119_5
                  try clear hx120_0
                  try clear hx120_1
                  try clear hx120_2
                  try clear hx120_3
                  try clear hx120_4
                  try clear hx121_0
                  try clear hx121_1
                  try clear hx121_2
                  try clear hx121_3
                  try clear hx121_4
                  try clear hx121_5
                  try clear p1
                  try clear p11
                  try clear p114
                  try clear p115
                  try clear p116
                  try clear p117
                  try clear p118
                  try clear p119
                  try clear p120
                  try clear p121
                  try clear p2
                  try clear p6
                  try clear q1
                  try clear q11
                  try clear q114
                  try clear q115
                  try clear q116
                  try clear q117
                  try clear q118
                  try clear q119
                  try clear q120
                  try clear q121
                  obtain ⟨kq,x133_31,rfl,HA,HJ31,HO_7,HO_8,HB⟩:=hcut
                  cases kq with
                  | zero=>exact absurd HA.out (by simp [contangolaw43_HedgeNearer.j6])
                  | succ kj31 =>
                   have H:=HA.out
                   clear HA
                   simp only [contangolaw43_HedgeNearer.j6] at H
                   by_cases c40:x133_31 = true
                   ·subst c40
                    have H1:(none) = some r:=by rw [if_pos rfl] at H;exact H
                    clear H
                    have H:=H1
                    clear H1
                    exact absurd H (by simp)
                   ·replace c40:=Bool.eq_false_iff.mpr c40
                    subst c40
                    have H1:(if 0 ≤ x13_4 then (if x13_4 < (t105.length:Int) then (if 0 ≤ x10_3 then (if x10_3 < (l0.length:Int) then (if ((rd_T41 t105 x13_4).f0.f0).toList = (rdOf ByteArray.empty l0 x10_3).toList then (if 0 ≤ x12_24 then (if x12_24 < (l2.length:Int) then (contangolaw43_HedgeNearer.l1 kj31 l0 l1 l2 t105 t106 x10_3 (wrap64 (x11_4 + (wrap64 (((rd_T41 t105 x13_4).f1) * ((rd_T54 l2 x12_24).f1))))) x12_24 (wrap64 (x13_4 + 1))) else (none)) else (none)) else (contangolaw43_HedgeNearer.l1 kj31 l0 l1 l2 t105 t106 x10_3 x11_4 x12_24 (wrap64 (x13_4 + 1)))) else (none)) else (none)) else (none)) else (none)) = some r:=by rw [if_neg (show ¬ (false = true) by decide)] at H;exact H
                    clear H
                    have H:=H1
                    clear H1
                    by_cases c41:0 ≤ x13_4
                    ·rw [if_pos c41] at H
                     have c41b0:decide (0 ≤ x13_4) = true:=decide_eq_true c41
                     clear c41
                     by_cases c42:x13_4 < (t105.length:Int)
                     ·rw [if_pos c42] at H
                      have c42b0:decide (x13_4 < (t105.length:Int)) = true:=decide_eq_true c42
                      clear c42
                      by_cases c43:0 ≤ x10_3
                      ·rw [if_pos c43] at H
                       have c43b0:decide (0 ≤ x10_3) = true:=decide_eq_true c43
                       clear c43
                       by_cases c44:x10_3 < (l0.length:Int)
                       ·rw [if_pos c44] at H
                        have c44b0:decide (x10_3 < (l0.length:Int)) = true:=decide_eq_true c44
                        clear c44
                        by_cases c45:((rd_T41 t105 x13_4).f0.f0).toList = (rdOf ByteArray.empty l0 x10_3).toList
                        ·rw [if_pos c45] at H
                         have c45b0:(((rd_T41 t105 x13_4).f0.f0).toList == (rdOf ByteArray.empty l0 x10_3).toList) = true:=beq_iff_eq.mpr c45
                         have c45b1:(((rd_T41 t105 x13_4).f0.f0).toList != (rdOf ByteArray.empty l0 x10_3).toList) = false:=bne_eq_false_iff_eq.mpr c45
                         clear c45
                         by_cases c46:0 ≤ x12_24
                         ·rw [if_pos c46] at H
                          have c46b0:decide (0 ≤ x12_24) = true:=decide_eq_true c46
                          clear c46
                          by_cases c47:x12_24 < (l2.length:Int)
                          ·rw [if_pos c47] at H
                           have c47b0:decide (x12_24 < (l2.length:Int)) = true:=decide_eq_true c47
                           clear c47
                           have H':=Aside0.mk H
                           clear H
                           have p122:0 ≤ (x13_4:Int):=of_decide_eq_true (by first|(with_reducible assumption)|assumption)
                           have q122:x13_4 < (t105.length:Int):=of_decide_eq_true (by first|(with_reducible assumption)|assumption)
                           obtain ⟨ad122,e122,hx122_0,hx122_1,hx122_2,hx122_3,hx122_4⟩:=at_T41 (Kd.R_reads' HO_7.out).2.2 x13_4 p122 q122
                           cases e122
                           replace p122:=eq_true p122
                           replace q122:=eq_true q122
                           have p123:0 ≤ (x10_3:Int):=of_decide_eq_true (by first|(with_reducible assumption)|assumption)
                           have q123:x10_3 < (l0.length:Int):=of_decide_eq_true (by first|(with_reducible assumption)|assumption)
                           obtain ⟨ad123,e123,hx123_0⟩:=Kd.at_string HR0.out x10_3 p123 q123
                           cases e123
                           replace hx123_0:=(HB.out.cell (World.block_lt_of_cell? w _ hx123_0)).trans hx123_0
                           replace p123:=eq_true p123
                           replace q123:=eq_true q123
                           have p124:0 ≤ (x13_4:Int):=of_decide_eq_true (by first|(with_reducible assumption)|assumption)
                           have q124:x13_4 < (t105.length:Int):=of_decide_eq_true (by first|(with_reducible assumption)|assumption)
                           obtain ⟨ad124,e124,hx124_0,hx124_1,hx124_2,hx124_3,hx124_4⟩:=at_T41 (Kd.R_reads' HO_7.out).2.2 x13_4 p124 q124
                           obtain rfl:ad122 = ad124:=(by injection e124)
                           replace p124:=eq_true p124
                           replace q124:=eq_true q124
                           have p125:0 ≤ (x12_24:Int):=of_decide_eq_true (by first|(with_reducible assumption)|assumption)
                           have q125:x12_24 < (l2.length:Int):=of_decide_eq_true (by first|(with_reducible assumption)|assumption)
                           obtain ⟨ad125,e125,hx125_0,hx125_1,hx125_2,hx125_3,hx125_4,hx125_5⟩:=at_T54 HR2.out x12_24 p125 q125
                           cases e125
                           replace hx125_0:=(HB.out.cell (World.block_lt_of_cell? w _ hx125_0)).trans hx125_0
                           replace hx125_1:=(HB.out.cell (World.block_lt_of_cell? w _ hx125_1)).trans hx125_1
                           replace hx125_2:=(HB.out.cell (World.block_lt_of_cell? w _ hx125_2)).trans hx125_2
                           replace hx125_3:=(HB.out.cell (World.block_lt_of_cell? w _ hx125_3)).trans hx125_3
                           replace hx125_4:=(HB.out.cell (World.block_lt_of_cell? w _ hx125_4)).trans hx125_4
                           replace hx125_5:=(HB.out.cell (World.block_lt_of_cell? w _ hx125_5)).trans hx125_5
                           replace p125:=eq_true p125
                           replace q125:=eq_true q125
                           go_wp2
                           repeat (go_quiet (fail);try go_wp2)
                           go_roundg kj31
                           case measure=>have:=HJ3.out;have:=HJ12.out;have:=HK3.out;have:=HK4.out;have:=HJ24.out;have:=HJ31.out;omega
                           case rel=>exact ⟨(wrap64 (x11_4 + (wrap64 (((rd_T41 t105 x13_4).f1) * ((rd_T54 l2 x12_24).f1))))),(x12_24),(wrap64 (x13_4 + 1)),(by first|rfl|(simp;done)|(simp [*];done)),(by first|rfl|(simp;done)|(simp [*];done)),(by first|rfl|(simp;done)|(simp [*];done)),H',⟨by have:=HJ3.out;have:=HJ12.out;have:=HK3.out;have:=HK4.out;have:=HJ24.out;have:=HJ31.out;omega⟩,⟨by (with_reducible repeat (first|apply Kd.R_alloc|apply Kd.R_drewN|apply Kd.R_drew));exact HO_7.out⟩,⟨by (with_reducible repeat (first|apply Kd.R_alloc|apply Kd.R_drewN|apply Kd.R_drew));exact HO_8.out⟩,⟨by repeat (first|(with_reducible first|exact HB.out|apply below_alloc|apply pw_below_drewN|apply below_drew1)|exact HB.out)⟩⟩
                          ·rw [if_neg c47] at H
                           exact absurd H (by simp)
                         ·rw [if_neg c46] at H
                          exact absurd H (by simp)
                        ·rw [if_neg c45] at H
                         have c45b0:(((rd_T41 t105 x13_4).f0.f0).toList == (rdOf ByteArray.empty l0 x10_3).toList) = false:=beq_eq_false_iff_ne.mpr c45
                         have c45b1:(((rd_T41 t105 x13_4).f0.f0).toList != (rdOf ByteArray.empty l0 x10_3).toList) = true:=bne_iff_ne.mpr c45
                         have H':=Aside0.mk H
                         clear H
                         have p122:0 ≤ (x13_4:Int):=of_decide_eq_true (by first|(with_reducible assumption)|assumption)
                         have q122:x13_4 < (t105.length:Int):=of_decide_eq_true (by first|(with_reducible assumption)|assumption)
                         obtain ⟨ad122,e122,hx122_0,hx122_1,hx122_2,hx122_3,hx122_4⟩:=at_T41 (Kd.R_reads' HO_7.out).2.2 x13_4 p122 q122
                         cases e122
                         replace p122:=eq_true p122
                         replace q122:=eq_true q122
                         have p123:0 ≤ (x10_3:Int):=of_decide_eq_true (by first|(with_reducible assumption)|assumption)
                         have q123:x10_3 < (l0.length:Int):=of_decide_eq_true (by first|(with_reducible assumption)|assumption)
                         obtain ⟨ad123,e123,hx123_0⟩:=Kd.at_string HR0.out x10_3 p123 q123
                         cases e123
                         replace hx123_0:=(HB.out.cell (World.block_lt_of_cell? w _ hx123_0)).trans hx123_0
                         replace p123:=eq_true p123
                         replace q123:=eq_true q123
                         go_wp2
                         repeat (go_quiet (fail);try go_wp2)
                         go_roundg kj31
                         case measure=>have:=HJ3.out;have:=HJ12.out;have:=HK3.out;have:=HK4.out;have:=HJ24.out;have:=HJ31.out;omega
                         case rel=>exact ⟨(x11_4),(x12_24),(wrap64 (x13_4 + 1)),(by first|rfl|(simp;done)|(simp [*];done)),(by first|rfl|(simp;done)|(simp [*];done)),(by first|rfl|(simp;done)|(simp [*];done)),H',⟨by have:=HJ3.out;have:=HJ12.out;have:=HK3.out;have:=HK4.out;have:=HJ24.out;have:=HJ31.out;omega⟩,⟨by (with_reducible repeat (first|apply Kd.R_alloc|apply Kd.R_drewN|apply Kd.R_drew));exact HO_7.out⟩,⟨by (with_reducible repeat (first|apply Kd.R_alloc|apply Kd.R_drewN|apply Kd.R_drew));exact HO_8.out⟩,⟨by repeat (first|(with_reducible first|exact HB.out|apply below_alloc|apply pw_below_drewN|apply below_drew1)|exact HB.out)⟩⟩
                       ·rw [if_neg c44] at H
                        exact absurd H (by simp)
                      ·rw [if_neg c43] at H
                       exact absurd H (by simp)
                     ·rw [if_neg c42] at H
                      exact absurd H (by simp)
                    ·rw [if_neg c41] at H
                     exact absurd H (by simp)
              ·rw [if_neg c24] at H
               have c24b0:decide (x13_4 < (t105.length:Int)) = false:=decide_eq_false c24
               clear c24
               by_cases c48:0 ≤ x10_3
               ·rw [if_pos c48] at H
                have c48b0:decide (0 ≤ x10_3) = true:=decide_eq_true c48
                clear c48
                by_cases c49:x10_3 < (t106.length:Int)
                ·rw [if_pos c49] at H
                 have c49b0:decide (x10_3 < (t106.length:Int)) = true:=decide_eq_true c49
                 clear c49
                 by_cases c50:x11_4 = (rd t106 x10_3)
                 ·rw [if_pos c50] at H
                  have c50b0:(x11_4 == (rd t106 x10_3)) = true:=beq_iff_eq.mpr c50
                  have c50b1:(x11_4 != (rd t106 x10_3)) = false:=bne_eq_false_iff_eq.mpr c50
                  clear c50
                  replace H:=Option.bind_eq_some_iff.mp H
                  obtain ⟨t128,A510,H⟩:=H
                  replace H:(if x10_3 < (l1.length:Int) then ((contangolaw43_size.f (rd l1 x10_3)).bind fun t130=>(if t128 > t130 then (none) else (contangolaw43_HedgeNearer.l0 k4 l0 l1 l2 t105 t106 (wrap64 (x10_3 + 1))))) else (none)) = some r:=H
                  have A51:=Aside0.mk A510
                  clear A510
                  by_cases c52:x10_3 < (l1.length:Int)
                  ·rw [if_pos c52] at H
                   have c52b0:decide (x10_3 < (l1.length:Int)) = true:=decide_eq_true c52
                   clear c52
                   replace H:=Option.bind_eq_some_iff.mp H
                   obtain ⟨t130,A530,H⟩:=H
                   replace H:(if t128 > t130 then (none) else (contangolaw43_HedgeNearer.l0 k4 l0 l1 l2 t105 t106 (wrap64 (x10_3 + 1)))) = some r:=H
                   have A53:=Aside0.mk A530
                   clear A530
                   by_cases c54:t128 > t130
                   ·rw [if_pos c54] at H
                    exact absurd H (by simp)
                   ·rw [if_neg c54] at H
                    have c54b0:decide (t130 < t128) = false:=decide_eq_false c54
                    clear c54
                    have H':=Aside0.mk H
                    clear H
                    obtain ⟨Ao55,co55,eo55⟩:=Kd.R_slice HO_7.out
                    subst eo55
                    obtain ⟨Ao56,co56,eo56⟩:=Kd.R_slice HO_8.out
                    subst eo56
                    have p126:0 ≤ (x10_3:Int):=of_decide_eq_true (by first|(with_reducible assumption)|assumption)
                    have q126:x10_3 < (t106.length:Int):=of_decide_eq_true (by first|(with_reducible assumption)|assumption)
                    obtain ⟨ad126,e126,hx126_0⟩:=Kd.at_int (Kd.R_reads' HO_8.out).2.2 x10_3 p126 q126
                    cases e126
                    replace p126:=eq_true p126
                    replace q126:=eq_true q126
                    have p127:0 ≤ (x10_3:Int):=of_decide_eq_true (by first|(with_reducible assumption)|assumption)
                    have q127:x10_3 < (t106.length:Int):=of_decide_eq_true (by first|(with_reducible assumption)|assumption)
                    obtain ⟨ad127,e127,hx127_0⟩:=Kd.at_int (Kd.R_reads' HO_8.out).2.2 x10_3 p127 q127
                    obtain rfl:ad126 = ad127:=(by injection e127)
                    replace p127:=eq_true p127
                    replace q127:=eq_true q127
                    go_wp2_with (first|(go_at_call 23;(with_reducible refine (contangolaw43_size.calls (rd t106 x10_3) t128 _ A51.out).mono ?_);rintro e w' ⟨rfl,⟨nd,rfl⟩⟩;(try first|exact ⟨rfl,_,World.drewN_drewN _ _ _⟩|exact ⟨rfl,_,Eq.trans (World.drewN_drewN _ _ _) (congrArg (World.drewN _) (Nat.add_assoc _ _ _))⟩);have p129:0 ≤ (x10_3:Int):=of_decide_eq_true (by first|(with_reducible assumption)|assumption);have q129:x10_3 < (l1.length:Int):=of_decide_eq_true (by first|(with_reducible assumption)|assumption);obtain ⟨ad129,e129,hx129_0⟩:=Kd.at_int HR1.out x10_3 p129 q129;obtain rfl:ad114 = ad129:=(by injection e129);replace hx129_0:=(HB.out.cell (World.block_lt_of_cell? w _ hx129_0)).trans hx129_0;replace p129:=eq_true p129;replace q129:=eq_true q129)|(go_at_call 23;(with_reducible refine (contangolaw43_size.calls (rd l1 x10_3) t130 _ A53.out).mono ?_);rintro e w' ⟨rfl,⟨nd,rfl⟩⟩;(try first|exact ⟨rfl,_,World.drewN_drewN _ _ _⟩|exact ⟨rfl,_,Eq.trans (World.drewN_drewN _ _ _) (congrArg (World.drewN _) (Nat.add_assoc _ _ _))⟩)))
                    repeat (go_quiet (first|(go_at_call 23;(with_reducible refine (contangolaw43_size.calls (rd t106 x10_3) t128 _ A51.out).mono ?_);rintro e w' ⟨rfl,⟨nd,rfl⟩⟩;(try first|exact ⟨rfl,_,World.drewN_drewN _ _ _⟩|exact ⟨rfl,_,Eq.trans (World.drewN_drewN _ _ _) (congrArg (World.drewN _) (Nat.add_assoc _ _ _))⟩);have p129:0 ≤ (x10_3:Int):=of_decide_eq_true (by first|(with_reducible assumption)|assumption);have q129:x10_3 < (l1.length:Int):=of_decide_eq_true (by first|(with_reducible assumption)|assumption);obtain ⟨ad129,e129,hx129_0⟩:=Kd.at_int HR1.out x10_3 p129 q129;obtain rfl:ad114 = ad129:=(by injection e129);replace hx129_0:=(HB.out.cell (World.block_lt_of_cell? w _ hx129_0)).trans hx129_0;replace p129:=eq_true p129;replace q129:=eq_true q129)|(go_at_call 23;(with_reducible refine (contangolaw43_size.calls (rd l1 x10_3) t130 _ A53.out).mono ?_);rintro e w' ⟨rfl,⟨nd,rfl⟩⟩;(try first|exact ⟨rfl,_,World.drewN_drewN _ _ _⟩|exact ⟨rfl,_,Eq.trans (World.drewN_drewN _ _ _) (congrArg (World.drewN _) (Nat.add_assoc _ _ _))⟩)));try go_wp2_with (first|(go_at_call 23;(with_reducible refine (contangolaw43_size.calls (rd t106 x10_3) t128 _ A51.out).mono ?_);rintro e w' ⟨rfl,⟨nd,rfl⟩⟩;(try first|exact ⟨rfl,_,World.drewN_drewN _ _ _⟩|exact ⟨rfl,_,Eq.trans (World.drewN_drewN _ _ _) (congrArg (World.drewN _) (Nat.add_assoc _ _ _))⟩);have p129:0 ≤ (x10_3:Int):=of_decide_eq_true (by first|(with_reducible assumption)|assumption);have q129:x10_3 < (l1.length:Int):=of_decide_eq_true (by first|(with_reducible assumption)|assumption);obtain ⟨ad129,e129,hx129_0⟩:=Kd.at_int HR1.out x10_3 p129 q129;obtain rfl:ad114 = ad129:=(by injection e129);replace hx129_0:=(HB.out.cell (World.block_lt_of_cell? w _ hx129_0)).trans hx129_0;replace p129:=eq_true p129;replace q129:=eq_true q129)|(go_at_call 23;(with_reducible refine (contangolaw43_size.calls (rd l1 x10_3) t130 _ A53.out).mono ?_);rintro e w' ⟨rfl,⟨nd,rfl⟩⟩;(try first|exact ⟨rfl,_,World.drewN_drewN _ _ _⟩|exact ⟨rfl,_,Eq.trans (World.drewN_drewN _ _ _) (congrArg (World.drewN _) (Nat.add_assoc _ _ _))⟩))))
                    go_roundg k4
                    case measure=>have:=HJ3.out;have:=HJ12.out;have:=HK3.out;have:=HK4.out;omega
                    case rel=>exact ⟨(wrap64 (x10_3 + 1)),(by first|rfl|(simp;done)|(simp [*];done)),H',⟨by have:=HJ3.out;have:=HJ12.out;have:=HK3.out;have:=HK4.out;omega⟩,⟨by (with_reducible repeat (first|apply Kd.R_alloc|apply Kd.R_drewN|apply Kd.R_drew));exact HO_7.out⟩,⟨by (with_reducible repeat (first|apply Kd.R_alloc|apply Kd.R_drewN|apply Kd.R_drew));exact HO_8.out⟩,⟨by repeat (first|(with_reducible first|exact HB.out|apply below_alloc|apply pw_below_drewN|apply below_drew1)|exact HB.out)⟩⟩
                  ·rw [if_neg c52] at H
                   exact absurd H (by simp)
                 ·rw [if_neg c50] at H
                  exact absurd H (by simp)
                ·rw [if_neg c49] at H
                 exact absurd H (by simp)
               ·rw [if_neg c48] at H
                exact absurd H (by simp)
           ·rw [if_neg c23] at H
            exact absurd H (by simp)
          ·rw [if_neg c22] at H
           have c22b0:decide (x10_3 < (l1.length:Int)) = false:=decide_eq_false c22
           clear c22
           replace H:=Option.bind_eq_some_iff.mp H
           obtain ⟨t113,A570,H⟩:=H
           replace H:(some t113) = some r:=H
           have A57:=Aside0.mk A570
           clear A570
           obtain rfl:=Option.some.inj H
           go_wp2_with (first|(go_at_call 14;(with_reducible refine (contangolaw43_goes.calls k3  t113 _ A57.out).mono ?_);rintro e w58 ⟨rfl,hb⟩;have n0_:=Aside0.mk (Kd.R_below (by (with_reducible repeat (first|apply Kd.R_alloc|apply Kd.R_drewN|apply Kd.R_drew));exact HO_7.out) hb);have n1_:=Aside0.mk (Kd.R_below (by (with_reducible repeat (first|apply Kd.R_alloc|apply Kd.R_drewN|apply Kd.R_drew));exact HO_8.out) hb);have n2_:=Aside0.mk (below_step (by repeat (first|(with_reducible first|exact HB.out|apply below_alloc|apply pw_below_drewN|apply below_drew1)|exact HB.out)) hb);clear HO_7;clear HO_8;clear HB;have HO_7:=n0_;have HO_8:=n1_;have HB:=n2_;clear n0_ n1_ n2_;(try clear hb);(try clear hb2);(try clear hk);(try clear hi)))
           repeat (go_quiet (first|(go_at_call 14;(with_reducible refine (contangolaw43_goes.calls k3  t113 _ A57.out).mono ?_);rintro e w58 ⟨rfl,hb⟩;have n0_:=Aside0.mk (Kd.R_below (by (with_reducible repeat (first|apply Kd.R_alloc|apply Kd.R_drewN|apply Kd.R_drew));exact HO_7.out) hb);have n1_:=Aside0.mk (Kd.R_below (by (with_reducible repeat (first|apply Kd.R_alloc|apply Kd.R_drewN|apply Kd.R_drew));exact HO_8.out) hb);have n2_:=Aside0.mk (below_step (by repeat (first|(with_reducible first|exact HB.out|apply below_alloc|apply pw_below_drewN|apply below_drew1)|exact HB.out)) hb);clear HO_7;clear HO_8;clear HB;have HO_7:=n0_;have HO_8:=n1_;have HB:=n2_;clear n0_ n1_ n2_;(try clear hb);(try clear hb2);(try clear hk);(try clear hi)));try go_wp2_with (first|(go_at_call 14;(with_reducible refine (contangolaw43_goes.calls k3  t113 _ A57.out).mono ?_);rintro e w58 ⟨rfl,hb⟩;have n0_:=Aside0.mk (Kd.R_below (by (with_reducible repeat (first|apply Kd.R_alloc|apply Kd.R_drewN|apply Kd.R_drew));exact HO_7.out) hb);have n1_:=Aside0.mk (Kd.R_below (by (with_reducible repeat (first|apply Kd.R_alloc|apply Kd.R_drewN|apply Kd.R_drew));exact HO_8.out) hb);have n2_:=Aside0.mk (below_step (by repeat (first|(with_reducible first|exact HB.out|apply below_alloc|apply pw_below_drewN|apply below_drew1)|exact HB.out)) hb);clear HO_7;clear HO_8;clear HB;have HO_7:=n0_;have HO_8:=n1_;have HB:=n2_;clear n0_ n1_ n2_;(try clear hb);(try clear hb2);(try clear hk);(try clear hi))))
           go_ret
           exact ⟨by first|rfl|(simp [errW_none,errW_some] <;> rfl)|(simp [*,errW_none,errW_some] <;> rfl),by repeat (first|(with_reducible first|exact HB.out|apply below_alloc|apply pw_below_drewN|apply below_drew1)|exact HB.out)⟩
    ·rw [if_neg c12] at H
     have c12b0:(t107 == 0) = false:=beq_eq_false_iff_ne.mpr c12
     have c12b1:(t107 != 0) = true:=bne_iff_ne.mpr c12
     by_cases c59:(wrap64 ((t105.length:Int) + (t106.length:Int))) = 0
     ·rw [if_pos c59] at H
      have c59b0:((wrap64 ((t105.length:Int) + (t106.length:Int))) == 0) = true:=beq_iff_eq.mpr c59
      have c59b1:((wrap64 ((t105.length:Int) + (t106.length:Int))) != 0) = false:=bne_eq_false_iff_eq.mpr c59
      clear c59
      replace H:=Option.bind_eq_some_iff.mp H
      obtain ⟨t112,A600,H⟩:=H
      replace H:(some t112) = some r:=H
      have A60:=Aside0.mk A600
      clear A600
      obtain rfl:=Option.some.inj H
      go_wp2_with (first|(go_at_call 16;(with_reducible refine (contangolaw43_to.calls kj3 _ _ l2 t102 _ ?side1 ?side2 A10.out).mono ?_);(case side1=>repeat (first|exact (Kd.C_below HR2.out HB.out)|(with_reducible refine Kd.C_alloc ?_ _)|(with_reducible refine Kd.C_drewN ?_ _)|(with_reducible refine Kd.C_drew ?_)));(case side2=>exact HC2.out);rintro e w61 ⟨v103,rfl,ho0,hb⟩;have n0_:=Aside0.mk (Kd.R_lower ho0 (below_size (by repeat (first|(with_reducible first|exact HB.out|apply below_alloc|apply pw_below_drewN|apply below_drew1)|exact HB.out))));have n1_:=Aside0.mk (below_step (by repeat (first|(with_reducible first|exact HB.out|apply below_alloc|apply pw_below_drewN|apply below_drew1)|exact HB.out)) hb);clear HB;have HO104:=n0_;have HB:=n1_;clear n0_ n1_;(try clear hb);(try clear hb2);(try clear hk);(try clear hi);(try clear ho0);obtain ⟨Ao62,co62,eo62⟩:=Kd.R_slice HO104.out;subst eo62)|(go_at_call 15;(with_reducible refine (hedge_Plan.calls _ _ l0 _ _ l1 _ _ t102 t105 t106 t107 _ ?side1 ?side2 ?side3 ?side4 ?side5 ?side6 A11.out).mono ?_);(case side1=>repeat (first|exact (Kd.C_below HR0.out HB.out)|(with_reducible refine Kd.C_alloc ?_ _)|(with_reducible refine Kd.C_drewN ?_ _)|(with_reducible refine Kd.C_drew ?_)));(case side2=>exact HC0.out);(case side3=>repeat (first|exact (Kd.C_below HR1.out HB.out)|(with_reducible refine Kd.C_alloc ?_ _)|(with_reducible refine Kd.C_drewN ?_ _)|(with_reducible refine Kd.C_drew ?_)));(case side4=>exact HC1.out);(case side5=>repeat (first|exact (Kd.R_reads' HO104.out).2.2|(with_reducible refine Kd.C_alloc ?_ _)|(with_reducible refine Kd.C_drewN ?_ _)|(with_reducible refine Kd.C_drew ?_)));(case side6=>exact (Kd.R_reads' HO104.out).2.1);rintro e w63 ⟨v108,v110,rfl,ho0,ho1,hb⟩;have n0_:=Aside0.mk (Kd.R_below (by (with_reducible repeat (first|apply Kd.R_alloc|apply Kd.R_drewN|apply Kd.R_drew));exact HO104.out) hb);have n1_:=Aside0.mk (Kd.R_lower ho0 (below_size (by repeat (first|(with_reducible first|exact HB.out|apply below_alloc|apply pw_below_drewN|apply below_drew1)|exact HB.out))));have n2_:=Aside0.mk (Kd.R_lower ho1 (below_size (by repeat (first|(with_reducible first|exact HB.out|apply below_alloc|apply pw_below_drewN|apply below_drew1)|exact HB.out))));have n3_:=Aside0.mk (below_step (by repeat (first|(with_reducible first|exact HB.out|apply below_alloc|apply pw_below_drewN|apply below_drew1)|exact HB.out)) hb);clear HO104;clear HB;have HO104:=n0_;have HO109:=n1_;have HO111:=n2_;have HB:=n3_;clear n0_ n1_ n2_ n3_;(try clear hb);(try clear hb2);(try clear hk);(try clear hi);(try clear ho0);(try clear ho1);obtain ⟨Ao64,co64,eo64⟩:=Kd.R_slice HO109.out;subst eo64;obtain ⟨Ao65,co65,eo65⟩:=Kd.R_slice HO111.out;subst eo65)|(go_at_call 14;(with_reducible refine (contangolaw43_goes.calls kj3  t112 _ A60.out).mono ?_);rintro e w66 ⟨rfl,hb⟩;have n0_:=Aside0.mk (Kd.R_below (by (with_reducible repeat (first|apply Kd.R_alloc|apply Kd.R_drewN|apply Kd.R_drew));exact HO104.out) hb);have n1_:=Aside0.mk (Kd.R_below (by (with_reducible repeat (first|apply Kd.R_alloc|apply Kd.R_drewN|apply Kd.R_drew));exact HO109.out) hb);have n2_:=Aside0.mk (Kd.R_below (by (with_reducible repeat (first|apply Kd.R_alloc|apply Kd.R_drewN|apply Kd.R_drew));exact HO111.out) hb);have n3_:=Aside0.mk (below_step (by repeat (first|(with_reducible first|exact HB.out|apply below_alloc|apply pw_below_drewN|apply below_drew1)|exact HB.out)) hb);clear HO104;clear HO109;clear HO111;clear HB;have HO104:=n0_;have HO109:=n1_;have HO111:=n2_;have HB:=n3_;clear n0_ n1_ n2_ n3_;(try clear hb);(try clear hb2);(try clear hk);(try clear hi)))
      repeat (go_quiet (first|(go_at_call 16;(with_reducible refine (contangolaw43_to.calls kj3 _ _ l2 t102 _ ?side1 ?side2 A10.out).mono ?_);(case side1=>repeat (first|exact (Kd.C_below HR2.out HB.out)|(with_reducible refine Kd.C_alloc ?_ _)|(with_reducible refine Kd.C_drewN ?_ _)|(with_reducible refine Kd.C_drew ?_)));(case side2=>exact HC2.out);rintro e w61 ⟨v103,rfl,ho0,hb⟩;have n0_:=Aside0.mk (Kd.R_lower ho0 (below_size (by repeat (first|(with_reducible first|exact HB.out|apply below_alloc|apply pw_below_drewN|apply below_drew1)|exact HB.out))));have n1_:=Aside0.mk (below_step (by repeat (first|(with_reducible first|exact HB.out|apply below_alloc|apply pw_below_drewN|apply below_drew1)|exact HB.out)) hb);clear HB;have HO104:=n0_;have HB:=n1_;clear n0_ n1_;(try clear hb);(try clear hb2);(try clear hk);(try clear hi);(try clear ho0);obtain ⟨Ao62,co62,eo62⟩:=Kd.R_slice HO104.out;subst eo62)|(go_at_call 15;(with_reducible refine (hedge_Plan.calls _ _ l0 _ _ l1 _ _ t102 t105 t106 t107 _ ?side1 ?side2 ?side3 ?side4 ?side5 ?side6 A11.out).mono ?_);(case side1=>repeat (first|exact (Kd.C_below HR0.out HB.out)|(with_reducible refine Kd.C_alloc ?_ _)|(with_reducible refine Kd.C_drewN ?_ _)|(with_reducible refine Kd.C_drew ?_)));(case side2=>exact HC0.out);(case side3=>repeat (first|exact (Kd.C_below HR1.out HB.out)|(with_reducible refine Kd.C_alloc ?_ _)|(with_reducible refine Kd.C_drewN ?_ _)|(with_reducible refine Kd.C_drew ?_)));(case side4=>exact HC1.out);(case side5=>repeat (first|exact (Kd.R_reads' HO104.out).2.2|(with_reducible refine Kd.C_alloc ?_ _)|(with_reducible refine Kd.C_drewN ?_ _)|(with_reducible refine Kd.C_drew ?_)));(case side6=>exact (Kd.R_reads' HO104.out).2.1);rintro e w63 ⟨v108,v110,rfl,ho0,ho1,hb⟩;have n0_:=Aside0.mk (Kd.R_below (by (with_reducible repeat (first|apply Kd.R_alloc|apply Kd.R_drewN|apply Kd.R_drew));exact HO104.out) hb);have n1_:=Aside0.mk (Kd.R_lower ho0 (below_size (by repeat (first|(with_reducible first|exact HB.out|apply below_alloc|apply pw_below_drewN|apply below_drew1)|exact HB.out))));have n2_:=Aside0.mk (Kd.R_lower ho1 (below_size (by repeat (first|(with_reducible first|exact HB.out|apply below_alloc|apply pw_below_drewN|apply below_drew1)|exact HB.out))));have n3_:=Aside0.mk (below_step (by repeat (first|(with_reducible first|exact HB.out|apply below_alloc|apply pw_below_drewN|apply below_drew1)|exact HB.out)) hb);clear HO104;clear HB;have HO104:=n0_;have HO109:=n1_;have HO111:=n2_;have HB:=n3_;clear n0_ n1_ n2_ n3_;(try clear hb);(try clear hb2);(try clear hk);(try clear hi);(try clear ho0);(try clear ho1);obtain ⟨Ao64,co64,eo64⟩:=Kd.R_slice HO109.out;subst eo64;obtain ⟨Ao65,co65,eo65⟩:=Kd.R_slice HO111.out;subst eo65)|(go_at_call 14;(with_reducible refine (contangolaw43_goes.calls kj3  t112 _ A60.out).mono ?_);rintro e w66 ⟨rfl,hb⟩;have n0_:=Aside0.mk (Kd.R_below (by (with_reducible repeat (first|apply Kd.R_alloc|apply Kd.R_drewN|apply Kd.R_drew));exact HO104.out) hb);have n1_:=Aside0.mk (Kd.R_below (by (with_reducible repeat (first|apply Kd.R_alloc|apply Kd.R_drewN|apply Kd.R_drew));exact HO109.out) hb);have n2_:=Aside0.mk (Kd.R_below (by (with_reducible repeat (first|apply Kd.R_alloc|apply Kd.R_drewN|apply Kd.R_drew));exact HO111.out) hb);have n3_:=Aside0.mk (below_step (by repeat (first|(with_reducible first|exact HB.out|apply below_alloc|apply pw_below_drewN|apply below_drew1)|exact HB.out)) hb);clear HO104;clear HO109;clear HO111;clear HB;have HO104:=n0_;have HO109:=n1_;have HO111:=n2_;have HB:=n3_;clear n0_ n1_ n2_ n3_;(try clear hb);(try clear hb2);(try clear hk);(try clear hi)));try go_wp2_with (first|(go_at_call 16;(with_reducible refine (contangolaw43_to.calls kj3 _ _ l2 t102 _ ?side1 ?side2 A10.out).mono ?_);(case side1=>repeat (first|exact (Kd.C_below HR2.out HB.out)|(with_reducible refine Kd.C_alloc ?_ _)|(with_reducible refine Kd.C_drewN ?_ _)|(with_reducible refine Kd.C_drew ?_)));(case side2=>exact HC2.out);rintro e w61 ⟨v103,rfl,ho0,hb⟩;have n0_:=Aside0.mk (Kd.R_lower ho0 (below_size (by repeat (first|(with_reducible first|exact HB.out|apply below_alloc|apply pw_below_drewN|apply below_drew1)|exact HB.out))));have n1_:=Aside0.mk (below_step (by repeat (first|(with_reducible first|exact HB.out|apply below_alloc|apply pw_below_drewN|apply below_drew1)|exact HB.out)) hb);clear HB;have HO104:=n0_;have HB:=n1_;clear n0_ n1_;(try clear hb);(try clear hb2);(try clear hk);(try clear hi);(try clear ho0);obtain ⟨Ao62,co62,eo62⟩:=Kd.R_slice HO104.out;subst eo62)|(go_at_call 15;(with_reducible refine (hedge_Plan.calls _ _ l0 _ _ l1 _ _ t102 t105 t106 t107 _ ?side1 ?side2 ?side3 ?side4 ?side5 ?side6 A11.out).mono ?_);(case side1=>repeat (first|exact (Kd.C_below HR0.out HB.out)|(with_reducible refine Kd.C_alloc ?_ _)|(with_reducible refine Kd.C_drewN ?_ _)|(with_reducible refine Kd.C_drew ?_)));(case side2=>exact HC0.out);(case side3=>repeat (first|exact (Kd.C_below HR1.out HB.out)|(with_reducible refine Kd.C_alloc ?_ _)|(with_reducible refine Kd.C_drewN ?_ _)|(with_reducible refine Kd.C_drew ?_)));(case side4=>exact HC1.out);(case side5=>repeat (first|exact (Kd.R_reads' HO104.out).2.2|(with_reducible refine Kd.C_alloc ?_ _)|(with_reducible refine Kd.C_drewN ?_ _)|(with_reducible refine Kd.C_drew ?_)));(case side6=>exact (Kd.R_reads' HO104.out).2.1);rintro e w63 ⟨v108,v110,rfl,ho0,ho1,hb⟩;have n0_:=Aside0.mk (Kd.R_below (by (with_reducible repeat (first|apply Kd.R_alloc|apply Kd.R_drewN|apply Kd.R_drew));exact HO104.out) hb);have n1_:=Aside0.mk (Kd.R_lower ho0 (below_size (by repeat (first|(with_reducible first|exact HB.out|apply below_alloc|apply pw_below_drewN|apply below_drew1)|exact HB.out))));have n2_:=Aside0.mk (Kd.R_lower ho1 (below_size (by repeat (first|(with_reducible first|exact HB.out|apply below_alloc|apply pw_below_drewN|apply below_drew1)|exact HB.out))));have n3_:=Aside0.mk (below_step (by repeat (first|(with_reducible first|exact HB.out|apply below_alloc|apply pw_below_drewN|apply below_drew1)|exact HB.out)) hb);clear HO104;clear HB;have HO104:=n0_;have HO109:=n1_;have HO111:=n2_;have HB:=n3_;clear n0_ n1_ n2_ n3_;(try clear hb);(try clear hb2);(try clear hk);(try clear hi);(try clear ho0);(try clear ho1);obtain ⟨Ao64,co64,eo64⟩:=Kd.R_slice HO109.out;subst eo64;obtain ⟨Ao65,co65,eo65⟩:=Kd.R_slice HO111.out;subst eo65)|(go_at_call 14;(with_reducible refine (contangolaw43_goes.calls kj3  t112 _ A60.out).mono ?_);rintro e w66 ⟨rfl,hb⟩;have n0_:=Aside0.mk (Kd.R_below (by (with_reducible repeat (first|apply Kd.R_alloc|apply Kd.R_drewN|apply Kd.R_drew));exact HO104.out) hb);have n1_:=Aside0.mk (Kd.R_below (by (with_reducible repeat (first|apply Kd.R_alloc|apply Kd.R_drewN|apply Kd.R_drew));exact HO109.out) hb);have n2_:=Aside0.mk (Kd.R_below (by (with_reducible repeat (first|apply Kd.R_alloc|apply Kd.R_drewN|apply Kd.R_drew));exact HO111.out) hb);have n3_:=Aside0.mk (below_step (by repeat (first|(with_reducible first|exact HB.out|apply below_alloc|apply pw_below_drewN|apply below_drew1)|exact HB.out)) hb);clear HO104;clear HO109;clear HO111;clear HB;have HO104:=n0_;have HO109:=n1_;have HO111:=n2_;have HB:=n3_;clear n0_ n1_ n2_ n3_;(try clear hb);(try clear hb2);(try clear hk);(try clear hi))))
      go_ret
      exact ⟨by first|rfl|(simp [errW_none,errW_some] <;> rfl)|(simp [*,errW_none,errW_some] <;> rfl),by repeat (first|(with_reducible first|exact HB.out|apply below_alloc|apply pw_below_drewN|apply below_drew1)|exact HB.out)⟩
     ·rw [if_neg c59] at H
      exact absurd H (by simp)
end Go.Proofs.Ytbgeceiddcokmaa.X
end
section
namespace Go.Proofs.Ytbgeceiddcokmaa.P
set_option linter.unusedVariables false
set_option linter.unusedSimpArgs false
open Go.RowKit Go.Proofs.YtbgeceiddcokmaaW.PrintWords Go.Proofs.YtbgeceiddcokmaaW.PrintMore Go.Proofs.Ytbgeceiddcokmaa.X
abbrev HG:=S92
abbrev OG:=S41
abbrev SG:=S39
structure Act3 where
 q:Nat
 h:HG
 b:Int
def nextLeft (left:List Int) (x:Nat × HG):List Int:=left.set x.1 (left.getD x.1 0 + bestS (left.getD x.1 0) x.2.f1 x.2.f2 * x.2.f1)
def acts:List (Nat × HG) → List Int → List Act3
 | [],_=>[]
 | x :: t,left=>if bestS (left.getD x.1 0) x.2.f1 x.2.f2 = 0 then acts t left else ⟨x.1,x.2,bestS (left.getD x.1 0) x.2.f1 x.2.f2⟩ :: acts t (nextLeft left x)
def ordOf (a:Act3):OG:=⟨a.h.f0,a.b⟩
theorem acts_orders:∀ (l:List (Nat × HG)) (out:List OG) (left:List Int),(l.foldl planStep (out,left)).1 = out ++ (acts l left).map ordOf
 | [],out,left=>by simp [acts]
 | x :: t,out,left=>by
  rw [List.foldl_cons]
  unfold planStep acts
  by_cases c:bestS (left.getD x.1 0) x.2.f1 x.2.f2 = 0
  ·rw [if_pos c,if_pos c];exact acts_orders t out left
  ·rw [if_neg c,if_neg c]
   have:=acts_orders t (out ++ [⟨x.2.f0,bestS (left.getD x.1 0) x.2.f1 x.2.f2⟩]) (nextLeft left x)
   rw [List.map_cons]
   rw [List.append_assoc] at this
   exact this
def share (i:Nat) (a:Act3):Int:=if a.q = i then a.b * a.h.f1 else 0
def shares (i:Nat):List Act3 → Int
 | []=>0
 | a :: t=>share i a + shares i t
theorem acts_left (i:Nat):∀ (l:List (Nat × HG)) (out:List OG) (left:List Int),(∀ x ∈ l,x.1 < left.length) → (l.foldl planStep (out,left)).2.getD i 0 = left.getD i 0 + shares i (acts l left)
 | [],out,left,_=>by simp [acts,shares]
 | x :: t,out,left,h=>by
  rw [List.foldl_cons]
  unfold planStep acts
  by_cases c:bestS (left.getD x.1 0) x.2.f1 x.2.f2 = 0
  ·rw [if_pos c,if_pos c];exact acts_left i t out left (fun y hy=>h y (by simp [hy]))
  ·rw [if_neg c,if_neg c]
   have:=acts_left i t (out ++ [⟨x.2.f0,bestS (left.getD x.1 0) x.2.f1 x.2.f2⟩]) (nextLeft left x) (fun y hy=>by unfold nextLeft;rw [List.length_set];exact h y (by simp [hy]))
   refine this.trans ?_
   show _ = left.getD i 0 + (share i ⟨x.1,x.2,bestS (left.getD x.1 0) x.2.f1 x.2.f2⟩ + shares i (acts t (nextLeft left x)))
   have e:(nextLeft left x).getD i 0 = left.getD i 0 + share i ⟨x.1,x.2,bestS (left.getD x.1 0) x.2.f1 x.2.f2⟩:=by
    unfold nextLeft share
    have hx:=h x (by simp)
    by_cases e:x.1 = i
    ·subst e
     simp [List.getD,hx]
    ·simp [List.getD,List.getElem?_set,e]
   rw [e];omega
theorem acts_len (l:List (Nat × HG)) (out:List OG) (left:List Int):(l.foldl planStep (out,left)).2.length = left.length:=by
 induction l generalizing out left with
 | nil=>rfl
 | cons x t ih =>
  rw [List.foldl_cons]
  exact (ih (planStep (out,left) x).1 (planStep (out,left) x).2).trans (planStep_len (out,left) x).1
theorem acts_sub:∀ (l:List (Nat × HG)) (left:List Int),((acts l left).map (·.h)).Sublist (l.map (·.2))
 | [],_=>by simp [acts]
 | x :: t,left=>by
  unfold acts
  by_cases c:bestS (left.getD x.1 0) x.2.f1 x.2.f2 = 0
  ·rw [if_pos c,List.map_cons];exact (acts_sub t left).cons _
  ·rw [if_neg c,List.map_cons,List.map_cons];exact (acts_sub t _).cons_cons _
theorem acts_ok:∀ (l:List (Nat × HG)) (left:List Int),(∀ x ∈ l,askOk x.2.f1 x.2.f2) → ∀ a ∈ acts l left,(a.q,a.h) ∈ l ∧ a.b ≠ 0 ∧ -a.h.f2 ≤ a.b ∧ a.b ≤ a.h.f2 ∧ askOk a.h.f1 a.h.f2
 | [],_,_,a,ha=>by simp [acts] at ha
 | x :: t,left,h,a,ha=>by
  unfold acts at ha
  have hx:=h x (by simp)
  by_cases c:bestS (left.getD x.1 0) x.2.f1 x.2.f2 = 0
  ·rw [if_pos c] at ha
   obtain ⟨h1,h2⟩:=acts_ok t left (fun y hy=>h y (by simp [hy])) a ha
   exact ⟨by simp [h1],h2⟩
  ·rw [if_neg c] at ha
   rcases List.mem_cons.1 ha with rfl|ha
   ·have:=bestS_bounds (d:=left.getD x.1 0) hx
    exact ⟨by simp,c,this.1,this.2,hx⟩
   ·obtain ⟨h1,h2⟩:=acts_ok t _ (fun y hy=>h y (by simp [hy])) a ha
    exact ⟨by simp [h1],h2⟩
theorem fold_small (i:Nat):∀ (l:List (Nat × HG)) (out:List OG) (left:List Int),(∀ x ∈ l,askOk x.2.f1 x.2.f2 ∧ x.1 < left.length) → absI ((l.foldl planStep (out,left)).2.getD i 0) ≤ absI (left.getD i 0)
 | [],out,left,_=>Int.le_refl _
 | x :: t,out,left,h=>by
  rw [List.foldl_cons]
  have hx:=h x (by simp)
  unfold planStep
  by_cases c:bestS (left.getD x.1 0) x.2.f1 x.2.f2 = 0
  ·rw [if_pos c];exact fold_small i t out left (fun y hy=>h y (by simp [hy]))
  ·rw [if_neg c]
   refine Int.le_trans (fold_small i t _ _ (fun y hy=>⟨(h y (by simp [hy])).1,by rw [List.length_set];exact (h y (by simp [hy])).2⟩)) ?_
   by_cases e:x.1 = i
   ·subst e
    have e2:(left.set x.1 (left.getD x.1 0 + bestS (left.getD x.1 0) x.2.f1 x.2.f2 * x.2.f1)).getD x.1 0 = left.getD x.1 0 + bestS (left.getD x.1 0) x.2.f1 x.2.f2 * x.2.f1:=by simp [List.getD,hx.2]
    rw [e2]
    have hb:-absI (left.getD x.1 0) ≤ left.getD x.1 0 ∧ left.getD x.1 0 ≤ absI (left.getD x.1 0):=by unfold absI;split <;> omega
    have:=left_small (d:=left.getD x.1 0) hx.1 hb.1 hb.2
    exact absI_le this.1 this.2
   ·have e2:(left.set x.1 (left.getD x.1 0 + bestS (left.getD x.1 0) x.2.f1 x.2.f2 * x.2.f1)).getD i 0 = left.getD i 0:=by simp [List.getD,List.getElem?_set,e]
    rw [e2]
    exact Int.le_refl _
theorem sel_mem {names:List ByteArray} {l:List HG} {x:Nat × HG} (h:x ∈ sel names l):x.2 ∈ l ∧ findS names x.2.f0.f0 = some x.1:=by
 unfold sel at h
 obtain ⟨g,hg,hm⟩:=List.mem_filterMap.1 h
 obtain ⟨i,hi,rfl⟩:=Option.map_eq_some_iff.1 hm
 exact ⟨hg,hi⟩
theorem sel_sub (names:List ByteArray):∀ l:List HG,((sel names l).map (·.2)).Sublist l
 | []=>by simp [sel]
 | h :: t=>by
  have ih:=sel_sub names t
  unfold sel at ih ⊢
  rw [List.filterMap_cons]
  cases e:findS names h.f0.f0 with
  | none=>simpa using ih.cons h
  | some i=>simpa using ih.cons_cons h
theorem findS_iff {names:List ByteArray} (hs:AscN names) {p:ByteArray} {q i:Nat} (hq:findS names p = some q) (hi:i < names.length):p.toList = names[i].toList ↔ q = i:=by
 obtain ⟨hlt,he,_⟩:=List.findIdx?_eq_some_iff_getElem.1 hq
 have he':names[q].toList = p.toList:=by simpa using he
 constructor
 ·intro h
  rcases Nat.lt_trichotomy q i with c|c|c
  ·have:=asc_lt hs c hi
   rw [he',h,bl_self] at this;cases this
  ·exact c
  ·have:=asc_lt hs c hlt
   rw [he',h,bl_self] at this;cases this
 ·rintro rfl
  exact he'.symm
def serEq (a b:SG):Bool:=a.f0.toList == b.f0.toList && (a.f1 == b.f1 && (a.f2 == b.f2 && a.f3 == b.f3))
theorem go_once:∀ (l:List HG) (seen:List SG),hedgeGo seen l = some 0 → l.Pairwise (fun a b=>serEq a.f0 b.f0 = false) ∧ ∀ s ∈ seen,∀ h ∈ l,serEq s h.f0 = false
 | [],seen,_=>⟨List.Pairwise.nil,fun s _ h hh=>by simp at hh⟩
 | t :: r,seen,e=>by
  unfold hedgeGo at e
  by_cases h1:serOk t.f0 = true
  ·rw [if_pos h1,ask_f,Option.bind_some] at e
   by_cases h2:askE t.f1 t.f2 = 0
   ·rw [if_pos h2] at e
    by_cases h3:serHas seen t.f0 = true
    ·rw [if_pos h3] at e;exact absurd (Option.some.inj e) (by decide)
    ·rw [if_neg h3] at e
     obtain ⟨i1,i2⟩:=go_once r _ e
     refine ⟨List.Pairwise.cons (fun b hb=>i2 t.f0 (by simp) b hb) i1,fun s hs h hh=>?_⟩
     rcases List.mem_cons.1 hh with rfl|hh
     ·have:=List.any_eq_false.1 (show serHas seen h.f0 = false by simpa using h3) s hs
      simpa [serEq] using this
     ·exact i2 s (by simp [hs]) h hh
   ·rw [if_neg h2] at e;exact absurd (Option.some.inj e) h2
  ·rw [if_neg h1] at e;cases e
theorem check_once {l:List HG} (h:hedge_Check.f l = some 0):l.Pairwise (fun a b=>serEq a.f0 b.f0 = false):=by
 unfold hedge_Check.f at h
 by_cases c:(1024:Int) < (l.length:Int)
 ·rw [if_pos c] at h;exact absurd (Option.some.inj h) (by decide)
 ·rw [if_neg c] at h;exact (go_once l [] h).1
theorem go_some:∀ (l:List HG) (seen:List SG),(∀ h ∈ l,serOk h.f0 = true) → ∃ e,hedgeGo seen l = some e
 | [],seen,_=>⟨0,rfl⟩
 | t :: r,seen,h=>by
  unfold hedgeGo
  rw [if_pos (h t (by simp)),ask_f,Option.bind_some]
  by_cases h2:askE t.f1 t.f2 = 0
  ·rw [if_pos h2]
   by_cases h3:serHas seen t.f0 = true
   ·rw [if_pos h3];exact ⟨_,rfl⟩
   ·rw [if_neg h3];exact go_some r _ (fun x hx=>h x (by simp [hx]))
  ·rw [if_neg h2];exact ⟨_,rfl⟩
theorem check_some {l:List HG} (h:∀ x ∈ l,serOk x.f0 = true):∃ e,hedge_Check.f l = some e:=by
 unfold hedge_Check.f
 by_cases c:(1024:Int) < (l.length:Int)
 ·rw [if_pos c];exact ⟨_,rfl⟩
 ·rw [if_neg c];exact go_some l [] h
end Go.Proofs.Ytbgeceiddcokmaa.P
end
section
namespace Go.Proofs.Ytbgeceiddcokmaa.P
set_option linter.unusedVariables false
set_option linter.unusedSimpArgs false
open Go.RowKit Go.Proofs.YtbgeceiddcokmaaW.PrintWords Go.Proofs.YtbgeceiddcokmaaW.PrintMore Go.Proofs.Ytbgeceiddcokmaa.X
abbrev RH:=S54
def toH (h:RH):HG:=⟨h.f0,h.f1,h.f2⟩
theorem rdRH (l:List RH) (i:Nat) (h:i < l.length):rd_T54 l (i:Int) = l[i]:=by simp [rd_T54,h]
theorem toLoop (l:List RH) (hl:l.length ≤ 1100):∀ (d i:Nat),i + d = l.length → Ev (fun k=>contangolaw43_to.l0 k l ((l.take i).map toH) i) (l.map toH)
 | 0,i,hd=>by
  refine Ev_succ ?_
  simp only [contangolaw43_to.l0,if_neg (show ¬ ((i:Int) < (l.length:Int)) by omega)]
  rw [List.take_of_length_le (by omega)]
  exact Ev.now _
 | d + 1,i,hd=>by
  have hi:i < l.length:=by omega
  have ih:=toLoop l hl d (i + 1) (by omega)
  rw [List.take_succ_eq_append_getElem hi,List.map_append,List.map_cons,List.map_nil] at ih
  have hlen:((l.take i).map toH).length < 2513169434916:=by rw [List.length_map,List.length_take];omega
  refine Ev_succ ?_
  simp only [contangolaw43_to.l0,if_pos (show (i:Int) < (l.length:Int) by omega),if_pos (show 0 ≤ (i:Int) by omega),if_pos hlen,rdRH l i hi,w_succ hi (by omega)]
  exact ih
theorem to_f (l:List RH) (hl:l.length ≤ 1100):Ev (fun k=>contangolaw43_to.f k l) (l.map toH):=toLoop l hl l.length 0 (by omega)
theorem sizeL_f (n:Int) (h:-4611686018427387904 ≤ n) (h':n ≤ 4611686018427387904):contangolaw43_size.f n = some (absI n):=by
 unfold contangolaw43_size.f absI
 by_cases c:n < 0
 ·rw [if_pos c,if_pos c,w_id (by omega) (by omega)]
 ·rw [if_neg c,if_neg c]
theorem mul_small {k o:Int} (h1:-1048576 ≤ k) (h2:k ≤ 1048576) (h3:-1000 ≤ o) (h4:o ≤ 1000):-1048576000 ≤ k * o ∧ k * o ≤ 1048576000:=by
 have key:∀ a b:Int,0 ≤ a → a ≤ 1048576 → 0 ≤ b → b ≤ 1000 → 0 ≤ a * b ∧ a * b ≤ 1048576000:=fun a b h1 h2 h3 h4 =>
  ⟨Int.mul_nonneg h1 h3,Int.le_trans (Int.mul_le_mul h2 h4 h3 (by omega)) (by decide)⟩
 by_cases c1:0 ≤ k <;> by_cases c2:0 ≤ o
 ·have:=key _ _ c1 h2 c2 h4;omega
 ·have:=key k (-o) c1 h2 (by omega) (by omega);rw [Int.mul_neg] at this;omega
 ·have:=key (-k) o (by omega) (by omega) c2 h4;rw [Int.neg_mul] at this;omega
 ·have:=key (-k) (-o) (by omega) (by omega) (by omega) (by omega);rw [Int.neg_mul,Int.mul_neg,Int.neg_neg] at this;omega
theorem ser_ok {l:List RH} (h:∀ x ∈ l,ok54 x):∀ x ∈ l.map toH,serOk x.f0 = true:=by
 intro x hx
 obtain ⟨y,hy,rfl⟩:=List.mem_map.1 hx
 have:=h y hy
 simp only [ok54,ok39] at this
 obtain ⟨⟨h1,h2,h3,h4⟩,_⟩:=this
 simp only [serOk,toH,Bool.and_eq_true,decide_eq_true_eq]
 have hmx:maxLen = 9223372036854775807:=rfl
 refine ⟨?_,h2,h3,h4⟩
 exact decide_eq_true (by omega)
theorem fold_in:∀ (l:List (Nat × HG)) (out:List OG) (left:List Int),(∀ x ∈ l,askOk x.2.f1 x.2.f2 ∧ x.1 < left.length) → (∀ y ∈ left,-1099511627776 ≤ y ∧ y ≤ 1099511627776) → ∀ y ∈ (l.foldl planStep (out,left)).2,-1099511627776 ≤ y ∧ y ≤ 1099511627776
 | [],out,left,_,h=>h
 | x :: t,out,left,hx,h=>by
  rw [List.foldl_cons]
  have h1:=hx x (by simp)
  have hs:=planStep_small (out,left) x h1.1 h1.2 h
  have hl:=(planStep_len (out,left) x).1
  exact fold_in t (planStep (out,left) x).1 (planStep (out,left) x).2 (fun y hy=>⟨(hx y (by simp [hy])).1,by rw [hl];exact (hx y (by simp [hy])).2⟩) hs
end Go.Proofs.Ytbgeceiddcokmaa.P
end
section
namespace Go.Proofs.Ytbgeceiddcokmaa.P
open Go.RowKit Go.Proofs.YtbgeceiddcokmaaW.PrintWords Go.Proofs.YtbgeceiddcokmaaW.PrintMore Go.Proofs.Ytbgeceiddcokmaa.X
set_option maxRecDepth 100000 in
theorem goes43:Ev (fun k=>contangolaw43_goes.f k) true:=Ev.of (k:=40) (contangolaw43_goes.mono) (by decide +kernel)
end Go.Proofs.Ytbgeceiddcokmaa.P
end
section
namespace Go.Proofs.Ytbgeceiddcokmaa.Pure
set_option linter.unusedVariables false
set_option linter.unusedSimpArgs false
open Go.RowKit Go.Proofs.YtbgeceiddcokmaaW.PrintWords Go.Proofs.YtbgeceiddcokmaaW.PrintMore Go.Proofs.Ytbgeceiddcokmaa.X Go.Proofs.Ytbgeceiddcokmaa.P
theorem w00:wrap64 (((0:Nat):Int) + ((0:Nat):Int)) = 0:=by
  rw [w_id (by omega) (by omega)];rfl
theorem sub_cases {α:Type} {x a:α} {l r:List α} (h:(a :: r).Sublist (x :: l)):(a :: r).Sublist l ∨ (x = a ∧ r.Sublist l):=by
  cases h with
  | cons _ h=>exact .inl h
  | cons_cons _ h=>exact .inr ⟨rfl,h⟩
theorem rdO (A:List Act3) (k:Nat) (h:k < A.length):rd_T41 (A.map ordOf) (k:Int) = ordOf A[k]:=by simp [rd_T41,h]
theorem serEq_self (s:SG):serEq s s = true:=by simp [serEq]
theorem share_rng (i:Nat) (a:Act3) (h:askOk a.h.f1 a.h.f2) (h1:-a.h.f2 ≤ a.b) (h2:a.b ≤ a.h.f2):-1048576000 ≤ a.b * a.h.f1 ∧ a.b * a.h.f1 ≤ 1048576000:=by
  unfold askOk at h
  exact mul_small (by omega) (by omega) h.2.1 h.2.2.1
section
variable (names:List ByteArray) (deltas:List Int) (l:List RH) (A:List Act3) (left:List Int) (i:Nat)
variable (hA:∀ a ∈ A,findS names a.h.f0.f0 = some a.q ∧ a.b ≠ 0 ∧ -a.h.f2 ≤ a.b ∧ a.b ≤ a.h.f2 ∧ askOk a.h.f1 a.h.f2) (hAl:A.length ≤ 1024) (hl:l.length ≤ 1024) (hasc:AscN names) (hi:i < names.length) (hdl:deltas.length = names.length) (hnl:names.length ≤ 200)
variable (once:(l.map toH).Pairwise (fun a b=>serEq a.f0 b.f0 = false))
include hA hAl hl hasc hi hdl once
theorem near2 (k:Nat) (hk:k < A.length) (n:Int) (hn:-1099511627776 - 1048576000 * k ≤ n ∧ n ≤ 1099511627776 + 1048576000 * k)
    (H:∀ p,p ≤ l.length → ((A.drop (k + 1)).map (·.h)).Sublist ((l.map toH).drop p) → Ev (fun r=>contangolaw43_HedgeNearer.l1 r names deltas l (A.map ordOf) left i (n + share i A[k]) p ((k + 1:Nat):Int)) true) :
    ∀ (d p:Nat),p + d = l.length → ((A.drop k).map (·.h)).Sublist ((l.map toH).drop p) → Ev (fun r=>contangolaw43_HedgeNearer.l2 r names deltas l (A.map ordOf) left i n p k) true
  | 0,p,hp,hs=>by
    exfalso
    rw [List.drop_of_length_le (show (l.map toH).length ≤ p by rw [List.length_map];omega),drop_cons A k hk,List.map_cons] at hs
    simp at hs
  | d + 1,p,hp,hs=>by
    have hpl:p < l.length:=by omega
    have hpl':p < (l.map toH).length:=by simpa using hpl
    have ih:=near2 k hk n hn H d (p + 1) (by omega)
    have ha:=hA _ (List.getElem_mem hk)
    obtain ⟨a,hak⟩:∃ a,a = A[k]:=⟨_,rfl⟩
    have hs0:=hs
    rw [drop_cons (l.map toH) p hpl',drop_cons A k hk,List.map_cons,List.getElem_map] at hs
    rw [← hak] at hs ha H
    have hord:rd_T41 (A.map ordOf) (k:Int) = ordOf a:=by rw [rdO A k hk,hak]
    have hlen:(A.map ordOf).length = A.length:=by simp
    have hcond:∀ (x y:Bool),(x = !y) → ∀ (α β:Option Bool),(if x = true then α else β) = if y = true then β else α:=by
      intro x y h α β;subst h;cases y <;> simp
    refine Ev_succ ?_
    simp only [contangolaw43_HedgeNearer.l2,if_pos (show (p:Int) < (l.length:Int) by omega),if_pos (show 0 ≤ (p:Int) by omega),if_pos (show 0 ≤ (k:Int) by omega),hlen,if_pos (show (k:Int) < (A.length:Int) by omega),rdRH l p hpl,hord,ordOf]
    have hser:((!((l[p].f0.f0).toList == (a.h.f0.f0).toList)) || (!(l[p].f0.f1 == a.h.f0.f1) || (!(l[p].f0.f2 == a.h.f0.f2) || !(l[p].f0.f3 == a.h.f0.f3)))) = !serEq (toH l[p]).f0 a.h.f0:=by
      simp only [serEq,toH,Bool.not_and]
    rw [hser]
    by_cases c:serEq (toH l[p]).f0 a.h.f0 = true
    · rw [c]
      simp only [Bool.not_true,Bool.false_eq_true,if_false]
      have hx:toH l[p] = a.h:=by
        rcases sub_cases hs with h|h
        · exfalso
          have hm:a.h ∈ (l.map toH).drop (p + 1):=h.subset (by simp)
          have hpw:=once
          rw [← List.take_append_drop p (l.map toH),drop_cons (l.map toH) p hpl',List.pairwise_append] at hpw
          have:=(List.pairwise_cons.1 hpw.2.1).1 _ hm
          rw [List.getElem_map,c] at this
          cases this
        · exact h.1
      have hh1:l[p].f1 = a.h.f1:=by rw [← hx];rfl
      have hh2:l[p].f2 = a.h.f2:=by rw [← hx];rfl
      have hr:=share_rng i a ha.2.2.2.2 ha.2.2.1 ha.2.2.2.1
      have hao:=ha.2.2.2.2
      unfold askOk at hao
      have hnext:=H p (by omega) (by
        have:(A.drop (k + 1)).Sublist (A.drop k):=by rw [drop_cons A k hk];exact List.sublist_cons_self _ _
        exact (this.map _).trans hs0)
      refine Ev_succ ?_
      simp only [contangolaw43_HedgeNearer.j5,if_neg (show ¬ ((p:Int) = (l.length:Int)) by omega),if_pos (show 0 ≤ (k:Int) by omega),hlen,if_pos (show (k:Int) < (A.length:Int) by omega),hord,ordOf,if_neg ha.2.1,if_pos (show 0 ≤ (p:Int) by omega),if_pos (show (p:Int) < (l.length:Int) by omega),rdRH l p hpl,hh2,if_neg (show ¬ a.b > a.h.f2 by omega)]
      rw [w_id (x:=-a.h.f2) (by omega) (by omega),decide_eq_false (show ¬ a.b < -a.h.f2 by omega)]
      refine Ev_succ ?_
      simp only [contangolaw43_HedgeNearer.j6,Bool.false_eq_true,if_false,if_pos (show 0 ≤ (k:Int) by omega),hlen,if_pos (show (k:Int) < (A.length:Int) by omega),hord,ordOf,if_pos (show 0 ≤ (i:Int) by omega),if_pos (show (i:Int) < (names.length:Int) by omega),rdS names i hi,if_pos (show 0 ≤ (p:Int) by omega),if_pos (show (p:Int) < (l.length:Int) by omega),rdRH l p hpl,hh1,w_succ hk (by omega)]
      by_cases e:a.h.f0.f0.toList = names[i].toList
      · have hq:=(findS_iff hasc ha.1 hi).1 e
        simp only [if_pos e]
        rw [w_id (x:=a.b * a.h.f1) (by omega) (by omega),w_id (x:=n + a.b * a.h.f1) (by omega) (by omega)]
        have e2:share i a = a.b * a.h.f1:=by unfold share;rw [if_pos hq]
        rw [e2] at hnext
        exact hnext
      · have hq:¬ a.q = i:=fun h=>e ((findS_iff hasc ha.1 hi).2 h)
        simp only [if_neg e]
        have e2:share i a = 0:=by unfold share;rw [if_neg hq]
        rw [e2,Int.add_zero] at hnext
        exact hnext
    · have cf:serEq (toH l[p]).f0 a.h.f0 = false:=by simpa using c
      rw [cf]
      simp only [Bool.not_false,if_true,w_succ hpl (by omega)]
      refine ih ?_
      rw [drop_cons A k hk,List.map_cons,← hak]
      rcases sub_cases hs with h|h
      · exact h
      · rw [h.1,serEq_self] at cf;cases cf
theorem near1 (hend:∀ p,Ev (fun r=>contangolaw43_HedgeNearer.l1 r names deltas l (A.map ordOf) left i (left.getD i 0) p (A.length:Int)) true) :
    ∀ (d k p:Nat) (n:Int),k + d = A.length → p ≤ l.length → ((A.drop k).map (·.h)).Sublist ((l.map toH).drop p) → n + shares i (A.drop k) = left.getD i 0 → (-1099511627776 - 1048576000 * k ≤ n ∧ n ≤ 1099511627776 + 1048576000 * k) →
      Ev (fun r=>contangolaw43_HedgeNearer.l1 r names deltas l (A.map ordOf) left i n p k) true
  | 0,k,p,n,hd,hp,hs,hn,hr=>by
    have hk:k = A.length:=by omega
    subst hk
    rw [List.drop_length] at hn
    simp only [shares,Int.add_zero] at hn
    rw [hn]
    exact hend p
  | d + 1,k,p,n,hd,hp,hs,hn,hr=>by
    have hk:k < A.length:=by omega
    have ha:=hA _ (List.getElem_mem hk)
    have hsr:=share_rng i A[k] ha.2.2.2.2 ha.2.2.1 ha.2.2.2.1
    have hsh:-1048576000 ≤ share i A[k] ∧ share i A[k] ≤ 1048576000:=by
      unfold share
      split <;> omega
    have hlen:(A.map ordOf).length = A.length:=by simp
    refine Ev_succ ?_
    simp only [contangolaw43_HedgeNearer.l1,hlen,if_pos (show (k:Int) < (A.length:Int) by omega)]
    refine near2 names deltas l A left i hA hAl hl hasc hi hdl once k hk n hr (fun p' hp' hs'=>?_) (l.length - p) p (by omega) hs
    refine near1 hend d (k + 1) p' (n + share i A[k]) (by omega) hp' hs' ?_ ?_
    · rw [drop_cons A k hk] at hn
      simp only [shares] at hn
      omega
    · push_cast
      omega
end
theorem nearLoop (names:List ByteArray) (deltas:List Int) (l:List RH) (A:List Act3) (left:List Int)
    (hA:∀ a ∈ A,findS names a.h.f0.f0 = some a.q ∧ a.b ≠ 0 ∧ -a.h.f2 ≤ a.b ∧ a.b ≤ a.h.f2 ∧ askOk a.h.f1 a.h.f2) (hAl:A.length ≤ 1024) (hl:l.length ≤ 1024) (hasc:AscN names) (hdl:deltas.length = names.length) (hnl:names.length ≤ 200)
    (once:(l.map toH).Pairwise (fun a b=>serEq a.f0 b.f0 = false)) (hsub:(A.map (·.h)).Sublist (l.map toH)) (hll:left.length = deltas.length)
    (hds:∀ x ∈ deltas,-1099511627776 ≤ x ∧ x ≤ 1099511627776) (hls:∀ x ∈ left,-1099511627776 ≤ x ∧ x ≤ 1099511627776)
    (hsum:∀ i,left.getD i 0 = deltas.getD i 0 + shares i A) (hsm:∀ i,absI (left.getD i 0) ≤ absI (deltas.getD i 0)) :
    ∀ (d i:Nat),i + d = deltas.length → Ev (fun r=>contangolaw43_HedgeNearer.l0 r names deltas l (A.map ordOf) left i) true
  | 0,i,hi=>by
    refine Ev_succ ?_
    simp only [contangolaw43_HedgeNearer.l0,if_neg (show ¬ ((i:Int) < (deltas.length:Int)) by omega)]
    exact Ev_id goes43
  | d + 1,i,hi=>by
    have hlt:i < deltas.length:=by omega
    have ih:=nearLoop names deltas l A left hA hAl hl hasc hdl hnl once hsub hll hds hls hsum hsm d (i + 1) (by omega)
    have hd1:rd deltas (i:Int) = deltas.getD i 0:=by simp [rd]
    have hl1:rd left (i:Int) = left.getD i 0:=by simp [rd]
    have hdr:=hds (deltas.getD i 0) (by rw [List.getD,List.getElem?_eq_getElem hlt];exact List.getElem_mem hlt)
    have hlr:=hls (left.getD i 0) (by rw [List.getD,List.getElem?_eq_getElem (show i < left.length by omega)];exact List.getElem_mem _)
    have hlen:(A.map ordOf).length = A.length:=by simp
    refine Ev_succ ?_
    simp only [contangolaw43_HedgeNearer.l0,if_pos (show (i:Int) < (deltas.length:Int) by omega),if_pos (show 0 ≤ (i:Int) by omega),hd1]
    refine near1 names deltas l A left i hA hAl hl hasc (by omega) hdl once (fun p=>?_) A.length 0 0 _ (by omega) (by omega) (by simpa using hsub) (by rw [List.drop_zero];exact (hsum i).symm) (by omega)
    refine Ev_succ ?_
    have hs:=hsm i
    simp only [contangolaw43_HedgeNearer.l1,hlen,if_neg (show ¬ ((A.length:Int) < (A.length:Int)) by omega),if_pos (show 0 ≤ (i:Int) by omega),if_pos (show (i:Int) < (left.length:Int) by omega),hl1,hd1,if_true,if_pos (show (i:Int) < (deltas.length:Int) by omega),sizeL_f (left.getD i 0) (by omega) (by omega),sizeL_f (deltas.getD i 0) (by omega) (by omega),Option.bind_some,if_neg (show ¬ absI (left.getD i 0) > absI (deltas.getD i 0) by omega),w_succ hlt (by omega)]
    exact ih
theorem HedgeNearer:∀ (l0:List (ByteArray)) (l1:List (Int)) (l2:List (S54)),(l0.length ≤ maxLen ∧ l0.length * 16 ≤ 140737488351232 ∧ ∀ x ∈ l0,x.size ≤ 140737488351232) → (l1.length ≤ maxLen ∧ l1.length * 8 ≤ 140737488351232 ∧ ∀ x ∈ l1,(Lit.int .i64 x).wf = true) → (l2.length ≤ maxLen ∧ l2.length * 56 ≤ 140737488351232 ∧ ∀ x ∈ l2,ok54 x) → ∃ k,X.contangolaw43_HedgeNearer.f k l0 l1 l2 = some true:=by
  intro names deltas l hn hd hl
  apply Ev.rounds
  have hgo:Ev (fun k=>contangolaw43_HedgeNearer.j0 k names deltas l true) true:=by
    refine Ev_succ ?_
    simp only [contangolaw43_HedgeNearer.j0,if_true]
    exact Ev_id goes43
  unfold contangolaw43_HedgeNearer.f
  by_cases c1:(names.length:Int) > 200
  · simp only [if_pos c1];exact hgo
  · simp only [if_neg c1]
    by_cases c2:(deltas.length:Int) > 200
    · simp only [if_pos c2];exact hgo
    · simp only [if_neg c2]
      by_cases c3:(l.length:Int) > 1100
      · rw [decide_eq_true c3];exact hgo
      · rw [decide_eq_false c3]
        refine Ev_succ ?_
        simp only [contangolaw43_HedgeNearer.j0,Bool.false_eq_true,if_false]
        refine Ev_bind (to_f l (by omega)) ?_
        obtain ⟨e,he⟩:=check_some (l:=l.map toH) (ser_ok hl.2.2)
        have hplan:hedge_Plan.f names deltas (l.map toH) = some (if e = 0 then (if deltas.length = names.length then (if planBad names deltas = true then ([],[],2) else (((sel names (l.map toH)).foldl planStep ([],deltas)).1,((sel names (l.map toH)).foldl planStep ([],deltas)).2,0)) else ([],[],2)) else ([],[],e)):=by
          unfold hedge_Plan.f
          rw [if_pos ⟨by omega,by omega⟩,he,Option.bind_some]
          split
          · split
            · split <;> rfl
            · rfl
          · rfl
        rw [hplan]
        simp only [Option.bind_some]
        by_cases e0:e = 0
        · subst e0
          simp only [if_true]
          by_cases hlen:deltas.length = names.length
          · simp only [if_pos hlen]
            by_cases hbad:planBad names deltas = true
            · simp only [if_pos hbad,show ¬ ((2:Int) = 0) by decide,if_false,List.length_nil,w00,if_true]
              exact Ev_id goes43
            · have hbf:planBad names deltas = false:=by simpa using hbad
              have hasc:=bad_asc hbf
              have hds:=bad_small hbf hlen
              obtain ⟨hl2,hask⟩:=check_asks he
              rw [List.length_map] at hl2
              have hsel:∀ x ∈ sel names (l.map toH),askOk x.2.f1 x.2.f2 ∧ x.1 < deltas.length:=fun x hx=>by
                obtain ⟨h1,h2⟩:=sel_mem hx
                exact ⟨hask _ h1,by have:=findS_lt h2;omega⟩
              obtain ⟨A,hA⟩:∃ A,A = acts (sel names (l.map toH)) deltas:=⟨_,rfl⟩
              have hOR:((sel names (l.map toH)).foldl planStep ([],deltas)).1 = A.map ordOf:=by rw [acts_orders,List.nil_append,hA]
              obtain ⟨left,hleft⟩:∃ left,left = ((sel names (l.map toH)).foldl planStep ([],deltas)).2:=⟨_,rfl⟩
              have hll:left.length = deltas.length:=by rw [hleft];exact acts_len _ _ _
              have hsub:(A.map (·.h)).Sublist (l.map toH):=by rw [hA];exact (acts_sub _ _).trans (sel_sub _ _)
              have hAlen:A.length ≤ l.length:=by have:=hsub.length_le;simpa using this
              simp only [if_neg hbad,if_true,hOR,← hleft]
              simp only [if_pos (show (left.length:Int) = (deltas.length:Int) by omega)]
              rw [decide_eq_false (show ¬ (((A.map ordOf).length:Int) > (l.length:Int)) by rw [List.length_map];omega)]
              refine Ev_succ ?_
              simp only [contangolaw43_HedgeNearer.j1,Bool.false_eq_true,if_false]
              refine nearLoop names deltas l A left ?_ (by omega) hl2 hasc hlen (by omega) (check_once he) hsub hll hds ?_ ?_ ?_ deltas.length 0 (by omega)
              · intro a ha
                rw [hA] at ha
                obtain ⟨h1,h2,h3,h4,h5⟩:=acts_ok _ _ (fun x hx=>(hsel x hx).1) a ha
                exact ⟨(sel_mem h1).2,h2,h3,h4,h5⟩
              · rw [hleft]
                exact fold_in _ _ _ hsel hds
              · intro i
                rw [hleft,hA]
                exact acts_left i _ _ _ (fun x hx=>(hsel x hx).2)
              · intro i
                rw [hleft]
                exact fold_small i _ _ _ hsel
          · simp only [if_neg hlen,show ¬ ((2:Int) = 0) by decide,if_false,List.length_nil,w00,if_true]
            exact Ev_id goes43
        · simp only [if_neg e0,List.length_nil,w00,if_true]
          exact Ev_id goes43
end Go.Proofs.Ytbgeceiddcokmaa.Pure
end
