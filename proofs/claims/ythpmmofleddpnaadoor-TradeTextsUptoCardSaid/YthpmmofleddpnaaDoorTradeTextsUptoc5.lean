/- For TradeTexts: contracts, and facts on lists and numbers, that it uses (part 5). -/
import Derived.Test.YthpmmofleddpnaaDoorTradeTextsUptoc4
section
namespace Go.Proofs.YthpmmofleddpnaaDoor.X
open Go.RowKit Go.Proofs.YthpmmofleddpnaaDoorW.PrintWords Go.Proofs.YthpmmofleddpnaaDoorW.PrintLast Go.Proofs.YthpmmofleddpnaaDoorW.PrintMore
attribute [local go_sem] max2_int min2_int max_two min_two max_three min_three max_four min_four
set_option linter.unusedVariables false
set_option linter.unusedSimpArgs false
def nmAt (k:Nat) (l:List ByteArray):Nat→Nat→Option Bool
 | 0,_=>some true
 | d+1,i=>(contangoref03_Name.f k (rfS l i)).bind fun b=>if b=true then nmAt k l d (i+1) else some false
def rr5 (k:Nat) (l:List ByteArray) (t:S27):Option (S27 × Int):=(contangoref03_Int.f k (rfS l 5)).bind fun q=>if q.2=0 then pr6 k l { t with f5:=q.1 } else some (z27,q.2)
def rr4 (k:Nat) (l:List ByteArray) (t:S27):Option (S27 × Int):=(contangoref03_Int.f k (rfS l 4)).bind fun q=>if q.2=0 then rr5 k l { t with f4:=q.1 } else some (z27,q.2)
def rr3 (k:Nat) (l:List ByteArray) (t:S27):Option (S27 × Int):=(contangoref10_Parse.f k (rfS l 3)).bind fun q=>if q.2.2.2.2=0 then rr4 k l { t with f3:=⟨q.1,q.2.1,q.2.2.1,q.2.2.2.1⟩ } else some (z27,q.2.2.2.2)
def rr2 (k:Nat) (l:List ByteArray) (t:S27):Option (S27 × Int):=(contangoref03_Int.f k (rfS l 2)).bind fun q=>if q.2=0 then rr3 k l { t with f2:=q.1 } else some (z27,q.2)
def rr1 (k:Nat) (l:List ByteArray) (t:S27):Option (S27 × Int):=(contangoref03_Int.f k (rfS l 1)).bind fun q=>if q.2=0 then rr2 k l { t with f1:=q.1 } else some (z27,q.2)
def rr0 (k:Nat) (l:List ByteArray) (t:S27):Option (S27 × Int):=(contangoref03_Int.f k (rfS l 0)).bind fun q=>if q.2=0 then rr1 k l { t with f0:=q.1 } else some (z27,q.2)
def rrAt:Nat→Nat→List ByteArray→S27→Option (S27 × Int)
 | 0=>rr0
 | 1=>rr1
 | 2=>rr2
 | 3=>rr3
 | 4=>rr4
 | 5=>rr5
 | _=>pr6
def rrsT (k:Nat) (s:ByteArray):Option (S27 × Int) :=
 (contangoref03_Fields.f k s).bind fun q=>if q.2=0 then (if q.1.length=10 then (nmAt k q.1 4 6).bind fun b=>if b=true then rr0 k q.1 (t0T q.1) else some (z27,5) else some (z27,5)) else some (z27,q.2)
def contangoref12_Parse.f (k:Nat) (a0:ByteArray):Option (Int × Int × Int × ByteArray × Int × Int × Int × Int × Int × ByteArray × ByteArray × ByteArray × ByteArray × Int):=(rrsT k a0).bind fun p=>some (p.1.f0,p.1.f1,p.1.f2,p.1.f3.f0,p.1.f3.f1,p.1.f3.f2,p.1.f3.f3,p.1.f4,p.1.f5,p.1.f6.f0,p.1.f6.f1,p.1.f7.f0,p.1.f7.f1,p.2)
def rtp.T22:Bool × List (List Nat × List Nat):=(true,[([],[]),([0],[0]),([],[]),([2],[2]),([],[]),([4],[4]),([],[]),([],[]),([7],[7]),([],[]),([9],[9]),([],[]),([11],[11]),([12],[12]),([],[]),([14],[14]),([15],[15]),([13,16],[13,16]),([],[]),([18],[18]),([19],[19]),([],[]),([21],[21]),([22],[22]),([20,23],[20,23]),([1,3,5,6,8,10,17,24],[1,3,5,6,8,10,17,24]),([25,0,1,2,3,4,5,6,7,8,9,10,11,12,13,14,15,16,17,18,19,20,21,22,23,24,25],[25]),([26,0,1,2,3,4,5,6,7,8,9,10,11,12,13,14,15,16,17,18,19,20,21,22,23,24,25,26],[])])
def rtp.B22:List Nat:=[0,1,0,4,0,16,0,0,128,0,512,0,2048,6144,0,16384,49152,129024,0,262144,786432,0,2097152,6291456,16515072,33554431,67108863,134217727]
theorem rtp.tab22:rtab .any (opsOf Tryd.f8 22)=rtp.T22:=by kernel_rfl
theorem rtp.bits22:waitsOk rtp.T22.2 rtp.B22=true:=by kernel_rfl
set_option maxHeartbeats 6400000 in
set_option maxRecDepth 100000 in
theorem rparse_core (k:Nat) (a0:ByteArray) (p:S27 × Int) (w:World) (h:rrsT k a0=some p) :
  Calls Tryd.prog 8 #[.string a0] w fun e w'=>e=.returned (.tuple #[.agg #[.int .i64 p.1.f0,.int .i64 p.1.f1,.int .i64 p.1.f2,.string p.1.f3.f0,.int .i64 p.1.f3.f1,.int .i64 p.1.f3.f2,.int .i64 p.1.f3.f3,.int .i64 p.1.f4,.int .i64 p.1.f5,.string p.1.f6.f0,.string p.1.f6.f1,.string p.1.f7.f0,.string p.1.f7.f1],.int .i64 p.2])∧Below w.heap.size w w':=by
 unfold rrsT at h
 obtain ⟨⟨l,e1⟩,hF,h⟩:=Option.bind_eq_some_iff.1 h
 dsimp only at h
 have HF:=Aside0.mk hF
 have HBA:=Aside0.mk (below_alloc (Below.refl w.heap.size w) (.cells #[.int .i64 0,.int .i64 0,.int .i64 0,.string (⟨#[]⟩:ByteArray),.int .i64 0,.int .i64 0,.int .i64 0,.int .i64 0,.int .i64 0,.string (⟨#[]⟩:ByteArray),.string (⟨#[]⟩:ByteArray),.string (⟨#[]⟩:ByteArray),.string (⟨#[]⟩:ByteArray)] 27))
 have HZ:=Aside0.mk (show (w.alloc (.cells #[.int .i64 0,.int .i64 0,.int .i64 0,.string (⟨#[]⟩:ByteArray),.int .i64 0,.int .i64 0,.int .i64 0,.int .i64 0,.int .i64 0,.string (⟨#[]⟩:ByteArray),.string (⟨#[]⟩:ByteArray),.string (⟨#[]⟩:ByteArray),.string (⟨#[]⟩:ByteArray)] 27)).heap[w.heap.size]? = some (.cells #[.int .i64 0,.int .i64 0,.int .i64 0,.string (⟨#[]⟩:ByteArray),.int .i64 0,.int .i64 0,.int .i64 0,.int .i64 0,.int .i64 0,.string (⟨#[]⟩:ByteArray),.string (⟨#[]⟩:ByteArray),.string (⟨#[]⟩:ByteArray),.string (⟨#[]⟩:ByteArray)] 27 (0,0)) from blk_new _ _)
 clear hF
 by_cases c1:e1=0
 case neg =>
  rw [if_neg c1] at h
  obtain rfl:=Option.some.inj h
  have hne:(e1 != 0)=true:=bne_iff_ne.2 c1
  clear c1 h
  go_enter Tryd.func8,Tryd.ntmps8
  go_wp2_with (go_at_call 30;refine (contangoref03_Fields.calls k a0 l _ _ HF.out).mono ?_;rintro e w1 ⟨v0,rfl,ho,hb⟩;have HB1:=Aside0.mk (below_step HBA.out hb);have hZ1:=blk_below HZ.out hb;obtain ⟨A1,cc1,rfl⟩:=Kd.R_slice ho;have hfc0:w1.cell? ⟨w.heap.size,0,none⟩=some (.int .i64 0):=blk_cell hZ1 0;have hf0:w1.frozen? ⟨w.heap.size,0,none⟩=false:=blk_frozen hZ1 0;have hfc1:w1.cell? ⟨w.heap.size,1,none⟩=some (.int .i64 0):=blk_cell hZ1 1;have hf1:w1.frozen? ⟨w.heap.size,1,none⟩=false:=blk_frozen hZ1 1;have hfc2:w1.cell? ⟨w.heap.size,2,none⟩=some (.int .i64 0):=blk_cell hZ1 2;have hf2:w1.frozen? ⟨w.heap.size,2,none⟩=false:=blk_frozen hZ1 2;have hfc3:w1.cell? ⟨w.heap.size,3,none⟩=some (.string (⟨#[]⟩:ByteArray)):=blk_cell hZ1 3;have hf3:w1.frozen? ⟨w.heap.size,3,none⟩=false:=blk_frozen hZ1 3;have hfc4:w1.cell? ⟨w.heap.size,4,none⟩=some (.int .i64 0):=blk_cell hZ1 4;have hf4:w1.frozen? ⟨w.heap.size,4,none⟩=false:=blk_frozen hZ1 4;have hfc5:w1.cell? ⟨w.heap.size,5,none⟩=some (.int .i64 0):=blk_cell hZ1 5;have hf5:w1.frozen? ⟨w.heap.size,5,none⟩=false:=blk_frozen hZ1 5;have hfc6:w1.cell? ⟨w.heap.size,6,none⟩=some (.int .i64 0):=blk_cell hZ1 6;have hf6:w1.frozen? ⟨w.heap.size,6,none⟩=false:=blk_frozen hZ1 6;have hfc7:w1.cell? ⟨w.heap.size,7,none⟩=some (.int .i64 0):=blk_cell hZ1 7;have hf7:w1.frozen? ⟨w.heap.size,7,none⟩=false:=blk_frozen hZ1 7;have hfc8:w1.cell? ⟨w.heap.size,8,none⟩=some (.int .i64 0):=blk_cell hZ1 8;have hf8:w1.frozen? ⟨w.heap.size,8,none⟩=false:=blk_frozen hZ1 8;have hfc9:w1.cell? ⟨w.heap.size,9,none⟩=some (.string (⟨#[]⟩:ByteArray)):=blk_cell hZ1 9;have hf9:w1.frozen? ⟨w.heap.size,9,none⟩=false:=blk_frozen hZ1 9;have hfc10:w1.cell? ⟨w.heap.size,10,none⟩=some (.string (⟨#[]⟩:ByteArray)):=blk_cell hZ1 10;have hf10:w1.frozen? ⟨w.heap.size,10,none⟩=false:=blk_frozen hZ1 10;have hfc11:w1.cell? ⟨w.heap.size,11,none⟩=some (.string (⟨#[]⟩:ByteArray)):=blk_cell hZ1 11;have hf11:w1.frozen? ⟨w.heap.size,11,none⟩=false:=blk_frozen hZ1 11;have hfc12:w1.cell? ⟨w.heap.size,12,none⟩=some (.string (⟨#[]⟩:ByteArray)):=blk_cell hZ1 12;have hf12:w1.frozen? ⟨w.heap.size,12,none⟩=false:=blk_frozen hZ1 12;have HZ1:=Aside0.mk hZ1;clear hb ho hZ1)
  refine bodyPost_ret (results_ct rfl _ _ w.heap.size 27 #[.int .i64 0,.int .i64 0,.int .i64 0,.string (⟨#[]⟩:ByteArray),.int .i64 0,.int .i64 0,.int .i64 0,.int .i64 0,.int .i64 0,.string (⟨#[]⟩:ByteArray),.string (⟨#[]⟩:ByteArray),.string (⟨#[]⟩:ByteArray),.string (⟨#[]⟩:ByteArray)] (0,0) _ rfl (blk_put (cs:=#[.int .i64 0,.int .i64 0,.int .i64 0,.string (⟨#[]⟩:ByteArray),.int .i64 0,.int .i64 0,.int .i64 0,.int .i64 0,.int .i64 0,.string (⟨#[]⟩:ByteArray),.string (⟨#[]⟩:ByteArray),.string (⟨#[]⟩:ByteArray),.string (⟨#[]⟩:ByteArray)]) (blk_put (cs:=#[.int .i64 0,.int .i64 0,.int .i64 0,.string (⟨#[]⟩:ByteArray),.int .i64 0,.int .i64 0,.int .i64 0,.int .i64 0,.int .i64 0,.string (⟨#[]⟩:ByteArray),.string (⟨#[]⟩:ByteArray),.string (⟨#[]⟩:ByteArray),.string (⟨#[]⟩:ByteArray)]) (blk_put (cs:=#[.int .i64 0,.int .i64 0,.int .i64 0,.string (⟨#[]⟩:ByteArray),.int .i64 0,.int .i64 0,.int .i64 0,.int .i64 0,.int .i64 0,.string (⟨#[]⟩:ByteArray),.string (⟨#[]⟩:ByteArray),.string (⟨#[]⟩:ByteArray),.string (⟨#[]⟩:ByteArray)]) (blk_put (cs:=#[.int .i64 0,.int .i64 0,.int .i64 0,.string (⟨#[]⟩:ByteArray),.int .i64 0,.int .i64 0,.int .i64 0,.int .i64 0,.int .i64 0,.string (⟨#[]⟩:ByteArray),.string (⟨#[]⟩:ByteArray),.string (⟨#[]⟩:ByteArray),.string (⟨#[]⟩:ByteArray)]) (blk_put (cs:=#[.int .i64 0,.int .i64 0,.int .i64 0,.string (⟨#[]⟩:ByteArray),.int .i64 0,.int .i64 0,.int .i64 0,.int .i64 0,.int .i64 0,.string (⟨#[]⟩:ByteArray),.string (⟨#[]⟩:ByteArray),.string (⟨#[]⟩:ByteArray),.string (⟨#[]⟩:ByteArray)]) (blk_put (cs:=#[.int .i64 0,.int .i64 0,.int .i64 0,.string (⟨#[]⟩:ByteArray),.int .i64 0,.int .i64 0,.int .i64 0,.int .i64 0,.int .i64 0,.string (⟨#[]⟩:ByteArray),.string (⟨#[]⟩:ByteArray),.string (⟨#[]⟩:ByteArray),.string (⟨#[]⟩:ByteArray)]) (blk_put (cs:=#[.int .i64 0,.int .i64 0,.int .i64 0,.string (⟨#[]⟩:ByteArray),.int .i64 0,.int .i64 0,.int .i64 0,.int .i64 0,.int .i64 0,.string (⟨#[]⟩:ByteArray),.string (⟨#[]⟩:ByteArray),.string (⟨#[]⟩:ByteArray),.string (⟨#[]⟩:ByteArray)]) (blk_put (cs:=#[.int .i64 0,.int .i64 0,.int .i64 0,.string (⟨#[]⟩:ByteArray),.int .i64 0,.int .i64 0,.int .i64 0,.int .i64 0,.int .i64 0,.string (⟨#[]⟩:ByteArray),.string (⟨#[]⟩:ByteArray),.string (⟨#[]⟩:ByteArray),.string (⟨#[]⟩:ByteArray)]) (blk_put (cs:=#[.int .i64 0,.int .i64 0,.int .i64 0,.string (⟨#[]⟩:ByteArray),.int .i64 0,.int .i64 0,.int .i64 0,.int .i64 0,.int .i64 0,.string (⟨#[]⟩:ByteArray),.string (⟨#[]⟩:ByteArray),.string (⟨#[]⟩:ByteArray),.string (⟨#[]⟩:ByteArray)]) (blk_put (cs:=#[.int .i64 0,.int .i64 0,.int .i64 0,.string (⟨#[]⟩:ByteArray),.int .i64 0,.int .i64 0,.int .i64 0,.int .i64 0,.int .i64 0,.string (⟨#[]⟩:ByteArray),.string (⟨#[]⟩:ByteArray),.string (⟨#[]⟩:ByteArray),.string (⟨#[]⟩:ByteArray)]) (blk_put (cs:=#[.int .i64 0,.int .i64 0,.int .i64 0,.string (⟨#[]⟩:ByteArray),.int .i64 0,.int .i64 0,.int .i64 0,.int .i64 0,.int .i64 0,.string (⟨#[]⟩:ByteArray),.string (⟨#[]⟩:ByteArray),.string (⟨#[]⟩:ByteArray),.string (⟨#[]⟩:ByteArray)]) (blk_put (cs:=#[.int .i64 0,.int .i64 0,.int .i64 0,.string (⟨#[]⟩:ByteArray),.int .i64 0,.int .i64 0,.int .i64 0,.int .i64 0,.int .i64 0,.string (⟨#[]⟩:ByteArray),.string (⟨#[]⟩:ByteArray),.string (⟨#[]⟩:ByteArray),.string (⟨#[]⟩:ByteArray)]) (blk_put (cs:=#[.int .i64 0,.int .i64 0,.int .i64 0,.string (⟨#[]⟩:ByteArray),.int .i64 0,.int .i64 0,.int .i64 0,.int .i64 0,.int .i64 0,.string (⟨#[]⟩:ByteArray),.string (⟨#[]⟩:ByteArray),.string (⟨#[]⟩:ByteArray),.string (⟨#[]⟩:ByteArray)]) (HZ1.out) 0 _ rfl) 1 _ rfl) 2 _ rfl) 3 _ rfl) 4 _ rfl) 5 _ rfl) 6 _ rfl) 7 _ rfl) 8 _ rfl) 9 _ rfl) 10 _ rfl) 11 _ rfl) 12 _ rfl) Tryd.underlying27 rfl (by kernel_rfl)) rfl ⟨rfl,?_⟩
  exact (Below.setCell (Below.setCell (Below.setCell (Below.setCell (Below.setCell (Below.setCell (Below.setCell (Below.setCell (Below.setCell (Below.setCell (Below.setCell (Below.setCell (Below.setCell HB1.out (p:=⟨w.heap.size,0,none⟩) (by first|exact Nat.le_refl _|exact Nat.le_succ _) _) (p:=⟨w.heap.size,1,none⟩) (by first|exact Nat.le_refl _|exact Nat.le_succ _) _) (p:=⟨w.heap.size,2,none⟩) (by first|exact Nat.le_refl _|exact Nat.le_succ _) _) (p:=⟨w.heap.size,3,none⟩) (by first|exact Nat.le_refl _|exact Nat.le_succ _) _) (p:=⟨w.heap.size,4,none⟩) (by first|exact Nat.le_refl _|exact Nat.le_succ _) _) (p:=⟨w.heap.size,5,none⟩) (by first|exact Nat.le_refl _|exact Nat.le_succ _) _) (p:=⟨w.heap.size,6,none⟩) (by first|exact Nat.le_refl _|exact Nat.le_succ _) _) (p:=⟨w.heap.size,7,none⟩) (by first|exact Nat.le_refl _|exact Nat.le_succ _) _) (p:=⟨w.heap.size,8,none⟩) (by first|exact Nat.le_refl _|exact Nat.le_succ _) _) (p:=⟨w.heap.size,9,none⟩) (by first|exact Nat.le_refl _|exact Nat.le_succ _) _) (p:=⟨w.heap.size,10,none⟩) (by first|exact Nat.le_refl _|exact Nat.le_succ _) _) (p:=⟨w.heap.size,11,none⟩) (by first|exact Nat.le_refl _|exact Nat.le_succ _) _) (p:=⟨w.heap.size,12,none⟩) (by first|exact Nat.le_refl _|exact Nat.le_succ _) _)
 subst c1
 rw [if_pos rfl] at h
 by_cases c2:l.length=10
 case neg =>
  rw [if_neg c2] at h
  obtain rfl:=Option.some.inj h
  have hne:((l.length:Int) != 10)=true:=bne_iff_ne.2 (by omega)
  clear c2 h
  go_enter Tryd.func8,Tryd.ntmps8
  go_wp2_with (go_at_call 30;refine (contangoref03_Fields.calls k a0 l _ _ HF.out).mono ?_;rintro e w1 ⟨v0,rfl,ho,hb⟩;have HB1:=Aside0.mk (below_step HBA.out hb);have hZ1:=blk_below HZ.out hb;obtain ⟨A1,cc1,rfl⟩:=Kd.R_slice ho;have hfc0:w1.cell? ⟨w.heap.size,0,none⟩=some (.int .i64 0):=blk_cell hZ1 0;have hf0:w1.frozen? ⟨w.heap.size,0,none⟩=false:=blk_frozen hZ1 0;have hfc1:w1.cell? ⟨w.heap.size,1,none⟩=some (.int .i64 0):=blk_cell hZ1 1;have hf1:w1.frozen? ⟨w.heap.size,1,none⟩=false:=blk_frozen hZ1 1;have hfc2:w1.cell? ⟨w.heap.size,2,none⟩=some (.int .i64 0):=blk_cell hZ1 2;have hf2:w1.frozen? ⟨w.heap.size,2,none⟩=false:=blk_frozen hZ1 2;have hfc3:w1.cell? ⟨w.heap.size,3,none⟩=some (.string (⟨#[]⟩:ByteArray)):=blk_cell hZ1 3;have hf3:w1.frozen? ⟨w.heap.size,3,none⟩=false:=blk_frozen hZ1 3;have hfc4:w1.cell? ⟨w.heap.size,4,none⟩=some (.int .i64 0):=blk_cell hZ1 4;have hf4:w1.frozen? ⟨w.heap.size,4,none⟩=false:=blk_frozen hZ1 4;have hfc5:w1.cell? ⟨w.heap.size,5,none⟩=some (.int .i64 0):=blk_cell hZ1 5;have hf5:w1.frozen? ⟨w.heap.size,5,none⟩=false:=blk_frozen hZ1 5;have hfc6:w1.cell? ⟨w.heap.size,6,none⟩=some (.int .i64 0):=blk_cell hZ1 6;have hf6:w1.frozen? ⟨w.heap.size,6,none⟩=false:=blk_frozen hZ1 6;have hfc7:w1.cell? ⟨w.heap.size,7,none⟩=some (.int .i64 0):=blk_cell hZ1 7;have hf7:w1.frozen? ⟨w.heap.size,7,none⟩=false:=blk_frozen hZ1 7;have hfc8:w1.cell? ⟨w.heap.size,8,none⟩=some (.int .i64 0):=blk_cell hZ1 8;have hf8:w1.frozen? ⟨w.heap.size,8,none⟩=false:=blk_frozen hZ1 8;have hfc9:w1.cell? ⟨w.heap.size,9,none⟩=some (.string (⟨#[]⟩:ByteArray)):=blk_cell hZ1 9;have hf9:w1.frozen? ⟨w.heap.size,9,none⟩=false:=blk_frozen hZ1 9;have hfc10:w1.cell? ⟨w.heap.size,10,none⟩=some (.string (⟨#[]⟩:ByteArray)):=blk_cell hZ1 10;have hf10:w1.frozen? ⟨w.heap.size,10,none⟩=false:=blk_frozen hZ1 10;have hfc11:w1.cell? ⟨w.heap.size,11,none⟩=some (.string (⟨#[]⟩:ByteArray)):=blk_cell hZ1 11;have hf11:w1.frozen? ⟨w.heap.size,11,none⟩=false:=blk_frozen hZ1 11;have hfc12:w1.cell? ⟨w.heap.size,12,none⟩=some (.string (⟨#[]⟩:ByteArray)):=blk_cell hZ1 12;have hf12:w1.frozen? ⟨w.heap.size,12,none⟩=false:=blk_frozen hZ1 12;have HZ1:=Aside0.mk hZ1;clear hb ho hZ1)
  refine bodyPost_ret (results_ct rfl _ _ w.heap.size 27 #[.int .i64 0,.int .i64 0,.int .i64 0,.string (⟨#[]⟩:ByteArray),.int .i64 0,.int .i64 0,.int .i64 0,.int .i64 0,.int .i64 0,.string (⟨#[]⟩:ByteArray),.string (⟨#[]⟩:ByteArray),.string (⟨#[]⟩:ByteArray),.string (⟨#[]⟩:ByteArray)] (0,0) _ rfl (blk_put (cs:=#[.int .i64 0,.int .i64 0,.int .i64 0,.string (⟨#[]⟩:ByteArray),.int .i64 0,.int .i64 0,.int .i64 0,.int .i64 0,.int .i64 0,.string (⟨#[]⟩:ByteArray),.string (⟨#[]⟩:ByteArray),.string (⟨#[]⟩:ByteArray),.string (⟨#[]⟩:ByteArray)]) (blk_put (cs:=#[.int .i64 0,.int .i64 0,.int .i64 0,.string (⟨#[]⟩:ByteArray),.int .i64 0,.int .i64 0,.int .i64 0,.int .i64 0,.int .i64 0,.string (⟨#[]⟩:ByteArray),.string (⟨#[]⟩:ByteArray),.string (⟨#[]⟩:ByteArray),.string (⟨#[]⟩:ByteArray)]) (blk_put (cs:=#[.int .i64 0,.int .i64 0,.int .i64 0,.string (⟨#[]⟩:ByteArray),.int .i64 0,.int .i64 0,.int .i64 0,.int .i64 0,.int .i64 0,.string (⟨#[]⟩:ByteArray),.string (⟨#[]⟩:ByteArray),.string (⟨#[]⟩:ByteArray),.string (⟨#[]⟩:ByteArray)]) (blk_put (cs:=#[.int .i64 0,.int .i64 0,.int .i64 0,.string (⟨#[]⟩:ByteArray),.int .i64 0,.int .i64 0,.int .i64 0,.int .i64 0,.int .i64 0,.string (⟨#[]⟩:ByteArray),.string (⟨#[]⟩:ByteArray),.string (⟨#[]⟩:ByteArray),.string (⟨#[]⟩:ByteArray)]) (blk_put (cs:=#[.int .i64 0,.int .i64 0,.int .i64 0,.string (⟨#[]⟩:ByteArray),.int .i64 0,.int .i64 0,.int .i64 0,.int .i64 0,.int .i64 0,.string (⟨#[]⟩:ByteArray),.string (⟨#[]⟩:ByteArray),.string (⟨#[]⟩:ByteArray),.string (⟨#[]⟩:ByteArray)]) (blk_put (cs:=#[.int .i64 0,.int .i64 0,.int .i64 0,.string (⟨#[]⟩:ByteArray),.int .i64 0,.int .i64 0,.int .i64 0,.int .i64 0,.int .i64 0,.string (⟨#[]⟩:ByteArray),.string (⟨#[]⟩:ByteArray),.string (⟨#[]⟩:ByteArray),.string (⟨#[]⟩:ByteArray)]) (blk_put (cs:=#[.int .i64 0,.int .i64 0,.int .i64 0,.string (⟨#[]⟩:ByteArray),.int .i64 0,.int .i64 0,.int .i64 0,.int .i64 0,.int .i64 0,.string (⟨#[]⟩:ByteArray),.string (⟨#[]⟩:ByteArray),.string (⟨#[]⟩:ByteArray),.string (⟨#[]⟩:ByteArray)]) (blk_put (cs:=#[.int .i64 0,.int .i64 0,.int .i64 0,.string (⟨#[]⟩:ByteArray),.int .i64 0,.int .i64 0,.int .i64 0,.int .i64 0,.int .i64 0,.string (⟨#[]⟩:ByteArray),.string (⟨#[]⟩:ByteArray),.string (⟨#[]⟩:ByteArray),.string (⟨#[]⟩:ByteArray)]) (blk_put (cs:=#[.int .i64 0,.int .i64 0,.int .i64 0,.string (⟨#[]⟩:ByteArray),.int .i64 0,.int .i64 0,.int .i64 0,.int .i64 0,.int .i64 0,.string (⟨#[]⟩:ByteArray),.string (⟨#[]⟩:ByteArray),.string (⟨#[]⟩:ByteArray),.string (⟨#[]⟩:ByteArray)]) (blk_put (cs:=#[.int .i64 0,.int .i64 0,.int .i64 0,.string (⟨#[]⟩:ByteArray),.int .i64 0,.int .i64 0,.int .i64 0,.int .i64 0,.int .i64 0,.string (⟨#[]⟩:ByteArray),.string (⟨#[]⟩:ByteArray),.string (⟨#[]⟩:ByteArray),.string (⟨#[]⟩:ByteArray)]) (blk_put (cs:=#[.int .i64 0,.int .i64 0,.int .i64 0,.string (⟨#[]⟩:ByteArray),.int .i64 0,.int .i64 0,.int .i64 0,.int .i64 0,.int .i64 0,.string (⟨#[]⟩:ByteArray),.string (⟨#[]⟩:ByteArray),.string (⟨#[]⟩:ByteArray),.string (⟨#[]⟩:ByteArray)]) (blk_put (cs:=#[.int .i64 0,.int .i64 0,.int .i64 0,.string (⟨#[]⟩:ByteArray),.int .i64 0,.int .i64 0,.int .i64 0,.int .i64 0,.int .i64 0,.string (⟨#[]⟩:ByteArray),.string (⟨#[]⟩:ByteArray),.string (⟨#[]⟩:ByteArray),.string (⟨#[]⟩:ByteArray)]) (blk_put (cs:=#[.int .i64 0,.int .i64 0,.int .i64 0,.string (⟨#[]⟩:ByteArray),.int .i64 0,.int .i64 0,.int .i64 0,.int .i64 0,.int .i64 0,.string (⟨#[]⟩:ByteArray),.string (⟨#[]⟩:ByteArray),.string (⟨#[]⟩:ByteArray),.string (⟨#[]⟩:ByteArray)]) (HZ1.out) 0 _ rfl) 1 _ rfl) 2 _ rfl) 3 _ rfl) 4 _ rfl) 5 _ rfl) 6 _ rfl) 7 _ rfl) 8 _ rfl) 9 _ rfl) 10 _ rfl) 11 _ rfl) 12 _ rfl) Tryd.underlying27 rfl (by kernel_rfl)) rfl ⟨rfl,?_⟩
  exact (Below.setCell (Below.setCell (Below.setCell (Below.setCell (Below.setCell (Below.setCell (Below.setCell (Below.setCell (Below.setCell (Below.setCell (Below.setCell (Below.setCell (Below.setCell HB1.out (p:=⟨w.heap.size,0,none⟩) (by first|exact Nat.le_refl _|exact Nat.le_succ _) _) (p:=⟨w.heap.size,1,none⟩) (by first|exact Nat.le_refl _|exact Nat.le_succ _) _) (p:=⟨w.heap.size,2,none⟩) (by first|exact Nat.le_refl _|exact Nat.le_succ _) _) (p:=⟨w.heap.size,3,none⟩) (by first|exact Nat.le_refl _|exact Nat.le_succ _) _) (p:=⟨w.heap.size,4,none⟩) (by first|exact Nat.le_refl _|exact Nat.le_succ _) _) (p:=⟨w.heap.size,5,none⟩) (by first|exact Nat.le_refl _|exact Nat.le_succ _) _) (p:=⟨w.heap.size,6,none⟩) (by first|exact Nat.le_refl _|exact Nat.le_succ _) _) (p:=⟨w.heap.size,7,none⟩) (by first|exact Nat.le_refl _|exact Nat.le_succ _) _) (p:=⟨w.heap.size,8,none⟩) (by first|exact Nat.le_refl _|exact Nat.le_succ _) _) (p:=⟨w.heap.size,9,none⟩) (by first|exact Nat.le_refl _|exact Nat.le_succ _) _) (p:=⟨w.heap.size,10,none⟩) (by first|exact Nat.le_refl _|exact Nat.le_succ _) _) (p:=⟨w.heap.size,11,none⟩) (by first|exact Nat.le_refl _|exact Nat.le_succ _) _) (p:=⟨w.heap.size,12,none⟩) (by first|exact Nat.le_refl _|exact Nat.le_succ _) _)
 rw [if_pos c2] at h
 obtain ⟨bd,hC,h⟩:=Option.bind_eq_some_iff.1 h
 have HL10:=Aside0.mk c2
 have HNM:=Aside0.mk hC
 have HP:=Aside0.mk h
 clear hC c2 h
 go_enter Tryd.func8,Tryd.ntmps8
 go_wp2_with (go_at_call 30;refine (contangoref03_Fields.calls k a0 l _ _ HF.out).mono ?_;rintro e w1 ⟨v0,rfl,ho,hb⟩;have HB1:=Aside0.mk (below_step HBA.out hb);have hZ1:=blk_below HZ.out hb;obtain ⟨gL,cap,rfl,hcap,⟨cur,hcur⟩,hRC,hcs⟩:=strsT ho HL10.out (by omega);have HCS:=Aside0.mk hcs;have HCUR:=Aside0.mk hcur;have HZ1:=Aside0.mk hZ1;clear hcs hcur hRC hcap hb ho hZ1)
 go_loopg [6] 4 (fun kq v6 wr=>∃ i:Nat,v6=.int .i64 (i:Int)∧Aside0 (kq+i=10)∧Aside0 (6≤i)∧Aside0 (nmAt k l (10 - i) i=some bd)∧Aside0 (Below w1.heap.size w1 wr))
 case atStart=>exact ⟨6,rfl,⟨rfl⟩,⟨Nat.le_refl _⟩,HNM,⟨Below.refl _ _⟩⟩
 case round =>
  obtain ⟨i,rfl,HK,HI6,HN,HBw⟩:=hrel
  by_cases hi:i < 10
  ·have hn:=HN.out
   rw [show 10 - i=(9 - i)+1 by omega,nmAt] at hn
   obtain ⟨b,hq,hn⟩:=Option.bind_eq_some_iff.1 hn
   have HQ:=Aside0.mk hq
   have hst:wr.cell? ⟨gL,i,none⟩=some (.string (rfS l i)):=(HBw.out.cell (World.block_lt_of_cell? w1 _ (HCS.out i hi))).trans (HCS.out i hi)
   have hb1:decide ((i:Int) < 10)=true:=decide_eq_true (by omega)
   have p0:=eq_true (show (0:Int)≤(i:Int) by omega)
   have q0:=eq_true (show (i:Int) < 10 by omega)
   clear hq
   cases b with
   | true =>
    rw [if_pos rfl] at hn
    have HN2:=Aside0.mk (show nmAt k l (10 - (i+1)) (i+1)=some bd by rw [show 10 - (i+1)=9 - i by omega];exact hn)
    clear hn
    go_wp2_with (go_at_call 31;refine (contangoref03_Name.calls k (rfS l i) true _ HQ.out).mono ?_;rintro e6 w6 ⟨rfl,hd6⟩;have HB6:=Aside0.mk (below_step HBw.out hd6.below);clear hd6)
    go_roundg (gk - 1)
    case measure=>have:=HK.out;omega
    case rel=>exact ⟨i+1,by go_num,⟨by have:=HK.out;omega⟩,⟨by have:=HI6.out;omega⟩,HN2,HB6⟩
   | false =>
    rw [if_neg (by simp)] at hn
    obtain rfl:=Option.some.inj hn
    have hp:=HP.out
    rw [if_neg (by simp)] at hp
    obtain rfl:=Option.some.inj hp
    clear hn hp
    go_wp2_with (go_at_call 31;refine (contangoref03_Name.calls k (rfS l i) false _ HQ.out).mono ?_;rintro e6 w6 ⟨rfl,hd6⟩;have HB6:=Aside0.mk (below_step HBw.out hd6.below);have hZ6:w6.heap[w.heap.size]? = some (.cells #[.int .i64 0,.int .i64 0,.int .i64 0,.string (⟨#[]⟩:ByteArray),.int .i64 0,.int .i64 0,.int .i64 0,.int .i64 0,.int .i64 0,.string (⟨#[]⟩:ByteArray),.string (⟨#[]⟩:ByteArray),.string (⟨#[]⟩:ByteArray),.string (⟨#[]⟩:ByteArray)] 27 (0,0)):=blk_below HZ1.out HB6.out;have hfc0:w6.cell? ⟨w.heap.size,0,none⟩=some (.int .i64 0):=blk_cell hZ6 0;have hf0:w6.frozen? ⟨w.heap.size,0,none⟩=false:=blk_frozen hZ6 0;have hfc1:w6.cell? ⟨w.heap.size,1,none⟩=some (.int .i64 0):=blk_cell hZ6 1;have hf1:w6.frozen? ⟨w.heap.size,1,none⟩=false:=blk_frozen hZ6 1;have hfc2:w6.cell? ⟨w.heap.size,2,none⟩=some (.int .i64 0):=blk_cell hZ6 2;have hf2:w6.frozen? ⟨w.heap.size,2,none⟩=false:=blk_frozen hZ6 2;have hfc3:w6.cell? ⟨w.heap.size,3,none⟩=some (.string (⟨#[]⟩:ByteArray)):=blk_cell hZ6 3;have hf3:w6.frozen? ⟨w.heap.size,3,none⟩=false:=blk_frozen hZ6 3;have hfc4:w6.cell? ⟨w.heap.size,4,none⟩=some (.int .i64 0):=blk_cell hZ6 4;have hf4:w6.frozen? ⟨w.heap.size,4,none⟩=false:=blk_frozen hZ6 4;have hfc5:w6.cell? ⟨w.heap.size,5,none⟩=some (.int .i64 0):=blk_cell hZ6 5;have hf5:w6.frozen? ⟨w.heap.size,5,none⟩=false:=blk_frozen hZ6 5;have hfc6:w6.cell? ⟨w.heap.size,6,none⟩=some (.int .i64 0):=blk_cell hZ6 6;have hf6:w6.frozen? ⟨w.heap.size,6,none⟩=false:=blk_frozen hZ6 6;have hfc7:w6.cell? ⟨w.heap.size,7,none⟩=some (.int .i64 0):=blk_cell hZ6 7;have hf7:w6.frozen? ⟨w.heap.size,7,none⟩=false:=blk_frozen hZ6 7;have hfc8:w6.cell? ⟨w.heap.size,8,none⟩=some (.int .i64 0):=blk_cell hZ6 8;have hf8:w6.frozen? ⟨w.heap.size,8,none⟩=false:=blk_frozen hZ6 8;have hfc9:w6.cell? ⟨w.heap.size,9,none⟩=some (.string (⟨#[]⟩:ByteArray)):=blk_cell hZ6 9;have hf9:w6.frozen? ⟨w.heap.size,9,none⟩=false:=blk_frozen hZ6 9;have hfc10:w6.cell? ⟨w.heap.size,10,none⟩=some (.string (⟨#[]⟩:ByteArray)):=blk_cell hZ6 10;have hf10:w6.frozen? ⟨w.heap.size,10,none⟩=false:=blk_frozen hZ6 10;have hfc11:w6.cell? ⟨w.heap.size,11,none⟩=some (.string (⟨#[]⟩:ByteArray)):=blk_cell hZ6 11;have hf11:w6.frozen? ⟨w.heap.size,11,none⟩=false:=blk_frozen hZ6 11;have hfc12:w6.cell? ⟨w.heap.size,12,none⟩=some (.string (⟨#[]⟩:ByteArray)):=blk_cell hZ6 12;have hf12:w6.frozen? ⟨w.heap.size,12,none⟩=false:=blk_frozen hZ6 12;have HZ6:=Aside0.mk hZ6;clear hZ6 hd6)
    refine bodyPost_ret (results_ct rfl _ _ w.heap.size 27 #[.int .i64 0,.int .i64 0,.int .i64 0,.string (⟨#[]⟩:ByteArray),.int .i64 0,.int .i64 0,.int .i64 0,.int .i64 0,.int .i64 0,.string (⟨#[]⟩:ByteArray),.string (⟨#[]⟩:ByteArray),.string (⟨#[]⟩:ByteArray),.string (⟨#[]⟩:ByteArray)] (0,0) _ rfl (blk_put (cs:=#[.int .i64 0,.int .i64 0,.int .i64 0,.string (⟨#[]⟩:ByteArray),.int .i64 0,.int .i64 0,.int .i64 0,.int .i64 0,.int .i64 0,.string (⟨#[]⟩:ByteArray),.string (⟨#[]⟩:ByteArray),.string (⟨#[]⟩:ByteArray),.string (⟨#[]⟩:ByteArray)]) (blk_put (cs:=#[.int .i64 0,.int .i64 0,.int .i64 0,.string (⟨#[]⟩:ByteArray),.int .i64 0,.int .i64 0,.int .i64 0,.int .i64 0,.int .i64 0,.string (⟨#[]⟩:ByteArray),.string (⟨#[]⟩:ByteArray),.string (⟨#[]⟩:ByteArray),.string (⟨#[]⟩:ByteArray)]) (blk_put (cs:=#[.int .i64 0,.int .i64 0,.int .i64 0,.string (⟨#[]⟩:ByteArray),.int .i64 0,.int .i64 0,.int .i64 0,.int .i64 0,.int .i64 0,.string (⟨#[]⟩:ByteArray),.string (⟨#[]⟩:ByteArray),.string (⟨#[]⟩:ByteArray),.string (⟨#[]⟩:ByteArray)]) (blk_put (cs:=#[.int .i64 0,.int .i64 0,.int .i64 0,.string (⟨#[]⟩:ByteArray),.int .i64 0,.int .i64 0,.int .i64 0,.int .i64 0,.int .i64 0,.string (⟨#[]⟩:ByteArray),.string (⟨#[]⟩:ByteArray),.string (⟨#[]⟩:ByteArray),.string (⟨#[]⟩:ByteArray)]) (blk_put (cs:=#[.int .i64 0,.int .i64 0,.int .i64 0,.string (⟨#[]⟩:ByteArray),.int .i64 0,.int .i64 0,.int .i64 0,.int .i64 0,.int .i64 0,.string (⟨#[]⟩:ByteArray),.string (⟨#[]⟩:ByteArray),.string (⟨#[]⟩:ByteArray),.string (⟨#[]⟩:ByteArray)]) (blk_put (cs:=#[.int .i64 0,.int .i64 0,.int .i64 0,.string (⟨#[]⟩:ByteArray),.int .i64 0,.int .i64 0,.int .i64 0,.int .i64 0,.int .i64 0,.string (⟨#[]⟩:ByteArray),.string (⟨#[]⟩:ByteArray),.string (⟨#[]⟩:ByteArray),.string (⟨#[]⟩:ByteArray)]) (blk_put (cs:=#[.int .i64 0,.int .i64 0,.int .i64 0,.string (⟨#[]⟩:ByteArray),.int .i64 0,.int .i64 0,.int .i64 0,.int .i64 0,.int .i64 0,.string (⟨#[]⟩:ByteArray),.string (⟨#[]⟩:ByteArray),.string (⟨#[]⟩:ByteArray),.string (⟨#[]⟩:ByteArray)]) (blk_put (cs:=#[.int .i64 0,.int .i64 0,.int .i64 0,.string (⟨#[]⟩:ByteArray),.int .i64 0,.int .i64 0,.int .i64 0,.int .i64 0,.int .i64 0,.string (⟨#[]⟩:ByteArray),.string (⟨#[]⟩:ByteArray),.string (⟨#[]⟩:ByteArray),.string (⟨#[]⟩:ByteArray)]) (blk_put (cs:=#[.int .i64 0,.int .i64 0,.int .i64 0,.string (⟨#[]⟩:ByteArray),.int .i64 0,.int .i64 0,.int .i64 0,.int .i64 0,.int .i64 0,.string (⟨#[]⟩:ByteArray),.string (⟨#[]⟩:ByteArray),.string (⟨#[]⟩:ByteArray),.string (⟨#[]⟩:ByteArray)]) (blk_put (cs:=#[.int .i64 0,.int .i64 0,.int .i64 0,.string (⟨#[]⟩:ByteArray),.int .i64 0,.int .i64 0,.int .i64 0,.int .i64 0,.int .i64 0,.string (⟨#[]⟩:ByteArray),.string (⟨#[]⟩:ByteArray),.string (⟨#[]⟩:ByteArray),.string (⟨#[]⟩:ByteArray)]) (blk_put (cs:=#[.int .i64 0,.int .i64 0,.int .i64 0,.string (⟨#[]⟩:ByteArray),.int .i64 0,.int .i64 0,.int .i64 0,.int .i64 0,.int .i64 0,.string (⟨#[]⟩:ByteArray),.string (⟨#[]⟩:ByteArray),.string (⟨#[]⟩:ByteArray),.string (⟨#[]⟩:ByteArray)]) (blk_put (cs:=#[.int .i64 0,.int .i64 0,.int .i64 0,.string (⟨#[]⟩:ByteArray),.int .i64 0,.int .i64 0,.int .i64 0,.int .i64 0,.int .i64 0,.string (⟨#[]⟩:ByteArray),.string (⟨#[]⟩:ByteArray),.string (⟨#[]⟩:ByteArray),.string (⟨#[]⟩:ByteArray)]) (blk_put (cs:=#[.int .i64 0,.int .i64 0,.int .i64 0,.string (⟨#[]⟩:ByteArray),.int .i64 0,.int .i64 0,.int .i64 0,.int .i64 0,.int .i64 0,.string (⟨#[]⟩:ByteArray),.string (⟨#[]⟩:ByteArray),.string (⟨#[]⟩:ByteArray),.string (⟨#[]⟩:ByteArray)]) (HZ6.out) 0 _ rfl) 1 _ rfl) 2 _ rfl) 3 _ rfl) 4 _ rfl) 5 _ rfl) 6 _ rfl) 7 _ rfl) 8 _ rfl) 9 _ rfl) 10 _ rfl) 11 _ rfl) 12 _ rfl) Tryd.underlying27 rfl (by kernel_rfl)) rfl ⟨rfl,?_⟩
    exact (Below.setCell (Below.setCell (Below.setCell (Below.setCell (Below.setCell (Below.setCell (Below.setCell (Below.setCell (Below.setCell (Below.setCell (Below.setCell (Below.setCell (Below.setCell (below_step HB1.out HB6.out) (p:=⟨w.heap.size,0,none⟩) (by first|exact Nat.le_refl _|exact Nat.le_succ _) _) (p:=⟨w.heap.size,1,none⟩) (by first|exact Nat.le_refl _|exact Nat.le_succ _) _) (p:=⟨w.heap.size,2,none⟩) (by first|exact Nat.le_refl _|exact Nat.le_succ _) _) (p:=⟨w.heap.size,3,none⟩) (by first|exact Nat.le_refl _|exact Nat.le_succ _) _) (p:=⟨w.heap.size,4,none⟩) (by first|exact Nat.le_refl _|exact Nat.le_succ _) _) (p:=⟨w.heap.size,5,none⟩) (by first|exact Nat.le_refl _|exact Nat.le_succ _) _) (p:=⟨w.heap.size,6,none⟩) (by first|exact Nat.le_refl _|exact Nat.le_succ _) _) (p:=⟨w.heap.size,7,none⟩) (by first|exact Nat.le_refl _|exact Nat.le_succ _) _) (p:=⟨w.heap.size,8,none⟩) (by first|exact Nat.le_refl _|exact Nat.le_succ _) _) (p:=⟨w.heap.size,9,none⟩) (by first|exact Nat.le_refl _|exact Nat.le_succ _) _) (p:=⟨w.heap.size,10,none⟩) (by first|exact Nat.le_refl _|exact Nat.le_succ _) _) (p:=⟨w.heap.size,11,none⟩) (by first|exact Nat.le_refl _|exact Nat.le_succ _) _) (p:=⟨w.heap.size,12,none⟩) (by first|exact Nat.le_refl _|exact Nat.le_succ _) _)
  ·have hi10:i=10:=by have:=HK.out;omega
   subst hi10
   have hbd:bd=true:=by
    have hn:=HN.out
    rw [show 10 - 10=0 from rfl,nmAt] at hn
    exact (Option.some.inj hn).symm
   subst hbd
   have HP0:=Aside0.mk (show rr0 k l (t0T l)=some p by have:=HP.out;rwa [if_pos rfl] at this)
   have HBr0:=Aside0.mk (below_step HB1.out HBw.out)
   have HZ2:=Aside0.mk (blk_below HZ1.out HBw.out)
   have HK9:=Aside0.mk (KT.below (KT.refl 9 w1) HBw.out)
   clear hi
   go_wp2_with fail
   obtain ⟨gn,hgn⟩:∃ g,wr.heap.size=g:=⟨_,rfl⟩
   obtain ⟨gx,hgx⟩:∃ g,gn+1=g:=⟨_,rfl⟩
   obtain ⟨wb,hwb⟩:∃ x,(wr.alloc (.cells #[.int .i64 0,.int .i64 0,.int .i64 0,.int .i64 0,.int .i64 0,.int .i64 0] 66)).alloc (.cells #[.string (⟨#[]⟩:ByteArray),.int .i64 0,.int .i64 0,.int .i64 0] 23)=x:=⟨_,rfl⟩
   have hsz:(wr.alloc (.cells #[.int .i64 0,.int .i64 0,.int .i64 0,.int .i64 0,.int .i64 0,.int .i64 0] 66)).heap.size=gx:=by simp [hgn,hgx]
   have HA0:=Aside0.mk (show wb.heap[gn]? = some (.cells #[.int .i64 0,.int .i64 0,.int .i64 0,.int .i64 0,.int .i64 0,.int .i64 0] 66 (0,0)) by rw [← hwb,← hgn];exact blk_alloc (blk_new _ _) _)
   have HX0:=Aside0.mk (show wb.heap[gx]? = some (.cells #[.string (⟨#[]⟩:ByteArray),.int .i64 0,.int .i64 0,.int .i64 0] 23 (0,0)) by rw [← hwb,← hsz];exact blk_new _ _)
   have HZb:=Aside0.mk (show wb.heap[w.heap.size]? = some (.cells #[.int .i64 0,.int .i64 0,.int .i64 0,.string (⟨#[]⟩:ByteArray),.int .i64 0,.int .i64 0,.int .i64 0,.int .i64 0,.int .i64 0,.string (⟨#[]⟩:ByteArray),.string (⟨#[]⟩:ByteArray),.string (⟨#[]⟩:ByteArray),.string (⟨#[]⟩:ByteArray)] 27 (0,0)) by rw [← hwb];exact blk_alloc (blk_alloc HZ2.out _) _)
   have HKb:=Aside0.mk (show KT 9 w1 wb by rw [← hwb];exact KT.alloc (KT.alloc HK9.out _) _)
   have HBb:=Aside0.mk (show Below w.heap.size w wb by rw [← hwb];exact below_alloc (below_alloc HBr0.out _) _)
   have HLT:=Aside0.mk (show w.heap.size < gn by rw [← hgn];exact (Array.getElem?_eq_some_iff.1 HZ2.out).1)
   have HNX:=Aside0.mk (show gn < gx by omega)
   rw [hgn,hgx,hwb]
   clear hgn hgx hwb hsz HBw HK HN HNM HI6
   go_loopg [9] 6 (fun kq v9 wr=>∃ (i:Nat) (t:S27),v9=.int .i64 (i:Int)∧Aside0 (kq+i=6)∧Aside0 (rrAt i k l t=some p)∧Aside0 (t.f6=⟨rfS l 6,rfS l 7⟩∧t.f7=⟨rfS l 8,rfS l 9⟩)∧Aside0 (wr.heap[gn]? = some (.cells #[.int .i64 t.f0,.int .i64 t.f1,.int .i64 t.f2,.int .i64 0,.int .i64 t.f4,.int .i64 t.f5] 66 (0,0)))∧Aside0 (wr.heap[gx]? = some (.cells #[.string t.f3.f0,.int .i64 t.f3.f1,.int .i64 t.f3.f2,.int .i64 t.f3.f3] 23 (0,0)))∧Aside0 (wr.heap[w.heap.size]? = some (.cells #[.int .i64 0,.int .i64 0,.int .i64 0,.string (⟨#[]⟩:ByteArray),.int .i64 0,.int .i64 0,.int .i64 0,.int .i64 0,.int .i64 0,.string (⟨#[]⟩:ByteArray),.string (⟨#[]⟩:ByteArray),.string (⟨#[]⟩:ByteArray),.string (⟨#[]⟩:ByteArray)] 27 (0,0)))∧Aside0 (KT 9 w1 wr)∧Aside0 (Below w.heap.size w wr))
   case atStart=>exact ⟨0,t0T l,rfl,⟨rfl⟩,HP0,⟨rfl,rfl⟩,HA0,HX0,HZb,HKb,HBb⟩
   case round =>
    obtain ⟨i,t,rfl,HK,HP,HTF,HAr,HXr,HZr,HKr,HBr⟩:=hrel
    have hi:i=0∨i=1∨i=2∨i=3∨i=4∨i=5∨i=6:=by have:=HK.out;omega
    rcases hi with rfl|rfl|rfl|rfl|rfl|rfl|rfl
    ·obtain ⟨⟨x,e⟩,hq,hh⟩:=Option.bind_eq_some_iff.1 HP.out
     dsimp only at hh
     have hst:wr.cell? ⟨gL,0,none⟩=some (.string (rfS l 0)):=kt_cell HKr.out HCUR.out 0 (HCS.out 0 (by omega))
     have HQ:=Aside0.mk hq
     clear hq
     by_cases c:e=0
     ·subst c
      rw [if_pos rfl] at hh
      have HH:=Aside0.mk hh
      clear hh
      go_wp2_with (go_at_call 33;refine (contangoref03_Int.calls k (rfS l 0) x 0 _ HQ.out).mono ?_;rintro e6 w6 ⟨rfl,hd6⟩;have HB7:=Aside0.mk hd6.below;have hA6:=blk_below HAr.out HB7.out;have ha6:w6.cell? ⟨gn,0,none⟩=some (.int .i64 t.f0):=blk_cell hA6 0;have hf6:w6.frozen? ⟨gn,0,none⟩=false:=blk_frozen hA6 0;clear hA6 hd6)
      go_roundg (gk - 1)
      case measure=>have:=HK.out;omega
      case rel=>exact ⟨1,{ t with f0:=x },by go_num,⟨by have:=HK.out;omega⟩,HH,HTF,⟨(blk_put (cs:=#[.int .i64 t.f0,.int .i64 t.f1,.int .i64 t.f2,.int .i64 0,.int .i64 t.f4,.int .i64 t.f5]) (blk_below HAr.out HB7.out) 0 (.int .i64 x) rfl)⟩,⟨(blk_far (blk_below HXr.out HB7.out) (Nat.ne_of_gt HNX.out) (.int .i64 x))⟩,⟨(blk_far (blk_below HZr.out HB7.out) (Nat.ne_of_lt HLT.out) (.int .i64 x))⟩,⟨(KT.setCell (KT.below HKr.out HB7.out) (blk_below HAr.out HB7.out) (by decide) (.int .i64 x))⟩,⟨(Below.setCell (below_step HBr.out HB7.out) (p:=⟨gn,0,none⟩) (Nat.le_of_lt HLT.out) (.int .i64 x))⟩⟩
     ·rw [if_neg c] at hh
      obtain rfl:=Option.some.inj hh
      have hz:(e != 0)=true:=bne_iff_ne.2 c
      clear hh c
      go_wp2_with (go_at_call 33;refine (contangoref03_Int.calls k (rfS l 0) x e _ HQ.out).mono ?_;rintro e6 w6 ⟨rfl,hd6⟩;have HB7:=Aside0.mk hd6.below;have hA6:=blk_below HAr.out HB7.out;have ha6:w6.cell? ⟨gn,0,none⟩=some (.int .i64 t.f0):=blk_cell hA6 0;have hf6:w6.frozen? ⟨gn,0,none⟩=false:=blk_frozen hA6 0;have hZ6:(w6.setCell ⟨gn,0,none⟩ (.int .i64 x)).heap[w.heap.size]? = some (.cells #[.int .i64 0,.int .i64 0,.int .i64 0,.string (⟨#[]⟩:ByteArray),.int .i64 0,.int .i64 0,.int .i64 0,.int .i64 0,.int .i64 0,.string (⟨#[]⟩:ByteArray),.string (⟨#[]⟩:ByteArray),.string (⟨#[]⟩:ByteArray),.string (⟨#[]⟩:ByteArray)] 27 (0,0)):=(blk_far (blk_below HZr.out HB7.out) (Nat.ne_of_lt HLT.out) (.int .i64 x));have hfc0:(w6.setCell ⟨gn,0,none⟩ (.int .i64 x)).cell? ⟨w.heap.size,0,none⟩=some (.int .i64 0):=blk_cell hZ6 0;have hf0:(w6.setCell ⟨gn,0,none⟩ (.int .i64 x)).frozen? ⟨w.heap.size,0,none⟩=false:=blk_frozen hZ6 0;have hfc1:(w6.setCell ⟨gn,0,none⟩ (.int .i64 x)).cell? ⟨w.heap.size,1,none⟩=some (.int .i64 0):=blk_cell hZ6 1;have hf1:(w6.setCell ⟨gn,0,none⟩ (.int .i64 x)).frozen? ⟨w.heap.size,1,none⟩=false:=blk_frozen hZ6 1;have hfc2:(w6.setCell ⟨gn,0,none⟩ (.int .i64 x)).cell? ⟨w.heap.size,2,none⟩=some (.int .i64 0):=blk_cell hZ6 2;have hf2:(w6.setCell ⟨gn,0,none⟩ (.int .i64 x)).frozen? ⟨w.heap.size,2,none⟩=false:=blk_frozen hZ6 2;have hfc3:(w6.setCell ⟨gn,0,none⟩ (.int .i64 x)).cell? ⟨w.heap.size,3,none⟩=some (.string (⟨#[]⟩:ByteArray)):=blk_cell hZ6 3;have hf3:(w6.setCell ⟨gn,0,none⟩ (.int .i64 x)).frozen? ⟨w.heap.size,3,none⟩=false:=blk_frozen hZ6 3;have hfc4:(w6.setCell ⟨gn,0,none⟩ (.int .i64 x)).cell? ⟨w.heap.size,4,none⟩=some (.int .i64 0):=blk_cell hZ6 4;have hf4:(w6.setCell ⟨gn,0,none⟩ (.int .i64 x)).frozen? ⟨w.heap.size,4,none⟩=false:=blk_frozen hZ6 4;have hfc5:(w6.setCell ⟨gn,0,none⟩ (.int .i64 x)).cell? ⟨w.heap.size,5,none⟩=some (.int .i64 0):=blk_cell hZ6 5;have hf5:(w6.setCell ⟨gn,0,none⟩ (.int .i64 x)).frozen? ⟨w.heap.size,5,none⟩=false:=blk_frozen hZ6 5;have hfc6:(w6.setCell ⟨gn,0,none⟩ (.int .i64 x)).cell? ⟨w.heap.size,6,none⟩=some (.int .i64 0):=blk_cell hZ6 6;have hf6:(w6.setCell ⟨gn,0,none⟩ (.int .i64 x)).frozen? ⟨w.heap.size,6,none⟩=false:=blk_frozen hZ6 6;have hfc7:(w6.setCell ⟨gn,0,none⟩ (.int .i64 x)).cell? ⟨w.heap.size,7,none⟩=some (.int .i64 0):=blk_cell hZ6 7;have hf7:(w6.setCell ⟨gn,0,none⟩ (.int .i64 x)).frozen? ⟨w.heap.size,7,none⟩=false:=blk_frozen hZ6 7;have hfc8:(w6.setCell ⟨gn,0,none⟩ (.int .i64 x)).cell? ⟨w.heap.size,8,none⟩=some (.int .i64 0):=blk_cell hZ6 8;have hf8:(w6.setCell ⟨gn,0,none⟩ (.int .i64 x)).frozen? ⟨w.heap.size,8,none⟩=false:=blk_frozen hZ6 8;have hfc9:(w6.setCell ⟨gn,0,none⟩ (.int .i64 x)).cell? ⟨w.heap.size,9,none⟩=some (.string (⟨#[]⟩:ByteArray)):=blk_cell hZ6 9;have hf9:(w6.setCell ⟨gn,0,none⟩ (.int .i64 x)).frozen? ⟨w.heap.size,9,none⟩=false:=blk_frozen hZ6 9;have hfc10:(w6.setCell ⟨gn,0,none⟩ (.int .i64 x)).cell? ⟨w.heap.size,10,none⟩=some (.string (⟨#[]⟩:ByteArray)):=blk_cell hZ6 10;have hf10:(w6.setCell ⟨gn,0,none⟩ (.int .i64 x)).frozen? ⟨w.heap.size,10,none⟩=false:=blk_frozen hZ6 10;have hfc11:(w6.setCell ⟨gn,0,none⟩ (.int .i64 x)).cell? ⟨w.heap.size,11,none⟩=some (.string (⟨#[]⟩:ByteArray)):=blk_cell hZ6 11;have hf11:(w6.setCell ⟨gn,0,none⟩ (.int .i64 x)).frozen? ⟨w.heap.size,11,none⟩=false:=blk_frozen hZ6 11;have hfc12:(w6.setCell ⟨gn,0,none⟩ (.int .i64 x)).cell? ⟨w.heap.size,12,none⟩=some (.string (⟨#[]⟩:ByteArray)):=blk_cell hZ6 12;have hf12:(w6.setCell ⟨gn,0,none⟩ (.int .i64 x)).frozen? ⟨w.heap.size,12,none⟩=false:=blk_frozen hZ6 12;have HZ6:=Aside0.mk hZ6;clear hZ6;clear hA6 hd6)
      refine bodyPost_ret (results_ct rfl _ _ w.heap.size 27 #[.int .i64 0,.int .i64 0,.int .i64 0,.string (⟨#[]⟩:ByteArray),.int .i64 0,.int .i64 0,.int .i64 0,.int .i64 0,.int .i64 0,.string (⟨#[]⟩:ByteArray),.string (⟨#[]⟩:ByteArray),.string (⟨#[]⟩:ByteArray),.string (⟨#[]⟩:ByteArray)] (0,0) _ rfl (blk_put (cs:=#[.int .i64 0,.int .i64 0,.int .i64 0,.string (⟨#[]⟩:ByteArray),.int .i64 0,.int .i64 0,.int .i64 0,.int .i64 0,.int .i64 0,.string (⟨#[]⟩:ByteArray),.string (⟨#[]⟩:ByteArray),.string (⟨#[]⟩:ByteArray),.string (⟨#[]⟩:ByteArray)]) (blk_put (cs:=#[.int .i64 0,.int .i64 0,.int .i64 0,.string (⟨#[]⟩:ByteArray),.int .i64 0,.int .i64 0,.int .i64 0,.int .i64 0,.int .i64 0,.string (⟨#[]⟩:ByteArray),.string (⟨#[]⟩:ByteArray),.string (⟨#[]⟩:ByteArray),.string (⟨#[]⟩:ByteArray)]) (blk_put (cs:=#[.int .i64 0,.int .i64 0,.int .i64 0,.string (⟨#[]⟩:ByteArray),.int .i64 0,.int .i64 0,.int .i64 0,.int .i64 0,.int .i64 0,.string (⟨#[]⟩:ByteArray),.string (⟨#[]⟩:ByteArray),.string (⟨#[]⟩:ByteArray),.string (⟨#[]⟩:ByteArray)]) (blk_put (cs:=#[.int .i64 0,.int .i64 0,.int .i64 0,.string (⟨#[]⟩:ByteArray),.int .i64 0,.int .i64 0,.int .i64 0,.int .i64 0,.int .i64 0,.string (⟨#[]⟩:ByteArray),.string (⟨#[]⟩:ByteArray),.string (⟨#[]⟩:ByteArray),.string (⟨#[]⟩:ByteArray)]) (blk_put (cs:=#[.int .i64 0,.int .i64 0,.int .i64 0,.string (⟨#[]⟩:ByteArray),.int .i64 0,.int .i64 0,.int .i64 0,.int .i64 0,.int .i64 0,.string (⟨#[]⟩:ByteArray),.string (⟨#[]⟩:ByteArray),.string (⟨#[]⟩:ByteArray),.string (⟨#[]⟩:ByteArray)]) (blk_put (cs:=#[.int .i64 0,.int .i64 0,.int .i64 0,.string (⟨#[]⟩:ByteArray),.int .i64 0,.int .i64 0,.int .i64 0,.int .i64 0,.int .i64 0,.string (⟨#[]⟩:ByteArray),.string (⟨#[]⟩:ByteArray),.string (⟨#[]⟩:ByteArray),.string (⟨#[]⟩:ByteArray)]) (blk_put (cs:=#[.int .i64 0,.int .i64 0,.int .i64 0,.string (⟨#[]⟩:ByteArray),.int .i64 0,.int .i64 0,.int .i64 0,.int .i64 0,.int .i64 0,.string (⟨#[]⟩:ByteArray),.string (⟨#[]⟩:ByteArray),.string (⟨#[]⟩:ByteArray),.string (⟨#[]⟩:ByteArray)]) (blk_put (cs:=#[.int .i64 0,.int .i64 0,.int .i64 0,.string (⟨#[]⟩:ByteArray),.int .i64 0,.int .i64 0,.int .i64 0,.int .i64 0,.int .i64 0,.string (⟨#[]⟩:ByteArray),.string (⟨#[]⟩:ByteArray),.string (⟨#[]⟩:ByteArray),.string (⟨#[]⟩:ByteArray)]) (blk_put (cs:=#[.int .i64 0,.int .i64 0,.int .i64 0,.string (⟨#[]⟩:ByteArray),.int .i64 0,.int .i64 0,.int .i64 0,.int .i64 0,.int .i64 0,.string (⟨#[]⟩:ByteArray),.string (⟨#[]⟩:ByteArray),.string (⟨#[]⟩:ByteArray),.string (⟨#[]⟩:ByteArray)]) (blk_put (cs:=#[.int .i64 0,.int .i64 0,.int .i64 0,.string (⟨#[]⟩:ByteArray),.int .i64 0,.int .i64 0,.int .i64 0,.int .i64 0,.int .i64 0,.string (⟨#[]⟩:ByteArray),.string (⟨#[]⟩:ByteArray),.string (⟨#[]⟩:ByteArray),.string (⟨#[]⟩:ByteArray)]) (blk_put (cs:=#[.int .i64 0,.int .i64 0,.int .i64 0,.string (⟨#[]⟩:ByteArray),.int .i64 0,.int .i64 0,.int .i64 0,.int .i64 0,.int .i64 0,.string (⟨#[]⟩:ByteArray),.string (⟨#[]⟩:ByteArray),.string (⟨#[]⟩:ByteArray),.string (⟨#[]⟩:ByteArray)]) (blk_put (cs:=#[.int .i64 0,.int .i64 0,.int .i64 0,.string (⟨#[]⟩:ByteArray),.int .i64 0,.int .i64 0,.int .i64 0,.int .i64 0,.int .i64 0,.string (⟨#[]⟩:ByteArray),.string (⟨#[]⟩:ByteArray),.string (⟨#[]⟩:ByteArray),.string (⟨#[]⟩:ByteArray)]) (blk_put (cs:=#[.int .i64 0,.int .i64 0,.int .i64 0,.string (⟨#[]⟩:ByteArray),.int .i64 0,.int .i64 0,.int .i64 0,.int .i64 0,.int .i64 0,.string (⟨#[]⟩:ByteArray),.string (⟨#[]⟩:ByteArray),.string (⟨#[]⟩:ByteArray),.string (⟨#[]⟩:ByteArray)]) (HZ6.out) 0 _ rfl) 1 _ rfl) 2 _ rfl) 3 _ rfl) 4 _ rfl) 5 _ rfl) 6 _ rfl) 7 _ rfl) 8 _ rfl) 9 _ rfl) 10 _ rfl) 11 _ rfl) 12 _ rfl) Tryd.underlying27 rfl (by kernel_rfl)) rfl ⟨rfl,?_⟩
      exact (Below.setCell (Below.setCell (Below.setCell (Below.setCell (Below.setCell (Below.setCell (Below.setCell (Below.setCell (Below.setCell (Below.setCell (Below.setCell (Below.setCell (Below.setCell (Below.setCell (below_step HBr.out HB7.out) (p:=⟨gn,0,none⟩) (Nat.le_of_lt HLT.out) (.int .i64 x)) (p:=⟨w.heap.size,0,none⟩) (by first|exact Nat.le_refl _|exact Nat.le_succ _) _) (p:=⟨w.heap.size,1,none⟩) (by first|exact Nat.le_refl _|exact Nat.le_succ _) _) (p:=⟨w.heap.size,2,none⟩) (by first|exact Nat.le_refl _|exact Nat.le_succ _) _) (p:=⟨w.heap.size,3,none⟩) (by first|exact Nat.le_refl _|exact Nat.le_succ _) _) (p:=⟨w.heap.size,4,none⟩) (by first|exact Nat.le_refl _|exact Nat.le_succ _) _) (p:=⟨w.heap.size,5,none⟩) (by first|exact Nat.le_refl _|exact Nat.le_succ _) _) (p:=⟨w.heap.size,6,none⟩) (by first|exact Nat.le_refl _|exact Nat.le_succ _) _) (p:=⟨w.heap.size,7,none⟩) (by first|exact Nat.le_refl _|exact Nat.le_succ _) _) (p:=⟨w.heap.size,8,none⟩) (by first|exact Nat.le_refl _|exact Nat.le_succ _) _) (p:=⟨w.heap.size,9,none⟩) (by first|exact Nat.le_refl _|exact Nat.le_succ _) _) (p:=⟨w.heap.size,10,none⟩) (by first|exact Nat.le_refl _|exact Nat.le_succ _) _) (p:=⟨w.heap.size,11,none⟩) (by first|exact Nat.le_refl _|exact Nat.le_succ _) _) (p:=⟨w.heap.size,12,none⟩) (by first|exact Nat.le_refl _|exact Nat.le_succ _) _)
    ·obtain ⟨⟨x,e⟩,hq,hh⟩:=Option.bind_eq_some_iff.1 HP.out
     dsimp only at hh
     have hst:wr.cell? ⟨gL,1,none⟩=some (.string (rfS l 1)):=kt_cell HKr.out HCUR.out 1 (HCS.out 1 (by omega))
     have HQ:=Aside0.mk hq
     clear hq
     by_cases c:e=0
     ·subst c
      rw [if_pos rfl] at hh
      have HH:=Aside0.mk hh
      clear hh
      go_wp2_with (go_at_call 33;refine (contangoref03_Int.calls k (rfS l 1) x 0 _ HQ.out).mono ?_;rintro e6 w6 ⟨rfl,hd6⟩;have HB7:=Aside0.mk hd6.below;have hA6:=blk_below HAr.out HB7.out;have ha6:w6.cell? ⟨gn,1,none⟩=some (.int .i64 t.f1):=blk_cell hA6 1;have hf6:w6.frozen? ⟨gn,1,none⟩=false:=blk_frozen hA6 1;clear hA6 hd6)
      go_roundg (gk - 1)
      case measure=>have:=HK.out;omega
      case rel=>exact ⟨2,{ t with f1:=x },by go_num,⟨by have:=HK.out;omega⟩,HH,HTF,⟨(blk_put (cs:=#[.int .i64 t.f0,.int .i64 t.f1,.int .i64 t.f2,.int .i64 0,.int .i64 t.f4,.int .i64 t.f5]) (blk_below HAr.out HB7.out) 1 (.int .i64 x) rfl)⟩,⟨(blk_far (blk_below HXr.out HB7.out) (Nat.ne_of_gt HNX.out) (.int .i64 x))⟩,⟨(blk_far (blk_below HZr.out HB7.out) (Nat.ne_of_lt HLT.out) (.int .i64 x))⟩,⟨(KT.setCell (KT.below HKr.out HB7.out) (blk_below HAr.out HB7.out) (by decide) (.int .i64 x))⟩,⟨(Below.setCell (below_step HBr.out HB7.out) (p:=⟨gn,1,none⟩) (Nat.le_of_lt HLT.out) (.int .i64 x))⟩⟩
     ·rw [if_neg c] at hh
      obtain rfl:=Option.some.inj hh
      have hz:(e != 0)=true:=bne_iff_ne.2 c
      clear hh c
      go_wp2_with (go_at_call 33;refine (contangoref03_Int.calls k (rfS l 1) x e _ HQ.out).mono ?_;rintro e6 w6 ⟨rfl,hd6⟩;have HB7:=Aside0.mk hd6.below;have hA6:=blk_below HAr.out HB7.out;have ha6:w6.cell? ⟨gn,1,none⟩=some (.int .i64 t.f1):=blk_cell hA6 1;have hf6:w6.frozen? ⟨gn,1,none⟩=false:=blk_frozen hA6 1;have hZ6:(w6.setCell ⟨gn,1,none⟩ (.int .i64 x)).heap[w.heap.size]? = some (.cells #[.int .i64 0,.int .i64 0,.int .i64 0,.string (⟨#[]⟩:ByteArray),.int .i64 0,.int .i64 0,.int .i64 0,.int .i64 0,.int .i64 0,.string (⟨#[]⟩:ByteArray),.string (⟨#[]⟩:ByteArray),.string (⟨#[]⟩:ByteArray),.string (⟨#[]⟩:ByteArray)] 27 (0,0)):=(blk_far (blk_below HZr.out HB7.out) (Nat.ne_of_lt HLT.out) (.int .i64 x));have hfc0:(w6.setCell ⟨gn,1,none⟩ (.int .i64 x)).cell? ⟨w.heap.size,0,none⟩=some (.int .i64 0):=blk_cell hZ6 0;have hf0:(w6.setCell ⟨gn,1,none⟩ (.int .i64 x)).frozen? ⟨w.heap.size,0,none⟩=false:=blk_frozen hZ6 0;have hfc1:(w6.setCell ⟨gn,1,none⟩ (.int .i64 x)).cell? ⟨w.heap.size,1,none⟩=some (.int .i64 0):=blk_cell hZ6 1;have hf1:(w6.setCell ⟨gn,1,none⟩ (.int .i64 x)).frozen? ⟨w.heap.size,1,none⟩=false:=blk_frozen hZ6 1;have hfc2:(w6.setCell ⟨gn,1,none⟩ (.int .i64 x)).cell? ⟨w.heap.size,2,none⟩=some (.int .i64 0):=blk_cell hZ6 2;have hf2:(w6.setCell ⟨gn,1,none⟩ (.int .i64 x)).frozen? ⟨w.heap.size,2,none⟩=false:=blk_frozen hZ6 2;have hfc3:(w6.setCell ⟨gn,1,none⟩ (.int .i64 x)).cell? ⟨w.heap.size,3,none⟩=some (.string (⟨#[]⟩:ByteArray)):=blk_cell hZ6 3;have hf3:(w6.setCell ⟨gn,1,none⟩ (.int .i64 x)).frozen? ⟨w.heap.size,3,none⟩=false:=blk_frozen hZ6 3;have hfc4:(w6.setCell ⟨gn,1,none⟩ (.int .i64 x)).cell? ⟨w.heap.size,4,none⟩=some (.int .i64 0):=blk_cell hZ6 4;have hf4:(w6.setCell ⟨gn,1,none⟩ (.int .i64 x)).frozen? ⟨w.heap.size,4,none⟩=false:=blk_frozen hZ6 4;have hfc5:(w6.setCell ⟨gn,1,none⟩ (.int .i64 x)).cell? ⟨w.heap.size,5,none⟩=some (.int .i64 0):=blk_cell hZ6 5;have hf5:(w6.setCell ⟨gn,1,none⟩ (.int .i64 x)).frozen? ⟨w.heap.size,5,none⟩=false:=blk_frozen hZ6 5;have hfc6:(w6.setCell ⟨gn,1,none⟩ (.int .i64 x)).cell? ⟨w.heap.size,6,none⟩=some (.int .i64 0):=blk_cell hZ6 6;have hf6:(w6.setCell ⟨gn,1,none⟩ (.int .i64 x)).frozen? ⟨w.heap.size,6,none⟩=false:=blk_frozen hZ6 6;have hfc7:(w6.setCell ⟨gn,1,none⟩ (.int .i64 x)).cell? ⟨w.heap.size,7,none⟩=some (.int .i64 0):=blk_cell hZ6 7;have hf7:(w6.setCell ⟨gn,1,none⟩ (.int .i64 x)).frozen? ⟨w.heap.size,7,none⟩=false:=blk_frozen hZ6 7;have hfc8:(w6.setCell ⟨gn,1,none⟩ (.int .i64 x)).cell? ⟨w.heap.size,8,none⟩=some (.int .i64 0):=blk_cell hZ6 8;have hf8:(w6.setCell ⟨gn,1,none⟩ (.int .i64 x)).frozen? ⟨w.heap.size,8,none⟩=false:=blk_frozen hZ6 8;have hfc9:(w6.setCell ⟨gn,1,none⟩ (.int .i64 x)).cell? ⟨w.heap.size,9,none⟩=some (.string (⟨#[]⟩:ByteArray)):=blk_cell hZ6 9;have hf9:(w6.setCell ⟨gn,1,none⟩ (.int .i64 x)).frozen? ⟨w.heap.size,9,none⟩=false:=blk_frozen hZ6 9;have hfc10:(w6.setCell ⟨gn,1,none⟩ (.int .i64 x)).cell? ⟨w.heap.size,10,none⟩=some (.string (⟨#[]⟩:ByteArray)):=blk_cell hZ6 10;have hf10:(w6.setCell ⟨gn,1,none⟩ (.int .i64 x)).frozen? ⟨w.heap.size,10,none⟩=false:=blk_frozen hZ6 10;have hfc11:(w6.setCell ⟨gn,1,none⟩ (.int .i64 x)).cell? ⟨w.heap.size,11,none⟩=some (.string (⟨#[]⟩:ByteArray)):=blk_cell hZ6 11;have hf11:(w6.setCell ⟨gn,1,none⟩ (.int .i64 x)).frozen? ⟨w.heap.size,11,none⟩=false:=blk_frozen hZ6 11;have hfc12:(w6.setCell ⟨gn,1,none⟩ (.int .i64 x)).cell? ⟨w.heap.size,12,none⟩=some (.string (⟨#[]⟩:ByteArray)):=blk_cell hZ6 12;have hf12:(w6.setCell ⟨gn,1,none⟩ (.int .i64 x)).frozen? ⟨w.heap.size,12,none⟩=false:=blk_frozen hZ6 12;have HZ6:=Aside0.mk hZ6;clear hZ6;clear hA6 hd6)
      refine bodyPost_ret (results_ct rfl _ _ w.heap.size 27 #[.int .i64 0,.int .i64 0,.int .i64 0,.string (⟨#[]⟩:ByteArray),.int .i64 0,.int .i64 0,.int .i64 0,.int .i64 0,.int .i64 0,.string (⟨#[]⟩:ByteArray),.string (⟨#[]⟩:ByteArray),.string (⟨#[]⟩:ByteArray),.string (⟨#[]⟩:ByteArray)] (0,0) _ rfl (blk_put (cs:=#[.int .i64 0,.int .i64 0,.int .i64 0,.string (⟨#[]⟩:ByteArray),.int .i64 0,.int .i64 0,.int .i64 0,.int .i64 0,.int .i64 0,.string (⟨#[]⟩:ByteArray),.string (⟨#[]⟩:ByteArray),.string (⟨#[]⟩:ByteArray),.string (⟨#[]⟩:ByteArray)]) (blk_put (cs:=#[.int .i64 0,.int .i64 0,.int .i64 0,.string (⟨#[]⟩:ByteArray),.int .i64 0,.int .i64 0,.int .i64 0,.int .i64 0,.int .i64 0,.string (⟨#[]⟩:ByteArray),.string (⟨#[]⟩:ByteArray),.string (⟨#[]⟩:ByteArray),.string (⟨#[]⟩:ByteArray)]) (blk_put (cs:=#[.int .i64 0,.int .i64 0,.int .i64 0,.string (⟨#[]⟩:ByteArray),.int .i64 0,.int .i64 0,.int .i64 0,.int .i64 0,.int .i64 0,.string (⟨#[]⟩:ByteArray),.string (⟨#[]⟩:ByteArray),.string (⟨#[]⟩:ByteArray),.string (⟨#[]⟩:ByteArray)]) (blk_put (cs:=#[.int .i64 0,.int .i64 0,.int .i64 0,.string (⟨#[]⟩:ByteArray),.int .i64 0,.int .i64 0,.int .i64 0,.int .i64 0,.int .i64 0,.string (⟨#[]⟩:ByteArray),.string (⟨#[]⟩:ByteArray),.string (⟨#[]⟩:ByteArray),.string (⟨#[]⟩:ByteArray)]) (blk_put (cs:=#[.int .i64 0,.int .i64 0,.int .i64 0,.string (⟨#[]⟩:ByteArray),.int .i64 0,.int .i64 0,.int .i64 0,.int .i64 0,.int .i64 0,.string (⟨#[]⟩:ByteArray),.string (⟨#[]⟩:ByteArray),.string (⟨#[]⟩:ByteArray),.string (⟨#[]⟩:ByteArray)]) (blk_put (cs:=#[.int .i64 0,.int .i64 0,.int .i64 0,.string (⟨#[]⟩:ByteArray),.int .i64 0,.int .i64 0,.int .i64 0,.int .i64 0,.int .i64 0,.string (⟨#[]⟩:ByteArray),.string (⟨#[]⟩:ByteArray),.string (⟨#[]⟩:ByteArray),.string (⟨#[]⟩:ByteArray)]) (blk_put (cs:=#[.int .i64 0,.int .i64 0,.int .i64 0,.string (⟨#[]⟩:ByteArray),.int .i64 0,.int .i64 0,.int .i64 0,.int .i64 0,.int .i64 0,.string (⟨#[]⟩:ByteArray),.string (⟨#[]⟩:ByteArray),.string (⟨#[]⟩:ByteArray),.string (⟨#[]⟩:ByteArray)]) (blk_put (cs:=#[.int .i64 0,.int .i64 0,.int .i64 0,.string (⟨#[]⟩:ByteArray),.int .i64 0,.int .i64 0,.int .i64 0,.int .i64 0,.int .i64 0,.string (⟨#[]⟩:ByteArray),.string (⟨#[]⟩:ByteArray),.string (⟨#[]⟩:ByteArray),.string (⟨#[]⟩:ByteArray)]) (blk_put (cs:=#[.int .i64 0,.int .i64 0,.int .i64 0,.string (⟨#[]⟩:ByteArray),.int .i64 0,.int .i64 0,.int .i64 0,.int .i64 0,.int .i64 0,.string (⟨#[]⟩:ByteArray),.string (⟨#[]⟩:ByteArray),.string (⟨#[]⟩:ByteArray),.string (⟨#[]⟩:ByteArray)]) (blk_put (cs:=#[.int .i64 0,.int .i64 0,.int .i64 0,.string (⟨#[]⟩:ByteArray),.int .i64 0,.int .i64 0,.int .i64 0,.int .i64 0,.int .i64 0,.string (⟨#[]⟩:ByteArray),.string (⟨#[]⟩:ByteArray),.string (⟨#[]⟩:ByteArray),.string (⟨#[]⟩:ByteArray)]) (blk_put (cs:=#[.int .i64 0,.int .i64 0,.int .i64 0,.string (⟨#[]⟩:ByteArray),.int .i64 0,.int .i64 0,.int .i64 0,.int .i64 0,.int .i64 0,.string (⟨#[]⟩:ByteArray),.string (⟨#[]⟩:ByteArray),.string (⟨#[]⟩:ByteArray),.string (⟨#[]⟩:ByteArray)]) (blk_put (cs:=#[.int .i64 0,.int .i64 0,.int .i64 0,.string (⟨#[]⟩:ByteArray),.int .i64 0,.int .i64 0,.int .i64 0,.int .i64 0,.int .i64 0,.string (⟨#[]⟩:ByteArray),.string (⟨#[]⟩:ByteArray),.string (⟨#[]⟩:ByteArray),.string (⟨#[]⟩:ByteArray)]) (blk_put (cs:=#[.int .i64 0,.int .i64 0,.int .i64 0,.string (⟨#[]⟩:ByteArray),.int .i64 0,.int .i64 0,.int .i64 0,.int .i64 0,.int .i64 0,.string (⟨#[]⟩:ByteArray),.string (⟨#[]⟩:ByteArray),.string (⟨#[]⟩:ByteArray),.string (⟨#[]⟩:ByteArray)]) (HZ6.out) 0 _ rfl) 1 _ rfl) 2 _ rfl) 3 _ rfl) 4 _ rfl) 5 _ rfl) 6 _ rfl) 7 _ rfl) 8 _ rfl) 9 _ rfl) 10 _ rfl) 11 _ rfl) 12 _ rfl) Tryd.underlying27 rfl (by kernel_rfl)) rfl ⟨rfl,?_⟩
      exact (Below.setCell (Below.setCell (Below.setCell (Below.setCell (Below.setCell (Below.setCell (Below.setCell (Below.setCell (Below.setCell (Below.setCell (Below.setCell (Below.setCell (Below.setCell (Below.setCell (below_step HBr.out HB7.out) (p:=⟨gn,1,none⟩) (Nat.le_of_lt HLT.out) (.int .i64 x)) (p:=⟨w.heap.size,0,none⟩) (by first|exact Nat.le_refl _|exact Nat.le_succ _) _) (p:=⟨w.heap.size,1,none⟩) (by first|exact Nat.le_refl _|exact Nat.le_succ _) _) (p:=⟨w.heap.size,2,none⟩) (by first|exact Nat.le_refl _|exact Nat.le_succ _) _) (p:=⟨w.heap.size,3,none⟩) (by first|exact Nat.le_refl _|exact Nat.le_succ _) _) (p:=⟨w.heap.size,4,none⟩) (by first|exact Nat.le_refl _|exact Nat.le_succ _) _) (p:=⟨w.heap.size,5,none⟩) (by first|exact Nat.le_refl _|exact Nat.le_succ _) _) (p:=⟨w.heap.size,6,none⟩) (by first|exact Nat.le_refl _|exact Nat.le_succ _) _) (p:=⟨w.heap.size,7,none⟩) (by first|exact Nat.le_refl _|exact Nat.le_succ _) _) (p:=⟨w.heap.size,8,none⟩) (by first|exact Nat.le_refl _|exact Nat.le_succ _) _) (p:=⟨w.heap.size,9,none⟩) (by first|exact Nat.le_refl _|exact Nat.le_succ _) _) (p:=⟨w.heap.size,10,none⟩) (by first|exact Nat.le_refl _|exact Nat.le_succ _) _) (p:=⟨w.heap.size,11,none⟩) (by first|exact Nat.le_refl _|exact Nat.le_succ _) _) (p:=⟨w.heap.size,12,none⟩) (by first|exact Nat.le_refl _|exact Nat.le_succ _) _)
    ·obtain ⟨⟨x,e⟩,hq,hh⟩:=Option.bind_eq_some_iff.1 HP.out
     dsimp only at hh
     have hst:wr.cell? ⟨gL,2,none⟩=some (.string (rfS l 2)):=kt_cell HKr.out HCUR.out 2 (HCS.out 2 (by omega))
     have HQ:=Aside0.mk hq
     clear hq
     by_cases c:e=0
     ·subst c
      rw [if_pos rfl] at hh
      have HH:=Aside0.mk hh
      clear hh
      go_wp2_with (go_at_call 33;refine (contangoref03_Int.calls k (rfS l 2) x 0 _ HQ.out).mono ?_;rintro e6 w6 ⟨rfl,hd6⟩;have HB7:=Aside0.mk hd6.below;have hA6:=blk_below HAr.out HB7.out;have ha6:w6.cell? ⟨gn,2,none⟩=some (.int .i64 t.f2):=blk_cell hA6 2;have hf6:w6.frozen? ⟨gn,2,none⟩=false:=blk_frozen hA6 2;clear hA6 hd6)
      go_roundg (gk - 1)
      case measure=>have:=HK.out;omega
      case rel=>exact ⟨3,{ t with f2:=x },by go_num,⟨by have:=HK.out;omega⟩,HH,HTF,⟨(blk_put (cs:=#[.int .i64 t.f0,.int .i64 t.f1,.int .i64 t.f2,.int .i64 0,.int .i64 t.f4,.int .i64 t.f5]) (blk_below HAr.out HB7.out) 2 (.int .i64 x) rfl)⟩,⟨(blk_far (blk_below HXr.out HB7.out) (Nat.ne_of_gt HNX.out) (.int .i64 x))⟩,⟨(blk_far (blk_below HZr.out HB7.out) (Nat.ne_of_lt HLT.out) (.int .i64 x))⟩,⟨(KT.setCell (KT.below HKr.out HB7.out) (blk_below HAr.out HB7.out) (by decide) (.int .i64 x))⟩,⟨(Below.setCell (below_step HBr.out HB7.out) (p:=⟨gn,2,none⟩) (Nat.le_of_lt HLT.out) (.int .i64 x))⟩⟩
     ·rw [if_neg c] at hh
      obtain rfl:=Option.some.inj hh
      have hz:(e != 0)=true:=bne_iff_ne.2 c
      clear hh c
      go_wp2_with (go_at_call 33;refine (contangoref03_Int.calls k (rfS l 2) x e _ HQ.out).mono ?_;rintro e6 w6 ⟨rfl,hd6⟩;have HB7:=Aside0.mk hd6.below;have hA6:=blk_below HAr.out HB7.out;have ha6:w6.cell? ⟨gn,2,none⟩=some (.int .i64 t.f2):=blk_cell hA6 2;have hf6:w6.frozen? ⟨gn,2,none⟩=false:=blk_frozen hA6 2;have hZ6:(w6.setCell ⟨gn,2,none⟩ (.int .i64 x)).heap[w.heap.size]? = some (.cells #[.int .i64 0,.int .i64 0,.int .i64 0,.string (⟨#[]⟩:ByteArray),.int .i64 0,.int .i64 0,.int .i64 0,.int .i64 0,.int .i64 0,.string (⟨#[]⟩:ByteArray),.string (⟨#[]⟩:ByteArray),.string (⟨#[]⟩:ByteArray),.string (⟨#[]⟩:ByteArray)] 27 (0,0)):=(blk_far (blk_below HZr.out HB7.out) (Nat.ne_of_lt HLT.out) (.int .i64 x));have hfc0:(w6.setCell ⟨gn,2,none⟩ (.int .i64 x)).cell? ⟨w.heap.size,0,none⟩=some (.int .i64 0):=blk_cell hZ6 0;have hf0:(w6.setCell ⟨gn,2,none⟩ (.int .i64 x)).frozen? ⟨w.heap.size,0,none⟩=false:=blk_frozen hZ6 0;have hfc1:(w6.setCell ⟨gn,2,none⟩ (.int .i64 x)).cell? ⟨w.heap.size,1,none⟩=some (.int .i64 0):=blk_cell hZ6 1;have hf1:(w6.setCell ⟨gn,2,none⟩ (.int .i64 x)).frozen? ⟨w.heap.size,1,none⟩=false:=blk_frozen hZ6 1;have hfc2:(w6.setCell ⟨gn,2,none⟩ (.int .i64 x)).cell? ⟨w.heap.size,2,none⟩=some (.int .i64 0):=blk_cell hZ6 2;have hf2:(w6.setCell ⟨gn,2,none⟩ (.int .i64 x)).frozen? ⟨w.heap.size,2,none⟩=false:=blk_frozen hZ6 2;have hfc3:(w6.setCell ⟨gn,2,none⟩ (.int .i64 x)).cell? ⟨w.heap.size,3,none⟩=some (.string (⟨#[]⟩:ByteArray)):=blk_cell hZ6 3;have hf3:(w6.setCell ⟨gn,2,none⟩ (.int .i64 x)).frozen? ⟨w.heap.size,3,none⟩=false:=blk_frozen hZ6 3;have hfc4:(w6.setCell ⟨gn,2,none⟩ (.int .i64 x)).cell? ⟨w.heap.size,4,none⟩=some (.int .i64 0):=blk_cell hZ6 4;have hf4:(w6.setCell ⟨gn,2,none⟩ (.int .i64 x)).frozen? ⟨w.heap.size,4,none⟩=false:=blk_frozen hZ6 4;have hfc5:(w6.setCell ⟨gn,2,none⟩ (.int .i64 x)).cell? ⟨w.heap.size,5,none⟩=some (.int .i64 0):=blk_cell hZ6 5;have hf5:(w6.setCell ⟨gn,2,none⟩ (.int .i64 x)).frozen? ⟨w.heap.size,5,none⟩=false:=blk_frozen hZ6 5;have hfc6:(w6.setCell ⟨gn,2,none⟩ (.int .i64 x)).cell? ⟨w.heap.size,6,none⟩=some (.int .i64 0):=blk_cell hZ6 6;have hf6:(w6.setCell ⟨gn,2,none⟩ (.int .i64 x)).frozen? ⟨w.heap.size,6,none⟩=false:=blk_frozen hZ6 6;have hfc7:(w6.setCell ⟨gn,2,none⟩ (.int .i64 x)).cell? ⟨w.heap.size,7,none⟩=some (.int .i64 0):=blk_cell hZ6 7;have hf7:(w6.setCell ⟨gn,2,none⟩ (.int .i64 x)).frozen? ⟨w.heap.size,7,none⟩=false:=blk_frozen hZ6 7;have hfc8:(w6.setCell ⟨gn,2,none⟩ (.int .i64 x)).cell? ⟨w.heap.size,8,none⟩=some (.int .i64 0):=blk_cell hZ6 8;have hf8:(w6.setCell ⟨gn,2,none⟩ (.int .i64 x)).frozen? ⟨w.heap.size,8,none⟩=false:=blk_frozen hZ6 8;have hfc9:(w6.setCell ⟨gn,2,none⟩ (.int .i64 x)).cell? ⟨w.heap.size,9,none⟩=some (.string (⟨#[]⟩:ByteArray)):=blk_cell hZ6 9;have hf9:(w6.setCell ⟨gn,2,none⟩ (.int .i64 x)).frozen? ⟨w.heap.size,9,none⟩=false:=blk_frozen hZ6 9;have hfc10:(w6.setCell ⟨gn,2,none⟩ (.int .i64 x)).cell? ⟨w.heap.size,10,none⟩=some (.string (⟨#[]⟩:ByteArray)):=blk_cell hZ6 10;have hf10:(w6.setCell ⟨gn,2,none⟩ (.int .i64 x)).frozen? ⟨w.heap.size,10,none⟩=false:=blk_frozen hZ6 10;have hfc11:(w6.setCell ⟨gn,2,none⟩ (.int .i64 x)).cell? ⟨w.heap.size,11,none⟩=some (.string (⟨#[]⟩:ByteArray)):=blk_cell hZ6 11;have hf11:(w6.setCell ⟨gn,2,none⟩ (.int .i64 x)).frozen? ⟨w.heap.size,11,none⟩=false:=blk_frozen hZ6 11;have hfc12:(w6.setCell ⟨gn,2,none⟩ (.int .i64 x)).cell? ⟨w.heap.size,12,none⟩=some (.string (⟨#[]⟩:ByteArray)):=blk_cell hZ6 12;have hf12:(w6.setCell ⟨gn,2,none⟩ (.int .i64 x)).frozen? ⟨w.heap.size,12,none⟩=false:=blk_frozen hZ6 12;have HZ6:=Aside0.mk hZ6;clear hZ6;clear hA6 hd6)
      refine bodyPost_ret (results_ct rfl _ _ w.heap.size 27 #[.int .i64 0,.int .i64 0,.int .i64 0,.string (⟨#[]⟩:ByteArray),.int .i64 0,.int .i64 0,.int .i64 0,.int .i64 0,.int .i64 0,.string (⟨#[]⟩:ByteArray),.string (⟨#[]⟩:ByteArray),.string (⟨#[]⟩:ByteArray),.string (⟨#[]⟩:ByteArray)] (0,0) _ rfl (blk_put (cs:=#[.int .i64 0,.int .i64 0,.int .i64 0,.string (⟨#[]⟩:ByteArray),.int .i64 0,.int .i64 0,.int .i64 0,.int .i64 0,.int .i64 0,.string (⟨#[]⟩:ByteArray),.string (⟨#[]⟩:ByteArray),.string (⟨#[]⟩:ByteArray),.string (⟨#[]⟩:ByteArray)]) (blk_put (cs:=#[.int .i64 0,.int .i64 0,.int .i64 0,.string (⟨#[]⟩:ByteArray),.int .i64 0,.int .i64 0,.int .i64 0,.int .i64 0,.int .i64 0,.string (⟨#[]⟩:ByteArray),.string (⟨#[]⟩:ByteArray),.string (⟨#[]⟩:ByteArray),.string (⟨#[]⟩:ByteArray)]) (blk_put (cs:=#[.int .i64 0,.int .i64 0,.int .i64 0,.string (⟨#[]⟩:ByteArray),.int .i64 0,.int .i64 0,.int .i64 0,.int .i64 0,.int .i64 0,.string (⟨#[]⟩:ByteArray),.string (⟨#[]⟩:ByteArray),.string (⟨#[]⟩:ByteArray),.string (⟨#[]⟩:ByteArray)]) (blk_put (cs:=#[.int .i64 0,.int .i64 0,.int .i64 0,.string (⟨#[]⟩:ByteArray),.int .i64 0,.int .i64 0,.int .i64 0,.int .i64 0,.int .i64 0,.string (⟨#[]⟩:ByteArray),.string (⟨#[]⟩:ByteArray),.string (⟨#[]⟩:ByteArray),.string (⟨#[]⟩:ByteArray)]) (blk_put (cs:=#[.int .i64 0,.int .i64 0,.int .i64 0,.string (⟨#[]⟩:ByteArray),.int .i64 0,.int .i64 0,.int .i64 0,.int .i64 0,.int .i64 0,.string (⟨#[]⟩:ByteArray),.string (⟨#[]⟩:ByteArray),.string (⟨#[]⟩:ByteArray),.string (⟨#[]⟩:ByteArray)]) (blk_put (cs:=#[.int .i64 0,.int .i64 0,.int .i64 0,.string (⟨#[]⟩:ByteArray),.int .i64 0,.int .i64 0,.int .i64 0,.int .i64 0,.int .i64 0,.string (⟨#[]⟩:ByteArray),.string (⟨#[]⟩:ByteArray),.string (⟨#[]⟩:ByteArray),.string (⟨#[]⟩:ByteArray)]) (blk_put (cs:=#[.int .i64 0,.int .i64 0,.int .i64 0,.string (⟨#[]⟩:ByteArray),.int .i64 0,.int .i64 0,.int .i64 0,.int .i64 0,.int .i64 0,.string (⟨#[]⟩:ByteArray),.string (⟨#[]⟩:ByteArray),.string (⟨#[]⟩:ByteArray),.string (⟨#[]⟩:ByteArray)]) (blk_put (cs:=#[.int .i64 0,.int .i64 0,.int .i64 0,.string (⟨#[]⟩:ByteArray),.int .i64 0,.int .i64 0,.int .i64 0,.int .i64 0,.int .i64 0,.string (⟨#[]⟩:ByteArray),.string (⟨#[]⟩:ByteArray),.string (⟨#[]⟩:ByteArray),.string (⟨#[]⟩:ByteArray)]) (blk_put (cs:=#[.int .i64 0,.int .i64 0,.int .i64 0,.string (⟨#[]⟩:ByteArray),.int .i64 0,.int .i64 0,.int .i64 0,.int .i64 0,.int .i64 0,.string (⟨#[]⟩:ByteArray),.string (⟨#[]⟩:ByteArray),.string (⟨#[]⟩:ByteArray),.string (⟨#[]⟩:ByteArray)]) (blk_put (cs:=#[.int .i64 0,.int .i64 0,.int .i64 0,.string (⟨#[]⟩:ByteArray),.int .i64 0,.int .i64 0,.int .i64 0,.int .i64 0,.int .i64 0,.string (⟨#[]⟩:ByteArray),.string (⟨#[]⟩:ByteArray),.string (⟨#[]⟩:ByteArray),.string (⟨#[]⟩:ByteArray)]) (blk_put (cs:=#[.int .i64 0,.int .i64 0,.int .i64 0,.string (⟨#[]⟩:ByteArray),.int .i64 0,.int .i64 0,.int .i64 0,.int .i64 0,.int .i64 0,.string (⟨#[]⟩:ByteArray),.string (⟨#[]⟩:ByteArray),.string (⟨#[]⟩:ByteArray),.string (⟨#[]⟩:ByteArray)]) (blk_put (cs:=#[.int .i64 0,.int .i64 0,.int .i64 0,.string (⟨#[]⟩:ByteArray),.int .i64 0,.int .i64 0,.int .i64 0,.int .i64 0,.int .i64 0,.string (⟨#[]⟩:ByteArray),.string (⟨#[]⟩:ByteArray),.string (⟨#[]⟩:ByteArray),.string (⟨#[]⟩:ByteArray)]) (blk_put (cs:=#[.int .i64 0,.int .i64 0,.int .i64 0,.string (⟨#[]⟩:ByteArray),.int .i64 0,.int .i64 0,.int .i64 0,.int .i64 0,.int .i64 0,.string (⟨#[]⟩:ByteArray),.string (⟨#[]⟩:ByteArray),.string (⟨#[]⟩:ByteArray),.string (⟨#[]⟩:ByteArray)]) (HZ6.out) 0 _ rfl) 1 _ rfl) 2 _ rfl) 3 _ rfl) 4 _ rfl) 5 _ rfl) 6 _ rfl) 7 _ rfl) 8 _ rfl) 9 _ rfl) 10 _ rfl) 11 _ rfl) 12 _ rfl) Tryd.underlying27 rfl (by kernel_rfl)) rfl ⟨rfl,?_⟩
      exact (Below.setCell (Below.setCell (Below.setCell (Below.setCell (Below.setCell (Below.setCell (Below.setCell (Below.setCell (Below.setCell (Below.setCell (Below.setCell (Below.setCell (Below.setCell (Below.setCell (below_step HBr.out HB7.out) (p:=⟨gn,2,none⟩) (Nat.le_of_lt HLT.out) (.int .i64 x)) (p:=⟨w.heap.size,0,none⟩) (by first|exact Nat.le_refl _|exact Nat.le_succ _) _) (p:=⟨w.heap.size,1,none⟩) (by first|exact Nat.le_refl _|exact Nat.le_succ _) _) (p:=⟨w.heap.size,2,none⟩) (by first|exact Nat.le_refl _|exact Nat.le_succ _) _) (p:=⟨w.heap.size,3,none⟩) (by first|exact Nat.le_refl _|exact Nat.le_succ _) _) (p:=⟨w.heap.size,4,none⟩) (by first|exact Nat.le_refl _|exact Nat.le_succ _) _) (p:=⟨w.heap.size,5,none⟩) (by first|exact Nat.le_refl _|exact Nat.le_succ _) _) (p:=⟨w.heap.size,6,none⟩) (by first|exact Nat.le_refl _|exact Nat.le_succ _) _) (p:=⟨w.heap.size,7,none⟩) (by first|exact Nat.le_refl _|exact Nat.le_succ _) _) (p:=⟨w.heap.size,8,none⟩) (by first|exact Nat.le_refl _|exact Nat.le_succ _) _) (p:=⟨w.heap.size,9,none⟩) (by first|exact Nat.le_refl _|exact Nat.le_succ _) _) (p:=⟨w.heap.size,10,none⟩) (by first|exact Nat.le_refl _|exact Nat.le_succ _) _) (p:=⟨w.heap.size,11,none⟩) (by first|exact Nat.le_refl _|exact Nat.le_succ _) _) (p:=⟨w.heap.size,12,none⟩) (by first|exact Nat.le_refl _|exact Nat.le_succ _) _)
    ·obtain ⟨⟨x1,x2,x3,x4,e⟩,hq,hh⟩:=Option.bind_eq_some_iff.1 HP.out
     dsimp only at hh
     have hst:wr.cell? ⟨gL,3,none⟩=some (.string (rfS l 3)):=kt_cell HKr.out HCUR.out 3 (HCS.out 3 (by omega))
     have HQ:=Aside0.mk hq
     clear hq
     by_cases c:e=0
     ·subst c
      rw [if_pos rfl] at hh
      have HH:=Aside0.mk hh
      clear hh
      go_wp2_with (go_at_call 32;refine (contangoref10_Parse.calls k (rfS l 3) x1 x2 x3 x4 0 _ HQ.out).mono ?_;rintro e6 w6 ⟨rfl,hd6⟩;have HB7:=Aside0.mk hd6;have hX6:=blk_below HXr.out HB7.out;have hx6_0:w6.cell? ⟨gx,0,none⟩=some (.string t.f3.f0):=blk_cell hX6 0;have hf6_0:w6.frozen? ⟨gx,0,none⟩=false:=blk_frozen hX6 0;have hx6_1:w6.cell? ⟨gx,1,none⟩=some (.int .i64 t.f3.f1):=blk_cell hX6 1;have hf6_1:w6.frozen? ⟨gx,1,none⟩=false:=blk_frozen hX6 1;have hx6_2:w6.cell? ⟨gx,2,none⟩=some (.int .i64 t.f3.f2):=blk_cell hX6 2;have hf6_2:w6.frozen? ⟨gx,2,none⟩=false:=blk_frozen hX6 2;have hx6_3:w6.cell? ⟨gx,3,none⟩=some (.int .i64 t.f3.f3):=blk_cell hX6 3;have hf6_3:w6.frozen? ⟨gx,3,none⟩=false:=blk_frozen hX6 3;clear hX6 hd6)
      go_roundg (gk - 1)
      case measure=>have:=HK.out;omega
      case rel=>exact ⟨4,{ t with f3:=⟨x1,x2,x3,x4⟩ },by go_num,⟨by have:=HK.out;omega⟩,HH,HTF,⟨(blk_far (blk_far (blk_far (blk_far (blk_below HAr.out HB7.out) (Nat.ne_of_lt HNX.out) (.string x1)) (Nat.ne_of_lt HNX.out) (.int .i64 x2)) (Nat.ne_of_lt HNX.out) (.int .i64 x3)) (Nat.ne_of_lt HNX.out) (.int .i64 x4))⟩,⟨(blk_put (cs:=#[.string x1,.int .i64 x2,.int .i64 x3,.int .i64 t.f3.f3]) (blk_put (cs:=#[.string x1,.int .i64 x2,.int .i64 t.f3.f2,.int .i64 t.f3.f3]) (blk_put (cs:=#[.string x1,.int .i64 t.f3.f1,.int .i64 t.f3.f2,.int .i64 t.f3.f3]) (blk_put (cs:=#[.string t.f3.f0,.int .i64 t.f3.f1,.int .i64 t.f3.f2,.int .i64 t.f3.f3]) (blk_below HXr.out HB7.out) 0 (.string x1) rfl) 1 (.int .i64 x2) rfl) 2 (.int .i64 x3) rfl) 3 (.int .i64 x4) rfl)⟩,⟨(blk_far (blk_far (blk_far (blk_far (blk_below HZr.out HB7.out) (Nat.ne_of_lt (Nat.lt_trans HLT.out HNX.out)) (.string x1)) (Nat.ne_of_lt (Nat.lt_trans HLT.out HNX.out)) (.int .i64 x2)) (Nat.ne_of_lt (Nat.lt_trans HLT.out HNX.out)) (.int .i64 x3)) (Nat.ne_of_lt (Nat.lt_trans HLT.out HNX.out)) (.int .i64 x4))⟩,⟨(KT.setCell (KT.setCell (KT.setCell (KT.setCell (KT.below HKr.out HB7.out) (blk_below HXr.out HB7.out) (by decide) (.string x1)) (blk_put (cs:=#[.string t.f3.f0,.int .i64 t.f3.f1,.int .i64 t.f3.f2,.int .i64 t.f3.f3]) (blk_below HXr.out HB7.out) 0 (.string x1) rfl) (by decide) (.int .i64 x2)) (blk_put (cs:=#[.string x1,.int .i64 t.f3.f1,.int .i64 t.f3.f2,.int .i64 t.f3.f3]) (blk_put (cs:=#[.string t.f3.f0,.int .i64 t.f3.f1,.int .i64 t.f3.f2,.int .i64 t.f3.f3]) (blk_below HXr.out HB7.out) 0 (.string x1) rfl) 1 (.int .i64 x2) rfl) (by decide) (.int .i64 x3)) (blk_put (cs:=#[.string x1,.int .i64 x2,.int .i64 t.f3.f2,.int .i64 t.f3.f3]) (blk_put (cs:=#[.string x1,.int .i64 t.f3.f1,.int .i64 t.f3.f2,.int .i64 t.f3.f3]) (blk_put (cs:=#[.string t.f3.f0,.int .i64 t.f3.f1,.int .i64 t.f3.f2,.int .i64 t.f3.f3]) (blk_below HXr.out HB7.out) 0 (.string x1) rfl) 1 (.int .i64 x2) rfl) 2 (.int .i64 x3) rfl) (by decide) (.int .i64 x4))⟩,⟨(Below.setCell (Below.setCell (Below.setCell (Below.setCell (below_step HBr.out HB7.out) (p:=⟨gx,0,none⟩) (Nat.le_of_lt (Nat.lt_trans HLT.out HNX.out)) (.string x1)) (p:=⟨gx,1,none⟩) (Nat.le_of_lt (Nat.lt_trans HLT.out HNX.out)) (.int .i64 x2)) (p:=⟨gx,2,none⟩) (Nat.le_of_lt (Nat.lt_trans HLT.out HNX.out)) (.int .i64 x3)) (p:=⟨gx,3,none⟩) (Nat.le_of_lt (Nat.lt_trans HLT.out HNX.out)) (.int .i64 x4))⟩⟩
     ·rw [if_neg c] at hh
      obtain rfl:=Option.some.inj hh
      have hz:(e != 0)=true:=bne_iff_ne.2 c
      clear hh c
      go_wp2_with (go_at_call 32;refine (contangoref10_Parse.calls k (rfS l 3) x1 x2 x3 x4 e _ HQ.out).mono ?_;rintro e6 w6 ⟨rfl,hd6⟩;have HB7:=Aside0.mk hd6;have hX6:=blk_below HXr.out HB7.out;have hx6_0:w6.cell? ⟨gx,0,none⟩=some (.string t.f3.f0):=blk_cell hX6 0;have hf6_0:w6.frozen? ⟨gx,0,none⟩=false:=blk_frozen hX6 0;have hx6_1:w6.cell? ⟨gx,1,none⟩=some (.int .i64 t.f3.f1):=blk_cell hX6 1;have hf6_1:w6.frozen? ⟨gx,1,none⟩=false:=blk_frozen hX6 1;have hx6_2:w6.cell? ⟨gx,2,none⟩=some (.int .i64 t.f3.f2):=blk_cell hX6 2;have hf6_2:w6.frozen? ⟨gx,2,none⟩=false:=blk_frozen hX6 2;have hx6_3:w6.cell? ⟨gx,3,none⟩=some (.int .i64 t.f3.f3):=blk_cell hX6 3;have hf6_3:w6.frozen? ⟨gx,3,none⟩=false:=blk_frozen hX6 3;have hZ6:((((w6.setCell ⟨gx,0,none⟩ (.string x1)).setCell ⟨gx,1,none⟩ (.int .i64 x2)).setCell ⟨gx,2,none⟩ (.int .i64 x3)).setCell ⟨gx,3,none⟩ (.int .i64 x4)).heap[w.heap.size]? = some (.cells #[.int .i64 0,.int .i64 0,.int .i64 0,.string (⟨#[]⟩:ByteArray),.int .i64 0,.int .i64 0,.int .i64 0,.int .i64 0,.int .i64 0,.string (⟨#[]⟩:ByteArray),.string (⟨#[]⟩:ByteArray),.string (⟨#[]⟩:ByteArray),.string (⟨#[]⟩:ByteArray)] 27 (0,0)):=(blk_far (blk_far (blk_far (blk_far (blk_below HZr.out HB7.out) (Nat.ne_of_lt (Nat.lt_trans HLT.out HNX.out)) (.string x1)) (Nat.ne_of_lt (Nat.lt_trans HLT.out HNX.out)) (.int .i64 x2)) (Nat.ne_of_lt (Nat.lt_trans HLT.out HNX.out)) (.int .i64 x3)) (Nat.ne_of_lt (Nat.lt_trans HLT.out HNX.out)) (.int .i64 x4));have hfc0:((((w6.setCell ⟨gx,0,none⟩ (.string x1)).setCell ⟨gx,1,none⟩ (.int .i64 x2)).setCell ⟨gx,2,none⟩ (.int .i64 x3)).setCell ⟨gx,3,none⟩ (.int .i64 x4)).cell? ⟨w.heap.size,0,none⟩=some (.int .i64 0):=blk_cell hZ6 0;have hf0:((((w6.setCell ⟨gx,0,none⟩ (.string x1)).setCell ⟨gx,1,none⟩ (.int .i64 x2)).setCell ⟨gx,2,none⟩ (.int .i64 x3)).setCell ⟨gx,3,none⟩ (.int .i64 x4)).frozen? ⟨w.heap.size,0,none⟩=false:=blk_frozen hZ6 0;have hfc1:((((w6.setCell ⟨gx,0,none⟩ (.string x1)).setCell ⟨gx,1,none⟩ (.int .i64 x2)).setCell ⟨gx,2,none⟩ (.int .i64 x3)).setCell ⟨gx,3,none⟩ (.int .i64 x4)).cell? ⟨w.heap.size,1,none⟩=some (.int .i64 0):=blk_cell hZ6 1;have hf1:((((w6.setCell ⟨gx,0,none⟩ (.string x1)).setCell ⟨gx,1,none⟩ (.int .i64 x2)).setCell ⟨gx,2,none⟩ (.int .i64 x3)).setCell ⟨gx,3,none⟩ (.int .i64 x4)).frozen? ⟨w.heap.size,1,none⟩=false:=blk_frozen hZ6 1;have hfc2:((((w6.setCell ⟨gx,0,none⟩ (.string x1)).setCell ⟨gx,1,none⟩ (.int .i64 x2)).setCell ⟨gx,2,none⟩ (.int .i64 x3)).setCell ⟨gx,3,none⟩ (.int .i64 x4)).cell? ⟨w.heap.size,2,none⟩=some (.int .i64 0):=blk_cell hZ6 2;have hf2:((((w6.setCell ⟨gx,0,none⟩ (.string x1)).setCell ⟨gx,1,none⟩ (.int .i64 x2)).setCell ⟨gx,2,none⟩ (.int .i64 x3)).setCell ⟨gx,3,none⟩ (.int .i64 x4)).frozen? ⟨w.heap.size,2,none⟩=false:=blk_frozen hZ6 2;have hfc3:((((w6.setCell ⟨gx,0,none⟩ (.string x1)).setCell ⟨gx,1,none⟩ (.int .i64 x2)).setCell ⟨gx,2,none⟩ (.int .i64 x3)).setCell ⟨gx,3,none⟩ (.int .i64 x4)).cell? ⟨w.heap.size,3,none⟩=some (.string (⟨#[]⟩:ByteArray)):=blk_cell hZ6 3;have hf3:((((w6.setCell ⟨gx,0,none⟩ (.string x1)).setCell ⟨gx,1,none⟩ (.int .i64 x2)).setCell ⟨gx,2,none⟩ (.int .i64 x3)).setCell ⟨gx,3,none⟩ (.int .i64 x4)).frozen? ⟨w.heap.size,3,none⟩=false:=blk_frozen hZ6 3;have hfc4:((((w6.setCell ⟨gx,0,none⟩ (.string x1)).setCell ⟨gx,1,none⟩ (.int .i64 x2)).setCell ⟨gx,2,none⟩ (.int .i64 x3)).setCell ⟨gx,3,none⟩ (.int .i64 x4)).cell? ⟨w.heap.size,4,none⟩=some (.int .i64 0):=blk_cell hZ6 4;have hf4:((((w6.setCell ⟨gx,0,none⟩ (.string x1)).setCell ⟨gx,1,none⟩ (.int .i64 x2)).setCell ⟨gx,2,none⟩ (.int .i64 x3)).setCell ⟨gx,3,none⟩ (.int .i64 x4)).frozen? ⟨w.heap.size,4,none⟩=false:=blk_frozen hZ6 4;have hfc5:((((w6.setCell ⟨gx,0,none⟩ (.string x1)).setCell ⟨gx,1,none⟩ (.int .i64 x2)).setCell ⟨gx,2,none⟩ (.int .i64 x3)).setCell ⟨gx,3,none⟩ (.int .i64 x4)).cell? ⟨w.heap.size,5,none⟩=some (.int .i64 0):=blk_cell hZ6 5;have hf5:((((w6.setCell ⟨gx,0,none⟩ (.string x1)).setCell ⟨gx,1,none⟩ (.int .i64 x2)).setCell ⟨gx,2,none⟩ (.int .i64 x3)).setCell ⟨gx,3,none⟩ (.int .i64 x4)).frozen? ⟨w.heap.size,5,none⟩=false:=blk_frozen hZ6 5;have hfc6:((((w6.setCell ⟨gx,0,none⟩ (.string x1)).setCell ⟨gx,1,none⟩ (.int .i64 x2)).setCell ⟨gx,2,none⟩ (.int .i64 x3)).setCell ⟨gx,3,none⟩ (.int .i64 x4)).cell? ⟨w.heap.size,6,none⟩=some (.int .i64 0):=blk_cell hZ6 6;have hf6:((((w6.setCell ⟨gx,0,none⟩ (.string x1)).setCell ⟨gx,1,none⟩ (.int .i64 x2)).setCell ⟨gx,2,none⟩ (.int .i64 x3)).setCell ⟨gx,3,none⟩ (.int .i64 x4)).frozen? ⟨w.heap.size,6,none⟩=false:=blk_frozen hZ6 6;have hfc7:((((w6.setCell ⟨gx,0,none⟩ (.string x1)).setCell ⟨gx,1,none⟩ (.int .i64 x2)).setCell ⟨gx,2,none⟩ (.int .i64 x3)).setCell ⟨gx,3,none⟩ (.int .i64 x4)).cell? ⟨w.heap.size,7,none⟩=some (.int .i64 0):=blk_cell hZ6 7;have hf7:((((w6.setCell ⟨gx,0,none⟩ (.string x1)).setCell ⟨gx,1,none⟩ (.int .i64 x2)).setCell ⟨gx,2,none⟩ (.int .i64 x3)).setCell ⟨gx,3,none⟩ (.int .i64 x4)).frozen? ⟨w.heap.size,7,none⟩=false:=blk_frozen hZ6 7;have hfc8:((((w6.setCell ⟨gx,0,none⟩ (.string x1)).setCell ⟨gx,1,none⟩ (.int .i64 x2)).setCell ⟨gx,2,none⟩ (.int .i64 x3)).setCell ⟨gx,3,none⟩ (.int .i64 x4)).cell? ⟨w.heap.size,8,none⟩=some (.int .i64 0):=blk_cell hZ6 8;have hf8:((((w6.setCell ⟨gx,0,none⟩ (.string x1)).setCell ⟨gx,1,none⟩ (.int .i64 x2)).setCell ⟨gx,2,none⟩ (.int .i64 x3)).setCell ⟨gx,3,none⟩ (.int .i64 x4)).frozen? ⟨w.heap.size,8,none⟩=false:=blk_frozen hZ6 8;have hfc9:((((w6.setCell ⟨gx,0,none⟩ (.string x1)).setCell ⟨gx,1,none⟩ (.int .i64 x2)).setCell ⟨gx,2,none⟩ (.int .i64 x3)).setCell ⟨gx,3,none⟩ (.int .i64 x4)).cell? ⟨w.heap.size,9,none⟩=some (.string (⟨#[]⟩:ByteArray)):=blk_cell hZ6 9;have hf9:((((w6.setCell ⟨gx,0,none⟩ (.string x1)).setCell ⟨gx,1,none⟩ (.int .i64 x2)).setCell ⟨gx,2,none⟩ (.int .i64 x3)).setCell ⟨gx,3,none⟩ (.int .i64 x4)).frozen? ⟨w.heap.size,9,none⟩=false:=blk_frozen hZ6 9;have hfc10:((((w6.setCell ⟨gx,0,none⟩ (.string x1)).setCell ⟨gx,1,none⟩ (.int .i64 x2)).setCell ⟨gx,2,none⟩ (.int .i64 x3)).setCell ⟨gx,3,none⟩ (.int .i64 x4)).cell? ⟨w.heap.size,10,none⟩=some (.string (⟨#[]⟩:ByteArray)):=blk_cell hZ6 10;have hf10:((((w6.setCell ⟨gx,0,none⟩ (.string x1)).setCell ⟨gx,1,none⟩ (.int .i64 x2)).setCell ⟨gx,2,none⟩ (.int .i64 x3)).setCell ⟨gx,3,none⟩ (.int .i64 x4)).frozen? ⟨w.heap.size,10,none⟩=false:=blk_frozen hZ6 10;have hfc11:((((w6.setCell ⟨gx,0,none⟩ (.string x1)).setCell ⟨gx,1,none⟩ (.int .i64 x2)).setCell ⟨gx,2,none⟩ (.int .i64 x3)).setCell ⟨gx,3,none⟩ (.int .i64 x4)).cell? ⟨w.heap.size,11,none⟩=some (.string (⟨#[]⟩:ByteArray)):=blk_cell hZ6 11;have hf11:((((w6.setCell ⟨gx,0,none⟩ (.string x1)).setCell ⟨gx,1,none⟩ (.int .i64 x2)).setCell ⟨gx,2,none⟩ (.int .i64 x3)).setCell ⟨gx,3,none⟩ (.int .i64 x4)).frozen? ⟨w.heap.size,11,none⟩=false:=blk_frozen hZ6 11;have hfc12:((((w6.setCell ⟨gx,0,none⟩ (.string x1)).setCell ⟨gx,1,none⟩ (.int .i64 x2)).setCell ⟨gx,2,none⟩ (.int .i64 x3)).setCell ⟨gx,3,none⟩ (.int .i64 x4)).cell? ⟨w.heap.size,12,none⟩=some (.string (⟨#[]⟩:ByteArray)):=blk_cell hZ6 12;have hf12:((((w6.setCell ⟨gx,0,none⟩ (.string x1)).setCell ⟨gx,1,none⟩ (.int .i64 x2)).setCell ⟨gx,2,none⟩ (.int .i64 x3)).setCell ⟨gx,3,none⟩ (.int .i64 x4)).frozen? ⟨w.heap.size,12,none⟩=false:=blk_frozen hZ6 12;have HZ6:=Aside0.mk hZ6;clear hZ6;clear hX6 hd6)
      refine bodyPost_ret (results_ct rfl _ _ w.heap.size 27 #[.int .i64 0,.int .i64 0,.int .i64 0,.string (⟨#[]⟩:ByteArray),.int .i64 0,.int .i64 0,.int .i64 0,.int .i64 0,.int .i64 0,.string (⟨#[]⟩:ByteArray),.string (⟨#[]⟩:ByteArray),.string (⟨#[]⟩:ByteArray),.string (⟨#[]⟩:ByteArray)] (0,0) _ rfl (blk_put (cs:=#[.int .i64 0,.int .i64 0,.int .i64 0,.string (⟨#[]⟩:ByteArray),.int .i64 0,.int .i64 0,.int .i64 0,.int .i64 0,.int .i64 0,.string (⟨#[]⟩:ByteArray),.string (⟨#[]⟩:ByteArray),.string (⟨#[]⟩:ByteArray),.string (⟨#[]⟩:ByteArray)]) (blk_put (cs:=#[.int .i64 0,.int .i64 0,.int .i64 0,.string (⟨#[]⟩:ByteArray),.int .i64 0,.int .i64 0,.int .i64 0,.int .i64 0,.int .i64 0,.string (⟨#[]⟩:ByteArray),.string (⟨#[]⟩:ByteArray),.string (⟨#[]⟩:ByteArray),.string (⟨#[]⟩:ByteArray)]) (blk_put (cs:=#[.int .i64 0,.int .i64 0,.int .i64 0,.string (⟨#[]⟩:ByteArray),.int .i64 0,.int .i64 0,.int .i64 0,.int .i64 0,.int .i64 0,.string (⟨#[]⟩:ByteArray),.string (⟨#[]⟩:ByteArray),.string (⟨#[]⟩:ByteArray),.string (⟨#[]⟩:ByteArray)]) (blk_put (cs:=#[.int .i64 0,.int .i64 0,.int .i64 0,.string (⟨#[]⟩:ByteArray),.int .i64 0,.int .i64 0,.int .i64 0,.int .i64 0,.int .i64 0,.string (⟨#[]⟩:ByteArray),.string (⟨#[]⟩:ByteArray),.string (⟨#[]⟩:ByteArray),.string (⟨#[]⟩:ByteArray)]) (blk_put (cs:=#[.int .i64 0,.int .i64 0,.int .i64 0,.string (⟨#[]⟩:ByteArray),.int .i64 0,.int .i64 0,.int .i64 0,.int .i64 0,.int .i64 0,.string (⟨#[]⟩:ByteArray),.string (⟨#[]⟩:ByteArray),.string (⟨#[]⟩:ByteArray),.string (⟨#[]⟩:ByteArray)]) (blk_put (cs:=#[.int .i64 0,.int .i64 0,.int .i64 0,.string (⟨#[]⟩:ByteArray),.int .i64 0,.int .i64 0,.int .i64 0,.int .i64 0,.int .i64 0,.string (⟨#[]⟩:ByteArray),.string (⟨#[]⟩:ByteArray),.string (⟨#[]⟩:ByteArray),.string (⟨#[]⟩:ByteArray)]) (blk_put (cs:=#[.int .i64 0,.int .i64 0,.int .i64 0,.string (⟨#[]⟩:ByteArray),.int .i64 0,.int .i64 0,.int .i64 0,.int .i64 0,.int .i64 0,.string (⟨#[]⟩:ByteArray),.string (⟨#[]⟩:ByteArray),.string (⟨#[]⟩:ByteArray),.string (⟨#[]⟩:ByteArray)]) (blk_put (cs:=#[.int .i64 0,.int .i64 0,.int .i64 0,.string (⟨#[]⟩:ByteArray),.int .i64 0,.int .i64 0,.int .i64 0,.int .i64 0,.int .i64 0,.string (⟨#[]⟩:ByteArray),.string (⟨#[]⟩:ByteArray),.string (⟨#[]⟩:ByteArray),.string (⟨#[]⟩:ByteArray)]) (blk_put (cs:=#[.int .i64 0,.int .i64 0,.int .i64 0,.string (⟨#[]⟩:ByteArray),.int .i64 0,.int .i64 0,.int .i64 0,.int .i64 0,.int .i64 0,.string (⟨#[]⟩:ByteArray),.string (⟨#[]⟩:ByteArray),.string (⟨#[]⟩:ByteArray),.string (⟨#[]⟩:ByteArray)]) (blk_put (cs:=#[.int .i64 0,.int .i64 0,.int .i64 0,.string (⟨#[]⟩:ByteArray),.int .i64 0,.int .i64 0,.int .i64 0,.int .i64 0,.int .i64 0,.string (⟨#[]⟩:ByteArray),.string (⟨#[]⟩:ByteArray),.string (⟨#[]⟩:ByteArray),.string (⟨#[]⟩:ByteArray)]) (blk_put (cs:=#[.int .i64 0,.int .i64 0,.int .i64 0,.string (⟨#[]⟩:ByteArray),.int .i64 0,.int .i64 0,.int .i64 0,.int .i64 0,.int .i64 0,.string (⟨#[]⟩:ByteArray),.string (⟨#[]⟩:ByteArray),.string (⟨#[]⟩:ByteArray),.string (⟨#[]⟩:ByteArray)]) (blk_put (cs:=#[.int .i64 0,.int .i64 0,.int .i64 0,.string (⟨#[]⟩:ByteArray),.int .i64 0,.int .i64 0,.int .i64 0,.int .i64 0,.int .i64 0,.string (⟨#[]⟩:ByteArray),.string (⟨#[]⟩:ByteArray),.string (⟨#[]⟩:ByteArray),.string (⟨#[]⟩:ByteArray)]) (blk_put (cs:=#[.int .i64 0,.int .i64 0,.int .i64 0,.string (⟨#[]⟩:ByteArray),.int .i64 0,.int .i64 0,.int .i64 0,.int .i64 0,.int .i64 0,.string (⟨#[]⟩:ByteArray),.string (⟨#[]⟩:ByteArray),.string (⟨#[]⟩:ByteArray),.string (⟨#[]⟩:ByteArray)]) (HZ6.out) 0 _ rfl) 1 _ rfl) 2 _ rfl) 3 _ rfl) 4 _ rfl) 5 _ rfl) 6 _ rfl) 7 _ rfl) 8 _ rfl) 9 _ rfl) 10 _ rfl) 11 _ rfl) 12 _ rfl) Tryd.underlying27 rfl (by kernel_rfl)) rfl ⟨rfl,?_⟩
      exact (Below.setCell (Below.setCell (Below.setCell (Below.setCell (Below.setCell (Below.setCell (Below.setCell (Below.setCell (Below.setCell (Below.setCell (Below.setCell (Below.setCell (Below.setCell (Below.setCell (Below.setCell (Below.setCell (Below.setCell (below_step HBr.out HB7.out) (p:=⟨gx,0,none⟩) (Nat.le_of_lt (Nat.lt_trans HLT.out HNX.out)) (.string x1)) (p:=⟨gx,1,none⟩) (Nat.le_of_lt (Nat.lt_trans HLT.out HNX.out)) (.int .i64 x2)) (p:=⟨gx,2,none⟩) (Nat.le_of_lt (Nat.lt_trans HLT.out HNX.out)) (.int .i64 x3)) (p:=⟨gx,3,none⟩) (Nat.le_of_lt (Nat.lt_trans HLT.out HNX.out)) (.int .i64 x4)) (p:=⟨w.heap.size,0,none⟩) (by first|exact Nat.le_refl _|exact Nat.le_succ _) _) (p:=⟨w.heap.size,1,none⟩) (by first|exact Nat.le_refl _|exact Nat.le_succ _) _) (p:=⟨w.heap.size,2,none⟩) (by first|exact Nat.le_refl _|exact Nat.le_succ _) _) (p:=⟨w.heap.size,3,none⟩) (by first|exact Nat.le_refl _|exact Nat.le_succ _) _) (p:=⟨w.heap.size,4,none⟩) (by first|exact Nat.le_refl _|exact Nat.le_succ _) _) (p:=⟨w.heap.size,5,none⟩) (by first|exact Nat.le_refl _|exact Nat.le_succ _) _) (p:=⟨w.heap.size,6,none⟩) (by first|exact Nat.le_refl _|exact Nat.le_succ _) _) (p:=⟨w.heap.size,7,none⟩) (by first|exact Nat.le_refl _|exact Nat.le_succ _) _) (p:=⟨w.heap.size,8,none⟩) (by first|exact Nat.le_refl _|exact Nat.le_succ _) _) (p:=⟨w.heap.size,9,none⟩) (by first|exact Nat.le_refl _|exact Nat.le_succ _) _) (p:=⟨w.heap.size,10,none⟩) (by first|exact Nat.le_refl _|exact Nat.le_succ _) _) (p:=⟨w.heap.size,11,none⟩) (by first|exact Nat.le_refl _|exact Nat.le_succ _) _) (p:=⟨w.heap.size,12,none⟩) (by first|exact Nat.le_refl _|exact Nat.le_succ _) _)
    ·obtain ⟨⟨x,e⟩,hq,hh⟩:=Option.bind_eq_some_iff.1 HP.out
     dsimp only at hh
     have hst:wr.cell? ⟨gL,4,none⟩=some (.string (rfS l 4)):=kt_cell HKr.out HCUR.out 4 (HCS.out 4 (by omega))
     have HQ:=Aside0.mk hq
     clear hq
     by_cases c:e=0
     ·subst c
      rw [if_pos rfl] at hh
      have HH:=Aside0.mk hh
      clear hh
      go_wp2_with (go_at_call 33;refine (contangoref03_Int.calls k (rfS l 4) x 0 _ HQ.out).mono ?_;rintro e6 w6 ⟨rfl,hd6⟩;have HB7:=Aside0.mk hd6.below;have hA6:=blk_below HAr.out HB7.out;have ha6:w6.cell? ⟨gn,4,none⟩=some (.int .i64 t.f4):=blk_cell hA6 4;have hf6:w6.frozen? ⟨gn,4,none⟩=false:=blk_frozen hA6 4;clear hA6 hd6)
      go_roundg (gk - 1)
      case measure=>have:=HK.out;omega
      case rel=>exact ⟨5,{ t with f4:=x },by go_num,⟨by have:=HK.out;omega⟩,HH,HTF,⟨(blk_put (cs:=#[.int .i64 t.f0,.int .i64 t.f1,.int .i64 t.f2,.int .i64 0,.int .i64 t.f4,.int .i64 t.f5]) (blk_below HAr.out HB7.out) 4 (.int .i64 x) rfl)⟩,⟨(blk_far (blk_below HXr.out HB7.out) (Nat.ne_of_gt HNX.out) (.int .i64 x))⟩,⟨(blk_far (blk_below HZr.out HB7.out) (Nat.ne_of_lt HLT.out) (.int .i64 x))⟩,⟨(KT.setCell (KT.below HKr.out HB7.out) (blk_below HAr.out HB7.out) (by decide) (.int .i64 x))⟩,⟨(Below.setCell (below_step HBr.out HB7.out) (p:=⟨gn,4,none⟩) (Nat.le_of_lt HLT.out) (.int .i64 x))⟩⟩
     ·rw [if_neg c] at hh
      obtain rfl:=Option.some.inj hh
      have hz:(e != 0)=true:=bne_iff_ne.2 c
      clear hh c
      go_wp2_with (go_at_call 33;refine (contangoref03_Int.calls k (rfS l 4) x e _ HQ.out).mono ?_;rintro e6 w6 ⟨rfl,hd6⟩;have HB7:=Aside0.mk hd6.below;have hA6:=blk_below HAr.out HB7.out;have ha6:w6.cell? ⟨gn,4,none⟩=some (.int .i64 t.f4):=blk_cell hA6 4;have hf6:w6.frozen? ⟨gn,4,none⟩=false:=blk_frozen hA6 4;have hZ6:(w6.setCell ⟨gn,4,none⟩ (.int .i64 x)).heap[w.heap.size]? = some (.cells #[.int .i64 0,.int .i64 0,.int .i64 0,.string (⟨#[]⟩:ByteArray),.int .i64 0,.int .i64 0,.int .i64 0,.int .i64 0,.int .i64 0,.string (⟨#[]⟩:ByteArray),.string (⟨#[]⟩:ByteArray),.string (⟨#[]⟩:ByteArray),.string (⟨#[]⟩:ByteArray)] 27 (0,0)):=(blk_far (blk_below HZr.out HB7.out) (Nat.ne_of_lt HLT.out) (.int .i64 x));have hfc0:(w6.setCell ⟨gn,4,none⟩ (.int .i64 x)).cell? ⟨w.heap.size,0,none⟩=some (.int .i64 0):=blk_cell hZ6 0;have hf0:(w6.setCell ⟨gn,4,none⟩ (.int .i64 x)).frozen? ⟨w.heap.size,0,none⟩=false:=blk_frozen hZ6 0;have hfc1:(w6.setCell ⟨gn,4,none⟩ (.int .i64 x)).cell? ⟨w.heap.size,1,none⟩=some (.int .i64 0):=blk_cell hZ6 1;have hf1:(w6.setCell ⟨gn,4,none⟩ (.int .i64 x)).frozen? ⟨w.heap.size,1,none⟩=false:=blk_frozen hZ6 1;have hfc2:(w6.setCell ⟨gn,4,none⟩ (.int .i64 x)).cell? ⟨w.heap.size,2,none⟩=some (.int .i64 0):=blk_cell hZ6 2;have hf2:(w6.setCell ⟨gn,4,none⟩ (.int .i64 x)).frozen? ⟨w.heap.size,2,none⟩=false:=blk_frozen hZ6 2;have hfc3:(w6.setCell ⟨gn,4,none⟩ (.int .i64 x)).cell? ⟨w.heap.size,3,none⟩=some (.string (⟨#[]⟩:ByteArray)):=blk_cell hZ6 3;have hf3:(w6.setCell ⟨gn,4,none⟩ (.int .i64 x)).frozen? ⟨w.heap.size,3,none⟩=false:=blk_frozen hZ6 3;have hfc4:(w6.setCell ⟨gn,4,none⟩ (.int .i64 x)).cell? ⟨w.heap.size,4,none⟩=some (.int .i64 0):=blk_cell hZ6 4;have hf4:(w6.setCell ⟨gn,4,none⟩ (.int .i64 x)).frozen? ⟨w.heap.size,4,none⟩=false:=blk_frozen hZ6 4;have hfc5:(w6.setCell ⟨gn,4,none⟩ (.int .i64 x)).cell? ⟨w.heap.size,5,none⟩=some (.int .i64 0):=blk_cell hZ6 5;have hf5:(w6.setCell ⟨gn,4,none⟩ (.int .i64 x)).frozen? ⟨w.heap.size,5,none⟩=false:=blk_frozen hZ6 5;have hfc6:(w6.setCell ⟨gn,4,none⟩ (.int .i64 x)).cell? ⟨w.heap.size,6,none⟩=some (.int .i64 0):=blk_cell hZ6 6;have hf6:(w6.setCell ⟨gn,4,none⟩ (.int .i64 x)).frozen? ⟨w.heap.size,6,none⟩=false:=blk_frozen hZ6 6;have hfc7:(w6.setCell ⟨gn,4,none⟩ (.int .i64 x)).cell? ⟨w.heap.size,7,none⟩=some (.int .i64 0):=blk_cell hZ6 7;have hf7:(w6.setCell ⟨gn,4,none⟩ (.int .i64 x)).frozen? ⟨w.heap.size,7,none⟩=false:=blk_frozen hZ6 7;have hfc8:(w6.setCell ⟨gn,4,none⟩ (.int .i64 x)).cell? ⟨w.heap.size,8,none⟩=some (.int .i64 0):=blk_cell hZ6 8;have hf8:(w6.setCell ⟨gn,4,none⟩ (.int .i64 x)).frozen? ⟨w.heap.size,8,none⟩=false:=blk_frozen hZ6 8;have hfc9:(w6.setCell ⟨gn,4,none⟩ (.int .i64 x)).cell? ⟨w.heap.size,9,none⟩=some (.string (⟨#[]⟩:ByteArray)):=blk_cell hZ6 9;have hf9:(w6.setCell ⟨gn,4,none⟩ (.int .i64 x)).frozen? ⟨w.heap.size,9,none⟩=false:=blk_frozen hZ6 9;have hfc10:(w6.setCell ⟨gn,4,none⟩ (.int .i64 x)).cell? ⟨w.heap.size,10,none⟩=some (.string (⟨#[]⟩:ByteArray)):=blk_cell hZ6 10;have hf10:(w6.setCell ⟨gn,4,none⟩ (.int .i64 x)).frozen? ⟨w.heap.size,10,none⟩=false:=blk_frozen hZ6 10;have hfc11:(w6.setCell ⟨gn,4,none⟩ (.int .i64 x)).cell? ⟨w.heap.size,11,none⟩=some (.string (⟨#[]⟩:ByteArray)):=blk_cell hZ6 11;have hf11:(w6.setCell ⟨gn,4,none⟩ (.int .i64 x)).frozen? ⟨w.heap.size,11,none⟩=false:=blk_frozen hZ6 11;have hfc12:(w6.setCell ⟨gn,4,none⟩ (.int .i64 x)).cell? ⟨w.heap.size,12,none⟩=some (.string (⟨#[]⟩:ByteArray)):=blk_cell hZ6 12;have hf12:(w6.setCell ⟨gn,4,none⟩ (.int .i64 x)).frozen? ⟨w.heap.size,12,none⟩=false:=blk_frozen hZ6 12;have HZ6:=Aside0.mk hZ6;clear hZ6;clear hA6 hd6)
      refine bodyPost_ret (results_ct rfl _ _ w.heap.size 27 #[.int .i64 0,.int .i64 0,.int .i64 0,.string (⟨#[]⟩:ByteArray),.int .i64 0,.int .i64 0,.int .i64 0,.int .i64 0,.int .i64 0,.string (⟨#[]⟩:ByteArray),.string (⟨#[]⟩:ByteArray),.string (⟨#[]⟩:ByteArray),.string (⟨#[]⟩:ByteArray)] (0,0) _ rfl (blk_put (cs:=#[.int .i64 0,.int .i64 0,.int .i64 0,.string (⟨#[]⟩:ByteArray),.int .i64 0,.int .i64 0,.int .i64 0,.int .i64 0,.int .i64 0,.string (⟨#[]⟩:ByteArray),.string (⟨#[]⟩:ByteArray),.string (⟨#[]⟩:ByteArray),.string (⟨#[]⟩:ByteArray)]) (blk_put (cs:=#[.int .i64 0,.int .i64 0,.int .i64 0,.string (⟨#[]⟩:ByteArray),.int .i64 0,.int .i64 0,.int .i64 0,.int .i64 0,.int .i64 0,.string (⟨#[]⟩:ByteArray),.string (⟨#[]⟩:ByteArray),.string (⟨#[]⟩:ByteArray),.string (⟨#[]⟩:ByteArray)]) (blk_put (cs:=#[.int .i64 0,.int .i64 0,.int .i64 0,.string (⟨#[]⟩:ByteArray),.int .i64 0,.int .i64 0,.int .i64 0,.int .i64 0,.int .i64 0,.string (⟨#[]⟩:ByteArray),.string (⟨#[]⟩:ByteArray),.string (⟨#[]⟩:ByteArray),.string (⟨#[]⟩:ByteArray)]) (blk_put (cs:=#[.int .i64 0,.int .i64 0,.int .i64 0,.string (⟨#[]⟩:ByteArray),.int .i64 0,.int .i64 0,.int .i64 0,.int .i64 0,.int .i64 0,.string (⟨#[]⟩:ByteArray),.string (⟨#[]⟩:ByteArray),.string (⟨#[]⟩:ByteArray),.string (⟨#[]⟩:ByteArray)]) (blk_put (cs:=#[.int .i64 0,.int .i64 0,.int .i64 0,.string (⟨#[]⟩:ByteArray),.int .i64 0,.int .i64 0,.int .i64 0,.int .i64 0,.int .i64 0,.string (⟨#[]⟩:ByteArray),.string (⟨#[]⟩:ByteArray),.string (⟨#[]⟩:ByteArray),.string (⟨#[]⟩:ByteArray)]) (blk_put (cs:=#[.int .i64 0,.int .i64 0,.int .i64 0,.string (⟨#[]⟩:ByteArray),.int .i64 0,.int .i64 0,.int .i64 0,.int .i64 0,.int .i64 0,.string (⟨#[]⟩:ByteArray),.string (⟨#[]⟩:ByteArray),.string (⟨#[]⟩:ByteArray),.string (⟨#[]⟩:ByteArray)]) (blk_put (cs:=#[.int .i64 0,.int .i64 0,.int .i64 0,.string (⟨#[]⟩:ByteArray),.int .i64 0,.int .i64 0,.int .i64 0,.int .i64 0,.int .i64 0,.string (⟨#[]⟩:ByteArray),.string (⟨#[]⟩:ByteArray),.string (⟨#[]⟩:ByteArray),.string (⟨#[]⟩:ByteArray)]) (blk_put (cs:=#[.int .i64 0,.int .i64 0,.int .i64 0,.string (⟨#[]⟩:ByteArray),.int .i64 0,.int .i64 0,.int .i64 0,.int .i64 0,.int .i64 0,.string (⟨#[]⟩:ByteArray),.string (⟨#[]⟩:ByteArray),.string (⟨#[]⟩:ByteArray),.string (⟨#[]⟩:ByteArray)]) (blk_put (cs:=#[.int .i64 0,.int .i64 0,.int .i64 0,.string (⟨#[]⟩:ByteArray),.int .i64 0,.int .i64 0,.int .i64 0,.int .i64 0,.int .i64 0,.string (⟨#[]⟩:ByteArray),.string (⟨#[]⟩:ByteArray),.string (⟨#[]⟩:ByteArray),.string (⟨#[]⟩:ByteArray)]) (blk_put (cs:=#[.int .i64 0,.int .i64 0,.int .i64 0,.string (⟨#[]⟩:ByteArray),.int .i64 0,.int .i64 0,.int .i64 0,.int .i64 0,.int .i64 0,.string (⟨#[]⟩:ByteArray),.string (⟨#[]⟩:ByteArray),.string (⟨#[]⟩:ByteArray),.string (⟨#[]⟩:ByteArray)]) (blk_put (cs:=#[.int .i64 0,.int .i64 0,.int .i64 0,.string (⟨#[]⟩:ByteArray),.int .i64 0,.int .i64 0,.int .i64 0,.int .i64 0,.int .i64 0,.string (⟨#[]⟩:ByteArray),.string (⟨#[]⟩:ByteArray),.string (⟨#[]⟩:ByteArray),.string (⟨#[]⟩:ByteArray)]) (blk_put (cs:=#[.int .i64 0,.int .i64 0,.int .i64 0,.string (⟨#[]⟩:ByteArray),.int .i64 0,.int .i64 0,.int .i64 0,.int .i64 0,.int .i64 0,.string (⟨#[]⟩:ByteArray),.string (⟨#[]⟩:ByteArray),.string (⟨#[]⟩:ByteArray),.string (⟨#[]⟩:ByteArray)]) (blk_put (cs:=#[.int .i64 0,.int .i64 0,.int .i64 0,.string (⟨#[]⟩:ByteArray),.int .i64 0,.int .i64 0,.int .i64 0,.int .i64 0,.int .i64 0,.string (⟨#[]⟩:ByteArray),.string (⟨#[]⟩:ByteArray),.string (⟨#[]⟩:ByteArray),.string (⟨#[]⟩:ByteArray)]) (HZ6.out) 0 _ rfl) 1 _ rfl) 2 _ rfl) 3 _ rfl) 4 _ rfl) 5 _ rfl) 6 _ rfl) 7 _ rfl) 8 _ rfl) 9 _ rfl) 10 _ rfl) 11 _ rfl) 12 _ rfl) Tryd.underlying27 rfl (by kernel_rfl)) rfl ⟨rfl,?_⟩
      exact (Below.setCell (Below.setCell (Below.setCell (Below.setCell (Below.setCell (Below.setCell (Below.setCell (Below.setCell (Below.setCell (Below.setCell (Below.setCell (Below.setCell (Below.setCell (Below.setCell (below_step HBr.out HB7.out) (p:=⟨gn,4,none⟩) (Nat.le_of_lt HLT.out) (.int .i64 x)) (p:=⟨w.heap.size,0,none⟩) (by first|exact Nat.le_refl _|exact Nat.le_succ _) _) (p:=⟨w.heap.size,1,none⟩) (by first|exact Nat.le_refl _|exact Nat.le_succ _) _) (p:=⟨w.heap.size,2,none⟩) (by first|exact Nat.le_refl _|exact Nat.le_succ _) _) (p:=⟨w.heap.size,3,none⟩) (by first|exact Nat.le_refl _|exact Nat.le_succ _) _) (p:=⟨w.heap.size,4,none⟩) (by first|exact Nat.le_refl _|exact Nat.le_succ _) _) (p:=⟨w.heap.size,5,none⟩) (by first|exact Nat.le_refl _|exact Nat.le_succ _) _) (p:=⟨w.heap.size,6,none⟩) (by first|exact Nat.le_refl _|exact Nat.le_succ _) _) (p:=⟨w.heap.size,7,none⟩) (by first|exact Nat.le_refl _|exact Nat.le_succ _) _) (p:=⟨w.heap.size,8,none⟩) (by first|exact Nat.le_refl _|exact Nat.le_succ _) _) (p:=⟨w.heap.size,9,none⟩) (by first|exact Nat.le_refl _|exact Nat.le_succ _) _) (p:=⟨w.heap.size,10,none⟩) (by first|exact Nat.le_refl _|exact Nat.le_succ _) _) (p:=⟨w.heap.size,11,none⟩) (by first|exact Nat.le_refl _|exact Nat.le_succ _) _) (p:=⟨w.heap.size,12,none⟩) (by first|exact Nat.le_refl _|exact Nat.le_succ _) _)
    ·obtain ⟨⟨x,e⟩,hq,hh⟩:=Option.bind_eq_some_iff.1 HP.out
     dsimp only at hh
     have hst:wr.cell? ⟨gL,5,none⟩=some (.string (rfS l 5)):=kt_cell HKr.out HCUR.out 5 (HCS.out 5 (by omega))
     have HQ:=Aside0.mk hq
     clear hq
     by_cases c:e=0
     ·subst c
      rw [if_pos rfl] at hh
      have HH:=Aside0.mk hh
      clear hh
      go_wp2_with (go_at_call 33;refine (contangoref03_Int.calls k (rfS l 5) x 0 _ HQ.out).mono ?_;rintro e6 w6 ⟨rfl,hd6⟩;have HB7:=Aside0.mk hd6.below;have hA6:=blk_below HAr.out HB7.out;have ha6:w6.cell? ⟨gn,5,none⟩=some (.int .i64 t.f5):=blk_cell hA6 5;have hf6:w6.frozen? ⟨gn,5,none⟩=false:=blk_frozen hA6 5;clear hA6 hd6)
      go_roundg (gk - 1)
      case measure=>have:=HK.out;omega
      case rel=>exact ⟨6,{ t with f5:=x },by go_num,⟨by have:=HK.out;omega⟩,HH,HTF,⟨(blk_put (cs:=#[.int .i64 t.f0,.int .i64 t.f1,.int .i64 t.f2,.int .i64 0,.int .i64 t.f4,.int .i64 t.f5]) (blk_below HAr.out HB7.out) 5 (.int .i64 x) rfl)⟩,⟨(blk_far (blk_below HXr.out HB7.out) (Nat.ne_of_gt HNX.out) (.int .i64 x))⟩,⟨(blk_far (blk_below HZr.out HB7.out) (Nat.ne_of_lt HLT.out) (.int .i64 x))⟩,⟨(KT.setCell (KT.below HKr.out HB7.out) (blk_below HAr.out HB7.out) (by decide) (.int .i64 x))⟩,⟨(Below.setCell (below_step HBr.out HB7.out) (p:=⟨gn,5,none⟩) (Nat.le_of_lt HLT.out) (.int .i64 x))⟩⟩
     ·rw [if_neg c] at hh
      obtain rfl:=Option.some.inj hh
      have hz:(e != 0)=true:=bne_iff_ne.2 c
      clear hh c
      go_wp2_with (go_at_call 33;refine (contangoref03_Int.calls k (rfS l 5) x e _ HQ.out).mono ?_;rintro e6 w6 ⟨rfl,hd6⟩;have HB7:=Aside0.mk hd6.below;have hA6:=blk_below HAr.out HB7.out;have ha6:w6.cell? ⟨gn,5,none⟩=some (.int .i64 t.f5):=blk_cell hA6 5;have hf6:w6.frozen? ⟨gn,5,none⟩=false:=blk_frozen hA6 5;have hZ6:(w6.setCell ⟨gn,5,none⟩ (.int .i64 x)).heap[w.heap.size]? = some (.cells #[.int .i64 0,.int .i64 0,.int .i64 0,.string (⟨#[]⟩:ByteArray),.int .i64 0,.int .i64 0,.int .i64 0,.int .i64 0,.int .i64 0,.string (⟨#[]⟩:ByteArray),.string (⟨#[]⟩:ByteArray),.string (⟨#[]⟩:ByteArray),.string (⟨#[]⟩:ByteArray)] 27 (0,0)):=(blk_far (blk_below HZr.out HB7.out) (Nat.ne_of_lt HLT.out) (.int .i64 x));have hfc0:(w6.setCell ⟨gn,5,none⟩ (.int .i64 x)).cell? ⟨w.heap.size,0,none⟩=some (.int .i64 0):=blk_cell hZ6 0;have hf0:(w6.setCell ⟨gn,5,none⟩ (.int .i64 x)).frozen? ⟨w.heap.size,0,none⟩=false:=blk_frozen hZ6 0;have hfc1:(w6.setCell ⟨gn,5,none⟩ (.int .i64 x)).cell? ⟨w.heap.size,1,none⟩=some (.int .i64 0):=blk_cell hZ6 1;have hf1:(w6.setCell ⟨gn,5,none⟩ (.int .i64 x)).frozen? ⟨w.heap.size,1,none⟩=false:=blk_frozen hZ6 1;have hfc2:(w6.setCell ⟨gn,5,none⟩ (.int .i64 x)).cell? ⟨w.heap.size,2,none⟩=some (.int .i64 0):=blk_cell hZ6 2;have hf2:(w6.setCell ⟨gn,5,none⟩ (.int .i64 x)).frozen? ⟨w.heap.size,2,none⟩=false:=blk_frozen hZ6 2;have hfc3:(w6.setCell ⟨gn,5,none⟩ (.int .i64 x)).cell? ⟨w.heap.size,3,none⟩=some (.string (⟨#[]⟩:ByteArray)):=blk_cell hZ6 3;have hf3:(w6.setCell ⟨gn,5,none⟩ (.int .i64 x)).frozen? ⟨w.heap.size,3,none⟩=false:=blk_frozen hZ6 3;have hfc4:(w6.setCell ⟨gn,5,none⟩ (.int .i64 x)).cell? ⟨w.heap.size,4,none⟩=some (.int .i64 0):=blk_cell hZ6 4;have hf4:(w6.setCell ⟨gn,5,none⟩ (.int .i64 x)).frozen? ⟨w.heap.size,4,none⟩=false:=blk_frozen hZ6 4;have hfc5:(w6.setCell ⟨gn,5,none⟩ (.int .i64 x)).cell? ⟨w.heap.size,5,none⟩=some (.int .i64 0):=blk_cell hZ6 5;have hf5:(w6.setCell ⟨gn,5,none⟩ (.int .i64 x)).frozen? ⟨w.heap.size,5,none⟩=false:=blk_frozen hZ6 5;have hfc6:(w6.setCell ⟨gn,5,none⟩ (.int .i64 x)).cell? ⟨w.heap.size,6,none⟩=some (.int .i64 0):=blk_cell hZ6 6;have hf6:(w6.setCell ⟨gn,5,none⟩ (.int .i64 x)).frozen? ⟨w.heap.size,6,none⟩=false:=blk_frozen hZ6 6;have hfc7:(w6.setCell ⟨gn,5,none⟩ (.int .i64 x)).cell? ⟨w.heap.size,7,none⟩=some (.int .i64 0):=blk_cell hZ6 7;have hf7:(w6.setCell ⟨gn,5,none⟩ (.int .i64 x)).frozen? ⟨w.heap.size,7,none⟩=false:=blk_frozen hZ6 7;have hfc8:(w6.setCell ⟨gn,5,none⟩ (.int .i64 x)).cell? ⟨w.heap.size,8,none⟩=some (.int .i64 0):=blk_cell hZ6 8;have hf8:(w6.setCell ⟨gn,5,none⟩ (.int .i64 x)).frozen? ⟨w.heap.size,8,none⟩=false:=blk_frozen hZ6 8;have hfc9:(w6.setCell ⟨gn,5,none⟩ (.int .i64 x)).cell? ⟨w.heap.size,9,none⟩=some (.string (⟨#[]⟩:ByteArray)):=blk_cell hZ6 9;have hf9:(w6.setCell ⟨gn,5,none⟩ (.int .i64 x)).frozen? ⟨w.heap.size,9,none⟩=false:=blk_frozen hZ6 9;have hfc10:(w6.setCell ⟨gn,5,none⟩ (.int .i64 x)).cell? ⟨w.heap.size,10,none⟩=some (.string (⟨#[]⟩:ByteArray)):=blk_cell hZ6 10;have hf10:(w6.setCell ⟨gn,5,none⟩ (.int .i64 x)).frozen? ⟨w.heap.size,10,none⟩=false:=blk_frozen hZ6 10;have hfc11:(w6.setCell ⟨gn,5,none⟩ (.int .i64 x)).cell? ⟨w.heap.size,11,none⟩=some (.string (⟨#[]⟩:ByteArray)):=blk_cell hZ6 11;have hf11:(w6.setCell ⟨gn,5,none⟩ (.int .i64 x)).frozen? ⟨w.heap.size,11,none⟩=false:=blk_frozen hZ6 11;have hfc12:(w6.setCell ⟨gn,5,none⟩ (.int .i64 x)).cell? ⟨w.heap.size,12,none⟩=some (.string (⟨#[]⟩:ByteArray)):=blk_cell hZ6 12;have hf12:(w6.setCell ⟨gn,5,none⟩ (.int .i64 x)).frozen? ⟨w.heap.size,12,none⟩=false:=blk_frozen hZ6 12;have HZ6:=Aside0.mk hZ6;clear hZ6;clear hA6 hd6)
      refine bodyPost_ret (results_ct rfl _ _ w.heap.size 27 #[.int .i64 0,.int .i64 0,.int .i64 0,.string (⟨#[]⟩:ByteArray),.int .i64 0,.int .i64 0,.int .i64 0,.int .i64 0,.int .i64 0,.string (⟨#[]⟩:ByteArray),.string (⟨#[]⟩:ByteArray),.string (⟨#[]⟩:ByteArray),.string (⟨#[]⟩:ByteArray)] (0,0) _ rfl (blk_put (cs:=#[.int .i64 0,.int .i64 0,.int .i64 0,.string (⟨#[]⟩:ByteArray),.int .i64 0,.int .i64 0,.int .i64 0,.int .i64 0,.int .i64 0,.string (⟨#[]⟩:ByteArray),.string (⟨#[]⟩:ByteArray),.string (⟨#[]⟩:ByteArray),.string (⟨#[]⟩:ByteArray)]) (blk_put (cs:=#[.int .i64 0,.int .i64 0,.int .i64 0,.string (⟨#[]⟩:ByteArray),.int .i64 0,.int .i64 0,.int .i64 0,.int .i64 0,.int .i64 0,.string (⟨#[]⟩:ByteArray),.string (⟨#[]⟩:ByteArray),.string (⟨#[]⟩:ByteArray),.string (⟨#[]⟩:ByteArray)]) (blk_put (cs:=#[.int .i64 0,.int .i64 0,.int .i64 0,.string (⟨#[]⟩:ByteArray),.int .i64 0,.int .i64 0,.int .i64 0,.int .i64 0,.int .i64 0,.string (⟨#[]⟩:ByteArray),.string (⟨#[]⟩:ByteArray),.string (⟨#[]⟩:ByteArray),.string (⟨#[]⟩:ByteArray)]) (blk_put (cs:=#[.int .i64 0,.int .i64 0,.int .i64 0,.string (⟨#[]⟩:ByteArray),.int .i64 0,.int .i64 0,.int .i64 0,.int .i64 0,.int .i64 0,.string (⟨#[]⟩:ByteArray),.string (⟨#[]⟩:ByteArray),.string (⟨#[]⟩:ByteArray),.string (⟨#[]⟩:ByteArray)]) (blk_put (cs:=#[.int .i64 0,.int .i64 0,.int .i64 0,.string (⟨#[]⟩:ByteArray),.int .i64 0,.int .i64 0,.int .i64 0,.int .i64 0,.int .i64 0,.string (⟨#[]⟩:ByteArray),.string (⟨#[]⟩:ByteArray),.string (⟨#[]⟩:ByteArray),.string (⟨#[]⟩:ByteArray)]) (blk_put (cs:=#[.int .i64 0,.int .i64 0,.int .i64 0,.string (⟨#[]⟩:ByteArray),.int .i64 0,.int .i64 0,.int .i64 0,.int .i64 0,.int .i64 0,.string (⟨#[]⟩:ByteArray),.string (⟨#[]⟩:ByteArray),.string (⟨#[]⟩:ByteArray),.string (⟨#[]⟩:ByteArray)]) (blk_put (cs:=#[.int .i64 0,.int .i64 0,.int .i64 0,.string (⟨#[]⟩:ByteArray),.int .i64 0,.int .i64 0,.int .i64 0,.int .i64 0,.int .i64 0,.string (⟨#[]⟩:ByteArray),.string (⟨#[]⟩:ByteArray),.string (⟨#[]⟩:ByteArray),.string (⟨#[]⟩:ByteArray)]) (blk_put (cs:=#[.int .i64 0,.int .i64 0,.int .i64 0,.string (⟨#[]⟩:ByteArray),.int .i64 0,.int .i64 0,.int .i64 0,.int .i64 0,.int .i64 0,.string (⟨#[]⟩:ByteArray),.string (⟨#[]⟩:ByteArray),.string (⟨#[]⟩:ByteArray),.string (⟨#[]⟩:ByteArray)]) (blk_put (cs:=#[.int .i64 0,.int .i64 0,.int .i64 0,.string (⟨#[]⟩:ByteArray),.int .i64 0,.int .i64 0,.int .i64 0,.int .i64 0,.int .i64 0,.string (⟨#[]⟩:ByteArray),.string (⟨#[]⟩:ByteArray),.string (⟨#[]⟩:ByteArray),.string (⟨#[]⟩:ByteArray)]) (blk_put (cs:=#[.int .i64 0,.int .i64 0,.int .i64 0,.string (⟨#[]⟩:ByteArray),.int .i64 0,.int .i64 0,.int .i64 0,.int .i64 0,.int .i64 0,.string (⟨#[]⟩:ByteArray),.string (⟨#[]⟩:ByteArray),.string (⟨#[]⟩:ByteArray),.string (⟨#[]⟩:ByteArray)]) (blk_put (cs:=#[.int .i64 0,.int .i64 0,.int .i64 0,.string (⟨#[]⟩:ByteArray),.int .i64 0,.int .i64 0,.int .i64 0,.int .i64 0,.int .i64 0,.string (⟨#[]⟩:ByteArray),.string (⟨#[]⟩:ByteArray),.string (⟨#[]⟩:ByteArray),.string (⟨#[]⟩:ByteArray)]) (blk_put (cs:=#[.int .i64 0,.int .i64 0,.int .i64 0,.string (⟨#[]⟩:ByteArray),.int .i64 0,.int .i64 0,.int .i64 0,.int .i64 0,.int .i64 0,.string (⟨#[]⟩:ByteArray),.string (⟨#[]⟩:ByteArray),.string (⟨#[]⟩:ByteArray),.string (⟨#[]⟩:ByteArray)]) (blk_put (cs:=#[.int .i64 0,.int .i64 0,.int .i64 0,.string (⟨#[]⟩:ByteArray),.int .i64 0,.int .i64 0,.int .i64 0,.int .i64 0,.int .i64 0,.string (⟨#[]⟩:ByteArray),.string (⟨#[]⟩:ByteArray),.string (⟨#[]⟩:ByteArray),.string (⟨#[]⟩:ByteArray)]) (HZ6.out) 0 _ rfl) 1 _ rfl) 2 _ rfl) 3 _ rfl) 4 _ rfl) 5 _ rfl) 6 _ rfl) 7 _ rfl) 8 _ rfl) 9 _ rfl) 10 _ rfl) 11 _ rfl) 12 _ rfl) Tryd.underlying27 rfl (by kernel_rfl)) rfl ⟨rfl,?_⟩
      exact (Below.setCell (Below.setCell (Below.setCell (Below.setCell (Below.setCell (Below.setCell (Below.setCell (Below.setCell (Below.setCell (Below.setCell (Below.setCell (Below.setCell (Below.setCell (Below.setCell (below_step HBr.out HB7.out) (p:=⟨gn,5,none⟩) (Nat.le_of_lt HLT.out) (.int .i64 x)) (p:=⟨w.heap.size,0,none⟩) (by first|exact Nat.le_refl _|exact Nat.le_succ _) _) (p:=⟨w.heap.size,1,none⟩) (by first|exact Nat.le_refl _|exact Nat.le_succ _) _) (p:=⟨w.heap.size,2,none⟩) (by first|exact Nat.le_refl _|exact Nat.le_succ _) _) (p:=⟨w.heap.size,3,none⟩) (by first|exact Nat.le_refl _|exact Nat.le_succ _) _) (p:=⟨w.heap.size,4,none⟩) (by first|exact Nat.le_refl _|exact Nat.le_succ _) _) (p:=⟨w.heap.size,5,none⟩) (by first|exact Nat.le_refl _|exact Nat.le_succ _) _) (p:=⟨w.heap.size,6,none⟩) (by first|exact Nat.le_refl _|exact Nat.le_succ _) _) (p:=⟨w.heap.size,7,none⟩) (by first|exact Nat.le_refl _|exact Nat.le_succ _) _) (p:=⟨w.heap.size,8,none⟩) (by first|exact Nat.le_refl _|exact Nat.le_succ _) _) (p:=⟨w.heap.size,9,none⟩) (by first|exact Nat.le_refl _|exact Nat.le_succ _) _) (p:=⟨w.heap.size,10,none⟩) (by first|exact Nat.le_refl _|exact Nat.le_succ _) _) (p:=⟨w.heap.size,11,none⟩) (by first|exact Nat.le_refl _|exact Nat.le_succ _) _) (p:=⟨w.heap.size,12,none⟩) (by first|exact Nat.le_refl _|exact Nat.le_succ _) _)
    ·obtain rfl:=Option.some.inj (show some (t,(0:Int))=some p from HP.out)
     go_wp2_with fail
     have hd0:wr.drew.cell? ⟨gn,0,none⟩=some (.int .i64 t.f0):=blk_cell HAr.out 0
     have hd1:wr.drew.cell? ⟨gn,1,none⟩=some (.int .i64 t.f1):=blk_cell HAr.out 1
     have hd2:wr.drew.cell? ⟨gn,2,none⟩=some (.int .i64 t.f2):=blk_cell HAr.out 2
     have hd3:wr.drew.cell? ⟨gn,4,none⟩=some (.int .i64 t.f4):=blk_cell HAr.out 4
     have hd4:wr.drew.cell? ⟨gn,5,none⟩=some (.int .i64 t.f5):=blk_cell HAr.out 5
     have hd5:wr.drew.cell? ⟨gx,0,none⟩=some (.string t.f3.f0):=blk_cell HXr.out 0
     have hd6:wr.drew.cell? ⟨gx,1,none⟩=some (.int .i64 t.f3.f1):=blk_cell HXr.out 1
     have hd7:wr.drew.cell? ⟨gx,2,none⟩=some (.int .i64 t.f3.f2):=blk_cell HXr.out 2
     have hd8:wr.drew.cell? ⟨gx,3,none⟩=some (.int .i64 t.f3.f3):=blk_cell HXr.out 3
     have hd9:wr.drew.cell? ⟨gL,6,none⟩=some (.string (rfS l 6)):=kt_cell HKr.out HCUR.out 6 (HCS.out 6 (by omega))
     have hd10:wr.drew.cell? ⟨gL,7,none⟩=some (.string (rfS l 7)):=kt_cell HKr.out HCUR.out 7 (HCS.out 7 (by omega))
     have hd11:wr.drew.cell? ⟨gL,8,none⟩=some (.string (rfS l 8)):=kt_cell HKr.out HCUR.out 8 (HCS.out 8 (by omega))
     have hd12:wr.drew.cell? ⟨gL,9,none⟩=some (.string (rfS l 9)):=kt_cell HKr.out HCUR.out 9 (HCS.out 9 (by omega))
     have HZd:=Aside0.mk (blk_drew HZr.out)
     have HBd:=Aside0.mk (below_drew1 HBr.out)
     refine start_ (n:=28) (S:=fun w'=>w'.cell? ⟨gn,0,none⟩=some (.int .i64 t.f0)∧w'.cell? ⟨gn,1,none⟩=some (.int .i64 t.f1)∧w'.cell? ⟨gn,2,none⟩=some (.int .i64 t.f2)∧w'.cell? ⟨gn,4,none⟩=some (.int .i64 t.f4)∧w'.cell? ⟨gn,5,none⟩=some (.int .i64 t.f5)∧w'.cell? ⟨gx,0,none⟩=some (.string t.f3.f0)∧w'.cell? ⟨gx,1,none⟩=some (.int .i64 t.f3.f1)∧w'.cell? ⟨gx,2,none⟩=some (.int .i64 t.f3.f2)∧w'.cell? ⟨gx,3,none⟩=some (.int .i64 t.f3.f3)∧w'.cell? ⟨gL,6,none⟩=some (.string (rfS l 6))∧w'.cell? ⟨gL,7,none⟩=some (.string (rfS l 7))∧w'.cell? ⟨gL,8,none⟩=some (.string (rfS l 8))∧w'.cell? ⟨gL,9,none⟩=some (.string (rfS l 9))) (ds:=[26]) #[J,J,J,J,J,J,J,J,J,J,J,J,J,J,J,J,J,J,J,J,J,J,J,J,J,J,J,J] (by kernel_rfl) rfl rfl ⟨hd0,hd1,hd2,hd3,hd4,hd5,hd6,hd7,hd8,hd9,hd10,hd11,hd12⟩ (fun hHeld=>?_)
     refine with_tabW rtp.tab22 rtp.bits22 (fun HT_ HW_=>?_)
     generalize wr.drew=wd at HZd HBd hd0 hd1 hd2 hd3 hd4 hd5 hd6 hd7 hd8 hd9 hd10 hd11 hd12 hHeld ⊢
     have hfc0:wd.cell? ⟨w.heap.size,0,none⟩=some (.int .i64 0):=blk_cell HZd.out 0
     have hf0:wd.frozen? ⟨w.heap.size,0,none⟩=false:=blk_frozen HZd.out 0
     have hfc1:wd.cell? ⟨w.heap.size,1,none⟩=some (.int .i64 0):=blk_cell HZd.out 1
     have hf1:wd.frozen? ⟨w.heap.size,1,none⟩=false:=blk_frozen HZd.out 1
     have hfc2:wd.cell? ⟨w.heap.size,2,none⟩=some (.int .i64 0):=blk_cell HZd.out 2
     have hf2:wd.frozen? ⟨w.heap.size,2,none⟩=false:=blk_frozen HZd.out 2
     have hfc3:wd.cell? ⟨w.heap.size,3,none⟩=some (.string (⟨#[]⟩:ByteArray)):=blk_cell HZd.out 3
     have hf3:wd.frozen? ⟨w.heap.size,3,none⟩=false:=blk_frozen HZd.out 3
     have hfc4:wd.cell? ⟨w.heap.size,4,none⟩=some (.int .i64 0):=blk_cell HZd.out 4
     have hf4:wd.frozen? ⟨w.heap.size,4,none⟩=false:=blk_frozen HZd.out 4
     have hfc5:wd.cell? ⟨w.heap.size,5,none⟩=some (.int .i64 0):=blk_cell HZd.out 5
     have hf5:wd.frozen? ⟨w.heap.size,5,none⟩=false:=blk_frozen HZd.out 5
     have hfc6:wd.cell? ⟨w.heap.size,6,none⟩=some (.int .i64 0):=blk_cell HZd.out 6
     have hf6:wd.frozen? ⟨w.heap.size,6,none⟩=false:=blk_frozen HZd.out 6
     have hfc7:wd.cell? ⟨w.heap.size,7,none⟩=some (.int .i64 0):=blk_cell HZd.out 7
     have hf7:wd.frozen? ⟨w.heap.size,7,none⟩=false:=blk_frozen HZd.out 7
     have hfc8:wd.cell? ⟨w.heap.size,8,none⟩=some (.int .i64 0):=blk_cell HZd.out 8
     have hf8:wd.frozen? ⟨w.heap.size,8,none⟩=false:=blk_frozen HZd.out 8
     have hfc9:wd.cell? ⟨w.heap.size,9,none⟩=some (.string (⟨#[]⟩:ByteArray)):=blk_cell HZd.out 9
     have hf9:wd.frozen? ⟨w.heap.size,9,none⟩=false:=blk_frozen HZd.out 9
     have hfc10:wd.cell? ⟨w.heap.size,10,none⟩=some (.string (⟨#[]⟩:ByteArray)):=blk_cell HZd.out 10
     have hf10:wd.frozen? ⟨w.heap.size,10,none⟩=false:=blk_frozen HZd.out 10
     have hfc11:wd.cell? ⟨w.heap.size,11,none⟩=some (.string (⟨#[]⟩:ByteArray)):=blk_cell HZd.out 11
     have hf11:wd.frozen? ⟨w.heap.size,11,none⟩=false:=blk_frozen HZd.out 11
     have hfc12:wd.cell? ⟨w.heap.size,12,none⟩=some (.string (⟨#[]⟩:ByteArray)):=blk_cell HZd.out 12
     have hf12:wd.frozen? ⟨w.heap.size,12,none⟩=false:=blk_frozen HZd.out 12
     refine pure_ (i:=0) (N:=some 63) (v:=?_) (a':=?_) #[U,J,J,J,J,J,J,J,J,J,J,J,J,J,J,J,J,J,J,J,J,J,J,J,J,J,J,J] rfl rfl (any_of HT_.out (by kernel_rfl)) (fun _ _ _ h=>h) (Or.inl ⟨by rfl,?_⟩) ?_ ?_
     rotate_left
     ·intro w'
      go_simp
      with_reducible rfl
     rotate_left
     ·simp only [Act.put,List.setIfInBounds_toArray,List.set_cons_zero,List.set_cons_succ,i64_w,i32_w]
      rfl
     refine take_ (i:=1) (N:=some 64) (v:=?_) (a':=?_) #[U,U,J,J,J,J,J,J,J,J,J,J,J,J,J,J,J,J,J,J,J,J,J,J,J,J,J,J] rfl rfl (take_ofW HT_.out HW_.out (by kernel_rfl)) (fun _ _ _ h=>h) (Or.inl ⟨by rfl,?_⟩) hHeld ?_ ?_
     rotate_left
     ·rintro w' ⟨s0,s1,s2,s3,s4,s5,s6,s7,s8,s9,s10,s11,s12⟩
      go_simp
      with_reducible rfl
     rotate_left
     ·simp only [Act.put,List.setIfInBounds_toArray,List.set_cons_zero,List.set_cons_succ,i64_w,i32_w]
      rfl
     refine pure_ (i:=2) (N:=some 65) (v:=?_) (a':=?_) #[U,U,U,J,J,J,J,J,J,J,J,J,J,J,J,J,J,J,J,J,J,J,J,J,J,J,J,J] rfl rfl (any_of HT_.out (by kernel_rfl)) (fun _ _ _ h=>h) (Or.inl ⟨by rfl,?_⟩) ?_ ?_
     rotate_left
     ·intro w'
      go_simp
      with_reducible rfl
     rotate_left
     ·simp only [Act.put,List.setIfInBounds_toArray,List.set_cons_zero,List.set_cons_succ,i64_w,i32_w]
      rfl
     refine take_ (i:=3) (N:=some 66) (v:=?_) (a':=?_) #[U,U,U,U,J,J,J,J,J,J,J,J,J,J,J,J,J,J,J,J,J,J,J,J,J,J,J,J] rfl rfl (take_ofW HT_.out HW_.out (by kernel_rfl)) (fun _ _ _ h=>h) (Or.inl ⟨by rfl,?_⟩) hHeld ?_ ?_
     rotate_left
     ·rintro w' ⟨s0,s1,s2,s3,s4,s5,s6,s7,s8,s9,s10,s11,s12⟩
      go_simp
      with_reducible rfl
     rotate_left
     ·simp only [Act.put,List.setIfInBounds_toArray,List.set_cons_zero,List.set_cons_succ,i64_w,i32_w]
      rfl
     refine pure_ (i:=4) (N:=some 67) (v:=?_) (a':=?_) #[U,U,U,U,U,J,J,J,J,J,J,J,J,J,J,J,J,J,J,J,J,J,J,J,J,J,J,J] rfl rfl (any_of HT_.out (by kernel_rfl)) (fun _ _ _ h=>h) (Or.inl ⟨by rfl,?_⟩) ?_ ?_
     rotate_left
     ·intro w'
      go_simp
      with_reducible rfl
     rotate_left
     ·simp only [Act.put,List.setIfInBounds_toArray,List.set_cons_zero,List.set_cons_succ,i64_w,i32_w]
      rfl
     refine take_ (i:=5) (N:=some 68) (v:=?_) (a':=?_) #[U,U,U,U,U,U,J,J,J,J,J,J,J,J,J,J,J,J,J,J,J,J,J,J,J,J,J,J] rfl rfl (take_ofW HT_.out HW_.out (by kernel_rfl)) (fun _ _ _ h=>h) (Or.inl ⟨by rfl,?_⟩) hHeld ?_ ?_
     rotate_left
     ·rintro w' ⟨s0,s1,s2,s3,s4,s5,s6,s7,s8,s9,s10,s11,s12⟩
      go_simp
      with_reducible rfl
     rotate_left
     ·simp only [Act.put,List.setIfInBounds_toArray,List.set_cons_zero,List.set_cons_succ,i64_w,i32_w]
      rfl
     refine take_ (i:=6) (N:=some 69) (v:=?_) (a':=?_) #[U,U,U,U,U,U,U,J,J,J,J,J,J,J,J,J,J,J,J,J,J,J,J,J,J,J,J,J] rfl rfl (take_ofW HT_.out HW_.out (by kernel_rfl)) (fun _ _ _ h=>h) (Or.inl ⟨by rfl,?_⟩) hHeld ?_ ?_
     rotate_left
     ·rintro w' ⟨s0,s1,s2,s3,s4,s5,s6,s7,s8,s9,s10,s11,s12⟩
      go_simp
      with_reducible rfl
     rotate_left
     ·simp only [Act.put,List.setIfInBounds_toArray,List.set_cons_zero,List.set_cons_succ,i64_w,i32_w]
      rfl
     refine pure_ (i:=7) (N:=some 70) (v:=?_) (a':=?_) #[U,U,U,U,U,U,U,U,J,J,J,J,J,J,J,J,J,J,J,J,J,J,J,J,J,J,J,J] rfl rfl (any_of HT_.out (by kernel_rfl)) (fun _ _ _ h=>h) (Or.inl ⟨by rfl,?_⟩) ?_ ?_
     rotate_left
     ·intro w'
      go_simp
      with_reducible rfl
     rotate_left
     ·simp only [Act.put,List.setIfInBounds_toArray,List.set_cons_zero,List.set_cons_succ,i64_w,i32_w]
      rfl
     refine take_ (i:=8) (N:=some 71) (v:=?_) (a':=?_) #[U,U,U,U,U,U,U,U,U,J,J,J,J,J,J,J,J,J,J,J,J,J,J,J,J,J,J,J] rfl rfl (take_ofW HT_.out HW_.out (by kernel_rfl)) (fun _ _ _ h=>h) (Or.inl ⟨by rfl,?_⟩) hHeld ?_ ?_
     rotate_left
     ·rintro w' ⟨s0,s1,s2,s3,s4,s5,s6,s7,s8,s9,s10,s11,s12⟩
      go_simp
      with_reducible rfl
     rotate_left
     ·simp only [Act.put,List.setIfInBounds_toArray,List.set_cons_zero,List.set_cons_succ,i64_w,i32_w]
      rfl
     refine pure_ (i:=9) (N:=some 72) (v:=?_) (a':=?_) #[U,U,U,U,U,U,U,U,U,U,J,J,J,J,J,J,J,J,J,J,J,J,J,J,J,J,J,J] rfl rfl (any_of HT_.out (by kernel_rfl)) (fun _ _ _ h=>h) (Or.inl ⟨by rfl,?_⟩) ?_ ?_
     rotate_left
     ·intro w'
      go_simp
      with_reducible rfl
     rotate_left
     ·simp only [Act.put,List.setIfInBounds_toArray,List.set_cons_zero,List.set_cons_succ,i64_w,i32_w]
      rfl
     refine take_ (i:=10) (N:=some 73) (v:=?_) (a':=?_) #[U,U,U,U,U,U,U,U,U,U,U,J,J,J,J,J,J,J,J,J,J,J,J,J,J,J,J,J] rfl rfl (take_ofW HT_.out HW_.out (by kernel_rfl)) (fun _ _ _ h=>h) (Or.inl ⟨by rfl,?_⟩) hHeld ?_ ?_
     rotate_left
     ·rintro w' ⟨s0,s1,s2,s3,s4,s5,s6,s7,s8,s9,s10,s11,s12⟩
      go_simp
      with_reducible rfl
     rotate_left
     ·simp only [Act.put,List.setIfInBounds_toArray,List.set_cons_zero,List.set_cons_succ,i64_w,i32_w]
      rfl
     refine pure_ (i:=11) (N:=some 74) (v:=?_) (a':=?_) #[U,U,U,U,U,U,U,U,U,U,U,U,J,J,J,J,J,J,J,J,J,J,J,J,J,J,J,J] rfl rfl (any_of HT_.out (by kernel_rfl)) (fun _ _ _ h=>h) (Or.inl ⟨by rfl,?_⟩) ?_ ?_
     rotate_left
     ·intro w'
      go_simp
      with_reducible rfl
     rotate_left
     ·simp only [Act.put,List.setIfInBounds_toArray,List.set_cons_zero,List.set_cons_succ,i64_w,i32_w]
      rfl
     refine pure_ (i:=12) (N:=some 75) (v:=?_) (a':=?_) #[U,U,U,U,U,U,U,U,U,U,U,U,U,J,J,J,J,J,J,J,J,J,J,J,J,J,J,J] rfl rfl (any_of HT_.out (by kernel_rfl)) (fun _ _ _ h=>h) (Or.inl ⟨by rfl,?_⟩) ?_ ?_
     rotate_left
     ·intro w'
      go_simp
      with_reducible rfl
     rotate_left
     ·simp only [Act.put,List.setIfInBounds_toArray,List.set_cons_zero,List.set_cons_succ,i64_w,i32_w]
      rfl
     refine take_ (i:=13) (N:=some 76) (v:=?_) (a':=?_) #[U,U,U,U,U,U,U,U,U,U,U,U,U,U,J,J,J,J,J,J,J,J,J,J,J,J,J,J] rfl rfl (take_ofW HT_.out HW_.out (by kernel_rfl)) (fun _ _ _ h=>h) (Or.inl ⟨by rfl,?_⟩) hHeld ?_ ?_
     rotate_left
     ·rintro w' ⟨s0,s1,s2,s3,s4,s5,s6,s7,s8,s9,s10,s11,s12⟩
      go_simp
      with_reducible rfl
     rotate_left
     ·simp only [Act.put,List.setIfInBounds_toArray,List.set_cons_zero,List.set_cons_succ,i64_w,i32_w]
      rfl
     refine pure_ (i:=14) (N:=some 77) (v:=?_) (a':=?_) #[U,U,U,U,U,U,U,U,U,U,U,U,U,U,U,J,J,J,J,J,J,J,J,J,J,J,J,J] rfl rfl (any_of HT_.out (by kernel_rfl)) (fun _ _ _ h=>h) (Or.inl ⟨by rfl,?_⟩) ?_ ?_
     rotate_left
     ·intro w'
      go_simp
      with_reducible rfl
     rotate_left
     ·simp only [Act.put,List.setIfInBounds_toArray,List.set_cons_zero,List.set_cons_succ,i64_w,i32_w]
      rfl
     refine pure_ (i:=15) (N:=some 78) (v:=?_) (a':=?_) #[U,U,U,U,U,U,U,U,U,U,U,U,U,U,U,U,J,J,J,J,J,J,J,J,J,J,J,J] rfl rfl (any_of HT_.out (by kernel_rfl)) (fun _ _ _ h=>h) (Or.inl ⟨by rfl,?_⟩) ?_ ?_
     rotate_left
     ·intro w'
      go_simp
      with_reducible rfl
     rotate_left
     ·simp only [Act.put,List.setIfInBounds_toArray,List.set_cons_zero,List.set_cons_succ,i64_w,i32_w]
      rfl
     refine take_ (i:=16) (N:=some 79) (v:=?_) (a':=?_) #[U,U,U,U,U,U,U,U,U,U,U,U,U,U,U,U,U,J,J,J,J,J,J,J,J,J,J,J] rfl rfl (take_ofW HT_.out HW_.out (by kernel_rfl)) (fun _ _ _ h=>h) (Or.inl ⟨by rfl,?_⟩) hHeld ?_ ?_
     rotate_left
     ·rintro w' ⟨s0,s1,s2,s3,s4,s5,s6,s7,s8,s9,s10,s11,s12⟩
      go_simp
      with_reducible rfl
     rotate_left
     ·simp only [Act.put,List.setIfInBounds_toArray,List.set_cons_zero,List.set_cons_succ,i64_w,i32_w]
      rfl
     refine pure_ (i:=17) (N:=some 80) (v:=?_) (a':=?_) #[U,U,U,U,U,U,U,U,U,U,U,U,U,U,U,U,U,U,J,J,J,J,J,J,J,J,J,J] rfl rfl (any_of HT_.out (by kernel_rfl)) (fun _ _ _ h=>h) (Or.inl ⟨by rfl,?_⟩) ?_ ?_
     rotate_left
     ·intro w'
      go_simp
      with_reducible rfl
     rotate_left
     ·simp only [Act.put,List.setIfInBounds_toArray,List.set_cons_zero,List.set_cons_succ,i64_w,i32_w]
      rfl
     refine pure_ (i:=18) (N:=some 81) (v:=?_) (a':=?_) #[U,U,U,U,U,U,U,U,U,U,U,U,U,U,U,U,U,U,U,J,J,J,J,J,J,J,J,J] rfl rfl (any_of HT_.out (by kernel_rfl)) (fun _ _ _ h=>h) (Or.inl ⟨by rfl,?_⟩) ?_ ?_
     rotate_left
     ·intro w'
      go_simp
      with_reducible rfl
     rotate_left
     ·simp only [Act.put,List.setIfInBounds_toArray,List.set_cons_zero,List.set_cons_succ,i64_w,i32_w]
      rfl
     refine pure_ (i:=19) (N:=some 82) (v:=?_) (a':=?_) #[U,U,U,U,U,U,U,U,U,U,U,U,U,U,U,U,U,U,U,U,J,J,J,J,J,J,J,J] rfl rfl (any_of HT_.out (by kernel_rfl)) (fun _ _ _ h=>h) (Or.inl ⟨by rfl,?_⟩) ?_ ?_
     rotate_left
     ·intro w'
      go_simp
      with_reducible rfl
     rotate_left
     ·simp only [Act.put,List.setIfInBounds_toArray,List.set_cons_zero,List.set_cons_succ,i64_w,i32_w]
      rfl
     refine take_ (i:=20) (N:=some 83) (v:=?_) (a':=?_) #[U,U,U,U,U,U,U,U,U,U,U,U,U,U,U,U,U,U,U,U,U,J,J,J,J,J,J,J] rfl rfl (take_ofW HT_.out HW_.out (by kernel_rfl)) (fun _ _ _ h=>h) (Or.inl ⟨by rfl,?_⟩) hHeld ?_ ?_
     rotate_left
     ·rintro w' ⟨s0,s1,s2,s3,s4,s5,s6,s7,s8,s9,s10,s11,s12⟩
      go_simp
      with_reducible rfl
     rotate_left
     ·simp only [Act.put,List.setIfInBounds_toArray,List.set_cons_zero,List.set_cons_succ,i64_w,i32_w]
      rfl
     refine pure_ (i:=21) (N:=some 84) (v:=?_) (a':=?_) #[U,U,U,U,U,U,U,U,U,U,U,U,U,U,U,U,U,U,U,U,U,U,J,J,J,J,J,J] rfl rfl (any_of HT_.out (by kernel_rfl)) (fun _ _ _ h=>h) (Or.inl ⟨by rfl,?_⟩) ?_ ?_
     rotate_left
     ·intro w'
      go_simp
      with_reducible rfl
     rotate_left
     ·simp only [Act.put,List.setIfInBounds_toArray,List.set_cons_zero,List.set_cons_succ,i64_w,i32_w]
      rfl
     refine pure_ (i:=22) (N:=some 85) (v:=?_) (a':=?_) #[U,U,U,U,U,U,U,U,U,U,U,U,U,U,U,U,U,U,U,U,U,U,U,J,J,J,J,J] rfl rfl (any_of HT_.out (by kernel_rfl)) (fun _ _ _ h=>h) (Or.inl ⟨by rfl,?_⟩) ?_ ?_
     rotate_left
     ·intro w'
      go_simp
      with_reducible rfl
     rotate_left
     ·simp only [Act.put,List.setIfInBounds_toArray,List.set_cons_zero,List.set_cons_succ,i64_w,i32_w]
      rfl
     refine take_ (i:=23) (N:=some 86) (v:=?_) (a':=?_) #[U,U,U,U,U,U,U,U,U,U,U,U,U,U,U,U,U,U,U,U,U,U,U,U,J,J,J,J] rfl rfl (take_ofW HT_.out HW_.out (by kernel_rfl)) (fun _ _ _ h=>h) (Or.inl ⟨by rfl,?_⟩) hHeld ?_ ?_
     rotate_left
     ·rintro w' ⟨s0,s1,s2,s3,s4,s5,s6,s7,s8,s9,s10,s11,s12⟩
      go_simp
      with_reducible rfl
     rotate_left
     ·simp only [Act.put,List.setIfInBounds_toArray,List.set_cons_zero,List.set_cons_succ,i64_w,i32_w]
      rfl
     refine pure_ (i:=24) (N:=some 87) (v:=?_) (a':=?_) #[U,U,U,U,U,U,U,U,U,U,U,U,U,U,U,U,U,U,U,U,U,U,U,U,U,J,J,J] rfl rfl (any_of HT_.out (by kernel_rfl)) (fun _ _ _ h=>h) (Or.inl ⟨by rfl,?_⟩) ?_ ?_
     rotate_left
     ·intro w'
      go_simp
      with_reducible rfl
     rotate_left
     ·simp only [Act.put,List.setIfInBounds_toArray,List.set_cons_zero,List.set_cons_succ,i64_w,i32_w]
      rfl
     refine pure_ (i:=25) (N:=some 88) (v:=?_) (a':=?_) #[U,U,U,U,U,U,U,U,U,U,U,U,U,U,U,U,U,U,U,U,U,U,U,U,U,U,J,J] rfl rfl (any_of HT_.out (by kernel_rfl)) (fun _ _ _ h=>h) (Or.inl ⟨by rfl,?_⟩) ?_ ?_
     rotate_left
     ·intro w'
      go_simp
      with_reducible rfl
     rotate_left
     ·simp only [Act.put,List.setIfInBounds_toArray,List.set_cons_zero,List.set_cons_succ,i64_w,i32_w]
      rfl
     refine last_ (i:=26) (N:=none) #[U,U,U,U,U,U,U,U,U,U,U,U,U,U,U,U,U,U,U,U,U,U,U,U,U,U,U,J] rfl rfl (one_of HT_.out (by kernel_rfl)) (by decide) (fun K hK=>?_)
     rw [if_pos (by rfl)]
     unfold Oper.wp
     go_simp
     refine hK.out _ _ ?_
     clear hK K
     refine pure_ (i:=27) (N:=some 3) (v:=?_) (a':=?_) #[U,U,U,U,U,U,U,U,U,U,U,U,U,U,U,U,U,U,U,U,U,U,U,U,U,U,U,U] rfl rfl (any_of HT_.out (by kernel_rfl)) (fun _ _ _ h=>h) (Or.inl ⟨by rfl,?_⟩) ?_ ?_
     rotate_left
     ·intro w'
      go_simp
      with_reducible rfl
     rotate_left
     ·simp only [Act.put,List.setIfInBounds_toArray,List.set_cons_zero,List.set_cons_succ,i64_w,i32_w]
      rfl
     refine done_ (done_of HT_.out (by kernel_rfl)) ?_
     have HFIN:=Aside0.mk (show wd.heap[w.heap.size]? = some (.cells #[.int .i64 0,.int .i64 0,.int .i64 0,.string (⟨#[]⟩:ByteArray),.int .i64 0,.int .i64 0,.int .i64 0,.int .i64 0,.int .i64 0,.string (⟨#[]⟩:ByteArray),.string (⟨#[]⟩:ByteArray),.string (⟨#[]⟩:ByteArray),.string (⟨#[]⟩:ByteArray)] 27 (0,0)) from HZd.out)
     go_wp2_with fail
     have h67:=HTF.out
     refine bodyPost_ret (results_ct rfl _ _ w.heap.size 27 #[.int .i64 t.f0,.int .i64 t.f1,.int .i64 t.f2,.string t.f3.f0,.int .i64 t.f3.f1,.int .i64 t.f3.f2,.int .i64 t.f3.f3,.int .i64 t.f4,.int .i64 t.f5,.string (rfS l 6),.string (rfS l 7),.string (rfS l 8),.string (rfS l 9)] (0,0) _ rfl (blk_put (cs:=#[.int .i64 t.f0,.int .i64 t.f1,.int .i64 t.f2,.string t.f3.f0,.int .i64 t.f3.f1,.int .i64 t.f3.f2,.int .i64 t.f3.f3,.int .i64 t.f4,.int .i64 t.f5,.string (rfS l 6),.string (rfS l 7),.string (rfS l 8),.string (⟨#[]⟩:ByteArray)]) (blk_put (cs:=#[.int .i64 t.f0,.int .i64 t.f1,.int .i64 t.f2,.string t.f3.f0,.int .i64 t.f3.f1,.int .i64 t.f3.f2,.int .i64 t.f3.f3,.int .i64 t.f4,.int .i64 t.f5,.string (rfS l 6),.string (rfS l 7),.string (⟨#[]⟩:ByteArray),.string (⟨#[]⟩:ByteArray)]) (blk_put (cs:=#[.int .i64 t.f0,.int .i64 t.f1,.int .i64 t.f2,.string t.f3.f0,.int .i64 t.f3.f1,.int .i64 t.f3.f2,.int .i64 t.f3.f3,.int .i64 t.f4,.int .i64 t.f5,.string (rfS l 6),.string (⟨#[]⟩:ByteArray),.string (⟨#[]⟩:ByteArray),.string (⟨#[]⟩:ByteArray)]) (blk_put (cs:=#[.int .i64 t.f0,.int .i64 t.f1,.int .i64 t.f2,.string t.f3.f0,.int .i64 t.f3.f1,.int .i64 t.f3.f2,.int .i64 t.f3.f3,.int .i64 t.f4,.int .i64 t.f5,.string (⟨#[]⟩:ByteArray),.string (⟨#[]⟩:ByteArray),.string (⟨#[]⟩:ByteArray),.string (⟨#[]⟩:ByteArray)]) (blk_put (cs:=#[.int .i64 t.f0,.int .i64 t.f1,.int .i64 t.f2,.string t.f3.f0,.int .i64 t.f3.f1,.int .i64 t.f3.f2,.int .i64 t.f3.f3,.int .i64 t.f4,.int .i64 0,.string (⟨#[]⟩:ByteArray),.string (⟨#[]⟩:ByteArray),.string (⟨#[]⟩:ByteArray),.string (⟨#[]⟩:ByteArray)]) (blk_put (cs:=#[.int .i64 t.f0,.int .i64 t.f1,.int .i64 t.f2,.string t.f3.f0,.int .i64 t.f3.f1,.int .i64 t.f3.f2,.int .i64 t.f3.f3,.int .i64 0,.int .i64 0,.string (⟨#[]⟩:ByteArray),.string (⟨#[]⟩:ByteArray),.string (⟨#[]⟩:ByteArray),.string (⟨#[]⟩:ByteArray)]) (blk_put (cs:=#[.int .i64 t.f0,.int .i64 t.f1,.int .i64 t.f2,.string t.f3.f0,.int .i64 t.f3.f1,.int .i64 t.f3.f2,.int .i64 0,.int .i64 0,.int .i64 0,.string (⟨#[]⟩:ByteArray),.string (⟨#[]⟩:ByteArray),.string (⟨#[]⟩:ByteArray),.string (⟨#[]⟩:ByteArray)]) (blk_put (cs:=#[.int .i64 t.f0,.int .i64 t.f1,.int .i64 t.f2,.string t.f3.f0,.int .i64 t.f3.f1,.int .i64 0,.int .i64 0,.int .i64 0,.int .i64 0,.string (⟨#[]⟩:ByteArray),.string (⟨#[]⟩:ByteArray),.string (⟨#[]⟩:ByteArray),.string (⟨#[]⟩:ByteArray)]) (blk_put (cs:=#[.int .i64 t.f0,.int .i64 t.f1,.int .i64 t.f2,.string t.f3.f0,.int .i64 0,.int .i64 0,.int .i64 0,.int .i64 0,.int .i64 0,.string (⟨#[]⟩:ByteArray),.string (⟨#[]⟩:ByteArray),.string (⟨#[]⟩:ByteArray),.string (⟨#[]⟩:ByteArray)]) (blk_put (cs:=#[.int .i64 t.f0,.int .i64 t.f1,.int .i64 t.f2,.string (⟨#[]⟩:ByteArray),.int .i64 0,.int .i64 0,.int .i64 0,.int .i64 0,.int .i64 0,.string (⟨#[]⟩:ByteArray),.string (⟨#[]⟩:ByteArray),.string (⟨#[]⟩:ByteArray),.string (⟨#[]⟩:ByteArray)]) (blk_put (cs:=#[.int .i64 t.f0,.int .i64 t.f1,.int .i64 0,.string (⟨#[]⟩:ByteArray),.int .i64 0,.int .i64 0,.int .i64 0,.int .i64 0,.int .i64 0,.string (⟨#[]⟩:ByteArray),.string (⟨#[]⟩:ByteArray),.string (⟨#[]⟩:ByteArray),.string (⟨#[]⟩:ByteArray)]) (blk_put (cs:=#[.int .i64 t.f0,.int .i64 0,.int .i64 0,.string (⟨#[]⟩:ByteArray),.int .i64 0,.int .i64 0,.int .i64 0,.int .i64 0,.int .i64 0,.string (⟨#[]⟩:ByteArray),.string (⟨#[]⟩:ByteArray),.string (⟨#[]⟩:ByteArray),.string (⟨#[]⟩:ByteArray)]) (blk_put (cs:=#[.int .i64 0,.int .i64 0,.int .i64 0,.string (⟨#[]⟩:ByteArray),.int .i64 0,.int .i64 0,.int .i64 0,.int .i64 0,.int .i64 0,.string (⟨#[]⟩:ByteArray),.string (⟨#[]⟩:ByteArray),.string (⟨#[]⟩:ByteArray),.string (⟨#[]⟩:ByteArray)]) (HFIN.out) 0 _ rfl) 1 _ rfl) 2 _ rfl) 3 _ rfl) 4 _ rfl) 5 _ rfl) 6 _ rfl) 7 _ rfl) 8 _ rfl) 9 _ rfl) 10 _ rfl) 11 _ rfl) 12 _ rfl) Tryd.underlying27 rfl (by kernel_rfl)) rfl ⟨?_,?_⟩
     ·rw [h67.1,h67.2]
      rfl
     ·exact (Below.setCell (Below.setCell (Below.setCell (Below.setCell (Below.setCell (Below.setCell (Below.setCell (Below.setCell (Below.setCell (Below.setCell (Below.setCell (Below.setCell (Below.setCell HBd.out (p:=⟨w.heap.size,0,none⟩) (by first|exact Nat.le_refl _|exact Nat.le_succ _) _) (p:=⟨w.heap.size,1,none⟩) (by first|exact Nat.le_refl _|exact Nat.le_succ _) _) (p:=⟨w.heap.size,2,none⟩) (by first|exact Nat.le_refl _|exact Nat.le_succ _) _) (p:=⟨w.heap.size,3,none⟩) (by first|exact Nat.le_refl _|exact Nat.le_succ _) _) (p:=⟨w.heap.size,4,none⟩) (by first|exact Nat.le_refl _|exact Nat.le_succ _) _) (p:=⟨w.heap.size,5,none⟩) (by first|exact Nat.le_refl _|exact Nat.le_succ _) _) (p:=⟨w.heap.size,6,none⟩) (by first|exact Nat.le_refl _|exact Nat.le_succ _) _) (p:=⟨w.heap.size,7,none⟩) (by first|exact Nat.le_refl _|exact Nat.le_succ _) _) (p:=⟨w.heap.size,8,none⟩) (by first|exact Nat.le_refl _|exact Nat.le_succ _) _) (p:=⟨w.heap.size,9,none⟩) (by first|exact Nat.le_refl _|exact Nat.le_succ _) _) (p:=⟨w.heap.size,10,none⟩) (by first|exact Nat.le_refl _|exact Nat.le_succ _) _) (p:=⟨w.heap.size,11,none⟩) (by first|exact Nat.le_refl _|exact Nat.le_succ _) _) (p:=⟨w.heap.size,12,none⟩) (by first|exact Nat.le_refl _|exact Nat.le_succ _) _)
theorem contangoref12_Parse.calls (k:Nat) (a0:ByteArray) (r1 r2 r3:Int) (r4:ByteArray) (r5 r6 r7 r8 r9:Int) (r10 r11 r12 r13:ByteArray) (r14:Int) (w:World) (h:contangoref12_Parse.f k a0=some (r1,r2,r3,r4,r5,r6,r7,r8,r9,r10,r11,r12,r13,r14)) :
  Calls Tryd.prog 8 #[.string a0] w fun e w'=>e=.returned (.tuple #[.agg #[.int .i64 r1,.int .i64 r2,.int .i64 r3,.string r4,.int .i64 r5,.int .i64 r6,.int .i64 r7,.int .i64 r8,.int .i64 r9,.string r10,.string r11,.string r12,.string r13],.int .i64 r14])∧Below w.heap.size w w':=by
 unfold contangoref12_Parse.f at h
 obtain ⟨p,hp,h⟩:=Option.bind_eq_some_iff.1 h
 simp only [Option.some.injEq,Prod.mk.injEq] at h
 obtain ⟨rfl,rfl,rfl,rfl,rfl,rfl,rfl,rfl,rfl,rfl,rfl,rfl,rfl,rfl⟩:=h
 exact rparse_core k a0 p w hp
end Go.Proofs.YthpmmofleddpnaaDoor.X
end
section
namespace Go.Proofs.YthpmmofleddpnaaDoor.X
open Go.RowKit Go.Proofs.YthpmmofleddpnaaDoorW.PrintWords Go.Proofs.YthpmmofleddpnaaDoorW.PrintLast Go.Proofs.YthpmmofleddpnaaDoorW.PrintMore
attribute [local go_sem] max2_int min2_int max_two min_two max_three min_three max_four min_four
set_option linter.unusedVariables false
set_option linter.unusedSimpArgs false
def contangoref03_Join.l0:Nat→List ByteArray→ByteArray→Int→Option (ByteArray)
 | 0,_,_,_=>none
 | k+1,x0,x3,x4=>if x4 < (x0.length:Int) then (if x4 > 0 then (if x3.size+1≤9223372036854775807 then (if 0≤x4 then (if (x3++(⟨#[32]⟩:ByteArray)).size+(rdOf ByteArray.empty x0 x4).size≤9223372036854775807 then (contangoref03_Join.l0 k x0 ((x3++(⟨#[32]⟩:ByteArray))++(rdOf ByteArray.empty x0 x4)) (wrap64 (x4+1))) else (none)) else (none)) else (none)) else (if 0≤x4 then (if x3.size+(rdOf ByteArray.empty x0 x4).size≤9223372036854775807 then (contangoref03_Join.l0 k x0 (x3++(rdOf ByteArray.empty x0 x4)) (wrap64 (x4+1))) else (none)) else (none))) else (some x3)
def contangoref03_Join.f (k:Nat) (l0:List ByteArray):Option (ByteArray):=contangoref03_Join.l0 k l0 (⟨#[]⟩:ByteArray) 0
set_option maxHeartbeats 8000000 in
set_option maxRecDepth 100000 in
theorem contangoref03_Join.calls (k:Nat) (A0:Option Addr) (c0:Nat) (l0:List ByteArray) (r:ByteArray) (w:World) (hr0:Kd.C Kd.string w A0 l0.length l0) (hc0:l0.length≤c0) (h:contangoref03_Join.f k l0=some r) :
  Calls Tryd.prog 37 #[.slice A0 l0.length c0] w fun e w'=>e=.returned (.string r)∧Drawn0 w w':=by
 have HR0:=Aside0.mk hr0
 have HC0:=Aside0.mk hc0
 clear hr0 hc0
 have H:(contangoref03_Join.l0 k l0 (⟨#[]⟩:ByteArray) 0)=some r:=h
 clear h
 have H':=Aside0.mk H
 clear H
 go_enter Tryd.func37,Tryd.ntmps37
 go_wp2
 go_loopg [3,4] k (fun kq v3 v4 w'=>∃ (x3_1:ByteArray) (x4_1:Int),v3=.string x3_1∧v4=.int .i64 x4_1∧Aside0 (contangoref03_Join.l0 kq l0 x3_1 x4_1=some r)∧Aside0 (kq≤k)∧Drawn0 w w')
 case atStart=>exact ⟨((⟨#[]⟩:ByteArray)),(0),(by first|rfl|(simp;done)|(simp [*];done)),(by first|rfl|(simp;done)|(simp [*];done)),H',⟨Nat.le_refl _⟩,by repeat (first|exact Drawn0.refl _|apply Drawn0.step)⟩
 case round =>
  clear H'
  obtain ⟨x3_1,x4_1,rfl,rfl,HA,HK1,⟨m1,rfl⟩⟩:=hrel
  cases gk with
  | zero=>exact absurd HA.out (by simp [contangoref03_Join.l0])
  | succ k1 =>
   have H:=HA.out
   clear HA
   simp only [contangoref03_Join.l0] at H
   by_cases c2:x4_1 < (l0.length:Int)
   ·rw [if_pos c2] at H
    have c2b0:decide (x4_1 < (l0.length:Int))=true:=decide_eq_true c2
    clear c2
    by_cases c3:x4_1 > 0
    ·rw [if_pos c3] at H
     have c3b0:decide (0 < x4_1)=true:=decide_eq_true c3
     clear c3
     by_cases c4:x3_1.size+1≤9223372036854775807
     ·rw [if_pos c4] at H
      have c4b0:=eq_true c4
      have c4b1:decide (x3_1.size+1≤9223372036854775807)=true:=decide_eq_true c4
      try have c4b2:(9223372036854775807 < x3_1.size+1)=False:=eq_false (Nat.not_lt.2 c4)
      by_cases c5:0≤x4_1
      ·rw [if_pos c5] at H
       have c5b0:decide (0≤x4_1)=true:=decide_eq_true c5
       clear c5
       by_cases c6:(x3_1++(⟨#[32]⟩:ByteArray)).size+(rdOf ByteArray.empty l0 x4_1).size≤9223372036854775807
       ·rw [if_pos c6] at H
        have c6b0:=eq_true c6
        have c6b1:decide ((x3_1++(⟨#[32]⟩:ByteArray)).size+(rdOf ByteArray.empty l0 x4_1).size≤9223372036854775807)=true:=decide_eq_true c6
        try have c6b2:(9223372036854775807 < (x3_1++(⟨#[32]⟩:ByteArray)).size+(rdOf ByteArray.empty l0 x4_1).size)=False:=eq_false (Nat.not_lt.2 c6)
        have H':=Aside0.mk H
        clear H
        have p101:0≤(x4_1:Int):=of_decide_eq_true (by first|(with_reducible assumption)|assumption)
        have q101:x4_1 < (l0.length:Int):=of_decide_eq_true (by first|(with_reducible assumption)|assumption)
        obtain ⟨ad101,e101,hx101_0⟩:=Kd.at_string HR0.out x4_1 p101 q101
        cases e101
        replace p101:=eq_true p101
        replace q101:=eq_true q101
        go_wp2
        go_roundg k1
        case measure=>have:=HK1.out;omega
        case rel=>exact ⟨((x3_1++(⟨#[32]⟩:ByteArray))++(rdOf ByteArray.empty l0 x4_1)),(wrap64 (x4_1+1)),(by first|rfl|(simp;done)|(simp [*];done)),(by first|rfl|(simp;done)|(simp [*];done)),H',⟨by have:=HK1.out;omega⟩,by repeat (first|exact Drawn0.refl _|apply Drawn0.step)⟩
       ·rw [if_neg c6] at H
        exact absurd H (by simp)
      ·rw [if_neg c5] at H
       exact absurd H (by simp)
     ·rw [if_neg c4] at H
      exact absurd H (by simp)
    ·rw [if_neg c3] at H
     have c3b0:decide (0 < x4_1)=false:=decide_eq_false c3
     clear c3
     by_cases c7:0≤x4_1
     ·rw [if_pos c7] at H
      have c7b0:decide (0≤x4_1)=true:=decide_eq_true c7
      clear c7
      by_cases c8:x3_1.size+(rdOf ByteArray.empty l0 x4_1).size≤9223372036854775807
      ·rw [if_pos c8] at H
       have c8b0:=eq_true c8
       have c8b1:decide (x3_1.size+(rdOf ByteArray.empty l0 x4_1).size≤9223372036854775807)=true:=decide_eq_true c8
       try have c8b2:(9223372036854775807 < x3_1.size+(rdOf ByteArray.empty l0 x4_1).size)=False:=eq_false (Nat.not_lt.2 c8)
       have H':=Aside0.mk H
       clear H
       have p102:0≤(x4_1:Int):=of_decide_eq_true (by first|(with_reducible assumption)|assumption)
       have q102:x4_1 < (l0.length:Int):=of_decide_eq_true (by first|(with_reducible assumption)|assumption)
       obtain ⟨ad102,e102,hx102_0⟩:=Kd.at_string HR0.out x4_1 p102 q102
       cases e102
       replace p102:=eq_true p102
       replace q102:=eq_true q102
       go_wp2
       go_roundg k1
       case measure=>have:=HK1.out;omega
       case rel=>exact ⟨(x3_1++(rdOf ByteArray.empty l0 x4_1)),(wrap64 (x4_1+1)),(by first|rfl|(simp;done)|(simp [*];done)),(by first|rfl|(simp;done)|(simp [*];done)),H',⟨by have:=HK1.out;omega⟩,by repeat (first|exact Drawn0.refl _|apply Drawn0.step)⟩
      ·rw [if_neg c8] at H
       exact absurd H (by simp)
     ·rw [if_neg c7] at H
      exact absurd H (by simp)
   ·rw [if_neg c2] at H
    have c2b0:decide (x4_1 < (l0.length:Int))=false:=decide_eq_false c2
    clear c2
    obtain rfl:=Option.some.inj H
    go_wp2
    go_ret
    exact ⟨by first|rfl|(simp;done)|(simp [*];done),by repeat (first|exact Drawn0.refl _|apply Drawn0.step)⟩
end Go.Proofs.YthpmmofleddpnaaDoor.X
end
section
namespace Go.Proofs.YthpmmofleddpnaaDoor.X
open Go.RowKit Go.Proofs.YthpmmofleddpnaaDoorW.PrintWords Go.Proofs.YthpmmofleddpnaaDoorW.PrintLast Go.Proofs.YthpmmofleddpnaaDoorW.PrintMore
attribute [local go_sem] max2_int min2_int max_two min_two max_three min_three max_four min_four
set_option linter.unusedVariables false
set_option linter.unusedSimpArgs false
def contangoref03_text.f:Nat→Int→Option (ByteArray)
 | 0,_=>none
 | k+1,a0=>(some (([(wrap64 (48 - (Int.tmod a0 10))) % 256]:List Int):List Int)).bind fun y101=>(if a0 > (-10) then (some (strOfNums y101)) else ((contangoref03_text.f k (wrap64 (Int.tdiv a0 10))).bind fun t104=>(if t104.size+(strOfNums y101).size≤9223372036854775807 then (some (t104++(strOfNums y101))) else (none))))
set_option maxHeartbeats 8000000 in
set_option maxRecDepth 100000 in
theorem contangoref03_text.calls (k:Nat):∀ (a0:Int) (r:ByteArray) (w:World) (h:contangoref03_text.f k a0=some r),
  Calls Tryd.prog 64 #[.int .i64 a0] w fun e w'=>e=.returned (.string r)∧Below w.heap.size w w':=by
 induction k using Nat.strongRecOn with
 | _ k ih =>
 intro a0 r w h
 cases k with
 | zero=>exact absurd h (by simp [contangoref03_text.f])
 | succ k =>
 simp only [contangoref03_text.f] at h
 have HB:=Aside0.mk (Below.refl w.heap.size w)
 have H:((some (([(wrap64 (48 - (Int.tmod a0 10))) % 256]:List Int):List Int)).bind fun y101=>(if a0 > (-10) then (some (strOfNums y101)) else ((contangoref03_text.f k (wrap64 (Int.tdiv a0 10))).bind fun t104=>(if t104.size+(strOfNums y101).size≤9223372036854775807 then (some (t104++(strOfNums y101))) else (none)))))=some r:=h
 clear h
 obtain ⟨y101,hy101⟩:∃ y_:List Int,y_=(([(wrap64 (48 - (Int.tmod a0 10))) % 256]:List Int)):=⟨_,rfl⟩
 replace H:(if a0 > (-10) then (some (strOfNums y101)) else ((contangoref03_text.f k (wrap64 (Int.tdiv a0 10))).bind fun t104=>(if t104.size+(strOfNums y101).size≤9223372036854775807 then (some (t104++(strOfNums y101))) else (none))))=some r:=by first|(rw [hy101];with_reducible exact H)|(have H2_:=(Option.bind_some _ _).symm.trans H;rw [hy101];with_reducible exact H2_)|(have H2_:=(Option.bind_some _ _).symm.trans H;with_reducible exact H2_)|with_reducible exact H|(rw [hy101];exact H)|exact H
 have Ny101:=Aside0.mk hy101
 clear hy101
 by_cases c2:a0 > (-10)
 ·rw [if_pos c2] at H
  have c2b0:decide ((-10) < a0)=true:=decide_eq_true c2
  clear c2
  obtain rfl:=Option.some.inj H
  go_enter Tryd.func64,Tryd.ntmps64
  go_wp2_with (first|((with_reducible refine gate_dst (N:=8) rfl ?_);refine Kd.R_lit (Kd.int .u8) _ 5 ?hg (N:=8) ?hd (xs:=([(wrap64 (48 - (Int.tmod a0 10))) % 256]:List Int)) (inner:=[.int .u8 ((wrap64 (48 - (Int.tmod a0 10))) % 256)]) (ok:=fun _=>True) (okp:=fun _=>True) ?hr ?hp (fun _ hk=>hk) trivial (Below.refl _ _) (Nat.le_refl _) (by simp) ?_;(case hd=>rfl);(case hg=>rfl);(case hr=>first|(go_simp;done)|(go_simp;rfl));(case hp=>exact (Reps.one (show Kd.M (Kd.int .u8) _ _ _ ((wrap64 (48 - (Int.tmod a0 10))) % 256) [.int .u8 ((wrap64 (48 - (Int.tmod a0 10))) % 256)] from rfl) (Reps.none _ _)));intro v102 w3 ho4 hb hg_ hnew_;clear hg_ hnew_;(first|rw [← Ny101.out] at ho4|(simp only [Int.reduceToNat] at ho4;rw [← Ny101.out] at ho4));have n0_:=Aside0.mk (Kd.R_lower ho4 (below_size (by repeat (first|(with_reducible first|exact HB.out|apply below_alloc|apply pw_below_drewN|apply below_drew1)|exact HB.out))));have n1_:=Aside0.mk (below_step (by repeat (first|(with_reducible first|exact HB.out|apply below_alloc|apply pw_below_drewN|apply below_drew1)|exact HB.out)) hb);clear HB;have HO103:=n0_;have HB:=n1_;clear n0_ n1_;clear hb ho4;have hcv5:=own_string (P:=Tryd.prog) Tryd.underlying112 Tryd.underlying5 Tryd.underlying9 (Kd.own_of_R HO103.out)))
  go_ret
  exact ⟨by first|rfl|(simp [errW_none,errW_some]<;>rfl)|(simp [*,errW_none,errW_some]<;>rfl),by repeat (first|(with_reducible first|exact HB.out|apply below_alloc|apply pw_below_drewN|apply below_drew1)|exact HB.out)⟩
 ·rw [if_neg c2] at H
  have c2b0:decide ((-10) < a0)=false:=decide_eq_false c2
  clear c2
  replace H:=Option.bind_eq_some_iff.mp H
  obtain ⟨t104,A60,H⟩:=H
  replace H:(if t104.size+(strOfNums y101).size≤9223372036854775807 then (some (t104++(strOfNums y101))) else (none))=some r:=H
  have A6:=Aside0.mk A60
  clear A60
  by_cases c7:t104.size+(strOfNums y101).size≤9223372036854775807
  ·rw [if_pos c7] at H
   have c7b0:=eq_true c7
   have c7b1:decide (t104.size+(strOfNums y101).size≤9223372036854775807)=true:=decide_eq_true c7
   try have c7b2:(9223372036854775807 < t104.size+(strOfNums y101).size)=False:=eq_false (Nat.not_lt.2 c7)
   obtain rfl:=Option.some.inj H
   go_enter Tryd.func64,Tryd.ntmps64
   go_wp2_with (first|((with_reducible refine gate_dst (N:=8) rfl ?_);refine Kd.R_lit (Kd.int .u8) _ 5 ?hg (N:=8) ?hd (xs:=([(wrap64 (48 - (Int.tmod a0 10))) % 256]:List Int)) (inner:=[.int .u8 ((wrap64 (48 - (Int.tmod a0 10))) % 256)]) (ok:=fun _=>True) (okp:=fun _=>True) ?hr ?hp (fun _ hk=>hk) trivial (Below.refl _ _) (Nat.le_refl _) (by simp) ?_;(case hd=>rfl);(case hg=>rfl);(case hr=>first|(go_simp;done)|(go_simp;rfl));(case hp=>exact (Reps.one (show Kd.M (Kd.int .u8) _ _ _ ((wrap64 (48 - (Int.tmod a0 10))) % 256) [.int .u8 ((wrap64 (48 - (Int.tmod a0 10))) % 256)] from rfl) (Reps.none _ _)));intro v102 w8 ho9 hb hg_ hnew_;clear hg_ hnew_;(first|rw [← Ny101.out] at ho9|(simp only [Int.reduceToNat] at ho9;rw [← Ny101.out] at ho9));have n0_:=Aside0.mk (Kd.R_lower ho9 (below_size (by repeat (first|(with_reducible first|exact HB.out|apply below_alloc|apply pw_below_drewN|apply below_drew1)|exact HB.out))));have n1_:=Aside0.mk (below_step (by repeat (first|(with_reducible first|exact HB.out|apply below_alloc|apply pw_below_drewN|apply below_drew1)|exact HB.out)) hb);clear HB;have HO103:=n0_;have HB:=n1_;clear n0_ n1_;clear hb ho9;have hcv10:=own_string (P:=Tryd.prog) Tryd.underlying112 Tryd.underlying5 Tryd.underlying9 (Kd.own_of_R HO103.out))|((with_reducible refine gate_callee (f:=64) rfl ?_);refine goesL_ (some 15) rfl rfl Tryd.func64 (by kernel_rfl) rfl #[.int .i64 (wrap64 (Int.tdiv a0 10))] rfl (by (try simp only [List.map_toArray,List.map_cons,List.map_nil]);first|done|rfl|(simp only [List.length_drop,List.length_take];rfl)) ?_;(with_reducible refine (ih k (by omega) (wrap64 (Int.tdiv a0 10)) t104 _ A6.out).mono ?_);rintro e w11 ⟨rfl,hb⟩;refine ⟨_,rfl,?_⟩;have n0_:=Aside0.mk (Kd.R_below (by (with_reducible repeat (first|apply Kd.R_alloc|apply Kd.R_drewN|apply Kd.R_drew));exact HO103.out) hb);have n1_:=Aside0.mk (below_step (by repeat (first|(with_reducible first|exact HB.out|apply below_alloc|apply pw_below_drewN|apply below_drew1)|exact HB.out)) hb);clear HO103;clear HB;have HO103:=n0_;have HB:=n1_;clear n0_ n1_;(try clear hb);(try clear hb2);(try clear hk);(try clear hi)))
   go_ret
   exact ⟨by first|rfl|(simp [errW_none,errW_some]<;>rfl)|(simp [*,errW_none,errW_some]<;>rfl),by repeat (first|(with_reducible first|exact HB.out|apply below_alloc|apply pw_below_drewN|apply below_drew1)|exact HB.out)⟩
  ·rw [if_neg c7] at H
   exact absurd H (by simp)
end Go.Proofs.YthpmmofleddpnaaDoor.X
end
section
namespace Go.Proofs.YthpmmofleddpnaaDoor.X
open Go.RowKit Go.Proofs.YthpmmofleddpnaaDoorW.PrintWords Go.Proofs.YthpmmofleddpnaaDoorW.PrintLast Go.Proofs.YthpmmofleddpnaaDoorW.PrintMore
attribute [local go_sem] max2_int min2_int max_two min_two max_three min_three max_four min_four
set_option linter.unusedVariables false
set_option linter.unusedSimpArgs false
def contangoref03_Text.f (k:Nat) (a0:Int):Option (ByteArray):=if a0 < 0 then ((contangoref03_text.f k a0).bind fun t101=>(if 1+t101.size≤9223372036854775807 then (some ((⟨#[45]⟩:ByteArray)++t101)) else (none))) else ((contangoref03_text.f k (wrap64 (-a0))).bind fun t102=>(some t102))
set_option maxHeartbeats 8000000 in
set_option maxRecDepth 100000 in
theorem contangoref03_Text.calls (k:Nat) (a0:Int) (r:ByteArray) (w:World) (h:contangoref03_Text.f k a0=some r) :
  Calls Tryd.prog 38 #[.int .i64 a0] w fun e w'=>e=.returned (.string r)∧Below w.heap.size w w':=by
 have HB:=Aside0.mk (Below.refl w.heap.size w)
 have H:(if a0 < 0 then ((contangoref03_text.f k a0).bind fun t101=>(if 1+t101.size≤9223372036854775807 then (some ((⟨#[45]⟩:ByteArray)++t101)) else (none))) else ((contangoref03_text.f k (wrap64 (-a0))).bind fun t102=>(some t102)))=some r:=h
 clear h
 by_cases c2:a0 < 0
 ·rw [if_pos c2] at H
  have c2b0:decide (a0 < 0)=true:=decide_eq_true c2
  clear c2
  replace H:=Option.bind_eq_some_iff.mp H
  obtain ⟨t101,A30,H⟩:=H
  replace H:(if 1+t101.size≤9223372036854775807 then (some ((⟨#[45]⟩:ByteArray)++t101)) else (none))=some r:=H
  have A3:=Aside0.mk A30
  clear A30
  by_cases c4:1+t101.size≤9223372036854775807
  ·rw [if_pos c4] at H
   have c4b0:=eq_true c4
   have c4b1:decide (1+t101.size≤9223372036854775807)=true:=decide_eq_true c4
   try have c4b2:(9223372036854775807 < 1+t101.size)=False:=eq_false (Nat.not_lt.2 c4)
   obtain rfl:=Option.some.inj H
   go_enter Tryd.func38,Tryd.ntmps38
   go_wp2_with (first|((with_reducible refine gate_callee (f:=64) rfl ?_);refine goesL_ (some 6) rfl rfl Tryd.func64 (by kernel_rfl) rfl #[.int .i64 a0] rfl (by (try simp only [List.map_toArray,List.map_cons,List.map_nil]);first|done|rfl|(simp only [List.length_drop,List.length_take];rfl)) ?_;(with_reducible refine (contangoref03_text.calls k a0 t101 _ A3.out).mono ?_);rintro e w5 ⟨rfl,hb⟩;refine ⟨_,rfl,?_⟩;have n0_:=Aside0.mk (below_step (by repeat (first|(with_reducible first|exact HB.out|apply below_alloc|apply pw_below_drewN|apply below_drew1)|exact HB.out)) hb);clear HB;have HB:=n0_;clear n0_;(try clear hb);(try clear hb2);(try clear hk);(try clear hi)))
   go_ret
   exact ⟨by first|rfl|(simp [errW_none,errW_some]<;>rfl)|(simp [*,errW_none,errW_some]<;>rfl),by repeat (first|(with_reducible first|exact HB.out|apply below_alloc|apply pw_below_drewN|apply below_drew1)|exact HB.out)⟩
  ·rw [if_neg c4] at H
   exact absurd H (by simp)
 ·rw [if_neg c2] at H
  have c2b0:decide (a0 < 0)=false:=decide_eq_false c2
  clear c2
  replace H:=Option.bind_eq_some_iff.mp H
  obtain ⟨t102,A60,H⟩:=H
  replace H:(some t102)=some r:=H
  have A6:=Aside0.mk A60
  clear A60
  obtain rfl:=Option.some.inj H
  go_enter Tryd.func38,Tryd.ntmps38
  go_wp2_with (first|((with_reducible refine gate_callee (f:=64) rfl ?_);refine goesL_ (some 10) rfl rfl Tryd.func64 (by kernel_rfl) rfl #[.int .i64 (wrap64 (-a0))] rfl (by (try simp only [List.map_toArray,List.map_cons,List.map_nil]);first|done|rfl|(simp only [List.length_drop,List.length_take];rfl)) ?_;(with_reducible refine (contangoref03_text.calls k (wrap64 (-a0)) t102 _ A6.out).mono ?_);rintro e w7 ⟨rfl,hb⟩;refine ⟨_,rfl,?_⟩;have n0_:=Aside0.mk (below_step (by repeat (first|(with_reducible first|exact HB.out|apply below_alloc|apply pw_below_drewN|apply below_drew1)|exact HB.out)) hb);clear HB;have HB:=n0_;clear n0_;(try clear hb);(try clear hb2);(try clear hk);(try clear hi)))
  go_ret
  exact ⟨by first|rfl|(simp [errW_none,errW_some]<;>rfl)|(simp [*,errW_none,errW_some]<;>rfl),by repeat (first|(with_reducible first|exact HB.out|apply below_alloc|apply pw_below_drewN|apply below_drew1)|exact HB.out)⟩
end Go.Proofs.YthpmmofleddpnaaDoor.X
end
section
namespace Go.Proofs.YthpmmofleddpnaaDoor.X
open Go.RowKit Go.Proofs.YthpmmofleddpnaaDoorW.PrintWords Go.Proofs.YthpmmofleddpnaaDoorW.PrintLast Go.Proofs.YthpmmofleddpnaaDoorW.PrintMore
attribute [local go_sem] max2_int min2_int max_two min_two max_three min_three max_four min_four
set_option linter.unusedVariables false
set_option linter.unusedSimpArgs false
mutual
def contangoref05_Split.j0:Nat→Int→Bool→Option (Int × Int × Int × Int)
 | 0,_,_=>none
 | k+1,x0,x14=>if x14=true then (some (0,0,0,15)) else (contangoref05_Split.l0 k x0 2000)
def contangoref05_Split.j2:Nat→Int→Int→Option (Int × Int × Int × Int)
 | 0,_,_=>none
 | k+1,x0,x6=>contangoref05_Split.l1 k x0 x6 1
def contangoref05_Split.l1:Nat→Int→Int→Int→Option (Int × Int × Int × Int)
 | 0,_,_,_=>none
 | k+1,x0,x6,x8=>(contangoref05_Days.f k x6 x8).bind fun t102=>(if x0 ≥ t102 then ((contangoref05_Days.f k x6 x8).bind fun t103=>(contangoref05_Split.l1 k (wrap64 (x0 - t103)) x6 (wrap64 (x8+1)))) else (some (x6,x8,wrap64 (x0+1),0)))
def contangoref05_Split.l0:Nat→Int→Int→Option (Int × Int × Int × Int)
 | 0,_,_=>none
 | k+1,x0,x6=>(contangoref05_Leap.f x6).bind fun t101=>(if t101=true then (if x0 < 366 then (contangoref05_Split.j2 k x0 x6) else (contangoref05_Split.l0 k (wrap64 (x0 - 366)) (wrap64 (x6+1)))) else (if x0 < 365 then (contangoref05_Split.j2 k x0 x6) else (contangoref05_Split.l0 k (wrap64 (x0 - 365)) (wrap64 (x6+1)))))
end
def contangoref05_Split.f (k:Nat) (a0:Int):Option (Int × Int × Int × Int):=if a0 < 0 then (contangoref05_Split.j0 k a0 true) else (contangoref05_Split.j0 k a0 (decide (a0 > 73048)))
set_option maxHeartbeats 8000000 in
set_option maxRecDepth 100000 in
theorem contangoref05_Split.calls (k:Nat) (a0:Int) (r1:Int) (r2:Int) (r3:Int) (r4:Int) (w:World) (h:contangoref05_Split.f k a0=some (r1,r2,r3,r4)) :
  Calls Tryd.prog 65 #[.int .i64 a0] w fun e w'=>e=.returned (.tuple #[.int .i64 r1,.int .i64 r2,.int .i64 r3,.int .i64 r4])∧Drawn0 w w':=by
 have H:(if a0 < 0 then (contangoref05_Split.j0 k a0 true) else (contangoref05_Split.j0 k a0 (decide (a0 > 73048))))=some (r1,r2,r3,r4):=h
 clear h
 have HC2:=Aside0.mk H
 clear H
 go_enter Tryd.func65,Tryd.ntmps65
 go_upto_region 1 with (fail)
 go_cut [14] (fun v14 wc=>∃ (kq:Nat) (x14_1:Bool),v14=.bool x14_1∧Aside0 (contangoref05_Split.j0 kq a0 x14_1=some (r1,r2,r3,r4))∧Aside0 (kq≤k)∧Drawn0 w wc)
 case first =>
  have H:=HC2.out
  clear HC2
  by_cases c3:a0 < 0
  ·rw [if_pos c3] at H
   have c3b0:decide (a0 < 0)=true:=decide_eq_true c3
   clear c3
   (first|rw [c3b0]|(simp only [i64_w,i32_w];rw [c3b0])|skip)
   have H':=Aside0.mk H
   clear H
   go_wp2
   go_meet
   case rel=>exact ⟨_,(true),(by first|rfl|(simp;done)|(simp [*];done)),H',⟨by first|omega|exact Nat.le_refl _⟩,by repeat (first|exact Drawn0.refl _|apply Drawn0.step)⟩
  ·rw [if_neg c3] at H
   have c3b0:decide (a0 < 0)=false:=decide_eq_false c3
   clear c3
   (first|rw [c3b0]|(simp only [i64_w,i32_w];rw [c3b0])|skip)
   have H':=Aside0.mk H
   clear H
   go_wp2
   go_meet
   case rel=>exact ⟨_,(decide (a0 > 73048)),(by first|rfl|(simp;done)|(simp [*];done)),H',⟨by first|omega|exact Nat.le_refl _⟩,by repeat (first|exact Drawn0.refl _|apply Drawn0.step)⟩
 case rest =>
  clear HC2
  try clear p2
  try clear c3
  try clear c3b0
  obtain ⟨kq,x14_1,rfl,HA,HJ1,⟨mc1,rfl⟩⟩:=hcut
  cases kq with
  | zero=>exact absurd HA.out (by simp [contangoref05_Split.j0])
  | succ kj1 =>
   have H:=HA.out
   clear HA
   simp only [contangoref05_Split.j0] at H
   by_cases c4:x14_1=true
   ·subst c4
    have H1:(some (0,0,0,15))=some (r1,r2,r3,r4):=by rw [if_pos rfl] at H;exact H
    clear H
    have H:=H1
    clear H1
    simp only [Option.some.injEq,Prod.mk.injEq] at H
    obtain ⟨rfl,rfl,rfl,rfl⟩:=H
    go_wp2
    refine bodyPost_ret (results_list (rs:=[.tmp 2,.tmp 3,.tmp 4,.tmp 5]) rfl (by simp) (.tmp (.tmp (.tmp (.tmp .nil))))) rfl ?_
    exact ⟨by first|rfl|(simp;done)|(simp [*];done),by repeat (first|exact Drawn0.refl _|apply Drawn0.step)⟩
   ·replace c4:=Bool.eq_false_iff.mpr c4
    subst c4
    have H1:(contangoref05_Split.l0 kj1 a0 2000)=some (r1,r2,r3,r4):=by rw [if_neg (show ¬ (false=true) by decide)] at H;exact H
    clear H
    have H:=H1
    clear H1
    have HC5:=Aside0.mk H
    clear H
    go_upto_block 0 with (fail)
    go_cut [0,6] (fun v0 v6 wc=>∃ (kq:Nat) (x0_4:Int) (x6_4:Int),v0=.int .i64 x0_4∧v6=.int .i64 x6_4∧Aside0 (contangoref05_Split.j2 kq x0_4 x6_4=some (r1,r2,r3,r4))∧Aside0 (kq≤kj1)∧Drawn0 w wc)
    case first =>
     have H:=HC5.out
     clear HC5
     have H':=Aside0.mk H
     clear H
     go_wp2
     go_loopg [0,6] kj1 (fun kq v0 v6 w'=>∃ (x0_2:Int) (x6_2:Int),v0=.int .i64 x0_2∧v6=.int .i64 x6_2∧Aside0 (contangoref05_Split.l0 kq x0_2 x6_2=some (r1,r2,r3,r4))∧Aside0 (kq≤kj1)∧Drawn0 w w')
     case atStart=>exact ⟨(a0),(2000),(by first|rfl|(simp;done)|(simp [*];done)),(by first|rfl|(simp;done)|(simp [*];done)),H',⟨Nat.le_refl _⟩,by repeat (first|exact Drawn0.refl _|apply Drawn0.step)⟩
     case round =>
      clear H'
      try clear c1
      try clear p2
      try clear c3
      try clear c3b0
      try clear c4
      try clear p2
      obtain ⟨x0_2,x6_2,rfl,rfl,HA,HK2,⟨m2,rfl⟩⟩:=hrel
      cases gk with
      | zero=>exact absurd HA.out (by simp [contangoref05_Split.l0])
      | succ k2 =>
       have H:=HA.out
       clear HA
       simp only [contangoref05_Split.l0] at H
       replace H:=Option.bind_eq_some_iff.mp H
       obtain ⟨t101,A60,H⟩:=H
       replace H:(if t101=true then (if x0_2 < 366 then (contangoref05_Split.j2 k2 x0_2 x6_2) else (contangoref05_Split.l0 k2 (wrap64 (x0_2 - 366)) (wrap64 (x6_2+1)))) else (if x0_2 < 365 then (contangoref05_Split.j2 k2 x0_2 x6_2) else (contangoref05_Split.l0 k2 (wrap64 (x0_2 - 365)) (wrap64 (x6_2+1)))))=some (r1,r2,r3,r4):=H
       have A6:=Aside0.mk A60
       clear A60
       by_cases c7:t101=true
       ·subst c7
        have H1:(if x0_2 < 366 then (contangoref05_Split.j2 k2 x0_2 x6_2) else (contangoref05_Split.l0 k2 (wrap64 (x0_2 - 366)) (wrap64 (x6_2+1))))=some (r1,r2,r3,r4):=by rw [if_pos rfl] at H;exact H
        clear H
        have H:=H1
        clear H1
        by_cases c8:x0_2 < 366
        ·rw [if_pos c8] at H
         have c8b0:decide (x0_2 < 366)=true:=decide_eq_true c8
         clear c8
         (first|rw [c8b0]|(simp only [i64_w,i32_w];rw [c8b0])|skip)
         have H':=Aside0.mk H
         clear H
         go_wp2_with (first|((with_reducible refine gate_callee (f:=78) rfl ?_);refine goesL_ (some 16) rfl rfl Tryd.func78 (by kernel_rfl) rfl #[.int .i64 x6_2] rfl (by (try simp only [List.map_toArray,List.map_cons,List.map_nil]);first|done|rfl|(simp only [List.length_drop,List.length_take];rfl)) ?_;(with_reducible refine (contangoref05_Leap.calls x6_2 true _ A6.out).mono ?_);rintro e w' ⟨rfl,⟨nd,rfl⟩⟩;refine ⟨_,rfl,?_⟩))
         go_meet
         case rel=>exact ⟨_,(x0_2),(x6_2),(by first|rfl|(simp;done)|(simp [*];done)),(by first|rfl|(simp;done)|(simp [*];done)),H',⟨by have:=HJ1.out;have:=HK2.out;first|omega|exact Nat.le_refl _⟩,by repeat (first|exact Drawn0.refl _|apply Drawn0.step)⟩
        ·rw [if_neg c8] at H
         have c8b0:decide (x0_2 < 366)=false:=decide_eq_false c8
         clear c8
         (first|rw [c8b0]|(simp only [i64_w,i32_w];rw [c8b0])|skip)
         have H':=Aside0.mk H
         clear H
         go_wp2_with (first|((with_reducible refine gate_callee (f:=78) rfl ?_);refine goesL_ (some 16) rfl rfl Tryd.func78 (by kernel_rfl) rfl #[.int .i64 x6_2] rfl (by (try simp only [List.map_toArray,List.map_cons,List.map_nil]);first|done|rfl|(simp only [List.length_drop,List.length_take];rfl)) ?_;(with_reducible refine (contangoref05_Leap.calls x6_2 true _ A6.out).mono ?_);rintro e w' ⟨rfl,⟨nd,rfl⟩⟩;refine ⟨_,rfl,?_⟩))
         go_roundg k2
         case measure=>have:=HJ1.out;have:=HK2.out;omega
         case rel=>exact ⟨(wrap64 (x0_2 - 366)),(wrap64 (x6_2+1)),(by first|rfl|(simp;done)|(simp [*];done)),(by first|rfl|(simp;done)|(simp [*];done)),H',⟨by have:=HJ1.out;have:=HK2.out;omega⟩,by repeat (first|exact Drawn0.refl _|apply Drawn0.step)⟩
       ·replace c7:=Bool.eq_false_iff.mpr c7
        subst c7
        have H1:(if x0_2 < 365 then (contangoref05_Split.j2 k2 x0_2 x6_2) else (contangoref05_Split.l0 k2 (wrap64 (x0_2 - 365)) (wrap64 (x6_2+1))))=some (r1,r2,r3,r4):=by rw [if_neg (show ¬ (false=true) by decide)] at H;exact H
        clear H
        have H:=H1
        clear H1
        by_cases c9:x0_2 < 365
        ·rw [if_pos c9] at H
         have c9b0:decide (x0_2 < 365)=true:=decide_eq_true c9
         clear c9
         have H':=Aside0.mk H
         clear H
         go_wp2_with (first|((with_reducible refine gate_callee (f:=78) rfl ?_);refine goesL_ (some 16) rfl rfl Tryd.func78 (by kernel_rfl) rfl #[.int .i64 x6_2] rfl (by (try simp only [List.map_toArray,List.map_cons,List.map_nil]);first|done|rfl|(simp only [List.length_drop,List.length_take];rfl)) ?_;(with_reducible refine (contangoref05_Leap.calls x6_2 false _ A6.out).mono ?_);rintro e w' ⟨rfl,⟨nd,rfl⟩⟩;refine ⟨_,rfl,?_⟩))
         go_meet
         case rel=>exact ⟨_,(x0_2),(x6_2),(by first|rfl|(simp;done)|(simp [*];done)),(by first|rfl|(simp;done)|(simp [*];done)),H',⟨by have:=HJ1.out;have:=HK2.out;first|omega|exact Nat.le_refl _⟩,by repeat (first|exact Drawn0.refl _|apply Drawn0.step)⟩
        ·rw [if_neg c9] at H
         have c9b0:decide (x0_2 < 365)=false:=decide_eq_false c9
         clear c9
         have H':=Aside0.mk H
         clear H
         go_wp2_with (first|((with_reducible refine gate_callee (f:=78) rfl ?_);refine goesL_ (some 16) rfl rfl Tryd.func78 (by kernel_rfl) rfl #[.int .i64 x6_2] rfl (by (try simp only [List.map_toArray,List.map_cons,List.map_nil]);first|done|rfl|(simp only [List.length_drop,List.length_take];rfl)) ?_;(with_reducible refine (contangoref05_Leap.calls x6_2 false _ A6.out).mono ?_);rintro e w' ⟨rfl,⟨nd,rfl⟩⟩;refine ⟨_,rfl,?_⟩))
         go_roundg k2
         case measure=>have:=HJ1.out;have:=HK2.out;omega
         case rel=>exact ⟨(wrap64 (x0_2 - 365)),(wrap64 (x6_2+1)),(by first|rfl|(simp;done)|(simp [*];done)),(by first|rfl|(simp;done)|(simp [*];done)),H',⟨by have:=HJ1.out;have:=HK2.out;omega⟩,by repeat (first|exact Drawn0.refl _|apply Drawn0.step)⟩
    case rest =>
     clear HC5
     try clear c1
     try clear p2
     try clear c3
     try clear c3b0
     try clear c4
     try clear c6
     try clear p6
     try clear c7
     try clear c8
     try clear c8b0
     try clear c9
     try clear c9b0
     try clear p2
     obtain ⟨kq,x0_4,x6_4,rfl,rfl,HA,HJ4,⟨mc4,rfl⟩⟩:=hcut
     cases kq with
     | zero=>exact absurd HA.out (by simp [contangoref05_Split.j2])
     | succ kj4 =>
      have H:=HA.out
      clear HA
      simp only [contangoref05_Split.j2] at H
      have H':=Aside0.mk H
      clear H
      go_wp2
      go_loopg [0,8] kj4 (fun kq v0 v8 w'=>∃ (x0_3:Int) (x8_3:Int),v0=.int .i64 x0_3∧v8=.int .i64 x8_3∧Aside0 (contangoref05_Split.l1 kq x0_3 x6_4 x8_3=some (r1,r2,r3,r4))∧Aside0 (kq≤kj4)∧Drawn0 w w')
      case atStart=>exact ⟨(x0_4),(1),(by first|rfl|(simp;done)|(simp [*];done)),(by first|rfl|(simp;done)|(simp [*];done)),H',⟨Nat.le_refl _⟩,by repeat (first|exact Drawn0.refl _|apply Drawn0.step)⟩
      case round =>
       clear H'
       try clear c1
       try clear p2
       try clear c3
       try clear c3b0
       try clear c4
       try clear c6
       try clear p6
       try clear c7
       try clear c8
       try clear c8b0
       try clear c9
       try clear c9b0
       try clear p2
       try clear p6
       obtain ⟨x0_3,x8_3,rfl,rfl,HA,HK3,⟨m3,rfl⟩⟩:=hrel
       cases gk with
       | zero=>exact absurd HA.out (by simp [contangoref05_Split.l1])
       | succ k3 =>
        have H:=HA.out
        clear HA
        simp only [contangoref05_Split.l1] at H
        replace H:=Option.bind_eq_some_iff.mp H
        obtain ⟨t102,A100,H⟩:=H
        replace H:(if x0_3 ≥ t102 then ((contangoref05_Days.f k3 x6_4 x8_3).bind fun t103=>(contangoref05_Split.l1 k3 (wrap64 (x0_3 - t103)) x6_4 (wrap64 (x8_3+1)))) else (some (x6_4,x8_3,wrap64 (x0_3+1),0)))=some (r1,r2,r3,r4):=H
        have A10:=Aside0.mk A100
        clear A100
        by_cases c11:x0_3 ≥ t102
        ·rw [if_pos c11] at H
         have c11b0:decide (t102≤x0_3)=true:=decide_eq_true c11
         clear c11
         replace H:=Option.bind_eq_some_iff.mp H
         obtain ⟨t103,A120,H⟩:=H
         replace H:(contangoref05_Split.l1 k3 (wrap64 (x0_3 - t103)) x6_4 (wrap64 (x8_3+1)))=some (r1,r2,r3,r4):=H
         have A12:=Aside0.mk A120
         clear A120
         have H':=Aside0.mk H
         clear H
         go_wp2_with (first|((with_reducible refine gate_callee (f:=77) rfl ?_);refine goesL_ (some 28) rfl rfl Tryd.func77 (by kernel_rfl) rfl #[.int .i64 x6_4,.int .i64 x8_3] rfl (by (try simp only [List.map_toArray,List.map_cons,List.map_nil]);first|done|rfl|(simp only [List.length_drop,List.length_take];rfl)) ?_;(with_reducible refine (contangoref05_Days.calls k3 x6_4 x8_3 t102 _ A10.out).mono ?_);rintro e w' ⟨rfl,⟨nd,rfl⟩⟩;refine ⟨_,rfl,?_⟩)|((with_reducible refine gate_callee (f:=77) rfl ?_);refine goesL_ (some 33) rfl rfl Tryd.func77 (by kernel_rfl) rfl #[.int .i64 x6_4,.int .i64 x8_3] rfl (by (try simp only [List.map_toArray,List.map_cons,List.map_nil]);first|done|rfl|(simp only [List.length_drop,List.length_take];rfl)) ?_;(with_reducible refine (contangoref05_Days.calls k3 x6_4 x8_3 t103 _ A12.out).mono ?_);rintro e w' ⟨rfl,⟨nd,rfl⟩⟩;refine ⟨_,rfl,?_⟩))
         go_roundg k3
         case measure=>have:=HJ1.out;have:=HJ4.out;have:=HK3.out;omega
         case rel=>exact ⟨(wrap64 (x0_3 - t103)),(wrap64 (x8_3+1)),(by first|rfl|(simp;done)|(simp [*];done)),(by first|rfl|(simp;done)|(simp [*];done)),H',⟨by have:=HJ1.out;have:=HJ4.out;have:=HK3.out;omega⟩,by repeat (first|exact Drawn0.refl _|apply Drawn0.step)⟩
        ·rw [if_neg c11] at H
         have c11b0:decide (t102≤x0_3)=false:=decide_eq_false c11
         clear c11
         simp only [Option.some.injEq,Prod.mk.injEq] at H
         obtain ⟨rfl,rfl,rfl,rfl⟩:=H
         go_wp2_with (first|((with_reducible refine gate_callee (f:=77) rfl ?_);refine goesL_ (some 28) rfl rfl Tryd.func77 (by kernel_rfl) rfl #[.int .i64 x6_4,.int .i64 x8_3] rfl (by (try simp only [List.map_toArray,List.map_cons,List.map_nil]);first|done|rfl|(simp only [List.length_drop,List.length_take];rfl)) ?_;(with_reducible refine (contangoref05_Days.calls k3 x6_4 x8_3 t102 _ A10.out).mono ?_);rintro e w' ⟨rfl,⟨nd,rfl⟩⟩;refine ⟨_,rfl,?_⟩))
         refine bodyPost_ret (results_list (rs:=[.tmp 2,.tmp 3,.tmp 4,.tmp 5]) rfl (by simp) (.tmp (.tmp (.tmp (.tmp .nil))))) rfl ?_
         exact ⟨by first|rfl|(simp;done)|(simp [*];done),by repeat (first|exact Drawn0.refl _|apply Drawn0.step)⟩
end Go.Proofs.YthpmmofleddpnaaDoor.X
end
section
namespace Go.Proofs.YthpmmofleddpnaaDoor.X
open Go.RowKit Go.Proofs.YthpmmofleddpnaaDoorW.PrintWords Go.Proofs.YthpmmofleddpnaaDoorW.PrintLast Go.Proofs.YthpmmofleddpnaaDoorW.PrintMore
attribute [local go_sem] max2_int min2_int max_two min_two max_three min_three max_four min_four
set_option linter.unusedVariables false
set_option linter.unusedSimpArgs false
def contangoref10_digits.l0:Nat→Int→Int→ByteArray→Int→Option (ByteArray)
 | 0,_,_,_,_=>none
 | k+1,x0,x1,x5,x6=>if x6 < x1 then ((some (([(wrap64 (48+(Int.tmod x0 10))) % 256]:List Int):List Int)).bind fun y101=>(if (strOfNums y101).size+x5.size≤9223372036854775807 then (contangoref10_digits.l0 k (wrap64 (Int.tdiv x0 10)) x1 ((strOfNums y101)++x5) (wrap64 (x6+1))) else (none))) else (some x5)
def contangoref10_digits.f (k:Nat) (a0:Int) (a1:Int):Option (ByteArray):=contangoref10_digits.l0 k a0 a1 (⟨#[]⟩:ByteArray) 0
set_option maxHeartbeats 8000000 in
set_option maxRecDepth 100000 in
theorem contangoref10_digits.calls (k:Nat) (a0:Int) (a1:Int) (r:ByteArray) (w:World) (h:contangoref10_digits.f k a0 a1=some r) :
  Calls Tryd.prog 66 #[.int .i64 a0,.int .i64 a1] w fun e w'=>e=.returned (.string r)∧Below w.heap.size w w':=by
 have HB:=Aside0.mk (Below.refl w.heap.size w)
 have H:(contangoref10_digits.l0 k a0 a1 (⟨#[]⟩:ByteArray) 0)=some r:=h
 clear h
 have H':=Aside0.mk H
 clear H
 go_enter Tryd.func66,Tryd.ntmps66
 go_wp2
 go_loopg [0,5,6] k (fun kq v0 v5 v6 w'=>∃ (x0_1:Int) (x5_1:ByteArray) (x6_1:Int),v0=.int .i64 x0_1∧v5=.string x5_1∧v6=.int .i64 x6_1∧Aside0 (contangoref10_digits.l0 kq x0_1 a1 x5_1 x6_1=some r)∧Aside0 (kq≤k)∧Aside0 (Below w.heap.size w w'))
 case atStart=>exact ⟨(a0),((⟨#[]⟩:ByteArray)),(0),(by first|rfl|(simp;done)|(simp [*];done)),(by first|rfl|(simp;done)|(simp [*];done)),(by first|rfl|(simp;done)|(simp [*];done)),H',⟨Nat.le_refl _⟩,⟨by repeat (first|(with_reducible first|exact HB.out|apply below_alloc|apply pw_below_drewN|apply below_drew1)|exact HB.out)⟩⟩
 case round =>
  clear H'
  try clear p2
  obtain ⟨x0_1,x5_1,x6_1,rfl,rfl,rfl,HA,HK1,HB⟩:=hrel
  cases gk with
  | zero=>exact absurd HA.out (by simp [contangoref10_digits.l0])
  | succ k1 =>
   have H:=HA.out
   clear HA
   simp only [contangoref10_digits.l0] at H
   by_cases c3:x6_1 < a1
   ·rw [if_pos c3] at H
    have c3b0:decide (x6_1 < a1)=true:=decide_eq_true c3
    clear c3
    obtain ⟨y101,hy101⟩:∃ y_:List Int,y_=(([(wrap64 (48+(Int.tmod x0_1 10))) % 256]:List Int)):=⟨_,rfl⟩
    replace H:(if (strOfNums y101).size+x5_1.size≤9223372036854775807 then (contangoref10_digits.l0 k1 (wrap64 (Int.tdiv x0_1 10)) a1 ((strOfNums y101)++x5_1) (wrap64 (x6_1+1))) else (none))=some r:=by first|(rw [hy101];with_reducible exact H)|(have H2_:=(Option.bind_some _ _).symm.trans H;rw [hy101];with_reducible exact H2_)|(have H2_:=(Option.bind_some _ _).symm.trans H;with_reducible exact H2_)|with_reducible exact H|(rw [hy101];exact H)|exact H
    have Ny101:=Aside0.mk hy101
    clear hy101
    by_cases c4:(strOfNums y101).size+x5_1.size≤9223372036854775807
    ·rw [if_pos c4] at H
     have c4b0:=eq_true c4
     have c4b1:decide ((strOfNums y101).size+x5_1.size≤9223372036854775807)=true:=decide_eq_true c4
     try have c4b2:(9223372036854775807 < (strOfNums y101).size+x5_1.size)=False:=eq_false (Nat.not_lt.2 c4)
     have H':=Aside0.mk H
     clear H
     go_wp2_with (first|((with_reducible refine gate_dst (N:=16) rfl ?_);refine Kd.R_lit (Kd.int .u8) _ 5 ?hg (N:=16) ?hd (xs:=([(wrap64 (48+(Int.tmod x0_1 10))) % 256]:List Int)) (inner:=[.int .u8 ((wrap64 (48+(Int.tmod x0_1 10))) % 256)]) (ok:=fun _=>True) (okp:=fun _=>True) ?hr ?hp (fun _ hk=>hk) trivial (Below.refl _ _) (Nat.le_refl _) (by simp) ?_;(case hd=>rfl);(case hg=>rfl);(case hr=>first|(go_simp;done)|(go_simp;rfl));(case hp=>exact (Reps.one (show Kd.M (Kd.int .u8) _ _ _ ((wrap64 (48+(Int.tmod x0_1 10))) % 256) [.int .u8 ((wrap64 (48+(Int.tmod x0_1 10))) % 256)] from rfl) (Reps.none _ _)));intro v102 w5 ho6 hb hg_ hnew_;clear hg_ hnew_;(first|rw [← Ny101.out] at ho6|(simp only [Int.reduceToNat] at ho6;rw [← Ny101.out] at ho6));have n0_:=Aside0.mk (Kd.R_lower ho6 (below_size (by repeat (first|(with_reducible first|exact HB.out|apply below_alloc|apply pw_below_drewN|apply below_drew1)|exact HB.out))));have n1_:=Aside0.mk (below_step (by repeat (first|(with_reducible first|exact HB.out|apply below_alloc|apply pw_below_drewN|apply below_drew1)|exact HB.out)) hb);clear HB;have HO103:=n0_;have HB:=n1_;clear n0_ n1_;clear hb ho6;have hcv7:=own_string (P:=Tryd.prog) Tryd.underlying112 Tryd.underlying5 Tryd.underlying9 (Kd.own_of_R HO103.out)))
     go_roundg k1
     case measure=>have:=HK1.out;omega
     case rel=>exact ⟨(wrap64 (Int.tdiv x0_1 10)),((strOfNums y101)++x5_1),(wrap64 (x6_1+1)),(by first|rfl|(simp;done)|(simp [*];done)),(by first|rfl|(simp;done)|(simp [*];done)),(by first|rfl|(simp;done)|(simp [*];done)),H',⟨by have:=HK1.out;omega⟩,⟨by repeat (first|(with_reducible first|exact HB.out|apply below_alloc|apply pw_below_drewN|apply below_drew1)|exact HB.out)⟩⟩
    ·rw [if_neg c4] at H
     exact absurd H (by simp)
   ·rw [if_neg c3] at H
    have c3b0:decide (x6_1 < a1)=false:=decide_eq_false c3
    clear c3
    obtain rfl:=Option.some.inj H
    go_wp2
    go_ret
    exact ⟨by first|rfl|(simp [errW_none,errW_some]<;>rfl)|(simp [*,errW_none,errW_some]<;>rfl),by repeat (first|(with_reducible first|exact HB.out|apply below_alloc|apply pw_below_drewN|apply below_drew1)|exact HB.out)⟩
end Go.Proofs.YthpmmofleddpnaaDoor.X
end
section
namespace Go.Proofs.YthpmmofleddpnaaDoor.X
open Go.RowKit Go.Proofs.YthpmmofleddpnaaDoorW.PrintWords Go.Proofs.YthpmmofleddpnaaDoorW.PrintLast Go.Proofs.YthpmmofleddpnaaDoorW.PrintMore
attribute [local go_sem] max2_int min2_int max_two min_two max_three min_three max_four min_four
set_option linter.unusedVariables false
set_option linter.unusedSimpArgs false
def contangoref10_Print.j0:Nat→Int→Int→Int→Bool→ByteArray→Int→Int→Int→Option (ByteArray)
 | 0,_,_,_,_,_,_,_,_=>none
 | k+1,x3,x4,x5,x27,x102000,x102001,x102002,x102003=>if x27=true then (some (⟨#[]⟩:ByteArray)) else (if x102000.size+1≤9223372036854775807 then ((contangoref10_digits.f k x3 4).bind fun t106=>(if (x102000++(⟨#[46]⟩:ByteArray)).size+t106.size≤9223372036854775807 then ((contangoref10_digits.f k x4 2).bind fun t107=>(if ((x102000++(⟨#[46]⟩:ByteArray))++t106).size+t107.size≤9223372036854775807 then ((contangoref10_digits.f k x5 2).bind fun t108=>(if (((x102000++(⟨#[46]⟩:ByteArray))++t106)++t107).size+t108.size≤9223372036854775807 then (if ((((x102000++(⟨#[46]⟩:ByteArray))++t106)++t107)++t108).size+1≤9223372036854775807 then (if x102001=1 then (if (((((x102000++(⟨#[46]⟩:ByteArray))++t106)++t107)++t108)++(⟨#[46]⟩:ByteArray)).size+1≤9223372036854775807 then (some ((((((x102000++(⟨#[46]⟩:ByteArray))++t106)++t107)++t108)++(⟨#[46]⟩:ByteArray))++(⟨#[102]⟩:ByteArray))) else (none)) else (if x102001=2 then (if (((((x102000++(⟨#[46]⟩:ByteArray))++t106)++t107)++t108)++(⟨#[46]⟩:ByteArray)).size+1≤9223372036854775807 then ((contangoref03_Text.f k x102003).bind fun t109=>(if ((((((x102000++(⟨#[46]⟩:ByteArray))++t106)++t107)++t108)++(⟨#[46]⟩:ByteArray))++(⟨#[99]⟩:ByteArray)).size+t109.size≤9223372036854775807 then (some (((((((x102000++(⟨#[46]⟩:ByteArray))++t106)++t107)++t108)++(⟨#[46]⟩:ByteArray))++(⟨#[99]⟩:ByteArray))++t109)) else (none))) else (none)) else (if (((((x102000++(⟨#[46]⟩:ByteArray))++t106)++t107)++t108)++(⟨#[46]⟩:ByteArray)).size+1≤9223372036854775807 then ((contangoref03_Text.f k x102003).bind fun t110=>(if ((((((x102000++(⟨#[46]⟩:ByteArray))++t106)++t107)++t108)++(⟨#[46]⟩:ByteArray))++(⟨#[112]⟩:ByteArray)).size+t110.size≤9223372036854775807 then (some (((((((x102000++(⟨#[46]⟩:ByteArray))++t106)++t107)++t108)++(⟨#[46]⟩:ByteArray))++(⟨#[112]⟩:ByteArray))++t110)) else (none))) else (none)))) else (none)) else (none))) else (none))) else (none))) else (none))
def contangoref10_Print.f (k:Nat) (a0_0:ByteArray) (a0_1:Int) (a0_2:Int) (a0_3:Int):Option (ByteArray):=(contangoref05_Split.f k a0_2).bind fun bt102=>(if bt102.2.2.2=0 then (if a0_1 < 1 then (contangoref10_Print.j0 k bt102.1 bt102.2.1 bt102.2.2.1 true a0_0 a0_1 a0_2 a0_3) else (contangoref10_Print.j0 k bt102.1 bt102.2.1 bt102.2.2.1 (decide (a0_1 > 3)) a0_0 a0_1 a0_2 a0_3)) else (contangoref10_Print.j0 k bt102.1 bt102.2.1 bt102.2.2.1 true a0_0 a0_1 a0_2 a0_3))
def contangoref10_Print.T4:Bool × List (List Nat × List Nat):=(true,[([],[]),([0],[0]),([1],[1]),([],[]),([3],[3]),([2,4],[2,4]),([],[]),([6,4],[6]),([5,7],[5,7]),([],[]),([9,7],[9]),([8,10],[8,10]),([11],[11]),([12,10,0,1,2,3,4,5,6,7,8,9,10,11,12],[12])])
def contangoref10_Print.B4:List Nat:=[0,1,3,0,8,31,0,88,255,0,728,2047,4095,8191]
theorem contangoref10_Print.tab4:rtab .any (opsOf Tryd.f39 4)=contangoref10_Print.T4:=by kernel_rfl
theorem contangoref10_Print.bits4:waitsOk contangoref10_Print.T4.2 contangoref10_Print.B4=true:=by kernel_rfl
set_option maxHeartbeats 8000000 in
set_option maxRecDepth 100000 in
theorem contangoref10_Print.calls (k:Nat) (a0_0:ByteArray) (a0_1:Int) (a0_2:Int) (a0_3:Int) (r:ByteArray) (w:World) (h:contangoref10_Print.f k a0_0 a0_1 a0_2 a0_3=some r) :
  Calls Tryd.prog 39 #[.agg #[.string a0_0,.int .i64 a0_1,.int .i64 a0_2,.int .i64 a0_3]] w fun e w'=>e=.returned (.string r)∧Below w.heap.size w w':=by
 have hu23:=Tryd.underlying23
 have HB:=Aside0.mk (Below.refl w.heap.size w)
 have H:((contangoref05_Split.f k a0_2).bind fun bt102=>(if bt102.2.2.2=0 then (if a0_1 < 1 then (contangoref10_Print.j0 k bt102.1 bt102.2.1 bt102.2.2.1 true a0_0 a0_1 a0_2 a0_3) else (contangoref10_Print.j0 k bt102.1 bt102.2.1 bt102.2.2.1 (decide (a0_1 > 3)) a0_0 a0_1 a0_2 a0_3)) else (contangoref10_Print.j0 k bt102.1 bt102.2.1 bt102.2.2.1 true a0_0 a0_1 a0_2 a0_3)))=some r:=h
 clear h
 replace H:=Option.bind_eq_some_iff.mp H
 obtain ⟨⟨t102,t103,t104,t105⟩,A20,H⟩:=H
 replace H:(if t105=0 then (if a0_1 < 1 then (contangoref10_Print.j0 k t102 t103 t104 true a0_0 a0_1 a0_2 a0_3) else (contangoref10_Print.j0 k t102 t103 t104 (decide (a0_1 > 3)) a0_0 a0_1 a0_2 a0_3)) else (contangoref10_Print.j0 k t102 t103 t104 true a0_0 a0_1 a0_2 a0_3))=some r:=H
 have A2:=Aside0.mk A20
 clear A20
 have HC3:=Aside0.mk H
 clear H
 go_enter Tryd.func39,Tryd.ntmps39
 go_upto_region 2 with (first|((with_reducible refine gate_dst (N:=1) rfl ?_);refine box_event ?hg (N:=1) ?hd (cs:=#[.string a0_0,.int .i64 a0_1,.int .i64 a0_2,.int .i64 a0_3]) (t:=23) ?hr ?_;(case hd=>rfl);(case hg=>rfl);(case hr=>first|(go_simp;done)|(go_simp;rfl));intro gb101 hg w4 hbox hb;have n0_:=Aside0.mk (below_step (by repeat (first|(with_reducible first|exact HB.out|apply below_alloc|apply pw_below_drewN|apply below_drew1)|exact HB.out)) hb);have n1_:=Aside0.mk (hbox);have n2_:=Aside0.mk ((by rw [hg];exact (below_size (by repeat (first|(with_reducible first|exact HB.out|apply below_alloc|apply pw_below_drewN|apply below_drew1)|exact HB.out))):w.heap.size≤gb101));have n3_:=Aside0.mk ((by rw [hg];exact (below_size (by repeat (first|(with_reducible first|exact HB.out|apply below_alloc|apply pw_below_drewN|apply below_drew1)|exact HB.out))):w.heap.size≤gb101));clear HB;have HB:=n0_;have BK101:=n1_;have GW101:=n2_;have GE101:=n3_;clear n0_ n1_ n2_ n3_;clear hb hbox hg;have hcz5_0:w4.cell? ⟨gb101,0,none⟩=some (.string a0_0):=(blk_cell BK101.out 0).trans rfl;have hcz5_1:w4.cell? ⟨gb101,1,none⟩=some (.int .i64 a0_1):=(blk_cell BK101.out 1).trans rfl;have hcz5_2:w4.cell? ⟨gb101,2,none⟩=some (.int .i64 a0_2):=(blk_cell BK101.out 2).trans rfl;have hcz5_3:w4.cell? ⟨gb101,3,none⟩=some (.int .i64 a0_3):=(blk_cell BK101.out 3).trans rfl;have hfz5_0:=blk_frozen BK101.out 0;have hfz5_1:=blk_frozen BK101.out 1;have hfz5_2:=blk_frozen BK101.out 2;have hfz5_3:=blk_frozen BK101.out 3)|((with_reducible refine gate_callee (f:=65) rfl ?_);refine goesL_ (some 11) rfl rfl Tryd.func65 (by kernel_rfl) rfl #[.int .i64 a0_2] rfl (by (try simp only [List.map_toArray,List.map_cons,List.map_nil]);first|done|rfl|(simp only [List.length_drop,List.length_take];rfl)) ?_;(with_reducible refine (contangoref05_Split.calls k a0_2 t102 t103 t104 t105 _ A2.out).mono ?_);rintro e w' ⟨rfl,⟨nd,rfl⟩⟩;refine ⟨_,rfl,?_⟩))
 (try simp only [Act.put,List.setIfInBounds_toArray,List.set_cons_zero,List.set_cons_succ])
 go_cut [27] (fun v27 wc=>∃ (kq:Nat) (x27_2:Bool),v27=.bool x27_2∧Aside0 (contangoref10_Print.j0 kq t102 t103 t104 x27_2 a0_0 a0_1 a0_2 a0_3=some r)∧Aside0 (kq≤k)∧Aside0 (wc.heap[gb101]? = some (.cells #[.string a0_0,.int .i64 a0_1,.int .i64 a0_2,.int .i64 a0_3] 23 (0,0)))∧Aside0 (Below w.heap.size w wc))
 case first =>
  have H:=HC3.out
  clear HC3
  by_cases c6:t105=0
  ·rw [if_pos c6] at H
   have c6b0:(t105 == 0)=true:=beq_iff_eq.mpr c6
   have c6b1:(t105 != 0)=false:=bne_eq_false_iff_eq.mpr c6
   clear c6
   (first|rw [c6b0]|(simp only [i64_w,i32_w];rw [c6b0])|skip)
   by_cases c7:a0_1 < 1
   ·rw [if_pos c7] at H
    have c7b0:decide (a0_1 < 1)=true:=decide_eq_true c7
    clear c7
    have H':=Aside0.mk H
    clear H
    have hcz8_0:w4.cell? ⟨gb101,0,none⟩=some (.string a0_0):=(blk_cell BK101.out 0).trans rfl
    have hcz8_1:w4.cell? ⟨gb101,1,none⟩=some (.int .i64 a0_1):=(blk_cell BK101.out 1).trans rfl
    have hcz8_2:w4.cell? ⟨gb101,2,none⟩=some (.int .i64 a0_2):=(blk_cell BK101.out 2).trans rfl
    have hcz8_3:w4.cell? ⟨gb101,3,none⟩=some (.int .i64 a0_3):=(blk_cell BK101.out 3).trans rfl
    have hfz8_0:=blk_frozen BK101.out 0
    have hfz8_1:=blk_frozen BK101.out 1
    have hfz8_2:=blk_frozen BK101.out 2
    have hfz8_3:=blk_frozen BK101.out 3
    go_wp2
    go_meet
    case rel=>exact ⟨_,(true),(by first|rfl|(simp;done)|(simp [*];done)),H',⟨by first|omega|exact Nat.le_refl _⟩,⟨by (with_reducible repeat (first|refine blk_drewN ?_ _|refine blk_drew ?_|refine blk_alloc ?_ _));exact BK101.out⟩,⟨by repeat (first|(with_reducible first|exact HB.out|apply below_alloc|apply pw_below_drewN|apply below_drew1|refine below_set ?_ GE101.out)|exact HB.out)⟩⟩
   ·rw [if_neg c7] at H
    have c7b0:decide (a0_1 < 1)=false:=decide_eq_false c7
    clear c7
    have H':=Aside0.mk H
    clear H
    have hcz9_0:w4.cell? ⟨gb101,0,none⟩=some (.string a0_0):=(blk_cell BK101.out 0).trans rfl
    have hcz9_1:w4.cell? ⟨gb101,1,none⟩=some (.int .i64 a0_1):=(blk_cell BK101.out 1).trans rfl
    have hcz9_2:w4.cell? ⟨gb101,2,none⟩=some (.int .i64 a0_2):=(blk_cell BK101.out 2).trans rfl
    have hcz9_3:w4.cell? ⟨gb101,3,none⟩=some (.int .i64 a0_3):=(blk_cell BK101.out 3).trans rfl
    have hfz9_0:=blk_frozen BK101.out 0
    have hfz9_1:=blk_frozen BK101.out 1
    have hfz9_2:=blk_frozen BK101.out 2
    have hfz9_3:=blk_frozen BK101.out 3
    go_wp2
    go_meet
    case rel=>exact ⟨_,(decide (a0_1 > 3)),(by first|rfl|(simp;done)|(simp [*];done)),H',⟨by first|omega|exact Nat.le_refl _⟩,⟨by (with_reducible repeat (first|refine blk_drewN ?_ _|refine blk_drew ?_|refine blk_alloc ?_ _));exact BK101.out⟩,⟨by repeat (first|(with_reducible first|exact HB.out|apply below_alloc|apply pw_below_drewN|apply below_drew1|refine below_set ?_ GE101.out)|exact HB.out)⟩⟩
  ·rw [if_neg c6] at H
   have c6b0:(t105 == 0)=false:=beq_eq_false_iff_ne.mpr c6
   have c6b1:(t105 != 0)=true:=bne_iff_ne.mpr c6
   (first|rw [c6b0]|(simp only [i64_w,i32_w];rw [c6b0])|skip)
   have H':=Aside0.mk H
   clear H
   go_wp2
   go_meet
   case rel=>exact ⟨_,(true),(by first|rfl|(simp;done)|(simp [*];done)),H',⟨by first|omega|exact Nat.le_refl _⟩,⟨by (with_reducible repeat (first|refine blk_drewN ?_ _|refine blk_drew ?_|refine blk_alloc ?_ _));exact BK101.out⟩,⟨by repeat (first|(with_reducible first|exact HB.out|apply below_alloc|apply pw_below_drewN|apply below_drew1|refine below_set ?_ GE101.out)|exact HB.out)⟩⟩
 case rest =>
  clear HC3
  try clear p2
  try clear c3
  try clear c6
  try clear c6b0
  try clear c6b1
  try clear c7
  try clear c7b0
  try clear hcz5_0
  try clear hcz5_1
  try clear hcz5_2
  try clear hcz5_3
  try clear hcz8_0
  try clear hcz8_1
  try clear hcz8_2
  try clear hcz8_3
  try clear hcz9_0
  try clear hcz9_1
  try clear hcz9_2
  try clear hcz9_3
  try clear hfz5_0
  try clear hfz5_1
  try clear hfz5_2
  try clear hfz5_3
  try clear hfz8_0
  try clear hfz8_1
  try clear hfz8_2
  try clear hfz8_3
  try clear hfz9_0
  try clear hfz9_1
  try clear hfz9_2
  try clear hfz9_3
  obtain ⟨kq,x27_2,rfl,HA,HJ2,BK101,HB⟩:=hcut
  cases kq with
  | zero=>exact absurd HA.out (by simp [contangoref10_Print.j0])
  | succ kj2 =>
   have H:=HA.out
   clear HA
   simp only [contangoref10_Print.j0] at H
   by_cases c10:x27_2=true
   ·subst c10
    have H1:(some (⟨#[]⟩:ByteArray))=some r:=by rw [if_pos rfl] at H;exact H
    clear H
    have H:=H1
    clear H1
    obtain rfl:=Option.some.inj H
    go_wp2
    go_ret
    exact ⟨by first|rfl|(simp [errW_none,errW_some]<;>rfl)|(simp [*,errW_none,errW_some]<;>rfl),by repeat (first|(with_reducible first|exact HB.out|apply below_alloc|apply pw_below_drewN|apply below_drew1|refine below_set ?_ GE101.out)|exact HB.out)⟩
   ·replace c10:=Bool.eq_false_iff.mpr c10
    subst c10
    have H1:(if a0_0.size+1≤9223372036854775807 then ((contangoref10_digits.f kj2 t102 4).bind fun t106=>(if (a0_0++(⟨#[46]⟩:ByteArray)).size+t106.size≤9223372036854775807 then ((contangoref10_digits.f kj2 t103 2).bind fun t107=>(if ((a0_0++(⟨#[46]⟩:ByteArray))++t106).size+t107.size≤9223372036854775807 then ((contangoref10_digits.f kj2 t104 2).bind fun t108=>(if (((a0_0++(⟨#[46]⟩:ByteArray))++t106)++t107).size+t108.size≤9223372036854775807 then (if ((((a0_0++(⟨#[46]⟩:ByteArray))++t106)++t107)++t108).size+1≤9223372036854775807 then (if a0_1=1 then (if (((((a0_0++(⟨#[46]⟩:ByteArray))++t106)++t107)++t108)++(⟨#[46]⟩:ByteArray)).size+1≤9223372036854775807 then (some ((((((a0_0++(⟨#[46]⟩:ByteArray))++t106)++t107)++t108)++(⟨#[46]⟩:ByteArray))++(⟨#[102]⟩:ByteArray))) else (none)) else (if a0_1=2 then (if (((((a0_0++(⟨#[46]⟩:ByteArray))++t106)++t107)++t108)++(⟨#[46]⟩:ByteArray)).size+1≤9223372036854775807 then ((contangoref03_Text.f kj2 a0_3).bind fun t109=>(if ((((((a0_0++(⟨#[46]⟩:ByteArray))++t106)++t107)++t108)++(⟨#[46]⟩:ByteArray))++(⟨#[99]⟩:ByteArray)).size+t109.size≤9223372036854775807 then (some (((((((a0_0++(⟨#[46]⟩:ByteArray))++t106)++t107)++t108)++(⟨#[46]⟩:ByteArray))++(⟨#[99]⟩:ByteArray))++t109)) else (none))) else (none)) else (if (((((a0_0++(⟨#[46]⟩:ByteArray))++t106)++t107)++t108)++(⟨#[46]⟩:ByteArray)).size+1≤9223372036854775807 then ((contangoref03_Text.f kj2 a0_3).bind fun t110=>(if ((((((a0_0++(⟨#[46]⟩:ByteArray))++t106)++t107)++t108)++(⟨#[46]⟩:ByteArray))++(⟨#[112]⟩:ByteArray)).size+t110.size≤9223372036854775807 then (some (((((((a0_0++(⟨#[46]⟩:ByteArray))++t106)++t107)++t108)++(⟨#[46]⟩:ByteArray))++(⟨#[112]⟩:ByteArray))++t110)) else (none))) else (none)))) else (none)) else (none))) else (none))) else (none))) else (none))=some r:=by rw [if_neg (show ¬ (false=true) by decide)] at H;exact H
    clear H
    have H:=H1
    clear H1
    by_cases c11:a0_0.size+1≤9223372036854775807
    ·rw [if_pos c11] at H
     have c11b0:=eq_true c11
     have c11b1:decide (a0_0.size+1≤9223372036854775807)=true:=decide_eq_true c11
     try have c11b2:(9223372036854775807 < a0_0.size+1)=False:=eq_false (Nat.not_lt.2 c11)
     try (have c11b3:=c11;simp only [ByteArray.size_append,ByteArray.size_extract,Nat.min_self,Nat.zero_add] at c11b3;replace c11b3:=eq_false (Nat.not_lt.2 c11b3))
     replace H:=Option.bind_eq_some_iff.mp H
     obtain ⟨t106,A120,H⟩:=H
     replace H:(if (a0_0++(⟨#[46]⟩:ByteArray)).size+t106.size≤9223372036854775807 then ((contangoref10_digits.f kj2 t103 2).bind fun t107=>(if ((a0_0++(⟨#[46]⟩:ByteArray))++t106).size+t107.size≤9223372036854775807 then ((contangoref10_digits.f kj2 t104 2).bind fun t108=>(if (((a0_0++(⟨#[46]⟩:ByteArray))++t106)++t107).size+t108.size≤9223372036854775807 then (if ((((a0_0++(⟨#[46]⟩:ByteArray))++t106)++t107)++t108).size+1≤9223372036854775807 then (if a0_1=1 then (if (((((a0_0++(⟨#[46]⟩:ByteArray))++t106)++t107)++t108)++(⟨#[46]⟩:ByteArray)).size+1≤9223372036854775807 then (some ((((((a0_0++(⟨#[46]⟩:ByteArray))++t106)++t107)++t108)++(⟨#[46]⟩:ByteArray))++(⟨#[102]⟩:ByteArray))) else (none)) else (if a0_1=2 then (if (((((a0_0++(⟨#[46]⟩:ByteArray))++t106)++t107)++t108)++(⟨#[46]⟩:ByteArray)).size+1≤9223372036854775807 then ((contangoref03_Text.f kj2 a0_3).bind fun t109=>(if ((((((a0_0++(⟨#[46]⟩:ByteArray))++t106)++t107)++t108)++(⟨#[46]⟩:ByteArray))++(⟨#[99]⟩:ByteArray)).size+t109.size≤9223372036854775807 then (some (((((((a0_0++(⟨#[46]⟩:ByteArray))++t106)++t107)++t108)++(⟨#[46]⟩:ByteArray))++(⟨#[99]⟩:ByteArray))++t109)) else (none))) else (none)) else (if (((((a0_0++(⟨#[46]⟩:ByteArray))++t106)++t107)++t108)++(⟨#[46]⟩:ByteArray)).size+1≤9223372036854775807 then ((contangoref03_Text.f kj2 a0_3).bind fun t110=>(if ((((((a0_0++(⟨#[46]⟩:ByteArray))++t106)++t107)++t108)++(⟨#[46]⟩:ByteArray))++(⟨#[112]⟩:ByteArray)).size+t110.size≤9223372036854775807 then (some (((((((a0_0++(⟨#[46]⟩:ByteArray))++t106)++t107)++t108)++(⟨#[46]⟩:ByteArray))++(⟨#[112]⟩:ByteArray))++t110)) else (none))) else (none)))) else (none)) else (none))) else (none))) else (none))=some r:=H
     have A12:=Aside0.mk A120
     clear A120
     by_cases c13:(a0_0++(⟨#[46]⟩:ByteArray)).size+t106.size≤9223372036854775807
     ·rw [if_pos c13] at H
      have c13b0:=eq_true c13
      have c13b1:decide ((a0_0++(⟨#[46]⟩:ByteArray)).size+t106.size≤9223372036854775807)=true:=decide_eq_true c13
      try have c13b2:(9223372036854775807 < (a0_0++(⟨#[46]⟩:ByteArray)).size+t106.size)=False:=eq_false (Nat.not_lt.2 c13)
      try (have c13b3:=c13;simp only [ByteArray.size_append,ByteArray.size_extract,Nat.min_self,Nat.zero_add,show (⟨#[46]⟩:ByteArray).size=1 from rfl] at c13b3;replace c13b3:=eq_false (Nat.not_lt.2 c13b3))
      replace H:=Option.bind_eq_some_iff.mp H
      obtain ⟨t107,A140,H⟩:=H
      replace H:(if ((a0_0++(⟨#[46]⟩:ByteArray))++t106).size+t107.size≤9223372036854775807 then ((contangoref10_digits.f kj2 t104 2).bind fun t108=>(if (((a0_0++(⟨#[46]⟩:ByteArray))++t106)++t107).size+t108.size≤9223372036854775807 then (if ((((a0_0++(⟨#[46]⟩:ByteArray))++t106)++t107)++t108).size+1≤9223372036854775807 then (if a0_1=1 then (if (((((a0_0++(⟨#[46]⟩:ByteArray))++t106)++t107)++t108)++(⟨#[46]⟩:ByteArray)).size+1≤9223372036854775807 then (some ((((((a0_0++(⟨#[46]⟩:ByteArray))++t106)++t107)++t108)++(⟨#[46]⟩:ByteArray))++(⟨#[102]⟩:ByteArray))) else (none)) else (if a0_1=2 then (if (((((a0_0++(⟨#[46]⟩:ByteArray))++t106)++t107)++t108)++(⟨#[46]⟩:ByteArray)).size+1≤9223372036854775807 then ((contangoref03_Text.f kj2 a0_3).bind fun t109=>(if ((((((a0_0++(⟨#[46]⟩:ByteArray))++t106)++t107)++t108)++(⟨#[46]⟩:ByteArray))++(⟨#[99]⟩:ByteArray)).size+t109.size≤9223372036854775807 then (some (((((((a0_0++(⟨#[46]⟩:ByteArray))++t106)++t107)++t108)++(⟨#[46]⟩:ByteArray))++(⟨#[99]⟩:ByteArray))++t109)) else (none))) else (none)) else (if (((((a0_0++(⟨#[46]⟩:ByteArray))++t106)++t107)++t108)++(⟨#[46]⟩:ByteArray)).size+1≤9223372036854775807 then ((contangoref03_Text.f kj2 a0_3).bind fun t110=>(if ((((((a0_0++(⟨#[46]⟩:ByteArray))++t106)++t107)++t108)++(⟨#[46]⟩:ByteArray))++(⟨#[112]⟩:ByteArray)).size+t110.size≤9223372036854775807 then (some (((((((a0_0++(⟨#[46]⟩:ByteArray))++t106)++t107)++t108)++(⟨#[46]⟩:ByteArray))++(⟨#[112]⟩:ByteArray))++t110)) else (none))) else (none)))) else (none)) else (none))) else (none))=some r:=H
      have A14:=Aside0.mk A140
      clear A140
      by_cases c15:((a0_0++(⟨#[46]⟩:ByteArray))++t106).size+t107.size≤9223372036854775807
      ·rw [if_pos c15] at H
       have c15b0:=eq_true c15
       have c15b1:decide (((a0_0++(⟨#[46]⟩:ByteArray))++t106).size+t107.size≤9223372036854775807)=true:=decide_eq_true c15
       try have c15b2:(9223372036854775807 < ((a0_0++(⟨#[46]⟩:ByteArray))++t106).size+t107.size)=False:=eq_false (Nat.not_lt.2 c15)
       try (have c15b3:=c15;simp only [ByteArray.size_append,ByteArray.size_extract,Nat.min_self,Nat.zero_add,show (⟨#[46]⟩:ByteArray).size=1 from rfl] at c15b3;replace c15b3:=eq_false (Nat.not_lt.2 c15b3))
       replace H:=Option.bind_eq_some_iff.mp H
       obtain ⟨t108,A160,H⟩:=H
       replace H:(if (((a0_0++(⟨#[46]⟩:ByteArray))++t106)++t107).size+t108.size≤9223372036854775807 then (if ((((a0_0++(⟨#[46]⟩:ByteArray))++t106)++t107)++t108).size+1≤9223372036854775807 then (if a0_1=1 then (if (((((a0_0++(⟨#[46]⟩:ByteArray))++t106)++t107)++t108)++(⟨#[46]⟩:ByteArray)).size+1≤9223372036854775807 then (some ((((((a0_0++(⟨#[46]⟩:ByteArray))++t106)++t107)++t108)++(⟨#[46]⟩:ByteArray))++(⟨#[102]⟩:ByteArray))) else (none)) else (if a0_1=2 then (if (((((a0_0++(⟨#[46]⟩:ByteArray))++t106)++t107)++t108)++(⟨#[46]⟩:ByteArray)).size+1≤9223372036854775807 then ((contangoref03_Text.f kj2 a0_3).bind fun t109=>(if ((((((a0_0++(⟨#[46]⟩:ByteArray))++t106)++t107)++t108)++(⟨#[46]⟩:ByteArray))++(⟨#[99]⟩:ByteArray)).size+t109.size≤9223372036854775807 then (some (((((((a0_0++(⟨#[46]⟩:ByteArray))++t106)++t107)++t108)++(⟨#[46]⟩:ByteArray))++(⟨#[99]⟩:ByteArray))++t109)) else (none))) else (none)) else (if (((((a0_0++(⟨#[46]⟩:ByteArray))++t106)++t107)++t108)++(⟨#[46]⟩:ByteArray)).size+1≤9223372036854775807 then ((contangoref03_Text.f kj2 a0_3).bind fun t110=>(if ((((((a0_0++(⟨#[46]⟩:ByteArray))++t106)++t107)++t108)++(⟨#[46]⟩:ByteArray))++(⟨#[112]⟩:ByteArray)).size+t110.size≤9223372036854775807 then (some (((((((a0_0++(⟨#[46]⟩:ByteArray))++t106)++t107)++t108)++(⟨#[46]⟩:ByteArray))++(⟨#[112]⟩:ByteArray))++t110)) else (none))) else (none)))) else (none)) else (none))=some r:=H
       have A16:=Aside0.mk A160
       clear A160
       by_cases c17:(((a0_0++(⟨#[46]⟩:ByteArray))++t106)++t107).size+t108.size≤9223372036854775807
       ·rw [if_pos c17] at H
        have c17b0:=eq_true c17
        have c17b1:decide ((((a0_0++(⟨#[46]⟩:ByteArray))++t106)++t107).size+t108.size≤9223372036854775807)=true:=decide_eq_true c17
        try have c17b2:(9223372036854775807 < (((a0_0++(⟨#[46]⟩:ByteArray))++t106)++t107).size+t108.size)=False:=eq_false (Nat.not_lt.2 c17)
        try (have c17b3:=c17;simp only [ByteArray.size_append,ByteArray.size_extract,Nat.min_self,Nat.zero_add,show (⟨#[46]⟩:ByteArray).size=1 from rfl] at c17b3;replace c17b3:=eq_false (Nat.not_lt.2 c17b3))
        by_cases c18:((((a0_0++(⟨#[46]⟩:ByteArray))++t106)++t107)++t108).size+1≤9223372036854775807
        ·rw [if_pos c18] at H
         have c18b0:=eq_true c18
         have c18b1:decide (((((a0_0++(⟨#[46]⟩:ByteArray))++t106)++t107)++t108).size+1≤9223372036854775807)=true:=decide_eq_true c18
         try have c18b2:(9223372036854775807 < ((((a0_0++(⟨#[46]⟩:ByteArray))++t106)++t107)++t108).size+1)=False:=eq_false (Nat.not_lt.2 c18)
         try (have c18b3:=c18;simp only [ByteArray.size_append,ByteArray.size_extract,Nat.min_self,Nat.zero_add,show (⟨#[46]⟩:ByteArray).size=1 from rfl] at c18b3;replace c18b3:=eq_false (Nat.not_lt.2 c18b3))
         by_cases c19:a0_1=1
         ·rw [if_pos c19] at H
          have c19b0:(a0_1 == 1)=true:=beq_iff_eq.mpr c19
          have c19b1:(a0_1 != 1)=false:=bne_eq_false_iff_eq.mpr c19
          clear c19
          by_cases c20:(((((a0_0++(⟨#[46]⟩:ByteArray))++t106)++t107)++t108)++(⟨#[46]⟩:ByteArray)).size+1≤9223372036854775807
          ·rw [if_pos c20] at H
           have c20b0:=eq_true c20
           have c20b1:decide ((((((a0_0++(⟨#[46]⟩:ByteArray))++t106)++t107)++t108)++(⟨#[46]⟩:ByteArray)).size+1≤9223372036854775807)=true:=decide_eq_true c20
           try have c20b2:(9223372036854775807 < (((((a0_0++(⟨#[46]⟩:ByteArray))++t106)++t107)++t108)++(⟨#[46]⟩:ByteArray)).size+1)=False:=eq_false (Nat.not_lt.2 c20)
           try (have c20b3:=c20;simp only [ByteArray.size_append,ByteArray.size_extract,Nat.min_self,Nat.zero_add,show (⟨#[46]⟩:ByteArray).size=1 from rfl] at c20b3;replace c20b3:=eq_false (Nat.not_lt.2 c20b3))
           obtain rfl:=Option.some.inj H
           try go_wp2
           have n0_:=Aside0.mk (blk_drew BK101.out)
           have n1_:=Aside0.mk (below_drew1 HB.out)
           clear BK101
           clear HB
           have BK101:=n0_
           have HB:=n1_
           clear n0_ n1_
           refine start_ (n:=14) (S:=fun w'=>w'.cell? ⟨gb101,0,none⟩=some (.string a0_0)∧w'.cell? ⟨gb101,1,none⟩=some (.int .i64 a0_1)∧w'.cell? ⟨gb101,2,none⟩=some (.int .i64 a0_2)∧w'.cell? ⟨gb101,3,none⟩=some (.int .i64 a0_3)) (ds:=[]) #[J,J,J,J,J,J,J,J,J,J,J,J,J,J] (by kernel_rfl) rfl rfl ⟨(blk_cell BK101.out 0).trans rfl,(blk_cell BK101.out 1).trans rfl,(blk_cell BK101.out 2).trans rfl,(blk_cell BK101.out 3).trans rfl⟩ (fun hHeld=>?_);refine with_tabW contangoref10_Print.tab4 contangoref10_Print.bits4 (fun HT_ HW_=>?_)
           generalize wc.drew=w21 at BK101 HB hHeld ⊢
           refine pure_ (i:=0) (N:=some 28) (v:=?_) (a':=?_) #[U,J,J,J,J,J,J,J,J,J,J,J,J,J] rfl rfl (any_of HT_.out (by kernel_rfl)) (fun _ _ _ h=>h) (Or.inl ⟨by rfl,?_⟩) ?_ ?_
           rotate_left
           ·intro w'
            go_simp
            with_reducible rfl
           rotate_left
           ·simp only [Act.put,List.setIfInBounds_toArray,List.set_cons_zero,List.set_cons_succ,i64_w,i32_w]
            rfl
           refine pure_ (i:=3) (N:=some 31) (v:=?_) (a':=?_) #[U,J,J,U,J,J,J,J,J,J,J,J,J,J] rfl rfl (any_of HT_.out (by kernel_rfl)) (fun _ _ _ h=>h) (Or.inl ⟨by rfl,?_⟩) ?_ ?_
           rotate_left
           ·intro w'
            go_simp
            with_reducible rfl
           rotate_left
           ·simp only [Act.put,List.setIfInBounds_toArray,List.set_cons_zero,List.set_cons_succ,i64_w,i32_w]
            rfl
           refine pure_ (i:=6) (N:=some 34) (v:=?_) (a':=?_) #[U,J,J,U,J,J,U,J,J,J,J,J,J,J] rfl rfl (any_of HT_.out (by kernel_rfl)) (fun _ _ _ h=>h) (Or.inl ⟨by rfl,?_⟩) ?_ ?_
           rotate_left
           ·intro w'
            go_simp
            with_reducible rfl
           rotate_left
           ·simp only [Act.put,List.setIfInBounds_toArray,List.set_cons_zero,List.set_cons_succ,i64_w,i32_w]
            rfl
           refine pure_ (i:=9) (N:=some 37) (v:=?_) (a':=?_) #[U,J,J,U,J,J,U,J,J,U,J,J,J,J] rfl rfl (any_of HT_.out (by kernel_rfl)) (fun _ _ _ h=>h) (Or.inl ⟨by rfl,?_⟩) ?_ ?_
           rotate_left
           ·intro w'
            go_simp
            with_reducible rfl
           rotate_left
           ·simp only [Act.put,List.setIfInBounds_toArray,List.set_cons_zero,List.set_cons_succ,i64_w,i32_w]
            rfl
           refine take_ (i:=1) (N:=some 29) (v:=?_) (a':=?_) #[U,U,J,U,J,J,U,J,J,U,J,J,J,J] rfl rfl (take_ofW HT_.out HW_.out (by kernel_rfl)) (fun _ _ _ h=>h) (Or.inl ⟨by rfl,?_⟩) hHeld ?_ ?_
           rotate_left
           ·rintro w' ⟨s0,s1,s2,s3⟩
            go_simp
            with_reducible rfl
           rotate_left
           ·simp only [Act.put,List.setIfInBounds_toArray,List.set_cons_zero,List.set_cons_succ,i64_w,i32_w]
            rfl
           refine pure_ (i:=2) (N:=some 30) (v:=?_) (a':=?_) #[U,U,U,U,J,J,U,J,J,U,J,J,J,J] rfl rfl (any_of HT_.out (by kernel_rfl)) (fun _ _ _ h=>h) (Or.inl ⟨by rfl,?_⟩) ?_ ?_
           rotate_left
           ·intro w'
            go_simp
            with_reducible rfl
           rotate_left
           ·simp only [Act.put,List.setIfInBounds_toArray,List.set_cons_zero,List.set_cons_succ,i64_w,i32_w]
            rfl
           refine one_ (i:=4) (N:=some 32) #[U,U,U,U,U,J,U,J,J,U,J,J,J,J] rfl rfl (one_of HT_.out (by kernel_rfl)) (by decide) (fun K hK=>?_)
           refine goes_ Tryd.func66 (by kernel_rfl) rfl #[.int .i64 t102,.int .i64 4] (by rfl) rfl rfl (by (try simp only [List.map_toArray,List.map_cons,List.map_nil]);first|done|rfl|(simp only [List.length_drop,List.length_take];rfl)) ?_
           with_reducible refine (contangoref10_digits.calls kj2 t102 4 t106 _ A12.out).mono ?_
           rintro e w22 ⟨rfl,hb⟩
           refine ⟨_,rfl,?_⟩
           have n0_:=Aside0.mk (blk_below (g:=gb101) (o:=.cells #[.string a0_0,.int .i64 a0_1,.int .i64 a0_2,.int .i64 a0_3] 23 (0,0)) (by (with_reducible repeat (first|refine blk_drewN ?_ _|refine blk_drew ?_|refine blk_alloc ?_ _));exact BK101.out) hb)
           have n1_:=Aside0.mk (below_step (by repeat (first|(with_reducible first|exact HB.out|apply below_alloc|apply pw_below_drewN|apply below_drew1|refine below_set ?_ GE101.out)|exact HB.out)) hb)
           clear BK101
           clear HB
           have BK101:=n0_
           have HB:=n1_
           clear n0_ n1_
           (try clear hb)
           (try clear hb2)
           (try clear hk)
           (try clear hi)
           refine hK.out _ _ ⟨(blk_cell BK101.out 0).trans rfl,(blk_cell BK101.out 1).trans rfl,(blk_cell BK101.out 2).trans rfl,(blk_cell BK101.out 3).trans rfl⟩ (fun hHeld=>?_)
           clear hK K
           refine norm_ (a':=?_) ?_ ?_
           rotate_left
           ·show Act.put _ (some 32) _=_
            simp only [Act.put,List.setIfInBounds_toArray,List.set_cons_zero,List.set_cons_succ,i64_w,i32_w]
            rfl
           refine pure_ (i:=5) (N:=some 33) (v:=?_) (a':=?_) #[U,U,U,U,U,U,U,J,J,U,J,J,J,J] rfl rfl (any_of HT_.out (by kernel_rfl)) (fun _ _ _ h=>h) (Or.inl ⟨by rfl,?_⟩) ?_ ?_
           rotate_left
           ·intro w'
            go_simp
            with_reducible rfl
           rotate_left
           ·simp only [Act.put,List.setIfInBounds_toArray,List.set_cons_zero,List.set_cons_succ,i64_w,i32_w]
            rfl
           refine one_ (i:=7) (N:=some 35) #[U,U,U,U,U,U,U,U,J,U,J,J,J,J] rfl rfl (one_of HT_.out (by kernel_rfl)) (by decide) (fun K hK=>?_)
           refine goes_ Tryd.func66 (by kernel_rfl) rfl #[.int .i64 t103,.int .i64 2] (by rfl) rfl rfl (by (try simp only [List.map_toArray,List.map_cons,List.map_nil]);first|done|rfl|(simp only [List.length_drop,List.length_take];rfl)) ?_
           with_reducible refine (contangoref10_digits.calls kj2 t103 2 t107 _ A14.out).mono ?_
           rintro e w23 ⟨rfl,hb⟩
           refine ⟨_,rfl,?_⟩
           have n0_:=Aside0.mk (blk_below (g:=gb101) (o:=.cells #[.string a0_0,.int .i64 a0_1,.int .i64 a0_2,.int .i64 a0_3] 23 (0,0)) (by (with_reducible repeat (first|refine blk_drewN ?_ _|refine blk_drew ?_|refine blk_alloc ?_ _));exact BK101.out) hb)
           have n1_:=Aside0.mk (below_step (by repeat (first|(with_reducible first|exact HB.out|apply below_alloc|apply pw_below_drewN|apply below_drew1|refine below_set ?_ GE101.out)|exact HB.out)) hb)
           clear BK101
           clear HB
           have BK101:=n0_
           have HB:=n1_
           clear n0_ n1_
           (try clear hb)
           (try clear hb2)
           (try clear hk)
           (try clear hi)
           refine hK.out _ _ ⟨(blk_cell BK101.out 0).trans rfl,(blk_cell BK101.out 1).trans rfl,(blk_cell BK101.out 2).trans rfl,(blk_cell BK101.out 3).trans rfl⟩ (fun hHeld=>?_)
           clear hK K
           refine norm_ (a':=?_) ?_ ?_
           rotate_left
           ·show Act.put _ (some 35) _=_
            simp only [Act.put,List.setIfInBounds_toArray,List.set_cons_zero,List.set_cons_succ,i64_w,i32_w]
            rfl
           refine pure_ (i:=8) (N:=some 36) (v:=?_) (a':=?_) #[U,U,U,U,U,U,U,U,U,U,J,J,J,J] rfl rfl (any_of HT_.out (by kernel_rfl)) (fun _ _ _ h=>h) (Or.inl ⟨by rfl,?_⟩) ?_ ?_
           rotate_left
           ·intro w'
            go_simp
            with_reducible rfl
           rotate_left
           ·simp only [Act.put,List.setIfInBounds_toArray,List.set_cons_zero,List.set_cons_succ,i64_w,i32_w]
            rfl
           refine one_ (i:=10) (N:=some 38) #[U,U,U,U,U,U,U,U,U,U,U,J,J,J] rfl rfl (one_of HT_.out (by kernel_rfl)) (by decide) (fun K hK=>?_)
           refine goes_ Tryd.func66 (by kernel_rfl) rfl #[.int .i64 t104,.int .i64 2] (by rfl) rfl rfl (by (try simp only [List.map_toArray,List.map_cons,List.map_nil]);first|done|rfl|(simp only [List.length_drop,List.length_take];rfl)) ?_
           with_reducible refine (contangoref10_digits.calls kj2 t104 2 t108 _ A16.out).mono ?_
           rintro e w24 ⟨rfl,hb⟩
           refine ⟨_,rfl,?_⟩
           have n0_:=Aside0.mk (blk_below (g:=gb101) (o:=.cells #[.string a0_0,.int .i64 a0_1,.int .i64 a0_2,.int .i64 a0_3] 23 (0,0)) (by (with_reducible repeat (first|refine blk_drewN ?_ _|refine blk_drew ?_|refine blk_alloc ?_ _));exact BK101.out) hb)
           have n1_:=Aside0.mk (below_step (by repeat (first|(with_reducible first|exact HB.out|apply below_alloc|apply pw_below_drewN|apply below_drew1|refine below_set ?_ GE101.out)|exact HB.out)) hb)
           clear BK101
           clear HB
           have BK101:=n0_
           have HB:=n1_
           clear n0_ n1_
           (try clear hb)
           (try clear hb2)
           (try clear hk)
           (try clear hi)
           refine hK.out _ _ ⟨(blk_cell BK101.out 0).trans rfl,(blk_cell BK101.out 1).trans rfl,(blk_cell BK101.out 2).trans rfl,(blk_cell BK101.out 3).trans rfl⟩ (fun hHeld=>?_)
           clear hK K
           refine norm_ (a':=?_) ?_ ?_
           rotate_left
           ·show Act.put _ (some 38) _=_
            simp only [Act.put,List.setIfInBounds_toArray,List.set_cons_zero,List.set_cons_succ,i64_w,i32_w]
            rfl
           refine pure_ (i:=11) (N:=some 39) (v:=?_) (a':=?_) #[U,U,U,U,U,U,U,U,U,U,U,U,J,J] rfl rfl (any_of HT_.out (by kernel_rfl)) (fun _ _ _ h=>h) (Or.inl ⟨by rfl,?_⟩) ?_ ?_
           rotate_left
           ·intro w'
            go_simp
            with_reducible rfl
           rotate_left
           ·simp only [Act.put,List.setIfInBounds_toArray,List.set_cons_zero,List.set_cons_succ,i64_w,i32_w]
            rfl
           refine pure_ (i:=12) (N:=some 40) (v:=?_) (a':=?_) #[U,U,U,U,U,U,U,U,U,U,U,U,U,J] rfl rfl (any_of HT_.out (by kernel_rfl)) (fun _ _ _ h=>h) (Or.inl ⟨by rfl,?_⟩) ?_ ?_
           rotate_left
           ·intro w'
            go_simp
            with_reducible rfl
           rotate_left
           ·simp only [Act.put,List.setIfInBounds_toArray,List.set_cons_zero,List.set_cons_succ,i64_w,i32_w]
            rfl
           refine pure_ (i:=13) (N:=some 7) (v:=?_) (a':=?_) #[U,U,U,U,U,U,U,U,U,U,U,U,U,U] rfl rfl (any_of HT_.out (by kernel_rfl)) (fun _ _ _ h=>h) (Or.inl ⟨by rfl,?_⟩) ?_ ?_
           rotate_left
           ·intro w'
            go_simp
            with_reducible rfl
           rotate_left
           ·simp only [Act.put,List.setIfInBounds_toArray,List.set_cons_zero,List.set_cons_succ,i64_w,i32_w]
            rfl
           refine done_ (done_of HT_.out (by kernel_rfl)) ?_
           have hcz25_0:w24.cell? ⟨gb101,0,none⟩=some (.string a0_0):=(blk_cell BK101.out 0).trans rfl
           have hcz25_1:w24.cell? ⟨gb101,1,none⟩=some (.int .i64 a0_1):=(blk_cell BK101.out 1).trans rfl
           have hcz25_2:w24.cell? ⟨gb101,2,none⟩=some (.int .i64 a0_2):=(blk_cell BK101.out 2).trans rfl
           have hcz25_3:w24.cell? ⟨gb101,3,none⟩=some (.int .i64 a0_3):=(blk_cell BK101.out 3).trans rfl
           have hfz25_0:=blk_frozen BK101.out 0
           have hfz25_1:=blk_frozen BK101.out 1
           have hfz25_2:=blk_frozen BK101.out 2
           have hfz25_3:=blk_frozen BK101.out 3
           try go_wp2
           go_ret
           exact ⟨by first|rfl|(simp [errW_none,errW_some]<;>rfl)|(simp [*,errW_none,errW_some]<;>rfl),by repeat (first|(with_reducible first|exact HB.out|apply below_alloc|apply pw_below_drewN|apply below_drew1|refine below_set ?_ GE101.out)|exact HB.out)⟩
          ·rw [if_neg c20] at H
           exact absurd H (by simp)
         ·rw [if_neg c19] at H
          have c19b0:(a0_1 == 1)=false:=beq_eq_false_iff_ne.mpr c19
          have c19b1:(a0_1 != 1)=true:=bne_iff_ne.mpr c19
          by_cases c26:a0_1=2
          ·rw [if_pos c26] at H
           have c26b0:(a0_1 == 2)=true:=beq_iff_eq.mpr c26
           have c26b1:(a0_1 != 2)=false:=bne_eq_false_iff_eq.mpr c26
           clear c26
           by_cases c27:(((((a0_0++(⟨#[46]⟩:ByteArray))++t106)++t107)++t108)++(⟨#[46]⟩:ByteArray)).size+1≤9223372036854775807
           ·rw [if_pos c27] at H
            have c27b0:=eq_true c27
            have c27b1:decide ((((((a0_0++(⟨#[46]⟩:ByteArray))++t106)++t107)++t108)++(⟨#[46]⟩:ByteArray)).size+1≤9223372036854775807)=true:=decide_eq_true c27
            try have c27b2:(9223372036854775807 < (((((a0_0++(⟨#[46]⟩:ByteArray))++t106)++t107)++t108)++(⟨#[46]⟩:ByteArray)).size+1)=False:=eq_false (Nat.not_lt.2 c27)
            try (have c27b3:=c27;simp only [ByteArray.size_append,ByteArray.size_extract,Nat.min_self,Nat.zero_add,show (⟨#[46]⟩:ByteArray).size=1 from rfl] at c27b3;replace c27b3:=eq_false (Nat.not_lt.2 c27b3))
            replace H:=Option.bind_eq_some_iff.mp H
            obtain ⟨t109,A280,H⟩:=H
            replace H:(if ((((((a0_0++(⟨#[46]⟩:ByteArray))++t106)++t107)++t108)++(⟨#[46]⟩:ByteArray))++(⟨#[99]⟩:ByteArray)).size+t109.size≤9223372036854775807 then (some (((((((a0_0++(⟨#[46]⟩:ByteArray))++t106)++t107)++t108)++(⟨#[46]⟩:ByteArray))++(⟨#[99]⟩:ByteArray))++t109)) else (none))=some r:=H
            have A28:=Aside0.mk A280
            clear A280
            by_cases c29:((((((a0_0++(⟨#[46]⟩:ByteArray))++t106)++t107)++t108)++(⟨#[46]⟩:ByteArray))++(⟨#[99]⟩:ByteArray)).size+t109.size≤9223372036854775807
            ·rw [if_pos c29] at H
             have c29b0:=eq_true c29
             have c29b1:decide (((((((a0_0++(⟨#[46]⟩:ByteArray))++t106)++t107)++t108)++(⟨#[46]⟩:ByteArray))++(⟨#[99]⟩:ByteArray)).size+t109.size≤9223372036854775807)=true:=decide_eq_true c29
             try have c29b2:(9223372036854775807 < ((((((a0_0++(⟨#[46]⟩:ByteArray))++t106)++t107)++t108)++(⟨#[46]⟩:ByteArray))++(⟨#[99]⟩:ByteArray)).size+t109.size)=False:=eq_false (Nat.not_lt.2 c29)
             try (have c29b3:=c29;simp only [ByteArray.size_append,ByteArray.size_extract,Nat.min_self,Nat.zero_add,show (⟨#[46]⟩:ByteArray).size=1 from rfl,show (⟨#[99]⟩:ByteArray).size=1 from rfl] at c29b3;replace c29b3:=eq_false (Nat.not_lt.2 c29b3))
             obtain rfl:=Option.some.inj H
             try go_wp2
             have n0_:=Aside0.mk (blk_drew BK101.out)
             have n1_:=Aside0.mk (below_drew1 HB.out)
             clear BK101
             clear HB
             have BK101:=n0_
             have HB:=n1_
             clear n0_ n1_
             refine start_ (n:=14) (S:=fun w'=>w'.cell? ⟨gb101,0,none⟩=some (.string a0_0)∧w'.cell? ⟨gb101,1,none⟩=some (.int .i64 a0_1)∧w'.cell? ⟨gb101,2,none⟩=some (.int .i64 a0_2)∧w'.cell? ⟨gb101,3,none⟩=some (.int .i64 a0_3)) (ds:=[]) #[J,J,J,J,J,J,J,J,J,J,J,J,J,J] (by kernel_rfl) rfl rfl ⟨(blk_cell BK101.out 0).trans rfl,(blk_cell BK101.out 1).trans rfl,(blk_cell BK101.out 2).trans rfl,(blk_cell BK101.out 3).trans rfl⟩ (fun hHeld=>?_);refine with_tabW contangoref10_Print.tab4 contangoref10_Print.bits4 (fun HT_ HW_=>?_)
             generalize wc.drew=w30 at BK101 HB hHeld ⊢
             refine pure_ (i:=0) (N:=some 28) (v:=?_) (a':=?_) #[U,J,J,J,J,J,J,J,J,J,J,J,J,J] rfl rfl (any_of HT_.out (by kernel_rfl)) (fun _ _ _ h=>h) (Or.inl ⟨by rfl,?_⟩) ?_ ?_
             rotate_left
             ·intro w'
              go_simp
              with_reducible rfl
             rotate_left
             ·simp only [Act.put,List.setIfInBounds_toArray,List.set_cons_zero,List.set_cons_succ,i64_w,i32_w]
              rfl
             refine pure_ (i:=3) (N:=some 31) (v:=?_) (a':=?_) #[U,J,J,U,J,J,J,J,J,J,J,J,J,J] rfl rfl (any_of HT_.out (by kernel_rfl)) (fun _ _ _ h=>h) (Or.inl ⟨by rfl,?_⟩) ?_ ?_
             rotate_left
             ·intro w'
              go_simp
              with_reducible rfl
             rotate_left
             ·simp only [Act.put,List.setIfInBounds_toArray,List.set_cons_zero,List.set_cons_succ,i64_w,i32_w]
              rfl
             refine pure_ (i:=6) (N:=some 34) (v:=?_) (a':=?_) #[U,J,J,U,J,J,U,J,J,J,J,J,J,J] rfl rfl (any_of HT_.out (by kernel_rfl)) (fun _ _ _ h=>h) (Or.inl ⟨by rfl,?_⟩) ?_ ?_
             rotate_left
             ·intro w'
              go_simp
              with_reducible rfl
             rotate_left
             ·simp only [Act.put,List.setIfInBounds_toArray,List.set_cons_zero,List.set_cons_succ,i64_w,i32_w]
              rfl
             refine pure_ (i:=9) (N:=some 37) (v:=?_) (a':=?_) #[U,J,J,U,J,J,U,J,J,U,J,J,J,J] rfl rfl (any_of HT_.out (by kernel_rfl)) (fun _ _ _ h=>h) (Or.inl ⟨by rfl,?_⟩) ?_ ?_
             rotate_left
             ·intro w'
              go_simp
              with_reducible rfl
             rotate_left
             ·simp only [Act.put,List.setIfInBounds_toArray,List.set_cons_zero,List.set_cons_succ,i64_w,i32_w]
              rfl
             refine take_ (i:=1) (N:=some 29) (v:=?_) (a':=?_) #[U,U,J,U,J,J,U,J,J,U,J,J,J,J] rfl rfl (take_ofW HT_.out HW_.out (by kernel_rfl)) (fun _ _ _ h=>h) (Or.inl ⟨by rfl,?_⟩) hHeld ?_ ?_
             rotate_left
             ·rintro w' ⟨s0,s1,s2,s3⟩
              go_simp
              with_reducible rfl
             rotate_left
             ·simp only [Act.put,List.setIfInBounds_toArray,List.set_cons_zero,List.set_cons_succ,i64_w,i32_w]
              rfl
             refine pure_ (i:=2) (N:=some 30) (v:=?_) (a':=?_) #[U,U,U,U,J,J,U,J,J,U,J,J,J,J] rfl rfl (any_of HT_.out (by kernel_rfl)) (fun _ _ _ h=>h) (Or.inl ⟨by rfl,?_⟩) ?_ ?_
             rotate_left
             ·intro w'
              go_simp
              with_reducible rfl
             rotate_left
             ·simp only [Act.put,List.setIfInBounds_toArray,List.set_cons_zero,List.set_cons_succ,i64_w,i32_w]
              rfl
             refine one_ (i:=4) (N:=some 32) #[U,U,U,U,U,J,U,J,J,U,J,J,J,J] rfl rfl (one_of HT_.out (by kernel_rfl)) (by decide) (fun K hK=>?_)
             refine goes_ Tryd.func66 (by kernel_rfl) rfl #[.int .i64 t102,.int .i64 4] (by rfl) rfl rfl (by (try simp only [List.map_toArray,List.map_cons,List.map_nil]);first|done|rfl|(simp only [List.length_drop,List.length_take];rfl)) ?_
             with_reducible refine (contangoref10_digits.calls kj2 t102 4 t106 _ A12.out).mono ?_
             rintro e w31 ⟨rfl,hb⟩
             refine ⟨_,rfl,?_⟩
             have n0_:=Aside0.mk (blk_below (g:=gb101) (o:=.cells #[.string a0_0,.int .i64 a0_1,.int .i64 a0_2,.int .i64 a0_3] 23 (0,0)) (by (with_reducible repeat (first|refine blk_drewN ?_ _|refine blk_drew ?_|refine blk_alloc ?_ _));exact BK101.out) hb)
             have n1_:=Aside0.mk (below_step (by repeat (first|(with_reducible first|exact HB.out|apply below_alloc|apply pw_below_drewN|apply below_drew1|refine below_set ?_ GE101.out)|exact HB.out)) hb)
             clear BK101
             clear HB
             have BK101:=n0_
             have HB:=n1_
             clear n0_ n1_
             (try clear hb)
             (try clear hb2)
             (try clear hk)
             (try clear hi)
             refine hK.out _ _ ⟨(blk_cell BK101.out 0).trans rfl,(blk_cell BK101.out 1).trans rfl,(blk_cell BK101.out 2).trans rfl,(blk_cell BK101.out 3).trans rfl⟩ (fun hHeld=>?_)
             clear hK K
             refine norm_ (a':=?_) ?_ ?_
             rotate_left
             ·show Act.put _ (some 32) _=_
              simp only [Act.put,List.setIfInBounds_toArray,List.set_cons_zero,List.set_cons_succ,i64_w,i32_w]
              rfl
             refine pure_ (i:=5) (N:=some 33) (v:=?_) (a':=?_) #[U,U,U,U,U,U,U,J,J,U,J,J,J,J] rfl rfl (any_of HT_.out (by kernel_rfl)) (fun _ _ _ h=>h) (Or.inl ⟨by rfl,?_⟩) ?_ ?_
             rotate_left
             ·intro w'
              go_simp
              with_reducible rfl
             rotate_left
             ·simp only [Act.put,List.setIfInBounds_toArray,List.set_cons_zero,List.set_cons_succ,i64_w,i32_w]
              rfl
             refine one_ (i:=7) (N:=some 35) #[U,U,U,U,U,U,U,U,J,U,J,J,J,J] rfl rfl (one_of HT_.out (by kernel_rfl)) (by decide) (fun K hK=>?_)
             refine goes_ Tryd.func66 (by kernel_rfl) rfl #[.int .i64 t103,.int .i64 2] (by rfl) rfl rfl (by (try simp only [List.map_toArray,List.map_cons,List.map_nil]);first|done|rfl|(simp only [List.length_drop,List.length_take];rfl)) ?_
             with_reducible refine (contangoref10_digits.calls kj2 t103 2 t107 _ A14.out).mono ?_
             rintro e w32 ⟨rfl,hb⟩
             refine ⟨_,rfl,?_⟩
             have n0_:=Aside0.mk (blk_below (g:=gb101) (o:=.cells #[.string a0_0,.int .i64 a0_1,.int .i64 a0_2,.int .i64 a0_3] 23 (0,0)) (by (with_reducible repeat (first|refine blk_drewN ?_ _|refine blk_drew ?_|refine blk_alloc ?_ _));exact BK101.out) hb)
             have n1_:=Aside0.mk (below_step (by repeat (first|(with_reducible first|exact HB.out|apply below_alloc|apply pw_below_drewN|apply below_drew1|refine below_set ?_ GE101.out)|exact HB.out)) hb)
             clear BK101
             clear HB
             have BK101:=n0_
             have HB:=n1_
             clear n0_ n1_
             (try clear hb)
             (try clear hb2)
             (try clear hk)
             (try clear hi)
             refine hK.out _ _ ⟨(blk_cell BK101.out 0).trans rfl,(blk_cell BK101.out 1).trans rfl,(blk_cell BK101.out 2).trans rfl,(blk_cell BK101.out 3).trans rfl⟩ (fun hHeld=>?_)
             clear hK K
             refine norm_ (a':=?_) ?_ ?_
             rotate_left
             ·show Act.put _ (some 35) _=_
              simp only [Act.put,List.setIfInBounds_toArray,List.set_cons_zero,List.set_cons_succ,i64_w,i32_w]
              rfl
             refine pure_ (i:=8) (N:=some 36) (v:=?_) (a':=?_) #[U,U,U,U,U,U,U,U,U,U,J,J,J,J] rfl rfl (any_of HT_.out (by kernel_rfl)) (fun _ _ _ h=>h) (Or.inl ⟨by rfl,?_⟩) ?_ ?_
             rotate_left
             ·intro w'
              go_simp
              with_reducible rfl
             rotate_left
             ·simp only [Act.put,List.setIfInBounds_toArray,List.set_cons_zero,List.set_cons_succ,i64_w,i32_w]
              rfl
             refine one_ (i:=10) (N:=some 38) #[U,U,U,U,U,U,U,U,U,U,U,J,J,J] rfl rfl (one_of HT_.out (by kernel_rfl)) (by decide) (fun K hK=>?_)
             refine goes_ Tryd.func66 (by kernel_rfl) rfl #[.int .i64 t104,.int .i64 2] (by rfl) rfl rfl (by (try simp only [List.map_toArray,List.map_cons,List.map_nil]);first|done|rfl|(simp only [List.length_drop,List.length_take];rfl)) ?_
             with_reducible refine (contangoref10_digits.calls kj2 t104 2 t108 _ A16.out).mono ?_
             rintro e w33 ⟨rfl,hb⟩
             refine ⟨_,rfl,?_⟩
             have n0_:=Aside0.mk (blk_below (g:=gb101) (o:=.cells #[.string a0_0,.int .i64 a0_1,.int .i64 a0_2,.int .i64 a0_3] 23 (0,0)) (by (with_reducible repeat (first|refine blk_drewN ?_ _|refine blk_drew ?_|refine blk_alloc ?_ _));exact BK101.out) hb)
             have n1_:=Aside0.mk (below_step (by repeat (first|(with_reducible first|exact HB.out|apply below_alloc|apply pw_below_drewN|apply below_drew1|refine below_set ?_ GE101.out)|exact HB.out)) hb)
             clear BK101
             clear HB
             have BK101:=n0_
             have HB:=n1_
             clear n0_ n1_
             (try clear hb)
             (try clear hb2)
             (try clear hk)
             (try clear hi)
             refine hK.out _ _ ⟨(blk_cell BK101.out 0).trans rfl,(blk_cell BK101.out 1).trans rfl,(blk_cell BK101.out 2).trans rfl,(blk_cell BK101.out 3).trans rfl⟩ (fun hHeld=>?_)
             clear hK K
             refine norm_ (a':=?_) ?_ ?_
             rotate_left
             ·show Act.put _ (some 38) _=_
              simp only [Act.put,List.setIfInBounds_toArray,List.set_cons_zero,List.set_cons_succ,i64_w,i32_w]
              rfl
             refine pure_ (i:=11) (N:=some 39) (v:=?_) (a':=?_) #[U,U,U,U,U,U,U,U,U,U,U,U,J,J] rfl rfl (any_of HT_.out (by kernel_rfl)) (fun _ _ _ h=>h) (Or.inl ⟨by rfl,?_⟩) ?_ ?_
             rotate_left
             ·intro w'
              go_simp
              with_reducible rfl
             rotate_left
             ·simp only [Act.put,List.setIfInBounds_toArray,List.set_cons_zero,List.set_cons_succ,i64_w,i32_w]
              rfl
             refine pure_ (i:=12) (N:=some 40) (v:=?_) (a':=?_) #[U,U,U,U,U,U,U,U,U,U,U,U,U,J] rfl rfl (any_of HT_.out (by kernel_rfl)) (fun _ _ _ h=>h) (Or.inl ⟨by rfl,?_⟩) ?_ ?_
             rotate_left
             ·intro w'
              go_simp
              with_reducible rfl
             rotate_left
             ·simp only [Act.put,List.setIfInBounds_toArray,List.set_cons_zero,List.set_cons_succ,i64_w,i32_w]
              rfl
             refine pure_ (i:=13) (N:=some 7) (v:=?_) (a':=?_) #[U,U,U,U,U,U,U,U,U,U,U,U,U,U] rfl rfl (any_of HT_.out (by kernel_rfl)) (fun _ _ _ h=>h) (Or.inl ⟨by rfl,?_⟩) ?_ ?_
             rotate_left
             ·intro w'
              go_simp
              with_reducible rfl
             rotate_left
             ·simp only [Act.put,List.setIfInBounds_toArray,List.set_cons_zero,List.set_cons_succ,i64_w,i32_w]
              rfl
             refine done_ (done_of HT_.out (by kernel_rfl)) ?_
             have hcz34_0:w33.cell? ⟨gb101,0,none⟩=some (.string a0_0):=(blk_cell BK101.out 0).trans rfl
             have hcz34_1:w33.cell? ⟨gb101,1,none⟩=some (.int .i64 a0_1):=(blk_cell BK101.out 1).trans rfl
             have hcz34_2:w33.cell? ⟨gb101,2,none⟩=some (.int .i64 a0_2):=(blk_cell BK101.out 2).trans rfl
             have hcz34_3:w33.cell? ⟨gb101,3,none⟩=some (.int .i64 a0_3):=(blk_cell BK101.out 3).trans rfl
             have hfz34_0:=blk_frozen BK101.out 0
             have hfz34_1:=blk_frozen BK101.out 1
             have hfz34_2:=blk_frozen BK101.out 2
             have hfz34_3:=blk_frozen BK101.out 3
             try go_wp2_with (first|((with_reducible refine gate_callee (f:=38) rfl ?_);refine goesL_ (some 53) rfl rfl Tryd.func38 (by kernel_rfl) rfl #[.int .i64 a0_3] rfl (by (try simp only [List.map_toArray,List.map_cons,List.map_nil]);first|done|rfl|(simp only [List.length_drop,List.length_take];rfl)) ?_;(with_reducible refine (contangoref03_Text.calls kj2 a0_3 t109 _ A28.out).mono ?_);rintro e w35 ⟨rfl,hb⟩;refine ⟨_,rfl,?_⟩;have n0_:=Aside0.mk (blk_below (g:=gb101) (o:=.cells #[.string a0_0,.int .i64 a0_1,.int .i64 a0_2,.int .i64 a0_3] 23 (0,0)) (by (with_reducible repeat (first|refine blk_drewN ?_ _|refine blk_drew ?_|refine blk_alloc ?_ _));exact BK101.out) hb);have n1_:=Aside0.mk (below_step (by repeat (first|(with_reducible first|exact HB.out|apply below_alloc|apply pw_below_drewN|apply below_drew1|refine below_set ?_ GE101.out)|exact HB.out)) hb);clear BK101;clear HB;have BK101:=n0_;have HB:=n1_;clear n0_ n1_;(try clear hb);(try clear hb2);(try clear hk);(try clear hi)))
             go_ret
             exact ⟨by first|rfl|(simp [errW_none,errW_some]<;>rfl)|(simp [*,errW_none,errW_some]<;>rfl),by repeat (first|(with_reducible first|exact HB.out|apply below_alloc|apply pw_below_drewN|apply below_drew1|refine below_set ?_ GE101.out)|exact HB.out)⟩
            ·rw [if_neg c29] at H
             exact absurd H (by simp)
           ·rw [if_neg c27] at H
            exact absurd H (by simp)
          ·rw [if_neg c26] at H
           have c26b0:(a0_1 == 2)=false:=beq_eq_false_iff_ne.mpr c26
           have c26b1:(a0_1 != 2)=true:=bne_iff_ne.mpr c26
           by_cases c36:(((((a0_0++(⟨#[46]⟩:ByteArray))++t106)++t107)++t108)++(⟨#[46]⟩:ByteArray)).size+1≤9223372036854775807
           ·rw [if_pos c36] at H
            have c36b0:=eq_true c36
            have c36b1:decide ((((((a0_0++(⟨#[46]⟩:ByteArray))++t106)++t107)++t108)++(⟨#[46]⟩:ByteArray)).size+1≤9223372036854775807)=true:=decide_eq_true c36
            try have c36b2:(9223372036854775807 < (((((a0_0++(⟨#[46]⟩:ByteArray))++t106)++t107)++t108)++(⟨#[46]⟩:ByteArray)).size+1)=False:=eq_false (Nat.not_lt.2 c36)
            try (have c36b3:=c36;simp only [ByteArray.size_append,ByteArray.size_extract,Nat.min_self,Nat.zero_add,show (⟨#[46]⟩:ByteArray).size=1 from rfl] at c36b3;replace c36b3:=eq_false (Nat.not_lt.2 c36b3))
            replace H:=Option.bind_eq_some_iff.mp H
            obtain ⟨t110,A370,H⟩:=H
            replace H:(if ((((((a0_0++(⟨#[46]⟩:ByteArray))++t106)++t107)++t108)++(⟨#[46]⟩:ByteArray))++(⟨#[112]⟩:ByteArray)).size+t110.size≤9223372036854775807 then (some (((((((a0_0++(⟨#[46]⟩:ByteArray))++t106)++t107)++t108)++(⟨#[46]⟩:ByteArray))++(⟨#[112]⟩:ByteArray))++t110)) else (none))=some r:=H
            have A37:=Aside0.mk A370
            clear A370
            by_cases c38:((((((a0_0++(⟨#[46]⟩:ByteArray))++t106)++t107)++t108)++(⟨#[46]⟩:ByteArray))++(⟨#[112]⟩:ByteArray)).size+t110.size≤9223372036854775807
            ·rw [if_pos c38] at H
             have c38b0:=eq_true c38
             have c38b1:decide (((((((a0_0++(⟨#[46]⟩:ByteArray))++t106)++t107)++t108)++(⟨#[46]⟩:ByteArray))++(⟨#[112]⟩:ByteArray)).size+t110.size≤9223372036854775807)=true:=decide_eq_true c38
             try have c38b2:(9223372036854775807 < ((((((a0_0++(⟨#[46]⟩:ByteArray))++t106)++t107)++t108)++(⟨#[46]⟩:ByteArray))++(⟨#[112]⟩:ByteArray)).size+t110.size)=False:=eq_false (Nat.not_lt.2 c38)
             try (have c38b3:=c38;simp only [ByteArray.size_append,ByteArray.size_extract,Nat.min_self,Nat.zero_add,show (⟨#[112]⟩:ByteArray).size=1 from rfl,show (⟨#[46]⟩:ByteArray).size=1 from rfl] at c38b3;replace c38b3:=eq_false (Nat.not_lt.2 c38b3))
             obtain rfl:=Option.some.inj H
             try go_wp2
             have n0_:=Aside0.mk (blk_drew BK101.out)
             have n1_:=Aside0.mk (below_drew1 HB.out)
             clear BK101
             clear HB
             have BK101:=n0_
             have HB:=n1_
             clear n0_ n1_
             refine start_ (n:=14) (S:=fun w'=>w'.cell? ⟨gb101,0,none⟩=some (.string a0_0)∧w'.cell? ⟨gb101,1,none⟩=some (.int .i64 a0_1)∧w'.cell? ⟨gb101,2,none⟩=some (.int .i64 a0_2)∧w'.cell? ⟨gb101,3,none⟩=some (.int .i64 a0_3)) (ds:=[]) #[J,J,J,J,J,J,J,J,J,J,J,J,J,J] (by kernel_rfl) rfl rfl ⟨(blk_cell BK101.out 0).trans rfl,(blk_cell BK101.out 1).trans rfl,(blk_cell BK101.out 2).trans rfl,(blk_cell BK101.out 3).trans rfl⟩ (fun hHeld=>?_);refine with_tabW contangoref10_Print.tab4 contangoref10_Print.bits4 (fun HT_ HW_=>?_)
             generalize wc.drew=w39 at BK101 HB hHeld ⊢
             refine pure_ (i:=0) (N:=some 28) (v:=?_) (a':=?_) #[U,J,J,J,J,J,J,J,J,J,J,J,J,J] rfl rfl (any_of HT_.out (by kernel_rfl)) (fun _ _ _ h=>h) (Or.inl ⟨by rfl,?_⟩) ?_ ?_
             rotate_left
             ·intro w'
              go_simp
              with_reducible rfl
             rotate_left
             ·simp only [Act.put,List.setIfInBounds_toArray,List.set_cons_zero,List.set_cons_succ,i64_w,i32_w]
              rfl
             refine pure_ (i:=3) (N:=some 31) (v:=?_) (a':=?_) #[U,J,J,U,J,J,J,J,J,J,J,J,J,J] rfl rfl (any_of HT_.out (by kernel_rfl)) (fun _ _ _ h=>h) (Or.inl ⟨by rfl,?_⟩) ?_ ?_
             rotate_left
             ·intro w'
              go_simp
              with_reducible rfl
             rotate_left
             ·simp only [Act.put,List.setIfInBounds_toArray,List.set_cons_zero,List.set_cons_succ,i64_w,i32_w]
              rfl
             refine pure_ (i:=6) (N:=some 34) (v:=?_) (a':=?_) #[U,J,J,U,J,J,U,J,J,J,J,J,J,J] rfl rfl (any_of HT_.out (by kernel_rfl)) (fun _ _ _ h=>h) (Or.inl ⟨by rfl,?_⟩) ?_ ?_
             rotate_left
             ·intro w'
              go_simp
              with_reducible rfl
             rotate_left
             ·simp only [Act.put,List.setIfInBounds_toArray,List.set_cons_zero,List.set_cons_succ,i64_w,i32_w]
              rfl
             refine pure_ (i:=9) (N:=some 37) (v:=?_) (a':=?_) #[U,J,J,U,J,J,U,J,J,U,J,J,J,J] rfl rfl (any_of HT_.out (by kernel_rfl)) (fun _ _ _ h=>h) (Or.inl ⟨by rfl,?_⟩) ?_ ?_
             rotate_left
             ·intro w'
              go_simp
              with_reducible rfl
             rotate_left
             ·simp only [Act.put,List.setIfInBounds_toArray,List.set_cons_zero,List.set_cons_succ,i64_w,i32_w]
              rfl
             refine take_ (i:=1) (N:=some 29) (v:=?_) (a':=?_) #[U,U,J,U,J,J,U,J,J,U,J,J,J,J] rfl rfl (take_ofW HT_.out HW_.out (by kernel_rfl)) (fun _ _ _ h=>h) (Or.inl ⟨by rfl,?_⟩) hHeld ?_ ?_
             rotate_left
             ·rintro w' ⟨s0,s1,s2,s3⟩
              go_simp
              with_reducible rfl
             rotate_left
             ·simp only [Act.put,List.setIfInBounds_toArray,List.set_cons_zero,List.set_cons_succ,i64_w,i32_w]
              rfl
             refine pure_ (i:=2) (N:=some 30) (v:=?_) (a':=?_) #[U,U,U,U,J,J,U,J,J,U,J,J,J,J] rfl rfl (any_of HT_.out (by kernel_rfl)) (fun _ _ _ h=>h) (Or.inl ⟨by rfl,?_⟩) ?_ ?_
             rotate_left
             ·intro w'
              go_simp
              with_reducible rfl
             rotate_left
             ·simp only [Act.put,List.setIfInBounds_toArray,List.set_cons_zero,List.set_cons_succ,i64_w,i32_w]
              rfl
             refine one_ (i:=4) (N:=some 32) #[U,U,U,U,U,J,U,J,J,U,J,J,J,J] rfl rfl (one_of HT_.out (by kernel_rfl)) (by decide) (fun K hK=>?_)
             refine goes_ Tryd.func66 (by kernel_rfl) rfl #[.int .i64 t102,.int .i64 4] (by rfl) rfl rfl (by (try simp only [List.map_toArray,List.map_cons,List.map_nil]);first|done|rfl|(simp only [List.length_drop,List.length_take];rfl)) ?_
             with_reducible refine (contangoref10_digits.calls kj2 t102 4 t106 _ A12.out).mono ?_
             rintro e w40 ⟨rfl,hb⟩
             refine ⟨_,rfl,?_⟩
             have n0_:=Aside0.mk (blk_below (g:=gb101) (o:=.cells #[.string a0_0,.int .i64 a0_1,.int .i64 a0_2,.int .i64 a0_3] 23 (0,0)) (by (with_reducible repeat (first|refine blk_drewN ?_ _|refine blk_drew ?_|refine blk_alloc ?_ _));exact BK101.out) hb)
             have n1_:=Aside0.mk (below_step (by repeat (first|(with_reducible first|exact HB.out|apply below_alloc|apply pw_below_drewN|apply below_drew1|refine below_set ?_ GE101.out)|exact HB.out)) hb)
             clear BK101
             clear HB
             have BK101:=n0_
             have HB:=n1_
             clear n0_ n1_
             (try clear hb)
             (try clear hb2)
             (try clear hk)
             (try clear hi)
             refine hK.out _ _ ⟨(blk_cell BK101.out 0).trans rfl,(blk_cell BK101.out 1).trans rfl,(blk_cell BK101.out 2).trans rfl,(blk_cell BK101.out 3).trans rfl⟩ (fun hHeld=>?_)
             clear hK K
             refine norm_ (a':=?_) ?_ ?_
             rotate_left
             ·show Act.put _ (some 32) _=_
              simp only [Act.put,List.setIfInBounds_toArray,List.set_cons_zero,List.set_cons_succ,i64_w,i32_w]
              rfl
             refine pure_ (i:=5) (N:=some 33) (v:=?_) (a':=?_) #[U,U,U,U,U,U,U,J,J,U,J,J,J,J] rfl rfl (any_of HT_.out (by kernel_rfl)) (fun _ _ _ h=>h) (Or.inl ⟨by rfl,?_⟩) ?_ ?_
             rotate_left
             ·intro w'
              go_simp
              with_reducible rfl
             rotate_left
             ·simp only [Act.put,List.setIfInBounds_toArray,List.set_cons_zero,List.set_cons_succ,i64_w,i32_w]
              rfl
             refine one_ (i:=7) (N:=some 35) #[U,U,U,U,U,U,U,U,J,U,J,J,J,J] rfl rfl (one_of HT_.out (by kernel_rfl)) (by decide) (fun K hK=>?_)
             refine goes_ Tryd.func66 (by kernel_rfl) rfl #[.int .i64 t103,.int .i64 2] (by rfl) rfl rfl (by (try simp only [List.map_toArray,List.map_cons,List.map_nil]);first|done|rfl|(simp only [List.length_drop,List.length_take];rfl)) ?_
             with_reducible refine (contangoref10_digits.calls kj2 t103 2 t107 _ A14.out).mono ?_
             rintro e w41 ⟨rfl,hb⟩
             refine ⟨_,rfl,?_⟩
             have n0_:=Aside0.mk (blk_below (g:=gb101) (o:=.cells #[.string a0_0,.int .i64 a0_1,.int .i64 a0_2,.int .i64 a0_3] 23 (0,0)) (by (with_reducible repeat (first|refine blk_drewN ?_ _|refine blk_drew ?_|refine blk_alloc ?_ _));exact BK101.out) hb)
             have n1_:=Aside0.mk (below_step (by repeat (first|(with_reducible first|exact HB.out|apply below_alloc|apply pw_below_drewN|apply below_drew1|refine below_set ?_ GE101.out)|exact HB.out)) hb)
             clear BK101
             clear HB
             have BK101:=n0_
             have HB:=n1_
             clear n0_ n1_
             (try clear hb)
             (try clear hb2)
             (try clear hk)
             (try clear hi)
             refine hK.out _ _ ⟨(blk_cell BK101.out 0).trans rfl,(blk_cell BK101.out 1).trans rfl,(blk_cell BK101.out 2).trans rfl,(blk_cell BK101.out 3).trans rfl⟩ (fun hHeld=>?_)
             clear hK K
             refine norm_ (a':=?_) ?_ ?_
             rotate_left
             ·show Act.put _ (some 35) _=_
              simp only [Act.put,List.setIfInBounds_toArray,List.set_cons_zero,List.set_cons_succ,i64_w,i32_w]
              rfl
             refine pure_ (i:=8) (N:=some 36) (v:=?_) (a':=?_) #[U,U,U,U,U,U,U,U,U,U,J,J,J,J] rfl rfl (any_of HT_.out (by kernel_rfl)) (fun _ _ _ h=>h) (Or.inl ⟨by rfl,?_⟩) ?_ ?_
             rotate_left
             ·intro w'
              go_simp
              with_reducible rfl
             rotate_left
             ·simp only [Act.put,List.setIfInBounds_toArray,List.set_cons_zero,List.set_cons_succ,i64_w,i32_w]
              rfl
             refine one_ (i:=10) (N:=some 38) #[U,U,U,U,U,U,U,U,U,U,U,J,J,J] rfl rfl (one_of HT_.out (by kernel_rfl)) (by decide) (fun K hK=>?_)
             refine goes_ Tryd.func66 (by kernel_rfl) rfl #[.int .i64 t104,.int .i64 2] (by rfl) rfl rfl (by (try simp only [List.map_toArray,List.map_cons,List.map_nil]);first|done|rfl|(simp only [List.length_drop,List.length_take];rfl)) ?_
             with_reducible refine (contangoref10_digits.calls kj2 t104 2 t108 _ A16.out).mono ?_
             rintro e w42 ⟨rfl,hb⟩
             refine ⟨_,rfl,?_⟩
             have n0_:=Aside0.mk (blk_below (g:=gb101) (o:=.cells #[.string a0_0,.int .i64 a0_1,.int .i64 a0_2,.int .i64 a0_3] 23 (0,0)) (by (with_reducible repeat (first|refine blk_drewN ?_ _|refine blk_drew ?_|refine blk_alloc ?_ _));exact BK101.out) hb)
             have n1_:=Aside0.mk (below_step (by repeat (first|(with_reducible first|exact HB.out|apply below_alloc|apply pw_below_drewN|apply below_drew1|refine below_set ?_ GE101.out)|exact HB.out)) hb)
             clear BK101
             clear HB
             have BK101:=n0_
             have HB:=n1_
             clear n0_ n1_
             (try clear hb)
             (try clear hb2)
             (try clear hk)
             (try clear hi)
             refine hK.out _ _ ⟨(blk_cell BK101.out 0).trans rfl,(blk_cell BK101.out 1).trans rfl,(blk_cell BK101.out 2).trans rfl,(blk_cell BK101.out 3).trans rfl⟩ (fun hHeld=>?_)
             clear hK K
             refine norm_ (a':=?_) ?_ ?_
             rotate_left
             ·show Act.put _ (some 38) _=_
              simp only [Act.put,List.setIfInBounds_toArray,List.set_cons_zero,List.set_cons_succ,i64_w,i32_w]
              rfl
             refine pure_ (i:=11) (N:=some 39) (v:=?_) (a':=?_) #[U,U,U,U,U,U,U,U,U,U,U,U,J,J] rfl rfl (any_of HT_.out (by kernel_rfl)) (fun _ _ _ h=>h) (Or.inl ⟨by rfl,?_⟩) ?_ ?_
             rotate_left
             ·intro w'
              go_simp
              with_reducible rfl
             rotate_left
             ·simp only [Act.put,List.setIfInBounds_toArray,List.set_cons_zero,List.set_cons_succ,i64_w,i32_w]
              rfl
             refine pure_ (i:=12) (N:=some 40) (v:=?_) (a':=?_) #[U,U,U,U,U,U,U,U,U,U,U,U,U,J] rfl rfl (any_of HT_.out (by kernel_rfl)) (fun _ _ _ h=>h) (Or.inl ⟨by rfl,?_⟩) ?_ ?_
             rotate_left
             ·intro w'
              go_simp
              with_reducible rfl
             rotate_left
             ·simp only [Act.put,List.setIfInBounds_toArray,List.set_cons_zero,List.set_cons_succ,i64_w,i32_w]
              rfl
             refine pure_ (i:=13) (N:=some 7) (v:=?_) (a':=?_) #[U,U,U,U,U,U,U,U,U,U,U,U,U,U] rfl rfl (any_of HT_.out (by kernel_rfl)) (fun _ _ _ h=>h) (Or.inl ⟨by rfl,?_⟩) ?_ ?_
             rotate_left
             ·intro w'
              go_simp
              with_reducible rfl
             rotate_left
             ·simp only [Act.put,List.setIfInBounds_toArray,List.set_cons_zero,List.set_cons_succ,i64_w,i32_w]
              rfl
             refine done_ (done_of HT_.out (by kernel_rfl)) ?_
             have hcz43_0:w42.cell? ⟨gb101,0,none⟩=some (.string a0_0):=(blk_cell BK101.out 0).trans rfl
             have hcz43_1:w42.cell? ⟨gb101,1,none⟩=some (.int .i64 a0_1):=(blk_cell BK101.out 1).trans rfl
             have hcz43_2:w42.cell? ⟨gb101,2,none⟩=some (.int .i64 a0_2):=(blk_cell BK101.out 2).trans rfl
             have hcz43_3:w42.cell? ⟨gb101,3,none⟩=some (.int .i64 a0_3):=(blk_cell BK101.out 3).trans rfl
             have hfz43_0:=blk_frozen BK101.out 0
             have hfz43_1:=blk_frozen BK101.out 1
             have hfz43_2:=blk_frozen BK101.out 2
             have hfz43_3:=blk_frozen BK101.out 3
             try go_wp2_with (first|((with_reducible refine gate_callee (f:=38) rfl ?_);refine goesL_ (some 59) rfl rfl Tryd.func38 (by kernel_rfl) rfl #[.int .i64 a0_3] rfl (by (try simp only [List.map_toArray,List.map_cons,List.map_nil]);first|done|rfl|(simp only [List.length_drop,List.length_take];rfl)) ?_;(with_reducible refine (contangoref03_Text.calls kj2 a0_3 t110 _ A37.out).mono ?_);rintro e w44 ⟨rfl,hb⟩;refine ⟨_,rfl,?_⟩;have n0_:=Aside0.mk (blk_below (g:=gb101) (o:=.cells #[.string a0_0,.int .i64 a0_1,.int .i64 a0_2,.int .i64 a0_3] 23 (0,0)) (by (with_reducible repeat (first|refine blk_drewN ?_ _|refine blk_drew ?_|refine blk_alloc ?_ _));exact BK101.out) hb);have n1_:=Aside0.mk (below_step (by repeat (first|(with_reducible first|exact HB.out|apply below_alloc|apply pw_below_drewN|apply below_drew1|refine below_set ?_ GE101.out)|exact HB.out)) hb);clear BK101;clear HB;have BK101:=n0_;have HB:=n1_;clear n0_ n1_;(try clear hb);(try clear hb2);(try clear hk);(try clear hi)))
             go_ret
             exact ⟨by first|rfl|(simp [errW_none,errW_some]<;>rfl)|(simp [*,errW_none,errW_some]<;>rfl),by repeat (first|(with_reducible first|exact HB.out|apply below_alloc|apply pw_below_drewN|apply below_drew1|refine below_set ?_ GE101.out)|exact HB.out)⟩
            ·rw [if_neg c38] at H
             exact absurd H (by simp)
           ·rw [if_neg c36] at H
            exact absurd H (by simp)
        ·rw [if_neg c18] at H
         exact absurd H (by simp)
       ·rw [if_neg c17] at H
        exact absurd H (by simp)
      ·rw [if_neg c15] at H
       exact absurd H (by simp)
     ·rw [if_neg c13] at H
      exact absurd H (by simp)
    ·rw [if_neg c11] at H
     exact absurd H (by simp)
end Go.Proofs.YthpmmofleddpnaaDoor.X
end
