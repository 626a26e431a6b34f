/- For TradeTexts: contracts, and facts on lists and numbers, that it uses (part 6). -/
import Derived.ChangeArms
import Derived.Deep.Slices
import Derived.Laws.BitsLemmas
import Derived.Laws.Strings
import Derived.Lib.Bytealg
import Derived.Lib.IndexBytes
import Derived.Lib.Replace
import Derived.Lib.SplitLaws
import Derived.OpenShut
import Derived.SizedLaws
import Derived.Test.YthpmmofleddpnaaDoorTradeTextsUptoc5
import Derived.WideShapes
section
namespace Go.Proofs.YthpmmofleddpnaaDoor.X
open Go.RowKit Go.Proofs.YthpmmofleddpnaaDoorW.PrintWords Go.Proofs.YthpmmofleddpnaaDoorW.PrintLast Go.Proofs.YthpmmofleddpnaaDoorW.PrintMore
attribute [local go_sem] max2_int min2_int max_two min_two max_three min_three max_four min_four
set_option linter.unusedVariables false
set_option linter.unusedSimpArgs false
def contangoref12_Print.f (k:Nat) (a0_0:Int) (a0_1:Int) (a0_2:Int) (a0_3:ByteArray) (a0_4:Int) (a0_5:Int) (a0_6:Int) (a0_7:Int) (a0_8:Int) (a0_9:ByteArray) (a0_10:ByteArray) (a0_11:ByteArray) (a0_12:ByteArray):Option (ByteArray):=(contangoref03_Text.f k a0_0).bind fun t102=>((contangoref03_Text.f k a0_1).bind fun t103=>((contangoref03_Text.f k a0_2).bind fun t104=>((contangoref10_Print.f k a0_3 a0_4 a0_5 a0_6).bind fun t105=>((contangoref03_Text.f k a0_7).bind fun t106=>((contangoref03_Text.f k a0_8).bind fun t107=>((contangoref03_Join.f k (([t102,t103,t104,t105,t106,t107,a0_9,a0_10,a0_11,a0_12]:List ByteArray))).bind fun t111=>(some t111)))))))
def contangoref12_Print.T1:Bool × List (List Nat × List Nat):=(true,[([],[]),([0],[0]),([1],[1]),([],[]),([3],[3]),([4,2],[4]),([],[]),([6],[6]),([7,5],[7]),([],[]),([9],[9]),([10,8],[10]),([],[]),([12],[12]),([13,11],[13]),([],[]),([15],[15]),([16,14],[16]),([],[]),([18],[18]),([19],[19]),([],[]),([21],[21]),([22],[22]),([],[]),([24],[24]),([25],[25]),([],[]),([27],[27]),([28],[28]),([2,5,8,11,14,17,20,23,26,29],[2,5,8,11,14,17,20,23,26,29]),([30,17],[30]),([31,31,0,1,2,3,4,5,6,7,8,9,10,11,12,13,14,15,16,17,18,19,20,21,22,23,24,25,26,27,28,29,30,31],[31])])
def contangoref12_Print.B1:List Nat:=[0,1,3,0,8,31,0,64,255,0,512,2047,0,4096,16383,0,32768,131071,0,262144,786432,0,2097152,6291456,0,16777216,50331648,0,134217728,402653184,1073741823,2147483647,4294967295]
theorem contangoref12_Print.tab1:rtab .any (opsOf Tryd.f10 1)=contangoref12_Print.T1:=by kernel_rfl
theorem contangoref12_Print.bits1:waitsOk contangoref12_Print.T1.2 contangoref12_Print.B1=true:=by kernel_rfl
set_option maxHeartbeats 8000000 in
set_option maxRecDepth 100000 in
theorem contangoref12_Print.calls (k:Nat) (a0_0:Int) (a0_1:Int) (a0_2:Int) (a0_3:ByteArray) (a0_4:Int) (a0_5:Int) (a0_6:Int) (a0_7:Int) (a0_8:Int) (a0_9:ByteArray) (a0_10:ByteArray) (a0_11:ByteArray) (a0_12:ByteArray) (r:ByteArray) (w:World) (h:contangoref12_Print.f k a0_0 a0_1 a0_2 a0_3 a0_4 a0_5 a0_6 a0_7 a0_8 a0_9 a0_10 a0_11 a0_12=some r) :
  Calls Tryd.prog 10 #[.agg #[.int .i64 a0_0,.int .i64 a0_1,.int .i64 a0_2,.string a0_3,.int .i64 a0_4,.int .i64 a0_5,.int .i64 a0_6,.int .i64 a0_7,.int .i64 a0_8,.string a0_9,.string a0_10,.string a0_11,.string a0_12]] w fun e w'=>e=.returned (.string r)∧Below w.heap.size w w':=by
 have hu27:=Tryd.underlying27
 have hu23:=Tryd.underlying23
 have HB:=Aside0.mk (Below.refl w.heap.size w)
 have H:((contangoref03_Text.f k a0_0).bind fun t102=>((contangoref03_Text.f k a0_1).bind fun t103=>((contangoref03_Text.f k a0_2).bind fun t104=>((contangoref10_Print.f k a0_3 a0_4 a0_5 a0_6).bind fun t105=>((contangoref03_Text.f k a0_7).bind fun t106=>((contangoref03_Text.f k a0_8).bind fun t107=>((contangoref03_Join.f k (([t102,t103,t104,t105,t106,t107,a0_9,a0_10,a0_11,a0_12]:List ByteArray))).bind fun t111=>(some t111))))))))=some r:=h
 clear h
 replace H:=Option.bind_eq_some_iff.mp H
 obtain ⟨t102,A20,H⟩:=H
 replace H:((contangoref03_Text.f k a0_1).bind fun t103=>((contangoref03_Text.f k a0_2).bind fun t104=>((contangoref10_Print.f k a0_3 a0_4 a0_5 a0_6).bind fun t105=>((contangoref03_Text.f k a0_7).bind fun t106=>((contangoref03_Text.f k a0_8).bind fun t107=>((contangoref03_Join.f k (([t102,t103,t104,t105,t106,t107,a0_9,a0_10,a0_11,a0_12]:List ByteArray))).bind fun t111=>(some t111)))))))=some r:=H
 have A2:=Aside0.mk A20
 clear A20
 replace H:=Option.bind_eq_some_iff.mp H
 obtain ⟨t103,A30,H⟩:=H
 replace H:((contangoref03_Text.f k a0_2).bind fun t104=>((contangoref10_Print.f k a0_3 a0_4 a0_5 a0_6).bind fun t105=>((contangoref03_Text.f k a0_7).bind fun t106=>((contangoref03_Text.f k a0_8).bind fun t107=>((contangoref03_Join.f k (([t102,t103,t104,t105,t106,t107,a0_9,a0_10,a0_11,a0_12]:List ByteArray))).bind fun t111=>(some t111))))))=some r:=H
 have A3:=Aside0.mk A30
 clear A30
 replace H:=Option.bind_eq_some_iff.mp H
 obtain ⟨t104,A40,H⟩:=H
 replace H:((contangoref10_Print.f k a0_3 a0_4 a0_5 a0_6).bind fun t105=>((contangoref03_Text.f k a0_7).bind fun t106=>((contangoref03_Text.f k a0_8).bind fun t107=>((contangoref03_Join.f k (([t102,t103,t104,t105,t106,t107,a0_9,a0_10,a0_11,a0_12]:List ByteArray))).bind fun t111=>(some t111)))))=some r:=H
 have A4:=Aside0.mk A40
 clear A40
 replace H:=Option.bind_eq_some_iff.mp H
 obtain ⟨t105,A50,H⟩:=H
 replace H:((contangoref03_Text.f k a0_7).bind fun t106=>((contangoref03_Text.f k a0_8).bind fun t107=>((contangoref03_Join.f k (([t102,t103,t104,t105,t106,t107,a0_9,a0_10,a0_11,a0_12]:List ByteArray))).bind fun t111=>(some t111))))=some r:=H
 have A5:=Aside0.mk A50
 clear A50
 replace H:=Option.bind_eq_some_iff.mp H
 obtain ⟨t106,A60,H⟩:=H
 replace H:((contangoref03_Text.f k a0_8).bind fun t107=>((contangoref03_Join.f k (([t102,t103,t104,t105,t106,t107,a0_9,a0_10,a0_11,a0_12]:List ByteArray))).bind fun t111=>(some t111)))=some r:=H
 have A6:=Aside0.mk A60
 clear A60
 replace H:=Option.bind_eq_some_iff.mp H
 obtain ⟨t107,A70,H⟩:=H
 replace H:((contangoref03_Join.f k (([t102,t103,t104,t105,t106,t107,a0_9,a0_10,a0_11,a0_12]:List ByteArray))).bind fun t111=>(some t111))=some r:=H
 have A7:=Aside0.mk A70
 clear A70
 obtain ⟨y108,hy108⟩:∃ y_:List ByteArray,y_=(([t102,t103,t104,t105,t106,t107,a0_9,a0_10,a0_11,a0_12]:List ByteArray)):=⟨_,rfl⟩
 replace H:((contangoref03_Join.f k y108).bind fun t111=>(some t111))=some r:=by first|(rw [hy108];with_reducible exact H)|(have H2_:=(Option.bind_some _ _).symm.trans H;rw [hy108];with_reducible exact H2_)|(have H2_:=(Option.bind_some _ _).symm.trans H;with_reducible exact H2_)|with_reducible exact H|(rw [hy108];exact H)|exact H
 have Ny108:=Aside0.mk hy108
 clear hy108
 replace H:=Option.bind_eq_some_iff.mp H
 obtain ⟨t111,A80,H⟩:=H
 replace H:(some t111)=some r:=H
 have A8:=Aside0.mk A80
 clear A80
 obtain rfl:=Option.some.inj H
 go_enter Tryd.func10,Tryd.ntmps10
 try go_wp2_with (first|((with_reducible refine gate_dst (N:=1) rfl ?_);refine box_event ?hg (N:=1) ?hd (cs:=#[.int .i64 a0_0,.int .i64 a0_1,.int .i64 a0_2,.string a0_3,.int .i64 a0_4,.int .i64 a0_5,.int .i64 a0_6,.int .i64 a0_7,.int .i64 a0_8,.string a0_9,.string a0_10,.string a0_11,.string a0_12]) (t:=27) ?hr ?_;(case hd=>rfl);(case hg=>rfl);(case hr=>first|(go_simp;done)|(go_simp;rfl));intro gb101 hg w9 hbox hb;have n0_:=Aside0.mk (below_step (by repeat (first|(with_reducible first|exact HB.out|apply below_alloc|apply pw_below_drewN|apply below_drew1)|exact HB.out)) hb);have n1_:=Aside0.mk (hbox);have n2_:=Aside0.mk ((by rw [hg];exact (below_size (by repeat (first|(with_reducible first|exact HB.out|apply below_alloc|apply pw_below_drewN|apply below_drew1)|exact HB.out))):w.heap.size≤gb101));have n3_:=Aside0.mk ((by rw [hg];exact (below_size (by repeat (first|(with_reducible first|exact HB.out|apply below_alloc|apply pw_below_drewN|apply below_drew1)|exact HB.out))):w.heap.size≤gb101));clear HB;have HB:=n0_;have BK101:=n1_;have GW101:=n2_;have GE101:=n3_;clear n0_ n1_ n2_ n3_;clear hb hbox hg))
 have n0_:=Aside0.mk (blk_drew BK101.out)
 have n1_:=Aside0.mk (below_drew1 HB.out)
 clear BK101
 clear HB
 have BK101:=n0_
 have HB:=n1_
 clear n0_ n1_
 refine start_ (n:=33) (S:=fun w'=>w'.cell? ⟨gb101,0,none⟩=some (.int .i64 a0_0)∧w'.cell? ⟨gb101,1,none⟩=some (.int .i64 a0_1)∧w'.cell? ⟨gb101,2,none⟩=some (.int .i64 a0_2)∧w'.cell? ⟨gb101,3,none⟩=some (.string a0_3)∧w'.cell? ⟨gb101,4,none⟩=some (.int .i64 a0_4)∧w'.cell? ⟨gb101,5,none⟩=some (.int .i64 a0_5)∧w'.cell? ⟨gb101,6,none⟩=some (.int .i64 a0_6)∧w'.cell? ⟨gb101,7,none⟩=some (.int .i64 a0_7)∧w'.cell? ⟨gb101,8,none⟩=some (.int .i64 a0_8)∧w'.cell? ⟨gb101,9,none⟩=some (.string a0_9)∧w'.cell? ⟨gb101,10,none⟩=some (.string a0_10)∧w'.cell? ⟨gb101,11,none⟩=some (.string a0_11)∧w'.cell? ⟨gb101,12,none⟩=some (.string a0_12)) (ds:=[]) #[J,J,J,J,J,J,J,J,J,J,J,J,J,J,J,J,J,J,J,J,J,J,J,J,J,J,J,J,J,J,J,J,J] (by kernel_rfl) rfl rfl ⟨(blk_cell BK101.out 0).trans rfl,(blk_cell BK101.out 1).trans rfl,(blk_cell BK101.out 2).trans rfl,(blk_cell BK101.out 3).trans rfl,(blk_cell BK101.out 4).trans rfl,(blk_cell BK101.out 5).trans rfl,(blk_cell BK101.out 6).trans rfl,(blk_cell BK101.out 7).trans rfl,(blk_cell BK101.out 8).trans rfl,(blk_cell BK101.out 9).trans rfl,(blk_cell BK101.out 10).trans rfl,(blk_cell BK101.out 11).trans rfl,(blk_cell BK101.out 12).trans rfl⟩ (fun hHeld=>?_);refine with_tabW contangoref12_Print.tab1 contangoref12_Print.bits1 (fun HT_ HW_=>?_)
 generalize w9.drew=w10 at BK101 HB hHeld ⊢
 refine pure_ (i:=0) (N:=some 3) (v:=?_) (a':=?_) #[U,J,J,J,J,J,J,J,J,J,J,J,J,J,J,J,J,J,J,J,J,J,J,J,J,J,J,J,J,J,J,J,J] rfl rfl (any_of HT_.out (by kernel_rfl)) (fun _ _ _ h=>h) (Or.inl ⟨by rfl,?_⟩) ?_ ?_
 rotate_left
 ·intro w'
  go_simp
  with_reducible rfl
 rotate_left
 ·simp only [Act.put,List.setIfInBounds_toArray,List.set_cons_zero,List.set_cons_succ,i64_w,i32_w]
  rfl
 refine pure_ (i:=3) (N:=some 6) (v:=?_) (a':=?_) #[U,J,J,U,J,J,J,J,J,J,J,J,J,J,J,J,J,J,J,J,J,J,J,J,J,J,J,J,J,J,J,J,J] rfl rfl (any_of HT_.out (by kernel_rfl)) (fun _ _ _ h=>h) (Or.inl ⟨by rfl,?_⟩) ?_ ?_
 rotate_left
 ·intro w'
  go_simp
  with_reducible rfl
 rotate_left
 ·simp only [Act.put,List.setIfInBounds_toArray,List.set_cons_zero,List.set_cons_succ,i64_w,i32_w]
  rfl
 refine pure_ (i:=6) (N:=some 9) (v:=?_) (a':=?_) #[U,J,J,U,J,J,U,J,J,J,J,J,J,J,J,J,J,J,J,J,J,J,J,J,J,J,J,J,J,J,J,J,J] rfl rfl (any_of HT_.out (by kernel_rfl)) (fun _ _ _ h=>h) (Or.inl ⟨by rfl,?_⟩) ?_ ?_
 rotate_left
 ·intro w'
  go_simp
  with_reducible rfl
 rotate_left
 ·simp only [Act.put,List.setIfInBounds_toArray,List.set_cons_zero,List.set_cons_succ,i64_w,i32_w]
  rfl
 refine pure_ (i:=9) (N:=some 12) (v:=?_) (a':=?_) #[U,J,J,U,J,J,U,J,J,U,J,J,J,J,J,J,J,J,J,J,J,J,J,J,J,J,J,J,J,J,J,J,J] rfl rfl (any_of HT_.out (by kernel_rfl)) (fun _ _ _ h=>h) (Or.inl ⟨by rfl,?_⟩) ?_ ?_
 rotate_left
 ·intro w'
  go_simp
  with_reducible rfl
 rotate_left
 ·simp only [Act.put,List.setIfInBounds_toArray,List.set_cons_zero,List.set_cons_succ,i64_w,i32_w]
  rfl
 refine pure_ (i:=12) (N:=some 15) (v:=?_) (a':=?_) #[U,J,J,U,J,J,U,J,J,U,J,J,U,J,J,J,J,J,J,J,J,J,J,J,J,J,J,J,J,J,J,J,J] rfl rfl (any_of HT_.out (by kernel_rfl)) (fun _ _ _ h=>h) (Or.inl ⟨by rfl,?_⟩) ?_ ?_
 rotate_left
 ·intro w'
  go_simp
  with_reducible rfl
 rotate_left
 ·simp only [Act.put,List.setIfInBounds_toArray,List.set_cons_zero,List.set_cons_succ,i64_w,i32_w]
  rfl
 refine pure_ (i:=15) (N:=some 18) (v:=?_) (a':=?_) #[U,J,J,U,J,J,U,J,J,U,J,J,U,J,J,U,J,J,J,J,J,J,J,J,J,J,J,J,J,J,J,J,J] rfl rfl (any_of HT_.out (by kernel_rfl)) (fun _ _ _ h=>h) (Or.inl ⟨by rfl,?_⟩) ?_ ?_
 rotate_left
 ·intro w'
  go_simp
  with_reducible rfl
 rotate_left
 ·simp only [Act.put,List.setIfInBounds_toArray,List.set_cons_zero,List.set_cons_succ,i64_w,i32_w]
  rfl
 refine pure_ (i:=18) (N:=some 21) (v:=?_) (a':=?_) #[U,J,J,U,J,J,U,J,J,U,J,J,U,J,J,U,J,J,U,J,J,J,J,J,J,J,J,J,J,J,J,J,J] rfl rfl (any_of HT_.out (by kernel_rfl)) (fun _ _ _ h=>h) (Or.inl ⟨by rfl,?_⟩) ?_ ?_
 rotate_left
 ·intro w'
  go_simp
  with_reducible rfl
 rotate_left
 ·simp only [Act.put,List.setIfInBounds_toArray,List.set_cons_zero,List.set_cons_succ,i64_w,i32_w]
  rfl
 refine pure_ (i:=19) (N:=some 22) (v:=?_) (a':=?_) #[U,J,J,U,J,J,U,J,J,U,J,J,U,J,J,U,J,J,U,U,J,J,J,J,J,J,J,J,J,J,J,J,J] rfl rfl (any_of HT_.out (by kernel_rfl)) (fun _ _ _ h=>h) (Or.inl ⟨by rfl,?_⟩) ?_ ?_
 rotate_left
 ·intro w'
  go_simp
  with_reducible rfl
 rotate_left
 ·simp only [Act.put,List.setIfInBounds_toArray,List.set_cons_zero,List.set_cons_succ,i64_w,i32_w]
  rfl
 refine pure_ (i:=21) (N:=some 24) (v:=?_) (a':=?_) #[U,J,J,U,J,J,U,J,J,U,J,J,U,J,J,U,J,J,U,U,J,U,J,J,J,J,J,J,J,J,J,J,J] rfl rfl (any_of HT_.out (by kernel_rfl)) (fun _ _ _ h=>h) (Or.inl ⟨by rfl,?_⟩) ?_ ?_
 rotate_left
 ·intro w'
  go_simp
  with_reducible rfl
 rotate_left
 ·simp only [Act.put,List.setIfInBounds_toArray,List.set_cons_zero,List.set_cons_succ,i64_w,i32_w]
  rfl
 refine pure_ (i:=22) (N:=some 25) (v:=?_) (a':=?_) #[U,J,J,U,J,J,U,J,J,U,J,J,U,J,J,U,J,J,U,U,J,U,U,J,J,J,J,J,J,J,J,J,J] rfl rfl (any_of HT_.out (by kernel_rfl)) (fun _ _ _ h=>h) (Or.inl ⟨by rfl,?_⟩) ?_ ?_
 rotate_left
 ·intro w'
  go_simp
  with_reducible rfl
 rotate_left
 ·simp only [Act.put,List.setIfInBounds_toArray,List.set_cons_zero,List.set_cons_succ,i64_w,i32_w]
  rfl
 refine pure_ (i:=24) (N:=some 27) (v:=?_) (a':=?_) #[U,J,J,U,J,J,U,J,J,U,J,J,U,J,J,U,J,J,U,U,J,U,U,J,U,J,J,J,J,J,J,J,J] rfl rfl (any_of HT_.out (by kernel_rfl)) (fun _ _ _ h=>h) (Or.inl ⟨by rfl,?_⟩) ?_ ?_
 rotate_left
 ·intro w'
  go_simp
  with_reducible rfl
 rotate_left
 ·simp only [Act.put,List.setIfInBounds_toArray,List.set_cons_zero,List.set_cons_succ,i64_w,i32_w]
  rfl
 refine pure_ (i:=25) (N:=some 28) (v:=?_) (a':=?_) #[U,J,J,U,J,J,U,J,J,U,J,J,U,J,J,U,J,J,U,U,J,U,U,J,U,U,J,J,J,J,J,J,J] rfl rfl (any_of HT_.out (by kernel_rfl)) (fun _ _ _ h=>h) (Or.inl ⟨by rfl,?_⟩) ?_ ?_
 rotate_left
 ·intro w'
  go_simp
  with_reducible rfl
 rotate_left
 ·simp only [Act.put,List.setIfInBounds_toArray,List.set_cons_zero,List.set_cons_succ,i64_w,i32_w]
  rfl
 refine pure_ (i:=27) (N:=some 30) (v:=?_) (a':=?_) #[U,J,J,U,J,J,U,J,J,U,J,J,U,J,J,U,J,J,U,U,J,U,U,J,U,U,J,U,J,J,J,J,J] rfl rfl (any_of HT_.out (by kernel_rfl)) (fun _ _ _ h=>h) (Or.inl ⟨by rfl,?_⟩) ?_ ?_
 rotate_left
 ·intro w'
  go_simp
  with_reducible rfl
 rotate_left
 ·simp only [Act.put,List.setIfInBounds_toArray,List.set_cons_zero,List.set_cons_succ,i64_w,i32_w]
  rfl
 refine pure_ (i:=28) (N:=some 31) (v:=?_) (a':=?_) #[U,J,J,U,J,J,U,J,J,U,J,J,U,J,J,U,J,J,U,U,J,U,U,J,U,U,J,U,U,J,J,J,J] rfl rfl (any_of HT_.out (by kernel_rfl)) (fun _ _ _ h=>h) (Or.inl ⟨by rfl,?_⟩) ?_ ?_
 rotate_left
 ·intro w'
  go_simp
  with_reducible rfl
 rotate_left
 ·simp only [Act.put,List.setIfInBounds_toArray,List.set_cons_zero,List.set_cons_succ,i64_w,i32_w]
  rfl
 refine take_ (i:=1) (N:=some 4) (v:=?_) (a':=?_) #[U,U,J,U,J,J,U,J,J,U,J,J,U,J,J,U,J,J,U,U,J,U,U,J,U,U,J,U,U,J,J,J,J] rfl rfl (take_ofW HT_.out HW_.out (by kernel_rfl)) (fun _ _ _ h=>h) (Or.inl ⟨by rfl,?_⟩) hHeld ?_ ?_
 rotate_left
 ·rintro w' ⟨s0,s1,s2,s3,s4,s5,s6,s7,s8,s9,s10,s11,s12⟩
  go_simp
  with_reducible rfl
 rotate_left
 ·simp only [Act.put,List.setIfInBounds_toArray,List.set_cons_zero,List.set_cons_succ,i64_w,i32_w]
  rfl
 refine take_ (i:=4) (N:=some 7) (v:=?_) (a':=?_) #[U,U,J,U,U,J,U,J,J,U,J,J,U,J,J,U,J,J,U,U,J,U,U,J,U,U,J,U,U,J,J,J,J] rfl rfl (take_ofW HT_.out HW_.out (by kernel_rfl)) (fun _ _ _ h=>h) (Or.inl ⟨by rfl,?_⟩) hHeld ?_ ?_
 rotate_left
 ·rintro w' ⟨s0,s1,s2,s3,s4,s5,s6,s7,s8,s9,s10,s11,s12⟩
  go_simp
  with_reducible rfl
 rotate_left
 ·simp only [Act.put,List.setIfInBounds_toArray,List.set_cons_zero,List.set_cons_succ,i64_w,i32_w]
  rfl
 refine take_ (i:=7) (N:=some 10) (v:=?_) (a':=?_) #[U,U,J,U,U,J,U,U,J,U,J,J,U,J,J,U,J,J,U,U,J,U,U,J,U,U,J,U,U,J,J,J,J] rfl rfl (take_ofW HT_.out HW_.out (by kernel_rfl)) (fun _ _ _ h=>h) (Or.inl ⟨by rfl,?_⟩) hHeld ?_ ?_
 rotate_left
 ·rintro w' ⟨s0,s1,s2,s3,s4,s5,s6,s7,s8,s9,s10,s11,s12⟩
  go_simp
  with_reducible rfl
 rotate_left
 ·simp only [Act.put,List.setIfInBounds_toArray,List.set_cons_zero,List.set_cons_succ,i64_w,i32_w]
  rfl
 refine take_ (i:=10) (N:=some 13) (v:=?_) (a':=?_) #[U,U,J,U,U,J,U,U,J,U,U,J,U,J,J,U,J,J,U,U,J,U,U,J,U,U,J,U,U,J,J,J,J] rfl rfl (take_ofW HT_.out HW_.out (by kernel_rfl)) (fun _ _ _ h=>h) (Or.inl ⟨by rfl,?_⟩) hHeld ?_ ?_
 rotate_left
 ·rintro w' ⟨s0,s1,s2,s3,s4,s5,s6,s7,s8,s9,s10,s11,s12⟩
  go_simp
  with_reducible rfl
 rotate_left
 ·simp only [Act.put,List.setIfInBounds_toArray,List.set_cons_zero,List.set_cons_succ,i64_w,i32_w]
  rfl
 refine take_ (i:=13) (N:=some 16) (v:=?_) (a':=?_) #[U,U,J,U,U,J,U,U,J,U,U,J,U,U,J,U,J,J,U,U,J,U,U,J,U,U,J,U,U,J,J,J,J] rfl rfl (take_ofW HT_.out HW_.out (by kernel_rfl)) (fun _ _ _ h=>h) (Or.inl ⟨by rfl,?_⟩) hHeld ?_ ?_
 rotate_left
 ·rintro w' ⟨s0,s1,s2,s3,s4,s5,s6,s7,s8,s9,s10,s11,s12⟩
  go_simp
  with_reducible rfl
 rotate_left
 ·simp only [Act.put,List.setIfInBounds_toArray,List.set_cons_zero,List.set_cons_succ,i64_w,i32_w]
  rfl
 refine take_ (i:=16) (N:=some 19) (v:=?_) (a':=?_) #[U,U,J,U,U,J,U,U,J,U,U,J,U,U,J,U,U,J,U,U,J,U,U,J,U,U,J,U,U,J,J,J,J] rfl rfl (take_ofW HT_.out HW_.out (by kernel_rfl)) (fun _ _ _ h=>h) (Or.inl ⟨by rfl,?_⟩) hHeld ?_ ?_
 rotate_left
 ·rintro w' ⟨s0,s1,s2,s3,s4,s5,s6,s7,s8,s9,s10,s11,s12⟩
  go_simp
  with_reducible rfl
 rotate_left
 ·simp only [Act.put,List.setIfInBounds_toArray,List.set_cons_zero,List.set_cons_succ,i64_w,i32_w]
  rfl
 refine take_ (i:=20) (N:=some 23) (v:=?_) (a':=?_) #[U,U,J,U,U,J,U,U,J,U,U,J,U,U,J,U,U,J,U,U,U,U,U,J,U,U,J,U,U,J,J,J,J] rfl rfl (take_ofW HT_.out HW_.out (by kernel_rfl)) (fun _ _ _ h=>h) (Or.inl ⟨by rfl,?_⟩) hHeld ?_ ?_
 rotate_left
 ·rintro w' ⟨s0,s1,s2,s3,s4,s5,s6,s7,s8,s9,s10,s11,s12⟩
  go_simp
  with_reducible rfl
 rotate_left
 ·simp only [Act.put,List.setIfInBounds_toArray,List.set_cons_zero,List.set_cons_succ,i64_w,i32_w]
  rfl
 refine take_ (i:=23) (N:=some 26) (v:=?_) (a':=?_) #[U,U,J,U,U,J,U,U,J,U,U,J,U,U,J,U,U,J,U,U,U,U,U,U,U,U,J,U,U,J,J,J,J] rfl rfl (take_ofW HT_.out HW_.out (by kernel_rfl)) (fun _ _ _ h=>h) (Or.inl ⟨by rfl,?_⟩) hHeld ?_ ?_
 rotate_left
 ·rintro w' ⟨s0,s1,s2,s3,s4,s5,s6,s7,s8,s9,s10,s11,s12⟩
  go_simp
  with_reducible rfl
 rotate_left
 ·simp only [Act.put,List.setIfInBounds_toArray,List.set_cons_zero,List.set_cons_succ,i64_w,i32_w]
  rfl
 refine take_ (i:=26) (N:=some 29) (v:=?_) (a':=?_) #[U,U,J,U,U,J,U,U,J,U,U,J,U,U,J,U,U,J,U,U,U,U,U,U,U,U,U,U,U,J,J,J,J] rfl rfl (take_ofW HT_.out HW_.out (by kernel_rfl)) (fun _ _ _ h=>h) (Or.inl ⟨by rfl,?_⟩) hHeld ?_ ?_
 rotate_left
 ·rintro w' ⟨s0,s1,s2,s3,s4,s5,s6,s7,s8,s9,s10,s11,s12⟩
  go_simp
  with_reducible rfl
 rotate_left
 ·simp only [Act.put,List.setIfInBounds_toArray,List.set_cons_zero,List.set_cons_succ,i64_w,i32_w]
  rfl
 refine take_ (i:=29) (N:=some 32) (v:=?_) (a':=?_) #[U,U,J,U,U,J,U,U,J,U,U,J,U,U,J,U,U,J,U,U,U,U,U,U,U,U,U,U,U,U,J,J,J] rfl rfl (take_ofW HT_.out HW_.out (by kernel_rfl)) (fun _ _ _ h=>h) (Or.inl ⟨by rfl,?_⟩) hHeld ?_ ?_
 rotate_left
 ·rintro w' ⟨s0,s1,s2,s3,s4,s5,s6,s7,s8,s9,s10,s11,s12⟩
  go_simp
  with_reducible rfl
 rotate_left
 ·simp only [Act.put,List.setIfInBounds_toArray,List.set_cons_zero,List.set_cons_succ,i64_w,i32_w]
  rfl
 refine one_ (i:=2) (N:=some 5) #[U,U,U,U,U,J,U,U,J,U,U,J,U,U,J,U,U,J,U,U,U,U,U,U,U,U,U,U,U,U,J,J,J] rfl rfl (one_of HT_.out (by kernel_rfl)) (by decide) (fun K hK=>?_)
 refine goes_ Tryd.func38 (by kernel_rfl) rfl #[.int .i64 a0_0] (by rfl) rfl rfl (by (try simp only [List.map_toArray,List.map_cons,List.map_nil]);first|done|rfl|(simp only [List.length_drop,List.length_take];rfl)) ?_
 with_reducible refine (contangoref03_Text.calls k a0_0 t102 _ A2.out).mono ?_
 rintro e w11 ⟨rfl,hb⟩
 refine ⟨_,rfl,?_⟩
 have n0_:=Aside0.mk (blk_below (g:=gb101) (o:=.cells #[.int .i64 a0_0,.int .i64 a0_1,.int .i64 a0_2,.string a0_3,.int .i64 a0_4,.int .i64 a0_5,.int .i64 a0_6,.int .i64 a0_7,.int .i64 a0_8,.string a0_9,.string a0_10,.string a0_11,.string a0_12] 27 (0,0)) (by (with_reducible repeat (first|refine blk_drewN ?_ _|refine blk_drew ?_|refine blk_alloc ?_ _));exact BK101.out) hb)
 have n1_:=Aside0.mk (below_step (by repeat (first|(with_reducible first|exact HB.out|apply below_alloc|apply pw_below_drewN|apply below_drew1|refine below_set ?_ GE101.out)|exact HB.out)) hb)
 clear BK101
 clear HB
 have BK101:=n0_
 have HB:=n1_
 clear n0_ n1_
 (try clear hb)
 (try clear hb2)
 (try clear hk)
 (try clear hi)
 refine hK.out _ _ ⟨(blk_cell BK101.out 0).trans rfl,(blk_cell BK101.out 1).trans rfl,(blk_cell BK101.out 2).trans rfl,(blk_cell BK101.out 3).trans rfl,(blk_cell BK101.out 4).trans rfl,(blk_cell BK101.out 5).trans rfl,(blk_cell BK101.out 6).trans rfl,(blk_cell BK101.out 7).trans rfl,(blk_cell BK101.out 8).trans rfl,(blk_cell BK101.out 9).trans rfl,(blk_cell BK101.out 10).trans rfl,(blk_cell BK101.out 11).trans rfl,(blk_cell BK101.out 12).trans rfl⟩ (fun hHeld=>?_)
 clear hK K
 refine norm_ (a':=?_) ?_ ?_
 rotate_left
 ·show Act.put _ (some 5) _=_
  simp only [Act.put,List.setIfInBounds_toArray,List.set_cons_zero,List.set_cons_succ,i64_w,i32_w]
  rfl
 refine one_ (i:=5) (N:=some 8) #[U,U,U,U,U,U,U,U,J,U,U,J,U,U,J,U,U,J,U,U,U,U,U,U,U,U,U,U,U,U,J,J,J] rfl rfl (one_of HT_.out (by kernel_rfl)) (by decide) (fun K hK=>?_)
 refine goes_ Tryd.func38 (by kernel_rfl) rfl #[.int .i64 a0_1] (by rfl) rfl rfl (by (try simp only [List.map_toArray,List.map_cons,List.map_nil]);first|done|rfl|(simp only [List.length_drop,List.length_take];rfl)) ?_
 with_reducible refine (contangoref03_Text.calls k a0_1 t103 _ A3.out).mono ?_
 rintro e w12 ⟨rfl,hb⟩
 refine ⟨_,rfl,?_⟩
 have n0_:=Aside0.mk (blk_below (g:=gb101) (o:=.cells #[.int .i64 a0_0,.int .i64 a0_1,.int .i64 a0_2,.string a0_3,.int .i64 a0_4,.int .i64 a0_5,.int .i64 a0_6,.int .i64 a0_7,.int .i64 a0_8,.string a0_9,.string a0_10,.string a0_11,.string a0_12] 27 (0,0)) (by (with_reducible repeat (first|refine blk_drewN ?_ _|refine blk_drew ?_|refine blk_alloc ?_ _));exact BK101.out) hb)
 have n1_:=Aside0.mk (below_step (by repeat (first|(with_reducible first|exact HB.out|apply below_alloc|apply pw_below_drewN|apply below_drew1|refine below_set ?_ GE101.out)|exact HB.out)) hb)
 clear BK101
 clear HB
 have BK101:=n0_
 have HB:=n1_
 clear n0_ n1_
 (try clear hb)
 (try clear hb2)
 (try clear hk)
 (try clear hi)
 refine hK.out _ _ ⟨(blk_cell BK101.out 0).trans rfl,(blk_cell BK101.out 1).trans rfl,(blk_cell BK101.out 2).trans rfl,(blk_cell BK101.out 3).trans rfl,(blk_cell BK101.out 4).trans rfl,(blk_cell BK101.out 5).trans rfl,(blk_cell BK101.out 6).trans rfl,(blk_cell BK101.out 7).trans rfl,(blk_cell BK101.out 8).trans rfl,(blk_cell BK101.out 9).trans rfl,(blk_cell BK101.out 10).trans rfl,(blk_cell BK101.out 11).trans rfl,(blk_cell BK101.out 12).trans rfl⟩ (fun hHeld=>?_)
 clear hK K
 refine norm_ (a':=?_) ?_ ?_
 rotate_left
 ·show Act.put _ (some 8) _=_
  simp only [Act.put,List.setIfInBounds_toArray,List.set_cons_zero,List.set_cons_succ,i64_w,i32_w]
  rfl
 refine one_ (i:=8) (N:=some 11) #[U,U,U,U,U,U,U,U,U,U,U,J,U,U,J,U,U,J,U,U,U,U,U,U,U,U,U,U,U,U,J,J,J] rfl rfl (one_of HT_.out (by kernel_rfl)) (by decide) (fun K hK=>?_)
 refine goes_ Tryd.func38 (by kernel_rfl) rfl #[.int .i64 a0_2] (by rfl) rfl rfl (by (try simp only [List.map_toArray,List.map_cons,List.map_nil]);first|done|rfl|(simp only [List.length_drop,List.length_take];rfl)) ?_
 with_reducible refine (contangoref03_Text.calls k a0_2 t104 _ A4.out).mono ?_
 rintro e w13 ⟨rfl,hb⟩
 refine ⟨_,rfl,?_⟩
 have n0_:=Aside0.mk (blk_below (g:=gb101) (o:=.cells #[.int .i64 a0_0,.int .i64 a0_1,.int .i64 a0_2,.string a0_3,.int .i64 a0_4,.int .i64 a0_5,.int .i64 a0_6,.int .i64 a0_7,.int .i64 a0_8,.string a0_9,.string a0_10,.string a0_11,.string a0_12] 27 (0,0)) (by (with_reducible repeat (first|refine blk_drewN ?_ _|refine blk_drew ?_|refine blk_alloc ?_ _));exact BK101.out) hb)
 have n1_:=Aside0.mk (below_step (by repeat (first|(with_reducible first|exact HB.out|apply below_alloc|apply pw_below_drewN|apply below_drew1|refine below_set ?_ GE101.out)|exact HB.out)) hb)
 clear BK101
 clear HB
 have BK101:=n0_
 have HB:=n1_
 clear n0_ n1_
 (try clear hb)
 (try clear hb2)
 (try clear hk)
 (try clear hi)
 refine hK.out _ _ ⟨(blk_cell BK101.out 0).trans rfl,(blk_cell BK101.out 1).trans rfl,(blk_cell BK101.out 2).trans rfl,(blk_cell BK101.out 3).trans rfl,(blk_cell BK101.out 4).trans rfl,(blk_cell BK101.out 5).trans rfl,(blk_cell BK101.out 6).trans rfl,(blk_cell BK101.out 7).trans rfl,(blk_cell BK101.out 8).trans rfl,(blk_cell BK101.out 9).trans rfl,(blk_cell BK101.out 10).trans rfl,(blk_cell BK101.out 11).trans rfl,(blk_cell BK101.out 12).trans rfl⟩ (fun hHeld=>?_)
 clear hK K
 refine norm_ (a':=?_) ?_ ?_
 rotate_left
 ·show Act.put _ (some 11) _=_
  simp only [Act.put,List.setIfInBounds_toArray,List.set_cons_zero,List.set_cons_succ,i64_w,i32_w]
  rfl
 refine one_ (i:=11) (N:=some 14) #[U,U,U,U,U,U,U,U,U,U,U,U,U,U,J,U,U,J,U,U,U,U,U,U,U,U,U,U,U,U,J,J,J] rfl rfl (one_of HT_.out (by kernel_rfl)) (by decide) (fun K hK=>?_)
 refine goes_ Tryd.func39 (by kernel_rfl) rfl #[.agg #[.string a0_3,.int .i64 a0_4,.int .i64 a0_5,.int .i64 a0_6]] (by rfl) rfl rfl (by (try simp only [List.map_toArray,List.map_cons,List.map_nil]);first|done|rfl|(simp only [List.length_drop,List.length_take];rfl)) ?_
 with_reducible refine (contangoref10_Print.calls k a0_3 a0_4 a0_5 a0_6 t105 _ A5.out).mono ?_
 rintro e w14 ⟨rfl,hb⟩
 refine ⟨_,rfl,?_⟩
 have n0_:=Aside0.mk (blk_below (g:=gb101) (o:=.cells #[.int .i64 a0_0,.int .i64 a0_1,.int .i64 a0_2,.string a0_3,.int .i64 a0_4,.int .i64 a0_5,.int .i64 a0_6,.int .i64 a0_7,.int .i64 a0_8,.string a0_9,.string a0_10,.string a0_11,.string a0_12] 27 (0,0)) (by (with_reducible repeat (first|refine blk_drewN ?_ _|refine blk_drew ?_|refine blk_alloc ?_ _));exact BK101.out) hb)
 have n1_:=Aside0.mk (below_step (by repeat (first|(with_reducible first|exact HB.out|apply below_alloc|apply pw_below_drewN|apply below_drew1|refine below_set ?_ GE101.out)|exact HB.out)) hb)
 clear BK101
 clear HB
 have BK101:=n0_
 have HB:=n1_
 clear n0_ n1_
 (try clear hb)
 (try clear hb2)
 (try clear hk)
 (try clear hi)
 refine hK.out _ _ ⟨(blk_cell BK101.out 0).trans rfl,(blk_cell BK101.out 1).trans rfl,(blk_cell BK101.out 2).trans rfl,(blk_cell BK101.out 3).trans rfl,(blk_cell BK101.out 4).trans rfl,(blk_cell BK101.out 5).trans rfl,(blk_cell BK101.out 6).trans rfl,(blk_cell BK101.out 7).trans rfl,(blk_cell BK101.out 8).trans rfl,(blk_cell BK101.out 9).trans rfl,(blk_cell BK101.out 10).trans rfl,(blk_cell BK101.out 11).trans rfl,(blk_cell BK101.out 12).trans rfl⟩ (fun hHeld=>?_)
 clear hK K
 refine norm_ (a':=?_) ?_ ?_
 rotate_left
 ·show Act.put _ (some 14) _=_
  simp only [Act.put,List.setIfInBounds_toArray,List.set_cons_zero,List.set_cons_succ,i64_w,i32_w]
  rfl
 refine one_ (i:=14) (N:=some 17) #[U,U,U,U,U,U,U,U,U,U,U,U,U,U,U,U,U,J,U,U,U,U,U,U,U,U,U,U,U,U,J,J,J] rfl rfl (one_of HT_.out (by kernel_rfl)) (by decide) (fun K hK=>?_)
 refine goes_ Tryd.func38 (by kernel_rfl) rfl #[.int .i64 a0_7] (by rfl) rfl rfl (by (try simp only [List.map_toArray,List.map_cons,List.map_nil]);first|done|rfl|(simp only [List.length_drop,List.length_take];rfl)) ?_
 with_reducible refine (contangoref03_Text.calls k a0_7 t106 _ A6.out).mono ?_
 rintro e w15 ⟨rfl,hb⟩
 refine ⟨_,rfl,?_⟩
 have n0_:=Aside0.mk (blk_below (g:=gb101) (o:=.cells #[.int .i64 a0_0,.int .i64 a0_1,.int .i64 a0_2,.string a0_3,.int .i64 a0_4,.int .i64 a0_5,.int .i64 a0_6,.int .i64 a0_7,.int .i64 a0_8,.string a0_9,.string a0_10,.string a0_11,.string a0_12] 27 (0,0)) (by (with_reducible repeat (first|refine blk_drewN ?_ _|refine blk_drew ?_|refine blk_alloc ?_ _));exact BK101.out) hb)
 have n1_:=Aside0.mk (below_step (by repeat (first|(with_reducible first|exact HB.out|apply below_alloc|apply pw_below_drewN|apply below_drew1|refine below_set ?_ GE101.out)|exact HB.out)) hb)
 clear BK101
 clear HB
 have BK101:=n0_
 have HB:=n1_
 clear n0_ n1_
 (try clear hb)
 (try clear hb2)
 (try clear hk)
 (try clear hi)
 refine hK.out _ _ ⟨(blk_cell BK101.out 0).trans rfl,(blk_cell BK101.out 1).trans rfl,(blk_cell BK101.out 2).trans rfl,(blk_cell BK101.out 3).trans rfl,(blk_cell BK101.out 4).trans rfl,(blk_cell BK101.out 5).trans rfl,(blk_cell BK101.out 6).trans rfl,(blk_cell BK101.out 7).trans rfl,(blk_cell BK101.out 8).trans rfl,(blk_cell BK101.out 9).trans rfl,(blk_cell BK101.out 10).trans rfl,(blk_cell BK101.out 11).trans rfl,(blk_cell BK101.out 12).trans rfl⟩ (fun hHeld=>?_)
 clear hK K
 refine norm_ (a':=?_) ?_ ?_
 rotate_left
 ·show Act.put _ (some 17) _=_
  simp only [Act.put,List.setIfInBounds_toArray,List.set_cons_zero,List.set_cons_succ,i64_w,i32_w]
  rfl
 refine one_ (i:=17) (N:=some 20) #[U,U,U,U,U,U,U,U,U,U,U,U,U,U,U,U,U,U,U,U,U,U,U,U,U,U,U,U,U,U,J,J,J] rfl rfl (one_of HT_.out (by kernel_rfl)) (by decide) (fun K hK=>?_)
 refine goes_ Tryd.func38 (by kernel_rfl) rfl #[.int .i64 a0_8] (by rfl) rfl rfl (by (try simp only [List.map_toArray,List.map_cons,List.map_nil]);first|done|rfl|(simp only [List.length_drop,List.length_take];rfl)) ?_
 with_reducible refine (contangoref03_Text.calls k a0_8 t107 _ A7.out).mono ?_
 rintro e w16 ⟨rfl,hb⟩
 refine ⟨_,rfl,?_⟩
 have n0_:=Aside0.mk (blk_below (g:=gb101) (o:=.cells #[.int .i64 a0_0,.int .i64 a0_1,.int .i64 a0_2,.string a0_3,.int .i64 a0_4,.int .i64 a0_5,.int .i64 a0_6,.int .i64 a0_7,.int .i64 a0_8,.string a0_9,.string a0_10,.string a0_11,.string a0_12] 27 (0,0)) (by (with_reducible repeat (first|refine blk_drewN ?_ _|refine blk_drew ?_|refine blk_alloc ?_ _));exact BK101.out) hb)
 have n1_:=Aside0.mk (below_step (by repeat (first|(with_reducible first|exact HB.out|apply below_alloc|apply pw_below_drewN|apply below_drew1|refine below_set ?_ GE101.out)|exact HB.out)) hb)
 clear BK101
 clear HB
 have BK101:=n0_
 have HB:=n1_
 clear n0_ n1_
 (try clear hb)
 (try clear hb2)
 (try clear hk)
 (try clear hi)
 refine hK.out _ _ ⟨(blk_cell BK101.out 0).trans rfl,(blk_cell BK101.out 1).trans rfl,(blk_cell BK101.out 2).trans rfl,(blk_cell BK101.out 3).trans rfl,(blk_cell BK101.out 4).trans rfl,(blk_cell BK101.out 5).trans rfl,(blk_cell BK101.out 6).trans rfl,(blk_cell BK101.out 7).trans rfl,(blk_cell BK101.out 8).trans rfl,(blk_cell BK101.out 9).trans rfl,(blk_cell BK101.out 10).trans rfl,(blk_cell BK101.out 11).trans rfl,(blk_cell BK101.out 12).trans rfl⟩ (fun hHeld=>?_)
 clear hK K
 refine norm_ (a':=?_) ?_ ?_
 rotate_left
 ·show Act.put _ (some 20) _=_
  simp only [Act.put,List.setIfInBounds_toArray,List.set_cons_zero,List.set_cons_succ,i64_w,i32_w]
  rfl
 refine one_ (i:=30) (N:=some 33) #[U,U,U,U,U,U,U,U,U,U,U,U,U,U,U,U,U,U,U,U,U,U,U,U,U,U,U,U,U,U,U,J,J] rfl rfl (one_of HT_.out (by kernel_rfl)) (by decide) (fun K hK=>?_)
 refine Kd.R_lit_step Kd.string _ 9 ?hg (N:=33) ?hd (xs:=([t102,t103,t104,t105,t106,t107,a0_9,a0_10,a0_11,a0_12]:List ByteArray)) (inner:=[.string t102,.string t103,.string t104,.string t105,.string t106,.string t107,.string a0_9,.string a0_10,.string a0_11,.string a0_12]) (ok:=fun _=>True) (okp:=fun _=>True) ?hr ?hp (fun _ hk=>hk) trivial (Below.refl _ _) (Nat.le_refl _) (by simp) ?_;(case hd=>rfl);(case hg=>rfl);(case hr=>first|(go_simp;done)|(go_simp;rfl));(case hp=>exact (Reps.one (show Kd.M Kd.string _ _ _ t102 [.string t102] from rfl) (Reps.one (show Kd.M Kd.string _ _ _ t103 [.string t103] from rfl) (Reps.one (show Kd.M Kd.string _ _ _ t104 [.string t104] from rfl) (Reps.one (show Kd.M Kd.string _ _ _ t105 [.string t105] from rfl) (Reps.one (show Kd.M Kd.string _ _ _ t106 [.string t106] from rfl) (Reps.one (show Kd.M Kd.string _ _ _ t107 [.string t107] from rfl) (Reps.one (show Kd.M Kd.string _ _ _ a0_9 [.string a0_9] from rfl) (Reps.one (show Kd.M Kd.string _ _ _ a0_10 [.string a0_10] from rfl) (Reps.one (show Kd.M Kd.string _ _ _ a0_11 [.string a0_11] from rfl) (Reps.one (show Kd.M Kd.string _ _ _ a0_12 [.string a0_12] from rfl) (Reps.none _ _))))))))))))
 intro v109 w17 ho18 hb hg_ hnew_
 clear hg_ hnew_
 (first|rw [← Ny108.out] at ho18|(simp only [Int.reduceToNat] at ho18;rw [← Ny108.out] at ho18))
 have n0_:=Aside0.mk (Kd.R_lower ho18 (below_size (by repeat (first|(with_reducible first|exact HB.out|apply below_alloc|apply pw_below_drewN|apply below_drew1|refine below_set ?_ GE101.out)|exact HB.out))))
 have n1_:=Aside0.mk (blk_below (g:=gb101) (o:=.cells #[.int .i64 a0_0,.int .i64 a0_1,.int .i64 a0_2,.string a0_3,.int .i64 a0_4,.int .i64 a0_5,.int .i64 a0_6,.int .i64 a0_7,.int .i64 a0_8,.string a0_9,.string a0_10,.string a0_11,.string a0_12] 27 (0,0)) (by (with_reducible repeat (first|refine blk_drewN ?_ _|refine blk_drew ?_|refine blk_alloc ?_ _));exact BK101.out) hb)
 have n2_:=Aside0.mk (below_step (by repeat (first|(with_reducible first|exact HB.out|apply below_alloc|apply pw_below_drewN|apply below_drew1|refine below_set ?_ GE101.out)|exact HB.out)) hb)
 clear BK101
 clear HB
 have HO110:=n0_
 have BK101:=n1_
 have HB:=n2_
 clear n0_ n1_ n2_
 clear hb ho18
 obtain ⟨Ao19,co19,eo19⟩:=Kd.R_slice HO110.out
 (first|subst eo19|(injection eo19 with f1_ f2_ f3_;have f4_:=f1_.symm;have f5_:=f3_.symm;clear f1_ f2_ f3_;subst f4_;subst f5_))
 refine hK.out _ _ ⟨(blk_cell BK101.out 0).trans rfl,(blk_cell BK101.out 1).trans rfl,(blk_cell BK101.out 2).trans rfl,(blk_cell BK101.out 3).trans rfl,(blk_cell BK101.out 4).trans rfl,(blk_cell BK101.out 5).trans rfl,(blk_cell BK101.out 6).trans rfl,(blk_cell BK101.out 7).trans rfl,(blk_cell BK101.out 8).trans rfl,(blk_cell BK101.out 9).trans rfl,(blk_cell BK101.out 10).trans rfl,(blk_cell BK101.out 11).trans rfl,(blk_cell BK101.out 12).trans rfl⟩ (fun hHeld=>?_)
 clear hK K
 refine norm_ (a':=?_) ?_ ?_
 rotate_left
 ·show Act.put _ (some 33) _=_
  simp only [Act.put,List.setIfInBounds_toArray,List.set_cons_zero,List.set_cons_succ,i64_w,i32_w]
  rfl
 refine one_ (i:=31) (N:=some 34) #[U,U,U,U,U,U,U,U,U,U,U,U,U,U,U,U,U,U,U,U,U,U,U,U,U,U,U,U,U,U,U,U,J] rfl rfl (one_of HT_.out (by kernel_rfl)) (by decide) (fun K hK=>?_)
 refine goes_ Tryd.func37 (by kernel_rfl) rfl #[.slice Ao19 y108.length co19] (by rfl) rfl rfl (by (try simp only [List.map_toArray,List.map_cons,List.map_nil]);first|done|rfl|(simp only [List.length_drop,List.length_take];rfl)) ?_
 with_reducible refine (contangoref03_Join.calls k _ _ y108 t111 _ ?side1 ?side2 A8.out).mono ?_
 (case side1=>repeat (first|exact (Kd.R_reads' HO110.out).2.2|(with_reducible refine Kd.C_alloc ?_ _)|(with_reducible refine Kd.C_drewN ?_ _)|(with_reducible refine Kd.C_drew ?_)))
 (case side2=>exact (Kd.R_reads' HO110.out).2.1)
 rintro e w' ⟨rfl,⟨nd,rfl⟩⟩
 refine ⟨_,rfl,?_⟩
 refine hK.out _ _ ⟨(blk_cell BK101.out 0).trans rfl,(blk_cell BK101.out 1).trans rfl,(blk_cell BK101.out 2).trans rfl,(blk_cell BK101.out 3).trans rfl,(blk_cell BK101.out 4).trans rfl,(blk_cell BK101.out 5).trans rfl,(blk_cell BK101.out 6).trans rfl,(blk_cell BK101.out 7).trans rfl,(blk_cell BK101.out 8).trans rfl,(blk_cell BK101.out 9).trans rfl,(blk_cell BK101.out 10).trans rfl,(blk_cell BK101.out 11).trans rfl,(blk_cell BK101.out 12).trans rfl⟩ (fun hHeld=>?_)
 clear hK K
 refine norm_ (a':=?_) ?_ ?_
 rotate_left
 ·show Act.put _ (some 34) _=_
  simp only [Act.put,List.setIfInBounds_toArray,List.set_cons_zero,List.set_cons_succ,i64_w,i32_w]
  rfl
 refine pure_ (i:=32) (N:=some 2) (v:=?_) (a':=?_) #[U,U,U,U,U,U,U,U,U,U,U,U,U,U,U,U,U,U,U,U,U,U,U,U,U,U,U,U,U,U,U,U,U] rfl rfl (any_of HT_.out (by kernel_rfl)) (fun _ _ _ h=>h) (Or.inl ⟨by rfl,?_⟩) ?_ ?_
 rotate_left
 ·intro w'
  go_simp
  with_reducible rfl
 rotate_left
 ·simp only [Act.put,List.setIfInBounds_toArray,List.set_cons_zero,List.set_cons_succ,i64_w,i32_w]
  rfl
 refine done_ (done_of HT_.out (by kernel_rfl)) ?_
 try go_wp2
 go_ret
 exact ⟨by first|rfl|(simp [errW_none,errW_some]<;>rfl)|(simp [*,errW_none,errW_some]<;>rfl),by repeat (first|(with_reducible first|exact HB.out|apply below_alloc|apply pw_below_drewN|apply below_drew1|refine below_set ?_ GE101.out)|exact HB.out)⟩
end Go.Proofs.YthpmmofleddpnaaDoor.X
end
section
namespace Go.Proofs.YthpmmofleddpnaaDoor.X
open Go.RowKit Go.Proofs.YthpmmofleddpnaaDoorW.PrintWords Go.Proofs.YthpmmofleddpnaaDoorW.PrintLast Go.Proofs.YthpmmofleddpnaaDoorW.PrintMore
attribute [local go_sem] max2_int min2_int max_two min_two max_three min_three max_four min_four
set_option linter.unusedVariables false
set_option linter.unusedSimpArgs false
theorem eqA23 (d:Nat) (w:World) (x0 y0:ByteArray) (x1 y1:Int) (x2 y2:Int) (x3 y3:Int) :
  (Op.equalIn (d+2) 23 (.agg #[.string x0,.int .i64 x1,.int .i64 x2,.int .i64 x3]) (.agg #[.string y0,.int .i64 y1,.int .i64 y2,.int .i64 y3])).run Tryd.prog w=.ok (x0.toList == y0.toList && (x1 == y1 && (x2 == y2 && (x3 == y3)))) w:=by
 refine eqA_of Tryd.underlying23 (by kernel_rfl) ?_
 refine eqf_cons (by rfl) (by go_simp;rfl) (by go_simp;rfl) (by go_simp) ?_
 refine eqf_cons (by rfl) (by go_simp;rfl) (by go_simp;rfl) (by go_simp) ?_
 refine eqf_cons (by rfl) (by go_simp;rfl) (by go_simp;rfl) (by go_simp) ?_
 exact eqf_last (by rfl) (by go_simp;rfl) (by go_simp;rfl) (by go_simp)
end Go.Proofs.YthpmmofleddpnaaDoor.X
end
section
namespace Go.Proofs.YthpmmofleddpnaaDoor.X
open Go.RowKit Go.Proofs.YthpmmofleddpnaaDoorW.PrintWords Go.Proofs.YthpmmofleddpnaaDoorW.PrintLast Go.Proofs.YthpmmofleddpnaaDoorW.PrintMore
attribute [local go_sem] max2_int min2_int max_two min_two max_three min_three max_four min_four
set_option linter.unusedVariables false
set_option linter.unusedSimpArgs false
theorem eqA27 (d:Nat) (w:World) (x0 y0:Int) (x1 y1:Int) (x2 y2:Int) (x3 y3:ByteArray) (x4 y4:Int) (x5 y5:Int) (x6 y6:Int) (x7 y7:Int) (x8 y8:Int) (x9 y9:ByteArray) (x10 y10:ByteArray) (x11 y11:ByteArray) (x12 y12:ByteArray) :
  (Op.equalIn (d+3) 27 (.agg #[.int .i64 x0,.int .i64 x1,.int .i64 x2,.string x3,.int .i64 x4,.int .i64 x5,.int .i64 x6,.int .i64 x7,.int .i64 x8,.string x9,.string x10,.string x11,.string x12]) (.agg #[.int .i64 y0,.int .i64 y1,.int .i64 y2,.string y3,.int .i64 y4,.int .i64 y5,.int .i64 y6,.int .i64 y7,.int .i64 y8,.string y9,.string y10,.string y11,.string y12])).run Tryd.prog w=.ok (x0 == y0 && (x1 == y1 && (x2 == y2 && ((x3.toList == y3.toList && (x4 == y4 && (x5 == y5 && (x6 == y6)))) && (x7 == y7 && (x8 == y8 && ((x9.toList == y9.toList && (x10.toList == y10.toList)) && ((x11.toList == y11.toList && (x12.toList == y12.toList)))))))))) w:=by
 refine eqA_of Tryd.underlying27 (by kernel_rfl) ?_
 refine eqf_cons (by rfl) (by go_simp;rfl) (by go_simp;rfl) (by go_simp) ?_
 refine eqf_cons (by rfl) (by go_simp;rfl) (by go_simp;rfl) (by go_simp) ?_
 refine eqf_cons (by rfl) (by go_simp;rfl) (by go_simp;rfl) (by go_simp) ?_
 refine eqf_cons (by rfl) (by go_simp) (by go_simp) (eqA23 (d+0) w _ _ _ _ _ _ _ _) ?_
 refine eqf_cons (by rfl) (by go_simp;rfl) (by go_simp;rfl) (by go_simp) ?_
 refine eqf_cons (by rfl) (by go_simp;rfl) (by go_simp;rfl) (by go_simp) ?_
 refine eqf_cons (by rfl) (by go_simp) (by go_simp) (eqA25 (d+0) w _ _ _ _) ?_
 exact eqf_last (by rfl) (by go_simp) (by go_simp) (eqA25 (d+0) w _ _ _ _)
end Go.Proofs.YthpmmofleddpnaaDoor.X
end
section
namespace Go.Proofs.YthpmmofleddpnaaDoor.X
open Go.RowKit Go.Proofs.YthpmmofleddpnaaDoorW.PrintWords Go.Proofs.YthpmmofleddpnaaDoorW.PrintLast Go.Proofs.YthpmmofleddpnaaDoorW.PrintMore
attribute [local go_sem] max2_int min2_int max_two min_two max_three min_three max_four min_four
set_option linter.unusedVariables false
set_option linter.unusedSimpArgs false
attribute [local go_sem high] eqA27
def contangolaw12_TradeTexts.f (k:Nat) (a0_0:Int) (a0_1:Int) (a0_2:Int) (a0_3:ByteArray) (a0_4:Int) (a0_5:Int) (a0_6:Int) (a0_7:Int) (a0_8:Int) (a0_9:ByteArray) (a0_10:ByteArray) (a0_11:ByteArray) (a0_12:ByteArray) (a1:ByteArray):Option (Bool):=(trade_Parse.f k a1).bind fun bt102=>((contangoref12_Parse.f k a1).bind fun bt117=>((trade_Print.f k a0_0 a0_1 a0_2 a0_3 a0_4 a0_5 a0_6 a0_7 a0_8 a0_9 a0_10 a0_11 a0_12).bind fun t132=>((contangoref12_Print.f k a0_0 a0_1 a0_2 a0_3 a0_4 a0_5 a0_6 a0_7 a0_8 a0_9 a0_10 a0_11 a0_12).bind fun t133=>(if t132.toList=t133.toList then (if (bt102.1 == bt117.1 && (bt102.2.1 == bt117.2.1 && (bt102.2.2.1 == bt117.2.2.1 && ((bt102.2.2.2.1.toList == bt117.2.2.2.1.toList && (bt102.2.2.2.2.1 == bt117.2.2.2.2.1 && (bt102.2.2.2.2.2.1 == bt117.2.2.2.2.2.1 && (bt102.2.2.2.2.2.2.1 == bt117.2.2.2.2.2.2.1)))) && (bt102.2.2.2.2.2.2.2.1 == bt117.2.2.2.2.2.2.2.1 && (bt102.2.2.2.2.2.2.2.2.1 == bt117.2.2.2.2.2.2.2.2.1 && ((bt102.2.2.2.2.2.2.2.2.2.1.toList == bt117.2.2.2.2.2.2.2.2.2.1.toList && (bt102.2.2.2.2.2.2.2.2.2.2.1.toList == bt117.2.2.2.2.2.2.2.2.2.2.1.toList)) && ((bt102.2.2.2.2.2.2.2.2.2.2.2.1.toList == bt117.2.2.2.2.2.2.2.2.2.2.2.1.toList && (bt102.2.2.2.2.2.2.2.2.2.2.2.2.1.toList == bt117.2.2.2.2.2.2.2.2.2.2.2.2.1.toList))))))))))=true then (if bt102.2.2.2.2.2.2.2.2.2.2.2.2.2=bt117.2.2.2.2.2.2.2.2.2.2.2.2.2 then ((contangolaw12_goes.f k).bind fun t134=>(some t134)) else (none)) else (none)) else (none)))))
def contangolaw12_TradeTexts.T3:Bool × List (List Nat × List Nat):=(true,[([],[]),([0],[0]),([],[]),([2,1],[2]),([1,3],[1,3]),([4,3],[4]),([5],[5]),([5],[5]),([6,7,5],[5,6,7]),([5,8],[5,8]),([9,5],[9]),([10],[10]),([10],[10]),([11,12,10],[10,11,12]),([10,13],[10,13]),([14,10],[14]),([15,15],[15]),([15,16],[15,16]),([17,16,0,1,2,3,4,5,6,7,8,9,10,11,12,13,14,15,16,17],[17])])
def contangolaw12_TradeTexts.B3:List Nat:=[0,1,0,7,15,31,63,63,255,511,1023,2047,2047,8191,16383,32767,65535,131071,262143]
theorem contangolaw12_TradeTexts.tab3:rtab .any (opsOf Tryd.f3 3)=contangolaw12_TradeTexts.T3:=by kernel_rfl
theorem contangolaw12_TradeTexts.bits3:waitsOk contangolaw12_TradeTexts.T3.2 contangolaw12_TradeTexts.B3=true:=by kernel_rfl
set_option maxHeartbeats 8000000 in
set_option maxRecDepth 100000 in
theorem contangolaw12_TradeTexts.calls (k:Nat) (a0_0:Int) (a0_1:Int) (a0_2:Int) (a0_3:ByteArray) (a0_4:Int) (a0_5:Int) (a0_6:Int) (a0_7:Int) (a0_8:Int) (a0_9:ByteArray) (a0_10:ByteArray) (a0_11:ByteArray) (a0_12:ByteArray) (a1:ByteArray) (r:Bool) (w:World) (h:contangolaw12_TradeTexts.f k a0_0 a0_1 a0_2 a0_3 a0_4 a0_5 a0_6 a0_7 a0_8 a0_9 a0_10 a0_11 a0_12 a1=some r) (hGL:GlobD w) :
  Calls Tryd.prog 3 #[.agg #[.int .i64 a0_0,.int .i64 a0_1,.int .i64 a0_2,.string a0_3,.int .i64 a0_4,.int .i64 a0_5,.int .i64 a0_6,.int .i64 a0_7,.int .i64 a0_8,.string a0_9,.string a0_10,.string a0_11,.string a0_12],.string a1] w fun e w'=>e=.returned (.bool r)∧Below w.heap.size w w':=by
 have hu27:=Tryd.underlying27
 have HB:=Aside0.mk (Below.refl w.heap.size w)
 have HGL:=Aside0.mk hGL
 clear hGL
 have H:((trade_Parse.f k a1).bind fun bt102=>((contangoref12_Parse.f k a1).bind fun bt117=>((trade_Print.f k a0_0 a0_1 a0_2 a0_3 a0_4 a0_5 a0_6 a0_7 a0_8 a0_9 a0_10 a0_11 a0_12).bind fun t132=>((contangoref12_Print.f k a0_0 a0_1 a0_2 a0_3 a0_4 a0_5 a0_6 a0_7 a0_8 a0_9 a0_10 a0_11 a0_12).bind fun t133=>(if t132.toList=t133.toList then (if (bt102.1 == bt117.1 && (bt102.2.1 == bt117.2.1 && (bt102.2.2.1 == bt117.2.2.1 && ((bt102.2.2.2.1.toList == bt117.2.2.2.1.toList && (bt102.2.2.2.2.1 == bt117.2.2.2.2.1 && (bt102.2.2.2.2.2.1 == bt117.2.2.2.2.2.1 && (bt102.2.2.2.2.2.2.1 == bt117.2.2.2.2.2.2.1)))) && (bt102.2.2.2.2.2.2.2.1 == bt117.2.2.2.2.2.2.2.1 && (bt102.2.2.2.2.2.2.2.2.1 == bt117.2.2.2.2.2.2.2.2.1 && ((bt102.2.2.2.2.2.2.2.2.2.1.toList == bt117.2.2.2.2.2.2.2.2.2.1.toList && (bt102.2.2.2.2.2.2.2.2.2.2.1.toList == bt117.2.2.2.2.2.2.2.2.2.2.1.toList)) && ((bt102.2.2.2.2.2.2.2.2.2.2.2.1.toList == bt117.2.2.2.2.2.2.2.2.2.2.2.1.toList && (bt102.2.2.2.2.2.2.2.2.2.2.2.2.1.toList == bt117.2.2.2.2.2.2.2.2.2.2.2.2.1.toList))))))))))=true then (if bt102.2.2.2.2.2.2.2.2.2.2.2.2.2=bt117.2.2.2.2.2.2.2.2.2.2.2.2.2 then ((contangolaw12_goes.f k).bind fun t134=>(some t134)) else (none)) else (none)) else (none))))))=some r:=h
 clear h
 replace H:=Option.bind_eq_some_iff.mp H
 obtain ⟨⟨t102,t103,t104,t105,t106,t107,t108,t109,t110,t111,t112,t113,t114,t115⟩,A30,H⟩:=H
 replace H:((contangoref12_Parse.f k a1).bind fun bt117=>((trade_Print.f k a0_0 a0_1 a0_2 a0_3 a0_4 a0_5 a0_6 a0_7 a0_8 a0_9 a0_10 a0_11 a0_12).bind fun t132=>((contangoref12_Print.f k a0_0 a0_1 a0_2 a0_3 a0_4 a0_5 a0_6 a0_7 a0_8 a0_9 a0_10 a0_11 a0_12).bind fun t133=>(if t132.toList=t133.toList then (if (t102 == bt117.1 && (t103 == bt117.2.1 && (t104 == bt117.2.2.1 && ((t105.toList == bt117.2.2.2.1.toList && (t106 == bt117.2.2.2.2.1 && (t107 == bt117.2.2.2.2.2.1 && (t108 == bt117.2.2.2.2.2.2.1)))) && (t109 == bt117.2.2.2.2.2.2.2.1 && (t110 == bt117.2.2.2.2.2.2.2.2.1 && ((t111.toList == bt117.2.2.2.2.2.2.2.2.2.1.toList && (t112.toList == bt117.2.2.2.2.2.2.2.2.2.2.1.toList)) && ((t113.toList == bt117.2.2.2.2.2.2.2.2.2.2.2.1.toList && (t114.toList == bt117.2.2.2.2.2.2.2.2.2.2.2.2.1.toList))))))))))=true then (if t115=bt117.2.2.2.2.2.2.2.2.2.2.2.2.2 then ((contangolaw12_goes.f k).bind fun t134=>(some t134)) else (none)) else (none)) else (none)))))=some r:=H
 have A3:=Aside0.mk A30
 clear A30
 replace H:=Option.bind_eq_some_iff.mp H
 obtain ⟨⟨t117,t118,t119,t120,t121,t122,t123,t124,t125,t126,t127,t128,t129,t130⟩,A40,H⟩:=H
 replace H:((trade_Print.f k a0_0 a0_1 a0_2 a0_3 a0_4 a0_5 a0_6 a0_7 a0_8 a0_9 a0_10 a0_11 a0_12).bind fun t132=>((contangoref12_Print.f k a0_0 a0_1 a0_2 a0_3 a0_4 a0_5 a0_6 a0_7 a0_8 a0_9 a0_10 a0_11 a0_12).bind fun t133=>(if t132.toList=t133.toList then (if (t102 == t117 && (t103 == t118 && (t104 == t119 && ((t105.toList == t120.toList && (t106 == t121 && (t107 == t122 && (t108 == t123)))) && (t109 == t124 && (t110 == t125 && ((t111.toList == t126.toList && (t112.toList == t127.toList)) && ((t113.toList == t128.toList && (t114.toList == t129.toList))))))))))=true then (if t115=t130 then ((contangolaw12_goes.f k).bind fun t134=>(some t134)) else (none)) else (none)) else (none))))=some r:=H
 have A4:=Aside0.mk A40
 clear A40
 replace H:=Option.bind_eq_some_iff.mp H
 obtain ⟨t132,A50,H⟩:=H
 replace H:((contangoref12_Print.f k a0_0 a0_1 a0_2 a0_3 a0_4 a0_5 a0_6 a0_7 a0_8 a0_9 a0_10 a0_11 a0_12).bind fun t133=>(if t132.toList=t133.toList then (if (t102 == t117 && (t103 == t118 && (t104 == t119 && ((t105.toList == t120.toList && (t106 == t121 && (t107 == t122 && (t108 == t123)))) && (t109 == t124 && (t110 == t125 && ((t111.toList == t126.toList && (t112.toList == t127.toList)) && ((t113.toList == t128.toList && (t114.toList == t129.toList))))))))))=true then (if t115=t130 then ((contangolaw12_goes.f k).bind fun t134=>(some t134)) else (none)) else (none)) else (none)))=some r:=H
 have A5:=Aside0.mk A50
 clear A50
 replace H:=Option.bind_eq_some_iff.mp H
 obtain ⟨t133,A60,H⟩:=H
 replace H:(if t132.toList=t133.toList then (if (t102 == t117 && (t103 == t118 && (t104 == t119 && ((t105.toList == t120.toList && (t106 == t121 && (t107 == t122 && (t108 == t123)))) && (t109 == t124 && (t110 == t125 && ((t111.toList == t126.toList && (t112.toList == t127.toList)) && ((t113.toList == t128.toList && (t114.toList == t129.toList))))))))))=true then (if t115=t130 then ((contangolaw12_goes.f k).bind fun t134=>(some t134)) else (none)) else (none)) else (none))=some r:=H
 have A6:=Aside0.mk A60
 clear A60
 by_cases c7:t132.toList=t133.toList
 ·rw [if_pos c7] at H
  have c7b0:(t132.toList == t133.toList)=true:=beq_iff_eq.mpr c7
  have c7b1:(t132.toList != t133.toList)=false:=bne_eq_false_iff_eq.mpr c7
  clear c7
  by_cases c8:(t102 == t117 && (t103 == t118 && (t104 == t119 && ((t105.toList == t120.toList && (t106 == t121 && (t107 == t122 && (t108 == t123)))) && (t109 == t124 && (t110 == t125 && ((t111.toList == t126.toList && (t112.toList == t127.toList)) && ((t113.toList == t128.toList && (t114.toList == t129.toList))))))))))=true
  ·rw [if_pos c8] at H
   have c8b0:(t102 == t117 && (t103 == t118 && (t104 == t119 && ((t105.toList == t120.toList && (t106 == t121 && (t107 == t122 && (t108 == t123)))) && (t109 == t124 && (t110 == t125 && ((t111.toList == t126.toList && (t112.toList == t127.toList)) && ((t113.toList == t128.toList && (t114.toList == t129.toList))))))))))=true:=c8
   (try (have c8b1:decide (t102=t117 && (t103 == t118 && (t104 == t119 && ((t105.toList == t120.toList && (t106 == t121 && (t107 == t122 && (t108 == t123)))) && (t109 == t124 && (t110 == t125 && ((t111.toList == t126.toList && (t112.toList == t127.toList)) && ((t113.toList == t128.toList && (t114.toList == t129.toList))))))))))=true:=by simpa using c8))
   (try (have c8b2:(t102 == t117 && (t103 == t118 && (t104 == t119 && ((t105.toList == t120.toList && (t106 == t121 && (t107 == t122 && (t108 == t123)))) && (t109 == t124 && (t110 == t125 && ((t111.toList == t126.toList && (t112.toList == t127.toList)) && ((t113.toList == t128.toList && (t114.toList == t129.toList))))))))))=true:=by simpa using c8))
   clear c8
   by_cases c9:t115=t130
   ·rw [if_pos c9] at H
    have c9b0:(t115 == t130)=true:=beq_iff_eq.mpr c9
    have c9b1:(t115 != t130)=false:=bne_eq_false_iff_eq.mpr c9
    clear c9
    replace H:=Option.bind_eq_some_iff.mp H
    obtain ⟨t134,A100,H⟩:=H
    replace H:(some t134)=some r:=H
    have A10:=Aside0.mk A100
    clear A100
    obtain rfl:=Option.some.inj H
    go_enter Tryd.func3,Tryd.ntmps3
    try go_wp2_with (first|((with_reducible refine gate_dst (N:=2) rfl ?_);refine box_event ?hg (N:=2) ?hd (cs:=#[.int .i64 a0_0,.int .i64 a0_1,.int .i64 a0_2,.string a0_3,.int .i64 a0_4,.int .i64 a0_5,.int .i64 a0_6,.int .i64 a0_7,.int .i64 a0_8,.string a0_9,.string a0_10,.string a0_11,.string a0_12]) (t:=27) ?hr ?_;(case hd=>rfl);(case hg=>rfl);(case hr=>first|(go_simp;done)|(go_simp;rfl));intro gb101 hg w11 hbox hb;have n0_:=Aside0.mk (below_step (by repeat (first|(with_reducible first|exact HB.out|apply below_alloc|apply pw_below_drewN|apply below_drew1)|exact HB.out)) hb);have n1_:=Aside0.mk (hbox);have n2_:=Aside0.mk ((by rw [hg];exact (below_size (by repeat (first|(with_reducible first|exact HB.out|apply below_alloc|apply pw_below_drewN|apply below_drew1)|exact HB.out))):w.heap.size≤gb101));have n3_:=Aside0.mk ((by rw [hg];exact (below_size (by repeat (first|(with_reducible first|exact HB.out|apply below_alloc|apply pw_below_drewN|apply below_drew1)|exact HB.out))):w.heap.size≤gb101));clear HB;have HB:=n0_;have BK101:=n1_;have GW101:=n2_;have GE101:=n3_;clear n0_ n1_ n2_ n3_;clear hb hbox hg)|((with_reducible refine gate_callee (f:=7) rfl ?_);refine goesL_ (some 11) rfl rfl Tryd.func7 (by kernel_rfl) rfl #[.string a1] rfl (by (try simp only [List.map_toArray,List.map_cons,List.map_nil]);first|done|rfl|(simp only [List.length_drop,List.length_take];rfl)) ?_;(with_reducible refine (trade_Parse.calls k a1 t102 t103 t104 t105 t106 t107 t108 t109 t110 t111 t112 t113 t114 t115 _ A3.out (glob_of HGL.out (by repeat (first|(with_reducible first|exact HB.out|apply below_alloc|apply pw_below_drewN|apply below_drew1|refine below_set ?_ GE101.out|refine below_set ?_ GE116.out|refine below_set ?_ GE131.out)|exact HB.out)))).mono ?_);rintro e w12 ⟨rfl,hb⟩;refine ⟨_,rfl,?_⟩;have n0_:=Aside0.mk (blk_below (g:=gb101) (o:=.cells #[.int .i64 a0_0,.int .i64 a0_1,.int .i64 a0_2,.string a0_3,.int .i64 a0_4,.int .i64 a0_5,.int .i64 a0_6,.int .i64 a0_7,.int .i64 a0_8,.string a0_9,.string a0_10,.string a0_11,.string a0_12] 27 (0,0)) (by (with_reducible repeat (first|refine blk_drewN ?_ _|refine blk_drew ?_|refine blk_alloc ?_ _));exact BK101.out) hb);have n1_:=Aside0.mk (below_step (by repeat (first|(with_reducible first|exact HB.out|apply below_alloc|apply pw_below_drewN|apply below_drew1|refine below_set ?_ GE101.out)|exact HB.out)) hb);clear BK101;clear HB;have BK101:=n0_;have HB:=n1_;clear n0_ n1_;(try clear hb);(try clear hb2);(try clear hk);(try clear hi))|((with_reducible refine gate_dst (N:=5) rfl ?_);refine box_event ?hg (N:=5) ?hd (cs:=#[.int .i64 0,.int .i64 0,.int .i64 0,.string (⟨#[]⟩:ByteArray),.int .i64 0,.int .i64 0,.int .i64 0,.int .i64 0,.int .i64 0,.string (⟨#[]⟩:ByteArray),.string (⟨#[]⟩:ByteArray),.string (⟨#[]⟩:ByteArray),.string (⟨#[]⟩:ByteArray)]) (t:=27) ?hr ?_;(case hd=>rfl);(case hg=>rfl);(case hr=>first|(go_simp;done)|(go_simp;rfl));intro gb116 hg w13 hbox hb;have n0_:=Aside0.mk (blk_below (g:=gb101) (o:=.cells #[.int .i64 a0_0,.int .i64 a0_1,.int .i64 a0_2,.string a0_3,.int .i64 a0_4,.int .i64 a0_5,.int .i64 a0_6,.int .i64 a0_7,.int .i64 a0_8,.string a0_9,.string a0_10,.string a0_11,.string a0_12] 27 (0,0)) (by (with_reducible repeat (first|refine blk_drewN ?_ _|refine blk_drew ?_|refine blk_alloc ?_ _));exact BK101.out) hb);have n1_:=Aside0.mk (below_step (by repeat (first|(with_reducible first|exact HB.out|apply below_alloc|apply pw_below_drewN|apply below_drew1|refine below_set ?_ GE101.out)|exact HB.out)) hb);have n2_:=Aside0.mk (hbox);have n3_:=Aside0.mk ((by rw [hg];exact (below_size (by repeat (first|(with_reducible first|exact HB.out|apply below_alloc|apply pw_below_drewN|apply below_drew1|refine below_set ?_ GE101.out)|exact HB.out))):w.heap.size≤gb116));have n4_:=Aside0.mk ((by rw [hg];exact (below_size (by repeat (first|(with_reducible first|exact HB.out|apply below_alloc|apply pw_below_drewN|apply below_drew1|refine below_set ?_ GE101.out)|exact HB.out))):w.heap.size≤gb116));have n5_:=Aside0.mk ((by rw [hg];exact Nat.ne_of_lt (blk_lt (g:=gb101) (o:=.cells #[.int .i64 a0_0,.int .i64 a0_1,.int .i64 a0_2,.string a0_3,.int .i64 a0_4,.int .i64 a0_5,.int .i64 a0_6,.int .i64 a0_7,.int .i64 a0_8,.string a0_9,.string a0_10,.string a0_11,.string a0_12] 27 (0,0)) (by (with_reducible repeat (first|refine blk_drewN ?_ _|refine blk_drew ?_|refine blk_alloc ?_ _));exact BK101.out)):gb101≠gb116));have n6_:=Aside0.mk ((by rw [hg];exact Nat.ne_of_gt (blk_lt (g:=gb101) (o:=.cells #[.int .i64 a0_0,.int .i64 a0_1,.int .i64 a0_2,.string a0_3,.int .i64 a0_4,.int .i64 a0_5,.int .i64 a0_6,.int .i64 a0_7,.int .i64 a0_8,.string a0_9,.string a0_10,.string a0_11,.string a0_12] 27 (0,0)) (by (with_reducible repeat (first|refine blk_drewN ?_ _|refine blk_drew ?_|refine blk_alloc ?_ _));exact BK101.out)):gb116≠gb101));clear BK101;clear HB;have BK101:=n0_;have HB:=n1_;have BK116:=n2_;have GW116:=n3_;have GE116:=n4_;have NB101_116:=n5_;have NB116_101:=n6_;clear n0_ n1_ n2_ n3_ n4_ n5_ n6_;clear hb hbox hg;have hnb14:=NB116_101.out;have hnc14:=NB101_116.out;have hcz15_0:w13.cell? ⟨gb116,0,none⟩=some (.int .i64 0):=(blk_cell BK116.out 0).trans rfl;have hcz15_1:w13.cell? ⟨gb116,1,none⟩=some (.int .i64 0):=(blk_cell BK116.out 1).trans rfl;have hcz15_2:w13.cell? ⟨gb116,2,none⟩=some (.int .i64 0):=(blk_cell BK116.out 2).trans rfl;have hcz15_3:w13.cell? ⟨gb116,3,none⟩=some (.string (⟨#[]⟩:ByteArray)):=(blk_cell BK116.out 3).trans rfl;have hcz15_4:w13.cell? ⟨gb116,4,none⟩=some (.int .i64 0):=(blk_cell BK116.out 4).trans rfl;have hcz15_5:w13.cell? ⟨gb116,5,none⟩=some (.int .i64 0):=(blk_cell BK116.out 5).trans rfl;have hcz15_6:w13.cell? ⟨gb116,6,none⟩=some (.int .i64 0):=(blk_cell BK116.out 6).trans rfl;have hcz15_7:w13.cell? ⟨gb116,7,none⟩=some (.int .i64 0):=(blk_cell BK116.out 7).trans rfl;have hcz15_8:w13.cell? ⟨gb116,8,none⟩=some (.int .i64 0):=(blk_cell BK116.out 8).trans rfl;have hcz15_9:w13.cell? ⟨gb116,9,none⟩=some (.string (⟨#[]⟩:ByteArray)):=(blk_cell BK116.out 9).trans rfl;have hcz15_10:w13.cell? ⟨gb116,10,none⟩=some (.string (⟨#[]⟩:ByteArray)):=(blk_cell BK116.out 10).trans rfl;have hcz15_11:w13.cell? ⟨gb116,11,none⟩=some (.string (⟨#[]⟩:ByteArray)):=(blk_cell BK116.out 11).trans rfl;have hcz15_12:w13.cell? ⟨gb116,12,none⟩=some (.string (⟨#[]⟩:ByteArray)):=(blk_cell BK116.out 12).trans rfl;have hfz15_0:=blk_frozen BK116.out 0;have hfz15_1:=blk_frozen BK116.out 1;have hfz15_2:=blk_frozen BK116.out 2;have hfz15_3:=blk_frozen BK116.out 3;have hfz15_4:=blk_frozen BK116.out 4;have hfz15_5:=blk_frozen BK116.out 5;have hfz15_6:=blk_frozen BK116.out 6;have hfz15_7:=blk_frozen BK116.out 7;have hfz15_8:=blk_frozen BK116.out 8;have hfz15_9:=blk_frozen BK116.out 9;have hfz15_10:=blk_frozen BK116.out 10;have hfz15_11:=blk_frozen BK116.out 11;have hfz15_12:=blk_frozen BK116.out 12)|((with_reducible refine gate_callee (f:=8) rfl ?_);refine goesL_ (some 16) rfl rfl Tryd.func8 (by kernel_rfl) rfl #[.string a1] rfl (by (try simp only [List.map_toArray,List.map_cons,List.map_nil]);first|done|rfl|(simp only [List.length_drop,List.length_take];rfl)) ?_;(with_reducible refine (contangoref12_Parse.calls k a1 t117 t118 t119 t120 t121 t122 t123 t124 t125 t126 t127 t128 t129 t130 _ A4.out).mono ?_);rintro e w16 ⟨rfl,hb⟩;refine ⟨_,rfl,?_⟩;have n0_:=Aside0.mk (blk_below (g:=gb101) (o:=.cells #[.int .i64 a0_0,.int .i64 a0_1,.int .i64 a0_2,.string a0_3,.int .i64 a0_4,.int .i64 a0_5,.int .i64 a0_6,.int .i64 a0_7,.int .i64 a0_8,.string a0_9,.string a0_10,.string a0_11,.string a0_12] 27 (0,0)) (by (with_reducible repeat (first|refine blk_drewN ?_ _|refine blk_drew ?_|refine blk_alloc ?_ _));refine blk_far ?_ NB101_116.out _;(with_reducible repeat (first|refine blk_drewN ?_ _|refine blk_drew ?_|refine blk_alloc ?_ _));refine blk_far ?_ NB101_116.out _;(with_reducible repeat (first|refine blk_drewN ?_ _|refine blk_drew ?_|refine blk_alloc ?_ _));refine blk_far ?_ NB101_116.out _;(with_reducible repeat (first|refine blk_drewN ?_ _|refine blk_drew ?_|refine blk_alloc ?_ _));refine blk_far ?_ NB101_116.out _;(with_reducible repeat (first|refine blk_drewN ?_ _|refine blk_drew ?_|refine blk_alloc ?_ _));refine blk_far ?_ NB101_116.out _;(with_reducible repeat (first|refine blk_drewN ?_ _|refine blk_drew ?_|refine blk_alloc ?_ _));refine blk_far ?_ NB101_116.out _;(with_reducible repeat (first|refine blk_drewN ?_ _|refine blk_drew ?_|refine blk_alloc ?_ _));refine blk_far ?_ NB101_116.out _;(with_reducible repeat (first|refine blk_drewN ?_ _|refine blk_drew ?_|refine blk_alloc ?_ _));refine blk_far ?_ NB101_116.out _;(with_reducible repeat (first|refine blk_drewN ?_ _|refine blk_drew ?_|refine blk_alloc ?_ _));refine blk_far ?_ NB101_116.out _;(with_reducible repeat (first|refine blk_drewN ?_ _|refine blk_drew ?_|refine blk_alloc ?_ _));refine blk_far ?_ NB101_116.out _;(with_reducible repeat (first|refine blk_drewN ?_ _|refine blk_drew ?_|refine blk_alloc ?_ _));refine blk_far ?_ NB101_116.out _;(with_reducible repeat (first|refine blk_drewN ?_ _|refine blk_drew ?_|refine blk_alloc ?_ _));refine blk_far ?_ NB101_116.out _;(with_reducible repeat (first|refine blk_drewN ?_ _|refine blk_drew ?_|refine blk_alloc ?_ _));refine blk_far ?_ NB101_116.out _;(with_reducible repeat (first|refine blk_drewN ?_ _|refine blk_drew ?_|refine blk_alloc ?_ _));exact BK101.out) hb);have n1_:=Aside0.mk (blk_below (g:=gb116) (o:=.cells #[.int .i64 t102,.int .i64 t103,.int .i64 t104,.string t105,.int .i64 t106,.int .i64 t107,.int .i64 t108,.int .i64 t109,.int .i64 t110,.string t111,.string t112,.string t113,.string t114] 27 (0,0)) (by (with_reducible repeat (first|refine blk_drewN ?_ _|refine blk_drew ?_|refine blk_alloc ?_ _));refine blk_put (cs:=#[.int .i64 t102,.int .i64 t103,.int .i64 t104,.string t105,.int .i64 t106,.int .i64 t107,.int .i64 t108,.int .i64 t109,.int .i64 t110,.string t111,.string t112,.string t113,.string (⟨#[]⟩:ByteArray)]) ?_ 12 _ rfl;(with_reducible repeat (first|refine blk_drewN ?_ _|refine blk_drew ?_|refine blk_alloc ?_ _));refine blk_put (cs:=#[.int .i64 t102,.int .i64 t103,.int .i64 t104,.string t105,.int .i64 t106,.int .i64 t107,.int .i64 t108,.int .i64 t109,.int .i64 t110,.string t111,.string t112,.string (⟨#[]⟩:ByteArray),.string (⟨#[]⟩:ByteArray)]) ?_ 11 _ rfl;(with_reducible repeat (first|refine blk_drewN ?_ _|refine blk_drew ?_|refine blk_alloc ?_ _));refine blk_put (cs:=#[.int .i64 t102,.int .i64 t103,.int .i64 t104,.string t105,.int .i64 t106,.int .i64 t107,.int .i64 t108,.int .i64 t109,.int .i64 t110,.string t111,.string (⟨#[]⟩:ByteArray),.string (⟨#[]⟩:ByteArray),.string (⟨#[]⟩:ByteArray)]) ?_ 10 _ rfl;(with_reducible repeat (first|refine blk_drewN ?_ _|refine blk_drew ?_|refine blk_alloc ?_ _));refine blk_put (cs:=#[.int .i64 t102,.int .i64 t103,.int .i64 t104,.string t105,.int .i64 t106,.int .i64 t107,.int .i64 t108,.int .i64 t109,.int .i64 t110,.string (⟨#[]⟩:ByteArray),.string (⟨#[]⟩:ByteArray),.string (⟨#[]⟩:ByteArray),.string (⟨#[]⟩:ByteArray)]) ?_ 9 _ rfl;(with_reducible repeat (first|refine blk_drewN ?_ _|refine blk_drew ?_|refine blk_alloc ?_ _));refine blk_put (cs:=#[.int .i64 t102,.int .i64 t103,.int .i64 t104,.string t105,.int .i64 t106,.int .i64 t107,.int .i64 t108,.int .i64 t109,.int .i64 0,.string (⟨#[]⟩:ByteArray),.string (⟨#[]⟩:ByteArray),.string (⟨#[]⟩:ByteArray),.string (⟨#[]⟩:ByteArray)]) ?_ 8 _ rfl;(with_reducible repeat (first|refine blk_drewN ?_ _|refine blk_drew ?_|refine blk_alloc ?_ _));refine blk_put (cs:=#[.int .i64 t102,.int .i64 t103,.int .i64 t104,.string t105,.int .i64 t106,.int .i64 t107,.int .i64 t108,.int .i64 0,.int .i64 0,.string (⟨#[]⟩:ByteArray),.string (⟨#[]⟩:ByteArray),.string (⟨#[]⟩:ByteArray),.string (⟨#[]⟩:ByteArray)]) ?_ 7 _ rfl;(with_reducible repeat (first|refine blk_drewN ?_ _|refine blk_drew ?_|refine blk_alloc ?_ _));refine blk_put (cs:=#[.int .i64 t102,.int .i64 t103,.int .i64 t104,.string t105,.int .i64 t106,.int .i64 t107,.int .i64 0,.int .i64 0,.int .i64 0,.string (⟨#[]⟩:ByteArray),.string (⟨#[]⟩:ByteArray),.string (⟨#[]⟩:ByteArray),.string (⟨#[]⟩:ByteArray)]) ?_ 6 _ rfl;(with_reducible repeat (first|refine blk_drewN ?_ _|refine blk_drew ?_|refine blk_alloc ?_ _));refine blk_put (cs:=#[.int .i64 t102,.int .i64 t103,.int .i64 t104,.string t105,.int .i64 t106,.int .i64 0,.int .i64 0,.int .i64 0,.int .i64 0,.string (⟨#[]⟩:ByteArray),.string (⟨#[]⟩:ByteArray),.string (⟨#[]⟩:ByteArray),.string (⟨#[]⟩:ByteArray)]) ?_ 5 _ rfl;(with_reducible repeat (first|refine blk_drewN ?_ _|refine blk_drew ?_|refine blk_alloc ?_ _));refine blk_put (cs:=#[.int .i64 t102,.int .i64 t103,.int .i64 t104,.string t105,.int .i64 0,.int .i64 0,.int .i64 0,.int .i64 0,.int .i64 0,.string (⟨#[]⟩:ByteArray),.string (⟨#[]⟩:ByteArray),.string (⟨#[]⟩:ByteArray),.string (⟨#[]⟩:ByteArray)]) ?_ 4 _ rfl;(with_reducible repeat (first|refine blk_drewN ?_ _|refine blk_drew ?_|refine blk_alloc ?_ _));refine blk_put (cs:=#[.int .i64 t102,.int .i64 t103,.int .i64 t104,.string (⟨#[]⟩:ByteArray),.int .i64 0,.int .i64 0,.int .i64 0,.int .i64 0,.int .i64 0,.string (⟨#[]⟩:ByteArray),.string (⟨#[]⟩:ByteArray),.string (⟨#[]⟩:ByteArray),.string (⟨#[]⟩:ByteArray)]) ?_ 3 _ rfl;(with_reducible repeat (first|refine blk_drewN ?_ _|refine blk_drew ?_|refine blk_alloc ?_ _));refine blk_put (cs:=#[.int .i64 t102,.int .i64 t103,.int .i64 0,.string (⟨#[]⟩:ByteArray),.int .i64 0,.int .i64 0,.int .i64 0,.int .i64 0,.int .i64 0,.string (⟨#[]⟩:ByteArray),.string (⟨#[]⟩:ByteArray),.string (⟨#[]⟩:ByteArray),.string (⟨#[]⟩:ByteArray)]) ?_ 2 _ rfl;(with_reducible repeat (first|refine blk_drewN ?_ _|refine blk_drew ?_|refine blk_alloc ?_ _));refine blk_put (cs:=#[.int .i64 t102,.int .i64 0,.int .i64 0,.string (⟨#[]⟩:ByteArray),.int .i64 0,.int .i64 0,.int .i64 0,.int .i64 0,.int .i64 0,.string (⟨#[]⟩:ByteArray),.string (⟨#[]⟩:ByteArray),.string (⟨#[]⟩:ByteArray),.string (⟨#[]⟩:ByteArray)]) ?_ 1 _ rfl;(with_reducible repeat (first|refine blk_drewN ?_ _|refine blk_drew ?_|refine blk_alloc ?_ _));refine blk_put (cs:=#[.int .i64 0,.int .i64 0,.int .i64 0,.string (⟨#[]⟩:ByteArray),.int .i64 0,.int .i64 0,.int .i64 0,.int .i64 0,.int .i64 0,.string (⟨#[]⟩:ByteArray),.string (⟨#[]⟩:ByteArray),.string (⟨#[]⟩:ByteArray),.string (⟨#[]⟩:ByteArray)]) ?_ 0 _ rfl;(with_reducible repeat (first|refine blk_drewN ?_ _|refine blk_drew ?_|refine blk_alloc ?_ _));exact BK116.out) hb);have n2_:=Aside0.mk (below_step (by repeat (first|(with_reducible first|exact HB.out|apply below_alloc|apply pw_below_drewN|apply below_drew1|refine below_set ?_ GE101.out|refine below_set ?_ GE116.out)|exact HB.out)) hb);clear BK101;clear BK116;clear HB;have BK101:=n0_;have BK116:=n1_;have HB:=n2_;clear n0_ n1_ n2_;(try clear hb);(try clear hb2);(try clear hk);(try clear hi))|((with_reducible refine gate_dst (N:=7) rfl ?_);refine box_event ?hg (N:=7) ?hd (cs:=#[.int .i64 0,.int .i64 0,.int .i64 0,.string (⟨#[]⟩:ByteArray),.int .i64 0,.int .i64 0,.int .i64 0,.int .i64 0,.int .i64 0,.string (⟨#[]⟩:ByteArray),.string (⟨#[]⟩:ByteArray),.string (⟨#[]⟩:ByteArray),.string (⟨#[]⟩:ByteArray)]) (t:=27) ?hr ?_;(case hd=>rfl);(case hg=>rfl);(case hr=>first|(go_simp;done)|(go_simp;rfl));intro gb131 hg w17 hbox hb;have n0_:=Aside0.mk (blk_below (g:=gb101) (o:=.cells #[.int .i64 a0_0,.int .i64 a0_1,.int .i64 a0_2,.string a0_3,.int .i64 a0_4,.int .i64 a0_5,.int .i64 a0_6,.int .i64 a0_7,.int .i64 a0_8,.string a0_9,.string a0_10,.string a0_11,.string a0_12] 27 (0,0)) (by (with_reducible repeat (first|refine blk_drewN ?_ _|refine blk_drew ?_|refine blk_alloc ?_ _));exact BK101.out) hb);have n1_:=Aside0.mk (blk_below (g:=gb116) (o:=.cells #[.int .i64 t102,.int .i64 t103,.int .i64 t104,.string t105,.int .i64 t106,.int .i64 t107,.int .i64 t108,.int .i64 t109,.int .i64 t110,.string t111,.string t112,.string t113,.string t114] 27 (0,0)) (by (with_reducible repeat (first|refine blk_drewN ?_ _|refine blk_drew ?_|refine blk_alloc ?_ _));exact BK116.out) hb);have n2_:=Aside0.mk (below_step (by repeat (first|(with_reducible first|exact HB.out|apply below_alloc|apply pw_below_drewN|apply below_drew1|refine below_set ?_ GE101.out|refine below_set ?_ GE116.out)|exact HB.out)) hb);have n3_:=Aside0.mk (hbox);have n4_:=Aside0.mk ((by rw [hg];exact (below_size (by repeat (first|(with_reducible first|exact HB.out|apply below_alloc|apply pw_below_drewN|apply below_drew1|refine below_set ?_ GE101.out|refine below_set ?_ GE116.out)|exact HB.out))):w.heap.size≤gb131));have n5_:=Aside0.mk ((by rw [hg];exact (below_size (by repeat (first|(with_reducible first|exact HB.out|apply below_alloc|apply pw_below_drewN|apply below_drew1|refine below_set ?_ GE101.out|refine below_set ?_ GE116.out)|exact HB.out))):w.heap.size≤gb131));have n6_:=Aside0.mk ((by rw [hg];exact Nat.ne_of_lt (blk_lt (g:=gb101) (o:=.cells #[.int .i64 a0_0,.int .i64 a0_1,.int .i64 a0_2,.string a0_3,.int .i64 a0_4,.int .i64 a0_5,.int .i64 a0_6,.int .i64 a0_7,.int .i64 a0_8,.string a0_9,.string a0_10,.string a0_11,.string a0_12] 27 (0,0)) (by (with_reducible repeat (first|refine blk_drewN ?_ _|refine blk_drew ?_|refine blk_alloc ?_ _));exact BK101.out)):gb101≠gb131));have n7_:=Aside0.mk ((by rw [hg];exact Nat.ne_of_gt (blk_lt (g:=gb101) (o:=.cells #[.int .i64 a0_0,.int .i64 a0_1,.int .i64 a0_2,.string a0_3,.int .i64 a0_4,.int .i64 a0_5,.int .i64 a0_6,.int .i64 a0_7,.int .i64 a0_8,.string a0_9,.string a0_10,.string a0_11,.string a0_12] 27 (0,0)) (by (with_reducible repeat (first|refine blk_drewN ?_ _|refine blk_drew ?_|refine blk_alloc ?_ _));exact BK101.out)):gb131≠gb101));have n8_:=Aside0.mk ((by rw [hg];exact Nat.ne_of_lt (blk_lt (g:=gb116) (o:=.cells #[.int .i64 t102,.int .i64 t103,.int .i64 t104,.string t105,.int .i64 t106,.int .i64 t107,.int .i64 t108,.int .i64 t109,.int .i64 t110,.string t111,.string t112,.string t113,.string t114] 27 (0,0)) (by (with_reducible repeat (first|refine blk_drewN ?_ _|refine blk_drew ?_|refine blk_alloc ?_ _));exact BK116.out)):gb116≠gb131));have n9_:=Aside0.mk ((by rw [hg];exact Nat.ne_of_gt (blk_lt (g:=gb116) (o:=.cells #[.int .i64 t102,.int .i64 t103,.int .i64 t104,.string t105,.int .i64 t106,.int .i64 t107,.int .i64 t108,.int .i64 t109,.int .i64 t110,.string t111,.string t112,.string t113,.string t114] 27 (0,0)) (by (with_reducible repeat (first|refine blk_drewN ?_ _|refine blk_drew ?_|refine blk_alloc ?_ _));exact BK116.out)):gb131≠gb116));clear BK101;clear BK116;clear HB;have BK101:=n0_;have BK116:=n1_;have HB:=n2_;have BK131:=n3_;have GW131:=n4_;have GE131:=n5_;have NB101_131:=n6_;have NB131_101:=n7_;have NB116_131:=n8_;have NB131_116:=n9_;clear n0_ n1_ n2_ n3_ n4_ n5_ n6_ n7_ n8_ n9_;clear hb hbox hg;have hnb18:=NB131_101.out;have hnc18:=NB101_131.out;have hnb19:=NB131_116.out;have hnc19:=NB116_131.out;have hcz20_0:w17.cell? ⟨gb131,0,none⟩=some (.int .i64 0):=(blk_cell BK131.out 0).trans rfl;have hcz20_1:w17.cell? ⟨gb131,1,none⟩=some (.int .i64 0):=(blk_cell BK131.out 1).trans rfl;have hcz20_2:w17.cell? ⟨gb131,2,none⟩=some (.int .i64 0):=(blk_cell BK131.out 2).trans rfl;have hcz20_3:w17.cell? ⟨gb131,3,none⟩=some (.string (⟨#[]⟩:ByteArray)):=(blk_cell BK131.out 3).trans rfl;have hcz20_4:w17.cell? ⟨gb131,4,none⟩=some (.int .i64 0):=(blk_cell BK131.out 4).trans rfl;have hcz20_5:w17.cell? ⟨gb131,5,none⟩=some (.int .i64 0):=(blk_cell BK131.out 5).trans rfl;have hcz20_6:w17.cell? ⟨gb131,6,none⟩=some (.int .i64 0):=(blk_cell BK131.out 6).trans rfl;have hcz20_7:w17.cell? ⟨gb131,7,none⟩=some (.int .i64 0):=(blk_cell BK131.out 7).trans rfl;have hcz20_8:w17.cell? ⟨gb131,8,none⟩=some (.int .i64 0):=(blk_cell BK131.out 8).trans rfl;have hcz20_9:w17.cell? ⟨gb131,9,none⟩=some (.string (⟨#[]⟩:ByteArray)):=(blk_cell BK131.out 9).trans rfl;have hcz20_10:w17.cell? ⟨gb131,10,none⟩=some (.string (⟨#[]⟩:ByteArray)):=(blk_cell BK131.out 10).trans rfl;have hcz20_11:w17.cell? ⟨gb131,11,none⟩=some (.string (⟨#[]⟩:ByteArray)):=(blk_cell BK131.out 11).trans rfl;have hcz20_12:w17.cell? ⟨gb131,12,none⟩=some (.string (⟨#[]⟩:ByteArray)):=(blk_cell BK131.out 12).trans rfl;have hfz20_0:=blk_frozen BK131.out 0;have hfz20_1:=blk_frozen BK131.out 1;have hfz20_2:=blk_frozen BK131.out 2;have hfz20_3:=blk_frozen BK131.out 3;have hfz20_4:=blk_frozen BK131.out 4;have hfz20_5:=blk_frozen BK131.out 5;have hfz20_6:=blk_frozen BK131.out 6;have hfz20_7:=blk_frozen BK131.out 7;have hfz20_8:=blk_frozen BK131.out 8;have hfz20_9:=blk_frozen BK131.out 9;have hfz20_10:=blk_frozen BK131.out 10;have hfz20_11:=blk_frozen BK131.out 11;have hfz20_12:=blk_frozen BK131.out 12))
    have n0_:Aside0 ((((((((((((((w17.setCell ⟨gb131,0,none⟩ (.int .i64 t117)).setCell ⟨gb131,1,none⟩ (.int .i64 t118)).setCell ⟨gb131,2,none⟩ (.int .i64 t119)).setCell ⟨gb131,3,none⟩ (.string t120)).setCell ⟨gb131,4,none⟩ (.int .i64 t121)).setCell ⟨gb131,5,none⟩ (.int .i64 t122)).setCell ⟨gb131,6,none⟩ (.int .i64 t123)).setCell ⟨gb131,7,none⟩ (.int .i64 t124)).setCell ⟨gb131,8,none⟩ (.int .i64 t125)).setCell ⟨gb131,9,none⟩ (.string t126)).setCell ⟨gb131,10,none⟩ (.string t127)).setCell ⟨gb131,11,none⟩ (.string t128)).setCell ⟨gb131,12,none⟩ (.string t129)).heap[gb101]? = some (.cells #[.int .i64 a0_0,.int .i64 a0_1,.int .i64 a0_2,.string a0_3,.int .i64 a0_4,.int .i64 a0_5,.int .i64 a0_6,.int .i64 a0_7,.int .i64 a0_8,.string a0_9,.string a0_10,.string a0_11,.string a0_12] 27 (0,0))):=⟨by (with_reducible repeat (first|refine blk_drewN ?_ _|refine blk_drew ?_|refine blk_alloc ?_ _));refine blk_far ?_ NB101_131.out _;(with_reducible repeat (first|refine blk_drewN ?_ _|refine blk_drew ?_|refine blk_alloc ?_ _));refine blk_far ?_ NB101_131.out _;(with_reducible repeat (first|refine blk_drewN ?_ _|refine blk_drew ?_|refine blk_alloc ?_ _));refine blk_far ?_ NB101_131.out _;(with_reducible repeat (first|refine blk_drewN ?_ _|refine blk_drew ?_|refine blk_alloc ?_ _));refine blk_far ?_ NB101_131.out _;(with_reducible repeat (first|refine blk_drewN ?_ _|refine blk_drew ?_|refine blk_alloc ?_ _));refine blk_far ?_ NB101_131.out _;(with_reducible repeat (first|refine blk_drewN ?_ _|refine blk_drew ?_|refine blk_alloc ?_ _));refine blk_far ?_ NB101_131.out _;(with_reducible repeat (first|refine blk_drewN ?_ _|refine blk_drew ?_|refine blk_alloc ?_ _));refine blk_far ?_ NB101_131.out _;(with_reducible repeat (first|refine blk_drewN ?_ _|refine blk_drew ?_|refine blk_alloc ?_ _));refine blk_far ?_ NB101_131.out _;(with_reducible repeat (first|refine blk_drewN ?_ _|refine blk_drew ?_|refine blk_alloc ?_ _));refine blk_far ?_ NB101_131.out _;(with_reducible repeat (first|refine blk_drewN ?_ _|refine blk_drew ?_|refine blk_alloc ?_ _));refine blk_far ?_ NB101_131.out _;(with_reducible repeat (first|refine blk_drewN ?_ _|refine blk_drew ?_|refine blk_alloc ?_ _));refine blk_far ?_ NB101_131.out _;(with_reducible repeat (first|refine blk_drewN ?_ _|refine blk_drew ?_|refine blk_alloc ?_ _));refine blk_far ?_ NB101_131.out _;(with_reducible repeat (first|refine blk_drewN ?_ _|refine blk_drew ?_|refine blk_alloc ?_ _));refine blk_far ?_ NB101_131.out _;(with_reducible repeat (first|refine blk_drewN ?_ _|refine blk_drew ?_|refine blk_alloc ?_ _));exact BK101.out⟩
    have n1_:Aside0 ((((((((((((((w17.setCell ⟨gb131,0,none⟩ (.int .i64 t117)).setCell ⟨gb131,1,none⟩ (.int .i64 t118)).setCell ⟨gb131,2,none⟩ (.int .i64 t119)).setCell ⟨gb131,3,none⟩ (.string t120)).setCell ⟨gb131,4,none⟩ (.int .i64 t121)).setCell ⟨gb131,5,none⟩ (.int .i64 t122)).setCell ⟨gb131,6,none⟩ (.int .i64 t123)).setCell ⟨gb131,7,none⟩ (.int .i64 t124)).setCell ⟨gb131,8,none⟩ (.int .i64 t125)).setCell ⟨gb131,9,none⟩ (.string t126)).setCell ⟨gb131,10,none⟩ (.string t127)).setCell ⟨gb131,11,none⟩ (.string t128)).setCell ⟨gb131,12,none⟩ (.string t129)).heap[gb116]? = some (.cells #[.int .i64 t102,.int .i64 t103,.int .i64 t104,.string t105,.int .i64 t106,.int .i64 t107,.int .i64 t108,.int .i64 t109,.int .i64 t110,.string t111,.string t112,.string t113,.string t114] 27 (0,0))):=⟨by (with_reducible repeat (first|refine blk_drewN ?_ _|refine blk_drew ?_|refine blk_alloc ?_ _));refine blk_far ?_ NB116_131.out _;(with_reducible repeat (first|refine blk_drewN ?_ _|refine blk_drew ?_|refine blk_alloc ?_ _));refine blk_far ?_ NB116_131.out _;(with_reducible repeat (first|refine blk_drewN ?_ _|refine blk_drew ?_|refine blk_alloc ?_ _));refine blk_far ?_ NB116_131.out _;(with_reducible repeat (first|refine blk_drewN ?_ _|refine blk_drew ?_|refine blk_alloc ?_ _));refine blk_far ?_ NB116_131.out _;(with_reducible repeat (first|refine blk_drewN ?_ _|refine blk_drew ?_|refine blk_alloc ?_ _));refine blk_far ?_ NB116_131.out _;(with_reducible repeat (first|refine blk_drewN ?_ _|refine blk_drew ?_|refine blk_alloc ?_ _));refine blk_far ?_ NB116_131.out _;(with_reducible repeat (first|refine blk_drewN ?_ _|refine blk_drew ?_|refine blk_alloc ?_ _));refine blk_far ?_ NB116_131.out _;(with_reducible repeat (first|refine blk_drewN ?_ _|refine blk_drew ?_|refine blk_alloc ?_ _));refine blk_far ?_ NB116_131.out _;(with_reducible repeat (first|refine blk_drewN ?_ _|refine blk_drew ?_|refine blk_alloc ?_ _));refine blk_far ?_ NB116_131.out _;(with_reducible repeat (first|refine blk_drewN ?_ _|refine blk_drew ?_|refine blk_alloc ?_ _));refine blk_far ?_ NB116_131.out _;(with_reducible repeat (first|refine blk_drewN ?_ _|refine blk_drew ?_|refine blk_alloc ?_ _));refine blk_far ?_ NB116_131.out _;(with_reducible repeat (first|refine blk_drewN ?_ _|refine blk_drew ?_|refine blk_alloc ?_ _));refine blk_far ?_ NB116_131.out _;(with_reducible repeat (first|refine blk_drewN ?_ _|refine blk_drew ?_|refine blk_alloc ?_ _));refine blk_far ?_ NB116_131.out _;(with_reducible repeat (first|refine blk_drewN ?_ _|refine blk_drew ?_|refine blk_alloc ?_ _));exact BK116.out⟩
    have n2_:Aside0 ((((((((((((((w17.setCell ⟨gb131,0,none⟩ (.int .i64 t117)).setCell ⟨gb131,1,none⟩ (.int .i64 t118)).setCell ⟨gb131,2,none⟩ (.int .i64 t119)).setCell ⟨gb131,3,none⟩ (.string t120)).setCell ⟨gb131,4,none⟩ (.int .i64 t121)).setCell ⟨gb131,5,none⟩ (.int .i64 t122)).setCell ⟨gb131,6,none⟩ (.int .i64 t123)).setCell ⟨gb131,7,none⟩ (.int .i64 t124)).setCell ⟨gb131,8,none⟩ (.int .i64 t125)).setCell ⟨gb131,9,none⟩ (.string t126)).setCell ⟨gb131,10,none⟩ (.string t127)).setCell ⟨gb131,11,none⟩ (.string t128)).setCell ⟨gb131,12,none⟩ (.string t129)).heap[gb131]? = some (.cells #[.int .i64 t117,.int .i64 t118,.int .i64 t119,.string t120,.int .i64 t121,.int .i64 t122,.int .i64 t123,.int .i64 t124,.int .i64 t125,.string t126,.string t127,.string t128,.string t129] 27 (0,0))):=⟨by (with_reducible repeat (first|refine blk_drewN ?_ _|refine blk_drew ?_|refine blk_alloc ?_ _));refine blk_put (cs:=#[.int .i64 t117,.int .i64 t118,.int .i64 t119,.string t120,.int .i64 t121,.int .i64 t122,.int .i64 t123,.int .i64 t124,.int .i64 t125,.string t126,.string t127,.string t128,.string (⟨#[]⟩:ByteArray)]) ?_ 12 _ rfl;(with_reducible repeat (first|refine blk_drewN ?_ _|refine blk_drew ?_|refine blk_alloc ?_ _));refine blk_put (cs:=#[.int .i64 t117,.int .i64 t118,.int .i64 t119,.string t120,.int .i64 t121,.int .i64 t122,.int .i64 t123,.int .i64 t124,.int .i64 t125,.string t126,.string t127,.string (⟨#[]⟩:ByteArray),.string (⟨#[]⟩:ByteArray)]) ?_ 11 _ rfl;(with_reducible repeat (first|refine blk_drewN ?_ _|refine blk_drew ?_|refine blk_alloc ?_ _));refine blk_put (cs:=#[.int .i64 t117,.int .i64 t118,.int .i64 t119,.string t120,.int .i64 t121,.int .i64 t122,.int .i64 t123,.int .i64 t124,.int .i64 t125,.string t126,.string (⟨#[]⟩:ByteArray),.string (⟨#[]⟩:ByteArray),.string (⟨#[]⟩:ByteArray)]) ?_ 10 _ rfl;(with_reducible repeat (first|refine blk_drewN ?_ _|refine blk_drew ?_|refine blk_alloc ?_ _));refine blk_put (cs:=#[.int .i64 t117,.int .i64 t118,.int .i64 t119,.string t120,.int .i64 t121,.int .i64 t122,.int .i64 t123,.int .i64 t124,.int .i64 t125,.string (⟨#[]⟩:ByteArray),.string (⟨#[]⟩:ByteArray),.string (⟨#[]⟩:ByteArray),.string (⟨#[]⟩:ByteArray)]) ?_ 9 _ rfl;(with_reducible repeat (first|refine blk_drewN ?_ _|refine blk_drew ?_|refine blk_alloc ?_ _));refine blk_put (cs:=#[.int .i64 t117,.int .i64 t118,.int .i64 t119,.string t120,.int .i64 t121,.int .i64 t122,.int .i64 t123,.int .i64 t124,.int .i64 0,.string (⟨#[]⟩:ByteArray),.string (⟨#[]⟩:ByteArray),.string (⟨#[]⟩:ByteArray),.string (⟨#[]⟩:ByteArray)]) ?_ 8 _ rfl;(with_reducible repeat (first|refine blk_drewN ?_ _|refine blk_drew ?_|refine blk_alloc ?_ _));refine blk_put (cs:=#[.int .i64 t117,.int .i64 t118,.int .i64 t119,.string t120,.int .i64 t121,.int .i64 t122,.int .i64 t123,.int .i64 0,.int .i64 0,.string (⟨#[]⟩:ByteArray),.string (⟨#[]⟩:ByteArray),.string (⟨#[]⟩:ByteArray),.string (⟨#[]⟩:ByteArray)]) ?_ 7 _ rfl;(with_reducible repeat (first|refine blk_drewN ?_ _|refine blk_drew ?_|refine blk_alloc ?_ _));refine blk_put (cs:=#[.int .i64 t117,.int .i64 t118,.int .i64 t119,.string t120,.int .i64 t121,.int .i64 t122,.int .i64 0,.int .i64 0,.int .i64 0,.string (⟨#[]⟩:ByteArray),.string (⟨#[]⟩:ByteArray),.string (⟨#[]⟩:ByteArray),.string (⟨#[]⟩:ByteArray)]) ?_ 6 _ rfl;(with_reducible repeat (first|refine blk_drewN ?_ _|refine blk_drew ?_|refine blk_alloc ?_ _));refine blk_put (cs:=#[.int .i64 t117,.int .i64 t118,.int .i64 t119,.string t120,.int .i64 t121,.int .i64 0,.int .i64 0,.int .i64 0,.int .i64 0,.string (⟨#[]⟩:ByteArray),.string (⟨#[]⟩:ByteArray),.string (⟨#[]⟩:ByteArray),.string (⟨#[]⟩:ByteArray)]) ?_ 5 _ rfl;(with_reducible repeat (first|refine blk_drewN ?_ _|refine blk_drew ?_|refine blk_alloc ?_ _));refine blk_put (cs:=#[.int .i64 t117,.int .i64 t118,.int .i64 t119,.string t120,.int .i64 0,.int .i64 0,.int .i64 0,.int .i64 0,.int .i64 0,.string (⟨#[]⟩:ByteArray),.string (⟨#[]⟩:ByteArray),.string (⟨#[]⟩:ByteArray),.string (⟨#[]⟩:ByteArray)]) ?_ 4 _ rfl;(with_reducible repeat (first|refine blk_drewN ?_ _|refine blk_drew ?_|refine blk_alloc ?_ _));refine blk_put (cs:=#[.int .i64 t117,.int .i64 t118,.int .i64 t119,.string (⟨#[]⟩:ByteArray),.int .i64 0,.int .i64 0,.int .i64 0,.int .i64 0,.int .i64 0,.string (⟨#[]⟩:ByteArray),.string (⟨#[]⟩:ByteArray),.string (⟨#[]⟩:ByteArray),.string (⟨#[]⟩:ByteArray)]) ?_ 3 _ rfl;(with_reducible repeat (first|refine blk_drewN ?_ _|refine blk_drew ?_|refine blk_alloc ?_ _));refine blk_put (cs:=#[.int .i64 t117,.int .i64 t118,.int .i64 0,.string (⟨#[]⟩:ByteArray),.int .i64 0,.int .i64 0,.int .i64 0,.int .i64 0,.int .i64 0,.string (⟨#[]⟩:ByteArray),.string (⟨#[]⟩:ByteArray),.string (⟨#[]⟩:ByteArray),.string (⟨#[]⟩:ByteArray)]) ?_ 2 _ rfl;(with_reducible repeat (first|refine blk_drewN ?_ _|refine blk_drew ?_|refine blk_alloc ?_ _));refine blk_put (cs:=#[.int .i64 t117,.int .i64 0,.int .i64 0,.string (⟨#[]⟩:ByteArray),.int .i64 0,.int .i64 0,.int .i64 0,.int .i64 0,.int .i64 0,.string (⟨#[]⟩:ByteArray),.string (⟨#[]⟩:ByteArray),.string (⟨#[]⟩:ByteArray),.string (⟨#[]⟩:ByteArray)]) ?_ 1 _ rfl;(with_reducible repeat (first|refine blk_drewN ?_ _|refine blk_drew ?_|refine blk_alloc ?_ _));refine blk_put (cs:=#[.int .i64 0,.int .i64 0,.int .i64 0,.string (⟨#[]⟩:ByteArray),.int .i64 0,.int .i64 0,.int .i64 0,.int .i64 0,.int .i64 0,.string (⟨#[]⟩:ByteArray),.string (⟨#[]⟩:ByteArray),.string (⟨#[]⟩:ByteArray),.string (⟨#[]⟩:ByteArray)]) ?_ 0 _ rfl;(with_reducible repeat (first|refine blk_drewN ?_ _|refine blk_drew ?_|refine blk_alloc ?_ _));exact BK131.out⟩
    have n3_:Aside0 (Below w.heap.size w (((((((((((((w17.setCell ⟨gb131,0,none⟩ (.int .i64 t117)).setCell ⟨gb131,1,none⟩ (.int .i64 t118)).setCell ⟨gb131,2,none⟩ (.int .i64 t119)).setCell ⟨gb131,3,none⟩ (.string t120)).setCell ⟨gb131,4,none⟩ (.int .i64 t121)).setCell ⟨gb131,5,none⟩ (.int .i64 t122)).setCell ⟨gb131,6,none⟩ (.int .i64 t123)).setCell ⟨gb131,7,none⟩ (.int .i64 t124)).setCell ⟨gb131,8,none⟩ (.int .i64 t125)).setCell ⟨gb131,9,none⟩ (.string t126)).setCell ⟨gb131,10,none⟩ (.string t127)).setCell ⟨gb131,11,none⟩ (.string t128)).setCell ⟨gb131,12,none⟩ (.string t129))):=⟨by repeat (first|(with_reducible first|exact HB.out|apply below_alloc|apply pw_below_drewN|apply below_drew1|refine below_set ?_ GE101.out|refine below_set ?_ GE116.out|refine below_set ?_ GE131.out)|exact HB.out)⟩
    (try clear BK101)
    (try clear BK116)
    (try clear BK131)
    (try clear HB)
    generalize (((((((((((((w17.setCell ⟨gb131,0,none⟩ (.int .i64 t117)).setCell ⟨gb131,1,none⟩ (.int .i64 t118)).setCell ⟨gb131,2,none⟩ (.int .i64 t119)).setCell ⟨gb131,3,none⟩ (.string t120)).setCell ⟨gb131,4,none⟩ (.int .i64 t121)).setCell ⟨gb131,5,none⟩ (.int .i64 t122)).setCell ⟨gb131,6,none⟩ (.int .i64 t123)).setCell ⟨gb131,7,none⟩ (.int .i64 t124)).setCell ⟨gb131,8,none⟩ (.int .i64 t125)).setCell ⟨gb131,9,none⟩ (.string t126)).setCell ⟨gb131,10,none⟩ (.string t127)).setCell ⟨gb131,11,none⟩ (.string t128)).setCell ⟨gb131,12,none⟩ (.string t129))=w21 at n0_ n1_ n2_ n3_ ⊢
    have BK101:=n0_
    have BK116:=n1_
    have BK131:=n2_
    have HB:=n3_
    clear n0_ n1_ n2_ n3_
    have n0_:=Aside0.mk (blk_drew BK101.out)
    have n1_:=Aside0.mk (blk_drew BK116.out)
    have n2_:=Aside0.mk (blk_drew BK131.out)
    have n3_:=Aside0.mk (below_drew1 HB.out)
    clear BK101
    clear BK116
    clear BK131
    clear HB
    have BK101:=n0_
    have BK116:=n1_
    have BK131:=n2_
    have HB:=n3_
    clear n0_ n1_ n2_ n3_
    refine start_ (n:=19) (S:=fun w'=>w'.cell? ⟨gb101,0,none⟩=some (.int .i64 a0_0)∧w'.cell? ⟨gb101,1,none⟩=some (.int .i64 a0_1)∧w'.cell? ⟨gb101,2,none⟩=some (.int .i64 a0_2)∧w'.cell? ⟨gb101,3,none⟩=some (.string a0_3)∧w'.cell? ⟨gb101,4,none⟩=some (.int .i64 a0_4)∧w'.cell? ⟨gb101,5,none⟩=some (.int .i64 a0_5)∧w'.cell? ⟨gb101,6,none⟩=some (.int .i64 a0_6)∧w'.cell? ⟨gb101,7,none⟩=some (.int .i64 a0_7)∧w'.cell? ⟨gb101,8,none⟩=some (.int .i64 a0_8)∧w'.cell? ⟨gb101,9,none⟩=some (.string a0_9)∧w'.cell? ⟨gb101,10,none⟩=some (.string a0_10)∧w'.cell? ⟨gb101,11,none⟩=some (.string a0_11)∧w'.cell? ⟨gb101,12,none⟩=some (.string a0_12)∧w'.cell? ⟨gb116,0,none⟩=some (.int .i64 t102)∧w'.cell? ⟨gb116,1,none⟩=some (.int .i64 t103)∧w'.cell? ⟨gb116,2,none⟩=some (.int .i64 t104)∧w'.cell? ⟨gb116,3,none⟩=some (.string t105)∧w'.cell? ⟨gb116,4,none⟩=some (.int .i64 t106)∧w'.cell? ⟨gb116,5,none⟩=some (.int .i64 t107)∧w'.cell? ⟨gb116,6,none⟩=some (.int .i64 t108)∧w'.cell? ⟨gb116,7,none⟩=some (.int .i64 t109)∧w'.cell? ⟨gb116,8,none⟩=some (.int .i64 t110)∧w'.cell? ⟨gb116,9,none⟩=some (.string t111)∧w'.cell? ⟨gb116,10,none⟩=some (.string t112)∧w'.cell? ⟨gb116,11,none⟩=some (.string t113)∧w'.cell? ⟨gb116,12,none⟩=some (.string t114)∧w'.cell? ⟨gb131,0,none⟩=some (.int .i64 t117)∧w'.cell? ⟨gb131,1,none⟩=some (.int .i64 t118)∧w'.cell? ⟨gb131,2,none⟩=some (.int .i64 t119)∧w'.cell? ⟨gb131,3,none⟩=some (.string t120)∧w'.cell? ⟨gb131,4,none⟩=some (.int .i64 t121)∧w'.cell? ⟨gb131,5,none⟩=some (.int .i64 t122)∧w'.cell? ⟨gb131,6,none⟩=some (.int .i64 t123)∧w'.cell? ⟨gb131,7,none⟩=some (.int .i64 t124)∧w'.cell? ⟨gb131,8,none⟩=some (.int .i64 t125)∧w'.cell? ⟨gb131,9,none⟩=some (.string t126)∧w'.cell? ⟨gb131,10,none⟩=some (.string t127)∧w'.cell? ⟨gb131,11,none⟩=some (.string t128)∧w'.cell? ⟨gb131,12,none⟩=some (.string t129)) (ds:=[]) #[J,J,J,J,J,J,J,J,J,J,J,J,J,J,J,J,J,J,J] (by kernel_rfl) rfl rfl ⟨(blk_cell BK101.out 0).trans rfl,(blk_cell BK101.out 1).trans rfl,(blk_cell BK101.out 2).trans rfl,(blk_cell BK101.out 3).trans rfl,(blk_cell BK101.out 4).trans rfl,(blk_cell BK101.out 5).trans rfl,(blk_cell BK101.out 6).trans rfl,(blk_cell BK101.out 7).trans rfl,(blk_cell BK101.out 8).trans rfl,(blk_cell BK101.out 9).trans rfl,(blk_cell BK101.out 10).trans rfl,(blk_cell BK101.out 11).trans rfl,(blk_cell BK101.out 12).trans rfl,(blk_cell BK116.out 0).trans rfl,(blk_cell BK116.out 1).trans rfl,(blk_cell BK116.out 2).trans rfl,(blk_cell BK116.out 3).trans rfl,(blk_cell BK116.out 4).trans rfl,(blk_cell BK116.out 5).trans rfl,(blk_cell BK116.out 6).trans rfl,(blk_cell BK116.out 7).trans rfl,(blk_cell BK116.out 8).trans rfl,(blk_cell BK116.out 9).trans rfl,(blk_cell BK116.out 10).trans rfl,(blk_cell BK116.out 11).trans rfl,(blk_cell BK116.out 12).trans rfl,(blk_cell BK131.out 0).trans rfl,(blk_cell BK131.out 1).trans rfl,(blk_cell BK131.out 2).trans rfl,(blk_cell BK131.out 3).trans rfl,(blk_cell BK131.out 4).trans rfl,(blk_cell BK131.out 5).trans rfl,(blk_cell BK131.out 6).trans rfl,(blk_cell BK131.out 7).trans rfl,(blk_cell BK131.out 8).trans rfl,(blk_cell BK131.out 9).trans rfl,(blk_cell BK131.out 10).trans rfl,(blk_cell BK131.out 11).trans rfl,(blk_cell BK131.out 12).trans rfl⟩ (fun hHeld=>?_);refine with_tabW contangolaw12_TradeTexts.tab3 contangolaw12_TradeTexts.bits3 (fun HT_ HW_=>?_)
    generalize w21.drew=w22 at BK101 BK116 BK131 HB hHeld ⊢
    refine take_ (i:=0) (N:=some 19) (v:=?_) (a':=?_) #[U,J,J,J,J,J,J,J,J,J,J,J,J,J,J,J,J,J,J] rfl rfl (take_ofW HT_.out HW_.out (by kernel_rfl)) (fun _ _ _ h=>h) (Or.inl ⟨by rfl,?_⟩) hHeld ?_ ?_
    rotate_left
    ·rintro w' ⟨s0,s1,s2,s3,s4,s5,s6,s7,s8,s9,s10,s11,s12,s13,s14,s15,s16,s17,s18,s19,s20,s21,s22,s23,s24,s25,s26,s27,s28,s29,s30,s31,s32,s33,s34,s35,s36,s37,s38⟩
     go_simp
     with_reducible rfl
    rotate_left
    ·simp only [Act.put,List.setIfInBounds_toArray,List.set_cons_zero,List.set_cons_succ,i64_w,i32_w]
     rfl
    refine take_ (i:=2) (N:=some 21) (v:=?_) (a':=?_) #[U,J,U,J,J,J,J,J,J,J,J,J,J,J,J,J,J,J,J] rfl rfl (take_ofW HT_.out HW_.out (by kernel_rfl)) (fun _ _ _ h=>h) (Or.inl ⟨by rfl,?_⟩) hHeld ?_ ?_
    rotate_left
    ·rintro w' ⟨s0,s1,s2,s3,s4,s5,s6,s7,s8,s9,s10,s11,s12,s13,s14,s15,s16,s17,s18,s19,s20,s21,s22,s23,s24,s25,s26,s27,s28,s29,s30,s31,s32,s33,s34,s35,s36,s37,s38⟩
     go_simp
     with_reducible rfl
    rotate_left
    ·simp only [Act.put,List.setIfInBounds_toArray,List.set_cons_zero,List.set_cons_succ,i64_w,i32_w]
     rfl
    refine one_ (i:=1) (N:=some 20) #[U,U,U,J,J,J,J,J,J,J,J,J,J,J,J,J,J,J,J] rfl rfl (one_of HT_.out (by kernel_rfl)) (by decide) (fun K hK=>?_)
    refine goes_ Tryd.func9 (by kernel_rfl) rfl #[.agg #[.int .i64 a0_0,.int .i64 a0_1,.int .i64 a0_2,.string a0_3,.int .i64 a0_4,.int .i64 a0_5,.int .i64 a0_6,.int .i64 a0_7,.int .i64 a0_8,.string a0_9,.string a0_10,.string a0_11,.string a0_12]] (by rfl) rfl rfl (by (try simp only [List.map_toArray,List.map_cons,List.map_nil]);first|done|rfl|(simp only [List.length_drop,List.length_take];rfl)) ?_
    with_reducible refine (trade_Print.calls k a0_0 a0_1 a0_2 a0_3 a0_4 a0_5 a0_6 a0_7 a0_8 a0_9 a0_10 a0_11 a0_12 t132 _ A5.out (glob_of HGL.out (by repeat (first|(with_reducible first|exact HB.out|apply below_alloc|apply pw_below_drewN|apply below_drew1|refine below_set ?_ GE101.out|refine below_set ?_ GE116.out|refine below_set ?_ GE131.out)|exact HB.out)))).mono ?_
    rintro e w23 ⟨rfl,hb⟩
    refine ⟨_,rfl,?_⟩
    have n0_:=Aside0.mk (blk_below (g:=gb101) (o:=.cells #[.int .i64 a0_0,.int .i64 a0_1,.int .i64 a0_2,.string a0_3,.int .i64 a0_4,.int .i64 a0_5,.int .i64 a0_6,.int .i64 a0_7,.int .i64 a0_8,.string a0_9,.string a0_10,.string a0_11,.string a0_12] 27 (0,0)) (by (with_reducible repeat (first|refine blk_drewN ?_ _|refine blk_drew ?_|refine blk_alloc ?_ _));exact BK101.out) hb)
    have n1_:=Aside0.mk (blk_below (g:=gb116) (o:=.cells #[.int .i64 t102,.int .i64 t103,.int .i64 t104,.string t105,.int .i64 t106,.int .i64 t107,.int .i64 t108,.int .i64 t109,.int .i64 t110,.string t111,.string t112,.string t113,.string t114] 27 (0,0)) (by (with_reducible repeat (first|refine blk_drewN ?_ _|refine blk_drew ?_|refine blk_alloc ?_ _));exact BK116.out) hb)
    have n2_:=Aside0.mk (blk_below (g:=gb131) (o:=.cells #[.int .i64 t117,.int .i64 t118,.int .i64 t119,.string t120,.int .i64 t121,.int .i64 t122,.int .i64 t123,.int .i64 t124,.int .i64 t125,.string t126,.string t127,.string t128,.string t129] 27 (0,0)) (by (with_reducible repeat (first|refine blk_drewN ?_ _|refine blk_drew ?_|refine blk_alloc ?_ _));exact BK131.out) hb)
    have n3_:=Aside0.mk (below_step (by repeat (first|(with_reducible first|exact HB.out|apply below_alloc|apply pw_below_drewN|apply below_drew1|refine below_set ?_ GE101.out|refine below_set ?_ GE116.out|refine below_set ?_ GE131.out)|exact HB.out)) hb)
    clear BK101
    clear BK116
    clear BK131
    clear HB
    have BK101:=n0_
    have BK116:=n1_
    have BK131:=n2_
    have HB:=n3_
    clear n0_ n1_ n2_ n3_
    (try clear hb)
    (try clear hb2)
    (try clear hk)
    (try clear hi)
    refine hK.out _ _ ⟨(blk_cell BK101.out 0).trans rfl,(blk_cell BK101.out 1).trans rfl,(blk_cell BK101.out 2).trans rfl,(blk_cell BK101.out 3).trans rfl,(blk_cell BK101.out 4).trans rfl,(blk_cell BK101.out 5).trans rfl,(blk_cell BK101.out 6).trans rfl,(blk_cell BK101.out 7).trans rfl,(blk_cell BK101.out 8).trans rfl,(blk_cell BK101.out 9).trans rfl,(blk_cell BK101.out 10).trans rfl,(blk_cell BK101.out 11).trans rfl,(blk_cell BK101.out 12).trans rfl,(blk_cell BK116.out 0).trans rfl,(blk_cell BK116.out 1).trans rfl,(blk_cell BK116.out 2).trans rfl,(blk_cell BK116.out 3).trans rfl,(blk_cell BK116.out 4).trans rfl,(blk_cell BK116.out 5).trans rfl,(blk_cell BK116.out 6).trans rfl,(blk_cell BK116.out 7).trans rfl,(blk_cell BK116.out 8).trans rfl,(blk_cell BK116.out 9).trans rfl,(blk_cell BK116.out 10).trans rfl,(blk_cell BK116.out 11).trans rfl,(blk_cell BK116.out 12).trans rfl,(blk_cell BK131.out 0).trans rfl,(blk_cell BK131.out 1).trans rfl,(blk_cell BK131.out 2).trans rfl,(blk_cell BK131.out 3).trans rfl,(blk_cell BK131.out 4).trans rfl,(blk_cell BK131.out 5).trans rfl,(blk_cell BK131.out 6).trans rfl,(blk_cell BK131.out 7).trans rfl,(blk_cell BK131.out 8).trans rfl,(blk_cell BK131.out 9).trans rfl,(blk_cell BK131.out 10).trans rfl,(blk_cell BK131.out 11).trans rfl,(blk_cell BK131.out 12).trans rfl⟩ (fun hHeld=>?_)
    clear hK K
    refine norm_ (a':=?_) ?_ ?_
    rotate_left
    ·show Act.put _ (some 20) _=_
     simp only [Act.put,List.setIfInBounds_toArray,List.set_cons_zero,List.set_cons_succ,i64_w,i32_w]
     rfl
    refine one_ (i:=3) (N:=some 22) #[U,U,U,U,J,J,J,J,J,J,J,J,J,J,J,J,J,J,J] rfl rfl (one_of HT_.out (by kernel_rfl)) (by decide) (fun K hK=>?_)
    refine goes_ Tryd.func10 (by kernel_rfl) rfl #[.agg #[.int .i64 a0_0,.int .i64 a0_1,.int .i64 a0_2,.string a0_3,.int .i64 a0_4,.int .i64 a0_5,.int .i64 a0_6,.int .i64 a0_7,.int .i64 a0_8,.string a0_9,.string a0_10,.string a0_11,.string a0_12]] (by rfl) rfl rfl (by (try simp only [List.map_toArray,List.map_cons,List.map_nil]);first|done|rfl|(simp only [List.length_drop,List.length_take];rfl)) ?_
    with_reducible refine (contangoref12_Print.calls k a0_0 a0_1 a0_2 a0_3 a0_4 a0_5 a0_6 a0_7 a0_8 a0_9 a0_10 a0_11 a0_12 t133 _ A6.out).mono ?_
    rintro e w24 ⟨rfl,hb⟩
    refine ⟨_,rfl,?_⟩
    have n0_:=Aside0.mk (blk_below (g:=gb101) (o:=.cells #[.int .i64 a0_0,.int .i64 a0_1,.int .i64 a0_2,.string a0_3,.int .i64 a0_4,.int .i64 a0_5,.int .i64 a0_6,.int .i64 a0_7,.int .i64 a0_8,.string a0_9,.string a0_10,.string a0_11,.string a0_12] 27 (0,0)) (by (with_reducible repeat (first|refine blk_drewN ?_ _|refine blk_drew ?_|refine blk_alloc ?_ _));exact BK101.out) hb)
    have n1_:=Aside0.mk (blk_below (g:=gb116) (o:=.cells #[.int .i64 t102,.int .i64 t103,.int .i64 t104,.string t105,.int .i64 t106,.int .i64 t107,.int .i64 t108,.int .i64 t109,.int .i64 t110,.string t111,.string t112,.string t113,.string t114] 27 (0,0)) (by (with_reducible repeat (first|refine blk_drewN ?_ _|refine blk_drew ?_|refine blk_alloc ?_ _));exact BK116.out) hb)
    have n2_:=Aside0.mk (blk_below (g:=gb131) (o:=.cells #[.int .i64 t117,.int .i64 t118,.int .i64 t119,.string t120,.int .i64 t121,.int .i64 t122,.int .i64 t123,.int .i64 t124,.int .i64 t125,.string t126,.string t127,.string t128,.string t129] 27 (0,0)) (by (with_reducible repeat (first|refine blk_drewN ?_ _|refine blk_drew ?_|refine blk_alloc ?_ _));exact BK131.out) hb)
    have n3_:=Aside0.mk (below_step (by repeat (first|(with_reducible first|exact HB.out|apply below_alloc|apply pw_below_drewN|apply below_drew1|refine below_set ?_ GE101.out|refine below_set ?_ GE116.out|refine below_set ?_ GE131.out)|exact HB.out)) hb)
    clear BK101
    clear BK116
    clear BK131
    clear HB
    have BK101:=n0_
    have BK116:=n1_
    have BK131:=n2_
    have HB:=n3_
    clear n0_ n1_ n2_ n3_
    (try clear hb)
    (try clear hb2)
    (try clear hk)
    (try clear hi)
    refine hK.out _ _ ⟨(blk_cell BK101.out 0).trans rfl,(blk_cell BK101.out 1).trans rfl,(blk_cell BK101.out 2).trans rfl,(blk_cell BK101.out 3).trans rfl,(blk_cell BK101.out 4).trans rfl,(blk_cell BK101.out 5).trans rfl,(blk_cell BK101.out 6).trans rfl,(blk_cell BK101.out 7).trans rfl,(blk_cell BK101.out 8).trans rfl,(blk_cell BK101.out 9).trans rfl,(blk_cell BK101.out 10).trans rfl,(blk_cell BK101.out 11).trans rfl,(blk_cell BK101.out 12).trans rfl,(blk_cell BK116.out 0).trans rfl,(blk_cell BK116.out 1).trans rfl,(blk_cell BK116.out 2).trans rfl,(blk_cell BK116.out 3).trans rfl,(blk_cell BK116.out 4).trans rfl,(blk_cell BK116.out 5).trans rfl,(blk_cell BK116.out 6).trans rfl,(blk_cell BK116.out 7).trans rfl,(blk_cell BK116.out 8).trans rfl,(blk_cell BK116.out 9).trans rfl,(blk_cell BK116.out 10).trans rfl,(blk_cell BK116.out 11).trans rfl,(blk_cell BK116.out 12).trans rfl,(blk_cell BK131.out 0).trans rfl,(blk_cell BK131.out 1).trans rfl,(blk_cell BK131.out 2).trans rfl,(blk_cell BK131.out 3).trans rfl,(blk_cell BK131.out 4).trans rfl,(blk_cell BK131.out 5).trans rfl,(blk_cell BK131.out 6).trans rfl,(blk_cell BK131.out 7).trans rfl,(blk_cell BK131.out 8).trans rfl,(blk_cell BK131.out 9).trans rfl,(blk_cell BK131.out 10).trans rfl,(blk_cell BK131.out 11).trans rfl,(blk_cell BK131.out 12).trans rfl⟩ (fun hHeld=>?_)
    clear hK K
    refine norm_ (a':=?_) ?_ ?_
    rotate_left
    ·show Act.put _ (some 22) _=_
     simp only [Act.put,List.setIfInBounds_toArray,List.set_cons_zero,List.set_cons_succ,i64_w,i32_w]
     rfl
    refine pure_ (i:=4) (N:=some 23) (v:=?_) (a':=?_) #[U,U,U,U,U,J,J,J,J,J,J,J,J,J,J,J,J,J,J] rfl rfl (any_of HT_.out (by kernel_rfl)) (fun _ _ _ h=>h) (Or.inl ⟨by rfl,?_⟩) ?_ ?_
    rotate_left
    ·intro w'
     go_simp
     with_reducible rfl
    rotate_left
    ·simp only [Act.put,List.setIfInBounds_toArray,List.set_cons_zero,List.set_cons_succ,i64_w,i32_w]
     rfl
    refine pure_ (i:=5) (N:=some 24) (v:=?_) (a':=?_) #[U,U,U,U,U,U,J,J,J,J,J,J,J,J,J,J,J,J,J] rfl rfl (any_of HT_.out (by kernel_rfl)) (fun _ _ _ h=>h) (Or.inl ⟨by rfl,?_⟩) ?_ ?_
    rotate_left
    ·intro w'
     go_simp
     with_reducible rfl
    rotate_left
    ·simp only [Act.put,List.setIfInBounds_toArray,List.set_cons_zero,List.set_cons_succ,i64_w,i32_w]
     rfl
    refine take_ (i:=6) (N:=some 25) (v:=?_) (a':=?_) #[U,U,U,U,U,U,U,J,J,J,J,J,J,J,J,J,J,J,J] rfl rfl (take_ofW HT_.out HW_.out (by kernel_rfl)) (fun _ _ _ h=>h) (Or.inl ⟨by rfl,?_⟩) hHeld ?_ ?_
    rotate_left
    ·rintro w' ⟨s0,s1,s2,s3,s4,s5,s6,s7,s8,s9,s10,s11,s12,s13,s14,s15,s16,s17,s18,s19,s20,s21,s22,s23,s24,s25,s26,s27,s28,s29,s30,s31,s32,s33,s34,s35,s36,s37,s38⟩
     go_simp
     with_reducible rfl
    rotate_left
    ·simp only [Act.put,List.setIfInBounds_toArray,List.set_cons_zero,List.set_cons_succ,i64_w,i32_w]
     rfl
    refine take_ (i:=7) (N:=some 26) (v:=?_) (a':=?_) #[U,U,U,U,U,U,U,U,J,J,J,J,J,J,J,J,J,J,J] rfl rfl (take_ofW HT_.out HW_.out (by kernel_rfl)) (fun _ _ _ h=>h) (Or.inl ⟨by rfl,?_⟩) hHeld ?_ ?_
    rotate_left
    ·rintro w' ⟨s0,s1,s2,s3,s4,s5,s6,s7,s8,s9,s10,s11,s12,s13,s14,s15,s16,s17,s18,s19,s20,s21,s22,s23,s24,s25,s26,s27,s28,s29,s30,s31,s32,s33,s34,s35,s36,s37,s38⟩
     go_simp
     with_reducible rfl
    rotate_left
    ·simp only [Act.put,List.setIfInBounds_toArray,List.set_cons_zero,List.set_cons_succ,i64_w,i32_w]
     rfl
    refine pure_ (i:=8) (N:=some 27) (v:=?_) (a':=?_) #[U,U,U,U,U,U,U,U,U,J,J,J,J,J,J,J,J,J,J] rfl rfl (any_of HT_.out (by kernel_rfl)) (fun _ _ _ h=>h) (Or.inl ⟨by rfl,?_⟩) ?_ ?_
    rotate_left
    ·intro w'
     go_simp
     with_reducible rfl
    rotate_left
    ·simp only [Act.put,List.setIfInBounds_toArray,List.set_cons_zero,List.set_cons_succ,i64_w,i32_w]
     rfl
    refine pure_ (i:=9) (N:=some 28) (v:=?_) (a':=?_) #[U,U,U,U,U,U,U,U,U,U,J,J,J,J,J,J,J,J,J] rfl rfl (any_of HT_.out (by kernel_rfl)) (fun _ _ _ h=>h) (Or.inl ⟨by rfl,?_⟩) ?_ ?_
    rotate_left
    ·intro w'
     go_simp
     with_reducible rfl
    rotate_left
    ·simp only [Act.put,List.setIfInBounds_toArray,List.set_cons_zero,List.set_cons_succ,i64_w,i32_w]
     rfl
    refine pure_ (i:=10) (N:=some 29) (v:=?_) (a':=?_) #[U,U,U,U,U,U,U,U,U,U,U,J,J,J,J,J,J,J,J] rfl rfl (any_of HT_.out (by kernel_rfl)) (fun _ _ _ h=>h) (Or.inl ⟨by rfl,?_⟩) ?_ ?_
    rotate_left
    ·intro w'
     go_simp
     with_reducible rfl
    rotate_left
    ·simp only [Act.put,List.setIfInBounds_toArray,List.set_cons_zero,List.set_cons_succ,i64_w,i32_w]
     rfl
    refine pure_ (i:=11) (N:=some 30) (v:=?_) (a':=?_) #[U,U,U,U,U,U,U,U,U,U,U,U,J,J,J,J,J,J,J] rfl rfl (any_of HT_.out (by kernel_rfl)) (fun _ _ _ h=>h) (Or.inl ⟨by rfl,?_⟩) ?_ ?_
    rotate_left
    ·intro w'
     go_simp
     with_reducible rfl
    rotate_left
    ·simp only [Act.put,List.setIfInBounds_toArray,List.set_cons_zero,List.set_cons_succ,i64_w,i32_w]
     rfl
    refine pure_ (i:=12) (N:=some 31) (v:=?_) (a':=?_) #[U,U,U,U,U,U,U,U,U,U,U,U,U,J,J,J,J,J,J] rfl rfl (any_of HT_.out (by kernel_rfl)) (fun _ _ _ h=>h) (Or.inl ⟨by rfl,?_⟩) ?_ ?_
    rotate_left
    ·intro w'
     go_simp
     with_reducible rfl
    rotate_left
    ·simp only [Act.put,List.setIfInBounds_toArray,List.set_cons_zero,List.set_cons_succ,i64_w,i32_w]
     rfl
    refine pure_ (i:=13) (N:=some 32) (v:=?_) (a':=?_) #[U,U,U,U,U,U,U,U,U,U,U,U,U,U,J,J,J,J,J] rfl rfl (any_of HT_.out (by kernel_rfl)) (fun _ _ _ h=>h) (Or.inl ⟨by rfl,?_⟩) ?_ ?_
    rotate_left
    ·intro w'
     go_simp
     with_reducible rfl
    rotate_left
    ·simp only [Act.put,List.setIfInBounds_toArray,List.set_cons_zero,List.set_cons_succ,i64_w,i32_w]
     rfl
    refine pure_ (i:=14) (N:=some 33) (v:=?_) (a':=?_) #[U,U,U,U,U,U,U,U,U,U,U,U,U,U,U,J,J,J,J] rfl rfl (any_of HT_.out (by kernel_rfl)) (fun _ _ _ h=>h) (Or.inl ⟨by rfl,?_⟩) ?_ ?_
    rotate_left
    ·intro w'
     go_simp
     with_reducible rfl
    rotate_left
    ·simp only [Act.put,List.setIfInBounds_toArray,List.set_cons_zero,List.set_cons_succ,i64_w,i32_w]
     rfl
    refine pure_ (i:=15) (N:=some 34) (v:=?_) (a':=?_) #[U,U,U,U,U,U,U,U,U,U,U,U,U,U,U,U,J,J,J] rfl rfl (any_of HT_.out (by kernel_rfl)) (fun _ _ _ h=>h) (Or.inl ⟨by rfl,?_⟩) ?_ ?_
    rotate_left
    ·intro w'
     go_simp
     with_reducible rfl
    rotate_left
    ·simp only [Act.put,List.setIfInBounds_toArray,List.set_cons_zero,List.set_cons_succ,i64_w,i32_w]
     rfl
    refine one_ (i:=16) (N:=some 35) #[U,U,U,U,U,U,U,U,U,U,U,U,U,U,U,U,U,J,J] rfl rfl (one_of HT_.out (by kernel_rfl)) (by decide) (fun K hK=>?_)
    refine goes_ Tryd.func11 (by kernel_rfl) rfl #[] (by rfl) rfl rfl (by (try simp only [List.map_toArray,List.map_cons,List.map_nil]);first|done|rfl|(simp only [List.length_drop,List.length_take];rfl)) ?_
    with_reducible refine (contangolaw12_goes.calls k  t134 _ A10.out (glob_of HGL.out (by repeat (first|(with_reducible first|exact HB.out|apply below_alloc|apply pw_below_drewN|apply below_drew1|refine below_set ?_ GE101.out|refine below_set ?_ GE116.out|refine below_set ?_ GE131.out)|exact HB.out)))).mono ?_
    rintro e w25 ⟨rfl,hb⟩
    refine ⟨_,rfl,?_⟩
    have n0_:=Aside0.mk (blk_below (g:=gb101) (o:=.cells #[.int .i64 a0_0,.int .i64 a0_1,.int .i64 a0_2,.string a0_3,.int .i64 a0_4,.int .i64 a0_5,.int .i64 a0_6,.int .i64 a0_7,.int .i64 a0_8,.string a0_9,.string a0_10,.string a0_11,.string a0_12] 27 (0,0)) (by (with_reducible repeat (first|refine blk_drewN ?_ _|refine blk_drew ?_|refine blk_alloc ?_ _));exact BK101.out) hb)
    have n1_:=Aside0.mk (blk_below (g:=gb116) (o:=.cells #[.int .i64 t102,.int .i64 t103,.int .i64 t104,.string t105,.int .i64 t106,.int .i64 t107,.int .i64 t108,.int .i64 t109,.int .i64 t110,.string t111,.string t112,.string t113,.string t114] 27 (0,0)) (by (with_reducible repeat (first|refine blk_drewN ?_ _|refine blk_drew ?_|refine blk_alloc ?_ _));exact BK116.out) hb)
    have n2_:=Aside0.mk (blk_below (g:=gb131) (o:=.cells #[.int .i64 t117,.int .i64 t118,.int .i64 t119,.string t120,.int .i64 t121,.int .i64 t122,.int .i64 t123,.int .i64 t124,.int .i64 t125,.string t126,.string t127,.string t128,.string t129] 27 (0,0)) (by (with_reducible repeat (first|refine blk_drewN ?_ _|refine blk_drew ?_|refine blk_alloc ?_ _));exact BK131.out) hb)
    have n3_:=Aside0.mk (below_step (by repeat (first|(with_reducible first|exact HB.out|apply below_alloc|apply pw_below_drewN|apply below_drew1|refine below_set ?_ GE101.out|refine below_set ?_ GE116.out|refine below_set ?_ GE131.out)|exact HB.out)) hb)
    clear BK101
    clear BK116
    clear BK131
    clear HB
    have BK101:=n0_
    have BK116:=n1_
    have BK131:=n2_
    have HB:=n3_
    clear n0_ n1_ n2_ n3_
    (try clear hb)
    (try clear hb2)
    (try clear hk)
    (try clear hi)
    refine hK.out _ _ ⟨(blk_cell BK101.out 0).trans rfl,(blk_cell BK101.out 1).trans rfl,(blk_cell BK101.out 2).trans rfl,(blk_cell BK101.out 3).trans rfl,(blk_cell BK101.out 4).trans rfl,(blk_cell BK101.out 5).trans rfl,(blk_cell BK101.out 6).trans rfl,(blk_cell BK101.out 7).trans rfl,(blk_cell BK101.out 8).trans rfl,(blk_cell BK101.out 9).trans rfl,(blk_cell BK101.out 10).trans rfl,(blk_cell BK101.out 11).trans rfl,(blk_cell BK101.out 12).trans rfl,(blk_cell BK116.out 0).trans rfl,(blk_cell BK116.out 1).trans rfl,(blk_cell BK116.out 2).trans rfl,(blk_cell BK116.out 3).trans rfl,(blk_cell BK116.out 4).trans rfl,(blk_cell BK116.out 5).trans rfl,(blk_cell BK116.out 6).trans rfl,(blk_cell BK116.out 7).trans rfl,(blk_cell BK116.out 8).trans rfl,(blk_cell BK116.out 9).trans rfl,(blk_cell BK116.out 10).trans rfl,(blk_cell BK116.out 11).trans rfl,(blk_cell BK116.out 12).trans rfl,(blk_cell BK131.out 0).trans rfl,(blk_cell BK131.out 1).trans rfl,(blk_cell BK131.out 2).trans rfl,(blk_cell BK131.out 3).trans rfl,(blk_cell BK131.out 4).trans rfl,(blk_cell BK131.out 5).trans rfl,(blk_cell BK131.out 6).trans rfl,(blk_cell BK131.out 7).trans rfl,(blk_cell BK131.out 8).trans rfl,(blk_cell BK131.out 9).trans rfl,(blk_cell BK131.out 10).trans rfl,(blk_cell BK131.out 11).trans rfl,(blk_cell BK131.out 12).trans rfl⟩ (fun hHeld=>?_)
    clear hK K
    refine norm_ (a':=?_) ?_ ?_
    rotate_left
    ·show Act.put _ (some 35) _=_
     simp only [Act.put,List.setIfInBounds_toArray,List.set_cons_zero,List.set_cons_succ,i64_w,i32_w]
     rfl
    refine pure_ (i:=17) (N:=some 36) (v:=?_) (a':=?_) #[U,U,U,U,U,U,U,U,U,U,U,U,U,U,U,U,U,U,J] rfl rfl (any_of HT_.out (by kernel_rfl)) (fun _ _ _ h=>h) (Or.inl ⟨by rfl,?_⟩) ?_ ?_
    rotate_left
    ·intro w'
     go_simp
     with_reducible rfl
    rotate_left
    ·simp only [Act.put,List.setIfInBounds_toArray,List.set_cons_zero,List.set_cons_succ,i64_w,i32_w]
     rfl
    refine pure_ (i:=18) (N:=some 4) (v:=?_) (a':=?_) #[U,U,U,U,U,U,U,U,U,U,U,U,U,U,U,U,U,U,U] rfl rfl (any_of HT_.out (by kernel_rfl)) (fun _ _ _ h=>h) (Or.inl ⟨by rfl,?_⟩) ?_ ?_
    rotate_left
    ·intro w'
     go_simp
     with_reducible rfl
    rotate_left
    ·simp only [Act.put,List.setIfInBounds_toArray,List.set_cons_zero,List.set_cons_succ,i64_w,i32_w]
     rfl
    refine done_ (done_of HT_.out (by kernel_rfl)) ?_
    try go_wp2
    go_ret
    exact ⟨by first|rfl|(simp [errW_none,errW_some]<;>rfl)|(simp [*,errW_none,errW_some]<;>rfl),by repeat (first|(with_reducible first|exact HB.out|apply below_alloc|apply pw_below_drewN|apply below_drew1|refine below_set ?_ GE101.out|refine below_set ?_ GE116.out|refine below_set ?_ GE131.out)|exact HB.out)⟩
   ·rw [if_neg c9] at H
    have c9b0:(t115 == t130)=false:=beq_eq_false_iff_ne.mpr c9
    have c9b1:(t115 != t130)=true:=bne_iff_ne.mpr c9
    exact absurd H (by simp)
  ·rw [if_neg c8] at H
   have c8b0:(t102 == t117 && (t103 == t118 && (t104 == t119 && ((t105.toList == t120.toList && (t106 == t121 && (t107 == t122 && (t108 == t123)))) && (t109 == t124 && (t110 == t125 && ((t111.toList == t126.toList && (t112.toList == t127.toList)) && ((t113.toList == t128.toList && (t114.toList == t129.toList))))))))))=false:=by simpa using c8
   (try (have c8b1:decide (t102=t117 && (t103 == t118 && (t104 == t119 && ((t105.toList == t120.toList && (t106 == t121 && (t107 == t122 && (t108 == t123)))) && (t109 == t124 && (t110 == t125 && ((t111.toList == t126.toList && (t112.toList == t127.toList)) && ((t113.toList == t128.toList && (t114.toList == t129.toList))))))))))=false:=by simpa using c8))
   (try (have c8b2:(t102 == t117 && (t103 == t118 && (t104 == t119 && ((t105.toList == t120.toList && (t106 == t121 && (t107 == t122 && (t108 == t123)))) && (t109 == t124 && (t110 == t125 && ((t111.toList == t126.toList && (t112.toList == t127.toList)) && ((t113.toList == t128.toList && (t114.toList == t129.toList))))))))))=false:=by simpa using c8))
   (try (have c8b3:¬ (t102=t117 && (t103 == t118 && (t104 == t119 && ((t105.toList == t120.toList && (t106 == t121 && (t107 == t122 && (t108 == t123)))) && (t109 == t124 && (t110 == t125 && ((t111.toList == t126.toList && (t112.toList == t127.toList)) && ((t113.toList == t128.toList && (t114.toList == t129.toList)))))))))):=by simpa using c8))
   clear c8
   exact absurd H (by simp)
 ·rw [if_neg c7] at H
  have c7b0:(t132.toList == t133.toList)=false:=beq_eq_false_iff_ne.mpr c7
  have c7b1:(t132.toList != t133.toList)=true:=bne_iff_ne.mpr c7
  exact absurd H (by simp)
end Go.Proofs.YthpmmofleddpnaaDoor.X
end
section
namespace Go.Proofs.YthpmmofleddpnaaDoor.Opn
open Go.ChangeShapes Go.WideShapes Go.Proofs.YthpmmofleddpnaaDoorW.PrintWords
set_option linter.unusedVariables false
set_option linter.unusedSimpArgs false
structure Opens (P:Program) (t:TypeId) {α:Type} (d:Kd α) (Ok:α → Prop):Prop where
  sz:d.sz = P.cellsOf t
  opens:∀ {H:Type} {enc:TypeId × Value → H} {w:World} {base:Nat} {spare:Nat → Bool} {held:Bool} {fuel:Nat} {cs:List Value} {x:DataW H × List MemPlace},
    DataW.trod enc P w base spare held fuel t cs = some x → (∀ n ∈ x.1.weights P t,n ≤ reachBytes) → ∃ v,d.K w v cs ∧ Ok v
theorem opens_int {P:Program} {t:TypeId} {k:IntKind} (ht:P.underlying t = some (.int k)) (hc:P.cellsOf t = 1):Opens P t (Kd.int k) (fun n=>(Lit.int k n).wf = true):=by
  refine ⟨hc.symm,fun h _=>?_⟩
  obtain ⟨n,rfl,_,hw⟩:=DataW.trod_int ht h
  exact ⟨n,rfl,hw⟩
theorem opens_string {P:Program} {t:TypeId} (ht:P.underlying t = some .string) (hc:P.cellsOf t = 1):Opens P t Kd.string (fun s=>s.size ≤ 140737488351232):=by
  refine ⟨hc.symm,fun h hw=>?_⟩
  obtain ⟨s,rfl,rfl,hs⟩:=DataW.trod_string ht h
  refine ⟨s,rfl,?_⟩
  have:=hw s.data.toList.length (by simp [DataW.weights])
  rw [Array.length_toList] at this
  exact this
structure OpensF (P:Program) (fs:List Field) (off:Nat) {α:Type} (d:Kd α) (Ok:α → Prop):Prop where
  opens:∀ {H:Type} {enc:TypeId × Value → H} {w:World} {base:Nat} {spare:Nat → Bool} {held:Bool} {n:Nat} {cs:List Value} {xs:List (DataW H × List MemPlace)},
    xs.length = fs.length → (∀ (i:Nat) (f:Field),fs[i]? = some f → DataW.trod enc P w base spare held n f.type ((cs.drop f.offset).take (P.cellsOf f.type)) = xs[i]?) →
    (∀ m ∈ DataW.weightsEach P (fs.map (·.type)) (xs.map (·.1)),m ≤ reachBytes) → ∃ v,d.K w v ((cs.drop off).take d.sz) ∧ Ok v
theorem opensF_one {P:Program} {f:Field} {off:Nat} {α:Type} {d:Kd α} {Ok:α → Prop} (h:Opens P f.type d Ok) (ho:f.offset = off):OpensF P [f] off d Ok:=by
  refine ⟨fun {H enc w base spare held n cs xs} hl hx hw=>?_⟩
  match xs,hl with
  | [x],_ =>
    have h1:=hx 0 f rfl
    obtain ⟨v,hv,hok⟩:=h.opens h1 (fun n hn=>hw n (by simpa [DataW.weightsEach] using hn))
    refine ⟨v,?_,hok⟩
    rw [h.sz,← ho]
    exact hv
theorem opensF_cons {P:Program} {f:Field} {fs:List Field} {off:Nat} {α β:Type} {d:Kd α} {d':Kd β} {Ok:α → Prop} {Ok':β → Prop} (h:Opens P f.type d Ok) (ho:f.offset = off) (h':OpensF P fs (off + d.sz) d' Ok') :
    OpensF P (f :: fs) off (Kd.pair d d') (fun p=>Ok p.1 ∧ Ok' p.2):=by
  refine ⟨fun {H enc w base spare held n cs xs} hl hx hw=>?_⟩
  match xs,hl with
  | x :: xs,hl =>
    have h1:=hx 0 f rfl
    obtain ⟨v,hv,hok⟩:=h.opens h1 (fun n hn=>hw n (by
      simp only [List.map_cons,DataW.weightsEach,List.mem_append];exact Or.inl hn))
    obtain ⟨v',hv',hok'⟩:=h'.opens (cs:=cs) (xs:=xs) (by simpa using hl) (fun i g hg=>by
      have:=hx (i + 1) g (by simpa using hg)
      simpa using this) (fun m hm=>hw m (by simp only [List.map_cons,DataW.weightsEach,List.mem_append];exact Or.inr hm))
    refine ⟨(v,v'),⟨(cs.drop off).take d.sz,(cs.drop (off + d.sz)).take d'.sz,?_,?_,hv'⟩,hok,hok'⟩
    · show (cs.drop off).take (d.sz + d'.sz) = _
      rw [List.take_add,List.drop_drop]
    · rw [h.sz,← ho];exact hv
theorem opens_struct {P:Program} {t:TypeId} {fs:Array Field} {α β:Type} {d:Kd α} {Ok:α → Prop} (h:OpensF P fs.toList 0 d Ok) (ht:P.underlying t = some (.struct fs)) (hc:d.sz = P.cellsOf t) (f:β → α) (mk:α → β) (hf:∀ a,f (mk a) = a) :
    Opens P t (Kd.iso d f) (fun b=>Ok (f b)):=by
  refine ⟨hc,fun {H enc w base spare held fuel cs x} hx hw=>?_⟩
  obtain ⟨xs,n,_,rfl,hlen,hsz,hall⟩:=DataW.trod_struct ht hx
  simp only [DataW.weights,ht] at hw
  obtain ⟨v,hv,hok⟩:=h.opens (cs:=cs) (xs:=xs) (by simpa using hsz) (fun i f hf=>hall i f (by simpa using hf)) hw
  refine ⟨mk v,?_,by rw [hf];exact hok⟩
  show d.K w (f (mk v)) cs
  rw [hf]
  rw [List.drop_zero,hc,← hlen,List.take_length] at hv
  exact hv
theorem opens_imp {P:Program} {t:TypeId} {α:Type} {d:Kd α} {Ok Ok':α → Prop} (h:Opens P t d Ok) (hi:∀ v,Ok v → Ok' v):Opens P t d Ok' :=
  ⟨h.sz,fun hx hw=>let ⟨v,hv,ho⟩:=h.opens hx hw;⟨v,hv,hi v ho⟩⟩
end Go.Proofs.YthpmmofleddpnaaDoor.Opn
end
section
namespace Go.Proofs.YthpmmofleddpnaaDoor.X
open Go.RowKit Go.Proofs.YthpmmofleddpnaaDoorW.PrintWords Go.Proofs.YthpmmofleddpnaaDoorW.PrintLast Go.Proofs.YthpmmofleddpnaaDoorW.PrintMore
attribute [local go_sem] max2_int min2_int max_two min_two max_three min_three max_four min_four
set_option linter.unusedVariables false
set_option linter.unusedSimpArgs false
def ok23 (v:S23):Prop:=v.f0.size≤140737488351232∧((Lit.int .i64 v.f1).wf=true∧((Lit.int .i64 v.f2).wf=true∧((Lit.int .i64 v.f3).wf=true)))
theorem opens23:Opn.Opens Tryd.prog 23 k23 ok23:=by
 have hu:=Tryd.underlying23
 refine Opn.opens_imp (Opn.opens_struct (Ok:=fun (p:ByteArray × (Int × (Int × (Int))))=>p.1.size≤140737488351232∧((Lit.int .i64 p.2.1).wf=true∧((Lit.int .i64 p.2.2.1).wf=true∧((Lit.int .i64 p.2.2.2).wf=true)))) ?hF hu (by kernel_rfl) (fun x:S23=>(x.f0,x.f1,x.f2,x.f3)) (fun a=>⟨a.1,a.2.1,a.2.2.1,a.2.2.2⟩) (fun _=>rfl)) ?hI
 case hF =>
  refine Opn.opensF_cons (Ok:=fun (p:ByteArray)=>p.size≤140737488351232) (Ok':=fun (p:Int × (Int × (Int)))=>(Lit.int .i64 p.1).wf=true∧((Lit.int .i64 p.2.1).wf=true∧((Lit.int .i64 p.2.2).wf=true))) (h:=?_) (ho:=?_) (h':=?_)
  ·exact Opn.opens_string Tryd.underlying9 (by kernel_rfl)
  ·rfl
  ·skip
   refine Opn.opensF_cons (Ok:=fun (p:Int)=>(Lit.int .i64 p).wf=true) (Ok':=fun (p:Int × (Int))=>(Lit.int .i64 p.1).wf=true∧((Lit.int .i64 p.2).wf=true)) (h:=?_) (ho:=?_) (h':=?_)
   ·exact Opn.opens_int Tryd.underlying3 (by kernel_rfl)
   ·rfl
   ·skip
    refine Opn.opensF_cons (Ok:=fun (p:Int)=>(Lit.int .i64 p).wf=true) (Ok':=fun (p:Int)=>(Lit.int .i64 p).wf=true) (h:=?_) (ho:=?_) (h':=?_)
    ·exact Opn.opens_int Tryd.underlying3 (by kernel_rfl)
    ·rfl
    ·skip
     refine Opn.opensF_one (Ok:=fun (p:Int)=>(Lit.int .i64 p).wf=true) (h:=?_) (ho:=?_)
     ·exact Opn.opens_int Tryd.underlying3 (by kernel_rfl)
     ·rfl
 case hI=>exact fun v h=>h
def ok25 (v:S25):Prop:=v.f0.size≤140737488351232∧(v.f1.size≤140737488351232)
theorem opens25:Opn.Opens Tryd.prog 25 k25 ok25:=by
 have hu:=Tryd.underlying25
 refine Opn.opens_imp (Opn.opens_struct (Ok:=fun (p:ByteArray × (ByteArray))=>p.1.size≤140737488351232∧(p.2.size≤140737488351232)) ?hF hu (by kernel_rfl) (fun x:S25=>(x.f0,x.f1)) (fun a=>⟨a.1,a.2⟩) (fun _=>rfl)) ?hI
 case hF =>
  refine Opn.opensF_cons (Ok:=fun (p:ByteArray)=>p.size≤140737488351232) (Ok':=fun (p:ByteArray)=>p.size≤140737488351232) (h:=?_) (ho:=?_) (h':=?_)
  ·exact Opn.opens_string Tryd.underlying9 (by kernel_rfl)
  ·rfl
  ·skip
   refine Opn.opensF_one (Ok:=fun (p:ByteArray)=>p.size≤140737488351232) (h:=?_) (ho:=?_)
   ·exact Opn.opens_string Tryd.underlying9 (by kernel_rfl)
   ·rfl
 case hI=>exact fun v h=>h
def ok27 (v:S27):Prop:=(Lit.int .i64 v.f0).wf=true∧((Lit.int .i64 v.f1).wf=true∧((Lit.int .i64 v.f2).wf=true∧(ok23 v.f3∧((Lit.int .i64 v.f4).wf=true∧((Lit.int .i64 v.f5).wf=true∧(ok25 v.f6∧(ok25 v.f7)))))))
theorem opens27:Opn.Opens Tryd.prog 27 k27 ok27:=by
 have hu:=Tryd.underlying27
 refine Opn.opens_imp (Opn.opens_struct (Ok:=fun (p:Int × (Int × (Int × (S23 × (Int × (Int × (S25 × (S25))))))))=>(Lit.int .i64 p.1).wf=true∧((Lit.int .i64 p.2.1).wf=true∧((Lit.int .i64 p.2.2.1).wf=true∧(ok23 p.2.2.2.1∧((Lit.int .i64 p.2.2.2.2.1).wf=true∧((Lit.int .i64 p.2.2.2.2.2.1).wf=true∧(ok25 p.2.2.2.2.2.2.1∧(ok25 p.2.2.2.2.2.2.2)))))))) ?hF hu (by kernel_rfl) (fun x:S27=>(x.f0,x.f1,x.f2,x.f3,x.f4,x.f5,x.f6,x.f7)) (fun a=>⟨a.1,a.2.1,a.2.2.1,a.2.2.2.1,a.2.2.2.2.1,a.2.2.2.2.2.1,a.2.2.2.2.2.2.1,a.2.2.2.2.2.2.2⟩) (fun _=>rfl)) ?hI
 case hF =>
  refine Opn.opensF_cons (Ok:=fun (p:Int)=>(Lit.int .i64 p).wf=true) (Ok':=fun (p:Int × (Int × (S23 × (Int × (Int × (S25 × (S25)))))))=>(Lit.int .i64 p.1).wf=true∧((Lit.int .i64 p.2.1).wf=true∧(ok23 p.2.2.1∧((Lit.int .i64 p.2.2.2.1).wf=true∧((Lit.int .i64 p.2.2.2.2.1).wf=true∧(ok25 p.2.2.2.2.2.1∧(ok25 p.2.2.2.2.2.2))))))) (h:=?_) (ho:=?_) (h':=?_)
  ·exact Opn.opens_int Tryd.underlying3 (by kernel_rfl)
  ·rfl
  ·skip
   refine Opn.opensF_cons (Ok:=fun (p:Int)=>(Lit.int .i64 p).wf=true) (Ok':=fun (p:Int × (S23 × (Int × (Int × (S25 × (S25))))))=>(Lit.int .i64 p.1).wf=true∧(ok23 p.2.1∧((Lit.int .i64 p.2.2.1).wf=true∧((Lit.int .i64 p.2.2.2.1).wf=true∧(ok25 p.2.2.2.2.1∧(ok25 p.2.2.2.2.2)))))) (h:=?_) (ho:=?_) (h':=?_)
   ·exact Opn.opens_int Tryd.underlying3 (by kernel_rfl)
   ·rfl
   ·skip
    refine Opn.opensF_cons (Ok:=fun (p:Int)=>(Lit.int .i64 p).wf=true) (Ok':=fun (p:S23 × (Int × (Int × (S25 × (S25)))))=>ok23 p.1∧((Lit.int .i64 p.2.1).wf=true∧((Lit.int .i64 p.2.2.1).wf=true∧(ok25 p.2.2.2.1∧(ok25 p.2.2.2.2))))) (h:=?_) (ho:=?_) (h':=?_)
    ·exact Opn.opens_int Tryd.underlying3 (by kernel_rfl)
    ·rfl
    ·skip
     refine Opn.opensF_cons (Ok:=fun (p:S23)=>ok23 p) (Ok':=fun (p:Int × (Int × (S25 × (S25))))=>(Lit.int .i64 p.1).wf=true∧((Lit.int .i64 p.2.1).wf=true∧(ok25 p.2.2.1∧(ok25 p.2.2.2)))) (h:=?_) (ho:=?_) (h':=?_)
     ·exact opens23
     ·rfl
     ·skip
      refine Opn.opensF_cons (Ok:=fun (p:Int)=>(Lit.int .i64 p).wf=true) (Ok':=fun (p:Int × (S25 × (S25)))=>(Lit.int .i64 p.1).wf=true∧(ok25 p.2.1∧(ok25 p.2.2))) (h:=?_) (ho:=?_) (h':=?_)
      ·exact Opn.opens_int Tryd.underlying3 (by kernel_rfl)
      ·rfl
      ·skip
       refine Opn.opensF_cons (Ok:=fun (p:Int)=>(Lit.int .i64 p).wf=true) (Ok':=fun (p:S25 × (S25))=>ok25 p.1∧(ok25 p.2)) (h:=?_) (ho:=?_) (h':=?_)
       ·exact Opn.opens_int Tryd.underlying3 (by kernel_rfl)
       ·rfl
       ·skip
        refine Opn.opensF_cons (Ok:=fun (p:S25)=>ok25 p) (Ok':=fun (p:S25)=>ok25 p) (h:=?_) (ho:=?_) (h':=?_)
        ·exact opens25
        ·rfl
        ·skip
         refine Opn.opensF_one (Ok:=fun (p:S25)=>ok25 p) (h:=?_) (ho:=?_)
         ·exact opens25
         ·rfl
 case hI=>exact fun v h=>h
end Go.Proofs.YthpmmofleddpnaaDoor.X
end
section
namespace Go.Proofs.YthpmmofleddpnaaDoor.P
open Go.RowKit Go.Proofs.YthpmmofleddpnaaDoorW.PrintWords Go.Proofs.YthpmmofleddpnaaDoorW.PrintMore Go.Proofs.YthpmmofleddpnaaDoor.X
theorem Ev_succ {α:Type} {g:Nat→Option α} {r:α} (h:Ev (fun k=>g (k+1)) r):Ev g r:=Ev.step (fun _=>rfl) h
theorem Ev_all {α:Type} {g:Nat→Option α} {r:α} (h:∀ k,g k=some r):Ev g r:=⟨0,fun k _=>h k⟩
theorem Ev_bind {α β:Type} {g:Nat→Option α} {f:Nat→α→Option β} {a:α} {r:β} (h:Ev g a) (k:Ev (fun n=>f n a) r):Ev (fun n=>(g n).bind (f n)) r:=Ev.bind h k
theorem Ev_id {α:Type} {g:Nat→Option α} {r:α} (h:Ev g r):Ev (fun n=>(g n).bind fun x=>some x) r:=Ev.bind h (Ev.now _)
theorem w_id {x:Int} (h1:-9223372036854775808≤x) (h2:x≤9223372036854775807):wrap64 x=x:=by unfold wrap64;omega
theorem w_succ {i n:Nat} (h:i < n) (hn:n≤9223372036854775807):wrap64 ((i:Int)+1)=((i+1:Nat):Int):=by rw [w_id (by omega) (by omega)];omega
theorem wf_rng {a:Int} (h:(Lit.int .i64 a).wf=true):-9223372036854775808≤a∧a≤9223372036854775807:=by
 simpa [Lit.wf,IntKind.min,IntKind.max,IntKind.signed,IntKind.bits] using h
theorem rd_nat (xs:List Int) (i:Nat) (h:i < xs.length):rd xs (i:Int)=xs[i]:=by simp [rd,h]
theorem rdOf_nat {α:Type} (d:α) (xs:List α) (i:Nat) (h:i < xs.length):rdOf d xs (i:Int)=xs[i]:=by simp [rdOf,h]
theorem drop_cons {α:Type} (l:List α) (i:Nat) (h:i < l.length):l.drop i=l[i] :: l.drop (i+1):=(List.getElem_cons_drop h).symm
theorem ba_ext {a b:ByteArray} (h:a.toList=b.toList):a=b:=by
 have e:∀ c:ByteArray,c.toList=c.data.toList:=fun c=>ByteArray.toList_eq c
 rw [e,e] at h
 cases a;cases b
 congr 1
 exact Array.toList_inj.1 h
end Go.Proofs.YthpmmofleddpnaaDoor.P
end
section
namespace Go.Proofs.YthpmmofleddpnaaDoor.P
set_option linter.unusedVariables false
set_option linter.unusedSimpArgs false
open Go.RowKit Go.Proofs.YthpmmofleddpnaaDoorW.PrintWords Go.Proofs.YthpmmofleddpnaaDoorW.PrintMore Go.Proofs.YthpmmofleddpnaaDoor.X
theorem leapR_f (y:Int):contangoref05_Leap.f y=some (leapB y):=by unfold contangoref05_Leap.f leapB;split<;>(try split)<;>rfl
theorem daysR_f (y m:Int):Ev (fun k=>contangoref05_Days.f k y m) (daysV y m):=by
 refine Ev_succ (Ev_succ ?_)
 by_cases h:1≤m∧m≤12
 ·have h':m=1∨m=2∨m=3∨m=4∨m=5∨m=6∨m=7∨m=8∨m=9∨m=10∨m=11∨m=12:=by omega
  rcases h' with rfl|rfl|rfl|rfl|rfl|rfl|rfl|rfl|rfl|rfl|rfl|rfl <;>
   (refine Ev_all fun k=>?_
    simp only [contangoref05_Days.f,contangoref05_Days.j0,contangoref05_Days.j1,leapR_f,daysV]
    cases leapB y<;>rfl)
 ·refine Ev_all fun k=>?_
  have e:daysV y m=0:=if_neg h
  rw [e]
  have n1:m≠1:=by omega
  have n2:m≠2:=by omega
  have n3:m≠3:=by omega
  have n4:m≠4:=by omega
  have n5:m≠5:=by omega
  have n6:m≠6:=by omega
  have n7:m≠7:=by omega
  have n8:m≠8:=by omega
  have n9:m≠9:=by omega
  have n10:m≠10:=by omega
  have n11:m≠11:=by omega
  have n12:m≠12:=by omega
  simp [contangoref05_Days.f,contangoref05_Days.j0,contangoref05_Days.j1,n1,n2,n3,n4,n5,n6,n7,n8,n9,n10,n11,n12]
theorem monSum_all (b:Bool):monSum b 13=if b=true then 366 else 365:=by cases b<;>decide
theorem startV_succ {c:Int} (h1:2000≤c) (h2:c≤2199):startV (c+1)=startV c+(if leapB c=true then 366 else 365):=by
 have h:=year_len (c - 2000).toNat (by omega)
 have e:(2000:Int)+(((c - 2000).toNat:Nat):Int)=c:=by omega
 rw [e,monSum_all] at h
 omega
theorem startV_zero:startV 2000=0:=by decide
theorem startV_rng1 {y:Int} (h1:2000≤y) (h2:y≤2200):0≤startV y∧startV y≤100000:=by unfold startV leapsV;omega
theorem ofR_years {y:Int} (hy:y≤2199):∀ (d:Nat) (c n:Int),c+d=y→2000≤c→0≤n→n≤1000+startV c→Ev (fun k=>contangoref05_Of.l1 k y n c) (n+(startV y - startV c),0)
 | 0,c,n,hd,h1,h2,h3=>by
  obtain rfl:c=y:=by omega
  refine Ev_succ (Ev_all fun k=>?_)
  simp only [contangoref05_Of.l1]
  rw [if_neg (by omega)]
  congr 2
  omega
 | d+1,c,n,hd,h1,h2,h3=>by
  have hr:=startV_rng1 h1 (y:=c) (by omega)
  have hs:=startV_succ h1 (by omega)
  have ih:=ofR_years hy d (c+1)
  refine Ev_succ ?_
  have hc:c < y:=by omega
  have w1:wrap64 (c+1)=c+1:=w_id (by omega) (by omega)
  have w2:wrap64 (n+365)=n+365:=w_id (by omega) (by omega)
  have w3:wrap64 (n+365+1)=n+366:=by rw [w_id (by omega) (by omega)];omega
  simp only [contangoref05_Of.l1,if_pos hc,leapR_f,Option.bind_some,w1,w2,w3]
  cases hl:leapB c with
  | true =>
   rw [hl] at hs
   rw [if_pos rfl] at hs
   simp only [if_true]
   have:=ih (n+366) (by omega) (by omega) (by omega) (by omega)
   rw [show n+366+(startV y - startV (c+1))=n+(startV y - startV c) by omega] at this
   exact this
  | false =>
   rw [hl] at hs
   rw [if_neg (by decide)] at hs
   simp only [Bool.false_eq_true,if_false]
   have:=ih (n+365) (by omega) (by omega) (by omega) (by omega)
   rw [show n+365+(startV y - startV (c+1))=n+(startV y - startV c) by omega] at this
   exact this
theorem ofR_months {y:Int} (h0:2000≤y) (hy:y≤2199) {M:Nat} (hM:M≤12):∀ (d c:Nat) (n:Int),c+d=M→1≤c→0≤n→n≤50+31*c→Ev (fun k=>contangoref05_Of.l0 k y (M:Int) n (c:Int)) (n+(monSum (leapB y) M - monSum (leapB y) c)+startV y,0)
 | 0,c,n,hd,h1,h2,h3=>by
  obtain rfl:c=M:=by omega
  refine Ev_succ ?_
  have hn:¬ (c:Int) < (c:Int):=by omega
  simp only [contangoref05_Of.l0,if_neg hn]
  have:=ofR_years hy (y - 2000).toNat 2000 n (by omega) (by omega) h2 (by rw [startV_zero];omega)
  rw [startV_zero] at this
  rw [show n+(monSum (leapB y) c - monSum (leapB y) c)+startV y=n+(startV y - 0) by omega]
  exact this
 | d+1,c,n,hd,h1,h2,h3=>by
  have hl:=monLen_rng (leapB y) c
  have hc:(c:Int) < (M:Int):=by omega
  have e:daysV y (c:Int)=monLen (leapB y) c:=by unfold daysV;rw [if_pos (by omega)];rfl
  refine Ev_succ ?_
  simp only [contangoref05_Of.l0,if_pos hc]
  refine Ev_bind (daysR_f y c) ?_
  have w1:wrap64 ((c:Int)+1)=((c+1:Nat):Int):=by rw [w_id (by omega) (by omega)];omega
  have w2:wrap64 (n+monLen (leapB y) c)=n+monLen (leapB y) c:=w_id (by omega) (by omega)
  rw [e]
  simp only [w1,w2]
  have:=ofR_months h0 hy hM d (c+1) (n+monLen (leapB y) c) (by omega) (by omega) (by omega) (by omega)
  have es:monSum (leapB y) (c+1)=monSum (leapB y) c+monLen (leapB y) c:=rfl
  rw [es,show n+monLen (leapB y) c+(monSum (leapB y) M - (monSum (leapB y) c+monLen (leapB y) c))+startV y=n+(monSum (leapB y) M - monSum (leapB y) c)+startV y by omega] at this
  exact this
theorem ofR_f (y m d:Int):Ev (fun k=>contangoref05_Of.f k y m d) (ofV y m d):=by
 unfold contangoref05_Of.f ofV
 have bad:Ev (fun k=>contangoref05_Of.j0 k y m d true) ((0:Int),(15:Int)):=Ev_succ (Ev_all fun k=>by simp only [contangoref05_Of.j0,if_true])
 by_cases c1:y < 2000
 ·rw [if_pos (Or.inl c1)];simp only [if_pos c1];exact bad
 simp only [if_neg c1]
 by_cases c2:y > 2199
 ·rw [if_pos (Or.inr (Or.inl c2))];simp only [if_pos c2];exact bad
 simp only [if_neg c2]
 by_cases c3:d < 1
 ·rw [if_pos (Or.inr (Or.inr (Or.inl c3)))];simp only [if_pos c3];exact bad
 simp only [if_neg c3]
 refine Ev_bind (daysR_f y m) ?_
 by_cases c4:d > daysV y m
 ·rw [if_pos (Or.inr (Or.inr (Or.inr c4)))];simp only [c4,decide_true];exact bad
 rw [if_neg (by omega)]
 simp only [c4,decide_false]
 refine Ev_succ ?_
 obtain ⟨m1,m2,m3⟩:=days_pos (by omega:1≤d) (by omega:d≤daysV y m)
 have w1:wrap64 (d - 1)=d - 1:=w_id (by omega) (by omega)
 simp only [contangoref05_Of.j0,Bool.false_eq_true,if_false,w1]
 have:=ofR_months (y:=y) (by omega) (by omega) (M:=m.toNat) (by omega) (m.toNat - 1) 1 (d - 1) (by omega) (by omega) (by omega) (by omega)
 rw [monSum_one,show ((m.toNat:Nat):Int)=m by omega,show d - 1+(monSum (leapB y) m.toNat - 0)+startV y=startV y+d - 1+monSum (leapB y) m.toNat by omega] at this
 exact this
theorem splitR_months {y D:Int} (h0:0≤D) (h1:D < monSum (leapB y) 13):∀ (f m:Nat),m+f=13→1≤m→m≤12→monSum (leapB y) m≤D→Ev (fun k=>contangoref05_Split.l1 k (D - monSum (leapB y) m) y (m:Int)) (y,(monAt (leapB y) D f m:Int),D - monSum (leapB y) (monAt (leapB y) D f m)+1,0)
 | 0,m,hf,a1,a2,hm=>by omega
 | f+1,m,hf,a1,a2,hm=>by
  have hD:D < 400:=by have:=monSum_all (leapB y);split at this<;>omega
  have hs:=monSum_rng (leapB y) m
  have e:daysV y (m:Int)=monLen (leapB y) m:=by unfold daysV;rw [if_pos (by omega)];rfl
  have es:monSum (leapB y) (m+1)=monSum (leapB y) m+monLen (leapB y) m:=rfl
  have hl:=monLen_rng (leapB y) m
  refine Ev_succ ?_
  simp only [contangoref05_Split.l1]
  have hd:=daysR_f y m
  rw [e] at hd
  refine Ev_bind hd ?_
  unfold monAt
  by_cases c:monLen (leapB y) m≤D - monSum (leapB y) m
  ·have c':D - monSum (leapB y) m ≥ monLen (leapB y) m:=c
   simp only [if_pos c',if_pos c]
   refine Ev_bind hd ?_
   have hm12:m+1≤12:=by
    by_cases x:m=12
    ·subst x
     rw [es] at h1
     omega
    ·omega
   have w1:wrap64 ((m:Int)+1)=((m+1:Nat):Int):=by rw [w_id (by omega) (by omega)];omega
   have w2:wrap64 (D - monSum (leapB y) m - monLen (leapB y) m)=D - monSum (leapB y) (m+1):=by rw [w_id (by omega) (by omega),es];omega
   simp only [w1,w2]
   exact splitR_months h0 h1 f (m+1) (by omega) (by omega) hm12 (by rw [es];omega)
  ·have c':¬ D - monSum (leapB y) m ≥ monLen (leapB y) m:=c
   have w1:wrap64 (D - monSum (leapB y) m+1)=D - monSum (leapB y) m+1:=w_id (by omega) (by omega)
   simp only [if_neg c',if_neg c,w1]
   exact Ev.now _
theorem startV_mono {a b:Int} (h1:2000≤a) (h2:a≤b):startV a≤startV b:=by unfold startV leapsV;omega
theorem splitR_years {day:Int} (h:0≤day∧day≤73048):∀ (d k:Nat),k+d=yearK day→Ev (fun n=>contangoref05_Split.l0 n (day - startV (2000+(k:Int))) (2000+(k:Int))) (splitV day)
 | 0,k,hd=>by
  obtain ⟨y1,y2,y3⟩:=year_ok h
  obtain rfl:k=yearK day:=by omega
  have hr:=startV_rng1 (y:=2000+(yearK day:Int)) (by omega) (by omega)
  have main:Ev (fun n=>contangoref05_Split.j2 n (day - startV (2000+(yearK day:Int))) (2000+(yearK day:Int))) (splitV day):=by
   refine Ev_succ ?_
   have:=splitR_months (y:=2000+(yearK day:Int)) (D:=day - startV (2000+(yearK day:Int))) y2 y3 12 1 (by omega) (by omega) (by omega) (by rw [monSum_one];exact y2)
   rw [monSum_one,show day - startV (2000+(yearK day:Int)) - 0=day - startV (2000+(yearK day:Int)) by omega] at this
   unfold splitV
   rw [if_pos h]
   simp only [contangoref05_Split.j2]
   exact this
  refine Ev_succ ?_
  rw [monSum_all] at y3
  simp only [contangoref05_Split.l0,leapR_f,Option.bind_some]
  cases hl:leapB (2000+(yearK day:Int)) with
  | true =>
   rw [hl,if_pos rfl] at y3
   simp only [if_true,if_pos y3]
   exact main
  | false =>
   rw [hl,if_neg (by decide)] at y3
   simp only [Bool.false_eq_true,if_false,if_pos y3]
   exact main
 | d+1,k,hd=>by
  obtain ⟨y1,y2,y3⟩:=year_ok h
  have hs:=startV_succ (c:=2000+(k:Int)) (by omega) (by omega)
  have hm:=startV_mono (a:=2000+(k:Int)+1) (b:=2000+(yearK day:Int)) (by omega) (by omega)
  have hr:=startV_rng1 (y:=2000+(k:Int)) (by omega) (by omega)
  have ih:=splitR_years h d (k+1) (by omega)
  rw [show (2000:Int)+((k+1:Nat):Int)=2000+(k:Int)+1 by omega] at ih
  have w1:wrap64 (2000+(k:Int)+1)=2000+(k:Int)+1:=w_id (by omega) (by omega)
  refine Ev_succ ?_
  simp only [contangoref05_Split.l0,leapR_f,Option.bind_some,w1]
  cases hl:leapB (2000+(k:Int)) with
  | true =>
   rw [hl,if_pos rfl] at hs
   have n1:¬ day - startV (2000+(k:Int)) < 366:=by omega
   have w2:wrap64 (day - startV (2000+(k:Int)) - 366)=day - startV (2000+(k:Int)+1):=by rw [w_id (by omega) (by omega)];omega
   simp only [if_true,if_neg n1,w2]
   exact ih
  | false =>
   rw [hl,if_neg (by decide)] at hs
   have n1:¬ day - startV (2000+(k:Int)) < 365:=by omega
   have w2:wrap64 (day - startV (2000+(k:Int)) - 365)=day - startV (2000+(k:Int)+1):=by rw [w_id (by omega) (by omega)];omega
   simp only [Bool.false_eq_true,if_false,if_neg n1,w2]
   exact ih
theorem splitR_f (day:Int):Ev (fun k=>contangoref05_Split.f k day) (splitV day):=by
 unfold contangoref05_Split.f
 have bad:(¬ (0≤day∧day≤73048))→Ev (fun k=>contangoref05_Split.j0 k day true) (splitV day):=fun h=>Ev_succ (Ev_all fun k=>by unfold splitV;rw [if_neg h];simp only [contangoref05_Split.j0,if_true])
 by_cases c1:day < 0
 ·simp only [if_pos c1];exact bad (by omega)
 simp only [if_neg c1]
 by_cases c2:day > 73048
 ·simp only [c2,decide_true];exact bad (by omega)
 simp only [c2,decide_false]
 refine Ev_succ ?_
 simp only [contangoref05_Split.j0,Bool.false_eq_true,if_false]
 have:=splitR_years (day:=day) ⟨by omega,by omega⟩ (yearK day) 0 (by omega)
 rw [show (2000:Int)+((0:Nat):Int)=2000 from rfl,startV_zero,show day - 0=day by omega] at this
 exact this
end Go.Proofs.YthpmmofleddpnaaDoor.P
end
section
namespace Go.Proofs.YthpmmofleddpnaaDoor.P
set_option linter.unusedVariables false
set_option linter.unusedSimpArgs false
open Go.RowKit Go.Proofs.YthpmmofleddpnaaDoorW.PrintWords Go.Proofs.YthpmmofleddpnaaDoorW.PrintMore Go.Proofs.YthpmmofleddpnaaDoor.X
theorem by_rng (s:ByteArray):∀ x ∈ bytesOf s,0≤x∧x < 256:=by
 intro x hx
 unfold bytesOf at hx
 obtain ⟨b,hb,rfl⟩:=List.mem_map.1 hx
 have:=b.toNat_lt
 omega
theorem by_len (s:ByteArray):(bytesOf s).length=s.size:=bytesOf_length s
theorem by_str (L:List Int) (h:∀ x ∈ L,0≤x∧x < 256):bytesOf (strOfNums L)=L:=by
 unfold bytesOf
 rw [strOfNums_data,List.map_map]
 conv=>rhs;rw [← List.map_id L]
 refine List.map_congr_left fun x hx=>?_
 have:=h x hx
 simp only [Function.comp,id,UInt8.toNat_ofNat']
 omega
theorem by_data (s:ByteArray):s.data.toList=(bytesOf s).map fun n=>UInt8.ofNat n.toNat:=by
 unfold bytesOf
 rw [List.map_map]
 conv=>lhs;rw [← List.map_id s.data.toList]
 refine List.map_congr_left fun x hx=>?_
 simp only [Function.comp,id,Int.toNat_natCast,UInt8.ofNat_toNat]
theorem str_by (s:ByteArray):strOfNums (bytesOf s)=s:=by
 cases s with
 | mk d =>
  unfold strOfNums
  rw [← by_data]
theorem by_inj {a b:ByteArray} (h:bytesOf a=bytesOf b):a=b:=by rw [← str_by a,← str_by b,h]
theorem by_app (a b:ByteArray):bytesOf (a++b)=bytesOf a++bytesOf b:=by
 unfold bytesOf
 rw [show (a++b).data=a.data++b.data from ByteArray.data_append,Array.toList_append,List.map_append]
theorem by_ext (s:ByteArray) (i j:Nat):bytesOf (s.extract i j)=((bytesOf s).take j).drop i:=by
 unfold bytesOf
 rw [ByteArray.data_extract,Array.toList_extract,← List.map_take,← List.map_drop]
 congr 1
 rw [List.extract_eq_take_drop,List.drop_take]
theorem by_toList (s:ByteArray) (l:List UInt8):s.toList=l↔bytesOf s=l.map fun b=>(b.toNat:Int):=by
 rw [ByteArray.toList_eq]
 unfold bytesOf
 constructor
 ·intro h
  rw [h]
 ·intro h
  have e:=congrArg (List.map fun n:Int=>UInt8.ofNat n.toNat) h
  simpa [List.map_map,Function.comp_def] using e
theorem by_eq (a b:ByteArray):a.toList=b.toList↔a=b:=⟨ba_ext,fun h=>h ▸ rfl⟩
theorem by_emp (s:ByteArray):s.toList=([]:List UInt8)↔bytesOf s=[]:=by rw [by_toList];simp
theorem by_bt (s:ByteArray) (i:Nat) (h:i < (bytesOf s).length):bt s (i:Int)=(bytesOf s)[i]:=by
 rw [← rd_bytesOf,rd_nat _ _ h]
theorem by_drop (s:ByteArray) (i:Nat) (h:i < s.size):(bytesOf s).drop i=bt s (i:Int) :: (bytesOf s).drop (i+1):=by
 have h':i < (bytesOf s).length:=by rw [by_len];exact h
 rw [drop_cons _ _ h',by_bt s i h']
theorem by_end (s:ByteArray) (i:Nat) (h:s.size≤i):(bytesOf s).drop i=[]:=List.drop_of_length_le (by rw [by_len];exact h)
theorem str_app (a b:List Int):strOfNums (a++b)=strOfNums a++strOfNums b:=by
 apply by_inj
 rw [by_app]
 unfold bytesOf
 simp only [strOfNums_data,List.map_append]
def idxL:List Int→Int→Option Nat
 | [],_=>none
 | x :: r,c=>if x=c then some 0 else (idxL r c).map (· + 1)
theorem idx_byte (l:List UInt8) (c:UInt8):Lib.indexByte l c=match idxL (l.map fun b=>(b.toNat:Int)) (c.toNat:Int) with|some i=>(i:Int)|none=>-1:=by
 induction l with
 | nil=>rfl
 | cons x r ih =>
  unfold Lib.indexByte
  simp only [List.map_cons,idxL]
  by_cases h:x=c
  ·subst h
   simp
  ·have h1:(x == c)=false:=by simpa using h
   have h2:¬ ((x.toNat:Int)=(c.toNat:Int)):=fun e=>h (UInt8.toNat_inj.1 (by omega))
   rw [h1,if_neg h2]
   simp only [Bool.false_eq_true,if_false]
   rw [ih]
   cases hI:idxL (r.map fun b=>(b.toNat:Int)) (c.toNat:Int) with
   | none=>simp
   | some i =>
    have h3:((i:Int) == -1)=false:=by
     rw [beq_eq_false_iff_ne]
     omega
    simp [h3]
theorem idx_some {L:List Int} {c:Int} {i:Nat} (h:idxL L c=some i):i < L.length∧L[i]? = some c∧c ∉ L.take i∧L=L.take i++c :: L.drop (i+1):=by
 induction L generalizing i with
 | nil=>cases h
 | cons x r ih =>
  simp only [idxL] at h
  by_cases hx:x=c
  ·rw [if_pos hx] at h
   obtain rfl:=Option.some.inj h
   subst hx
   simp
  ·rw [if_neg hx] at h
   obtain ⟨j,hj,rfl⟩:=Option.map_eq_some_iff.1 h
   obtain ⟨h1,h2,h3,h4⟩:=ih hj
   refine ⟨by simpa using h1,by simpa using h2,?_,?_⟩
   ·simp only [List.take_succ_cons,List.mem_cons,not_or]
    exact ⟨fun e=>hx e.symm,h3⟩
   ·simp only [List.take_succ_cons,List.drop_succ_cons,List.cons_append]
    rw [← h4]
theorem idx_none {L:List Int} {c:Int} (h:idxL L c=none):c ∉ L:=by
 induction L with
 | nil=>simp
 | cons x r ih =>
  simp only [idxL] at h
  by_cases hx:x=c
  ·rw [if_pos hx] at h;cases h
  ·rw [if_neg hx] at h
   have h':idxL r c=none:=by simpa using h
   simp only [List.mem_cons,not_or]
   exact ⟨fun e=>hx e.symm,ih h'⟩
end Go.Proofs.YthpmmofleddpnaaDoor.P
end
section
namespace Go.Proofs.YthpmmofleddpnaaDoor.P
set_option linter.unusedVariables false
set_option linter.unusedSimpArgs false
open Go.RowKit Go.Proofs.YthpmmofleddpnaaDoorW.PrintWords Go.Proofs.YthpmmofleddpnaaDoorW.PrintMore Go.Proofs.YthpmmofleddpnaaDoor.X
theorem ib_cases (c:UInt8):∀ s:List UInt8,(Lib.indexByte s c = -1∧c ∉ s)∨∃ A R,c ∉ A∧s=A++c :: R∧Lib.indexByte s c=(A.length:Int)
 | []=>Or.inl ⟨rfl,by simp⟩
 | x :: r=>by
  by_cases h:x=c
  ·subst h
   exact Or.inr ⟨[],r,by simp,rfl,by simp [Lib.indexByte]⟩
  ·have h1:(x == c)=false:=by simpa using h
   rcases ib_cases c r with ⟨h2,h3⟩|⟨A,R,h2,h3,h4⟩
   ·refine Or.inl ⟨by simp [Lib.indexByte,h1,h2],?_⟩
    simp only [List.mem_cons,not_or]
    exact ⟨fun e=>h e.symm,h3⟩
   ·refine Or.inr ⟨x :: A,R,?_,by rw [h3];rfl,?_⟩
    ·simp only [List.mem_cons,not_or]
     exact ⟨fun e=>h e.symm,h2⟩
    ·have h5:((A.length:Int) == -1)=false:=by rw [beq_eq_false_iff_ne];omega
     simp [Lib.indexByte,h1,h4,h5]
theorem filter_no {c:UInt8} {A:List UInt8} (h:c ∉ A):A.filter (fun x=>x != c)=A:=List.filter_eq_self.2 fun a ha=>by
 simp only [bne_iff_ne,ne_eq]
 intro e
 exact h (e ▸ ha)
theorem repl_out (c:UInt8):∀ (n:Nat) (s:List UInt8),s.length≤n→Lib.replaceK [c] [] (Lib.count s [c]) s=s.filter (fun x=>x != c):=by
 intro n
 induction n with
 | zero =>
  intro s hs
  obtain rfl:s=[]:=List.length_eq_zero_iff.1 (by omega)
  rcases ib_cases c [] with ⟨h,_⟩|⟨A,R,_,h,_⟩
  ·rw [Lib.count_miss (by rw [Lib.index_one];exact h)];rfl
  ·cases A<;>cases h
 | succ n ih =>
  intro s hs
  rcases ib_cases c s with ⟨h,h2⟩|⟨A,R,h2,h3,h4⟩
  ·rw [Lib.count_miss (by rw [Lib.index_one];exact h),filter_no h2];rfl
  ·have hi:Lib.index s [c]=(A.length:Int):=by rw [Lib.index_one];exact h4
   have hd:s.drop (A.length+[c].length)=R:=by
    rw [h3,show A++c :: R=(A++[c])++R by simp]
    exact List.drop_left' (by simp)
   have ht:s.take A.length=A:=by rw [h3];exact List.take_left' rfl
   rw [Lib.count_hit (by simp) hi,Nat.add_comm 1,Lib.replaceK_hit [c] [] _ s A.length hi,hd,ht,ih R (by rw [h3] at hs;simp at hs;omega)]
   rw [h3,List.filter_append,filter_no h2]
   simp
theorem replaceAll_out (s:List UInt8) (c:UInt8):Lib.replaceAll s [c] []=s.filter (fun x=>x != c):=by
 have e:([c] == ([]:List UInt8))=false:=rfl
 have m:Lib.replaceNum s [c] (-1)=Lib.count s [c]:=by unfold Lib.replaceNum;rw [if_pos (Or.inl (by decide))]
 unfold Lib.replaceAll Lib.replace
 rw [e,m]
 exact repl_out c s.length s (Nat.le_refl _)
theorem day_out {a b c d e f g h:Int} (ha:48≤a∧a≤57) (hb:48≤b∧b≤57) (hc:48≤c∧c≤57) (hd:48≤d∧d≤57) (he:48≤e∧e≤57) (hf:48≤f∧f≤57) (hg:48≤g∧g≤57) (hh:48≤h∧h≤57) :
  (⟨(Lib.replaceAll (strOfNums [a,b,c,d,45,e,f,45,g,h]).data.toList [45] []).toArray⟩:ByteArray)=strOfNums [a,b,c,d,e,f,g,h]:=by
 have key:∀ x:Int,48≤x∧x≤57→(UInt8.ofNat x.toNat != 45)=true:=by
  intro x hx
  simp only [bne_iff_ne,ne_eq]
  intro e
  have:=congrArg UInt8.toNat e
  rw [UInt8.toNat_ofNat'] at this
  have e2:(45:UInt8).toNat=45:=rfl
  omega
 rw [replaceAll_out,strOfNums_data]
 simp only [List.map_cons,List.map_nil,List.filter_cons,key a ha,key b hb,key c hc,key d hd,key e he,key f hf,key g hg,key h hh,if_true,show (UInt8.ofNat (45:Int).toNat != 45)=false from rfl,Bool.false_eq_true,if_false,List.filter_nil]
 rfl
end Go.Proofs.YthpmmofleddpnaaDoor.P
end
section
namespace Go.Proofs.YthpmmofleddpnaaDoor.P
set_option linter.unusedVariables false
set_option linter.unusedSimpArgs false
open Go.RowKit Go.Proofs.YthpmmofleddpnaaDoorW.PrintWords Go.Proofs.YthpmmofleddpnaaDoorW.PrintMore Go.Proofs.YthpmmofleddpnaaDoor.X
def splitI (c:Int):List Int→List (List Int)
 | []=>[[]]
 | x :: r=>if x=c then [] :: splitI c r else (match splitI c r with|p :: q=>(x :: p) :: q|[]=>[[x]])
theorem splitI_ne (c:Int) (L:List Int):splitI c L≠[]:=by
 cases L with
 | nil=>simp [splitI]
 | cons x r =>
  unfold splitI
  split
  ·simp
  ·split<;>simp
theorem splitI_none {c:Int}:∀ {L:List Int},c ∉ L→splitI c L=[L]
 | [],_=>rfl
 | x :: r,h=>by
  simp only [List.mem_cons,not_or] at h
  unfold splitI
  rw [if_neg (fun e=>h.1 e.symm),splitI_none h.2]
theorem splitI_app {c:Int}:∀ {A:List Int} (R:List Int),c ∉ A→splitI c (A++c :: R)=A :: splitI c R
 | [],R,_=>by rw [List.nil_append,splitI,if_pos rfl]
 | x :: r,R,h=>by
  simp only [List.mem_cons,not_or] at h
  rw [List.cons_append,splitI,if_neg (fun e=>h.1 e.symm),splitI_app R h.2]
theorem splitB_step (c:UInt8) (s:ByteArray) (ih:∀ t:ByteArray,t.size < s.size→(Lib.splitB ⟨#[c]⟩ 0 (Lib.countB t ⟨#[c]⟩) t).map bytesOf=splitI (c.toNat:Int) (bytesOf t)):(Lib.splitB ⟨#[c]⟩ 0 (Lib.countB s ⟨#[c]⟩) s).map bytesOf=splitI (c.toNat:Int) (bytesOf s):=by
 have hix:Lib.indexB s ⟨#[c]⟩=match idxL (bytesOf s) (c.toNat:Int) with|some i=>(i:Int)|none=>-1:=by
  have:=idx_byte s.data.toList c
  rw [← Lib.index_one] at this
  exact this
 cases hI:idxL (bytesOf s) (c.toNat:Int) with
 | none =>
  rw [hI] at hix
  rw [Lib.countB_miss s _ hix,splitI_none (idx_none hI)]
  rfl
 | some i =>
  rw [hI] at hix
  obtain ⟨h1,h2,h3,h4⟩:=idx_some hI
  have hc:=Lib.countB_hit s ⟨#[c]⟩ i (Nat.le_refl _) hix
  have e1:(⟨#[c]⟩:ByteArray).size=1:=rfl
  rw [e1] at hc
  have hsz:(s.extract (i+1) s.size).size < s.size:=by
   rw [by_len] at h1
   rw [ByteArray.size_extract]
   omega
  have ih:=ih (s.extract (i+1) s.size) hsz
  rw [show Lib.countB s ⟨#[c]⟩=Lib.countB (s.extract (i+1) s.size) ⟨#[c]⟩+1 by omega,Lib.splitB_hit _ _ _ _ i hix,List.map_cons,e1,ih]
  have e2:bytesOf (s.extract 0 (i+0))=(bytesOf s).take i:=by rw [by_ext,List.drop_zero,Nat.add_zero]
  have e3:bytesOf (s.extract (i+1) s.size)=(bytesOf s).drop (i+1):=by rw [by_ext,← by_len,List.take_length]
  rw [e2,e3]
  conv=>rhs;rw [h4]
  rw [splitI_app _ h3]
theorem splitB_map (c:UInt8) (n:Nat):∀ s:ByteArray,s.size≤n→(Lib.splitB ⟨#[c]⟩ 0 (Lib.countB s ⟨#[c]⟩) s).map bytesOf=splitI (c.toNat:Int) (bytesOf s):=by
 induction n with
 | zero=>exact fun s hs=>splitB_step c s fun t ht=>absurd ht (by omega)
 | succ n ih=>exact fun s hs=>splitB_step c s fun t ht=>ih t (by omega)
theorem split_f (s:ByteArray) (c:UInt8) (hs:s.size < 4294967281):∃ l,strings_Split.f s (⟨#[c]⟩:ByteArray)=some l∧l.map bytesOf=splitI (c.toNat:Int) (bytesOf s):=by
 refine ⟨_,?_,splitB_map c s.size s (Nat.le_refl _)⟩
 unfold strings_Split.f
 rw [if_pos ⟨rfl,hs⟩]
def okB (b:Int):Bool:=decide (32 < b) && decide (b≤126)
def goodP (p:List Int):Bool:=!p.isEmpty && p.all okB
theorem sp_len (c:Int):∀ L:List Int,(splitI c L).length≤L.length+1
 | []=>by simp [splitI]
 | x :: r=>by
  have ih:=sp_len c r
  unfold splitI
  split
  ·simp only [List.length_cons];omega
  ·split
   ·rename_i p q h
    rw [h] at ih
    simp only [List.length_cons] at ih ⊢
    omega
   ·simp
theorem field_loop (acc:List ByteArray) (x:ByteArray) (ps:List ByteArray) (n j:Int) (hx:x.size≤4611686018427387904) (ha:acc.length < 8796093022208):∀ (d i:Nat),i+d=x.size→(((bytesOf x).drop i).all okB=false→Ev (fun k=>words_Fields.l1 k acc 0 x ps n j x.size i) (([],5):List ByteArray × Int))∧(((bytesOf x).drop i).all okB=true→∀ r,Ev (fun k=>words_Fields.l0 k (acc++[x]) 0 ps n (wrap64 (j+1))) r→Ev (fun k=>words_Fields.l1 k acc 0 x ps n j x.size i) r)
 | 0,i,hd=>by
  rw [by_end x i (by omega)]
  refine ⟨fun h=>absurd h (by decide),fun _ r hr=>?_⟩
  refine Ev_succ ?_
  simp only [words_Fields.l1,if_neg (show ¬ ((i:Int) < (x.size:Int)) by omega),if_pos ha]
  exact hr
 | d+1,i,hd=>by
  have hi:i < x.size:=by omega
  have ih:=field_loop acc x ps n j hx ha d (i+1) (by omega)
  rw [by_drop x i hi,List.all_cons]
  have hb:okB (bt x (i:Int))=true↔(32 < bt x (i:Int)∧bt x (i:Int)≤126):=by unfold okB;simp
  by_cases c1:bt x (i:Int)≤32
  ·have hf:okB (bt x (i:Int))=false:=by
    rw [← Bool.not_eq_true,hb];omega
   rw [hf,Bool.false_and]
   refine ⟨fun _=>Ev_succ ?_,fun h=>absurd h (by decide)⟩
   simp only [words_Fields.l1,if_pos (show (i:Int) < (x.size:Int) by omega),if_pos (show 0≤(i:Int) by omega),if_pos c1,if_neg (show ¬ (5:Int)=0 by decide)]
   exact Ev.now _
  ·by_cases c2:bt x (i:Int) > 126
   ·have hf:okB (bt x (i:Int))=false:=by
     rw [← Bool.not_eq_true,hb];omega
    rw [hf,Bool.false_and]
    refine ⟨fun _=>Ev_succ ?_,fun h=>absurd h (by decide)⟩
    simp only [words_Fields.l1,if_pos (show (i:Int) < (x.size:Int) by omega),if_pos (show 0≤(i:Int) by omega),if_neg c1,if_pos c2,if_neg (show ¬ (5:Int)=0 by decide)]
    exact Ev.now _
   ·have hf:okB (bt x (i:Int))=true:=by rw [hb];omega
    rw [hf,Bool.true_and]
    refine ⟨fun h=>Ev_succ ?_,fun h r hr=>Ev_succ ?_⟩
    ·simp only [words_Fields.l1,if_pos (show (i:Int) < (x.size:Int) by omega),if_pos (show 0≤(i:Int) by omega),if_neg c1,if_neg c2,w_succ hi (by omega)]
     exact ih.1 h
    ·simp only [words_Fields.l1,if_pos (show (i:Int) < (x.size:Int) by omega),if_pos (show 0≤(i:Int) by omega),if_neg c1,if_neg c2,w_succ hi (by omega)]
     exact ih.2 h r hr
theorem fields_loop (ps:List ByteArray) (hp:ps.length < 8796093022208) (hz:∀ p ∈ ps,p.size≤4611686018427387904):∀ (d i:Nat),i+d=ps.length→Ev (fun k=>words_Fields.l0 k (ps.take i) 0 ps ps.length i) (if ((ps.drop i).all fun p=>goodP (bytesOf p))=true then (ps,0) else ([],5))
 | 0,i,hd=>by
  refine Ev_succ ?_
  simp only [words_Fields.l0,if_neg (show ¬ ((i:Int) < (ps.length:Int)) by omega),if_true]
  rw [List.drop_of_length_le (by omega),List.take_of_length_le (by omega)]
  exact Ev.now _
 | d+1,i,hd=>by
  have hi:i < ps.length:=by omega
  have ih:=fields_loop ps hp hz d (i+1) (by omega)
  have hr:rdOf ByteArray.empty ps (i:Int)=ps[i]:=rdOf_nat _ _ _ hi
  refine Ev_succ ?_
  simp only [words_Fields.l0,if_pos (show (i:Int) < (ps.length:Int) by omega),if_pos (show 0≤(i:Int) by omega),hr]
  rw [drop_cons ps i hi,List.all_cons]
  by_cases c:ps[i].toList=[]
  ·have hg:goodP (bytesOf ps[i])=false:=by rw [(by_emp _).1 c];rfl
   simp only [if_pos c,if_neg (show ¬ (5:Int)=0 by decide),hg,Bool.false_and,Bool.false_eq_true,if_false]
   exact Ev.now _
  ·have hne:bytesOf ps[i]≠[]:=fun h=>c ((by_emp _).2 h)
   have hem:(bytesOf ps[i]).isEmpty=false:=by simpa using hne
   have hl:=field_loop (ps.take i) ps[i] ps ps.length i (hz _ (List.getElem_mem hi)) (by rw [List.length_take];omega) ps[i].size 0 (by omega)
   rw [List.drop_zero] at hl
   simp only [if_neg c]
   have hg:goodP (bytesOf ps[i])=(bytesOf ps[i]).all okB:=by unfold goodP;rw [hem];simp
   rw [hg]
   cases ha:(bytesOf ps[i]).all okB with
   | false =>
    simp only [Bool.false_and,Bool.false_eq_true,if_false]
    exact hl.1 ha
   | true =>
    rw [Bool.true_and]
    refine hl.2 ha _ ?_
    rw [w_succ hi (by omega),show ps.take i++[ps[i]]=ps.take (i+1) from (List.take_append_getElem hi)]
    exact ih
def fieldsE (L:List Int):List (List Int) × Int:=if 512 < L.length then ([],8) else if L=[] then ([],0) else if (splitI 32 L).all goodP=true then (splitI 32 L,0) else ([],5)
theorem map_str (l:List ByteArray):(l.map bytesOf).map strOfNums=l:=by
 rw [List.map_map]
 conv=>rhs;rw [← List.map_id l]
 exact List.map_congr_left fun x _=>str_by x
def fieldsS (s:ByteArray):List ByteArray × Int:=((fieldsE (bytesOf s)).1.map strOfNums,(fieldsE (bytesOf s)).2)
theorem fields_f (s:ByteArray):Ev (fun k=>words_Fields.f k s) (fieldsS s):=by
 unfold words_Fields.f fieldsS fieldsE
 rw [by_len]
 by_cases c1:512 < s.size
 ·simp only [if_pos c1,if_pos (show (s.size:Int) > 512 by omega)]
  exact Ev.now _
 simp only [if_neg c1,if_neg (show ¬ (s.size:Int) > 512 by omega)]
 by_cases c2:s.toList=[]
 ·simp only [if_pos c2,if_pos ((by_emp s).1 c2)]
  exact Ev.now _
 simp only [if_neg c2,if_neg (fun h=>c2 ((by_emp s).2 h))]
 obtain ⟨l,h1,h2⟩:=split_f s 32 (by omega)
 rw [h1]
 simp only [Option.bind_some]
 have hlen:l.length≤s.size+1:=by
  have:=sp_len 32 (bytesOf s)
  rw [show ((32:UInt8).toNat:Int)=32 from rfl] at h2
  rw [← h2,List.length_map,by_len] at this
  exact this
 have hsz:∀ p ∈ l,p.size≤4611686018427387904:=by
  intro p hp
  have hm:bytesOf p ∈ splitI 32 (bytesOf s):=by
   rw [show ((32:UInt8).toNat:Int)=32 from rfl] at h2
   rw [← h2]
   exact List.mem_map_of_mem hp
  have key:∀ (L:List Int),∀ q ∈ splitI 32 L,q.length≤L.length:=by
   intro L
   induction L with
   | nil=>intro q hq;simp [splitI] at hq;subst hq;simp
   | cons x r ih =>
    intro q hq
    unfold splitI at hq
    split at hq
    ·rcases List.mem_cons.1 hq with h|h
     ·subst h;simp
     ·have:=ih q h;simp;omega
    ·split at hq
     ·rename_i p1 q1 he
      rcases List.mem_cons.1 hq with h|h
      ·subst h
       have:=ih p1 (by rw [he];simp)
       simp;omega
      ·have:=ih q (by rw [he];simp [h])
       simp;omega
     ·simp at hq;subst hq;simp
  have:=key _ _ hm
  rw [by_len,by_len] at this
  omega
 have hf:=fields_loop l (by omega) hsz l.length 0 (by omega)
 rw [List.take_zero,List.drop_zero] at hf
 have hall:(l.all fun p=>goodP (bytesOf p))=(splitI 32 (bytesOf s)).all goodP:=by
  rw [show ((32:UInt8).toNat:Int)=32 from rfl] at h2
  rw [← h2,List.all_map]
  rfl
 rw [hall] at hf
 by_cases c3:(splitI 32 (bytesOf s)).all goodP=true
 ·rw [if_pos c3] at hf
  simp only [if_pos c3]
  rw [show ((32:UInt8).toNat:Int)=32 from rfl] at h2
  rw [← h2,map_str]
  exact hf
 ·rw [if_neg c3] at hf
  simp only [if_neg c3]
  exact hf
def joinI:List (List Int)→List Int
 | []=>[]
 | [x]=>x
 | x :: y :: r=>x++32 :: joinI (y :: r)
theorem join_bytes:∀ l:List ByteArray,bytesOf ⟨(Lib.join (l.map (·.data.toList)) (⟨#[32]⟩:ByteArray).data.toList).toArray⟩=joinI (l.map bytesOf)
 | []=>rfl
 | [x]=>by
  show List.map _ (Lib.join [x.data.toList] [32]).toArray.toList=_
  rw [Lib.join_one]
  rfl
 | x :: y :: r=>by
  have ih:=join_bytes (y :: r)
  have e:Lib.join ((x :: y :: r).map (·.data.toList)) [32]=x.data.toList++32 :: Lib.join ((y :: r).map (·.data.toList)) [32]:=by
   simp only [List.map_cons,Lib.join_cons,Lib.joinTail,List.flatten_cons]
   rfl
  show List.map _ (Lib.join ((x :: y :: r).map (·.data.toList)) [32]).toArray.toList=_
  rw [e]
  have ih2:List.map (fun b:UInt8=>(b.toNat:Int)) (Lib.join ((y :: r).map (·.data.toList)) [32])=joinI ((y :: r).map bytesOf):=ih
  simp only [List.toList_toArray,List.map_append,List.map_cons,joinI] at ih2 ⊢
  rw [ih2]
  rfl
def joinS (l:List ByteArray):ByteArray:=strOfNums (joinI (l.map bytesOf))
theorem join_rng (l:List ByteArray):∀ x ∈ joinI (l.map bytesOf),0≤x∧x < 256:=by
 rw [← join_bytes]
 exact by_rng _
theorem joinS_by (l:List ByteArray):bytesOf (joinS l)=joinI (l.map bytesOf):=by_str _ (join_rng l)
theorem join_len:∀ l:List (List Int),(joinI l).length≤(l.map fun x=>x.length+1).sum
 | []=>by simp [joinI]
 | [x]=>by simp [joinI]
 | x :: y :: r=>by
  have:=join_len (y :: r)
  simp only [joinI,List.length_append,List.length_cons,List.map_cons,List.sum_cons] at this ⊢
  omega
def sumZ (l:List ByteArray):Nat:=(l.map fun x=>x.size+1).sum
theorem join_f (l:List ByteArray) (h:sumZ l≤140737488355328):words_Join.f l=some (joinS l):=by
 have hb:=join_bytes l
 have hl:(Lib.join (l.map (·.data.toList)) (⟨#[32]⟩:ByteArray).data.toList).length≤140737488355328:=by
  have h1:=join_len (l.map bytesOf)
  have e:(l.map bytesOf).map (fun x=>x.length+1)=l.map fun x=>x.size+1:=by
   rw [List.map_map]
   exact List.map_congr_left fun x _=>by simp [by_len]
  rw [e,← hb,by_len] at h1
  exact Nat.le_trans h1 h
 have hn:l.length≤140737488355328:=by
  have:l.length≤sumZ l:=by
   unfold sumZ
   clear hb hl h
   induction l with
   | nil=>simp
   | cons x r ih=>simp only [List.map_cons,List.sum_cons,List.length_cons];omega
  omega
 unfold words_Join.f words_together.f strings_Join.f
 rw [if_pos ⟨hl,hn⟩]
 simp only [Option.bind_some]
 congr 1
 apply by_inj
 rw [hb,joinS_by]
end Go.Proofs.YthpmmofleddpnaaDoor.P
end
section
namespace Go.Proofs.YthpmmofleddpnaaDoor.P
set_option linter.unusedVariables false
set_option linter.unusedSimpArgs false
open Go.RowKit Go.Proofs.YthpmmofleddpnaaDoorW.PrintWords Go.Proofs.YthpmmofleddpnaaDoorW.PrintMore Go.Proofs.YthpmmofleddpnaaDoor.X
def letterB (n:Int):Bool:=decide (97≤n) && decide (n≤122)
def digitB (n:Int):Bool:=decide (48≤n) && decide (n≤57)
theorem letter_f (n:Int):words_letter.f n=some (letterB n):=by
 unfold words_letter.f letterB
 by_cases h:97≤n
 ·rw [if_pos h,decide_eq_true h,Bool.true_and]
 ·rw [if_neg h,decide_eq_false h,Bool.false_and]
theorem digit_f (n:Int):words_digit.f n=some (digitB n):=by
 unfold words_digit.f digitB
 by_cases h:48≤n
 ·rw [if_pos h,decide_eq_true h,Bool.true_and]
 ·rw [if_neg h,decide_eq_false h,Bool.false_and]
def chB (s:ByteArray) (i:Nat):Bool:=letterB (bt s (i:Int)) || (!(i == 0) && digitB (bt s (i:Int)))
def nameFrom (s:ByteArray):Nat→Nat→Bool
 | 0,_=>true
 | d+1,i=>chB s i && nameFrom s d (i+1)
def nameB (s:ByteArray):Bool:=decide (0 < s.size) && decide (s.size≤12) && nameFrom s s.size 0
theorem nameLoop (s:ByteArray) (hs:s.size≤12) (h0:letterB (bt s 0)=true):∀ (d i:Nat),i+d=s.size→Ev (fun k=>words_Name.l0 k s s.size i) (nameFrom s d i)
 | 0,i,hd=>by
  refine Ev_succ ?_
  simp only [words_Name.l0,if_neg (show ¬ ((i:Int) < (s.size:Int)) by omega)]
  exact Ev.now _
 | d+1,i,hd=>by
  have hi:i < s.size:=by omega
  have ih:=nameLoop s hs h0 d (i+1) (by omega)
  refine Ev_succ ?_
  simp only [words_Name.l0,if_pos (show (i:Int) < (s.size:Int) by omega),if_pos (show 0≤(i:Int) by omega),letter_f,digit_f,Option.bind_some,w_succ hi (by omega),nameFrom,chB]
  cases h1:letterB (bt s (i:Int)) with
  | true=>simp only [if_true,Bool.true_or,Bool.true_and];exact ih
  | false =>
   simp only [Bool.false_eq_true,if_false,Bool.false_or]
   have hi0:(i == 0)=false:=by
    rw [← Bool.not_eq_true,beq_iff_eq]
    rintro rfl
    rw [show ((0:Nat):Int)=0 from rfl,h0] at h1
    cases h1
   simp only [hi0,Bool.not_false,Bool.true_and]
   cases h2:digitB (bt s (i:Int)) with
   | true=>simp only [if_true,Bool.true_and];exact ih
   | false=>simp only [Bool.false_eq_true,if_false,Bool.false_and];exact Ev.now _
theorem name_f (s:ByteArray):Ev (fun k=>words_Name.f k s) (nameB s):=by
 have hj:nameB s=false→Ev (fun k=>words_Name.j0 k s true) (nameB s):=by
  intro h
  rw [h]
  refine Ev_succ ?_
  simp only [words_Name.j0,if_true]
  exact Ev.now _
 unfold words_Name.f
 by_cases c0:s.toList=[]
 ·simp only [if_pos c0]
  refine hj ?_
  have:s.size=0:=by
   have e:s.toList=s.data.toList:=ByteArray.toList_eq s
   rw [e] at c0
   have:=congrArg List.length c0
   simpa using this
  simp [nameB,this]
 ·simp only [if_neg c0]
  by_cases c1:(s.size:Int) > 12
  ·simp only [if_pos c1]
   exact hj (by simp [nameB];omega)
  ·have hp:0 < s.size:=by
    rcases Nat.eq_zero_or_pos s.size with h|h
    ·exfalso
     apply c0
     have e:s.toList=s.data.toList:=ByteArray.toList_eq s
     rw [e]
     exact List.length_eq_zero_iff.1 (by simpa using h)
    ·exact h
   simp only [if_neg c1,if_pos (show 0 < (s.size:Int) by omega),letter_f,Option.bind_some]
   have hn:nameB s=nameFrom s s.size 0:=by
    unfold nameB
    rw [decide_eq_true hp,decide_eq_true (show s.size≤12 by omega)]
    simp
   cases h1:letterB (bt s 0) with
   | false =>
    refine hj ?_
    rw [hn]
    obtain ⟨d,hd⟩:∃ d,s.size=d+1:=⟨s.size - 1,by omega⟩
    rw [hd]
    simp [nameFrom,chB,h1]
   | true =>
    refine Ev_succ ?_
    simp only [words_Name.j0,Bool.not_true,Bool.false_eq_true,if_false]
    rw [hn]
    exact nameLoop s (by omega) h1 s.size 0 (by omega)
theorem nameRLoop (s:ByteArray) (hs:s.size≤4611686018427387904):∀ (d i:Nat),i+d=s.size→Ev (fun k=>contangoref03_Name.l0 k s i) (nameFrom s d i && (decide (0 < s.size) && decide (s.size≤12)))
 | 0,i,hd=>by
  refine Ev_succ ?_
  simp only [contangoref03_Name.l0,if_neg (show ¬ ((i:Int) < (s.size:Int)) by omega),nameFrom,Bool.true_and]
  by_cases c:(s.size:Int) > 0
  ·simp only [if_pos c,decide_eq_true (show 0 < s.size by omega),Bool.true_and]
   have:decide ((s.size:Int)≤12)=decide (s.size≤12):=by rw [decide_eq_decide];omega
   rw [this]
   exact Ev.now _
  ·simp only [if_neg c,decide_eq_false (show ¬ 0 < s.size by omega),Bool.false_and]
   exact Ev.now _
 | d+1,i,hd=>by
  have hi:i < s.size:=by omega
  have ih:=nameRLoop s hs d (i+1) (by omega)
  rw [← w_succ hi (by omega)] at ih
  refine Ev_succ ?_
  simp only [contangoref03_Name.l0,if_pos (show (i:Int) < (s.size:Int) by omega),if_pos (show 0≤(i:Int) by omega),nameFrom]
  have step:chB s i=true→Ev (fun k=>contangoref03_Name.l0 k s (wrap64 ((i:Int)+1))) (chB s i && nameFrom s d (i+1) && (decide (0 < s.size) && decide (s.size≤12))):=by
   intro h
   rw [h,Bool.true_and]
   exact ih
  have stop:chB s i=false→Ev (fun _=>(some false:Option Bool)) (chB s i && nameFrom s d (i+1) && (decide (0 < s.size) && decide (s.size≤12))):=by
   intro h
   rw [h,Bool.false_and,Bool.false_and]
   exact Ev.now _
  have rest:letterB (bt s (i:Int))=false→Ev (fun k=>if (i:Int)=0 then some false else if bt s (i:Int) < 48 then some false else if bt s (i:Int) > 57 then some false else contangoref03_Name.l0 k s (wrap64 ((i:Int)+1))) (chB s i && nameFrom s d (i+1) && (decide (0 < s.size) && decide (s.size≤12))):=by
   intro hl
   by_cases c0:(i:Int)=0
   ·have hi0:(i == 0)=true:=by rw [beq_iff_eq];omega
    simp only [if_pos c0]
    exact stop (by unfold chB;rw [hl,hi0];rfl)
   ·by_cases c1:bt s (i:Int) < 48
    ·simp only [if_neg c0,if_pos c1];exact stop (by simp [chB,hl,digitB];omega)
    ·by_cases c2:bt s (i:Int) > 57
     ·simp only [if_neg c0,if_neg c1,if_pos c2];exact stop (by simp [chB,hl,digitB];omega)
     ·simp only [if_neg c0,if_neg c1,if_neg c2];exact step (by simp [chB,hl,digitB];omega)
  by_cases g1:bt s (i:Int) ≥ 97
  ·by_cases g2:bt s (i:Int)≤122
   ·simp only [if_pos g1,if_pos g2];exact step (by simp [chB,letterB];omega)
   ·simp only [if_pos g1,if_neg g2];exact rest (by simp [letterB];omega)
  ·simp only [if_neg g1];exact rest (by simp [letterB];omega)
theorem nameR_f (s:ByteArray) (hs:s.size≤4611686018427387904):Ev (fun k=>contangoref03_Name.f k s) (nameB s):=by
 have h:=nameRLoop s hs s.size 0 (by omega)
 have e:nameB s=(nameFrom s s.size 0 && (decide (0 < s.size) && decide (s.size≤12))):=by
  unfold nameB
  rw [Bool.and_comm]
 rw [e]
 exact h
end Go.Proofs.YthpmmofleddpnaaDoor.P
end
section
namespace Go.Proofs.YthpmmofleddpnaaDoor.P
set_option linter.unusedVariables false
set_option linter.unusedSimpArgs false
open Go.RowKit Go.Proofs.YthpmmofleddpnaaDoorW.PrintWords Go.Proofs.YthpmmofleddpnaaDoorW.PrintMore Go.Proofs.YthpmmofleddpnaaDoor.X
def plainL (L:List Int):Bool:=!L.isEmpty && !(decide (1 < L.length) && L.head? == some 48) && L.all digitB
def numV (n:Int) (L:List Int):Int:=L.foldl (fun n b=>10*n+(b - 48)) n
def numR (n:Int) (L:List Int) (minus:Bool):Int × Int:=if 1152921504606846976 < numV n L then (0,3) else (if minus then -(numV n L) else numV n L,0)
def unsign (L:List Int):List Int × Bool:=if L.head? = some 45 then (L.tail,true) else (L,false)
def intL (L:List Int):Int × Int:=if plainL (unsign L).1=true∧¬((unsign L).2=true∧(unsign L).1=[48]) then numR 0 (unsign L).1 (unsign L).2 else (0,5)
theorem dig_rng {x:Int} (h:digitB x=true):48≤x∧x≤57:=by
 unfold digitB at h
 simp only [Bool.and_eq_true,decide_eq_true_eq] at h
 exact h
theorem numV_mono:∀ (L:List Int) (n:Int),0≤n→(∀ x ∈ L,digitB x=true)→n≤numV n L
 | [],n,_,_=>Int.le_refl _
 | x :: L,n,h,hd=>by
  have h1:=dig_rng (hd x (by simp))
  have:=numV_mono L (10*n+(x - 48)) (by omega) fun y hy=>hd y (by simp [hy])
  unfold numV at this ⊢
  rw [List.foldl_cons]
  omega
theorem num_step (n d:Int) (h0:0≤n) (h1:n≤1152921504606846976) (h2:0≤d) (h3:d≤9):(10*n+d≤9223372036854775807∧wrap64 (wrap64 (10*n)+d)=10*n+d)∨(9223372036854775807 < 10*n+d∧wrap64 (wrap64 (10*n)+d) < 0):=by
 unfold wrap64
 omega
theorem neg_w (n:Int) (h0:0≤n) (h1:n≤1152921504606846976):wrap64 (-n) = -n:=w_id (by omega) (by omega)
theorem digits_loop (s:ByteArray) (hs:s.size≤4611686018427387904):∀ (d i:Nat),i+d=s.size→Ev (fun k=>words_digits.l0 k s s.size i) (((bytesOf s).drop i).all digitB)
 | 0,i,hd=>by
  refine Ev_succ ?_
  simp only [words_digits.l0,if_neg (show ¬ ((i:Int) < (s.size:Int)) by omega)]
  rw [by_end s i (by omega)]
  exact Ev.now _
 | d+1,i,hd=>by
  have hi:i < s.size:=by omega
  have ih:=digits_loop s hs d (i+1) (by omega)
  refine Ev_succ ?_
  simp only [words_digits.l0,if_pos (show (i:Int) < (s.size:Int) by omega),if_pos (show 0≤(i:Int) by omega),digit_f,Option.bind_some,w_succ hi (by omega)]
  rw [by_drop s i hi,List.all_cons]
  cases h:digitB (bt s (i:Int)) with
  | true=>simp only [if_true,Bool.true_and];exact ih
  | false=>simp only [Bool.false_eq_true,if_false,Bool.false_and];exact Ev.now _
theorem digits_f (s:ByteArray) (hs:s.size≤4611686018427387904):Ev (fun k=>words_digits.f k s) ((bytesOf s).all digitB):=by
 unfold words_digits.f
 exact digits_loop s hs s.size 0 (by omega)
theorem number_loop (s:ByteArray) (minus:Bool) (hs:s.size≤4611686018427387904) (hall:∀ x ∈ bytesOf s,digitB x=true):∀ (d i:Nat) (n:Int),i+d=s.size→0≤n→n≤1152921504606846976→Ev (fun k=>words_number.l0 k s minus n s.size i) (numR n ((bytesOf s).drop i) minus)
 | 0,i,n,hd,h0,h1=>by
  refine Ev_succ ?_
  simp only [words_number.l0,if_neg (show ¬ ((i:Int) < (s.size:Int)) by omega)]
  rw [by_end s i (by omega)]
  have hc:numR n [] minus=(if minus then -n else n,0):=by
   unfold numR numV
   rw [List.foldl_nil,if_neg (show ¬ 1152921504606846976 < n by omega)]
  rw [hc]
  cases minus with
  | true=>simp only [if_true,neg_w n h0 h1];exact Ev.now _
  | false=>simp only [Bool.false_eq_true,if_false];exact Ev.now _
 | d+1,i,n,hd,h0,h1=>by
  have hi:i < s.size:=by omega
  have hb:digitB (bt s (i:Int))=true:=hall _ (by
   have h':i < (bytesOf s).length:=by rw [by_len];exact hi
   rw [by_bt s i h']
   exact List.getElem_mem h')
  have hb2:=dig_rng hb
  refine Ev_succ ?_
  simp only [words_number.l0,if_pos (show (i:Int) < (s.size:Int) by omega),if_pos (show 0≤(i:Int) by omega),w_succ hi (by omega),Int.emod_eq_of_lt (show 0≤bt s (i:Int) - 48 by omega) (show bt s (i:Int) - 48 < 256 by omega)]
  rw [by_drop s i hi]
  have hr:∀ x ∈ (bytesOf s).drop (i+1),digitB x=true:=fun x hx=>hall x (List.mem_of_mem_drop hx)
  have hm:=numV_mono ((bytesOf s).drop (i+1)) (10*n+(bt s (i:Int) - 48)) (by omega) hr
  have hc:numR n (bt s (i:Int) :: (bytesOf s).drop (i+1)) minus=numR (10*n+(bt s (i:Int) - 48)) ((bytesOf s).drop (i+1)) minus:=by
   unfold numR numV
   rw [List.foldl_cons]
  rw [hc]
  rcases num_step n (bt s (i:Int) - 48) h0 h1 (by omega) (by omega) with ⟨h2,h3⟩|⟨h2,h3⟩
  ·simp only [h3,if_neg (show ¬ 10*n+(bt s (i:Int) - 48) < 0 by omega)]
   by_cases h4:10*n+(bt s (i:Int) - 48) > 1152921504606846976
   ·simp only [if_pos h4]
    have:numR (10*n+(bt s (i:Int) - 48)) ((bytesOf s).drop (i+1)) minus=(0,3):=by
     unfold numR
     rw [if_pos (by omega)]
    rw [this]
    exact Ev.now _
   ·simp only [if_neg h4]
    exact number_loop s minus hs hall d (i+1) _ (by omega) (by omega) (by omega)
  ·simp only [if_pos h3]
   have:numR (10*n+(bt s (i:Int) - 48)) ((bytesOf s).drop (i+1)) minus=(0,3):=by
    unfold numR
    rw [if_pos (by omega)]
   rw [this]
   exact Ev.now _
theorem number_f (s:ByteArray) (minus:Bool) (hs:s.size≤4611686018427387904) (hall:∀ x ∈ bytesOf s,digitB x=true):Ev (fun k=>words_number.f k s minus) (numR 0 (bytesOf s) minus):=by
 unfold words_number.f
 exact number_loop s minus hs hall s.size 0 0 (by omega) (by omega) (by omega)
theorem plain_all {L:List Int} (h:plainL L=true):∀ x ∈ L,digitB x=true:=by
 unfold plainL at h
 simp only [Bool.and_eq_true] at h
 exact List.all_eq_true.1 h.2
theorem bt_head (s:ByteArray) (h:0 < s.size):(bytesOf s).head? = some (bt s 0):=by
 have:=by_drop s 0 h
 rw [List.drop_zero] at this
 rw [this]
 rfl
theorem plain_f (s:ByteArray) (hs:s.size≤4611686018427387904):Ev (fun k=>words_plain.f k s) (plainL (bytesOf s)):=by
 unfold words_plain.f plainL
 have hd:=digits_f s hs
 by_cases c0:s.toList=[]
 ·simp only [if_pos c0]
  rw [(by_emp s).1 c0]
  exact Ev.now _
 ·simp only [if_neg c0]
  have h1:bytesOf s≠[]:=fun h=>c0 ((by_emp s).2 h)
  have h2:(bytesOf s).isEmpty=false:=by simpa using h1
  have h3:0 < s.size:=by
   rw [← by_len]
   exact List.length_pos_iff.2 h1
  rw [h2]
  simp only [Bool.not_false,Bool.true_and]
  by_cases c1:(s.size:Int) > 1
  ·simp only [if_pos c1,if_pos (show 0 < (s.size:Int) by omega)]
   have h4:decide (1 < (bytesOf s).length)=true:=by
    rw [by_len]
    exact decide_eq_true (by omega)
   rw [h4,bt_head s h3]
   simp only [Bool.true_and]
   by_cases c2:bt s 0=48
   ·simp only [if_pos c2,c2]
    simp
    exact Ev.now _
   ·have h5:(some (bt s 0) == some (48:Int))=false:=by simpa using c2
    simp only [if_neg c2,h5,Bool.not_false,Bool.true_and]
    exact Ev_id hd
  ·simp only [if_neg c1]
   have h4:decide (1 < (bytesOf s).length)=false:=by
    rw [by_len]
    exact decide_eq_false (by omega)
   rw [h4]
   simp only [Bool.false_and,Bool.not_false,Bool.true_and]
   exact Ev_id hd
theorem cutp_f (s:ByteArray):strings_CutPrefix.f s (⟨#[45]⟩:ByteArray)=some (strOfNums (unsign (bytesOf s)).1,(unsign (bytesOf s)).2):=by
 have hsz:(⟨#[45]⟩:ByteArray).size=1:=rfl
 have hl:bytesOf (⟨#[45]⟩:ByteArray)=[45]:=rfl
 have h0:stringslite_HasPrefix.f s (⟨#[45]⟩:ByteArray)=some (decide ((bytesOf s).head? = some 45)):=by
  unfold stringslite_HasPrefix.f
  rw [hsz]
  by_cases c:(s.size:Int) ≥ ((1:Nat):Int)
  ·rw [if_pos c,if_pos (by omega),if_pos (by omega)]
   congr 1
   have h3:0 < s.size:=by omega
   have hd:=by_drop s 0 h3
   rw [List.drop_zero] at hd
   have he:bytesOf (s.extract 0 1)=[bt s 0]:=by rw [by_ext,hd];rfl
   rw [bt_head s h3]
   rw [Bool.eq_iff_iff,beq_iff_eq,decide_eq_true_eq,by_eq]
   constructor
   ·intro h
    have:=congrArg bytesOf h
    rw [show (((1:Nat):Int)).toNat=1 from rfl,he,hl] at this
    simpa using this
   ·intro h
    apply by_inj
    rw [show (((1:Nat):Int)).toNat=1 from rfl,he,hl]
    simpa using h
  ·rw [if_neg c]
   have h4:bytesOf s=[]:=List.length_eq_zero_iff.1 (by rw [by_len];omega)
   rw [h4]
   simp
 unfold strings_CutPrefix.f stringslite_CutPrefix.f
 rw [h0]
 simp only [Option.bind_some]
 unfold unsign
 by_cases c:(bytesOf s).head? = some 45
 ·have h3:0 < s.size:=by
   rw [← by_len]
   rcases hb:bytesOf s with _|⟨x,r⟩
   ·rw [hb] at c;simp at c
   ·simp
  rw [if_pos (decide_eq_true c),if_pos c,hsz,if_pos (by omega),if_pos (by omega)]
  simp only [Option.bind_some]
  congr 2
  apply by_inj
  rw [by_ext,by_str _ fun x hx=>by_rng s x (List.mem_of_mem_tail hx),show (((1:Nat):Int)).toNat=1 from rfl,← by_len,List.take_length,List.drop_one]
 ·rw [if_neg (by simpa using c),if_neg c]
  simp only [Option.bind_some]
  rw [str_by]
theorem unsign_rng {L:List Int} (h:∀ x ∈ L,0≤x∧x < 256):∀ x ∈ (unsign L).1,0≤x∧x < 256:=by
 unfold unsign
 split
 ·exact fun x hx=>h x (List.mem_of_mem_tail hx)
 ·exact h
theorem unsign_len (L:List Int):(unsign L).1.length≤L.length:=by
 unfold unsign
 split
 ·simp
 ·exact Nat.le_refl _
theorem int_f (s:ByteArray) (hs:s.size≤4611686018427387904):Ev (fun k=>words_Int.f k s) (intL (bytesOf s)):=by
 unfold words_Int.f intL
 rw [cutp_f]
 simp only [Option.bind_some]
 have hb:=by_str (unsign (bytesOf s)).1 (unsign_rng (by_rng s))
 have hsz:(strOfNums (unsign (bytesOf s)).1).size≤4611686018427387904:=by
  rw [strOfNums_size]
  have:=unsign_len (bytesOf s)
  rw [by_len] at this
  omega
 refine Ev_bind (plain_f _ hsz) ?_
 rw [hb]
 generalize (unsign (bytesOf s)).2=m
 generalize hT:(unsign (bytesOf s)).1=T at hb hsz
 by_cases c0:plainL T=true
 ·simp only [if_pos c0]
  have hn:=number_f (strOfNums T) m hsz (by rw [hb];exact plain_all c0)
  rw [hb] at hn
  cases m with
  | false =>
   simp only [Bool.false_eq_true,if_false,false_and,not_false_eq_true,and_true,if_pos c0]
   exact Ev_bind hn (Ev.now _)
  | true =>
   simp only [if_true,true_and]
   by_cases c1:(strOfNums T).toList=([48]:List UInt8)
   ·have c2:T=[48]:=by
     have:=(by_toList (strOfNums T) [48]).1 c1
     rw [hb] at this
     exact this
    simp only [if_pos c1]
    rw [if_neg (by rintro ⟨_,h⟩;exact h c2)]
    exact Ev.now _
   ·have c2:¬ T=[48]:=by
     intro h
     apply c1
     rw [by_toList,hb,h]
     rfl
    simp only [if_neg c1]
    rw [if_pos ⟨c0,c2⟩]
    exact Ev_bind hn (Ev.now _)
 ·simp only [if_neg c0]
  rw [if_neg (fun h=>c0 h.1)]
  exact Ev.now _
theorem plain_zero {w:List Int} (h:plainL w=true) (h0:numV 0 w=0):w=[48]:=by
 have ha:=plain_all h
 unfold plainL at h
 rcases w with _|⟨x,r⟩
 ·simp at h
 ·have hx:=dig_rng (ha x (by simp))
  have hm:=numV_mono r (x - 48) (by omega) fun y hy=>ha y (by simp [hy])
  have he:numV 0 (x :: r)=numV (x - 48) r:=by
   unfold numV
   rw [List.foldl_cons]
   congr 1
   omega
  rw [he] at h0
  obtain rfl:x=48:=by omega
  rcases r with _|⟨y,r⟩
  ·rfl
  ·simp at h
end Go.Proofs.YthpmmofleddpnaaDoor.P
end
section
namespace Go.Proofs.YthpmmofleddpnaaDoor.P
set_option linter.unusedVariables false
set_option linter.unusedSimpArgs false
open Go.RowKit Go.Proofs.YthpmmofleddpnaaDoorW.PrintWords Go.Proofs.YthpmmofleddpnaaDoorW.PrintMore Go.Proofs.YthpmmofleddpnaaDoor.X
def digs (n:Nat):List Int:=if n < 10 then [48+(n:Int)] else digs (n / 10)++[48+((n % 10:Nat):Int)]
termination_by n
decreasing_by omega
theorem digs_lt {n:Nat} (h:n < 10):digs n=[48+(n:Int)]:=by rw [digs,if_pos h]
theorem digs_ge {n:Nat} (h:10≤n):digs n=digs (n / 10)++[48+((n % 10:Nat):Int)]:=by rw [digs,if_neg (by omega)]
theorem digs_ind {p:Nat→Prop} (h0:∀ n,n < 10→p n) (h1:∀ n,10≤n→p (n / 10)→p n) (n:Nat):p n:=by
 induction n using Nat.strongRecOn with
 | _ n ih =>
  by_cases h:n < 10
  ·exact h0 n h
  ·exact h1 n (by omega) (ih _ (by omega))
theorem digitB_of {x:Int} (h1:48≤x) (h2:x≤57):digitB x=true:=by
 unfold digitB
 rw [decide_eq_true h1,decide_eq_true h2,Bool.and_true]
theorem digs_all (n:Nat):∀ x ∈ digs n,digitB x=true:=by
 induction n using digs_ind with
 | h0 n h =>
  rw [digs_lt h]
  intro x hx
  obtain rfl:=List.mem_singleton.1 hx
  exact digitB_of (by omega) (by omega)
 | h1 n h ih =>
  rw [digs_ge h]
  intro x hx
  rcases List.mem_append.1 hx with h2|h2
  ·exact ih x h2
  ·obtain rfl:=List.mem_singleton.1 h2
   exact digitB_of (by omega) (by omega)
theorem digs_rng (n:Nat):∀ x ∈ digs n,0≤x∧x < 256:=fun x hx=>by have:=dig_rng (digs_all n x hx);omega
theorem digs_len:∀ (k n:Nat),0 < k→n < 10 ^ k→(digs n).length≤k
 | 0,n,h,_=>absurd h (by decide)
 | k+1,n,_,h=>by
  by_cases h2:n < 10
  ·rw [digs_lt h2];simp
  ·rw [digs_ge (by omega)]
   have hk:0 < k:=by
    rcases Nat.eq_zero_or_pos k with rfl|h3
    ·simp at h;omega
    ·exact h3
   have:=digs_len k (n / 10) hk (by rw [Nat.pow_succ] at h;omega)
   simp only [List.length_append,List.length_cons,List.length_nil]
   omega
theorem decL_digs:∀ (k:Nat) (u:Int) (acc:List Int),0 < k→0≤u→u < 10 ^ k→decL k u acc=digs u.toNat++acc
 | 0,u,acc,h,_,_=>absurd h (by decide)
 | k+1,u,acc,_,h0,h1=>by
  unfold decL
  by_cases c:u / 10=0
  ·rw [if_pos c,digs_lt (by omega),show 48+u % 10=48+(u.toNat:Int) by omega]
   rfl
  ·rw [if_neg c,digs_ge (by omega)]
   have hk:0 < k:=by
    rcases Nat.eq_zero_or_pos k with rfl|h3
    ·simp at h1;omega
    ·exact h3
   rw [decL_digs k (u / 10) _ hk (by omega) (by rw [Int.pow_succ] at h1;omega),show (u / 10).toNat=u.toNat / 10 by omega,show 48+u % 10=48+((u.toNat % 10:Nat):Int) by omega,List.append_assoc]
   rfl
theorem decimal_f (u:Int) (h0:0≤u) (h1:u < 18446744073709551616):words_decimal.f u=some (strOfNums (digs u.toNat)):=by
 unfold words_decimal.f
 rw [if_pos ⟨h0,h1⟩,decL_digs 20 u [] (by decide) h0 (by omega),List.append_nil]
def sgnL (n:Int):List Int:=if n < 0 then [45] else []
theorem len20 (n:Nat) (h:n < 18446744073709551616):(digs n).length≤20:=digs_len 20 n (by decide) (by omega)
def textL (n:Int):List Int:=sgnL n++digs n.natAbs
theorem wsize_f (n:Int) (h1:-9223372036854775808≤n) (h2:n≤9223372036854775807):words_size.f n=some ((n.natAbs:Int),strOfNums (sgnL n)):=by
 unfold words_size.f sgnL
 by_cases c:n < 0
 ·rw [if_pos c,if_pos c]
  have:IntKind.u64.wrap (-(IntKind.u64.wrap n))=(n.natAbs:Int):=by
   simp only [IntKind.wrap,IntKind.bits,IntKind.signed,Bool.false_and,Bool.false_eq_true,if_false]
   omega
  rw [this]
  rfl
 ·rw [if_neg c,if_neg c]
  have:IntKind.u64.wrap n=(n.natAbs:Int):=by
   simp only [IntKind.wrap,IntKind.bits,IntKind.signed,Bool.false_and,Bool.false_eq_true,if_false]
   omega
  rw [this]
  rfl
theorem flat_join (l:List ByteArray):bytesOf ⟨(Lib.join (l.map (·.data.toList)) (⟨#[]⟩:ByteArray).data.toList).toArray⟩=(l.map bytesOf).flatten:=by
 unfold bytesOf
 show ((Lib.join (l.map (·.data.toList)) []).toArray.toList).map _=_
 rw [List.toList_toArray]
 unfold Lib.join
 rw [List.intercalate]
 have e:∀ m:List (List UInt8),(List.intersperse [] m).flatten=m.flatten:=by
  intro m
  induction m with
  | nil=>rfl
  | cons x r ih =>
   cases r with
   | nil=>rfl
   | cons y r =>
    simp only [List.intersperse_cons_cons,List.flatten_cons,List.nil_append] at ih ⊢
    rw [ih]
 rw [e,List.map_flatten,List.map_map]
 rfl
theorem join0_f (l:List ByteArray) (h:(l.map bytesOf).flatten.length≤140737488355328) (h2:l.length≤140737488355328):strings_Join.f l (⟨#[]⟩:ByteArray)=some (strOfNums (l.map bytesOf).flatten):=by
 unfold strings_Join.f
 have e:=flat_join l
 have hl:(Lib.join (l.map (·.data.toList)) (⟨#[]⟩:ByteArray).data.toList).length=(l.map bytesOf).flatten.length:=by
  rw [← e,by_len]
  rfl
 rw [if_pos ⟨by rw [hl];exact h,h2⟩]
 congr 1
 apply by_inj
 rw [e,by_str]
 intro x hx
 obtain ⟨y,hy,hx⟩:=List.mem_flatten.1 hx
 obtain ⟨s,_,rfl⟩:=List.mem_map.1 hy
 exact by_rng s x hx
theorem sgn_rng (n:Int):∀ x ∈ sgnL n,0≤x∧x < 256:=by
 unfold sgnL
 intro x hx
 split at hx
 ·obtain rfl:=List.mem_singleton.1 hx;omega
 ·cases hx
theorem sgn_len (n:Int):(sgnL n).length≤1:=by
 unfold sgnL
 split<;>simp
theorem bnd {α β:Type} {x:Option α} {a:α} {f:α→Option β} {r:Option β} (h:x=some a) (k:f a=r):x.bind f=r:=by rw [h];exact k
theorem dec_nat (n:Nat) (h:n < 18446744073709551616):words_decimal.f (n:Int)=some (strOfNums (digs n)):=by
 have:=decimal_f (n:Int) (by omega) (by omega)
 rwa [Int.toNat_natCast] at this
theorem text_join (n:Int) (h1:-9223372036854775808≤n) (h2:n≤9223372036854775807):strings_Join.f [strOfNums (sgnL n),strOfNums (digs n.natAbs)] (⟨#[]⟩:ByteArray)=some (strOfNums (textL n)):=by
 have e:([strOfNums (sgnL n),strOfNums (digs n.natAbs)].map bytesOf).flatten=textL n:=by
  simp only [List.map_cons,List.map_nil,List.flatten_cons,List.flatten_nil,List.append_nil]
  rw [by_str _ (sgn_rng n),by_str _ (digs_rng _),textL]
 have hl:(textL n).length≤140737488355328:=by
  unfold textL
  rw [List.length_append]
  have:=sgn_len n
  have:=len20 n.natAbs (by omega)
  omega
 rw [join0_f _ (by rw [e];exact hl) (by simp),e]
theorem text_f (n:Int) (h1:-9223372036854775808≤n) (h2:n≤9223372036854775807):words_Text.f n=some (strOfNums (textL n)):=by
 unfold words_Text.f words_together.f
 refine bnd (wsize_f n h1 h2) ?_
 refine bnd (dec_nat n.natAbs (by omega)) ?_
 exact bnd (bnd (text_join n h1 h2) (Eq.refl _)) (Eq.refl _)
theorem digs_size (n:Nat) (h:n < 18446744073709551616):(strOfNums (digs n)).size≤20:=by
 rw [strOfNums_size]
 exact digs_len 20 n (by decide) (by omega)
end Go.Proofs.YthpmmofleddpnaaDoor.P
end
section
namespace Go.Proofs.YthpmmofleddpnaaDoor.P
set_option linter.unusedVariables false
set_option linter.unusedSimpArgs false
open Go.RowKit Go.Proofs.YthpmmofleddpnaaDoorW.PrintWords Go.Proofs.YthpmmofleddpnaaDoorW.PrintMore Go.Proofs.YthpmmofleddpnaaDoor.X
theorem okb_iff (b:Int):okB b=true↔32 < b∧b≤126:=by unfold okB;simp
theorem text_rng9 (n:Int):∀ x ∈ textL n,okB x=true:=by
 unfold textL sgnL
 intro x hx
 rw [okb_iff]
 rcases List.mem_append.1 hx with h|h
 ·split at h
  ·obtain rfl:=List.mem_singleton.1 h;omega
  ·cases h
 ·have:=dig_rng (digs_all _ x h);omega
def textS (n:Int):ByteArray:=strOfNums (textL n)
theorem textS_by (n:Int):bytesOf (textS n)=textL n:=by_str _ fun x hx=>by have:=(okb_iff x).1 (text_rng9 n x hx);omega
theorem textS_size (n:Int) (h1:-9223372036854775808≤n) (h2:n≤9223372036854775807):(textS n).size≤21:=by
 unfold textS
 rw [strOfNums_size]
 unfold textL
 rw [List.length_append]
 have:=sgn_len n
 have:=len20 n.natAbs (by omega)
 omega
def I64 (n:Int):Prop:=-9223372036854775808≤n∧n≤9223372036854775807
end Go.Proofs.YthpmmofleddpnaaDoor.P
end
section
namespace Go.Proofs.YthpmmofleddpnaaDoor.P
set_option linter.unusedVariables false
set_option linter.unusedSimpArgs false
open Go.RowKit Go.Proofs.YthpmmofleddpnaaDoorW.PrintWords Go.Proofs.YthpmmofleddpnaaDoorW.PrintMore Go.Proofs.YthpmmofleddpnaaDoor.X
theorem rdigits_loop (s:ByteArray) (hs:s.size≤4611686018427387904):∀ (d i:Nat),i+d=s.size→Ev (fun k=>contangoref03_digits.l0 k s i) (((bytesOf s).drop i).all digitB && (decide (s.size=1) || (decide (1 < s.size) && bt s 0 != 48)))
 | 0,i,hd=>by
  refine Ev_succ ?_
  simp only [contangoref03_digits.l0,if_neg (show ¬ ((i:Int) < (s.size:Int)) by omega)]
  rw [by_end s i (by omega)]
  simp only [List.all_nil,Bool.true_and]
  by_cases c:(s.size:Int)=1
  ·simp only [if_pos c,decide_eq_true (show s.size=1 by omega),Bool.true_or]
   exact Ev.now _
  ·simp only [if_neg c,decide_eq_false (show ¬ s.size=1 by omega),Bool.false_or]
   by_cases c2:(s.size:Int) > 1
   ·simp only [if_pos c2,if_pos (show 0 < (s.size:Int) by omega),decide_eq_true (show 1 < s.size by omega),Bool.true_and]
    exact Ev.now _
   ·simp only [if_neg c2,decide_eq_false (show ¬ 1 < s.size by omega),Bool.false_and]
    exact Ev.now _
 | d+1,i,hd=>by
  have hi:i < s.size:=by omega
  have ih:=rdigits_loop s hs d (i+1) (by omega)
  refine Ev_succ ?_
  simp only [contangoref03_digits.l0,if_pos (show (i:Int) < (s.size:Int) by omega),if_pos (show 0≤(i:Int) by omega),w_succ hi (by omega)]
  rw [by_drop s i hi,List.all_cons]
  by_cases c1:bt s (i:Int) < 48
  ·have:digitB (bt s (i:Int))=false:=by
    unfold digitB
    rw [decide_eq_false (by omega),Bool.false_and]
   simp only [if_pos c1,this,Bool.false_and]
   exact Ev.now _
  ·simp only [if_neg c1]
   by_cases c2:bt s (i:Int) > 57
   ·have:digitB (bt s (i:Int))=false:=by
     unfold digitB
     rw [decide_eq_false (show ¬ bt s (i:Int)≤57 by omega),Bool.and_false]
    simp only [if_pos c2,this,Bool.false_and]
    exact Ev.now _
   ·have:digitB (bt s (i:Int))=true:=by
     unfold digitB
     rw [decide_eq_true (by omega),decide_eq_true (by omega),Bool.true_and]
    simp only [if_neg c2,this,Bool.true_and]
    exact ih
theorem rdigits_f (s:ByteArray) (hs:s.size≤4611686018427387904):Ev (fun k=>contangoref03_digits.f k s) (plainL (bytesOf s)):=by
 have h:=rdigits_loop s hs s.size 0 (by omega)
 have e:(((bytesOf s).drop 0).all digitB && (decide (s.size=1) || (decide (1 < s.size) && bt s 0 != 48)))=plainL (bytesOf s):=by
  rw [List.drop_zero]
  unfold plainL
  rcases Nat.eq_zero_or_pos s.size with h0|h0
  ·have h4:bytesOf s=[]:=List.length_eq_zero_iff.1 (by rw [by_len];omega)
   rw [h4,h0]
   rfl
  ·have h2:(bytesOf s).isEmpty=false:=by
    have:bytesOf s≠[]:=by
     intro h
     have:=congrArg List.length h
     rw [by_len] at this
     have h5:s.size=0:=this
     omega
    simpa using this
   rw [h2,bt_head s h0,by_len,Bool.and_comm]
   simp only [Bool.not_false,Bool.true_and]
   congr 1
   by_cases c:s.size=1
   ·rw [c];simp
   ·rw [decide_eq_false c,decide_eq_true (show 1 < s.size by omega)]
    simp [bne]
 rw [← e]
 unfold contangoref03_digits.f
 exact h
theorem value_loop (s:ByteArray) (hs:s.size≤4611686018427387904) (hall:∀ x ∈ bytesOf s,digitB x=true):∀ (d i:Nat) (n:Int),i+d=s.size→0≤n→n≤1152921504606846979→∃ r,Ev (fun k=>contangoref03_value.l0 k s n i) r∧((numV n ((bytesOf s).drop i)≤1152921504606846976∧r=numV n ((bytesOf s).drop i))∨(1152921504606846976 < numV n ((bytesOf s).drop i)∧1152921504606846976 < r))
 | 0,i,n,hd,h0,h1=>by
  refine ⟨n,Ev_succ ?_,?_⟩
  ·simp only [contangoref03_value.l0,if_neg (show ¬ ((i:Int) < (s.size:Int)) by omega)]
   exact Ev.now _
  ·rw [by_end s i (by omega)]
   show (n≤1152921504606846976∧n=n)∨(1152921504606846976 < n∧1152921504606846976 < n)
   rcases Int.lt_or_le 1152921504606846976 n with h|h
   ·exact Or.inr ⟨h,h⟩
   ·exact Or.inl ⟨h,rfl⟩
 | d+1,i,n,hd,h0,h1=>by
  have hi:i < s.size:=by omega
  have hb:digitB (bt s (i:Int))=true:=hall _ (by
   have h':i < (bytesOf s).length:=by rw [by_len];exact hi
   rw [by_bt s i h']
   exact List.getElem_mem h')
  have hb2:=dig_rng hb
  have hr:∀ x ∈ (bytesOf s).drop (i+1),digitB x=true:=fun x hx=>hall x (List.mem_of_mem_drop hx)
  have hm:=numV_mono ((bytesOf s).drop (i+1)) (10*n+(bt s (i:Int) - 48)) (by omega) hr
  have hc:numV n (bt s (i:Int) :: (bytesOf s).drop (i+1))=numV (10*n+(bt s (i:Int) - 48)) ((bytesOf s).drop (i+1)):=rfl
  rw [by_drop s i hi,hc]
  by_cases c:n > 115292150460684697
  ·refine ⟨1152921504606846977,Ev_succ ?_,?_⟩
   ·simp only [contangoref03_value.l0,if_pos (show (i:Int) < (s.size:Int) by omega),if_pos c]
    exact Ev.now _
   ·omega
  ·have hw:wrap64 (wrap64 (10*n)+(bt s (i:Int) - 48))=10*n+(bt s (i:Int) - 48):=by
    rw [w_id (x:=10*n) (by omega) (by omega),w_id (by omega) (by omega)]
   obtain ⟨r,h2,h3⟩:=value_loop s hs hall d (i+1) (10*n+(bt s (i:Int) - 48)) (by omega) (by omega) (by omega)
   refine ⟨r,Ev_succ ?_,h3⟩
   simp only [contangoref03_value.l0,if_pos (show (i:Int) < (s.size:Int) by omega),if_neg c,if_pos (show 0≤(i:Int) by omega),w_succ hi (by omega),Int.emod_eq_of_lt (show 0≤bt s (i:Int) - 48 by omega) (show bt s (i:Int) - 48 < 256 by omega),hw]
   exact h2
def sgnR (v:Int) (m:Bool):Int × Int:=if m=true∧v=0 then (0,5) else if 1152921504606846976 < v then (0,3) else (if m then -v else v,0)
theorem rsigned_f (v:Int) (m:Bool) (h0:0≤v):Ev (fun k=>contangoref03_signed.f k v m) (sgnR v m):=by
 have hj:∀ b:Bool,b=(m && v == 0)→Ev (fun k=>contangoref03_signed.j0 k v m b) (sgnR v m):=by
  intro b hb
  refine Ev_succ ?_
  unfold sgnR
  subst hb
  cases m with
  | false =>
   simp only [contangoref03_signed.j0,Bool.false_and,Bool.false_eq_true,if_false,false_and]
   by_cases c2:v > 1152921504606846976
   ·simp only [if_pos c2]
    exact Ev.now _
   ·simp only [if_neg c2]
    exact Ev.now _
  | true =>
   by_cases c:v=0
   ·simp only [contangoref03_signed.j0,c,beq_self_eq_true,Bool.and_self,if_true,and_self]
    exact Ev.now _
   ·have c':(v == 0)=false:=by simpa using c
    simp only [contangoref03_signed.j0,c',Bool.and_false,Bool.false_eq_true,if_false,c,and_false,if_true]
    by_cases c2:v > 1152921504606846976
    ·simp only [if_pos c2]
     exact Ev.now _
    ·simp only [if_neg c2,neg_w v h0 (show v≤1152921504606846976 by omega)]
     exact Ev.now _
 unfold contangoref03_signed.f
 cases m with
 | false=>simp only [Bool.false_eq_true,if_false];exact hj _ (by simp)
 | true=>simp only [if_true];exact hj _ (by simp)
theorem vs_f (s:ByteArray) (m:Bool) (hs:s.size≤4611686018427387904) (hall:∀ x ∈ bytesOf s,digitB x=true):Ev (fun k=>(contangoref03_value.f k s).bind fun t102=>((contangoref03_signed.f k t102 m).bind fun bt103=>(some (bt103.1,bt103.2)))) (sgnR (numV 0 (bytesOf s)) m):=by
 obtain ⟨r,h1,h2⟩:=value_loop s hs hall s.size 0 0 (by omega) (by omega) (by omega)
 rw [List.drop_zero] at h2
 have hv:=numV_mono (bytesOf s) 0 (by omega) hall
 have hr0:0≤r:=by omega
 have he:sgnR r m=sgnR (numV 0 (bytesOf s)) m:=by
  rcases h2 with ⟨h2,rfl⟩|⟨h2,h3⟩
  ·rfl
  ·unfold sgnR
   rw [if_neg (show ¬ (m=true∧r=0) from fun h=>by have:=h.2;omega),if_neg (show ¬ (m=true∧numV 0 (bytesOf s)=0) from fun h=>by have:=h.2;omega),if_pos h3,if_pos h2]
 rw [← he]
 refine Ev_bind (f:=fun k t102=>((contangoref03_signed.f k t102 m).bind fun bt103=>(some (bt103.1,bt103.2)))) h1 ?_
 exact Ev_bind (rsigned_f r m hr0) (Ev.now _)
def rintT (T:List Int) (m:Bool):Int × Int:=if plainL T=true then sgnR (numV 0 T) m else (0,5)
theorem rint_j1 (s:ByteArray) (m:Bool) (hs:s.size≤4611686018427387904):Ev (fun k=>contangoref03_Int.j1 k s m) (rintT (bytesOf s) m):=by
 refine Ev_succ ?_
 simp only [contangoref03_Int.j1]
 refine Ev_bind (rdigits_f s hs) ?_
 unfold rintT
 by_cases c:plainL (bytesOf s)=true
 ·simp only [if_pos c]
  exact vs_f s m hs (plain_all c)
 ·simp only [if_neg c]
  exact Ev.now _
theorem unsign_ext (s:ByteArray) (h:(bytesOf s).head? = some 45):bytesOf (s.extract 1 s.size)=(bytesOf s).tail:=by
 rw [by_ext,← by_len,List.take_length,List.drop_one]
theorem rint_f (s:ByteArray) (hs:s.size≤4611686018427387904):Ev (fun k=>contangoref03_Int.f k s) (rintT (unsign (bytesOf s)).1 (unsign (bytesOf s)).2):=by
 have hj:∀ b:Bool,b=decide ((bytesOf s).head? = some 45)→Ev (fun k=>contangoref03_Int.j0 k s b) (rintT (unsign (bytesOf s)).1 (unsign (bytesOf s)).2):=by
  intro b hb
  refine Ev_succ ?_
  unfold unsign
  by_cases c:(bytesOf s).head? = some 45
  ·rw [decide_eq_true c] at hb
   subst hb
   rw [if_pos c]
   have h3:0 < s.size:=by
    rw [← by_len]
    rcases hb:bytesOf s with _|⟨x,r⟩
    ·rw [hb] at c;simp at c
    ·simp
   simp only [contangoref03_Int.j0,if_true,if_pos (show 1≤(s.size:Int) by omega)]
   have:=rint_j1 (s.extract 1 s.size) true (by rw [ByteArray.size_extract];omega)
   rw [unsign_ext s c] at this
   exact this
  ·rw [decide_eq_false c] at hb
   subst hb
   rw [if_neg c]
   simp only [contangoref03_Int.j0,Bool.false_eq_true,if_false]
   exact rint_j1 s false hs
 unfold contangoref03_Int.f
 by_cases c:(s.size:Int) > 0
 ·simp only [if_pos c,if_pos (show 0 < (s.size:Int) by omega)]
  refine hj _ ?_
  rw [bt_head s (by omega)]
  rw [Bool.eq_iff_iff]
  simp
 ·simp only [if_neg c]
  refine hj _ ?_
  have h4:bytesOf s=[]:=List.length_eq_zero_iff.1 (by rw [by_len];omega)
  rw [h4]
  rfl
theorem int_same (L:List Int):intL L=rintT (unsign L).1 (unsign L).2:=by
 unfold intL rintT sgnR numR
 generalize (unsign L).2=m
 generalize (unsign L).1=T
 by_cases c:plainL T=true
 ·rw [if_pos c]
  by_cases c2:m=true∧T=[48]
  ·rw [if_neg (fun h=>h.2 c2),if_pos ⟨c2.1,by rw [c2.2];rfl⟩]
  ·rw [if_pos ⟨c,c2⟩,if_neg (show ¬ (m=true∧numV 0 T=0) from fun h=>c2 ⟨h.1,plain_zero c h.2⟩)]
 ·rw [if_neg (fun h=>c h.1),if_neg c]
end Go.Proofs.YthpmmofleddpnaaDoor.P
end
section
namespace Go.Proofs.YthpmmofleddpnaaDoor.P
set_option linter.unusedVariables false
set_option linter.unusedSimpArgs false
open Go.RowKit Go.Proofs.YthpmmofleddpnaaDoorW.PrintWords Go.Proofs.YthpmmofleddpnaaDoorW.PrintMore Go.Proofs.YthpmmofleddpnaaDoor.X
theorem rtext_step (n:Int) (h0:n≤0) (h1:-9223372036854775808≤n) (ih:¬ n > -10→Ev (fun k=>contangoref03_text.f k (-((-n) / 10))) (strOfNums (digs ((-n).toNat / 10)))):Ev (fun k=>contangoref03_text.f k n) (strOfNums (digs (-n).toNat)):=by
 refine Ev_succ ?_
 have hm:Int.tmod n 10 = -((-n) % 10):=by
  have:=Int.neg_tmod (a:=-n) (b:=10)
  rw [Int.neg_neg] at this
  rw [this,Int.tmod_eq_emod_of_nonneg (by omega)]
 have hq:Int.tdiv n 10 = -((-n) / 10):=by
  have:=Int.neg_tdiv (-n) 10
  rw [Int.neg_neg] at this
  rw [this,Int.tdiv_eq_ediv_of_nonneg (by omega)]
 have hw:wrap64 (48 - Int.tmod n 10) % 256=48+(-n) % 10:=by rw [hm,w_id (by omega) (by omega)];omega
 have hw2:wrap64 (Int.tdiv n 10) = -((-n) / 10):=by rw [hq,w_id (by omega) (by omega)]
 simp only [contangoref03_text.f,Option.bind_some,hw,hw2]
 by_cases c:n > -10
 ·simp only [if_pos c]
  rw [digs_lt (by omega),show (48+(((-n).toNat:Nat):Int))=48+(-n) % 10 by omega]
  exact Ev.now _
 ·simp only [if_neg c]
  refine Ev_bind (ih c) ?_
  have hp:(-n).toNat / 10 < 10 ^ 20:=by omega
  have hsz:=digs_len 20 ((-n).toNat / 10) (by decide) hp
  have hs1:(strOfNums (digs ((-n).toNat / 10))).size+(strOfNums [48+(-n) % 10]).size≤9223372036854775807:=by
   rw [strOfNums_size,strOfNums_size]
   simp only [List.length_cons,List.length_nil]
   omega
  have he:digs (-n).toNat=digs ((-n).toNat / 10)++[48+(-n) % 10]:=by
   rw [digs_ge (n:=(-n).toNat) (by omega),show (48+(((-n).toNat % 10:Nat):Int))=48+(-n) % 10 by omega]
  rw [if_pos hs1,he,str_app]
  exact Ev.now _
theorem rtext_all:∀ (d:Nat) (n:Int),n≤0 → -9223372036854775808≤n→(-n).toNat < 10 ^ (d+1)→Ev (fun k=>contangoref03_text.f k n) (strOfNums (digs (-n).toNat))
 | 0,n,h0,h1,h2=>rtext_step n h0 h1 fun c=>by rw [Nat.zero_add,Nat.pow_one] at h2;omega
 | d+1,n,h0,h1,h2=>rtext_step n h0 h1 fun c=>by
  have hp:(- -((-n) / 10)).toNat < 10 ^ (d+1):=by rw [Nat.pow_succ] at h2;omega
  have:=rtext_all d (-((-n) / 10)) (by omega) (by omega) hp
  rwa [show (- -((-n) / 10)).toNat=(-n).toNat / 10 by omega] at this
theorem rtext_f (n:Int) (h0:n≤0) (h1:-9223372036854775808≤n):Ev (fun k=>contangoref03_text.f k n) (strOfNums (digs (-n).toNat)):=rtext_all 19 n h0 h1 (by omega)
theorem rText_f (n:Int) (h1:-9223372036854775808≤n) (h2:n≤9223372036854775807):Ev (fun k=>contangoref03_Text.f k n) (strOfNums (textL n)):=by
 unfold contangoref03_Text.f textL sgnL
 rw [str_app]
 by_cases c:n < 0
 ·simp only [if_pos c]
  refine Ev_bind (rtext_f n (by omega) h1) ?_
  have e:(-n).toNat=n.natAbs:=by omega
  rw [e]
  have:=digs_size n.natAbs (by omega)
  rw [if_pos (by omega)]
  exact Ev.now _
 ·simp only [if_neg c]
  rw [w_id (x:=-n) (by omega) (by omega)]
  refine Ev_bind (rtext_f (-n) (by omega) (by omega)) ?_
  have e:(- -n).toNat=n.natAbs:=by omega
  rw [e,show strOfNums []++strOfNums (digs n.natAbs)=strOfNums (digs n.natAbs) by rw [← str_app];rfl]
  exact Ev.now _
end Go.Proofs.YthpmmofleddpnaaDoor.P
end
section
namespace Go.Proofs.YthpmmofleddpnaaDoor.P
set_option linter.unusedVariables false
set_option linter.unusedSimpArgs false
open Go.RowKit Go.Proofs.YthpmmofleddpnaaDoorW.PrintWords Go.Proofs.YthpmmofleddpnaaDoorW.PrintMore Go.Proofs.YthpmmofleddpnaaDoor.X
theorem ok_iff (b:Int):okB b=true↔32 < b∧b≤126:=by unfold okB;simp
theorem good_all:∀ {L:List Int},(splitI 32 L).all goodP=true→∀ x ∈ L,x=32∨okB x=true
 | [],_,x,hx=>by cases hx
 | a :: r,h,x,hx=>by
  unfold splitI at h
  by_cases c:a=32
  ·rw [if_pos c,List.all_cons] at h
   exact absurd h (by simp [goodP])
  ·rw [if_neg c] at h
   cases hs:splitI 32 r with
   | nil=>exact absurd hs (splitI_ne 32 r)
   | cons p q =>
    rw [hs] at h
    simp only [List.all_cons,Bool.and_eq_true] at h
    have h1:=h.1
    unfold goodP at h1
    simp only [List.all_cons,Bool.and_eq_true] at h1
    rcases List.mem_cons.1 hx with e|e
    ·subst e;exact Or.inr h1.2.1
    ·by_cases hp:p=[]
     ·
      subst hp
      cases r with
      | nil=>cases e
      | cons b r2 =>
       unfold splitI at hs
       by_cases cb:b=32
       ·rw [if_pos cb] at hs
        injection hs with _ h4
        rcases List.mem_cons.1 e with e2|e2
        ·subst e2;exact Or.inl cb
        ·exact good_all (by rw [h4];exact h.2) x e2
       ·rw [if_neg cb] at hs
        cases hs2:splitI 32 r2 with
        | nil=>exact absurd hs2 (splitI_ne 32 r2)
        | cons p2 q2=>rw [hs2] at hs;cases hs
     ·refine good_all ?_ x e
      rw [hs,List.all_cons,h.2,Bool.and_true]
      unfold goodP
      have:p.isEmpty=false:=by simpa using hp
      rw [this]
      simpa using h1.2.2
theorem ok_no {A:List Int} (h:∀ b ∈ A,okB b=true):(32:Int) ∉ A:=fun hm=>by have:=(ok_iff _).1 (h _ hm);omega
theorem good_of {A:List Int} (h:∀ b ∈ A,okB b=true) (hn:A≠[]):goodP A=true:=by
 unfold goodP
 have:A.isEmpty=false:=by simpa using hn
 rw [this,List.all_eq_true.2 h]
 rfl
theorem ext_cur (s:ByteArray) (a b:Nat):s.extract a b=strOfNums (((bytesOf s).take b).drop a):=by
 apply by_inj
 rw [by_ext,by_str]
 intro x hx
 exact by_rng s x (List.mem_of_mem_take (List.mem_of_mem_drop hx))
theorem cur_drop (s:ByteArray) (a i:Nat) (h:a≤i) (hi:i≤s.size):(bytesOf s).drop a=((bytesOf s).take i).drop a++(bytesOf s).drop i:=by
 conv=>lhs;rw [← List.take_append_drop i (bytesOf s)]
 rw [List.drop_append_of_le_length]
 rw [List.length_take,by_len]
 omega
theorem cur_succ (s:ByteArray) (a i:Nat) (h:a≤i) (hi:i < s.size):((bytesOf s).take (i+1)).drop a=((bytesOf s).take i).drop a++[bt s (i:Int)]:=by
 have hl:i < (bytesOf s).length:=by rw [by_len];exact hi
 rw [by_bt s i hl,← List.take_append_getElem hl,List.drop_append_of_le_length]
 rw [List.length_take]
 omega
def fieldsG (acc:List ByteArray) (L:List Int):List ByteArray × Int:=if (splitI 32 L).all goodP=true then (acc++(splitI 32 L).map strOfNums,0) else ([],5)
theorem rfields_loop (s:ByteArray) (hs:s.size≤512):∀ (d i a:Nat) (acc:List ByteArray),i+d=s.size→a≤i→(∀ b ∈ ((bytesOf s).take i).drop a,okB b=true)→acc.length≤i→Ev (fun k=>contangoref03_Fields.l0 k s acc a i) (fieldsG acc ((bytesOf s).drop a))
 | 0,i,a,acc,hd,ha,hok,hac=>by
  refine Ev_succ ?_
  simp only [contangoref03_Fields.l0,if_pos (show (i:Int)≤(s.size:Int) by omega),if_neg (show ¬ (i:Int) < (s.size:Int) by omega)]
  refine Ev_succ ?_
  simp only [contangoref03_Fields.j1,Bool.false_eq_true,if_false,if_neg (show ¬ (i:Int) < (s.size:Int) by omega)]
  refine Ev_succ ?_
  have hcur:=cur_drop s a i ha (by omega)
  rw [by_end s i (by omega),List.append_nil] at hcur
  by_cases c:(i:Int)=(a:Int)
  ·simp only [contangoref03_Fields.j2,Bool.false_eq_true,if_false,if_pos c]
   have he:(bytesOf s).drop a=[]:=by_end s a (by omega)
   unfold fieldsG
   rw [he,if_neg (by decide)]
   exact Ev.now _
  ·simp only [contangoref03_Fields.j2,Bool.false_eq_true,if_false,if_neg c,if_pos (show 0≤(a:Int) by omega),if_pos (show (a:Int)≤(i:Int) by omega),if_pos (show (i:Int)≤(s.size:Int) by omega),if_pos (show acc.length < 8796093022208 by omega),Int.toNat_natCast]
   refine Ev_succ ?_
   rw [w_id (x:=(i:Int)+1) (by omega) (by omega)]
   simp only [contangoref03_Fields.l0,if_neg (show ¬ (i:Int)+1≤(s.size:Int) by omega)]
   have hne:((bytesOf s).take i).drop a≠[]:=by
    intro h
    have:=congrArg List.length h
    rw [List.length_drop,List.length_take,by_len] at this
    simp at this
    omega
   unfold fieldsG
   rw [hcur,splitI_none (ok_no hok),ext_cur]
   simp only [List.all_cons,List.all_nil,Bool.and_true,good_of hok hne,if_true,List.map_cons,List.map_nil]
   exact Ev.now _
 | d+1,i,a,acc,hd,ha,hok,hac=>by
  have hi:i < s.size:=by omega
  have hcur:=cur_drop s a i ha (by omega)
  rw [by_drop s i hi] at hcur
  have hin:bt s (i:Int) ∈ (bytesOf s).drop a:=by rw [hcur];simp
  refine Ev_succ ?_
  simp only [contangoref03_Fields.l0,if_pos (show (i:Int)≤(s.size:Int) by omega),if_pos (show (i:Int) < (s.size:Int) by omega),if_pos (show 0≤(i:Int) by omega)]
  have bad:¬ (bt s (i:Int)=32∨okB (bt s (i:Int))=true)→Ev (fun k=>contangoref03_Fields.j1 k s acc a i true) (fieldsG acc ((bytesOf s).drop a)):=by
   intro hb
   unfold fieldsG
   rw [if_neg (fun h=>hb (good_all h _ hin))]
   refine Ev_succ ?_
   simp only [contangoref03_Fields.j1,if_true]
   exact Ev.now _
  by_cases c1:bt s (i:Int) < 32
  ·simp only [if_pos c1]
   exact bad (by rw [ok_iff];omega)
  simp only [if_neg c1]
  by_cases c2:bt s (i:Int) > 126
  ·rw [decide_eq_true c2]
   exact bad (by rw [ok_iff];omega)
  rw [decide_eq_false c2]
  refine Ev_succ ?_
  simp only [contangoref03_Fields.j1,Bool.false_eq_true,if_false,if_pos (show (i:Int) < (s.size:Int) by omega),if_pos (show 0≤(i:Int) by omega)]
  refine Ev_succ ?_
  by_cases c3:bt s (i:Int)=32
  ·have hb:(bt s (i:Int) != 32)=false:=by rw [c3];rfl
   rw [hb]
   simp only [contangoref03_Fields.j2,Bool.false_eq_true,if_false]
   rw [c3] at hcur
   by_cases c:(i:Int)=(a:Int)
   ·simp only [if_pos c]
    have he:((bytesOf s).take i).drop a=[]:=List.drop_of_length_le (by rw [List.length_take];omega)
    rw [he,List.nil_append] at hcur
    unfold fieldsG
    rw [hcur,splitI,if_pos rfl,List.all_cons,if_neg (by simp [goodP])]
    exact Ev.now _
   ·simp only [if_neg c,if_pos (show 0≤(a:Int) by omega),if_pos (show (a:Int)≤(i:Int) by omega),if_pos (show (i:Int)≤(s.size:Int) by omega),if_pos (show acc.length < 8796093022208 by omega),Int.toNat_natCast,w_succ hi (by omega)]
    have hne:((bytesOf s).take i).drop a≠[]:=by
     intro h
     have:=congrArg List.length h
     rw [List.length_drop,List.length_take,by_len] at this
     simp at this
     omega
    have ih:=rfields_loop s hs d (i+1) (i+1) (acc++[s.extract a i]) (by omega) (by omega) (by
     intro b hb
     rw [List.drop_of_length_le (by rw [List.length_take];omega)] at hb
     cases hb) (by simp;omega)
    have e:fieldsG acc ((bytesOf s).drop a)=fieldsG (acc++[s.extract a i]) ((bytesOf s).drop (i+1)):=by
     unfold fieldsG
     rw [hcur,splitI_app _ (ok_no hok),List.all_cons,good_of hok hne,Bool.true_and,ext_cur,List.map_cons]
     simp only [List.append_assoc,List.singleton_append]
    rw [e]
    exact ih
  ·have hb:(bt s (i:Int) != 32)=true:=bne_iff_ne.2 c3
   rw [hb]
   simp only [contangoref03_Fields.j2,if_true,w_succ hi (by omega)]
   exact rfields_loop s hs d (i+1) a acc (by omega) (by omega) (by
    intro b hb2
    rw [cur_succ s a i ha hi] at hb2
    rcases List.mem_append.1 hb2 with h|h
    ·exact hok b h
    ·obtain rfl:=List.mem_singleton.1 h
     rw [ok_iff];omega) (by omega)
theorem rfields_f (s:ByteArray):Ev (fun k=>contangoref03_Fields.f k s) (fieldsS s):=by
 unfold contangoref03_Fields.f fieldsS fieldsE
 rw [by_len]
 by_cases c1:512 < s.size
 ·simp only [if_pos c1,if_pos (show (s.size:Int) > 512 by omega)]
  exact Ev.now _
 simp only [if_neg c1,if_neg (show ¬ (s.size:Int) > 512 by omega)]
 by_cases c2:s.toList=[]
 ·simp only [if_pos c2,if_pos ((by_emp s).1 c2)]
  exact Ev.now _
 simp only [if_neg c2,if_neg (fun h=>c2 ((by_emp s).2 h))]
 have h:=rfields_loop s (by omega) s.size 0 0 [] (by omega) (by omega) (by intro b hb;simp at hb) (by simp)
 rw [List.drop_zero] at h
 unfold fieldsG at h
 by_cases c3:(splitI 32 (bytesOf s)).all goodP=true
 ·rw [if_pos c3] at h ⊢
  exact h
 ·rw [if_neg c3] at h ⊢
  exact h
theorem joinI_snoc:∀ {A:List (List Int)} (x:List Int),A≠[]→joinI (A++[x])=joinI A++32 :: x
 | [],_,h=>absurd rfl h
 | [a],x,_=>rfl
 | a :: b :: r,x,_=>by
  have ih:=joinI_snoc (A:=b :: r) x (by simp)
  show a++32 :: joinI (b :: r++[x])=_
  rw [ih]
  simp [joinI]
theorem sum_take (l:List ByteArray) (i:Nat):sumZ (l.take i)≤sumZ l:=by
 unfold sumZ
 conv=>rhs;rw [← List.take_append_drop i l,List.map_append,List.sum_append]
 omega
theorem joinS_size (l:List ByteArray):(joinS l).size≤sumZ l:=by
 unfold joinS
 rw [strOfNums_size]
 have h1:=join_len (l.map bytesOf)
 have e:(l.map bytesOf).map (fun x=>x.length+1)=l.map fun x=>x.size+1:=by
  rw [List.map_map]
  exact List.map_congr_left fun x _=>by simp [by_len]
 rw [e] at h1
 exact h1
theorem rjoin_loop (l:List ByteArray) (hl:sumZ l≤140737488355328):∀ (d i:Nat),i+d=l.length→Ev (fun k=>contangoref03_Join.l0 k l (joinS (l.take i)) i) (joinS l)
 | 0,i,hd=>by
  refine Ev_succ ?_
  simp only [contangoref03_Join.l0,if_neg (show ¬ (i:Int) < (l.length:Int) by omega)]
  rw [List.take_of_length_le (by omega)]
  exact Ev.now _
 | d+1,i,hd=>by
  have hi:i < l.length:=by omega
  have ih:=rjoin_loop l hl d (i+1) (by omega)
  have hr:rdOf ByteArray.empty l (i:Int)=l[i]:=rdOf_nat _ _ _ hi
  have ht:l.take (i+1)=l.take i++[l[i]]:=(List.take_append_getElem hi).symm
  have z1:=joinS_size (l.take i)
  have z2:=sum_take l (i+1)
  have z3:sumZ (l.take (i+1))=sumZ (l.take i)+(l[i].size+1):=by
   rw [ht]
   unfold sumZ
   rw [List.map_append,List.sum_append]
   simp
  have hlen:l.length≤sumZ l:=by
   unfold sumZ
   clear z1 z2 z3 ht hr ih hi hd hl
   induction l with
   | nil=>simp
   | cons x r ih=>simp only [List.map_cons,List.sum_cons,List.length_cons];omega
  have one:(⟨#[32]⟩:ByteArray).size=1:=rfl
  refine Ev_succ ?_
  by_cases c:i=0
  ·subst c
   have hz:(joinS (l.take 0)).size=0:=by rw [List.take_zero];rfl
   have e:joinS (l.take 1)=joinS (l.take 0)++l[0]:=by
    apply by_inj
    rw [by_app,joinS_by,joinS_by,ht]
    simp [joinI]
   simp only [contangoref03_Join.l0,if_pos (show ((0:Nat):Int) < (l.length:Int) by omega),if_neg (show ¬ ((0:Nat):Int) > 0 by decide),if_pos (show 0≤((0:Nat):Int) by decide),hr,if_pos (show (joinS (l.take 0)).size+l[0].size≤9223372036854775807 by omega),w_succ hi (by omega)]
   rw [← e]
   exact ih
  ·have e:joinS (l.take (i+1))=(joinS (l.take i)++(⟨#[32]⟩:ByteArray))++l[i]:=by
    apply by_inj
    rw [by_app,by_app,joinS_by,joinS_by,ht,List.map_append,List.map_cons,List.map_nil,joinI_snoc _ (by
     intro h
     have:=congrArg List.length h
     rw [List.length_map,List.length_take,List.length_nil] at this
     omega)]
    rw [List.append_assoc]
    rfl
   have z4:(joinS (l.take i)++(⟨#[32]⟩:ByteArray)).size=(joinS (l.take i)).size+1:=by rw [ByteArray.size_append,one]
   simp only [contangoref03_Join.l0,if_pos (show (i:Int) < (l.length:Int) by omega),if_pos (show (i:Int) > 0 by omega),if_pos (show 0≤(i:Int) by omega),if_pos (show (joinS (l.take i)).size+1≤9223372036854775807 by omega),hr,if_pos (show (joinS (l.take i)++(⟨#[32]⟩:ByteArray)).size+l[i].size≤9223372036854775807 by omega),w_succ hi (by omega)]
   rw [← e]
   exact ih
theorem rjoin_f (l:List ByteArray) (hl:sumZ l≤140737488355328):Ev (fun k=>contangoref03_Join.f k l) (joinS l):=by
 unfold contangoref03_Join.f
 have h:=rjoin_loop l hl l.length 0 (by omega)
 exact h
end Go.Proofs.YthpmmofleddpnaaDoor.P
end
section
namespace Go.Proofs.YthpmmofleddpnaaDoor.P
open Go.RowKit Go.Proofs.YthpmmofleddpnaaDoorW.PrintWords Go.Proofs.YthpmmofleddpnaaDoorW.PrintMore Go.Proofs.YthpmmofleddpnaaDoor.X
abbrev Ser:=S23
end Go.Proofs.YthpmmofleddpnaaDoor.P
end
section
namespace Go.Proofs.YthpmmofleddpnaaDoor.P
set_option linter.unusedVariables false
set_option linter.unusedSimpArgs false
open Go.RowKit Go.Proofs.YthpmmofleddpnaaDoorW.PrintWords Go.Proofs.YthpmmofleddpnaaDoorW.PrintMore Go.Proofs.YthpmmofleddpnaaDoor.X
def piecesS (s:ByteArray):List ByteArray:=(splitI 46 (bytesOf s)).map strOfNums
theorem split_pieces (s:ByteArray) (hs:s.size < 4294967281):strings_Split.f s (⟨#[46]⟩:ByteArray)=some (piecesS s):=by
 obtain ⟨l,h1,h2⟩:=split_f s 46 hs
 rw [h1]
 unfold piecesS
 have e:((46:UInt8).toNat:Int)=46:=rfl
 rw [e] at h2
 rw [← h2,map_str]
theorem split_le (c:Int):∀ (L:List Int),∀ q ∈ splitI c L,q.length≤L.length∧∀ x ∈ q,x ∈ L:=by
 intro L
 induction L with
 | nil=>intro q hq;simp [splitI] at hq;subst hq;simp
 | cons x r ih =>
  intro q hq
  unfold splitI at hq
  split at hq
  ·rcases List.mem_cons.1 hq with h|h
   ·subst h;simp
   ·have:=ih q h
    exact ⟨by have:=this.1;simp;omega,fun y hy=>List.mem_cons_of_mem _ (this.2 y hy)⟩
  ·split at hq
   ·rename_i p1 q1 he
    rcases List.mem_cons.1 hq with h|h
    ·subst h
     have:=ih p1 (by rw [he];simp)
     refine ⟨by have:=this.1;simp;omega,fun y hy=>?_⟩
     rcases List.mem_cons.1 hy with e|e
     ·subst e;simp
     ·exact List.mem_cons_of_mem _ (this.2 y e)
    ·have:=ih q (by rw [he];simp [h])
     exact ⟨by have:=this.1;simp;omega,fun y hy=>List.mem_cons_of_mem _ (this.2 y hy)⟩
   ·simp at hq;subst hq;simp
theorem pieces_sz {s:ByteArray} {x:ByteArray} (h:x ∈ piecesS s):x.size≤s.size:=by
 unfold piecesS at h
 obtain ⟨p,hp,rfl⟩:=List.mem_map.1 h
 rw [strOfNums_size,← by_len s]
 exact (split_le 46 _ p hp).1
theorem rpieces_loop (s:ByteArray) (hs:s.size≤4294967280):∀ (d i a:Nat) (acc:List ByteArray),i+d=s.size→a≤i→(46:Int) ∉ ((bytesOf s).take i).drop a→acc.length≤i→Ev (fun k=>contangoref10_Pieces.l0 k s acc a i) (acc++(splitI 46 ((bytesOf s).drop a)).map strOfNums)
 | 0,i,a,acc,hd,ha,hno,hac=>by
  have hcur:=cur_drop s a i ha (by omega)
  rw [by_end s i (by omega),List.append_nil] at hcur
  refine Ev_succ (Ev_succ ?_)
  have w1:wrap64 ((i:Int)+1)=(i:Int)+1:=w_id (by omega) (by omega)
  have n1:¬ (i:Int)+1≤(s.size:Int):=by omega
  simp only [contangoref10_Pieces.l0,if_pos (show (i:Int)≤(s.size:Int) by omega),if_pos (show (i:Int)=(s.size:Int) by omega),if_pos (show 0≤(a:Int) by omega),if_pos (show (a:Int)≤(i:Int) by omega),if_pos (show (a:Int)≤(s.size:Int) by omega),if_pos (show acc.length < 8796093022208 by omega),Int.toNat_natCast,w1,if_neg n1]
  rw [hcur,splitI_none hno,ext_cur]
  have e:i=s.size:=by omega
  subst e
  simp only [Int.toNat_natCast,if_pos (show acc.length < 8796093022208 by omega),w1,if_neg n1,List.map_cons,List.map_nil]
  first|exact Ev.now _|(rw [if_neg n1];exact Ev.now _)
 | d+1,i,a,acc,hd,ha,hno,hac=>by
  have hi:i < s.size:=by omega
  have hcur:=cur_drop s a i ha (by omega)
  rw [by_drop s i hi] at hcur
  refine Ev_succ ?_
  have w1:wrap64 ((i:Int)+1)=((i+1:Nat):Int):=w_succ hi (by omega)
  simp only [contangoref10_Pieces.l0,if_pos (show (i:Int)≤(s.size:Int) by omega),if_neg (show ¬ (i:Int)=(s.size:Int) by omega),if_pos (show 0≤(i:Int) by omega),if_pos (show (i:Int) < (s.size:Int) by omega)]
  by_cases c:bt s (i:Int)=46
  ·simp only [if_pos c,if_pos (show 0≤(a:Int) by omega),if_pos (show (a:Int)≤(i:Int) by omega),if_pos (show acc.length < 8796093022208 by omega),Int.toNat_natCast,w1]
   rw [hcur,c,splitI_app _ hno,ext_cur]
   have ih:=rpieces_loop s hs d (i+1) (i+1) (acc++[strOfNums (((bytesOf s).take i).drop a)]) (by omega) (by omega) (by rw [List.drop_of_length_le (by rw [List.length_take];omega)];simp) (by simp;omega)
   rw [List.append_assoc] at ih
   exact ih
  ·simp only [if_neg c,w1]
   refine rpieces_loop s hs d (i+1) a acc (by omega) (by omega) ?_ (by omega)
   rw [cur_succ s a i ha hi]
   simp only [List.mem_append,List.mem_singleton,not_or]
   exact ⟨hno,fun e=>c e.symm⟩
theorem rpieces_f (s:ByteArray) (hs:s.size≤4294967280):Ev (fun k=>contangoref10_Pieces.f k s) (piecesS s):=by
 have:=rpieces_loop s hs s.size 0 0 [] (by omega) (by omega) (by simp) (by simp)
 unfold contangoref10_Pieces.f piecesS
 simpa using this
theorem numV_cons (n x:Int) (L:List Int):numV n (x :: L)=numV (10*n+(x - 48)) L:=by unfold numV;rw [List.foldl_cons]
theorem sdig_bad (s:ByteArray) (hs:s.size≤4611686018427387904):∀ (d i:Nat) (n:Int),i+d=s.size→((bytesOf s).drop i).all digitB=false→Ev (fun k=>series_digits.l0 k s n s.size i) (0,false)
 | 0,i,n,hd,h=>by rw [by_end s i (by omega)] at h;exact absurd h (by decide)
 | d+1,i,n,hd,h=>by
  have hi:i < s.size:=by omega
  rw [by_drop s i hi,List.all_cons] at h
  have w1:wrap64 ((i:Int)+1)=((i+1:Nat):Int):=w_succ hi (by omega)
  refine Ev_succ ?_
  simp only [series_digits.l0,if_pos (show (i:Int) < (s.size:Int) by omega),if_pos (show 0≤(i:Int) by omega)]
  by_cases c1:bt s (i:Int) < 48
  ·simp only [if_pos c1];exact Ev.now _
  by_cases c2:bt s (i:Int) > 57
  ·simp only [if_neg c1,if_pos c2];exact Ev.now _
  have hb:digitB (bt s (i:Int))=true:=by unfold digitB;simp;omega
  rw [hb,Bool.true_and] at h
  simp only [if_neg c1,if_neg c2,w1]
  exact sdig_bad s hs d (i+1) _ (by omega) h
theorem sdig_ok (s:ByteArray) (hs:s.size≤4611686018427387904) (hall:∀ x ∈ bytesOf s,digitB x=true):∀ (d i:Nat) (n:Int),i+d=s.size→0≤n→numV n ((bytesOf s).drop i)≤1000000000→Ev (fun k=>series_digits.l0 k s n s.size i) (numV n ((bytesOf s).drop i),true)
 | 0,i,n,hd,h0,h1=>by
  refine Ev_succ ?_
  rw [by_end s i (by omega)]
  simp only [series_digits.l0,if_neg (show ¬ (i:Int) < (s.size:Int) by omega)]
  exact Ev.now _
 | d+1,i,n,hd,h0,h1=>by
  have hi:i < s.size:=by omega
  have hr:=by_drop s i hi
  have hm:∀ x ∈ (bytesOf s).drop i,digitB x=true:=fun x hx=>hall x (List.mem_of_mem_drop hx)
  rw [hr] at hm h1 ⊢
  have hb:=dig_rng (hm (bt s (i:Int)) (by simp))
  rw [numV_cons] at h1 ⊢
  have hm2:=numV_mono ((bytesOf s).drop (i+1)) (10*n+(bt s (i:Int) - 48)) (by omega) fun x hx=>hm x (by simp [hx])
  have w1:wrap64 ((i:Int)+1)=((i+1:Nat):Int):=w_succ hi (by omega)
  have w2:wrap64 (wrap64 (10*n)+(bt s (i:Int) - 48) % 256)=10*n+(bt s (i:Int) - 48):=by
   rw [w_id (x:=10*n) (by omega) (by omega),show (bt s (i:Int) - 48) % 256=bt s (i:Int) - 48 by omega]
   exact w_id (by omega) (by omega)
  refine Ev_succ ?_
  simp only [series_digits.l0,if_pos (show (i:Int) < (s.size:Int) by omega),if_pos (show 0≤(i:Int) by omega),if_neg (show ¬ bt s (i:Int) < 48 by omega),if_neg (show ¬ bt s (i:Int) > 57 by omega),w1,w2]
  exact sdig_ok s hs hall d (i+1) _ (by omega) (by omega) h1
theorem rnum_bad (s:ByteArray) (hs:s.size≤4611686018427387904):∀ (d i:Nat) (n:Int),i+d=s.size→((bytesOf s).drop i).all digitB=false→Ev (fun k=>contangoref10_number.l0 k s n i) (-1)
 | 0,i,n,hd,h=>by rw [by_end s i (by omega)] at h;exact absurd h (by decide)
 | d+1,i,n,hd,h=>by
  have hi:i < s.size:=by omega
  rw [by_drop s i hi,List.all_cons] at h
  have w1:wrap64 ((i:Int)+1)=((i+1:Nat):Int):=w_succ hi (by omega)
  refine Ev_succ ?_
  simp only [contangoref10_number.l0,if_pos (show (i:Int) < (s.size:Int) by omega),if_pos (show 0≤(i:Int) by omega)]
  by_cases c1:bt s (i:Int) < 48
  ·simp only [if_pos c1];exact Ev.now _
  by_cases c2:bt s (i:Int) > 57
  ·simp only [if_neg c1,if_pos c2];exact Ev.now _
  have hb:digitB (bt s (i:Int))=true:=by unfold digitB;simp;omega
  rw [hb,Bool.true_and] at h
  simp only [if_neg c1,if_neg c2,w1]
  exact rnum_bad s hs d (i+1) _ (by omega) h
theorem rnum_ok (s:ByteArray) (hs:s.size≤4611686018427387904) (hall:∀ x ∈ bytesOf s,digitB x=true):∀ (d i:Nat) (n:Int),i+d=s.size→0≤n→numV n ((bytesOf s).drop i)≤1000000000→Ev (fun k=>contangoref10_number.l0 k s n i) (numV n ((bytesOf s).drop i))
 | 0,i,n,hd,h0,h1=>by
  refine Ev_succ ?_
  rw [by_end s i (by omega)]
  simp only [contangoref10_number.l0,if_neg (show ¬ (i:Int) < (s.size:Int) by omega)]
  exact Ev.now _
 | d+1,i,n,hd,h0,h1=>by
  have hi:i < s.size:=by omega
  have hr:=by_drop s i hi
  have hm:∀ x ∈ (bytesOf s).drop i,digitB x=true:=fun x hx=>hall x (List.mem_of_mem_drop hx)
  rw [hr] at hm h1 ⊢
  have hb:=dig_rng (hm (bt s (i:Int)) (by simp))
  rw [numV_cons] at h1 ⊢
  have hm2:=numV_mono ((bytesOf s).drop (i+1)) (10*n+(bt s (i:Int) - 48)) (by omega) fun x hx=>hm x (by simp [hx])
  have w1:wrap64 ((i:Int)+1)=((i+1:Nat):Int):=w_succ hi (by omega)
  have w2:wrap64 (wrap64 (wrap64 (10*n)+wrap64 (bt s (i:Int))) - 48)=10*n+(bt s (i:Int) - 48):=by
   rw [w_id (x:=10*n) (by omega) (by omega),w_id (x:=bt s (i:Int)) (by omega) (by omega),w_id (x:=10*n+bt s (i:Int)) (by omega) (by omega),w_id (by omega) (by omega)]
   omega
  refine Ev_succ ?_
  simp only [contangoref10_number.l0,if_pos (show (i:Int) < (s.size:Int) by omega),if_pos (show 0≤(i:Int) by omega),if_neg (show ¬ bt s (i:Int) < 48 by omega),if_neg (show ¬ bt s (i:Int) > 57 by omega),w1,w2]
  exact rnum_ok s hs hall d (i+1) _ (by omega) (by omega) h1
theorem num8 {L:List Int} (h8:L.length=8) (hd:∀ x ∈ L,digitB x=true):0≤numV 0 L∧numV 0 L≤99999999:=by
 rcases L with _|⟨a,_|⟨b,_|⟨c,_|⟨d,_|⟨e,_|⟨f,_|⟨g,_|⟨h,_|⟨i,r⟩⟩⟩⟩⟩⟩⟩⟩⟩
 case cons.cons.cons.cons.cons.cons.cons.cons.nil =>
  have ha:=dig_rng (hd a (by simp));have hb:=dig_rng (hd b (by simp));have hc:=dig_rng (hd c (by simp));have hd':=dig_rng (hd d (by simp))
  have he:=dig_rng (hd e (by simp));have hf:=dig_rng (hd f (by simp));have hg:=dig_rng (hd g (by simp));have hh:=dig_rng (hd h (by simp))
  simp only [numV,List.foldl_cons,List.foldl_nil]
  omega
 all_goals (simp at h8)
theorem sdig_f (s:ByteArray) (h8:s.size=8):Ev (fun k=>series_digits.f k s) (if (bytesOf s).all digitB=true then (numV 0 (bytesOf s),true) else (0,false)):=by
 unfold series_digits.f
 by_cases c:(bytesOf s).all digitB=true
 ·rw [if_pos c]
  have hall:=List.all_eq_true.1 c
  have hb:=num8 (by rw [by_len,h8]) hall
  have:=sdig_ok s (by omega) hall s.size 0 0 (by omega) (by omega) (by rw [List.drop_zero];omega)
  rw [List.drop_zero] at this
  exact this
 ·rw [if_neg c]
  exact sdig_bad s (by omega) s.size 0 0 (by omega) (by rw [List.drop_zero];simpa using c)
theorem rnum_f (s:ByteArray) (h8:s.size=8):Ev (fun k=>contangoref10_number.f k s) (if (bytesOf s).all digitB=true then numV 0 (bytesOf s) else -1):=by
 unfold contangoref10_number.f
 by_cases c:(bytesOf s).all digitB=true
 ·rw [if_pos c]
  have hall:=List.all_eq_true.1 c
  have hb:=num8 (by rw [by_len,h8]) hall
  have:=rnum_ok s (by omega) hall s.size 0 0 (by omega) (by omega) (by rw [List.drop_zero];omega)
  rw [List.drop_zero] at this
  exact this
 ·rw [if_neg c]
  exact rnum_bad s (by omega) s.size 0 0 (by omega) (by rw [List.drop_zero];simpa using c)
theorem one_byte (s:ByteArray) (c:UInt8):s.toList=[c]↔bytesOf s=[(c.toNat:Int)]:=by rw [by_toList];simp
theorem ext_one (s:ByteArray) (c:UInt8):(s.extract 0 1).toList=[c]↔(bytesOf s).head? = some (c.toNat:Int):=by
 rw [one_byte,by_ext,List.drop_zero]
 cases bytesOf s with
 | nil=>simp
 | cons x r=>simp
theorem pre_f (s:ByteArray) (c:UInt8):strings_HasPrefix.f s (⟨#[c]⟩:ByteArray)=some (decide ((bytesOf s).head? = some (c.toNat:Int))):=by
 unfold strings_HasPrefix.f stringslite_HasPrefix.f
 have e1:(⟨#[c]⟩:ByteArray).size=1:=rfl
 have e2:(⟨#[c]⟩:ByteArray).toList=[c]:=by rw [ByteArray.toList_eq]
 rw [e1,e2]
 by_cases h:1≤s.size
 ·rw [if_pos (show (s.size:Int) ≥ ((1:Nat):Int) by omega),if_pos (by omega),if_pos (show ((1:Nat):Int)≤(s.size:Int) by omega)]
  have e3:(((1:Nat):Int)).toNat=1:=rfl
  simp only [e3,Option.bind_some]
  congr 1
  rw [Bool.eq_iff_iff,beq_iff_eq,ext_one,decide_eq_true_iff]
 ·rw [if_neg (show ¬ (s.size:Int) ≥ ((1:Nat):Int) by omega)]
  have:bytesOf s=[]:=List.length_eq_zero_iff.1 (by rw [by_len];omega)
  rw [this]
  rfl
def kindI (C:List Int):Int:=if C=[102] then 1 else if C.head? = some 99 then 2 else if C.head? = some 112 then 3 else 0
theorem what_f (s:ByteArray):series_what.f s=some (if kindI (bytesOf s)=1 then (1,(⟨#[]⟩:ByteArray),true) else if kindI (bytesOf s)=0 then (0,(⟨#[]⟩:ByteArray),false) else (kindI (bytesOf s),s.extract 1 s.size,true)):=by
 unfold series_what.f kindI
 have hs:∀ c:Int,(bytesOf s).head? = some c→1≤(s.size:Int):=by
  intro c hc
  have:bytesOf s≠[]:=fun e=>by rw [e] at hc;cases hc
  have:=List.length_pos_iff.2 this
  rw [by_len] at this
  omega
 by_cases c1:s.toList=[102]
 ·have c1':bytesOf s=[102]:=(one_byte s 102).1 c1
  rw [if_pos c1,if_pos c1',if_pos rfl]
 ·have c1':¬ bytesOf s=[102]:=fun e=>c1 ((one_byte s 102).2 e)
  rw [if_neg c1,if_neg c1',pre_f]
  simp only [Option.bind_some]
  have e99:((99:UInt8).toNat:Int)=99:=rfl
  have e112:((112:UInt8).toNat:Int)=112:=rfl
  rw [e99]
  by_cases c2:(bytesOf s).head? = some 99
  ·rw [if_pos c2,if_pos (decide_eq_true c2),if_pos (hs _ c2)]
   rfl
  ·rw [if_neg c2,if_neg (by simpa using c2),pre_f,e112]
   simp only [Option.bind_some]
   by_cases c3:(bytesOf s).head? = some 112
   ·rw [if_pos c3,if_pos (decide_eq_true c3),if_pos (hs _ c3)]
    rfl
   ·rw [if_neg c3,if_neg (by simpa using c3)]
    rfl
def zS:Ser:=⟨(⟨#[]⟩:ByteArray),0,0,0⟩
def tS (q:Ser × Int):ByteArray × Int × Int × Int × Int:=(q.1.f0,q.1.f1,q.1.f2,q.1.f3,q.2)
def dayOf (n:Int):Int × Int:=ofV (n / 10000) (n / 100 % 100) (n % 100)
def okForm (a b c:ByteArray):Prop:=nameB a=true∧b.size=8∧(bytesOf b).all digitB=true∧kindI (bytesOf c)≠0
instance (a b c:ByteArray):Decidable (okForm a b c):=inferInstanceAs (Decidable (_∧_∧_∧_))
def parse3 (a b c:ByteArray):Ser × Int :=
 if okForm a b c then
  (if (dayOf (numV 0 (bytesOf b))).2=0 then
   (if kindI (bytesOf c)=1 then (⟨a,1,(dayOf (numV 0 (bytesOf b))).1,0⟩,0) else
    (if (intL (bytesOf c).tail).2=0 then (if (intL (bytesOf c).tail).1 < -16777216∨(intL (bytesOf c).tail).1 > 16777216 then (zS,17) else (⟨a,kindI (bytesOf c),(dayOf (numV 0 (bytesOf b))).1,(intL (bytesOf c).tail).1⟩,0)) else (zS,(intL (bytesOf c).tail).2)))
  else (zS,15))
 else (zS,5)
def parseL (l:List ByteArray):Ser × Int:=if l.length=3 then parse3 (rdOf ByteArray.empty l 0) (rdOf ByteArray.empty l 1) (rdOf ByteArray.empty l 2) else (zS,5)
def parseS (s:ByteArray):Ser × Int:=parseL (piecesS s)
theorem tail_ext (s:ByteArray):bytesOf (s.extract 1 s.size)=(bytesOf s).tail:=by rw [by_ext,← by_len,List.take_length,List.drop_one]
theorem sparse_j1 (l:List ByteArray) (hl:l.length=3) (hz:∀ x ∈ l,x.size≤4611686018427387904) (hf:okForm (rdOf ByteArray.empty l 0) (rdOf ByteArray.empty l 1) (rdOf ByteArray.empty l 2)) (x8:ByteArray) (h8:kindI (bytesOf (rdOf ByteArray.empty l 2))≠1→x8=(rdOf ByteArray.empty l 2).extract 1 (rdOf ByteArray.empty l 2).size) :
  Ev (fun k=>series_Parse.j1 k l (numV 0 (bytesOf (rdOf ByteArray.empty l 1))) (kindI (bytesOf (rdOf ByteArray.empty l 2))) x8 false (⟨#[]⟩:ByteArray) 0 0 0) (tS (parse3 (rdOf ByteArray.empty l 0) (rdOf ByteArray.empty l 1) (rdOf ByteArray.empty l 2))):=by
 have hz2:(rdOf ByteArray.empty l 2).size≤4611686018427387904:=by
  have e:rdOf ByteArray.empty l 2=l[2]'(by omega):=rdOf_nat _ _ 2 _
  rw [e];exact hz _ (List.getElem_mem _)
 generalize rdOf ByteArray.empty l 2=c at *
 generalize rdOf ByteArray.empty l 1=b at *
 obtain ⟨f1,f2,f3,f4⟩:=hf
 have hn:=num8 (by rw [by_len,f2]) (List.all_eq_true.1 f3)
 have hok:okForm (rdOf ByteArray.empty l 0) b c:=⟨f1,f2,f3,f4⟩
 refine Ev_succ ?_
 unfold parse3
 rw [if_pos hok]
 generalize numV 0 (bytesOf b)=n at *
 have q1:wrap64 (Int.tdiv n 10000)=n / 10000:=by rw [Int.tdiv_eq_ediv_of_nonneg (by omega)];exact w_id (by omega) (by omega)
 have q2:wrap64 (Int.tdiv n 100)=n / 100:=by rw [Int.tdiv_eq_ediv_of_nonneg (by omega)];exact w_id (by omega) (by omega)
 have q3:Int.tmod (n / 100) 100=n / 100 % 100:=Int.tmod_eq_emod_of_nonneg (by omega)
 have q4:Int.tmod n 100=n % 100:=Int.tmod_eq_emod_of_nonneg (by omega)
 have qd:date_Of.f (n / 10000) (n / 100 % 100) (n % 100)=some (dayOf n):=rfl
 simp only [series_Parse.j1,Bool.false_eq_true,if_false,q1,q2,q3,q4,qd,Option.bind_some]
 by_cases c1:(dayOf n).2=0
 case neg=>simp only [if_neg c1];exact Ev.now _
 simp only [if_pos c1]
 have hl0:(0:Int) < (l.length:Int):=by omega
 by_cases c2:kindI (bytesOf c)=1
 ·simp only [if_pos c2,if_pos hl0]
  rw [c2]
  exact Ev.now _
 ·simp only [if_neg c2,h8 c2]
  have hi:=int_f (c.extract 1 c.size) (by rw [ByteArray.size_extract];omega)
  rw [tail_ext] at hi
  refine Ev_bind hi ?_
  by_cases c3:(intL (bytesOf c).tail).2=0
  case neg=>simp only [if_neg c3];exact Ev.now _
  simp only [if_pos c3]
  by_cases c4:(intL (bytesOf c).tail).1 < -16777216
  ·simp only [if_pos c4,if_pos (Or.inl c4:(intL (bytesOf c).tail).1 < -16777216∨(intL (bytesOf c).tail).1 > 16777216)];exact Ev.now _
  by_cases c5:(intL (bytesOf c).tail).1 > 16777216
  ·simp only [if_neg c4,if_pos c5,if_pos (Or.inr c5:(intL (bytesOf c).tail).1 < -16777216∨(intL (bytesOf c).tail).1 > 16777216)];exact Ev.now _
  have c6:¬ ((intL (bytesOf c).tail).1 < -16777216∨(intL (bytesOf c).tail).1 > 16777216):=by omega
  simp only [if_neg c4,if_neg c5,if_neg c6,if_pos hl0]
  exact Ev.now _
theorem parse_f10 (s:ByteArray) (hs:s.size≤4294967280):Ev (fun k=>series_Parse.f k s) (tS (parseS s)):=by
 unfold series_Parse.f parseS
 rw [split_pieces s (by omega)]
 have hz:∀ x ∈ piecesS s,x.size≤4611686018427387904:=fun x hx=>by have:=pieces_sz hx;omega
 generalize piecesS s=l at *
 simp only [Option.bind_some]
 have bad:Ev (fun k=>series_Parse.j0 k l true (⟨#[]⟩:ByteArray) 0 0 0) (tS (zS,5)):=Ev_succ (by simp only [series_Parse.j0,if_true];exact Ev.now _)
 unfold parseL
 by_cases c0:l.length=3
 case neg =>
  rw [if_neg c0]
  simp only [if_neg (show ¬ (l.length:Int)=3 by omega)]
  exact bad
 rw [if_pos c0]
 simp only [if_pos (show (l.length:Int)=3 by omega),if_pos (show (0:Int) < (l.length:Int) by omega)]
 refine Ev_bind (name_f (rdOf ByteArray.empty l 0)) ?_
 have no:¬ okForm (rdOf ByteArray.empty l 0) (rdOf ByteArray.empty l 1) (rdOf ByteArray.empty l 2)→parse3 (rdOf ByteArray.empty l 0) (rdOf ByteArray.empty l 1) (rdOf ByteArray.empty l 2)=(zS,5):=fun h=>by unfold parse3;rw [if_neg h]
 by_cases c1:nameB (rdOf ByteArray.empty l 0)=true
 case neg=>simp only [if_neg c1];rw [no fun h=>c1 h.1];exact bad
 simp only [if_pos c1,if_pos (show (1:Int) < (l.length:Int) by omega)]
 by_cases c2:(rdOf ByteArray.empty l 1).size=8
 case neg =>
  have e:(((rdOf ByteArray.empty l 1).size:Int) != 8)=true:=by rw [bne_iff_ne];omega
  rw [no fun h=>c2 h.2.1]
  simp only [e]
  exact bad
 have e:(((rdOf ByteArray.empty l 1).size:Int) != 8)=false:=by rw [bne_eq_false_iff_eq];omega
 simp only [e]
 refine Ev_succ ?_
 simp only [series_Parse.j0,Bool.false_eq_true,if_false,if_pos (show (1:Int) < (l.length:Int) by omega),if_pos (show (2:Int) < (l.length:Int) by omega)]
 refine Ev_bind (sdig_f _ c2) ?_
 rw [what_f]
 simp only [Option.bind_some]
 have bad1:∀ n b q,Ev (fun k=>series_Parse.j1 k l n b q true (⟨#[]⟩:ByteArray) 0 0 0) (tS (zS,5)):=fun n b q=>Ev_succ (by simp only [series_Parse.j1,if_true];exact Ev.now _)
 by_cases c3:(bytesOf (rdOf ByteArray.empty l 1)).all digitB=true
 case neg =>
  rw [no fun h=>c3 h.2.2.1]
  simp only [if_neg c3,Bool.false_eq_true,if_false]
  exact bad1 _ _ _
 simp only [if_pos c3,if_true]
 by_cases c4:kindI (bytesOf (rdOf ByteArray.empty l 2))=0
 ·rw [no fun h=>h.2.2.2 c4]
  have c5:¬ kindI (bytesOf (rdOf ByteArray.empty l 2))=1:=by omega
  simp only [if_neg c5,if_pos c4,Bool.not_false]
  exact bad1 _ _ _
 ·have hf:okForm (rdOf ByteArray.empty l 0) (rdOf ByteArray.empty l 1) (rdOf ByteArray.empty l 2):=⟨c1,c2,c3,c4⟩
  by_cases c5:kindI (bytesOf (rdOf ByteArray.empty l 2))=1
  ·simp only [if_pos c5,Bool.not_true]
   have:=sparse_j1 l c0 hz hf (⟨#[]⟩:ByteArray) (fun h=>absurd c5 h)
   rw [c5] at this
   exact this
  ·simp only [if_neg c5,if_neg c4,Bool.not_true]
   exact sparse_j1 l c0 hz hf _ (fun _=>rfl)
end Go.Proofs.YthpmmofleddpnaaDoor.P
end
